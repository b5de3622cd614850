/- The program, and tables of its functions' live temporaries (written by a program). -/
import Derived.Test.YtbockfpeohfphaaGreatGb
import Derived.Test.YtbockfpeohfphaaGreatChecked
import Derived.WalkKit
import Derived.OwnWalk
import Derived.Lib.Builder
import Derived.Lib.UnsafeStr
import Derived.Lib.Walk
import Derived.Laws.Externs
import Derived.Shelf.RegionOpenPlain
import Derived.WalkSmall
import Derived.WalkLawsBesides
import Derived.Defers
import Derived.Recover
import Derived.Below
import Derived.Laws.IdiomStrings
import Derived.Laws.Bits64
import Derived.Laws.Bits64b
import Derived.Lib.Hide
import Derived.Laws.AppendOwn
import Derived.Maps.AppendAt

set_option linter.unusedVariables false
set_option maxRecDepth 100000
namespace Go.Am
noncomputable abbrev PP:Program:=Go.Proofs.Tryz.prog
abbrev fG:FuncId:=3
abbrev pS:FuncId:=6
abbrev DH:FuncId:=7
abbrev nV:FuncId:=8
abbrev pC:FuncId:=9
abbrev DM:FuncId:=10
abbrev DG:FuncId:=11
abbrev vK:FuncId:=12
abbrev AC:FuncId:=13
abbrev mI:FuncId:=14
abbrev kD:FuncId:=15
abbrev oD:FuncId:=16
abbrev bR:FuncId:=18
abbrev qB:FuncId:=19
abbrev mG:FuncId:=20
abbrev mD:FuncId:=21
abbrev fN:FuncId:=22
abbrev gU:FuncId:=23
abbrev dN:FuncId:=24
abbrev fZ:FuncId:=25
abbrev nU:FuncId:=26
abbrev lR:FuncId:=27
abbrev jD:FuncId:=28
abbrev wQ:FuncId:=29
abbrev jJ:FuncId:=30
abbrev JT:FuncId:=31
abbrev uZ:FuncId:=32
abbrev GM:FuncId:=33
abbrev aI:FuncId:=34
abbrev lB:FuncId:=35
abbrev rG:FuncId:=36
abbrev lC:FuncId:=37
abbrev jI:FuncId:=38
abbrev fA:FuncId:=39
abbrev dH:FuncId:=40
abbrev dO:FuncId:=41
abbrev cP:FuncId:=42
abbrev iR:FuncId:=43
abbrev pG:FuncId:=44
abbrev pN:FuncId:=45
abbrev AB:FuncId:=46
abbrev vF:FuncId:=47
abbrev nO:FuncId:=48
abbrev vG:FuncId:=49
abbrev vB:FuncId:=50
abbrev oB:FuncId:=51
abbrev KE:FuncId:=52
abbrev eL:FuncId:=53
abbrev vH:FuncId:=54
abbrev CN:FuncId:=55
abbrev nS:FuncId:=56
abbrev AD:FuncId:=57
abbrev eF:FuncId:=58
abbrev fM:FuncId:=59
abbrev lX:FuncId:=60
abbrev CH:FuncId:=61
abbrev eP:FuncId:=62
abbrev lY:FuncId:=63
abbrev dQ:FuncId:=64
abbrev iG:FuncId:=65
abbrev fC:FuncId:=66
abbrev oJ:FuncId:=67
abbrev eZ:FuncId:=68
abbrev iF:FuncId:=69
abbrev EK:FuncId:=70
abbrev mX:FuncId:=71
abbrev tO:FuncId:=73
abbrev cU:FuncId:=74
abbrev qE:FuncId:=75
abbrev iK:FuncId:=76
abbrev mH:FuncId:=77
abbrev iQ:FuncId:=78
abbrev nD:FuncId:=79
abbrev kL:FuncId:=80
abbrev eQ:FuncId:=81
abbrev GH:FuncId:=82
abbrev GI:FuncId:=83
abbrev AA:FuncId:=84
abbrev pR:FuncId:=85
abbrev GL:FuncId:=86
abbrev CM:FuncId:=87
abbrev xD:FuncId:=88
abbrev eU:FuncId:=89
abbrev oI:FuncId:=90
abbrev eK:FuncId:=91
abbrev oG:FuncId:=92
abbrev eE:FuncId:=93
abbrev lZ:FuncId:=94
abbrev dX:FuncId:=96
abbrev rZ:FuncId:=97
abbrev tN:FuncId:=98
abbrev rY:FuncId:=99
abbrev zZ:FuncId:=100
abbrev xF:FuncId:=101
abbrev lQ:FuncId:=102
abbrev sH:FuncId:=103
abbrev eT:FuncId:=104
abbrev oH:FuncId:=105
abbrev xH:FuncId:=123
abbrev tA:FuncId:=124
abbrev yU:FuncId:=125
abbrev kF:FuncId:=126
abbrev tC:FuncId:=127
abbrev tB:FuncId:=128
abbrev wU:FuncId:=129
abbrev bW:FuncId:=130
abbrev KO:FuncId:=131
abbrev jV:FuncId:=132
abbrev GP:FuncId:=133
abbrev CX:FuncId:=134
abbrev KP:FuncId:=135
abbrev qF:FuncId:=136
abbrev wT:FuncId:=137
abbrev xC:FuncId:=142
abbrev sX:FuncId:=143
abbrev yR:FuncId:=144
abbrev pZ:FuncId:=145
abbrev sZ:FuncId:=146
abbrev sY:FuncId:=147
abbrev wO:FuncId:=148
abbrev mW:FuncId:=149
abbrev tI:FuncId:=150
abbrev uW:FuncId:=151
abbrev tK:FuncId:=152
abbrev tJ:FuncId:=153
abbrev rO:FuncId:=154
abbrev WJ:FuncId:=155
abbrev TJ:FuncId:=158
abbrev xW:FuncId:=159
abbrev NY:FuncId:=160
abbrev yX:FuncId:=161
abbrev FJ:FuncId:=162
abbrev KV:FuncId:=163
abbrev NZ:FuncId:=165
abbrev xX:FuncId:=166
noncomputable def dD:FuncId->sD:=aET [(3,⟨dU [(25,[1,2,5,7,12,18,19],[1,2,5,7,12,18],[]),(22,[1,2,5,7,12,18],[1,2,5,7],[]),(18,[1,2,5,7,12,17],[1,2,5,7,12],[]),(14,[1,2,5,7,12,16],[1,2,5,7,12],[]),(5,[1,2,5,7],[2,5],[4])],dV []⟩),
 (4,⟨dU [],dV [(10,[1])]⟩),
 (6,⟨dU [(13,[1,3,7],[3],[]),(9,[1,3,5,6],[1,3],[]),(3,[1,3,4],[1,3],[])],dV []⟩),
 (8,⟨dU [(12,[1,4,5],[1,4],[])],dV []⟩),
 (9,⟨dU [(3,[1,2,3,4],[2,3],[])],dV []⟩),
 (12,⟨dU [(13,[2,4,5,6,7,8],[2,4,5,6],[])],dV []⟩),
 (13,⟨dU [(4,[2,3,5],[],[4])],dV []⟩),
 (14,⟨dU [(3,[0,3,4],[3],[])],dV []⟩),
 (15,⟨dU [(7,[0,3,4,5],[0,3,4],[]),(3,[0,3,4],[3],[])],dV []⟩),
 (16,⟨dU [(3,[0,3,4],[3],[])],dV []⟩),
 (18,⟨dU [(1,[0,1,4],[],[])],dV []⟩),
 (20,⟨dU [(21,[0,3,7],[0,3],[]),(12,[0,3,4,5],[0,3],[])],dV []⟩),
 (21,⟨dU [(2,[0,1,4],[],[])],dV []⟩),
 (22,⟨dU [(1,[0,1,4],[],[])],dV [(2,[0,1,4])]⟩),
 (23,⟨dU [(8,[0,1,4,5,6],[0,1,4,5],[]),(2,[0,1,4],[],[])],dV []⟩),
 (26,⟨dU [(2,[0,1,4],[],[])],dV []⟩),
 (27,⟨dU [(9,[1,2,4,6],[2,4],[]),(5,[1,2,3,4,5],[1,2,4],[])],dV []⟩),
 (28,⟨dU [(11,[0,3,4,5,7],[0,3,4,5],[]),(7,[0,3,4,5,6],[0,3,4,5],[]),(3,[0,3,4],[3],[])],dV []⟩),
 (35,⟨dU [(4,[1,3,4,5],[3],[])],dV []⟩),
 (36,⟨dU [(8,[1,2,3,4,5,6],[1,2,3,4],[])],dV []⟩),
 (37,⟨dU [(4,[1,3,4,5],[3],[])],dV []⟩),
 (39,⟨dU [(11,[1,3,4,5,6,7,8,9],[1,3,4,5,6,7],[]),(4,[1,3,4,5],[3],[])],dV []⟩),
 (43,⟨dU [(4,[1,3,4,5],[3],[])],dV []⟩),
 (45,⟨dU [(4,[0,1,5],[],[4])],dV []⟩),
 (46,⟨dU [(4,[2,3,5],[],[4])],dV []⟩),
 (47,⟨dU [(4,[0,1,5],[],[4])],dV []⟩),
 (48,⟨dU [(4,[0,1,5],[],[4])],dV []⟩),
 (49,⟨dU [(4,[0,1,5],[],[4])],dV []⟩),
 (50,⟨dU [(4,[0,1,5],[],[4])],dV []⟩),
 (51,⟨dU [(3,[0,3,4],[3],[])],dV []⟩),
 (53,⟨dU [(1,[0,1,4],[],[])],dV []⟩),
 (56,⟨dU [(2,[0,1,4],[],[])],dV []⟩),
 (57,⟨dU [(5,[1,6,7],[6],[])],dV []⟩),
 (58,⟨dU [(1,[0,7,8,9],[],[])],dV []⟩),
 (59,⟨dU [(2,[0,1,2,6,7],[],[])],dV [(7,[0,1,2,6,7])]⟩),
 (62,⟨dU [(2,[0,1,2,6,7],[],[])],dV [(7,[0,1,2,6,7])]⟩),
 (64,⟨dU [(2,[0,1,2,6,7],[],[])],dV [(7,[0,1,2,6,7])]⟩),
 (66,⟨dU [(2,[0,1,2,6,7],[],[])],dV [(7,[0,1,2,6,7])]⟩),
 (68,⟨dU [(2,[0,1,2,6,7],[],[])],dV [(7,[0,1,2,6,7])]⟩),
 (75,⟨dU [(17,[1,2,3,4,5],[2,3],[])],dV []⟩),
 (78,⟨dU [(4,[1,3,4,5],[3],[])],dV []⟩),
 (79,⟨dU [(8,[0,4,6,7],[6],[2,3])],dV []⟩),
 (84,⟨dU [(4,[2,3,5],[],[4])],dV []⟩),
 (85,⟨dU [(3,[0,3,4],[3],[])],dV []⟩),
 (89,⟨dU [(2,[0,1,2,6,7],[],[])],dV [(7,[0,1,2,6,7])]⟩),
 (91,⟨dU [(2,[0,1,2,6,7],[],[])],dV [(7,[0,1,2,6,7])]⟩),
 (93,⟨dU [(2,[0,1,2,6,7],[],[])],dV [(7,[0,1,2,6,7])]⟩),
 (96,⟨dU [(7,[0,1,6,7],[0,1,6],[])],dV []⟩),
 (100,⟨dU [(4,[0,1,5],[],[4])],dV []⟩),
 (101,⟨dU [(4,[0,1,5],[],[4])],dV []⟩),
 (102,⟨dU [(4,[0,1,5],[],[4])],dV []⟩),
 (103,⟨dU [(4,[0,1,5],[],[4])],dV []⟩),
 (104,⟨dU [(2,[0,1,2,6,7],[],[])],dV [(7,[0,1,2,6,7])]⟩),
 (132,⟨dU [],dV [(2,[0,1])]⟩),
 (134,⟨dU [(6,[6,19,20,21],[6],[])],dV []⟩),
 (137,⟨dU [(3,[1,2,7],[7],[])],dV []⟩),
 (157,⟨dU [(3,[5,11,12,13],[5],[])],dV []⟩),
 (163,⟨dU [(4,[0,2,15,16],[2],[])],dV []⟩)]
noncomputable def MW (x:EV) (a0:Value) (Sz:St) (K:VK):Bool:=
 iP 34 a0 Sz fun v0 Sz=>
 dK [(.pointer none),zL,zI] [] fun v1=>
 iP 96 v1 Sz fun v2 Sz=>
 x.C wQ [(.iface 90 v2),v0] Sz fun v3 Sz=>
 bI PP v2 fun v4=>
 aC 2 v4 fun v5=>
 aN v5 Sz fun v6 Sz=>
 aK PP .neq 37 v6 zI fun v7=>
 gD v7 (bI PP v2 fun v8=>
 aC 2 v8 fun v9=>
 aN v9 Sz fun v10 Sz=>
 K (.tuple ⟨[zS,v10]⟩) Sz) (bI PP v2 fun v11=>
 aC 0 v11 fun v12=>
 x.C jJ [v12] Sz fun v13 Sz=>
 K (.tuple ⟨[v13,zI]⟩) Sz)
theorem Cb (x:EV) (a0:Value) (Sz:St) (K:VK):hZ PP dD DM (x.E PP) [a0] Sz K=MW x a0 Sz K:=by kernel_rfl
noncomputable def NM (x:EV) (a0 a1:Value) (Sz:St) (K:VK):Bool:=
 bI PP a1 fun v0=>
 aC 0 v0 fun v1=>
 aM 146 1 [(.pointer none)] [(0,1,v1)] Sz fun v2 Sz=>
 x.C eF [a0,v2] Sz fun v3 Sz=>
 bI PP a1 fun v4=>
 aC 1 v4 fun v5=>
 x.C fM [a0,v5,(.func (.func lX) #[] #[])] Sz fun v6 Sz=>
 bI PP a1 fun v7=>
 aC 2 v7 fun v8=>
 x.C CH [a0,v8] Sz fun v9 Sz=>
 bI PP a1 fun v10=>
 aC 22 v10 fun v11=>
 x.C fM [a0,v11,(.func (.func lX) #[] #[])] Sz fun v12 Sz=>
 bI PP a1 fun v13=>
 aC 23 v13 fun v14=>
 x.C eP [a0,v14,(.func (.func lY) #[] #[])] Sz fun v15 Sz=>
 bI PP a1 fun v16=>
 aC 24 v16 fun v17=>
 x.C eP [a0,v17,(.func (.func lY) #[] #[])] Sz fun v18 Sz=>
 bI PP a1 fun v19=>
 aC 25 v19 fun v20=>
 bI PP (.func (.method "consistory/save.is") ⟨[a0]⟩ ⟨[]⟩) fun v21=>
 vN PP x.C a0 "consistory/save.is" [v20] Sz fun v22 Sz=>
 bI PP a1 fun v23=>
 aC 26 v23 fun v24=>
 x.C dQ [a0,v24,(.func (.func iG) #[] #[])] Sz fun v25 Sz=>
 bI PP a1 fun v26=>
 aC 27 v26 fun v27=>
 x.C fC [a0,v27,(.func (.func oJ) #[] #[])] Sz fun v28 Sz=>
 bI PP a1 fun v29=>
 aC 28 v29 fun v30=>
 x.C eZ [a0,v30,(.func (.func iF) #[] #[])] Sz fun v31 Sz=>
 bI PP a1 fun v32=>
 aC 29 v32 fun v33=>
 x.C dQ [a0,v33,(.func (.func iG) #[] #[])] Sz fun v34 Sz=>
 K (.tuple ⟨[]⟩) Sz
theorem ZG (x:EV) (a0 a1:Value) (Sz:St) (K:VK):hZ PP dD wQ (x.E PP) [a0,a1] Sz K=NM x a0 a1 Sz K:=by kernel_rfl
noncomputable def pK (x:EV) (m:Nat) (t0 t7 t8 t9:Value) (Sz:St) (K:VK):Bool:=gJ PP dD eF (x.E PP) [.r,.d] m [] [t0,t7,t8,t9] Sz K
noncomputable def GD (x:EV) (a0 a1:Value) (Sz:St) (K:VK):Bool:=
 bO a1 fun v0=>
 pK x x.most a0 a1 v0 zI Sz K
theorem PQ (x:EV) (a0 a1:Value) (Sz:St) (K:VK):hZ PP dD eF (x.E PP) [a0,a1] Sz K=GD x a0 a1 Sz K:=by kernel_rfl
noncomputable def nM (x:EV) (m0:Nat) (t0 t7 t8 t9:Value) (Sz:St) (K:VK):Bool:=
 aK PP .lss 3 t9 t8 fun v0=>
 gD v0 (dC 1 t7 t9 fun v1=>
 aN v1 Sz fun v2 Sz=>
 bI PP v2 fun v3=>
 aN v3 Sz fun v4 Sz=>
 AW .u64 v4 fun v5=>
 cC [(.int .u64 (.ofNat 0))] 57 Sz fun v6 Sz=>
 cQ 1 v6 v5 Sz fun Sz=>
 vN PP x.C t0 "consistory/save.number" [v6] Sz fun v7 Sz=>
 aN v6 Sz fun v8 Sz=>
 AW .i64 v8 fun v9=>
 bI PP v2 fun v10=>
 cQ 1 v10 v9 Sz fun Sz=>
 aK PP .add 3 t9 (.int .i64 (.ofNat 1)) fun v11=>
 pK x m0 t0 t7 t8 v11 Sz K) (K (.tuple ⟨[]⟩) Sz)
theorem rD (x:EV) (m0:Nat) (t0 t7 t8 t9:Value) (Sz:St) (K:VK):pK x (m0+1) t0 t7 t8 t9 Sz K=nM x m0 t0 t7 t8 t9 Sz K:=by kernel_rfl
noncomputable def JR (x:EV) (a0 a1:Value) (Sz:St) (K:VK):Bool:=
 bI PP a1 fun v0=>
 aC 0 v0 fun v1=>
 aM 146 1 [(.pointer none)] [(0,1,v1)] Sz fun v2 Sz=>
 x.C eF [a0,v2] Sz fun v3 Sz=>
 bI PP a1 fun v4=>
 aC 1 v4 fun v5=>
 bI PP (.func (.method "consistory/save.text") ⟨[a0]⟩ ⟨[]⟩) fun v6=>
 vN PP x.C a0 "consistory/save.text" [v5] Sz fun v7 Sz=>
 bI PP a1 fun v8=>
 aC 2 v8 fun v9=>
 bI PP (.func (.method "consistory/save.is") ⟨[a0]⟩ ⟨[]⟩) fun v10=>
 vN PP x.C a0 "consistory/save.is" [v9] Sz fun v11 Sz=>
 bI PP a1 fun v12=>
 aC 3 v12 fun v13=>
 x.C xD [a0,v13] Sz fun v14 Sz=>
 bI PP a1 fun v15=>
 aC 18 v15 fun v16=>
 x.C eU [a0,v16,(.func (.func oI) #[] #[])] Sz fun v17 Sz=>
 bI PP a1 fun v18=>
 aC 19 v18 fun v19=>
 x.C eZ [a0,v19,(.func (.func iF) #[] #[])] Sz fun v20 Sz=>
 K (.tuple ⟨[]⟩) Sz
theorem UM (x:EV) (a0 a1:Value) (Sz:St) (K:VK):hZ PP dD CH (x.E PP) [a0,a1] Sz K=JR x a0 a1 Sz K:=by kernel_rfl
noncomputable def JG (x:EV) (a0 a1:Value) (Sz:St) (K:VK):Bool:=
 vN PP x.C a0 "consistory/save.text" [a1] Sz fun v0 Sz=>
 K (.tuple ⟨[]⟩) Sz
theorem UE (x:EV) (a0 a1:Value) (Sz:St) (K:VK):hZ PP dD lX (x.E PP) [a0,a1] Sz K=JG x a0 a1 Sz K:=by kernel_rfl
noncomputable def GR (x:EV) (m:Nat) (t0 t1 t2 t6 t7:Value) (Sz:St) (K:VK):Bool:=gJ PP dD fM (x.E PP) [.r,.r,.d] m [] [t0,t1,t2,t6,t7] Sz K
noncomputable def AH (x:EV) (m0:Nat) (t0 t1 t2 t6 t7:Value) (Sz:St) (K:VK):Bool:=RZ PP dD fM (x.E PP) [.r,.r,.d,.d,.r,.l,.d,.r] [m0] [t0,t1,t2,t6,t7] Sz K
noncomputable def DN (x:EV) (m:Nat) (t0 t1 t2 t6 t7:Value) (Sz:St) (K:VK):Bool:=gJ PP dD eP (x.E PP) [.r,.r,.d] m [] [t0,t1,t2,t6,t7] Sz K
noncomputable def yM (x:EV) (m0:Nat) (t0 t1 t2 t6 t7:Value) (Sz:St) (K:VK):Bool:=RZ PP dD eP (x.E PP) [.r,.r,.d,.d,.r,.l,.d,.r] [m0] [t0,t1,t2,t6,t7] Sz K
noncomputable def JI (x:EV) (a0 a1:Value) (Sz:St) (K:VK):Bool:=
 bI PP a1 fun v0=>
 aC 0 v0 fun v1=>
 bI PP (.func (.method "consistory/save.number") ⟨[a0]⟩ ⟨[]⟩) fun v2=>
 vN PP x.C a0 "consistory/save.number" [v1] Sz fun v3 Sz=>
 bI PP a1 fun v4=>
 aC 1 v4 fun v5=>
 bI PP (.func (.method "consistory/save.number") ⟨[a0]⟩ ⟨[]⟩) fun v6=>
 vN PP x.C a0 "consistory/save.number" [v5] Sz fun v7 Sz=>
 K (.tuple ⟨[]⟩) Sz
theorem UG (x:EV) (a0 a1:Value) (Sz:St) (K:VK):hZ PP dD lY (x.E PP) [a0,a1] Sz K=JI x a0 a1 Sz K:=by kernel_rfl
noncomputable def BQ (x:EV) (m:Nat) (t0 t1 t2 t6 t7:Value) (Sz:St) (K:VK):Bool:=gJ PP dD dQ (x.E PP) [.r,.r,.d] m [] [t0,t1,t2,t6,t7] Sz K
noncomputable def vR (x:EV) (m0:Nat) (t0 t1 t2 t6 t7:Value) (Sz:St) (K:VK):Bool:=RZ PP dD dQ (x.E PP) [.r,.r,.d,.d,.r,.l,.d,.r] [m0] [t0,t1,t2,t6,t7] Sz K
noncomputable def BF (x:EV) (a0 a1:Value) (Sz:St) (K:VK):Bool:=
 bI PP a1 fun v0=>
 aC 0 v0 fun v1=>
 bI PP a1 fun v2=>
 aC 1 v2 fun v3=>
 cR (aM 146 2 [(.pointer none)] [(0,1,v1),(1,1,v3)] Sz fun v4 Sz=>
 true) (aM 146 2 [(.pointer none)] [(0,1,v1),(1,1,v3)] Sz fun v5 Sz=>
 x.C eF [a0,v5] Sz fun v6 Sz=>
 bI PP a1 fun v7=>
 aC 2 v7 fun v8=>
 x.C eK [a0,v8,(.func (.func oG) #[] #[])] Sz fun v9 Sz=>
 bI PP a1 fun v10=>
 aC 3 v10 fun v11=>
 bI PP (.func (.method "consistory/save.nums") ⟨[a0]⟩ ⟨[]⟩) fun v12=>
 vN PP x.C a0 "consistory/save.nums" [v11] Sz fun v13 Sz=>
 bI PP a1 fun v14=>
 aC 4 v14 fun v15=>
 x.C eE [a0,v15,(.func (.func lZ) #[] #[])] Sz fun v16 Sz=>
 bI PP a1 fun v17=>
 aC 5 v17 fun v18=>
 x.C eE [a0,v18,(.func (.func lZ) #[] #[])] Sz fun v19 Sz=>
 bI PP a1 fun v20=>
 aC 6 v20 fun v21=>
 bI PP (.func (.method "consistory/save.nums") ⟨[a0]⟩ ⟨[]⟩) fun v22=>
 vN PP x.C a0 "consistory/save.nums" [v21] Sz fun v23 Sz=>
 bI PP a1 fun v24=>
 aC 7 v24 fun v25=>
 bI PP (.func (.method "consistory/save.is") ⟨[a0]⟩ ⟨[]⟩) fun v26=>
 vN PP x.C a0 "consistory/save.is" [v25] Sz fun v27 Sz=>
 K (.tuple ⟨[]⟩) Sz) false
theorem JQ (x:EV) (a0 a1:Value) (Sz:St) (K:VK):hZ PP dD iG (x.E PP) [a0,a1] Sz K=BF x a0 a1 Sz K:=by kernel_rfl
noncomputable def BV (x:EV) (m:Nat) (t0 t1 t2 t6 t7:Value) (Sz:St) (K:VK):Bool:=gJ PP dD fC (x.E PP) [.r,.r,.d] m [] [t0,t1,t2,t6,t7] Sz K
noncomputable def wV (x:EV) (m0:Nat) (t0 t1 t2 t6 t7:Value) (Sz:St) (K:VK):Bool:=RZ PP dD fC (x.E PP) [.r,.r,.d,.d,.r,.l,.d,.r] [m0] [t0,t1,t2,t6,t7] Sz K
noncomputable def JN (x:EV) (a0 a1:Value) (Sz:St) (K:VK):Bool:=
 bI PP a1 fun v0=>
 aC 0 v0 fun v1=>
 bI PP a1 fun v2=>
 aC 1 v2 fun v3=>
 cR (aM 146 2 [(.pointer none)] [(0,1,v1),(1,1,v3)] Sz fun v4 Sz=>
 true) (aM 146 2 [(.pointer none)] [(0,1,v1),(1,1,v3)] Sz fun v5 Sz=>
 x.C eF [a0,v5] Sz fun v6 Sz=>
 bI PP a1 fun v7=>
 aC 2 v7 fun v8=>
 bI PP (.func (.method "consistory/save.nums") ⟨[a0]⟩ ⟨[]⟩) fun v9=>
 vN PP x.C a0 "consistory/save.nums" [v8] Sz fun v10 Sz=>
 K (.tuple ⟨[]⟩) Sz) false
theorem UK (x:EV) (a0 a1:Value) (Sz:St) (K:VK):hZ PP dD oJ (x.E PP) [a0,a1] Sz K=JN x a0 a1 Sz K:=by kernel_rfl
noncomputable def FK (x:EV) (m:Nat) (t0 t1 t2 t6 t7:Value) (Sz:St) (K:VK):Bool:=gJ PP dD eZ (x.E PP) [.r,.r,.d] m [] [t0,t1,t2,t6,t7] Sz K
noncomputable def yV (x:EV) (m0:Nat) (t0 t1 t2 t6 t7:Value) (Sz:St) (K:VK):Bool:=RZ PP dD eZ (x.E PP) [.r,.r,.d,.d,.r,.l,.d,.r] [m0] [t0,t1,t2,t6,t7] Sz K
noncomputable def BD (x:EV) (a0 a1:Value) (Sz:St) (K:VK):Bool:=
 bI PP a1 fun v0=>
 aC 0 v0 fun v1=>
 bI PP (.func (.method "consistory/save.kind") ⟨[a0]⟩ ⟨[]⟩) fun v2=>
 vN PP x.C a0 "consistory/save.kind" [v1] Sz fun v3 Sz=>
 bI PP a1 fun v4=>
 aC 1 v4 fun v5=>
 bI PP a1 fun v6=>
 aC 2 v6 fun v7=>
 bI PP a1 fun v8=>
 aC 3 v8 fun v9=>
 bI PP a1 fun v10=>
 aC 4 v10 fun v11=>
 bI PP a1 fun v12=>
 aC 5 v12 fun v13=>
 bI PP a1 fun v14=>
 aC 6 v14 fun v15=>
 bI PP a1 fun v16=>
 aC 7 v16 fun v17=>
 bI PP a1 fun v18=>
 aC 8 v18 fun v19=>
 cR (aM 146 8 [(.pointer none)] [(0,1,v5),(1,1,v7),(2,1,v9),(3,1,v11),(4,1,v13),(5,1,v15),(6,1,v17),(7,1,v19)] Sz fun v20 Sz=>
 true) (aM 146 8 [(.pointer none)] [(0,1,v5),(1,1,v7),(2,1,v9),(3,1,v11),(4,1,v13),(5,1,v15),(6,1,v17),(7,1,v19)] Sz fun v21 Sz=>
 x.C eF [a0,v21] Sz fun v22 Sz=>
 bI PP a1 fun v23=>
 aC 9 v23 fun v24=>
 bI PP (.func (.method "consistory/save.text") ⟨[a0]⟩ ⟨[]⟩) fun v25=>
 vN PP x.C a0 "consistory/save.text" [v24] Sz fun v26 Sz=>
 bI PP a1 fun v27=>
 aC 10 v27 fun v28=>
 bI PP (.func (.method "consistory/save.nums") ⟨[a0]⟩ ⟨[]⟩) fun v29=>
 vN PP x.C a0 "consistory/save.nums" [v28] Sz fun v30 Sz=>
 K (.tuple ⟨[]⟩) Sz) false
theorem JJ (x:EV) (a0 a1:Value) (Sz:St) (K:VK):hZ PP dD iF (x.E PP) [a0,a1] Sz K=BD x a0 a1 Sz K:=by kernel_rfl
noncomputable def DF (x:EV) (a0 a1:Value) (Sz:St) (K:VK):Bool:=
 bI PP a1 fun v0=>
 aC 0 v0 fun v1=>
 bI PP a1 fun v2=>
 aC 1 v2 fun v3=>
 bI PP a1 fun v4=>
 aC 2 v4 fun v5=>
 bI PP a1 fun v6=>
 aC 3 v6 fun v7=>
 bI PP a1 fun v8=>
 aC 4 v8 fun v9=>
 bI PP a1 fun v10=>
 aC 5 v10 fun v11=>
 bI PP a1 fun v12=>
 aC 6 v12 fun v13=>
 cR (aM 146 7 [(.pointer none)] [(0,1,v1),(1,1,v3),(2,1,v5),(3,1,v7),(4,1,v9),(5,1,v11),(6,1,v13)] Sz fun v14 Sz=>
 true) (aM 146 7 [(.pointer none)] [(0,1,v1),(1,1,v3),(2,1,v5),(3,1,v7),(4,1,v9),(5,1,v11),(6,1,v13)] Sz fun v15 Sz=>
 x.C eF [a0,v15] Sz fun v16 Sz=>
 bI PP a1 fun v17=>
 aC 7 v17 fun v18=>
 bI PP (.func (.method "consistory/save.text") ⟨[a0]⟩ ⟨[]⟩) fun v19=>
 vN PP x.C a0 "consistory/save.text" [v18] Sz fun v20 Sz=>
 bI PP a1 fun v21=>
 aC 8 v21 fun v22=>
 bI PP (.func (.method "consistory/save.text") ⟨[a0]⟩ ⟨[]⟩) fun v23=>
 vN PP x.C a0 "consistory/save.text" [v22] Sz fun v24 Sz=>
 bI PP a1 fun v25=>
 aC 9 v25 fun v26=>
 bI PP a1 fun v27=>
 aC 10 v27 fun v28=>
 cR (aM 146 2 [(.pointer none)] [(0,1,v26),(1,1,v28)] Sz fun v29 Sz=>
 true) (aM 146 2 [(.pointer none)] [(0,1,v26),(1,1,v28)] Sz fun v30 Sz=>
 x.C eF [a0,v30] Sz fun v31 Sz=>
 bI PP a1 fun v32=>
 aC 11 v32 fun v33=>
 bI PP (.func (.method "consistory/save.is") ⟨[a0]⟩ ⟨[]⟩) fun v34=>
 vN PP x.C a0 "consistory/save.is" [v33] Sz fun v35 Sz=>
 bI PP a1 fun v36=>
 aC 12 v36 fun v37=>
 bI PP (.func (.method "consistory/save.is") ⟨[a0]⟩ ⟨[]⟩) fun v38=>
 vN PP x.C a0 "consistory/save.is" [v37] Sz fun v39 Sz=>
 bI PP a1 fun v40=>
 aC 13 v40 fun v41=>
 bI PP (.func (.method "consistory/save.text") ⟨[a0]⟩ ⟨[]⟩) fun v42=>
 vN PP x.C a0 "consistory/save.text" [v41] Sz fun v43 Sz=>
 bI PP a1 fun v44=>
 aC 14 v44 fun v45=>
 x.C eT [a0,v45,(.func (.func oH) #[] #[])] Sz fun v46 Sz=>
 K (.tuple ⟨[]⟩) Sz) false) false
theorem MM (x:EV) (a0 a1:Value) (Sz:St) (K:VK):hZ PP dD xD (x.E PP) [a0,a1] Sz K=DF x a0 a1 Sz K:=by kernel_rfl
noncomputable def BR (x:EV) (m:Nat) (t0 t1 t2 t6 t7:Value) (Sz:St) (K:VK):Bool:=gJ PP dD eU (x.E PP) [.r,.r,.d] m [] [t0,t1,t2,t6,t7] Sz K
noncomputable def vS (x:EV) (m0:Nat) (t0 t1 t2 t6 t7:Value) (Sz:St) (K:VK):Bool:=RZ PP dD eU (x.E PP) [.r,.r,.d,.d,.r,.l,.d,.r] [m0] [t0,t1,t2,t6,t7] Sz K
noncomputable def JL (x:EV) (a0 a1:Value) (Sz:St) (K:VK):Bool:=
 bI PP a1 fun v0=>
 aC 0 v0 fun v1=>
 aM 146 1 [(.pointer none)] [(0,1,v1)] Sz fun v2 Sz=>
 x.C eF [a0,v2] Sz fun v3 Sz=>
 bI PP a1 fun v4=>
 aC 1 v4 fun v5=>
 bI PP (.func (.method "consistory/save.text") ⟨[a0]⟩ ⟨[]⟩) fun v6=>
 vN PP x.C a0 "consistory/save.text" [v5] Sz fun v7 Sz=>
 K (.tuple ⟨[]⟩) Sz
theorem UI (x:EV) (a0 a1:Value) (Sz:St) (K:VK):hZ PP dD oI (x.E PP) [a0,a1] Sz K=JL x a0 a1 Sz K:=by kernel_rfl
noncomputable def AI (x:EV) (m:Nat) (t0 t1 t2 t6 t7:Value) (Sz:St) (K:VK):Bool:=gJ PP dD eK (x.E PP) [.r,.r,.d] m [] [t0,t1,t2,t6,t7] Sz K
noncomputable def vM (x:EV) (m0:Nat) (t0 t1 t2 t6 t7:Value) (Sz:St) (K:VK):Bool:=RZ PP dD eK (x.E PP) [.r,.r,.d,.d,.r,.l,.d,.r] [m0] [t0,t1,t2,t6,t7] Sz K
noncomputable def JH (x:EV) (a0 a1:Value) (Sz:St) (K:VK):Bool:=
 vN PP x.C a0 "consistory/save.nums" [a1] Sz fun v0 Sz=>
 K (.tuple ⟨[]⟩) Sz
theorem UF (x:EV) (a0 a1:Value) (Sz:St) (K:VK):hZ PP dD oG (x.E PP) [a0,a1] Sz K=JH x a0 a1 Sz K:=by kernel_rfl
noncomputable def BW (x:EV) (m:Nat) (t0 t1 t2 t6 t7:Value) (Sz:St) (K:VK):Bool:=gJ PP dD eE (x.E PP) [.r,.r,.d] m [] [t0,t1,t2,t6,t7] Sz K
noncomputable def wW (x:EV) (m0:Nat) (t0 t1 t2 t6 t7:Value) (Sz:St) (K:VK):Bool:=RZ PP dD eE (x.E PP) [.r,.r,.d,.d,.r,.l,.d,.r] [m0] [t0,t1,t2,t6,t7] Sz K
noncomputable def JM (x:EV) (a0 a1:Value) (Sz:St) (K:VK):Bool:=
 bI PP a1 fun v0=>
 aC 0 v0 fun v1=>
 aM 146 1 [(.pointer none)] [(0,1,v1)] Sz fun v2 Sz=>
 x.C eF [a0,v2] Sz fun v3 Sz=>
 bI PP a1 fun v4=>
 aC 1 v4 fun v5=>
 bI PP (.func (.method "consistory/save.nums") ⟨[a0]⟩ ⟨[]⟩) fun v6=>
 vN PP x.C a0 "consistory/save.nums" [v5] Sz fun v7 Sz=>
 K (.tuple ⟨[]⟩) Sz
theorem UJ (x:EV) (a0 a1:Value) (Sz:St) (K:VK):hZ PP dD lZ (x.E PP) [a0,a1] Sz K=JM x a0 a1 Sz K:=by kernel_rfl
noncomputable def BS (x:EV) (m:Nat) (t0 t1 t2 t6 t7:Value) (Sz:St) (K:VK):Bool:=gJ PP dD eT (x.E PP) [.r,.r,.d] m [] [t0,t1,t2,t6,t7] Sz K
noncomputable def vT (x:EV) (m0:Nat) (t0 t1 t2 t6 t7:Value) (Sz:St) (K:VK):Bool:=RZ PP dD eT (x.E PP) [.r,.r,.d,.d,.r,.l,.d,.r] [m0] [t0,t1,t2,t6,t7] Sz K
noncomputable def JK (x:EV) (a0 a1:Value) (Sz:St) (K:VK):Bool:=
 bI PP a1 fun v0=>
 aC 0 v0 fun v1=>
 bI PP a1 fun v2=>
 aC 1 v2 fun v3=>
 cR (aM 146 2 [(.pointer none)] [(0,1,v1),(1,1,v3)] Sz fun v4 Sz=>
 true) (aM 146 2 [(.pointer none)] [(0,1,v1),(1,1,v3)] Sz fun v5 Sz=>
 x.C eF [a0,v5] Sz fun v6 Sz=>
 bI PP a1 fun v7=>
 aC 2 v7 fun v8=>
 bI PP (.func (.method "consistory/save.kind") ⟨[a0]⟩ ⟨[]⟩) fun v9=>
 vN PP x.C a0 "consistory/save.kind" [v8] Sz fun v10 Sz=>
 bI PP a1 fun v11=>
 aC 3 v11 fun v12=>
 aM 146 1 [(.pointer none)] [(0,1,v12)] Sz fun v13 Sz=>
 x.C eF [a0,v13] Sz fun v14 Sz=>
 bI PP a1 fun v15=>
 aC 4 v15 fun v16=>
 bI PP (.func (.method "consistory/save.text") ⟨[a0]⟩ ⟨[]⟩) fun v17=>
 vN PP x.C a0 "consistory/save.text" [v16] Sz fun v18 Sz=>
 K (.tuple ⟨[]⟩) Sz) false
theorem UH (x:EV) (a0 a1:Value) (Sz:St) (K:VK):hZ PP dD oH (x.E PP) [a0,a1] Sz K=JK x a0 a1 Sz K:=by kernel_rfl
noncomputable def MU (x:EV) (a0 a1:Value) (Sz:St) (K:VK):Bool:=
 cC [(.int .u64 (.ofNat 0))] 57 Sz fun v0 Sz=>
 cQ 1 v0 (.int .u64 (.ofNat 0)) Sz fun Sz=>
 bI PP a1 fun v1=>
 aN v1 Sz fun v2 Sz=>
 gD v2 (cQ 1 v0 (.int .u64 (.ofNat 1)) Sz fun Sz=>
 x.C kF [a0,v0] Sz fun v3 Sz=>
 K (.tuple ⟨[]⟩) Sz) (x.C kF [a0,v0] Sz fun v4 Sz=>
 K (.tuple ⟨[]⟩) Sz)
theorem Ca (x:EV) (a0 a1:Value) (Sz:St) (K:VK):hZ PP dD xH (x.E PP) [a0,a1] Sz K=MU x a0 a1 Sz K:=by kernel_rfl
noncomputable def HQ (x:EV) (a0 a1:Value) (Sz:St) (K:VK):Bool:=
 bI PP a0 fun v0=>
 aC 0 v0 fun v1=>
 bI PP a1 fun v2=>
 aN v2 Sz fun v3 Sz=>
 x.C KO [zS,v3] Sz fun v4 Sz=>
 x.C bW [v1,v4] Sz fun v5 Sz=>
 K (.tuple ⟨[]⟩) Sz
theorem WD (x:EV) (a0 a1:Value) (Sz:St) (K:VK):hZ PP dD tA (x.E PP) [a0,a1] Sz K=HQ x a0 a1 Sz K:=by kernel_rfl
noncomputable def HU (x:EV) (a0 a1:Value) (Sz:St) (K:VK):Bool:=
 aK PP .gtr 3 a1 (.int .i64 (.ofNat 1048576)) fun v0=>
 gD v0 (x.C jV [a0,zS,(.int .i64 (.ofNat 40))] Sz fun v1 Sz=>
 K zI Sz) (bI PP a0 fun v2=>
 aC 0 v2 fun v3=>
 AW .u64 a1 fun v4=>
 x.C GP [zS,v4] Sz fun v5 Sz=>
 x.C bW [v3,v5] Sz fun v6 Sz=>
 K a1 Sz)
theorem WG (x:EV) (a0 a1:Value) (Sz:St) (K:VK):hZ PP dD yU (x.E PP) [a0,a1] Sz K=HU x a0 a1 Sz K:=by kernel_rfl
noncomputable def CZ (x:EV) (a0 a1:Value) (Sz:St) (K:VK):Bool:=
 bI PP a0 fun v0=>
 aC 0 v0 fun v1=>
 bI PP a1 fun v2=>
 aN v2 Sz fun v3 Sz=>
 x.C GP [zS,v3] Sz fun v4 Sz=>
 x.C bW [v1,v4] Sz fun v5 Sz=>
 K (.tuple ⟨[]⟩) Sz
theorem RD (x:EV) (a0 a1:Value) (Sz:St) (K:VK):hZ PP dD kF (x.E PP) [a0,a1] Sz K=CZ x a0 a1 Sz K:=by kernel_rfl
noncomputable def HT (x:EV) (a0 a1:Value) (Sz:St) (K:VK):Bool:=
 bI PP a1 fun v0=>
 aN v0 Sz fun v1 Sz=>
 x.C CX [zS,v1] Sz fun v2 Sz=>
 fB 0 v2 fun v3=>
 fB 1 v2 fun v4=>
 x.C jV [a0,v3,v4] Sz fun v5 Sz=>
 K (.tuple ⟨[]⟩) Sz
theorem WF (x:EV) (a0 a1:Value) (Sz:St) (K:VK):hZ PP dD tC (x.E PP) [a0,a1] Sz K=HT x a0 a1 Sz K:=by kernel_rfl
noncomputable def HS (x:EV) (a0 a1:Value) (Sz:St) (K:VK):Bool:=
 bI PP a1 fun v0=>
 aN v0 Sz fun v1 Sz=>
 x.C KP [zS,v1] Sz fun v2 Sz=>
 fB 0 v2 fun v3=>
 fB 1 v2 fun v4=>
 x.C jV [a0,v3,v4] Sz fun v5 Sz=>
 K (.tuple ⟨[]⟩) Sz
theorem WE (x:EV) (a0 a1:Value) (Sz:St) (K:VK):hZ PP dD tB (x.E PP) [a0,a1] Sz K=HS x a0 a1 Sz K:=by kernel_rfl
noncomputable def FG (x:EV) (a0:Value) (Sz:St) (K:VK):Bool:=
 bI PP a0 fun v0=>
 aC 2 v0 fun v1=>
 aN v1 Sz fun v2 Sz=>
 K v2 Sz
theorem TF (x:EV) (a0:Value) (Sz:St) (K:VK):hZ PP dD wU (x.E PP) [a0] Sz K=FG x a0 Sz K:=by kernel_rfl
noncomputable def oL (x:EV) (a0 a1:Value) (Sz:St) (K:VK):Bool:=
 x.C qF [a0] Sz fun v0 Sz=>
 bI PP a0 fun v1=>
 aC 1 v1 fun v2=>
 aN v2 Sz fun v3 Sz=>
 kJ PP 5 1 1 v3 a1 Sz fun v4 Sz=>
 bI PP a0 fun v5=>
 aC 1 v5 fun v6=>
 cQ 1 v6 v4 Sz fun Sz=>
 nI a1 fun v7=>
 K (.tuple ⟨[v7,.nilIface]⟩) Sz
theorem yI (x:EV) (a0 a1:Value) (Sz:St) (K:VK):hZ PP dD bW (x.E PP) [a0,a1] Sz K=oL x a0 a1 Sz K:=by kernel_rfl
noncomputable def UX (x:EV) (a0 a1:Value) (Sz:St) (K:VK):Bool:=
 AW .u64 a1 fun v0=>
 x.C wT [a0,v0,(.int .i64 (.ofNat 1))] Sz fun v1 Sz=>
 K v1 Sz
theorem Ls (x:EV) (a0 a1:Value) (Sz:St) (K:VK):hZ PP dD KO (x.E PP) [a0,a1] Sz K=UX x a0 a1 Sz K:=by kernel_rfl
noncomputable def wX (x:EV) (t0 t1:Value) (Sz:St) (K:VK):Bool:=RZ PP dD jV (x.E PP) [.r] [] [t0,t1] Sz K
noncomputable def KR (x:EV) (a0 a1 a2:Value) (Sz:St) (K:VK):Bool:=
 bI PP a0 fun v0=>
 aC 2 v0 fun v1=>
 aN v1 Sz fun v2 Sz=>
 aK PP .eql 37 v2 zI fun v3=>
 gD v3 (bI PP a0 fun v4=>
 aC 2 v4 fun v5=>
 cQ 1 v5 a2 Sz fun Sz=>
 wX x a0 a1 Sz K) (wX x a0 a1 Sz K)
theorem An (x:EV) (a0 a1 a2:Value) (Sz:St) (K:VK):hZ PP dD jV (x.E PP) [a0,a1,a2] Sz K=KR x a0 a1 a2 Sz K:=by kernel_rfl
noncomputable def qG (x:EV) (t0 t1:Value) (Sz:St) (K:VK):Bool:=
 bI PP t0 fun v0=>
 aC 0 v0 fun v1=>
 x.C bW [v1,t1] Sz fun v2 Sz=>
 K (.tuple ⟨[]⟩) Sz
theorem OA (x:EV) (t0 t1:Value) (Sz:St) (K:VK):aBD PP dD jV (x.E PP) [.r] [] [t0,t1] Sz K=qG x t0 t1 Sz K:=by kernel_rfl
theorem CY (x:EV) (hm:x.most≠0) (t0 t1:Value) (Sz:St) (K:VK):wX x t0 t1 Sz K=qG x t0 t1 Sz K:=(uV jV (x.E PP) [.r] [] [t0,t1] Sz K hm).trans (OA x t0 t1 Sz K)
noncomputable def Al (x:EV) (a0 a1:Value) (Sz:St) (K:VK):Bool:=
 x.C wT [a0,a1,(.int .i64 (.ofNat 8))] Sz fun v0 Sz=>
 K v0 Sz
theorem Ps (x:EV) (a0 a1:Value) (Sz:St) (K:VK):hZ PP dD GP (x.E PP) [a0,a1] Sz K=Al x a0 a1 Sz K:=by kernel_rfl
noncomputable def nF (x:EV) (m:Nat) (t6 t19 t20 t21:Value) (Sz:St) (K:VK):Bool:=gJ PP dD CX (x.E PP) [.r,.r,.r,.r,.l,.r,.d] m [] [t6,t19,t20,t21] Sz K
noncomputable def UZ (x:EV) (a0 a1:Value) (Sz:St) (K:VK):Bool:=
 bO a1 fun v0=>
 aK PP .gtr 3 v0 (.int .i64 (.ofNat 1024)) fun v1=>
 gD v1 (K (.tuple ⟨[a0,(.int .i64 (.ofNat 40))]⟩) Sz) (cC [(.pointer none),zL] 94 Sz fun v2 Sz=>
 bO a1 fun v3=>
 AW .u64 v3 fun v4=>
 x.C wT [a0,v4,(.int .i64 (.ofNat 2))] Sz fun v5 Sz=>
 x.C bW [v2,v5] Sz fun v6 Sz=>
 bO a1 fun v7=>
 nF x x.most v2 a1 v7 zI Sz K)
theorem Lv (x:EV) (a0 a1:Value) (Sz:St) (K:VK):hZ PP dD CX (x.E PP) [a0,a1] Sz K=UZ x a0 a1 Sz K:=by kernel_rfl
noncomputable def qY (x:EV) (m0:Nat) (t6 t19 t20 t21:Value) (Sz:St) (K:VK):Bool:=
 aK PP .lss 3 t21 t20 fun v0=>
 gD v0 (dC 1 t19 t21 fun v1=>
 aN v1 Sz fun v2 Sz=>
 x.C wT [zS,v2,(.int .i64 (.ofNat 8))] Sz fun v3 Sz=>
 x.C bW [t6,v3] Sz fun v4 Sz=>
 aK PP .add 3 t21 (.int .i64 (.ofNat 1)) fun v5=>
 nF x m0 t6 t19 t20 v5 Sz K) (x.C jJ [t6] Sz fun v6 Sz=>
 K (.tuple ⟨[v6,zI]⟩) Sz)
theorem yK (x:EV) (m0:Nat) (t6 t19 t20 t21:Value) (Sz:St) (K:VK):nF x (m0+1) t6 t19 t20 t21 Sz K=qY x m0 t6 t19 t20 t21 Sz K:=by kernel_rfl
noncomputable def UY (x:EV) (a0 a1:Value) (Sz:St) (K:VK):Bool:=
 nI a1 fun v0=>
 aK PP .gtr 3 v0 (.int .i64 (.ofNat 2048)) fun v1=>
 gD v1 (K (.tuple ⟨[a0,(.int .i64 (.ofNat 40))]⟩) Sz) (nI a1 fun v2=>
 AW .u64 v2 fun v3=>
 x.C wT [a0,v3,(.int .i64 (.ofNat 2))] Sz fun v4 Sz=>
 aK PP .add 9 v4 a1 fun v5=>
 K (.tuple ⟨[v5,zI]⟩) Sz)
theorem Lt (x:EV) (a0 a1:Value) (Sz:St) (K:VK):hZ PP dD KP (x.E PP) [a0,a1] Sz K=UY x a0 a1 Sz K:=by kernel_rfl
noncomputable def MI (x:EV) (a0 a1:Value) (Sz:St) (K:VK):Bool:=
 iP 103 a0 Sz fun v0 Sz=>
 aC 0 v0 fun v1=>
 aN v1 Sz fun v2 Sz=>
 x.C mW [v2,(.int .i64 (.ofNat 1))] Sz fun v3 Sz=>
 fB 0 v3 fun v4=>
 fB 1 v3 fun v5=>
 aK PP .eql 3 v4 (.int .i64 (.ofNat 1)) fun v6=>
 bI PP a1 fun v7=>
 cQ 1 v7 v6 Sz fun Sz=>
 K (.tuple ⟨[]⟩) Sz
theorem Bm (x:EV) (a0 a1:Value) (Sz:St) (K:VK):hZ PP dD xC (x.E PP) [a0,a1] Sz K=MI x a0 a1 Sz K:=by kernel_rfl
noncomputable def GT (x:EV) (a0 a1:Value) (Sz:St) (K:VK):Bool:=
 iP 103 a0 Sz fun v0 Sz=>
 aC 0 v0 fun v1=>
 aN v1 Sz fun v2 Sz=>
 x.C tI [v2] Sz fun v3 Sz=>
 fB 0 v3 fun v4=>
 fB 1 v3 fun v5=>
 bI PP a1 fun v6=>
 cQ 1 v6 v4 Sz fun Sz=>
 K (.tuple ⟨[]⟩) Sz
theorem VJ (x:EV) (a0 a1:Value) (Sz:St) (K:VK):hZ PP dD sX (x.E PP) [a0,a1] Sz K=GT x a0 a1 Sz K:=by kernel_rfl
noncomputable def GV (x:EV) (a0 a1:Value) (Sz:St) (K:VK):Bool:=
 iP 103 a0 Sz fun v0 Sz=>
 aC 0 v0 fun v1=>
 aN v1 Sz fun v2 Sz=>
 x.C mW [v2,(.int .i64 (.ofNat 1048576))] Sz fun v3 Sz=>
 fB 0 v3 fun v4=>
 fB 1 v3 fun v5=>
 K v4 Sz
theorem VM (x:EV) (a0 a1:Value) (Sz:St) (K:VK):hZ PP dD yR (x.E PP) [a0,a1] Sz K=GV x a0 a1 Sz K:=by kernel_rfl
noncomputable def CG (x:EV) (a0 a1:Value) (Sz:St) (K:VK):Bool:=
 iP 103 a0 Sz fun v0 Sz=>
 aC 0 v0 fun v1=>
 aN v1 Sz fun v2 Sz=>
 x.C uW [v2] Sz fun v3 Sz=>
 fB 0 v3 fun v4=>
 fB 1 v3 fun v5=>
 bI PP a1 fun v6=>
 cQ 1 v6 v4 Sz fun Sz=>
 K (.tuple ⟨[]⟩) Sz
theorem PM (x:EV) (a0 a1:Value) (Sz:St) (K:VK):hZ PP dD pZ (x.E PP) [a0,a1] Sz K=CG x a0 a1 Sz K:=by kernel_rfl
noncomputable def GW (x:EV) (a0 a1:Value) (Sz:St) (K:VK):Bool:=
 iP 103 a0 Sz fun v0 Sz=>
 aC 0 v0 fun v1=>
 aN v1 Sz fun v2 Sz=>
 x.C tK [v2] Sz fun v3 Sz=>
 fB 0 v3 fun v4=>
 fB 1 v3 fun v5=>
 bI PP a1 fun v6=>
 cQ 1 v6 v4 Sz fun Sz=>
 K (.tuple ⟨[]⟩) Sz
theorem VN (x:EV) (a0 a1:Value) (Sz:St) (K:VK):hZ PP dD sZ (x.E PP) [a0,a1] Sz K=GW x a0 a1 Sz K:=by kernel_rfl
noncomputable def GU (x:EV) (a0 a1:Value) (Sz:St) (K:VK):Bool:=
 iP 103 a0 Sz fun v0 Sz=>
 aC 0 v0 fun v1=>
 aN v1 Sz fun v2 Sz=>
 x.C tJ [v2] Sz fun v3 Sz=>
 fB 0 v3 fun v4=>
 fB 1 v3 fun v5=>
 bI PP a1 fun v6=>
 cQ 1 v6 v4 Sz fun Sz=>
 K (.tuple ⟨[]⟩) Sz
theorem VL (x:EV) (a0 a1:Value) (Sz:St) (K:VK):hZ PP dD sY (x.E PP) [a0,a1] Sz K=GU x a0 a1 Sz K:=by kernel_rfl
noncomputable def EE (x:EV) (a0:Value) (Sz:St) (K:VK):Bool:=
 iP 103 a0 Sz fun v0 Sz=>
 aC 0 v0 fun v1=>
 aN v1 Sz fun v2 Sz=>
 x.C rO [v2] Sz fun v3 Sz=>
 K v3 Sz
theorem SC (x:EV) (a0:Value) (Sz:St) (K:VK):hZ PP dD wO (x.E PP) [a0] Sz K=EE x a0 Sz K:=by kernel_rfl
noncomputable def yY (x:EV) (a0 a1:Value) (Sz:St) (K:VK):Bool:=
 iP 3 a1 Sz fun v0 Sz=>
 x.C WJ [a0,(.func (.func 156) ⟨[]⟩ ⟨[v0]⟩)] Sz fun v1 Sz=>
 fB 0 v1 fun v2=>
 fB 1 v1 fun v3=>
 K (.tuple ⟨[v2,v3]⟩) Sz
theorem LM (x:EV) (a0 a1:Value) (Sz:St) (K:VK):hZ PP dD mW (x.E PP) [a0,a1] Sz K=yY x a0 a1 Sz K:=by kernel_rfl
noncomputable def BA (x:EV) (a0:Value) (Sz:St) (K:VK):Bool:=
 x.C TJ [a0,(.func (.func xW) #[] #[])] Sz fun v0 Sz=>
 fB 0 v0 fun v1=>
 fB 1 v0 fun v2=>
 K (.tuple ⟨[v1,v2]⟩) Sz
theorem NJ (x:EV) (a0:Value) (Sz:St) (K:VK):hZ PP dD tI (x.E PP) [a0] Sz K=BA x a0 Sz K:=by kernel_rfl
noncomputable def CF (x:EV) (a0:Value) (Sz:St) (K:VK):Bool:=
 x.C NY [a0,(.func (.func yX) #[] #[])] Sz fun v0 Sz=>
 fB 0 v0 fun v1=>
 fB 1 v0 fun v2=>
 K (.tuple ⟨[v1,v2]⟩) Sz
theorem PL (x:EV) (a0:Value) (Sz:St) (K:VK):hZ PP dD uW (x.E PP) [a0] Sz K=CF x a0 Sz K:=by kernel_rfl
noncomputable def BC (x:EV) (a0:Value) (Sz:St) (K:VK):Bool:=
 x.C FJ [a0,(.func (.func KV) #[] #[])] Sz fun v0 Sz=>
 fB 0 v0 fun v1=>
 fB 1 v0 fun v2=>
 K (.tuple ⟨[v1,v2]⟩) Sz
theorem NL (x:EV) (a0:Value) (Sz:St) (K:VK):hZ PP dD tK (x.E PP) [a0] Sz K=BC x a0 Sz K:=by kernel_rfl
noncomputable def BB (x:EV) (a0:Value) (Sz:St) (K:VK):Bool:=
 x.C NZ [a0,(.func (.func xX) #[] #[])] Sz fun v0 Sz=>
 fB 0 v0 fun v1=>
 fB 1 v0 fun v2=>
 K (.tuple ⟨[v1,v2]⟩) Sz
theorem NK (x:EV) (a0:Value) (Sz:St) (K:VK):hZ PP dD tJ (x.E PP) [a0] Sz K=BB x a0 Sz K:=by kernel_rfl
noncomputable def yZ (x:EV) (a0:Value) (Sz:St) (K:VK):Bool:=
 aK PP .eql 100 a0 (.pointer none) fun v0=>
 gD v0 (K (.int .i64 (.ofNat 2)) Sz) (bI PP a0 fun v1=>
 aC 1 v1 fun v2=>
 aN v2 Sz fun v3 Sz=>
 K v3 Sz)
theorem LN (x:EV) (a0:Value) (Sz:St) (K:VK):hZ PP dD rO (x.E PP) [a0] Sz K=yZ x a0 Sz K:=by kernel_rfl
noncomputable def UN (x:EV) (a0:Value) (Sz:St) (K:VK):Bool:=
 dK [zS,zI] [(0,1,a0)] fun v0=>
 iP 168 v0 Sz fun v1 Sz=>
 K v1 Sz
theorem Ki (x:EV) (a0:Value) (Sz:St) (K:VK):hZ PP dD JT (x.E PP) [a0] Sz K=UN x a0 Sz K:=by kernel_rfl
noncomputable def CI (x:EV) (a0:Value) (Sz:St) (K:VK):Bool:=
 x.C EK [a0,(.func (.func mX) #[] #[])] Sz fun v0 Sz=>
 fB 0 v0 fun v1=>
 fB 1 v0 fun v2=>
 K v2 Sz
theorem PY (x:EV) (a0:Value) (Sz:St) (K:VK):hZ PP dD uZ (x.E PP) [a0] Sz K=CI x a0 Sz K:=by kernel_rfl
noncomputable def MO (x:EV) (a0:Value) (Sz:St) (K:VK):Bool:=
 cC [zI,zL,zI,zS,zF,zI,zI,zI,zI,zI,zI,zI,zS,zS,zI,zI,zF,zF,zS,zL,zL,zL,zL,zL,zL,zF,zL,zL,zL,zL] 34 Sz fun v0 Sz=>
 x.C JT [a0] Sz fun v1 Sz=>
 dK [(.pointer none)] [(0,1,v1)] fun v2=>
 cC [(.pointer none)] 103 Sz fun v3 Sz=>
 cQ 1 v3 v2 Sz fun Sz=>
 cC [zI,zL,zI,zS,zF,zI,zI,zI,zI,zI,zI,zI,zS,zS,zI,zI,zF,zF,zS,zL,zL,zL,zL,zL,zL,zF,zL,zL,zL,zL] 34 Sz fun v4 Sz=>
 aR 1 v3 Sz fun v5 Sz=>
 x.C wQ [(.iface 103 v5),v4] Sz fun v6 Sz=>
 aC 0 v3 fun v7=>
 aN v7 Sz fun v8 Sz=>
 x.C uZ [v8] Sz fun v9 Sz=>
 aK PP .neq 37 v9 zI fun v10=>
 gD v10 (dK [zI,zL,zI,zS,zF,zI,zI,zI,zI,zI,zI,zI,zS,zS,zI,zI,zF,zF,zS,zL,zL,zL,zL,zL,zL,zF,zL,zL,zL,zL] [] fun v11=>
 cQ 30 v0 v11 Sz fun Sz=>
 aR 30 v0 Sz fun v12 _=>
 K (.tuple ⟨[v12,v9]⟩) Sz) (aR 30 v4 Sz fun v13 Sz=>
 cQ 30 v0 v13 Sz fun Sz=>
 aR 30 v0 Sz fun v14 _=>
 K (.tuple ⟨[v14,zI]⟩) Sz)
theorem Bn (x:EV) (a0:Value) (Sz:St) (K:VK):hZ PP dD DG (x.E PP) [a0] Sz K=MO x a0 Sz K:=by kernel_rfl
noncomputable def nE (x:EV) (m:Nat) (t1 t3 t4:Value) (Sz:St) (K:VK):Bool:=gJ PP dD pS (x.E PP) [.r,.r,.l,.r,.d] m [] [t1,t3,t4] Sz K
noncomputable def iM (x:EV) (m:Nat) (t1 t3 t5 t6:Value) (Sz:St) (K:VK):Bool:=gJ PP dD pS (x.E PP) [.r,.r,.r,.r,.r,.l,.r,.d] m [] [t1,t3,t5,t6] Sz K
noncomputable def kE (x:EV) (m:Nat) (t1 t3 t7:Value) (Sz:St) (K:VK):Bool:=gJ PP dD pS (x.E PP) [.r,.r,.r,.r,.r,.r,.l,.r,.d] m [] [t1,t3,t7] Sz K
noncomputable def MT (x:EV) (a0:Value) (Sz:St) (K:VK):Bool:=
 iP 34 a0 Sz fun v0 Sz=>
 aC 1 v0 fun v1=>
 aN v1 Sz fun v2 Sz=>
 aC 22 v0 fun v3=>
 aN v3 Sz fun v4 Sz=>
 aC 23 v0 fun v5=>
 aN v5 Sz fun v6 Sz=>
 bO v6 fun v7=>
 aK PP .mul 3 (.int .i64 (.ofNat 2)) v7 fun v8=>
 aC 24 v0 fun v9=>
 aN v9 Sz fun v10 Sz=>
 bO v10 fun v11=>
 aK PP .mul 3 (.int .i64 (.ofNat 2)) v11 fun v12=>
 aC 26 v0 fun v13=>
 aN v13 Sz fun v14 Sz=>
 aC 29 v0 fun v15=>
 aN v15 Sz fun v16 Sz=>
 aC 28 v0 fun v17=>
 aN v17 Sz fun v18 Sz=>
 aC 2 v0 fun v19=>
 aC 19 v19 fun v20=>
 aN v20 Sz fun v21 Sz=>
 x.C mI [v2] Sz fun v22 Sz=>
 aN v20 Sz fun v23 Sz=>
 aU v23 v21 (aN v17 Sz fun v24 Sz=>
 aU v24 v18 (aN v15 Sz fun v25 Sz=>
 aU v25 v16 (aN v13 Sz fun v26 Sz=>
 aU v26 v14 (aN v9 Sz fun v27 Sz=>
 aU v27 v10 (aN v5 Sz fun v28 Sz=>
 aU v28 v6 (aN v3 Sz fun v29 Sz=>
 aU v29 v4 (x.C mI [v4] Sz fun v30 Sz=>
 aN v20 Sz fun v31 Sz=>
 aU v31 v21 (aN v17 Sz fun v32 Sz=>
 aU v32 v18 (aN v15 Sz fun v33 Sz=>
 aU v33 v16 (aN v13 Sz fun v34 Sz=>
 aU v34 v14 (aN v9 Sz fun v35 Sz=>
 aU v35 v10 (aN v5 Sz fun v36 Sz=>
 aU v36 v6 (aK PP .add 3 v22 v30 fun v37=>
 aK PP .add 3 v37 v8 fun v38=>
 aK PP .add 3 v38 v12 fun v39=>
 x.C kD [v14] Sz fun v40 Sz=>
 aN v20 Sz fun v41 Sz=>
 aU v41 v21 (aN v17 Sz fun v42 Sz=>
 aU v42 v18 (aN v15 Sz fun v43 Sz=>
 aU v43 v16 (aN v9 Sz fun v44 Sz=>
 aU v44 v10 (aN v5 Sz fun v45 Sz=>
 aU v45 v6 (aK PP .add 3 v39 v40 fun v46=>
 x.C kD [v16] Sz fun v47 Sz=>
 aN v20 Sz fun v48 Sz=>
 aU v48 v21 (aN v17 Sz fun v49 Sz=>
 aU v49 v18 (aN v9 Sz fun v50 Sz=>
 aU v50 v10 (aN v5 Sz fun v51 Sz=>
 aU v51 v6 (aK PP .add 3 v46 v47 fun v52=>
 x.C oD [v18] Sz fun v53 Sz=>
 aN v20 Sz fun v54 Sz=>
 aU v54 v21 (aN v9 Sz fun v55 Sz=>
 aU v55 v10 (aN v5 Sz fun v56 Sz=>
 aU v56 v6 (aK PP .add 3 v52 v53 fun v57=>
 x.C oD [v21] Sz fun v58 Sz=>
 aN v9 Sz fun v59 Sz=>
 aU v59 v10 (aN v5 Sz fun v60 Sz=>
 aU v60 v6 (aK PP .add 3 v57 v58 fun v61=>
 nE x x.most v0 v61 zI Sz K)))))))))))))))))))))))))))
theorem Bz (x:EV) (a0:Value) (Sz:St) (K:VK):hZ PP dD pS (x.E PP) [a0] Sz K=MT x a0 Sz K:=by kernel_rfl
noncomputable def qX (x:EV) (m0:Nat) (t1 t3 t4:Value) (Sz:St) (K:VK):Bool:=
 aC 27 t1 fun v0=>
 aN v0 Sz fun v1 Sz=>
 bO v1 fun v2=>
 aK PP .lss 3 t4 v2 fun v3=>
 shut x.most (aA true v3 (fun k=>k t3 Sz) Sz fun v4 Sz=>
 shut x.most (aA true v3 (fun k=>aK PP .lss 3 v4 (.int .i64 (.ofNat 9000)) fun v5=>
 k v5 Sz) Sz fun v6 Sz=>
 shut x.most (bY v3 v6 zF fun v7=>
 gD v7 (aK PP .add 3 t3 (.int .i64 (.ofNat 3)) fun v8=>
 aC 27 t1 fun v9=>
 aN v9 Sz fun v10 Sz=>
 dC 3 v10 t4 fun v11=>
 aC 2 v11 fun v12=>
 aN v12 Sz fun v13 Sz=>
 bO v13 fun v14=>
 aK PP .add 3 v8 v14 fun v15=>
 aK PP .add 3 t4 (.int .i64 (.ofNat 1)) fun v16=>
 nE x m0 t1 v15 v16 Sz K) (aC 2 t1 fun v17=>
 aC 3 v17 fun v18=>
 aR 15 v18 Sz fun v19 Sz=>
 cC [zI,zI,zI,zI,zI,zI,zI,zS,zS,zI,zI,zF,zF,zS,zL] 25 Sz fun v20 Sz=>
 cQ 15 v20 v19 Sz fun Sz=>
 aC 2 t1 fun v21=>
 aC 1 v21 fun v22=>
 aN v22 Sz fun v23 Sz=>
 nI v23 fun v24=>
 aC 7 v20 fun v25=>
 aN v25 Sz fun v26 Sz=>
 nI v26 fun v27=>
 aK PP .add 3 v24 v27 fun v28=>
 aC 8 v20 fun v29=>
 aN v29 Sz fun v30 Sz=>
 nI v30 fun v31=>
 aK PP .add 3 v28 v31 fun v32=>
 aC 13 v20 fun v33=>
 aN v33 Sz fun v34 Sz=>
 nI v34 fun v35=>
 aK PP .add 3 v32 v35 fun v36=>
 aK PP .quo 3 v36 (.int .i64 (.ofNat 8)) fun v37=>
 aK PP .add 3 t3 v37 fun v38=>
 iM x x.most t1 v38 v20 zI Sz K))))
theorem yJ (x:EV) (m0:Nat) (t1 t3 t4:Value) (Sz:St) (K:VK):nE x (m0+1) t1 t3 t4 Sz K=qX x m0 t1 t3 t4 Sz K:=by kernel_rfl
noncomputable def nY (x:EV) (m0:Nat) (t1 t3 t5 t6:Value) (Sz:St) (K:VK):Bool:=
 aC 14 t5 fun v0=>
 aN v0 Sz fun v1 Sz=>
 bO v1 fun v2=>
 aK PP .lss 3 t6 v2 fun v3=>
 shut x.most (aA true v3 (fun k=>k t3 Sz) Sz fun v4 Sz=>
 shut x.most (aA true v3 (fun k=>aK PP .lss 3 v4 (.int .i64 (.ofNat 9000)) fun v5=>
 k v5 Sz) Sz fun v6 Sz=>
 shut x.most (bY v3 v6 zF fun v7=>
 gD v7 (aK PP .add 3 t3 (.int .i64 (.ofNat 4)) fun v8=>
 aC 14 t5 fun v9=>
 aN v9 Sz fun v10 Sz=>
 dC 5 v10 t6 fun v11=>
 aC 4 v11 fun v12=>
 aN v12 Sz fun v13 Sz=>
 nI v13 fun v14=>
 aK PP .quo 3 v14 (.int .i64 (.ofNat 8)) fun v15=>
 aK PP .add 3 v8 v15 fun v16=>
 aK PP .add 3 t6 (.int .i64 (.ofNat 1)) fun v17=>
 iM x m0 t1 v16 t5 v17 Sz K) (kE x x.most t1 t3 zI Sz K))))
theorem uB (x:EV) (m0:Nat) (t1 t3 t5 t6:Value) (Sz:St) (K:VK):iM x (m0+1) t1 t3 t5 t6 Sz K=nY x m0 t1 t3 t5 t6 Sz K:=by kernel_rfl
noncomputable def mP (x:EV) (m0:Nat) (t1 t3 t7:Value) (Sz:St) (K:VK):Bool:=
 aC 2 t1 fun v0=>
 aC 18 v0 fun v1=>
 aN v1 Sz fun v2 Sz=>
 bO v2 fun v3=>
 aK PP .lss 3 t7 v3 fun v4=>
 shut x.most (aA true v4 (fun k=>k t3 Sz) Sz fun v5 Sz=>
 shut x.most (aA true v4 (fun k=>aK PP .lss 3 v5 (.int .i64 (.ofNat 9000)) fun v6=>
 k v6 Sz) Sz fun v7 Sz=>
 shut x.most (bY v4 v7 zF fun v8=>
 gD v8 (aK PP .add 3 t3 (.int .i64 (.ofNat 2)) fun v9=>
 aC 2 t1 fun v10=>
 aC 18 v10 fun v11=>
 aN v11 Sz fun v12 Sz=>
 dC 2 v12 t7 fun v13=>
 aC 1 v13 fun v14=>
 aN v14 Sz fun v15 Sz=>
 nI v15 fun v16=>
 aK PP .quo 3 v16 (.int .i64 (.ofNat 8)) fun v17=>
 aK PP .add 3 v9 v17 fun v18=>
 aK PP .add 3 t7 (.int .i64 (.ofNat 1)) fun v19=>
 kE x m0 t1 v18 v19 Sz K) (aK PP .geq 3 t3 (.int .i64 (.ofNat 9000)) fun v20=>
 K v20 Sz))))
theorem sP (x:EV) (m0:Nat) (t1 t3 t7:Value) (Sz:St) (K:VK):kE x (m0+1) t1 t3 t7 Sz K=mP x m0 t1 t3 t7 Sz K:=by kernel_rfl
noncomputable def kH (x:EV) (m:Nat) (t0 t3 t4:Value) (Sz:St) (K:VK):Bool:=gJ PP dD mI (x.E PP) [.r,.r,.l,.r,.d] m [] [t0,t3,t4] Sz K
noncomputable def DA (x:EV) (a0:Value) (Sz:St) (K:VK):Bool:=
 kH x x.most a0 zI zI Sz K
theorem RI (x:EV) (a0:Value) (Sz:St) (K:VK):hZ PP dD mI (x.E PP) [a0] Sz K=DA x a0 Sz K:=by kernel_rfl
noncomputable def mQ (x:EV) (m0:Nat) (t0 t3 t4:Value) (Sz:St) (K:VK):Bool:=
 bO t0 fun v0=>
 aK PP .lss 3 t4 v0 fun v1=>
 shut x.most (aA true v1 (fun k=>k t3 Sz) Sz fun v2 Sz=>
 shut x.most (aA true v1 (fun k=>aK PP .lss 3 v2 (.int .i64 (.ofNat 9000)) fun v3=>
 k v3 Sz) Sz fun v4 Sz=>
 shut x.most (bY v1 v4 zF fun v5=>
 gD v5 (aK PP .add 3 t3 (.int .i64 (.ofNat 1)) fun v6=>
 dC 1 t0 t4 fun v7=>
 aN v7 Sz fun v8 Sz=>
 nI v8 fun v9=>
 aK PP .quo 3 v9 (.int .i64 (.ofNat 8)) fun v10=>
 aK PP .add 3 v6 v10 fun v11=>
 aK PP .add 3 t4 (.int .i64 (.ofNat 1)) fun v12=>
 kH x m0 t0 v11 v12 Sz K) (K t3 Sz))))
theorem sR (x:EV) (m0:Nat) (t0 t3 t4:Value) (Sz:St) (K:VK):kH x (m0+1) t0 t3 t4 Sz K=mQ x m0 t0 t3 t4 Sz K:=by kernel_rfl
noncomputable def gY (x:EV) (m:Nat) (t0 t3 t4:Value) (Sz:St) (K:VK):Bool:=gJ PP dD kD (x.E PP) [.r,.r,.l,.r,.d] m [] [t0,t3,t4] Sz K
noncomputable def gC (x:EV) (m:Nat) (m0:Nat) (t0 t3 t4 t5:Value) (Sz:St) (K:VK):Bool:=gJ PP dD kD (x.E PP) [.r,.r,.l,.r,.d,.d,.r,.l,.d,.r,.r,.d] m [m0] [t0,t3,t4,t5] Sz K
noncomputable def CW (x:EV) (a0:Value) (Sz:St) (K:VK):Bool:=
 gY x x.most a0 zI zI Sz K
theorem RC (x:EV) (a0:Value) (Sz:St) (K:VK):hZ PP dD kD (x.E PP) [a0] Sz K=CW x a0 Sz K:=by kernel_rfl
noncomputable def mO (x:EV) (m0:Nat) (t0 t3 t4:Value) (Sz:St) (K:VK):Bool:=
 bO t0 fun v0=>
 aK PP .lss 3 t4 v0 fun v1=>
 shut x.most (aA true v1 (fun k=>k t3 Sz) Sz fun v2 Sz=>
 shut x.most (aA true v1 (fun k=>aK PP .lss 3 v2 (.int .i64 (.ofNat 9000)) fun v3=>
 k v3 Sz) Sz fun v4 Sz=>
 shut x.most (bY v1 v4 zF fun v5=>
 gD v5 (aK PP .add 3 t3 (.int .i64 (.ofNat 9)) fun v6=>
 dC 8 t0 t4 fun v7=>
 aC 3 v7 fun v8=>
 aN v8 Sz fun v9 Sz=>
 bO v9 fun v10=>
 aK PP .add 3 v6 v10 fun v11=>
 dC 8 t0 t4 fun v12=>
 aC 6 v12 fun v13=>
 aN v13 Sz fun v14 Sz=>
 bO v14 fun v15=>
 aK PP .add 3 v11 v15 fun v16=>
 dC 8 t0 t4 fun v17=>
 aC 4 v17 fun v18=>
 aN v18 Sz fun v19 Sz=>
 dC 8 t0 t4 fun v20=>
 aC 5 v20 fun v21=>
 aN v21 Sz fun v22 Sz=>
 x.C oB [v19] Sz fun v23 Sz=>
 aN v21 Sz fun v24 Sz=>
 aU v24 v22 (aN v13 Sz fun v25 Sz=>
 aU v25 v14 (aN v8 Sz fun v26 Sz=>
 aU v26 v9 (aK PP .add 3 v16 v23 fun v27=>
 x.C oB [v22] Sz fun v28 Sz=>
 aN v13 Sz fun v29 Sz=>
 aU v29 v14 (aN v8 Sz fun v30 Sz=>
 aU v30 v9 (aK PP .add 3 v27 v28 fun v31=>
 gC x x.most m0 t0 v31 t4 zI Sz K)))))) (K t3 Sz))))
theorem sO (x:EV) (m0:Nat) (t0 t3 t4:Value) (Sz:St) (K:VK):gY x (m0+1) t0 t3 t4 Sz K=mO x m0 t0 t3 t4 Sz K:=by kernel_rfl
noncomputable def iU (x:EV) (m1:Nat) (m0:Nat) (t0 t3 t4 t5:Value) (Sz:St) (K:VK):Bool:=
 dC 8 t0 t4 fun v0=>
 aC 2 v0 fun v1=>
 aN v1 Sz fun v2 Sz=>
 bO v2 fun v3=>
 aK PP .lss 3 t5 v3 fun v4=>
 shut x.most (aA true v4 (fun k=>k t3 Sz) Sz fun v5 Sz=>
 shut x.most (aA true v4 (fun k=>aK PP .lss 3 v5 (.int .i64 (.ofNat 9000)) fun v6=>
 k v6 Sz) Sz fun v7 Sz=>
 shut x.most (bY v4 v7 zF fun v8=>
 gD v8 (aK PP .add 3 t3 (.int .i64 (.ofNat 1)) fun v9=>
 dC 8 t0 t4 fun v10=>
 aC 2 v10 fun v11=>
 aN v11 Sz fun v12 Sz=>
 dC 1 v12 t5 fun v13=>
 aN v13 Sz fun v14 Sz=>
 bO v14 fun v15=>
 aK PP .add 3 v9 v15 fun v16=>
 aK PP .add 3 t5 (.int .i64 (.ofNat 1)) fun v17=>
 gC x m1 m0 t0 v16 t4 v17 Sz K) (aK PP .add 3 t4 (.int .i64 (.ofNat 1)) fun v18=>
 gY x m0 t0 t3 v18 Sz K))))
theorem mU (x:EV) (m1:Nat) (m0:Nat) (t0 t3 t4 t5:Value) (Sz:St) (K:VK):gC x (m1+1) m0 t0 t3 t4 t5 Sz K=iU x m1 m0 t0 t3 t4 t5 Sz K:=by kernel_rfl
noncomputable def kW (x:EV) (m:Nat) (t0 t3 t4:Value) (Sz:St) (K:VK):Bool:=gJ PP dD oD (x.E PP) [.r,.r,.l,.r,.d] m [] [t0,t3,t4] Sz K
noncomputable def FI (x:EV) (a0:Value) (Sz:St) (K:VK):Bool:=
 kW x x.most a0 zI zI Sz K
theorem TI (x:EV) (a0:Value) (Sz:St) (K:VK):hZ PP dD oD (x.E PP) [a0] Sz K=FI x a0 Sz K:=by kernel_rfl
noncomputable def oC (x:EV) (m0:Nat) (t0 t3 t4:Value) (Sz:St) (K:VK):Bool:=
 bO t0 fun v0=>
 aK PP .lss 3 t4 v0 fun v1=>
 shut x.most (aA true v1 (fun k=>k t3 Sz) Sz fun v2 Sz=>
 shut x.most (aA true v1 (fun k=>aK PP .lss 3 v2 (.int .i64 (.ofNat 9000)) fun v3=>
 k v3 Sz) Sz fun v4 Sz=>
 shut x.most (bY v1 v4 zF fun v5=>
 gD v5 (aK PP .add 3 t3 (.int .i64 (.ofNat 10)) fun v6=>
 dC 11 t0 t4 fun v7=>
 aC 10 v7 fun v8=>
 aN v8 Sz fun v9 Sz=>
 bO v9 fun v10=>
 aK PP .add 3 v6 v10 fun v11=>
 dC 11 t0 t4 fun v12=>
 aC 9 v12 fun v13=>
 aN v13 Sz fun v14 Sz=>
 nI v14 fun v15=>
 aK PP .quo 3 v15 (.int .i64 (.ofNat 8)) fun v16=>
 aK PP .add 3 v11 v16 fun v17=>
 aK PP .add 3 t4 (.int .i64 (.ofNat 1)) fun v18=>
 kW x m0 t0 v17 v18 Sz K) (K t3 Sz))))
theorem uF (x:EV) (m0:Nat) (t0 t3 t4:Value) (Sz:St) (K:VK):kW x (m0+1) t0 t3 t4 Sz K=oC x m0 t0 t3 t4 Sz K:=by kernel_rfl
noncomputable def kV (x:EV) (m:Nat) (t0 t3 t4:Value) (Sz:St) (K:VK):Bool:=gJ PP dD oB (x.E PP) [.r,.r,.l,.r,.d] m [] [t0,t3,t4] Sz K
noncomputable def FH (x:EV) (a0:Value) (Sz:St) (K:VK):Bool:=
 kV x x.most a0 zI zI Sz K
theorem TH (x:EV) (a0:Value) (Sz:St) (K:VK):hZ PP dD oB (x.E PP) [a0] Sz K=FH x a0 Sz K:=by kernel_rfl
noncomputable def oA (x:EV) (m0:Nat) (t0 t3 t4:Value) (Sz:St) (K:VK):Bool:=
 bO t0 fun v0=>
 aK PP .lss 3 t4 v0 fun v1=>
 shut x.most (aA true v1 (fun k=>k t3 Sz) Sz fun v2 Sz=>
 shut x.most (aA true v1 (fun k=>aK PP .lss 3 v2 (.int .i64 (.ofNat 9000)) fun v3=>
 k v3 Sz) Sz fun v4 Sz=>
 shut x.most (bY v1 v4 zF fun v5=>
 gD v5 (aK PP .add 3 t3 (.int .i64 (.ofNat 3)) fun v6=>
 dC 2 t0 t4 fun v7=>
 aC 1 v7 fun v8=>
 aN v8 Sz fun v9 Sz=>
 bO v9 fun v10=>
 aK PP .add 3 v6 v10 fun v11=>
 aK PP .add 3 t4 (.int .i64 (.ofNat 1)) fun v12=>
 kV x m0 t0 v11 v12 Sz K) (K t3 Sz))))
theorem uE (x:EV) (m0:Nat) (t0 t3 t4:Value) (Sz:St) (K:VK):kV x (m0+1) t0 t3 t4 Sz K=oA x m0 t0 t3 t4 Sz K:=by kernel_rfl
end Go.Am
namespace Go.Proofs.Cw
open Go Go.RowKit Go.Proofs
theorem aEU:∀(args:Array Value) (w:World),(callFunc 138 args).run Tryz.prog w=((Extern.AbiNoEscape.same args).run Tryz.prog w).andThen fun v w'=> .ok (.value v) w':=
 fun args w=>run_callFunc_extern Tryz.func138 (by kernel_rfl) (by kernel_rfl) (by kernel_rfl) (e:=Extern.AbiNoEscape.same) (by kernel_rfl) args w
theorem aCJ:∃j,Tryz.prog.info? 94=some j/\j.size=2:=by
 have h:(Tryz.prog.info? 94).map (·.size)=some 2:=by kernel_rfl
 obtain⟨j,hj,hs⟩:=Option.map_eq_some_iff.1 h;exact⟨j,hj,hs⟩
set_option maxHeartbeats 1000000 in
set_option maxRecDepth 100000 in
theorem aBF (b o:Nat) (w:World) (h0:w.cell? ⟨b,o,none⟩=some (.pointer (some ⟨b,o,none⟩))):
 Calls Tryz.prog 136 #[.pointer (some ⟨b,o,none⟩)] w fun e w'=>e= .returned (.tuple #[])/\w'=w:=by
 obtain⟨j,hj,_⟩:=aCJ
 go_enter Tryz.func136,Tryz.ntmps136
 go_wp2
 rw [Lib.run_neq_ptr_same w _ Tryz.underlying91 hj]
 go_wp2
 go_end0
 exact⟨rfl,rfl⟩
set_option maxHeartbeats 1000000 in
set_option maxRecDepth 100000 in
theorem Yt (b o:Nat) (T:TypeId) (cells:Nat) (w:World) (h0:w.cell? ⟨b,o,none⟩=some (.pointer none)) (hsh:w.shape? b=some (T,cells)) (hoff:o<cells)
 (hl:liesAt Tryz.prog Tryz.prog.depth T (cells / Tryz.prog.cellsOf T) o 94 1=true) (hfz:w.frozen? ⟨b,o,none⟩=false):
 Calls Tryz.prog 136 #[.pointer (some ⟨b,o,none⟩)] w fun e w'=>e= .returned (.tuple #[])/\w'=w.setCell ⟨b,o,none⟩ (.pointer (some ⟨b,o,none⟩)):=by
 obtain⟨j,hj,hjs⟩:=aCJ
 go_enter Tryz.func136,Tryz.ntmps136
 go_wp2
 rw [Lib.run_to_unsafe w ⟨b,o,none⟩ Tryz.underlying91 Tryz.underlying255 hj (by rw [hjs];decide) hsh hoff];simp only [Result.andThen];rw [Oper.upon_value]
 go_wp2
 rw [aEU];rw [Lib.run_noEscape];simp only [Result.andThen];rw [Oper.upon_value]
 go_wp2
 rw [Lib.run_from_unsafe w ⟨b,o,none⟩ Tryz.underlying255 Tryz.underlying91 hj hsh hl];simp only [Result.andThen];rw [Oper.upon_value]
 go_wp2
 go_end0
 exact⟨rfl,rfl⟩
theorem SA{P:Program}{e:TypeId} (hc:P.cellsOf e=1) (count off n:Nat) (hn:off+n<=count):liesAt P P.depth e count off e n=true:=by
 have hd:P.depth=(2*(P.types.size+Made.depth)+1)+1:=rfl;rw [hd];simp only [liesAt,Bool.or_eq_true];left;rw [hd];simp [rowAt,hc,hn,sameLayout,Nat.mod_one]
theorem JA{P:Program} (w:World) (pt it ty e:TypeId) (hp:P.underlying pt=some (.pointer e)) (hc:P.cellsOf e=1) (g o cells:Nat) (hsh:w.shape? g=some (e,cells)) (l:List UInt8) (h0:l≠[]) (hn:o+l.length<=cells) (h63:l.length<=9223372036854775807)
 (hcell:∀(j:Nat) (x:UInt8),l[j]? =some x->w.cell? ((⟨g,o,none⟩:Addr).add j)=some (.int .u8 x.toNat)):
 (Builtin.unsafeString_ #[pt,it] ty #[.pointer (some ⟨g,o,none⟩),.int .i64 l.length]).run P w= .ok (.string ⟨l.toArray⟩) (w.freeze ⟨g,o,none⟩ l.length):=by
 have hl:l.length≠0:=by simpa using h0
 have hlb:=Lib.run_loadBytes (P:=P) w l ⟨g,o,none⟩ .empty hcell;have hlies:=SA (P:=P) hc (cells / P.cellsOf e) o l.length (by rw [hc];simpa using hn);have h63':¬(9223372036854775807:Int)<(l.length:Int):=by omega
 have hmax:IntKind.i64.max=9223372036854775807:=rfl;have hneg:¬((l.length:Int)<0):=by omega
 have he0:ByteArray.empty.data= #[]:=rfl;rw [he0]at hlb;change Sem.run P ((asInt (.int .i64 l.length))>>=_) w=_;simp [asInt,asIntOf,hmax,hneg,h63',h0,variablesAt,hsh,elemOf,run_underlying hp,hlies,hlb]
theorem mixed:Tryz.prog.follows .mixedOrders=true:=by kernel_rfl
set_option maxHeartbeats 2000000 in
set_option maxRecDepth 100000 in
theorem str_some (b o g p cap cells:Nat) (l:List UInt8) (w:World) (h1:w.cell? ⟨b,o+1,none⟩=some (.slice (some ⟨g,p,none⟩) l.length cap)) (h0:l≠[]) (hcap:cap≠0) (hsh:w.shape? g=some (5,cells)) (hn:p+l.length<=cells) (h63:l.length<=9223372036854775807)
 (hcell:∀(j:Nat) (x:UInt8),l[j]? =some x->w.cell? ((⟨g,p,none⟩:Addr).add j)=some (.int .u8 x.toNat)):
 Calls Tryz.prog 30 #[.pointer (some ⟨b,o,none⟩)] w fun e w'=>e= .returned (.string ⟨l.toArray⟩)/\w'=w.drew.freeze ⟨g,p,none⟩ l.length:=by
 have c1:w.drew.cell? ⟨b,o+1,none⟩=some (.slice (some ⟨g,p,none⟩) l.length cap):=h1;have hSD:∀ts ty,(Builtin.unsafeSliceData_ ts ty #[.slice (some ⟨g,p,none⟩) l.length cap]).run Tryz.prog w.drew= .ok (.pointer (some ⟨g,p,none⟩)) w.drew:=fun ts ty=>Lib.run_unsafeSliceData_row _ _ _ _ _ _ hcap;have hU8:Tryz.prog.cellsOf 5=1:=by kernel_rfl
 have hUS:∀it ty,(Builtin.unsafeString_ #[166,it] ty #[.pointer (some ⟨g,p,none⟩),.int .i64 l.length]).run Tryz.prog w.drew= .ok (.string ⟨l.toArray⟩) (w.drew.freeze ⟨g,p,none⟩ l.length):=fun it ty=>
  JA w.drew 166 it ty 5 Tryz.underlying166 hU8 g p cells hsh l h0 hn h63 hcell
 have mixed:=mixed
 go_enter Tryz.func30,Tryz.ntmps30
 go_wp2
 go_region_o
 all_goals (go_wp2;go_ret;exact⟨rfl,rfl⟩)
set_option maxHeartbeats 2000000 in
set_option maxRecDepth 100000 in
theorem aBG (b o c:Nat) (w:World) (h1:w.cell? ⟨b,o+1,none⟩=some (.slice none 0 c)):
 Calls Tryz.prog 30 #[.pointer (some ⟨b,o,none⟩)] w fun e w'=>e= .returned (.string ⟨#[]⟩)/\w'=w.drew:=by
 have c1:w.drew.cell? ⟨b,o+1,none⟩=some (.slice none 0 c):=h1;have hSD:∀ts ty,(Builtin.unsafeSliceData_ ts ty #[.slice none 0 c]).run Tryz.prog w.drew= .ok (.pointer none) w.drew:=fun ts ty=>rfl;have hUS:∀pt it ty,(Builtin.unsafeString_ #[pt,it] ty #[.pointer none,.int .i64 0]).run Tryz.prog w.drew= .ok (.string .empty) w.drew:=fun pt it ty=>Lib.run_unsafeString_none _ _ _ _ _;have mixed:=mixed
 go_enter Tryz.func30,Tryz.ntmps30
 go_wp2
 go_region_o
 all_goals (go_wp2;go_ret;exact⟨rfl,rfl⟩)
end Go.Proofs.Cw
namespace Go.Am
open Go.RowKit Go.MapKept Go.Proofs Go.Proofs.Cw
noncomputable def Nl (args:List Value) (Sz:St) (K:VK):Bool:=
 match args with
 | [.pointer (some ⟨i,o,none⟩)]=>lD Sz i fun vs e ck=>xJ vs o fun v=>match v with
  | .pointer none=>match ck with
   | .exact=>mJ vs fun m=>match liesAt Tryz.prog Tryz.prog.depth e (Nat.div m (Tryz.prog.cellsOf e)) o 94 1 with
    | true=>eX Sz i o [.pointer (some ⟨i,o,none⟩)] fun Sz=>K (.tuple ⟨[]⟩) Sz
    | false=>false
   | _=>false
  | .pointer (some ⟨j,p,none⟩)=>match Nat.beq i j,Nat.beq o p with
   | true,true=>K (.tuple ⟨[]⟩) Sz
   | _,_=>false
  | _=>false
 | _=>false
noncomputable def PF (l:List Value) (k:List UInt8->Bool):Bool:=
 gZ (β:=(List UInt8->Bool)->Bool) (fun k=>k []) (fun v _ ih k=>match v with
  | .int .u8 (.ofNat n)=>match Nat.blt n 256 with
   | true=>ih fun t=>k (UInt8.ofNat n::t)
   | false=>false
  | _=>false) l k
theorem Fu:∀{l:List Value} {k:List UInt8->Bool},PF l k=true->∃bs:List UInt8,k bs=true/\l=bs.map (fun b=> .int .u8 (b.toNat:Int)):=by
 intro l;induction l with
 | nil=>intro k hk;exact⟨[],hk,rfl⟩
 | cons v l ih=>
  intro k hk;unfold PF at hk;rw [cE]at hk;split at hk
  ·rename_i n
   split at hk
   ·rename_i hn
    have hn:n<256:=Nat.le_of_ble_eq_true hn;obtain⟨bs,h1,h2⟩:=ih (k:=fun t=>k (UInt8.ofNat n::t)) hk;refine⟨UInt8.ofNat n::bs,h1,?_⟩;rw [List.map_cons,<-h2];have:(UInt8.ofNat n).toNat=n:=by rw [UInt8.toNat_ofNat'];omega
    rw [this];rfl
   ·cases hk
  ·cases hk
noncomputable def Jl (args:List Value) (Sz:St) (K:VK):Bool:=
 match args with
 | [.pointer (some ⟨i,o,none⟩)]=>lD Sz i fun vs _ _=>xJ vs (Nat.succ o) fun v=>match v with
  | .slice none 0 _=>K (.string ⟨⟨[]⟩⟩) Sz
  | .slice (some ⟨j,p,some 0⟩) (n+1) _=>uI Sz.h j fun ob=>match ob with
   | .cells ws e (.grown _)=>match Nat.beq e 5,Nat.ble (n+1) 9223372036854775807 with
    | true,true=>oE p ws fun l=>uJ (Nat.succ n) l fun l=>PF l fun bs=>uG Sz j (.cells ws e .ro) fun Sz=>K (.string ⟨⟨bs⟩⟩) Sz
    | _,_=>false
   | _=>false
  | _=>false
 | _=>false
section
variable{w0:World}{U:Rn}{Sz:St}{w:World}
theorem tH{l:List Value}{i:Nat}{k:Value->Bool} (h:xJ l i k=true):∃v,l[i]? =some v/\k v=true:=by
 rw [El]at h;split at h
 ·rename_i v hv;exact⟨v,hv,h⟩
 ·cases h
theorem WR{a:Value}{args':List Value} (h:gO U [a] args'):∃a',args'=[a']/\VR U a a':=by
 obtain⟨a',t,rfl,h1,h2⟩:=h.dI;cases h2.jY;exact⟨a',rfl,h1⟩
theorem aDq:cN Tryz.prog 5=some 1:=by kernel_rfl
theorem aBH:iD Tryz.prog w0 (fun f' args Sz K=>match Nat.beq f' 136 with | true=>Nl args Sz K | false=>false):=by
 intro f' args Sz K U w args' hk h ha;dsimp only at hk;split at hk
 ·rename_i hf'
  obtain rfl:f'=136:=by simpa using hf'
  refine⟨enters_of Tryz.func136 (by kernel_rfl) rfl ⟨args'⟩,?_⟩;unfold Nl at hk;split at hk
  ·rename_i i o
   obtain⟨a',rfl,hv⟩:=WR ha;obtain⟨_,L,hL,rfl⟩:=hv.sV;obtain⟨vs,e,ck,ho,hk⟩:=kX hk;obtain⟨v,hvo,hk⟩:=tH hk;obtain⟨cs,t,fz,hb,hcv,hkind⟩:=h.cells ho hL;obtain⟨v',hv',Xo⟩:=hcv o v hvo;have hcell:w.cell? ⟨L.b,L.s+o,none⟩=some v':=cell_of hb hv';split at hk
   ·cases Xo.of_flat rfl
    split at hk
    ·obtain⟨g1,g2,g3,g4,g5⟩:=hkind
     rw [cV]at hk;split at hk
     ·rename_i hl
      obtain⟨S',w',hk,r1,r2,hrun⟩:=kP h hk hL (gO.cons (VR.ptr (o:=o) hL) (.nil U)) (by intro v hv;simp at hv;subst hv;rfl);have hsh:w.shape? L.b=some (e,cs.size):=by simp [World.shape?,hb,g5]
      have hoff:L.s+o<cs.size:=(Array.getElem?_eq_some_iff.1 hv').1
      have hfz:w.frozen? ⟨L.b,L.s+o,none⟩=false:=by
       have:=g4 (L.s+o) hoff;simp only [World.frozen?,hb];simpa using this
      have hset:(storeCells ⟨L.b,L.s+o,none⟩ [.pointer (some ⟨L.b,L.s+o,none⟩)]).run Tryz.prog w= .ok () (w.setCell ⟨L.b,L.s+o,none⟩ (.pointer (some ⟨L.b,L.s+o,none⟩))):=by
       simp only [storeCells,iC,Nat.add_zero];rw [Sem.run_bind,run_store Tryz.prog w _ _ .plain rfl,hcell,hfz];rfl
      rw [hset]at hrun;injection hrun with _ hrun;subst hrun;refine callsIn_wide.2 ((Yt L.b (L.s+o) e cs.size w hcell hsh hoff ?_ hfz).mono ?_)
      ·rw [g2,Nat.zero_add,g3];exact hl
      ·rintro e w' ⟨rfl,rfl⟩
       exact⟨_,rfl,U,.tuple ⟨[]⟩,S',hk,.uQ (.nil U),r1,r2⟩
     ·cases hk
    ·cases hk
   ·rename_i j p
    split at hk
    ·rename_i h1 h2
     have h1:=Nat.eq_of_beq_eq_true h1;have h2:=Nat.eq_of_beq_eq_true h2;subst h1 h2;obtain⟨_,M,hM,rfl⟩:=Xo.sV;rw [hL]at hM;injection hM with hM;subst hM;refine callsIn_wide.2 ((aBF L.b (L.s+o) w hcell).mono ?_)
     rintro e w' ⟨rfl,rfl⟩
     exact⟨_,rfl,U,.tuple ⟨[]⟩,Sz,hk,.uQ (.nil U),h,.refl U _⟩
    ·cases hk
   ·cases hk
  ·cases hk
 ·cases hk
theorem Rel.freeze{P:Program} (h:Rel P w0 U Sz w){j:Nat}{L:Loc} (hL:U j=some L){ws:List Value}{e:TypeId}{olds:List Nat} (ho:Sz.obj j=some (.cells ws e (.grown olds))){cs:Array Value}{t:TypeId}{fz:Nat×Nat} (hb:w.heap[L.b]? =some (.cells cs t fz))
 {w':World} {fz':Nat×Nat} (hw':w'.heap[L.b]? =some (.cells cs t fz')) (hsz:w'.heap.size=w.heap.size) (hother:∀c,c≠L.b->w'.heap[c]? =w.heap[c]?) (hos:w'.os=w.os) (htape:w'.tape=w.tape) (hout:w'.output=w.output):
 Rel P w0 U (Sz.set j (.cells ws e .ro)) w'/\Stp U w U w':=by
 obtain⟨cs1,t1,fz1,hb1,hcv,hkind⟩:=h.cells ho hL;rw [hb]at hb1;injection hb1 with hb1;injection hb1 with q1 q2 q3;subst q1 q2 q3;obtain⟨g1,g2,g3,g4,g5⟩:=hkind
 have hset:∀i x,(Sz.set j (.cells ws e .ro)).obj i=some x->(i=j/\x= .cells ws e .ro)\/(i≠j/\Sz.obj i=some x):=fun i x hx=>by
  rw [wZ]at hx;split at hx
  ·rename_i e1;injection hx with hx;exact .inl ⟨e1,hx.symm⟩
  ·rename_i e1;exact .inr ⟨e1,hx⟩
 have others:∀i x M,i≠j->Sz.obj i=some x->x.qK=false->U i=some M->M.b=L.b->∃us u,x= .cells us u .stale:=by
  intro i x M hij hx hd hM Qd;rcases h.sep j i _ x L M (Ne.symm hij) ho hx rfl hd hL hM Qd.symm with ⟨k1,_⟩ | k1 | k1
  ·cases k1
  ·obtain⟨_,k2⟩:=h.old j ws e olds ho i k1
   rcases k2 x hx with k3 | ⟨us,u,k3,_⟩
   ·rw [k3]at hd;cases hd
   ·exact⟨us,u,k3⟩
  ·cases x with
   | cells us u kk=>
    cases kk with
    | grown l=>
     obtain⟨_,k2⟩:=h.old i us u l hx j k1;rcases k2 _ ho with k3 | ⟨_,_,k3,_⟩
     ·cases k3
     ·injection k3 with _ _ k3;cases k3
    | _=>cases k1
   | _=>cases k1
 refine h.upd (b:=L.b) g1 ⟨j,L,hL,rfl⟩ rfl hsz hother hos htape hout (fun i x hx=>?_) (fun i k x y M N hik hx hy Sn hdy hM hN OK=>?_) (fun i us u l hi q hq=>?_)
 ·rcases hset i x hx with ⟨rfl,rfl⟩ | ⟨hij,hx⟩
  ·exact .inr (.inr ⟨h.lt _ _ ho,L,cs,t,fz',hL,hw',hcv,g4⟩)
  ·cases hd:x.qK with
   | true=>exact .inl ⟨rfl,h.lt _ _ hx⟩
   | false=>
    obtain⟨M,hM⟩:=(h.DU i x hx).loc hd;by_cases Qd:M.b=L.b
    ·obtain⟨us,u,rfl⟩:=others i x M hij hx hd hM Qd
     obtain⟨M',cs2,t2,fz2,k1,k2,k3,k4⟩:=h.DU i _ hx;rw [hM]at k1;injection k1 with k1;subst k1;rw [Qd,hb]at k2;injection k2 with k2;injection k2 with k2 k2a k2b;subst k2 k2a k2b;exact .inr (.inr ⟨h.lt _ _ hx,M,cs,t,fz',hM,by rw [Qd];exact hw',k3,k4⟩)
    ·exact .inr (.inl ⟨hx,fun M' hM'=>by rw [hM]at hM';injection hM' with hM';subst hM';exact Qd⟩)
 ·rcases hset i x hx with ⟨e1,e2⟩ | ⟨hij,hx1⟩<;>rcases hset k y hy with ⟨f1,f2⟩ | ⟨hkj,hy1⟩
  ·exact absurd (e1.trans f1.symm) hik
  ·rw [e1,hL]at hM;injection hM with hM;subst hM
   obtain⟨us,u,e3⟩:=others k y N hkj hy1 hdy hN OK.symm;rw [e2,e3];exact .inl ⟨rfl,rfl⟩
  ·rw [f1,hL]at hN;injection hN with hN;subst hN
   obtain⟨us,u,e3⟩:=others i x M hij hx1 Sn hM OK;rw [f2,e3];exact .inl ⟨rfl,rfl⟩
  ·exact h.sep i k x y M N hik hx1 hy1 Sn hdy hM hN OK
 ·rcases hset i _ hi with ⟨_,k1⟩ | ⟨hij,hi⟩
  ·injection k1 with _ _ k1;cases k1
  ·obtain⟨k1,k2⟩:=h.old i us u l hi q hq
   refine⟨k1,fun x hx=>?_⟩;rcases hset q x hx with ⟨rfl,rfl⟩ | ⟨_,hx⟩
   ·rcases k2 _ ho with k3 | ⟨_,_,k3,_⟩
    ·cases k3
    ·injection k3 with _ _ k3;cases k3
   ·exact k2 x hx
theorem Yw:iD Tryz.prog w0 (fun f' args Sz K=>match Nat.beq f' 30 with | true=>Jl args Sz K | false=>false):=by
 intro f' args Sz K U w args' hk h ha;dsimp only at hk;split at hk
 ·rename_i hf'
  obtain rfl:f'=30:=by simpa using hf'
  refine⟨enters_of Tryz.func30 (by kernel_rfl) rfl ⟨args'⟩,?_⟩;unfold Jl at hk;split at hk
  ·rename_i i o
   obtain⟨a',rfl,hv⟩:=WR ha;obtain⟨_,L,hL,rfl⟩:=hv.sV;obtain⟨vs,e,ck,ho,hk⟩:=kX hk;obtain⟨v,hvo,hk⟩:=tH hk;obtain⟨v',hv',Xo⟩:=h.Iz ho hL hvo;have hv1:w.cell? ⟨L.b,L.s+o+1,none⟩=some v':=hv';split at hk
   ·cases Xo.of_flat rfl
    refine callsIn_wide.2 ((aBG L.b (L.s+o) _ w hv1).mono ?_)
    rintro e w' ⟨rfl,rfl⟩
    exact⟨_,rfl,U,_,Sz,hk,.flat rfl,h.drew,Stp.drew U _⟩
   ·rename_i j p n c
    obtain⟨ob,hob,hk⟩:=Ue hk;split at hk
    ·rename_i ws e2 olds
     split at hk
     ·rename_i he hn63
      have he:=Nat.eq_of_beq_eq_true he;subst he;have hn63:=Nat.le_of_ble_eq_true hn63;rcases Xo.iN with ⟨M,c',hM,rfl,⟨hsp,_⟩ | ⟨_,hcc,hnc,hend,hmp⟩⟩ | ⟨⟨_,hsp⟩,_⟩
      ·cases hsp
      ·have aDr:Sz.obj j=some (.cells ws 5 (.grown olds)):=hob
       rw [eH]at hk;split at hk
       ·rename_i aHx
        rw [fL]at hk;split at hk
        ·rename_i htl
         obtain⟨bs,hk,hbs⟩:=Fu hk;rw [jX]at hk;obtain⟨l',hl',hlen,hc⟩:=h.wF (off:=p) (n:=n+1) aDr hM (by simp at htl;omega);have e0:List.take (n+1) (List.drop p ws)=bs.map (fun b:UInt8=>Value.int .u8 (b.toNat:Int)):=hbs;rw [e0]at hl';have hl'':=hl'.Eg (by simp [cD]);obtain⟨cs,t,fz,hb,hcv,g1,g2,g3,g4,g5⟩:=h.cells aDr hM;subst g5;have hM1:M.m=1:=by rw [aDq]at g4;injection g4 with g4;exact g4.symm
         have hsh:w.shape? M.b=some (5,cs.size):=by simp [World.shape?,hb]
         have hnl:bs.length=n+1:=by
          have:=congrArg List.length e0;simp at this htl;omega
         rw [hM1]at hend
         have:=str_some L.b (L.s+o) M.b (M.s+p) c' cs.size bs w (by rw [hnl];exact hv1) (by intro h0;rw [h0]at hnl;simp at hnl) (by omega) hsh (by rw [hnl,<-g3,<-hend];omega) (by rw [hnl];exact hn63)
          (fun q x hq=>hc q _ (by rw [hl''];simp [hq]))
         refine callsIn_wide.2 (this.mono ?_)
         rintro e w' ⟨rfl,rfl⟩
         have hfr:(w.drew.freeze ⟨M.b,M.s+p,none⟩ bs.length).heap=w.heap.modify M.b fun
          | .cells c elem (lo,hi)=> .cells c elem (if lo==hi then(M.s+p,M.s+p+bs.length)else(min lo (M.s+p),max hi (M.s+p+bs.length)))
          | o=>o:=by
          unfold World.freeze;rw [if_neg (by omega)];rfl
         obtain⟨r1,r2⟩:=h.freeze hM aDr hb (w':=w.drew.freeze ⟨M.b,M.s+p,none⟩ bs.length) (fz':=if fz.1==fz.2 then(M.s+p,M.s+p+bs.length)else(min fz.1 (M.s+p),max fz.2 (M.s+p+bs.length)))
          (by rw [hfr,Array.getElem?_modify,if_pos rfl,hb];rfl) (by rw [hfr];simp) (fun c hc=>by rw [hfr,Array.getElem?_modify,if_neg (Ne.symm hc)])
          (by unfold World.freeze;split<;>rfl) (by unfold World.freeze;split<;>rfl) (by unfold World.freeze;split<;>rfl)
         exact⟨_,rfl,U,_,_,hk,.flat rfl,r1,r2⟩
        ·cases hk
       ·cases hk
      ·cases hsp
     ·cases hk
    ·cases hk
   ·cases hk
  ·cases hk
 ·cases hk
end
end Go.Am
namespace Go.Proofs.jB
open Go Go.RowKit Go.Proofs
def pJ (e:Int):PanicEntry:={v:= .iface 219 (.agg #[.int .i64 e]),recovered:=false}
theorem PG (e:Int) (w:World):Calls Tryz.prog 72 #[.bool true,.int .i64 e] w fun r w'=>r= .returned (.tuple #[])/\w'=w:=by
 go_enter Tryz.func72,Tryz.ntmps72
 go_wp2
 go_end0
 exact⟨rfl,rfl⟩
theorem PH (e:Int) (w:World):Calls Tryz.prog 72 #[.bool false,.int .i64 e] w fun r w'=>r= .panicked [pJ e]/\w'=w:=by
 go_enter Tryz.func72,Tryz.ntmps72
 go_wp2
 exact⟨rfl,rfl,rfl⟩
set_option maxHeartbeats 1000000 in
theorem Rh (bp n:Nat) (s:ByteArray) (w:World) (hc:w.cell? ⟨bp,0,none⟩=some (.string s)) (hz:w.frozen? ⟨bp,0,none⟩=false) (hn:n<=s.size) (_hs:s.size<9223372036854775808):
 Calls Tryz.prog 167 #[.pointer (some ⟨bp,0,none⟩),.int .i64 n] w fun r w'=>r= .returned (.string (s.extract 0 n))/\w'=w.setCell ⟨bp,0,none⟩ (.string (s.extract n s.size)):=by
 go_enter Tryz.func167,Tryz.ntmps167
 go_wp2_with (go_at_call 72;refine(PG _ _).mono ?_;rintro e w' ⟨rfl,rfl⟩)
 go_ret
 exact⟨rfl,rfl⟩
set_option maxHeartbeats 1000000 in
theorem YZ (bp n:Nat) (s:ByteArray) (w:World) (hc:w.cell? ⟨bp,0,none⟩=some (.string s)) (hn:s.size<n) (_hs:s.size<9223372036854775808):
 Calls Tryz.prog 167 #[.pointer (some ⟨bp,0,none⟩),.int .i64 n] w fun r w'=>r= .panicked [pJ 8]/\w'=w:=by
 have hle:decide (n<=s.size)=false:=by simp;omega
 go_enter Tryz.func167,Tryz.ntmps167
 go_wp2_with (go_at_call 72;refine(PH _ _).mono ?_;rintro e w' ⟨rfl,rfl⟩)
 exact⟨rfl,rfl,rfl⟩
def be (l:List UInt8):Nat:=l.foldl (fun a b=>a*256+b.toNat) 0
theorem Ga (l:List UInt8) (b:UInt8):be (l++[b])=be l*256+b.toNat:=by unfold be;rw [List.foldl_append];rfl
theorem aEW:∀(l:List UInt8) (a n:Nat),a<256 ^ n->l.foldl (fun a b=>a*256+b.toNat) a<256 ^ (n+l.length):=by
 intro l;induction l with
 | nil=>intro a n h;exact h
 | cons b l ih=>
  intro a n h;have hb:=b.toNat_lt;have:=ih (a*256+b.toNat) (n+1) (by rw [Nat.pow_succ];omega);rw [List.length_cons,show n+(l.length+1)=n+1+l.length by omega];exact this
theorem MH (l:List UInt8):be l<256 ^ l.length:=by
 have:=aEW l 0 0 (by decide);rw [Nat.zero_add]at this;exact this
theorem aDB (l:List UInt8) (h:l.length<=7):be l<72057594037927936:=Nat.lt_of_lt_of_le (MH l) (Nat.pow_le_pow_right (by decide) h:256 ^ l.length<=256 ^ 7)
theorem aBN (a b:Nat) (hb:b<256):(a*256) ||| b=a*256+b:=by
 have:=Nat.two_pow_add_eq_or_of_lt (i:=8) (b:=b) hb a;rw [Nat.mul_comm a 256];exact this.symm
theorem Gb (s:ByteArray) (cap k:Nat) (hk:k<s.size):(bytesRow s cap)[k]? =some (.int .u8 (s[k].toNat:Int)):=by
 unfold bytesRow;have hs:k<(s.data.map (fun b=>Value.int .u8 (b.toNat:Int))).size:=by simpa using hk
 rw [Array.getElem?_append_left hs];simp [Array.getElem?_map];exact⟨s[k],by rw [Array.getElem?_eq_getElem (by simpa using hk)];rfl,rfl⟩
def Num (bp:Nat) (v:Value) (x:Nat) (aHw:ByteArray) (w:World) (r:Ending) (w':World):Prop:=r= .returned (.int .u64 x)/\Below w.heap.size (w.setCell ⟨bp,0,none⟩ v) w'
theorem wM (bp n:Nat) (s:ByteArray) (w:World) (hc:w.cell? ⟨bp,0,none⟩=some (.string s)) (hz:w.frozen? ⟨bp,0,none⟩=false) (hn:n<=s.size) (hs:s.size<9223372036854775808) (h8:n<=8):
 Calls Tryz.prog 157 #[.pointer (some ⟨bp,0,none⟩),.int .i64 n] w (Num bp (.string (s.extract n s.size)) (be (s.extract 0 n).data.toList) (s.extract n s.size) w):=by
 have hconv:∀(w:World) (s:ByteArray),(convert 9 92 (.string s)).run Tryz.prog w= .ok (.slice (some ⟨w.heap.size,0,none⟩) s.size (grownCap w s.size 0 5))
  (w.drew.alloc (.cells (bytesRow s (grownCap w s.size 0 5)) 5 ((bytesRow s (grownCap w s.size 0 5)).size,(bytesRow s (grownCap w s.size 0 5)).size+1))):=fun w s=>
  run_bytes_of_string w 9 92 5 s Tryz.underlying9 Tryz.underlying92 Tryz.underlying5
 generalize hx:s.extract 0 n=x;have hxs:n=x.size:=by rw [<-hx,ByteArray.size_extract];omega
 have T:=Rh bp n s w hc hz hn hs;rw [hx]at T;generalize hw1:w.setCell ⟨bp,0,none⟩ (.string (s.extract n s.size))=w1 at T;generalize s.extract n s.size=rest at*;subst hxs;have HW:=Go.Lib.hid hw1;clear hx hw1 hc hz hn hs
 go_enter Tryz.func157,Tryz.ntmps157
 go_wp2_with (go_at_call 167;refine T.mono ?_;rintro e w' ⟨rfl,hw'⟩;obtain rfl:w1=w':=hw'.symm)
 generalize hrow:(Obj.cells (bytesRow x (grownCap _ x.size 0 5)) 5 ((bytesRow x (grownCap _ x.size 0 5)).size,(bytesRow x (grownCap _ x.size 0 5)).size+1))=row
 have HB:Hid (∀k (hk:k<x.size),(w1.alloc row).drew.cell? ⟨w1.heap.size,k,none⟩=some (.int .u8 (x[k].toNat:Int))):=Go.Lib.hid fun k hk=>by
  have h1:(w1.alloc row).drew.heap[w1.heap.size]? =some row:=by
   show(w1.heap.push row)[w1.heap.size]? =_;simp
  rw [<-hrow]at h1;have h2:=Gb x (grownCap w1 x.size 0 5) k hk;simp only [World.cell?,<-hrow,h1,h2];rfl
 clear hrow hconv
 go_loop [5,13] (fun v i=>∃k:Nat,k<=x.size/\i= .int .i64 k/\v= .int .u64 (be (x.data.toList.take k):Nat)) (fun _ i=>x.size-(intOf i).toNat)
 case atStart=>exact⟨0,Nat.zero_le _,rfl,rfl⟩
 case round=>
  obtain⟨k,hk,rfl,rfl⟩:=hrel;by_cases hlt:k<x.size
  ·have hbk:=HB.out k hlt
   have h7:be (x.data.toList.take k)<72057594037927936:=aDB _ (by simp;omega);generalize hb:be (x.data.toList.take k)=a at*
   go_wp2
   refine⟨⟨k+1,by omega,by go_num,?_⟩,by simp [intOf];omega⟩;have hb8:=x[k].toNat_lt
   have ht:List.take (k+1) x.data.toList=List.take k x.data.toList++[x[k]]:=by
    rw [List.take_succ_eq_append_getElem (by simpa using hlt)];rfl
   have e1:IntKind.u64.wrap ((x[k].toNat:Nat):Int)=((x[k].toNat:Nat):Int):=by rw [IntKind.wrap_u64];omega
   have e2:((a:Int)*256)=((a*256:Nat):Int):=by omega
   rw [ht,Ga,hb,e1,e2,bits_or_u64_nat _ _ (by omega) (by omega),aBN _ _ hb8]
  ·go_wp2
   go_ret
   have hkk:k=x.size:=by omega
   refine⟨?_,?_⟩
   ·rw [hkk,List.take_of_length_le (by simp)];rfl
   ·have hw:w.setCell ⟨bp,0,none⟩ (.string rest)=w1:=HW
    rw [hw];have hsz:w.heap.size<=w1.heap.size:=by rw [<-hw];simp [World.setCell]
    exact((Below.refl _ w1).alloc hsz row).drew
theorem zX (bp n:Nat) (s:ByteArray) (w:World) (hc:w.cell? ⟨bp,0,none⟩=some (.string s)) (hn:s.size<n) (hs:s.size<9223372036854775808):
 Calls Tryz.prog 157 #[.pointer (some ⟨bp,0,none⟩),.int .i64 n] w fun r w'=>r= .panicked [pJ 8]/\w'=w:=by
 have T:=YZ bp n s w hc hn hs;clear hc hn hs
 go_enter Tryz.func157,Tryz.ntmps157
 go_wp2_with (go_at_call 167;refine T.mono ?_;rintro e w' ⟨rfl,rfl⟩)
 exact⟨rfl,rfl,rfl⟩
theorem mixed:Tryz.prog.follows .mixedOrders=true:=by kernel_rfl
set_option maxHeartbeats 400000 in
theorem aDC (pv rv xv ev pb rb ro:Nat) (s:ByteArray) (w:World) (h1:w.cell? ⟨pv,0,none⟩=some (.pointer (some ⟨pb,0,none⟩))) (h2:w.cell? ⟨rv,0,none⟩=some (.pointer (some ⟨rb,ro,none⟩)))
 (h3:w.cell? ⟨pb,0,none⟩=some (.string s)) (old:Value) (h4:w.cell? ⟨rb,ro,none⟩=some old) (h5:w.frozen? ⟨rb,ro,none⟩=false):
 CallsD Tryz.prog 170 #[.pointer (some ⟨pv,0,none⟩),.pointer (some ⟨rv,0,none⟩),.pointer (some ⟨xv,0,none⟩),.pointer (some ⟨ev,0,none⟩)] .returning w fun e u' w'=>
  e= .returned (.tuple #[])/\u'= .returning/\w'=w.drew.setCell ⟨rb,ro,none⟩ (.string s):=by
 have mixed:=mixed;refine callsD_of_wpS Tryz.func170 rfl fun c₀ cs hu=>?_;apply wpS_seq;apply wpS_region;simp [wpOpsS,go_sem,recoverD,hu,Tryz.ntmps170,Exit.thenS];have hnil:∀w:World,(binOp BinOp.eql 20 .nilIface .nilIface).run Tryz.prog w= .ok (.bool true) w:=fun _=>by kernel_rfl
 have g1:w.drew.cell? ⟨pv,0,none⟩=some (.pointer (some ⟨pb,0,none⟩)):=h1;have g2:w.drew.cell? ⟨rv,0,none⟩=some (.pointer (some ⟨rb,ro,none⟩)):=h2;have g3:w.drew.cell? ⟨pb,0,none⟩=some (.string s):=h3;have g4:w.drew.cell? ⟨rb,ro,none⟩=some old:=h4;have g5:w.drew.frozen? ⟨rb,ro,none⟩=false:=h5;refine wpS_of_wp ?_;have ht:(#[.pointer (some ⟨pv,0,none⟩),.pointer (some ⟨rv,0,none⟩),.pointer (some ⟨xv,0,none⟩),.pointer (some ⟨ev,0,none⟩)]++(Array.replicate 28 undef).setIfInBounds 4 Value.nilIface:Array Value)= #[.pointer (some ⟨pv,0,none⟩),.pointer (some ⟨rv,0,none⟩),.pointer (some ⟨xv,0,none⟩),.pointer (some ⟨ev,0,none⟩),undef,undef,undef,undef,.nilIface,undef,undef,undef,undef,undef,undef,undef,undef,undef,undef,undef,undef,undef,undef,undef,undef,undef,undef,undef,undef,undef,undef,undef]:=by simp [Array.replicate,List.replicate]
 rw [ht]
 go_wp2
 go_region_o
 all_goals
  go_wp2
 cases c₀
 simp_all [bodyPostS,results,Tryz.results170]
set_option maxHeartbeats 2000000 in
theorem Zj (pv rv xv ev rb ro:Nat) (er:Int) (w:World) (h2:w.cell? ⟨rv,0,none⟩=some (.pointer (some ⟨rb,ro,none⟩)))
 (ox oe os Zk:Value) (h4:w.cell? ⟨xv,0,none⟩=some ox) (h5:w.frozen? ⟨xv,0,none⟩=false) (h6:w.cell? ⟨ev,0,none⟩=some oe) (h7:w.frozen? ⟨ev,0,none⟩=false)
 (h8:w.cell? ⟨rb,ro,none⟩=some os) (h9:w.frozen? ⟨rb,ro,none⟩=false) (h10:w.cell? ⟨rb,ro+1,none⟩=some Zk) (h11:w.frozen? ⟨rb,ro+1,none⟩=false)
 (d1:xv≠rv) (d2:ev≠rv) (d3:xv≠ev) (d4:xv≠rb) (d5:ev≠rb) (d6:rb≠rv) (l1:rv<w.heap.size) (l2:xv<w.heap.size) (l3:ev<w.heap.size) (l4:rb<w.heap.size):
 CallsD Tryz.prog 170 #[.pointer (some ⟨pv,0,none⟩),.pointer (some ⟨rv,0,none⟩),.pointer (some ⟨xv,0,none⟩),.pointer (some ⟨ev,0,none⟩)] (.panicking [{pJ er with recovered:=false}]) w fun e u' w'=>
  e= .returned (.tuple #[])/\u'= .panicking [{pJ er with recovered:=true}]/\
  w'=(((((w.alloc (.cells #[.int .i64 er] 219)).setCell ⟨xv,0,none⟩ (.int .u64 0)).setCell ⟨ev,0,none⟩ (.int .i64 er)).drew.setCell ⟨rb,ro,none⟩ (.string ⟨#[]⟩)).setCell ⟨rb,ro+1,none⟩ (.int .i64 er)).drew:=by
 have mixed:=mixed;unfold pJ;refine callsD_of_wpS Tryz.func170 rfl fun c₀ cs hu=>?_;apply wpS_seq;apply wpS_region;simp [wpOpsS,go_sem,recoverD,hu,Tryz.ntmps170,Exit.thenS];have hnil:∀w:World,(binOp BinOp.eql 20 (.iface 219 (.agg #[.int .i64 er])) .nilIface).run Tryz.prog w= .ok (.bool false) w:=fun _=>by kernel_rfl
 have hta:∀w:World,(Instr.typeAssert (.iface 219 (.agg #[.int .i64 er])) 20 219 true).run Tryz.prog w= .ok (.tuple #[.agg #[.int .i64 er],.bool true]) w:=fun _=>by kernel_rfl
 refine wpS_of_wp ?_;have ht:(#[.pointer (some ⟨pv,0,none⟩),.pointer (some ⟨rv,0,none⟩),.pointer (some ⟨xv,0,none⟩),.pointer (some ⟨ev,0,none⟩)]++(Array.replicate 28 undef).setIfInBounds 4 (.iface 219 (.agg #[.int .i64 er])):Array Value)= #[.pointer (some ⟨pv,0,none⟩),.pointer (some ⟨rv,0,none⟩),.pointer (some ⟨xv,0,none⟩),.pointer (some ⟨ev,0,none⟩),undef,undef,undef,undef,(.iface 219 (.agg #[.int .i64 er])),undef,undef,undef,undef,undef,undef,undef,undef,undef,undef,undef,undef,undef,undef,undef,undef,undef,undef,undef,undef,undef,undef,undef]:=by simp [Array.replicate,List.replicate]
 rw [ht];have HB:Below w.heap.size w (w.alloc (.cells #[.int .i64 er] 219)):=(Below.refl _ w).alloc (Nat.le_refl _) _;have hl:(w.alloc (.cells #[.int .i64 er] 219)).cell? ⟨w.heap.size,0,none⟩=some (.int .i64 er):=by simp [go_sem]
 have k2:=(HB.cell (p:=⟨rv,0,none⟩) l1).trans h2;have k4:=(HB.cell (p:=⟨xv,0,none⟩) l2).trans h4;have k5:=(HB.frozen (p:=⟨xv,0,none⟩) l2).trans h5;have k6:=(HB.cell (p:=⟨ev,0,none⟩) l3).trans h6;have k7:=(HB.frozen (p:=⟨ev,0,none⟩) l3).trans h7;have k8:=(HB.cell (p:=⟨rb,ro,none⟩) l4).trans h8;have k9:=(HB.frozen (p:=⟨rb,ro,none⟩) l4).trans h9;have k10:=(HB.cell (p:=⟨rb,ro+1,none⟩) l4).trans h10;have k11:=(HB.frozen (p:=⟨rb,ro+1,none⟩) l4).trans h11;have n1:w.heap.size≠xv:=by omega
 have n2:w.heap.size≠ev:=by omega
 have n3:rb≠w.heap.size:=by omega
 go_wp2
 clear HB h2 h4 h5 h6 h7 h8 h9 h10 h11 l1 l2 l3 l4;generalize w.heap.size=lb at*;generalize hw1:w.alloc (.cells #[.int .i64 er] 219)=w1 at*;have HW1:=Go.Lib.hid hw1;clear hw1;have q2:(⟨xv,0,none⟩:Addr)≠⟨rv,0,none⟩:=fun e=>d1 (congrArg Addr.block e);have q3:(⟨ev,0,none⟩:Addr)≠⟨rv,0,none⟩:=fun e=>d2 (congrArg Addr.block e)
 go_region_o
 all_goals go_wp2
 have f1:∀(a:Addr) (v:Value),a.block≠xv->a.block≠ev->w1.cell? a=some v->(((w1.setCell ⟨xv,0,none⟩ (.int .u64 0)).setCell ⟨ev,0,none⟩ (.int .i64 er)).drew).cell? a=some v:=by
  intro a v a1 a2 h;have e1:(⟨ev,0,none⟩:Addr)≠a:=fun e=>a2 (by rw [<-e]);have e2:(⟨xv,0,none⟩:Addr)≠a:=fun e=>a1 (by rw [<-e]);show((w1.setCell ⟨xv,0,none⟩ (.int .u64 0)).setCell ⟨ev,0,none⟩ (.int .i64 er)).cell? a=some v;rw [World.cell?_setCell_other _ _ _ _ e1,World.cell?_setCell_other _ _ _ _ e2];exact h
 have f2:∀(a:Addr),w1.frozen? a=false->(((w1.setCell ⟨xv,0,none⟩ (.int .u64 0)).setCell ⟨ev,0,none⟩ (.int .i64 er)).drew).frozen? a=false:=by
  intro a h;show((w1.setCell ⟨xv,0,none⟩ (.int .u64 0)).setCell ⟨ev,0,none⟩ (.int .i64 er)).frozen? a=false;simp [go_sem,h]
 have z2:=f1 _ _ (Ne.symm d1) (Ne.symm d2) k2;have z8:=f1 _ _ (Ne.symm d4) (Ne.symm d5) k8;have z9:=f2 _ k9;have z10:=f1 _ _ (Ne.symm d4) (Ne.symm d5) k10;have z11:=f2 _ k11;have zl:=f1 _ _ n1 n2 hl;clear f1 f2 k2 k4 k5 k6 k7 k8 k9 k10 k11 hl q2 q3;generalize hw2:((w1.setCell ⟨xv,0,none⟩ (.int .u64 0)).setCell ⟨ev,0,none⟩ (.int .i64 er)).drew=w2 at*;have HW2:=Go.Lib.hid hw2;clear hw2;have q4:(⟨rb,ro,none⟩:Addr)≠⟨lb,0,none⟩:=fun e=>n3 (congrArg Addr.block e);have q5:(⟨rb,ro,none⟩:Addr)≠⟨rv,0,none⟩:=fun e=>d6 (congrArg Addr.block e)
 go_region_o
 all_goals go_wp2
 have e1:w.alloc (.cells #[.int .i64 er] 219)=w1:=HW1;have e2:((w1.setCell ⟨xv,0,none⟩ (.int .u64 0)).setCell ⟨ev,0,none⟩ (.int .i64 er)).drew=w2:=HW2;refine⟨rfl,_,rfl,.tuple #[],?_,rfl,rfl,?_⟩
 ·simp [results,Tryz.results170]
 ·rw [e1,<-e2];rfl
def xU (h:FuncId) (cap:Array Value) (s rest:ByteArray) (v:Value) (w0:World):Prop:=∀(bp:Nat) (w:World),Below w0.heap.size w0 w->w0.heap.size<=bp->bp<w.heap.size->w.cell? ⟨bp,0,none⟩=some (.string s)->w.frozen? ⟨bp,0,none⟩=false->
 Calls Tryz.prog h (#[.pointer (some ⟨bp,0,none⟩)]++cap) w fun r w'=>r= .returned v/\Below w.heap.size (w.setCell ⟨bp,0,none⟩ (.string rest)) w'
def EB (rb ro:Nat) (rest:ByteArray) (v:Value) (w:World) (r:Ending) (w':World):Prop:=r= .returned (.tuple #[v,.int .i64 0])/\Below w.heap.size (w.setCell ⟨rb,ro,none⟩ (.string rest)) w'
def gH (h:FuncId) (cap:Array Value) (s:ByteArray) (er:Int) (w0:World):Prop:=∀(bp:Nat) (w:World),Below w0.heap.size w0 w->w0.heap.size<=bp->bp<w.heap.size->w.cell? ⟨bp,0,none⟩=some (.string s)->w.frozen? ⟨bp,0,none⟩=false->
 Calls Tryz.prog h (#[.pointer (some ⟨bp,0,none⟩)]++cap) w fun r w'=>r= .panicked [pJ er]/\∃v,Below w.heap.size (w.setCell ⟨bp,0,none⟩ v) w'
def AZ (rb ro:Nat) (er:Int) (z:Value) (w:World) (r:Ending) (w':World):Prop:=r= .returned (.tuple #[z,.int .i64 er])/\Below w.heap.size ((w.setCell ⟨rb,ro,none⟩ (.string ⟨#[]⟩)).setCell ⟨rb,ro+1,none⟩ (.int .i64 er)) w'
theorem lA (w:World) (o:Obj) (k:Nat):(w.alloc o).heap[k]? =if k=w.heap.size then some o else w.heap[k]? :=by
 show(w.heap.push o)[k]? =_;rw [Array.getElem?_push]
theorem yQ (w:World) (o0 o1 o2 o3 o4:Obj):∀W,((((w.alloc o0).alloc o1).alloc o2).alloc o3).alloc o4=W->
 W.heap[w.heap.size]? =some o0/\W.heap[w.heap.size+1]? =some o1/\W.heap[w.heap.size+1+1]? =some o2/\W.heap[w.heap.size+1+1+1]? =some o3/\W.heap[w.heap.size+1+1+1+1]? =some o4/\W.heap.size=w.heap.size+5:=by
 rintro W rfl
 refine⟨?_,?_,?_,?_,?_,by simp⟩<;>(simp only [lA,World.size_alloc];repeat rw [if_neg (by omega)])<;>first | rw [if_pos rfl] | rfl
theorem eJ{N:Nat}{w a:World} (h:Below N w a) (p:Addr) (u:Value):Below N (w.setCell p u) (a.setCell p u):=by
 refine⟨h.os,h.tape,h.output,by simpa [World.setCell]using h.size,fun k hk=>?_⟩;simp only [World.setCell,Array.getElem?_modify,h.block k hk]
theorem cY{w w':World}{a:Addr}{v:Value} (hb:w'.heap[a.block]? =w.heap[a.block]?) (h:w.cell? a=some v):w'.cell? a=some v:=by
 rw [<-h];exact World.cell?_of_block (w:=w) hb
theorem iE{w w':World}{a:Addr}{v:Bool} (hb:w'.heap[a.block]? =w.heap[a.block]?) (h:w.frozen? a=v):w'.frozen? a=v:=by
 rw [<-h];exact World.frozen?_of_block (w:=w) hb
theorem aE{w:World}{p:Addr}{u:Value}{k:Nat} (h:p.block≠k):(w.setCell p u).heap[k]? =w.heap[k]? :=by
 simp only [World.setCell,Array.getElem?_modify,if_neg h]
theorem bM{w:World}{b o:Nat}{u:Value}{cs:Array Value}{t:TypeId}{fz:Nat×Nat} (h:w.heap[b]? =some (.cells cs t fz)):(w.setCell ⟨b,o,none⟩ u).heap[b]? =some (.cells (cs.setIfInBounds o u) t fz):=by
 simp only [World.setCell,Array.getElem?_modify,h];rfl
theorem aS{w:World}{b:Nat}{v:Value}{t:TypeId}{fz:Nat×Nat} (h:w.heap[b]? =some (.cells #[v] t fz)):w.cell? ⟨b,0,none⟩=some v:=by simp [World.cell?,h]
theorem cT{w:World}{b:Nat}{v:Value}{t:TypeId} (h:w.heap[b]? =some (.cells #[v] t (0,0))):w.frozen? ⟨b,0,none⟩=false:=by simp [World.frozen?,h]
set_option maxHeartbeats 2000000 in
theorem Ui (rb ro:Nat) (h:FuncId) (cap:Array Value) (s rest:ByteArray) (x:Int) (w:World) (hr0:rb<w.heap.size) (h1:w.cell? ⟨rb,ro,none⟩=some (.string s)) (h2:w.cell? ⟨rb,ro+1,none⟩=some (.int .i64 0)) (h3:w.frozen? ⟨rb,ro,none⟩=false)
 (he:∀args w,(callFunc h args).run Tryz.prog w= .ok (.enter h args) w) (H:xU h cap s rest (.int .u64 x) w):
 Calls Tryz.prog 160 #[.pointer (some ⟨rb,ro,none⟩),.func (.func h) #[] cap] w (EB rb ro rest (.int .u64 x) w):=by
 have hmf:∀(fn:Fn) (first cap:Array Value) (w:World),(Instr.makeFunc fn first cap).run Tryz.prog w= .ok (.func fn first cap) w:=fun _ _ _ _=>rfl
 have k1:∀o1 o2 o3,(((w.alloc o1).alloc o2).alloc o3).cell? ⟨rb,ro,none⟩=some (.string s):=fun o1 o2 o3=>
  ((((Below.refl _ w).alloc (Nat.le_refl _) o1).alloc (by simp) o2).alloc (by simp;omega) o3).cell (p:=⟨rb,ro,none⟩) hr0 |>.trans h1
 have k2:∀o1 o2 o3,(((w.alloc o1).alloc o2).alloc o3).cell? ⟨rb,ro+1,none⟩=some (.int .i64 0):=fun o1 o2 o3=>
  ((((Below.refl _ w).alloc (Nat.le_refl _) o1).alloc (by simp) o2).alloc (by simp;omega) o3).cell (p:=⟨rb,ro+1,none⟩) hr0 |>.trans h2
 have HH:=Go.Lib.hid H;have HR:=Go.Lib.hid hr0;clear H hr0
 go_enter_defers Tryz.func160,Tryz.ntmps160
 go_wp2
 generalize hW:((((w.alloc (Obj.cells #[Value.pointer (some {block:=rb,off:=ro})] 100)).alloc (Obj.cells #[.int .u64 0] 57)).alloc (Obj.cells #[.int .i64 0] 37)).alloc (Obj.cells #[Value.string s] 174)).alloc (Obj.cells #[Value.pointer (some {block:=w.heap.size+1+1+1,off:=0})] 171)=W;have hr0:rb<w.heap.size:=HR;obtain⟨b0,b1,b2,b3,b4,hsz⟩:=yQ w _ _ _ _ _ W hW
 have hBW:Below w.heap.size w W:=by
  rw [<-hW];exact(((((Below.refl _ w).alloc (Nat.le_refl _) _).alloc (by simp) _).alloc (by simp;omega) _).alloc (by simp;omega) _).alloc (by simp;omega) _
 clear hW k1 k2;have c3:W.cell? ⟨w.heap.size+1+1+1,0,none⟩=some (.string s):=aS b3;refine((HH:xU h cap s rest (.int .u64 x) w) (w.heap.size+1+1+1) W hBW (by omega) (by omega) c3 (cT b3)).mono ?_
 rintro r w1 ⟨rfl,hB⟩
 have hk:∀k,k<w.heap.size+5->k≠w.heap.size+1+1+1->w1.heap[k]? =W.heap[k]? :=fun k h1 h2=>(hB.block k (by omega)).trans (aE (Ne.symm h2));have d0:w1.heap[w.heap.size]? =_:=(hk _ (by omega) (by omega)).trans b0;have d1:w1.heap[w.heap.size+1]? =_:=(hk _ (by omega) (by omega)).trans b1;have d2:w1.heap[w.heap.size+1+1]? =_:=(hk _ (by omega) (by omega)).trans b2
 have d3:w1.heap[w.heap.size+1+1+1]? =some (Obj.cells #[Value.string rest] 174):=by
  rw [hB.block _ (by omega),bM b3];rfl
 have d4:w1.heap[w.heap.size+1+1+1+1]? =_:=(hk _ (by omega) (by omega)).trans b4;have hB1:Below w.heap.size w w1:=(hBW.setCell (p:=⟨w.heap.size+1+1+1,0,none⟩) (by show _<=w.heap.size+1+1+1;omega) (.string rest)).trans (hB.mono (by omega));clear hk hB b0 b1 b2 b3 b4 c3 hBW;have x1:w1.cell? ⟨w.heap.size+1,0,none⟩=some (.int .u64 0):=aS d1;have x2:w1.frozen? ⟨w.heap.size+1,0,none⟩=false:=cT d1;have x3:w1.cell? ⟨w.heap.size+1+1,0,none⟩=some (.int .i64 0):=aS d2;have x4:w1.frozen? ⟨w.heap.size+1+1,0,none⟩=false:=cT d2;have HD:=Go.Lib.hid d0;have HD1:=Go.Lib.hid d1;have HD2:=Go.Lib.hid d2;have HD3:=Go.Lib.hid d3;have HD4:=Go.Lib.hid d4;have HZ:=Go.Lib.hid hsz;have h1:=Go.Lib.hid h1;have h3:=Go.Lib.hid h3;clear d0 d1 d2 d3 d4 hsz h2 hr0
 go_wp2
 have hr0:rb<w.heap.size:=HR;have g0:=(HD:w1.heap[w.heap.size]? =_);have g1:=(HD1:w1.heap[w.heap.size+1]? =_);have g2:=(HD2:w1.heap[w.heap.size+1+1]? =_);have g3:=(HD3:w1.heap[w.heap.size+1+1+1]? =_);have g4:=(HD4:w1.heap[w.heap.size+1+1+1+1]? =_);clear HD HD1 HD2 HD3 HD4 HZ HR HH x1 x2 x3 x4;generalize hw2:(w1.setCell {block:=w.heap.size+1,off:=0} (.int .u64 x)).setCell {block:=w.heap.size+1+1,off:=0} (Value.int IntKind.i64 0)=w2;have ho:∀k,k≠w.heap.size+1->k≠w.heap.size+1+1->w2.heap[k]? =w1.heap[k]? :=fun k a1 a2=>by rw [<-hw2,aE (by exact Ne.symm a2),aE (by exact Ne.symm a1)]
 have e0:=(ho _ (by omega) (by omega)).trans g0;have e3:=(ho _ (by omega) (by omega)).trans g3;have e4:=(ho _ (by omega) (by omega)).trans g4;have e1:w2.heap[w.heap.size+1]? =some (Obj.cells #[.int .u64 x] 57):=by rw [<-hw2,aE (by show w.heap.size+1+1≠_;omega),bM g1];rfl
 have e2:w2.heap[w.heap.size+1+1]? =some (Obj.cells #[.int .i64 0] 37):=by rw [<-hw2,bM ((aE (by show w.heap.size+1≠_;omega)).trans g2)];rfl
 have hB2:Below w.heap.size w w2:=by rw [<-hw2];exact(hB1.setCell (by show _<=w.heap.size+1;omega) _).setCell (by show _<=w.heap.size+1+1;omega) _
 have er:w2.heap[rb]? =w.heap[rb]? :=hB2.block rb hr0;clear hw2 ho g0 g1 g2 g3 g4 hB1;refine leaves_cons (f:=170) (args:= #[.pointer (some ⟨w.heap.size+1+1+1+1,0,none⟩),.pointer (some ⟨w.heap.size,0,none⟩),.pointer (some ⟨w.heap.size+1,0,none⟩),.pointer (some ⟨w.heap.size+1+1,0,none⟩)]) (by simp) (by simp [go_sem]) ?_;refine(aDC _ _ _ _ (w.heap.size+1+1+1) rb ro rest w2 (aS e4) (aS e0) (aS e3) (.string s) (cY (a:=⟨rb,ro,none⟩) er h1) (iE (a:=⟨rb,ro,none⟩) er h3)).mono ?_
 rintro e u' w3 ⟨rfl,rfl,rfl⟩
 have y1:(w2.drew.setCell ⟨rb,ro,none⟩ (.string rest)).cell? ⟨w.heap.size+1,0,none⟩=some (.int .u64 x):=cY (w:=w2) (aE (by show rb≠w.heap.size+1;omega)) (aS e1);have y2:(w2.drew.setCell ⟨rb,ro,none⟩ (.string rest)).cell? ⟨w.heap.size+1+1,0,none⟩=some (.int .i64 0):=cY (w:=w2) (aE (by show rb≠w.heap.size+1+1;omega)) (aS e2);have hB3:Below w.heap.size (w.setCell ⟨rb,ro,none⟩ (.string rest)) (w2.drew.setCell ⟨rb,ro,none⟩ (.string rest)):=eJ hB2.drew _ _;generalize w2.drew.setCell ⟨rb,ro,none⟩ (.string rest)=w3 at*;clear e0 e1 e2 e3 e4 er hB2;simp [Leaves,settle,results,Tryz.results160,go_sem,y1,y2];exact⟨rfl,hB3⟩
set_option maxHeartbeats 2000000 in
theorem Jr (rb ro:Nat) (h:FuncId) (cap:Array Value) (s:ByteArray) (er:Int) (w:World) (hr0:rb<w.heap.size) (h1:w.cell? ⟨rb,ro,none⟩=some (.string s)) (h2:w.cell? ⟨rb,ro+1,none⟩=some (.int .i64 0)) (h3:w.frozen? ⟨rb,ro,none⟩=false) (h4:w.frozen? ⟨rb,ro+1,none⟩=false)
 (he:∀args w,(callFunc h args).run Tryz.prog w= .ok (.enter h args) w) (H:gH h cap s er w):
 Calls Tryz.prog 160 #[.pointer (some ⟨rb,ro,none⟩),.func (.func h) #[] cap] w (AZ rb ro er (.int .u64 0) w):=by
 have hmf:∀(fn:Fn) (first cap:Array Value) (w:World),(Instr.makeFunc fn first cap).run Tryz.prog w= .ok (.func fn first cap) w:=fun _ _ _ _=>rfl
 have k1:∀o1 o2 o3,(((w.alloc o1).alloc o2).alloc o3).cell? ⟨rb,ro,none⟩=some (.string s):=fun o1 o2 o3=>
  ((((Below.refl _ w).alloc (Nat.le_refl _) o1).alloc (by simp) o2).alloc (by simp;omega) o3).cell (p:=⟨rb,ro,none⟩) hr0 |>.trans h1
 have k2:∀o1 o2 o3,(((w.alloc o1).alloc o2).alloc o3).cell? ⟨rb,ro+1,none⟩=some (.int .i64 0):=fun o1 o2 o3=>
  ((((Below.refl _ w).alloc (Nat.le_refl _) o1).alloc (by simp) o2).alloc (by simp;omega) o3).cell (p:=⟨rb,ro+1,none⟩) hr0 |>.trans h2
 have HH:=Go.Lib.hid H;have HR:=Go.Lib.hid hr0;clear H hr0
 go_enter_defers Tryz.func160,Tryz.ntmps160
 go_wp2
 generalize hW:((((w.alloc (Obj.cells #[Value.pointer (some {block:=rb,off:=ro})] 100)).alloc (Obj.cells #[.int .u64 0] 57)).alloc (Obj.cells #[.int .i64 0] 37)).alloc (Obj.cells #[Value.string s] 174)).alloc (Obj.cells #[Value.pointer (some {block:=w.heap.size+1+1+1,off:=0})] 171)=W;have hr0:rb<w.heap.size:=HR;obtain⟨b0,b1,b2,b3,b4,hsz⟩:=yQ w _ _ _ _ _ W hW
 have hBW:Below w.heap.size w W:=by
  rw [<-hW];exact(((((Below.refl _ w).alloc (Nat.le_refl _) _).alloc (by simp) _).alloc (by simp;omega) _).alloc (by simp;omega) _).alloc (by simp;omega) _
 clear hW k1 k2;have c3:W.cell? ⟨w.heap.size+1+1+1,0,none⟩=some (.string s):=aS b3;refine((HH:gH h cap s er w) (w.heap.size+1+1+1) W hBW (by omega) (by omega) c3 (cT b3)).mono ?_
 rintro r w2 ⟨rfl,pv,hB⟩
 have hk:∀k,k<w.heap.size+5->k≠w.heap.size+1+1+1->w2.heap[k]? =W.heap[k]? :=fun k h1 h2=>(hB.block k (by omega)).trans (aE (Ne.symm h2));have e0:w2.heap[w.heap.size]? =_:=(hk _ (by omega) (by omega)).trans b0;have e1:w2.heap[w.heap.size+1]? =_:=(hk _ (by omega) (by omega)).trans b1;have e2:w2.heap[w.heap.size+1+1]? =_:=(hk _ (by omega) (by omega)).trans b2;have hB2:Below w.heap.size w w2:=(hBW.setCell (p:=⟨w.heap.size+1+1+1,0,none⟩) (by show _<=w.heap.size+1+1+1;omega) pv).trans (hB.mono (by omega));have hz2:W.heap.size<=w2.heap.size:=by have:=hB.size;simpa [World.setCell]using this
 clear hk hB b0 b1 b2 b3 b4 c3 hBW;have JB:w2.heap[rb]? =w.heap[rb]? :=hB2.block rb hr0;refine leaves_cons (f:=170) (args:= #[.pointer (some ⟨w.heap.size+1+1+1+1,0,none⟩),.pointer (some ⟨w.heap.size,0,none⟩),.pointer (some ⟨w.heap.size+1,0,none⟩),.pointer (some ⟨w.heap.size+1+1,0,none⟩)]) (by simp) (by simp [go_sem]) ?_
 refine(Zj _ _ _ _ rb ro er w2 (aS e0) (.int .u64 0) (.int .i64 0) (.string s) (.int .i64 0) (aS e1) (cT e1) (aS e2) (cT e2)
  (cY (a:=⟨rb,ro,none⟩) JB h1) (iE (a:=⟨rb,ro,none⟩) JB h3) (cY (a:=⟨rb,ro+1,none⟩) JB h2) (iE (a:=⟨rb,ro+1,none⟩) JB h4)
  (by omega) (by omega) (by omega) (by omega) (by omega) (by omega) (by omega) (by omega) (by omega) (by omega)).mono ?_
 rintro e u' w3 ⟨rfl,rfl,hw3⟩
 have n1:rb≠w.heap.size+1:=by omega
 have n2:rb≠w.heap.size+1+1:=by omega
 have WU:w.heap.size+1<w2.heap.size:=by omega
 have Zl:w.heap.size+1+1<w2.heap.size:=by omega
 have y1:w3.cell? ⟨w.heap.size+1,0,none⟩=some (.int .u64 0):=by
  have z:w3.heap[w.heap.size+1]? =some (Obj.cells #[.int .u64 0] 57):=by
   rw [hw3];show((((((w2.alloc _).setCell _ _).setCell _ _).setCell _ _).setCell _ _)).heap[_]? =_;rw [aE (by exact n1),aE (by exact n1),aE (by show w.heap.size+1+1≠w.heap.size+1;omega),bM (by rw [lA,if_neg (by omega)];exact e1)];rfl
  exact aS z
 have y2:w3.cell? ⟨w.heap.size+1+1,0,none⟩=some (.int .i64 er):=by
  have z:w3.heap[w.heap.size+1+1]? =some (Obj.cells #[.int .i64 er] 37):=by
   rw [hw3];show((((((w2.alloc _).setCell _ _).setCell _ _).setCell _ _).setCell _ _)).heap[_]? =_;rw [aE (by exact n2),aE (by exact n2),bM ((aE (by show w.heap.size+1≠w.heap.size+1+1;omega)).trans (by rw [lA,if_neg (by omega)];exact e2))];rfl
  exact aS z
 have hB3:Below w.heap.size ((w.setCell ⟨rb,ro,none⟩ (.string ⟨#[]⟩)).setCell ⟨rb,ro+1,none⟩ (.int .i64 er)) w3:=by
  rw [hw3];exact(eJ (eJ (((((hB2.alloc (by omega) _).setCell (by show w.heap.size<=w.heap.size+1;omega) _).setCell (by show w.heap.size<=w.heap.size+1+1;omega) _).drew)) _ _) _ _).drew
 clear hw3 e0 e1 e2 JB hB2 hz2 WU Zl n1 n2 h1 h2 h3 h4 hsz;simp [Leaves,settle,results,Tryz.results160,go_sem,y1,y2];exact⟨rfl,hB3⟩
set_option maxHeartbeats 2000000 in
theorem Fw (rb ro:Nat) (how:Value) (er:Int) (w:World) (hr0:rb<w.heap.size) (h2:w.cell? ⟨rb,ro+1,none⟩=some (.int .i64 er)) (hne:er≠0):
 Calls Tryz.prog 160 #[.pointer (some ⟨rb,ro,none⟩),how] w fun r w'=>r= .returned (.tuple #[.int .u64 0,.int .i64 er])/\Below w.heap.size w w':=by
 have mixed:=mixed
 have k2:∀o1 o2 o3,(((w.alloc o1).alloc o2).alloc o3).cell? ⟨rb,ro+1,none⟩=some (.int .i64 er):=fun o1 o2 o3=>
  ((((Below.refl _ w).alloc (Nat.le_refl _) o1).alloc (by simp) o2).alloc (by simp;omega) o3).cell (p:=⟨rb,ro+1,none⟩) hr0 |>.trans h2
 have q1:(⟨w.heap.size+1,0,none⟩:Addr)≠⟨rb,ro+1,none⟩:=by intro e;have e:=congrArg Addr.block e;simp at e;omega
 have hbne:(er != 0)=true:=by simpa using hne
 clear h2 hr0 hne
 go_enter_defers Tryz.func160,Tryz.ntmps160
 go_wp2
 go_region_o
 all_goals go_wp2
 simp [bodyPostD,Leaves,results,Tryz.results160,go_sem];exact((((Below.refl _ w).alloc (Nat.le_refl _) _).alloc (by simp) _).alloc (by simp;omega) _).drew
theorem Nr (how:Value) (w:World):
 Calls Tryz.prog 160 #[.pointer none,how] w fun r w'=>r= .returned (.tuple #[.int .u64 0,.int .i64 2])/\Below w.heap.size w w':=by
 go_enter_defers Tryz.func160,Tryz.ntmps160
 go_wp2
 simp [bodyPostD,Leaves,results,Tryz.results160,go_sem];exact(((Below.refl _ w).alloc (Nat.le_refl _) _).alloc (by simp) _).alloc (by simp;omega) _
theorem rC{w:World}{bp:Nat}{v:Value} (h:w.cell? ⟨bp,0,none⟩=some v):∃u,Below w.heap.size (w.setCell ⟨bp,0,none⟩ u) w:=by
 refine⟨v,rfl,rfl,rfl,by simp [World.setCell],fun k _=>?_⟩;by_cases e:bp=k
 ·subst e
  cases hb:w.heap[bp]? with
  | none=>simp [World.cell?,hb]at h
  | some o=>
   cases o with
   | cells c t f=>
    have hc:c[0]? =some v:=by simpa [World.cell?,hb]using h
    rw [bM hb];have hlt:0<c.size:=(Array.getElem?_eq_some_iff.1 hc).1;have he:c[0]=v:=(Array.getElem?_eq_some_iff.1 hc).2;rw [<-he]
    congr 2
    apply Array.toList_inj.1;rw [Array.toList_setIfInBounds];exact(List.set_getElem_self hlt).symm
   | _=>simp [World.cell?,hb]at h
 ·rw [aE (by exact e)]
theorem xV (s:ByteArray) (n:Nat):(s.extract 0 n).data.toList=s.data.toList.take n:=by simp
theorem aBL (s:ByteArray) (w0:World) (hn:8<=s.size) (hs:s.size<9223372036854775808):xU 161 #[] s (s.extract 8 s.size) (.int .u64 (be (s.data.toList.take 8):Nat)) w0:=by
 intro bp w _ _ _ hc hz;have T:=wM bp 8 s w hc hz hn hs (by omega);rw [xV]at T;clear hc hz hn hs
 go_enter Tryz.func161,Tryz.ntmps161
 go_wp2_with (go_at_call 157;refine T.mono ?_;rintro e w' ⟨rfl,hb⟩)
 go_ret
 exact⟨rfl,hb⟩
theorem Nx (s:ByteArray) (w0:World) (hn:s.size<8):gH 161 #[] s 8 w0:=by
 intro bp w _ _ _ hc hz;have T:=zX bp 8 s w hc (by omega) (by omega);have hp:=rC hc;clear hc hz hn
 go_enter Tryz.func161,Tryz.ntmps161
 go_wp2_with (go_at_call 157;refine T.mono ?_;rintro e w' ⟨rfl,rfl⟩)
 exact⟨rfl,rfl,hp⟩
theorem Zf (s:ByteArray) (w0:World) (hn:1<=s.size) (hs:s.size<9223372036854775808):xU 159 #[] s (s.extract 1 s.size) (.int .u8 (be (s.data.toList.take 1):Nat)) w0:=by
 intro bp w _ _ _ hc hz;have T:=wM bp 1 s w hc hz hn hs (by omega);rw [xV]at T;have hb:be (s.data.toList.take 1)<256:=Nat.lt_of_lt_of_le (MH _) (Nat.pow_le_pow_right (by decide) (List.length_take_le _ _):256 ^ _<=256 ^ 1);clear hc hz hn hs;generalize be (s.data.toList.take 1)=x at*;have hw:IntKind.u8.wrap (x:Int)=x:=by rw [IntKind.wrap_u8];omega
 go_enter Tryz.func159,Tryz.ntmps159
 go_wp2_with (go_at_call 157;refine T.mono ?_;rintro e w' ⟨rfl,hb⟩)
 go_ret
 exact⟨rfl,hb⟩
theorem Jw (s:ByteArray) (w0:World) (hn:s.size<1):gH 159 #[] s 8 w0:=by
 intro bp w _ _ _ hc hz;have T:=zX bp 1 s w hc (by omega) (by omega);have hp:=rC hc;clear hc hz hn
 go_enter Tryz.func159,Tryz.ntmps159
 go_wp2_with (go_at_call 157;refine T.mono ?_;rintro e w' ⟨rfl,rfl⟩)
 exact⟨rfl,rfl,hp⟩
theorem LC (bp:Nat) (most:Nat) (s:ByteArray) (w:World) (hc:w.cell? ⟨bp,0,none⟩=some (.string s)) (hz:w.frozen? ⟨bp,0,none⟩=false) (hn:2<=s.size) (hs:s.size<9223372036854775808) (hm:be (s.data.toList.take 2)<=most):
 Calls Tryz.prog 164 #[.pointer (some ⟨bp,0,none⟩),.int .i64 most] w fun r w'=>r= .returned (.int .i64 (be (s.data.toList.take 2):Nat))/\Below w.heap.size (w.setCell ⟨bp,0,none⟩ (.string (s.extract 2 s.size))) w':=by
 have T:=wM bp 2 s w hc hz hn hs (by omega);rw [xV]at T;have hb:be (s.data.toList.take 2)<65536:=Nat.lt_of_lt_of_le (MH _) (Nat.pow_le_pow_right (by decide) (List.length_take_le _ _):256 ^ _<=256 ^ 2);clear hc hz hn hs;generalize be (s.data.toList.take 2)=x at*;have hw:IntKind.i64.wrap (x:Int)=x:=by rw [IntKind.wrap_i64];omega
 have hle:decide (x<=most)=true:=by simpa using hm
 go_enter Tryz.func164,Tryz.ntmps164
 go_wp2_with (go_at_call 157;refine T.mono ?_;rintro e w' ⟨rfl,hb⟩)
 go_wp2_with (go_at_call 72;refine(PG _ _).mono ?_;rintro e w2 ⟨rfl,hw2⟩;obtain rfl:w'=w2:=hw2.symm)
 go_ret
 exact⟨rfl,hb⟩
theorem PI (bp:Nat) (most:Nat) (s:ByteArray) (w:World) (hc:w.cell? ⟨bp,0,none⟩=some (.string s)) (hn:s.size<2):
 Calls Tryz.prog 164 #[.pointer (some ⟨bp,0,none⟩),.int .i64 most] w fun r w'=>r= .panicked [pJ 8]/\w'=w:=by
 have T:=zX bp 2 s w hc (by omega) (by omega);clear hc hn
 go_enter Tryz.func164,Tryz.ntmps164
 go_wp2_with (go_at_call 157;refine T.mono ?_;rintro e w' ⟨rfl,rfl⟩)
 exact⟨rfl,rfl,rfl⟩
theorem PJ (bp:Nat) (most:Nat) (s:ByteArray) (w:World) (hc:w.cell? ⟨bp,0,none⟩=some (.string s)) (hz:w.frozen? ⟨bp,0,none⟩=false) (hn:2<=s.size) (hs:s.size<9223372036854775808) (hm:most<be (s.data.toList.take 2)):
 Calls Tryz.prog 164 #[.pointer (some ⟨bp,0,none⟩),.int .i64 most] w fun r w'=>r= .panicked [pJ 40]/\∃v,Below w.heap.size (w.setCell ⟨bp,0,none⟩ v) w':=by
 have T:=wM bp 2 s w hc hz hn hs (by omega);rw [xV]at T;have hb:be (s.data.toList.take 2)<65536:=Nat.lt_of_lt_of_le (MH _) (Nat.pow_le_pow_right (by decide) (List.length_take_le _ _):256 ^ _<=256 ^ 2);clear hc hz hn hs;generalize be (s.data.toList.take 2)=x at*;have hw:IntKind.i64.wrap (x:Int)=x:=by rw [IntKind.wrap_i64];omega
 have hle:decide (x<=most)=false:=by simpa using hm
 go_enter Tryz.func164,Tryz.ntmps164
 go_wp2_with (go_at_call 157;refine T.mono ?_;rintro e w' ⟨rfl,hb⟩)
 go_wp2_with (go_at_call 72;refine(PH _ _).mono ?_;rintro e w2 ⟨rfl,hw2⟩;obtain rfl:w'=w2:=hw2.symm)
 exact⟨rfl,rfl,_,hb⟩
theorem Cy{N bp:Nat}{u:Value}{w w':World} (hb:Below N (w.setCell ⟨bp,0,none⟩ u) w'){a:Addr}{v:Value} (hN:a.block<N) (hne:bp≠a.block) (h:w.cell? a=some v):w'.cell? a=some v:=
 cY ((hb.block _ hN).trans (aE (by exact hne))) h
theorem Uo (mb most:Nat) (s:ByteArray) (w0:World) (hm:w0.cell? ⟨mb,0,none⟩=some (.int .i64 most)) (hmb:mb<w0.heap.size) (tU:most<9223372036854775808) (hn:8<=s.size) (hs:s.size<9223372036854775808) (hle:be (s.data.toList.take 8)<=most):
 xU 156 #[.pointer (some ⟨mb,0,none⟩)] s (s.extract 8 s.size) (.int .i64 (be (s.data.toList.take 8):Nat)) w0:=by
 intro bp w hB hbp hlt hc hz;have T:=wM bp 8 s w hc hz hn hs (by omega);rw [xV]at T;have hmw:w.cell? ⟨mb,0,none⟩=some (.int .i64 most):=cY (hB.block _ hmb) hm;have hN:mb<w.heap.size:=Nat.lt_of_lt_of_le hmb hB.size;have hne:bp≠mb:=by omega
 clear hc hz hn hs hB hm hbp hlt hmb;generalize be (s.data.toList.take 8)=x at*;have hw:IntKind.i64.wrap (x:Int)=x:=by rw [IntKind.wrap_i64];omega
 have hw2:IntKind.u64.wrap (most:Int)=most:=by rw [IntKind.wrap_u64];omega
 have hle2:decide (x<=most)=true:=by simpa using hle
 clear hle tU
 go_enter Tryz.func156,Tryz.ntmps156
 go_wp2_with (go_at_call 157;refine T.mono ?_;rintro e w' ⟨rfl,hb⟩;have aF5:=Cy hb (a:=⟨mb,0,none⟩) hN hne hmw)
 go_wp2_with (go_at_call 72;refine(PG _ _).mono ?_;rintro e w2 ⟨rfl,hw2⟩;obtain rfl:w'=w2:=hw2.symm)
 go_ret
 exact⟨rfl,hb⟩
theorem Fx (mb:Nat) (s:ByteArray) (w0:World) (hn:s.size<8):gH 156 #[.pointer (some ⟨mb,0,none⟩)] s 8 w0:=by
 intro bp w _ _ _ hc hz;have T:=zX bp 8 s w hc (by omega) (by omega);have hp:=rC hc;clear hc hz hn
 go_enter Tryz.func156,Tryz.ntmps156
 go_wp2_with (go_at_call 157;refine T.mono ?_;rintro e w' ⟨rfl,rfl⟩)
 exact⟨rfl,rfl,hp⟩
theorem VH (mb most:Nat) (s:ByteArray) (w0:World) (hm:w0.cell? ⟨mb,0,none⟩=some (.int .i64 most)) (hmb:mb<w0.heap.size) (tU:most<9223372036854775808) (hn:8<=s.size) (hs:s.size<9223372036854775808) (hle:most<be (s.data.toList.take 8)):
 gH 156 #[.pointer (some ⟨mb,0,none⟩)] s 4 w0:=by
 intro bp w hB hbp hlt hc hz;have T:=wM bp 8 s w hc hz hn hs (by omega);rw [xV]at T;have hmw:w.cell? ⟨mb,0,none⟩=some (.int .i64 most):=cY (hB.block _ hmb) hm;have hN:mb<w.heap.size:=Nat.lt_of_lt_of_le hmb hB.size;have hne:bp≠mb:=by omega
 clear hc hz hn hs hB hm hbp hlt hmb;generalize be (s.data.toList.take 8)=x at*;have hw2:IntKind.u64.wrap (most:Int)=most:=by rw [IntKind.wrap_u64];omega
 have hle2:decide (x<=most)=false:=by simpa using hle
 clear hle tU
 go_enter Tryz.func156,Tryz.ntmps156
 go_wp2_with (go_at_call 157;refine T.mono ?_;rintro e w' ⟨rfl,hb⟩;have aF5:=Cy hb (a:=⟨mb,0,none⟩) hN hne hmw)
 go_wp2_with (go_at_call 72;refine(PH _ _).mono ?_;rintro e w2 ⟨rfl,hw2⟩;obtain rfl:w'=w2:=hw2.symm)
 exact⟨rfl,rfl,_,hb⟩
theorem aBM (w0:World):xU 71 #[] ⟨#[]⟩ ⟨#[]⟩ (.bool true) w0:=by
 intro bp w _ _ _ hc hz
 have hp:Below w.heap.size (w.setCell ⟨bp,0,none⟩ (.string ⟨#[]⟩)) w:=by
  refine⟨rfl,rfl,rfl,by simp [World.setCell],fun k _=>?_⟩;by_cases e:bp=k
  ·subst e
   cases hb:w.heap[bp]? with
   | none=>simp [World.cell?,hb]at hc
   | some o=>
    cases o with
    | cells c t f=>
     have hcc:c[0]? =some (.string ⟨#[]⟩):=by simpa [World.cell?,hb]using hc
     rw [bM hb];have hlt:0<c.size:=(Array.getElem?_eq_some_iff.1 hcc).1;have he:c[0]= .string ⟨#[]⟩:=(Array.getElem?_eq_some_iff.1 hcc).2;rw [<-he]
     congr 2
     apply Array.toList_inj.1;rw [Array.toList_setIfInBounds];exact(List.set_getElem_self hlt).symm
    | _=>simp [World.cell?,hb]at hc
  ·rw [aE (by exact e)]
 go_enter Tryz.func71,Tryz.ntmps71
 go_wp2_with (go_at_call 72;refine(PG _ _).mono ?_;rintro e w2 ⟨rfl,hw2⟩;obtain rfl:w=w2:=hw2.symm)
 go_ret
 exact⟨rfl,hp⟩
theorem Nz (s:ByteArray) (w0:World) (hne:s.toList.isEmpty=false):gH 71 #[] s 10 w0:=by
 intro bp w _ _ _ hc hz;have hp:=rC hc
 go_enter Tryz.func71,Tryz.ntmps71
 go_wp2_with (go_at_call 72;refine(PH _ _).mono ?_;rintro e w2 ⟨rfl,hw2⟩;obtain rfl:w=w2:=hw2.symm)
 exact⟨rfl,rfl,hp⟩
theorem Cz{N:Nat}{w:World}{bp:Nat}{u v:Value}:Below N (w.setCell ⟨bp,0,none⟩ v) ((w.setCell ⟨bp,0,none⟩ u).setCell ⟨bp,0,none⟩ v):=by
 refine⟨rfl,rfl,rfl,by simp [World.setCell],fun k _=>?_⟩;by_cases e:bp=k
 ·subst e
  cases hb:w.heap[bp]? with
  | none=>simp [World.setCell,Array.getElem?_modify,hb]
  | some o=>
   cases o with
   | cells c t f=>rw [bM (bM hb),bM hb];simp
   | _=>simp [World.setCell,Array.getElem?_modify,hb]
 ·rw [aE (by exact e),aE (by exact e),aE (by exact e)]
theorem JC{N bp:Nat}{u v:Value}{w w':World} (hb:Below N (w.setCell ⟨bp,0,none⟩ u) w') (hN:bp<N) (h:w.cell? ⟨bp,0,none⟩=some v):w'.cell? ⟨bp,0,none⟩=some u:=
 cY (w:=w.setCell ⟨bp,0,none⟩ u) (hb.block _ hN) (World.cell?_setCell_same _ _ _ h)
theorem Jx{N bp:Nat}{u:Value}{w w':World} (hb:Below N (w.setCell ⟨bp,0,none⟩ u) w') (hN:bp<N) (h:w.frozen? ⟨bp,0,none⟩=false):w'.frozen? ⟨bp,0,none⟩=false:=
 iE (w:=w.setCell ⟨bp,0,none⟩ u) (hb.block _ hN) (by rw [World.frozen?_setCell];exact h)
theorem Zg (s s1:ByteArray) (n:Nat) (w0:World) (h1:s.extract 2 s.size=s1) (hn0:be (s.data.toList.take 2)=n) (hn2:n<=2048) (hn:2<=s.size) (hs:s.size<9223372036854775808) (hs1:n<=s1.size):
 xU 166 #[] s (s1.extract n s1.size) (.string (s1.extract 0 n)) w0:=by
 intro bp w _ _ hlt hc hz;have T:=LC bp 2048 s w hc hz hn hs (by omega);rw [h1,hn0]at T;have hl1:s1.size<9223372036854775808:=by rw [<-h1,ByteArray.size_extract];omega
 have K:∀w',Below w.heap.size (w.setCell ⟨bp,0,none⟩ (.string s1)) w'->Calls Tryz.prog 167 #[.pointer (some ⟨bp,0,none⟩),.int .i64 n] w' fun r w2=>r= .returned (.string (s1.extract 0 n))/\w2=w'.setCell ⟨bp,0,none⟩ (.string (s1.extract n s1.size)):=fun w' hb=>
  Rh bp n s1 w' (JC hb hlt hc) (Jx hb hlt hz) hs1 hl1
 have B:∀w',Below w.heap.size (w.setCell ⟨bp,0,none⟩ (.string s1)) w'->Below w.heap.size (w.setCell ⟨bp,0,none⟩ (.string (s1.extract n s1.size))) (w'.setCell ⟨bp,0,none⟩ (.string (s1.extract n s1.size))):=fun w' hb=>Cz.trans (eJ hb _ _);clear hc hz hn hs h1 hn0 hs1 hl1;generalize s1.extract n s1.size=rest at*;generalize s1.extract 0 n=out at*
 go_enter Tryz.func166,Tryz.ntmps166
 go_wp2_with (go_at_call 164;refine T.mono ?_;rintro e w' ⟨rfl,hb⟩;have K1:=K w' hb;have B1:=B w' hb;clear K B)
 go_wp2_with (go_at_call 167;refine K1.mono ?_;rintro e w2 ⟨rfl,hw2⟩;obtain rfl:w'.setCell ⟨bp,0,none⟩ (.string rest)=w2:=hw2.symm)
 go_ret
 exact⟨rfl,B1⟩
theorem YX (s:ByteArray) (w0:World) (hn:s.size<2):gH 166 #[] s 8 w0:=by
 intro bp w _ _ _ hc hz;have T:=PI bp 2048 s w hc hn;have hp:=rC hc;clear hc hz hn
 go_enter Tryz.func166,Tryz.ntmps166
 go_wp2_with (go_at_call 164;refine T.mono ?_;rintro e w' ⟨rfl,rfl⟩)
 exact⟨rfl,rfl,hp⟩
theorem YW (s:ByteArray) (w0:World) (hn:2<=s.size) (hs:s.size<9223372036854775808) (hm:2048<be (s.data.toList.take 2)):gH 166 #[] s 40 w0:=by
 intro bp w _ _ _ hc hz;have T:=PJ bp 2048 s w hc hz hn hs hm;clear hc hz hn hs hm
 go_enter Tryz.func166,Tryz.ntmps166
 go_wp2_with (go_at_call 164;refine T.mono ?_;rintro e w' ⟨rfl,hb⟩)
 exact⟨rfl,rfl,hb⟩
theorem Fy (s s1:ByteArray) (n:Nat) (w0:World) (h1:s.extract 2 s.size=s1) (hn0:be (s.data.toList.take 2)=n) (hn2:n<=2048) (hn:2<=s.size) (hs:s.size<9223372036854775808) (hs1:s1.size<n):gH 166 #[] s 8 w0:=by
 intro bp w _ _ hlt hc hz;have T:=LC bp 2048 s w hc hz hn hs (by omega);rw [h1,hn0]at T;have hl1:s1.size<9223372036854775808:=by rw [<-h1,ByteArray.size_extract];omega
 have K:∀w',Below w.heap.size (w.setCell ⟨bp,0,none⟩ (.string s1)) w'->Calls Tryz.prog 167 #[.pointer (some ⟨bp,0,none⟩),.int .i64 n] w' fun r w2=>r= .panicked [pJ 8]/\w2=w':=fun w' hb=>
  YZ bp n s1 w' (JC hb hlt hc) hs1 hl1
 clear hc hz hn hs h1 hn0 hs1 hl1
 go_enter Tryz.func166,Tryz.ntmps166
 go_wp2_with (go_at_call 164;refine T.mono ?_;rintro e w' ⟨rfl,hb⟩;have K1:=K w' hb;clear K)
 go_wp2_with (go_at_call 167;refine K1.mono ?_;rintro e w2 ⟨rfl,hw2⟩;obtain rfl:w'=w2:=hw2.symm)
 exact⟨rfl,rfl,_,hb⟩
set_option maxHeartbeats 400000 in
theorem aEY (pv rv xv ev pb rb ro:Nat) (s:ByteArray) (w:World) (h1:w.cell? ⟨pv,0,none⟩=some (.pointer (some ⟨pb,0,none⟩))) (h2:w.cell? ⟨rv,0,none⟩=some (.pointer (some ⟨rb,ro,none⟩)))
 (h3:w.cell? ⟨pb,0,none⟩=some (.string s)) (old:Value) (h4:w.cell? ⟨rb,ro,none⟩=some old) (h5:w.frozen? ⟨rb,ro,none⟩=false):
 CallsD Tryz.prog 169 #[.pointer (some ⟨pv,0,none⟩),.pointer (some ⟨rv,0,none⟩),.pointer (some ⟨xv,0,none⟩),.pointer (some ⟨ev,0,none⟩)] .returning w fun e u' w'=>
  e= .returned (.tuple #[])/\u'= .returning/\w'=w.drew.setCell ⟨rb,ro,none⟩ (.string s):=by
 have mixed:=mixed;refine callsD_of_wpS Tryz.func169 rfl fun c₀ cs hu=>?_;apply wpS_seq;apply wpS_region;simp [wpOpsS,go_sem,recoverD,hu,Tryz.ntmps169,Exit.thenS];have hnil:∀w:World,(binOp BinOp.eql 20 .nilIface .nilIface).run Tryz.prog w= .ok (.bool true) w:=fun _=>by kernel_rfl
 have g1:w.drew.cell? ⟨pv,0,none⟩=some (.pointer (some ⟨pb,0,none⟩)):=h1;have g2:w.drew.cell? ⟨rv,0,none⟩=some (.pointer (some ⟨rb,ro,none⟩)):=h2;have g3:w.drew.cell? ⟨pb,0,none⟩=some (.string s):=h3;have g4:w.drew.cell? ⟨rb,ro,none⟩=some old:=h4;have g5:w.drew.frozen? ⟨rb,ro,none⟩=false:=h5;refine wpS_of_wp ?_;have ht:(#[.pointer (some ⟨pv,0,none⟩),.pointer (some ⟨rv,0,none⟩),.pointer (some ⟨xv,0,none⟩),.pointer (some ⟨ev,0,none⟩)]++(Array.replicate 28 undef).setIfInBounds 4 Value.nilIface:Array Value)= #[.pointer (some ⟨pv,0,none⟩),.pointer (some ⟨rv,0,none⟩),.pointer (some ⟨xv,0,none⟩),.pointer (some ⟨ev,0,none⟩),undef,undef,undef,undef,.nilIface,undef,undef,undef,undef,undef,undef,undef,undef,undef,undef,undef,undef,undef,undef,undef,undef,undef,undef,undef,undef,undef,undef,undef]:=by simp [Array.replicate,List.replicate]
 rw [ht]
 go_wp2
 go_region_o
 all_goals
  go_wp2
 cases c₀
 simp_all [bodyPostS,results,Tryz.results169]
set_option maxHeartbeats 2000000 in
theorem aBP (pv rv xv ev rb ro:Nat) (er:Int) (w:World) (h2:w.cell? ⟨rv,0,none⟩=some (.pointer (some ⟨rb,ro,none⟩)))
 (ox oe os Zk:Value) (h4:w.cell? ⟨xv,0,none⟩=some ox) (h5:w.frozen? ⟨xv,0,none⟩=false) (h6:w.cell? ⟨ev,0,none⟩=some oe) (h7:w.frozen? ⟨ev,0,none⟩=false)
 (h8:w.cell? ⟨rb,ro,none⟩=some os) (h9:w.frozen? ⟨rb,ro,none⟩=false) (h10:w.cell? ⟨rb,ro+1,none⟩=some Zk) (h11:w.frozen? ⟨rb,ro+1,none⟩=false)
 (d1:xv≠rv) (d2:ev≠rv) (d3:xv≠ev) (d4:xv≠rb) (d5:ev≠rb) (d6:rb≠rv) (l1:rv<w.heap.size) (l2:xv<w.heap.size) (l3:ev<w.heap.size) (l4:rb<w.heap.size):
 CallsD Tryz.prog 169 #[.pointer (some ⟨pv,0,none⟩),.pointer (some ⟨rv,0,none⟩),.pointer (some ⟨xv,0,none⟩),.pointer (some ⟨ev,0,none⟩)] (.panicking [{pJ er with recovered:=false}]) w fun e u' w'=>
  e= .returned (.tuple #[])/\u'= .panicking [{pJ er with recovered:=true}]/\
  w'=(((((w.alloc (.cells #[.int .i64 er] 219)).setCell ⟨xv,0,none⟩ (.int .u8 0)).setCell ⟨ev,0,none⟩ (.int .i64 er)).drew.setCell ⟨rb,ro,none⟩ (.string ⟨#[]⟩)).setCell ⟨rb,ro+1,none⟩ (.int .i64 er)).drew:=by
 have mixed:=mixed;unfold pJ;refine callsD_of_wpS Tryz.func169 rfl fun c₀ cs hu=>?_;apply wpS_seq;apply wpS_region;simp [wpOpsS,go_sem,recoverD,hu,Tryz.ntmps169,Exit.thenS];have hnil:∀w:World,(binOp BinOp.eql 20 (.iface 219 (.agg #[.int .i64 er])) .nilIface).run Tryz.prog w= .ok (.bool false) w:=fun _=>by kernel_rfl
 have hta:∀w:World,(Instr.typeAssert (.iface 219 (.agg #[.int .i64 er])) 20 219 true).run Tryz.prog w= .ok (.tuple #[.agg #[.int .i64 er],.bool true]) w:=fun _=>by kernel_rfl
 refine wpS_of_wp ?_;have ht:(#[.pointer (some ⟨pv,0,none⟩),.pointer (some ⟨rv,0,none⟩),.pointer (some ⟨xv,0,none⟩),.pointer (some ⟨ev,0,none⟩)]++(Array.replicate 28 undef).setIfInBounds 4 (.iface 219 (.agg #[.int .i64 er])):Array Value)= #[.pointer (some ⟨pv,0,none⟩),.pointer (some ⟨rv,0,none⟩),.pointer (some ⟨xv,0,none⟩),.pointer (some ⟨ev,0,none⟩),undef,undef,undef,undef,(.iface 219 (.agg #[.int .i64 er])),undef,undef,undef,undef,undef,undef,undef,undef,undef,undef,undef,undef,undef,undef,undef,undef,undef,undef,undef,undef,undef,undef,undef]:=by simp [Array.replicate,List.replicate]
 rw [ht];have HB:Below w.heap.size w (w.alloc (.cells #[.int .i64 er] 219)):=(Below.refl _ w).alloc (Nat.le_refl _) _;have hl:(w.alloc (.cells #[.int .i64 er] 219)).cell? ⟨w.heap.size,0,none⟩=some (.int .i64 er):=by simp [go_sem]
 have k2:=(HB.cell (p:=⟨rv,0,none⟩) l1).trans h2;have k4:=(HB.cell (p:=⟨xv,0,none⟩) l2).trans h4;have k5:=(HB.frozen (p:=⟨xv,0,none⟩) l2).trans h5;have k6:=(HB.cell (p:=⟨ev,0,none⟩) l3).trans h6;have k7:=(HB.frozen (p:=⟨ev,0,none⟩) l3).trans h7;have k8:=(HB.cell (p:=⟨rb,ro,none⟩) l4).trans h8;have k9:=(HB.frozen (p:=⟨rb,ro,none⟩) l4).trans h9;have k10:=(HB.cell (p:=⟨rb,ro+1,none⟩) l4).trans h10;have k11:=(HB.frozen (p:=⟨rb,ro+1,none⟩) l4).trans h11;have n1:w.heap.size≠xv:=by omega
 have n2:w.heap.size≠ev:=by omega
 have n3:rb≠w.heap.size:=by omega
 go_wp2
 clear HB h2 h4 h5 h6 h7 h8 h9 h10 h11 l1 l2 l3 l4;generalize w.heap.size=lb at*;generalize hw1:w.alloc (.cells #[.int .i64 er] 219)=w1 at*;have HW1:=Go.Lib.hid hw1;clear hw1;have q2:(⟨xv,0,none⟩:Addr)≠⟨rv,0,none⟩:=fun e=>d1 (congrArg Addr.block e);have q3:(⟨ev,0,none⟩:Addr)≠⟨rv,0,none⟩:=fun e=>d2 (congrArg Addr.block e)
 go_region_o
 all_goals go_wp2
 have f1:∀(a:Addr) (v:Value),a.block≠xv->a.block≠ev->w1.cell? a=some v->(((w1.setCell ⟨xv,0,none⟩ (.int .u8 0)).setCell ⟨ev,0,none⟩ (.int .i64 er)).drew).cell? a=some v:=by
  intro a v a1 a2 h;have e1:(⟨ev,0,none⟩:Addr)≠a:=fun e=>a2 (by rw [<-e]);have e2:(⟨xv,0,none⟩:Addr)≠a:=fun e=>a1 (by rw [<-e]);show((w1.setCell ⟨xv,0,none⟩ (.int .u8 0)).setCell ⟨ev,0,none⟩ (.int .i64 er)).cell? a=some v;rw [World.cell?_setCell_other _ _ _ _ e1,World.cell?_setCell_other _ _ _ _ e2];exact h
 have f2:∀(a:Addr),w1.frozen? a=false->(((w1.setCell ⟨xv,0,none⟩ (.int .u8 0)).setCell ⟨ev,0,none⟩ (.int .i64 er)).drew).frozen? a=false:=by
  intro a h;show((w1.setCell ⟨xv,0,none⟩ (.int .u8 0)).setCell ⟨ev,0,none⟩ (.int .i64 er)).frozen? a=false;simp [go_sem,h]
 have z2:=f1 _ _ (Ne.symm d1) (Ne.symm d2) k2;have z8:=f1 _ _ (Ne.symm d4) (Ne.symm d5) k8;have z9:=f2 _ k9;have z10:=f1 _ _ (Ne.symm d4) (Ne.symm d5) k10;have z11:=f2 _ k11;have zl:=f1 _ _ n1 n2 hl;clear f1 f2 k2 k4 k5 k6 k7 k8 k9 k10 k11 hl q2 q3;generalize hw2:((w1.setCell ⟨xv,0,none⟩ (.int .u8 0)).setCell ⟨ev,0,none⟩ (.int .i64 er)).drew=w2 at*;have HW2:=Go.Lib.hid hw2;clear hw2;have q4:(⟨rb,ro,none⟩:Addr)≠⟨lb,0,none⟩:=fun e=>n3 (congrArg Addr.block e);have q5:(⟨rb,ro,none⟩:Addr)≠⟨rv,0,none⟩:=fun e=>d6 (congrArg Addr.block e)
 go_region_o
 all_goals go_wp2
 have e1:w.alloc (.cells #[.int .i64 er] 219)=w1:=HW1;have e2:((w1.setCell ⟨xv,0,none⟩ (.int .u8 0)).setCell ⟨ev,0,none⟩ (.int .i64 er)).drew=w2:=HW2;refine⟨rfl,_,rfl,.tuple #[],?_,rfl,rfl,?_⟩
 ·simp [results,Tryz.results169]
 ·rw [e1,<-e2];rfl
set_option maxHeartbeats 2000000 in
theorem Za (rb ro:Nat) (h:FuncId) (cap:Array Value) (s rest:ByteArray) (x:Int) (w:World) (hr0:rb<w.heap.size) (h1:w.cell? ⟨rb,ro,none⟩=some (.string s)) (h2:w.cell? ⟨rb,ro+1,none⟩=some (.int .i64 0)) (h3:w.frozen? ⟨rb,ro,none⟩=false)
 (he:∀args w,(callFunc h args).run Tryz.prog w= .ok (.enter h args) w) (H:xU h cap s rest (.int .u8 x) w):
 Calls Tryz.prog 158 #[.pointer (some ⟨rb,ro,none⟩),.func (.func h) #[] cap] w (EB rb ro rest (.int .u8 x) w):=by
 have hmf:∀(fn:Fn) (first cap:Array Value) (w:World),(Instr.makeFunc fn first cap).run Tryz.prog w= .ok (.func fn first cap) w:=fun _ _ _ _=>rfl
 have k1:∀o1 o2 o3,(((w.alloc o1).alloc o2).alloc o3).cell? ⟨rb,ro,none⟩=some (.string s):=fun o1 o2 o3=>
  ((((Below.refl _ w).alloc (Nat.le_refl _) o1).alloc (by simp) o2).alloc (by simp;omega) o3).cell (p:=⟨rb,ro,none⟩) hr0 |>.trans h1
 have k2:∀o1 o2 o3,(((w.alloc o1).alloc o2).alloc o3).cell? ⟨rb,ro+1,none⟩=some (.int .i64 0):=fun o1 o2 o3=>
  ((((Below.refl _ w).alloc (Nat.le_refl _) o1).alloc (by simp) o2).alloc (by simp;omega) o3).cell (p:=⟨rb,ro+1,none⟩) hr0 |>.trans h2
 have HH:=Go.Lib.hid H;have HR:=Go.Lib.hid hr0;clear H hr0
 go_enter_defers Tryz.func158,Tryz.ntmps158
 go_wp2
 generalize hW:((((w.alloc (Obj.cells #[Value.pointer (some {block:=rb,off:=ro})] 100)).alloc (Obj.cells #[(.int .u8 0)] 5)).alloc (Obj.cells #[.int .i64 0] 37)).alloc (Obj.cells #[Value.string s] 174)).alloc (Obj.cells #[Value.pointer (some {block:=w.heap.size+1+1+1,off:=0})] 171)=W;have hr0:rb<w.heap.size:=HR;obtain⟨b0,b1,b2,b3,b4,hsz⟩:=yQ w _ _ _ _ _ W hW
 have hBW:Below w.heap.size w W:=by
  rw [<-hW];exact(((((Below.refl _ w).alloc (Nat.le_refl _) _).alloc (by simp) _).alloc (by simp;omega) _).alloc (by simp;omega) _).alloc (by simp;omega) _
 clear hW k1 k2;have c3:W.cell? ⟨w.heap.size+1+1+1,0,none⟩=some (.string s):=aS b3;refine((HH:xU h cap s rest (.int .u8 x) w) (w.heap.size+1+1+1) W hBW (by omega) (by omega) c3 (cT b3)).mono ?_
 rintro r w1 ⟨rfl,hB⟩
 have hk:∀k,k<w.heap.size+5->k≠w.heap.size+1+1+1->w1.heap[k]? =W.heap[k]? :=fun k h1 h2=>(hB.block k (by omega)).trans (aE (Ne.symm h2));have d0:w1.heap[w.heap.size]? =_:=(hk _ (by omega) (by omega)).trans b0;have d1:w1.heap[w.heap.size+1]? =_:=(hk _ (by omega) (by omega)).trans b1;have d2:w1.heap[w.heap.size+1+1]? =_:=(hk _ (by omega) (by omega)).trans b2
 have d3:w1.heap[w.heap.size+1+1+1]? =some (Obj.cells #[Value.string rest] 174):=by
  rw [hB.block _ (by omega),bM b3];rfl
 have d4:w1.heap[w.heap.size+1+1+1+1]? =_:=(hk _ (by omega) (by omega)).trans b4;have hB1:Below w.heap.size w w1:=(hBW.setCell (p:=⟨w.heap.size+1+1+1,0,none⟩) (by show _<=w.heap.size+1+1+1;omega) (.string rest)).trans (hB.mono (by omega));clear hk hB b0 b1 b2 b3 b4 c3 hBW;have x1:w1.cell? ⟨w.heap.size+1,0,none⟩=some (.int .u8 0):=aS d1;have x2:w1.frozen? ⟨w.heap.size+1,0,none⟩=false:=cT d1;have x3:w1.cell? ⟨w.heap.size+1+1,0,none⟩=some (.int .i64 0):=aS d2;have x4:w1.frozen? ⟨w.heap.size+1+1,0,none⟩=false:=cT d2;have HD:=Go.Lib.hid d0;have HD1:=Go.Lib.hid d1;have HD2:=Go.Lib.hid d2;have HD3:=Go.Lib.hid d3;have HD4:=Go.Lib.hid d4;have HZ:=Go.Lib.hid hsz;have h1:=Go.Lib.hid h1;have h3:=Go.Lib.hid h3;clear d0 d1 d2 d3 d4 hsz h2 hr0
 go_wp2
 have hr0:rb<w.heap.size:=HR;have g0:=(HD:w1.heap[w.heap.size]? =_);have g1:=(HD1:w1.heap[w.heap.size+1]? =_);have g2:=(HD2:w1.heap[w.heap.size+1+1]? =_);have g3:=(HD3:w1.heap[w.heap.size+1+1+1]? =_);have g4:=(HD4:w1.heap[w.heap.size+1+1+1+1]? =_);clear HD HD1 HD2 HD3 HD4 HZ HR HH x1 x2 x3 x4;generalize hw2:(w1.setCell {block:=w.heap.size+1,off:=0} (.int .u8 x)).setCell {block:=w.heap.size+1+1,off:=0} (Value.int IntKind.i64 0)=w2;have ho:∀k,k≠w.heap.size+1->k≠w.heap.size+1+1->w2.heap[k]? =w1.heap[k]? :=fun k a1 a2=>by rw [<-hw2,aE (by exact Ne.symm a2),aE (by exact Ne.symm a1)]
 have e0:=(ho _ (by omega) (by omega)).trans g0;have e3:=(ho _ (by omega) (by omega)).trans g3;have e4:=(ho _ (by omega) (by omega)).trans g4;have e1:w2.heap[w.heap.size+1]? =some (Obj.cells #[(.int .u8 x)] 5):=by rw [<-hw2,aE (by show w.heap.size+1+1≠_;omega),bM g1];rfl
 have e2:w2.heap[w.heap.size+1+1]? =some (Obj.cells #[.int .i64 0] 37):=by rw [<-hw2,bM ((aE (by show w.heap.size+1≠_;omega)).trans g2)];rfl
 have hB2:Below w.heap.size w w2:=by rw [<-hw2];exact(hB1.setCell (by show _<=w.heap.size+1;omega) _).setCell (by show _<=w.heap.size+1+1;omega) _
 have er:w2.heap[rb]? =w.heap[rb]? :=hB2.block rb hr0;clear hw2 ho g0 g1 g2 g3 g4 hB1;refine leaves_cons (f:=169) (args:= #[.pointer (some ⟨w.heap.size+1+1+1+1,0,none⟩),.pointer (some ⟨w.heap.size,0,none⟩),.pointer (some ⟨w.heap.size+1,0,none⟩),.pointer (some ⟨w.heap.size+1+1,0,none⟩)]) (by simp) (by simp [go_sem]) ?_;refine(aEY _ _ _ _ (w.heap.size+1+1+1) rb ro rest w2 (aS e4) (aS e0) (aS e3) (.string s) (cY (a:=⟨rb,ro,none⟩) er h1) (iE (a:=⟨rb,ro,none⟩) er h3)).mono ?_
 rintro e u' w3 ⟨rfl,rfl,rfl⟩
 have y1:(w2.drew.setCell ⟨rb,ro,none⟩ (.string rest)).cell? ⟨w.heap.size+1,0,none⟩=some (.int .u8 x):=cY (w:=w2) (aE (by show rb≠w.heap.size+1;omega)) (aS e1);have y2:(w2.drew.setCell ⟨rb,ro,none⟩ (.string rest)).cell? ⟨w.heap.size+1+1,0,none⟩=some (.int .i64 0):=cY (w:=w2) (aE (by show rb≠w.heap.size+1+1;omega)) (aS e2);have hB3:Below w.heap.size (w.setCell ⟨rb,ro,none⟩ (.string rest)) (w2.drew.setCell ⟨rb,ro,none⟩ (.string rest)):=eJ hB2.drew _ _;generalize w2.drew.setCell ⟨rb,ro,none⟩ (.string rest)=w3 at*;clear e0 e1 e2 e3 e4 er hB2;simp [Leaves,settle,results,Tryz.results158,go_sem,y1,y2];exact⟨rfl,hB3⟩
set_option maxHeartbeats 2000000 in
theorem Ns (rb ro:Nat) (h:FuncId) (cap:Array Value) (s:ByteArray) (er:Int) (w:World) (hr0:rb<w.heap.size) (h1:w.cell? ⟨rb,ro,none⟩=some (.string s)) (h2:w.cell? ⟨rb,ro+1,none⟩=some (.int .i64 0)) (h3:w.frozen? ⟨rb,ro,none⟩=false) (h4:w.frozen? ⟨rb,ro+1,none⟩=false)
 (he:∀args w,(callFunc h args).run Tryz.prog w= .ok (.enter h args) w) (H:gH h cap s er w):
 Calls Tryz.prog 158 #[.pointer (some ⟨rb,ro,none⟩),.func (.func h) #[] cap] w (AZ rb ro er (.int .u8 0) w):=by
 have hmf:∀(fn:Fn) (first cap:Array Value) (w:World),(Instr.makeFunc fn first cap).run Tryz.prog w= .ok (.func fn first cap) w:=fun _ _ _ _=>rfl
 have k1:∀o1 o2 o3,(((w.alloc o1).alloc o2).alloc o3).cell? ⟨rb,ro,none⟩=some (.string s):=fun o1 o2 o3=>
  ((((Below.refl _ w).alloc (Nat.le_refl _) o1).alloc (by simp) o2).alloc (by simp;omega) o3).cell (p:=⟨rb,ro,none⟩) hr0 |>.trans h1
 have k2:∀o1 o2 o3,(((w.alloc o1).alloc o2).alloc o3).cell? ⟨rb,ro+1,none⟩=some (.int .i64 0):=fun o1 o2 o3=>
  ((((Below.refl _ w).alloc (Nat.le_refl _) o1).alloc (by simp) o2).alloc (by simp;omega) o3).cell (p:=⟨rb,ro+1,none⟩) hr0 |>.trans h2
 have HH:=Go.Lib.hid H;have HR:=Go.Lib.hid hr0;clear H hr0
 go_enter_defers Tryz.func158,Tryz.ntmps158
 go_wp2
 generalize hW:((((w.alloc (Obj.cells #[Value.pointer (some {block:=rb,off:=ro})] 100)).alloc (Obj.cells #[(.int .u8 0)] 5)).alloc (Obj.cells #[.int .i64 0] 37)).alloc (Obj.cells #[Value.string s] 174)).alloc (Obj.cells #[Value.pointer (some {block:=w.heap.size+1+1+1,off:=0})] 171)=W;have hr0:rb<w.heap.size:=HR;obtain⟨b0,b1,b2,b3,b4,hsz⟩:=yQ w _ _ _ _ _ W hW
 have hBW:Below w.heap.size w W:=by
  rw [<-hW];exact(((((Below.refl _ w).alloc (Nat.le_refl _) _).alloc (by simp) _).alloc (by simp;omega) _).alloc (by simp;omega) _).alloc (by simp;omega) _
 clear hW k1 k2;have c3:W.cell? ⟨w.heap.size+1+1+1,0,none⟩=some (.string s):=aS b3;refine((HH:gH h cap s er w) (w.heap.size+1+1+1) W hBW (by omega) (by omega) c3 (cT b3)).mono ?_
 rintro r w2 ⟨rfl,pv,hB⟩
 have hk:∀k,k<w.heap.size+5->k≠w.heap.size+1+1+1->w2.heap[k]? =W.heap[k]? :=fun k h1 h2=>(hB.block k (by omega)).trans (aE (Ne.symm h2));have e0:w2.heap[w.heap.size]? =_:=(hk _ (by omega) (by omega)).trans b0;have e1:w2.heap[w.heap.size+1]? =_:=(hk _ (by omega) (by omega)).trans b1;have e2:w2.heap[w.heap.size+1+1]? =_:=(hk _ (by omega) (by omega)).trans b2;have hB2:Below w.heap.size w w2:=(hBW.setCell (p:=⟨w.heap.size+1+1+1,0,none⟩) (by show _<=w.heap.size+1+1+1;omega) pv).trans (hB.mono (by omega));have hz2:W.heap.size<=w2.heap.size:=by have:=hB.size;simpa [World.setCell]using this
 clear hk hB b0 b1 b2 b3 b4 c3 hBW;have JB:w2.heap[rb]? =w.heap[rb]? :=hB2.block rb hr0;refine leaves_cons (f:=169) (args:= #[.pointer (some ⟨w.heap.size+1+1+1+1,0,none⟩),.pointer (some ⟨w.heap.size,0,none⟩),.pointer (some ⟨w.heap.size+1,0,none⟩),.pointer (some ⟨w.heap.size+1+1,0,none⟩)]) (by simp) (by simp [go_sem]) ?_
 refine(aBP _ _ _ _ rb ro er w2 (aS e0) (.int .u8 0) (.int .i64 0) (.string s) (.int .i64 0) (aS e1) (cT e1) (aS e2) (cT e2)
  (cY (a:=⟨rb,ro,none⟩) JB h1) (iE (a:=⟨rb,ro,none⟩) JB h3) (cY (a:=⟨rb,ro+1,none⟩) JB h2) (iE (a:=⟨rb,ro+1,none⟩) JB h4)
  (by omega) (by omega) (by omega) (by omega) (by omega) (by omega) (by omega) (by omega) (by omega) (by omega)).mono ?_
 rintro e u' w3 ⟨rfl,rfl,hw3⟩
 have n1:rb≠w.heap.size+1:=by omega
 have n2:rb≠w.heap.size+1+1:=by omega
 have WU:w.heap.size+1<w2.heap.size:=by omega
 have Zl:w.heap.size+1+1<w2.heap.size:=by omega
 have y1:w3.cell? ⟨w.heap.size+1,0,none⟩=some (.int .u8 0):=by
  have z:w3.heap[w.heap.size+1]? =some (Obj.cells #[(.int .u8 0)] 5):=by
   rw [hw3];show((((((w2.alloc _).setCell _ _).setCell _ _).setCell _ _).setCell _ _)).heap[_]? =_;rw [aE (by exact n1),aE (by exact n1),aE (by show w.heap.size+1+1≠w.heap.size+1;omega),bM (by rw [lA,if_neg (by omega)];exact e1)];rfl
  exact aS z
 have y2:w3.cell? ⟨w.heap.size+1+1,0,none⟩=some (.int .i64 er):=by
  have z:w3.heap[w.heap.size+1+1]? =some (Obj.cells #[.int .i64 er] 37):=by
   rw [hw3];show((((((w2.alloc _).setCell _ _).setCell _ _).setCell _ _).setCell _ _)).heap[_]? =_;rw [aE (by exact n2),aE (by exact n2),bM ((aE (by show w.heap.size+1≠w.heap.size+1+1;omega)).trans (by rw [lA,if_neg (by omega)];exact e2))];rfl
  exact aS z
 have hB3:Below w.heap.size ((w.setCell ⟨rb,ro,none⟩ (.string ⟨#[]⟩)).setCell ⟨rb,ro+1,none⟩ (.int .i64 er)) w3:=by
  rw [hw3];exact(eJ (eJ (((((hB2.alloc (by omega) _).setCell (by show w.heap.size<=w.heap.size+1;omega) _).setCell (by show w.heap.size<=w.heap.size+1+1;omega) _).drew)) _ _) _ _).drew
 clear hw3 e0 e1 e2 JB hB2 hz2 WU Zl n1 n2 h1 h2 h3 h4 hsz;simp [Leaves,settle,results,Tryz.results158,go_sem,y1,y2];exact⟨rfl,hB3⟩
set_option maxHeartbeats 2000000 in
theorem Js (rb ro:Nat) (how:Value) (er:Int) (w:World) (hr0:rb<w.heap.size) (h2:w.cell? ⟨rb,ro+1,none⟩=some (.int .i64 er)) (hne:er≠0):
 Calls Tryz.prog 158 #[.pointer (some ⟨rb,ro,none⟩),how] w fun r w'=>r= .returned (.tuple #[(.int .u8 0),.int .i64 er])/\Below w.heap.size w w':=by
 have mixed:=mixed
 have k2:∀o1 o2 o3,(((w.alloc o1).alloc o2).alloc o3).cell? ⟨rb,ro+1,none⟩=some (.int .i64 er):=fun o1 o2 o3=>
  ((((Below.refl _ w).alloc (Nat.le_refl _) o1).alloc (by simp) o2).alloc (by simp;omega) o3).cell (p:=⟨rb,ro+1,none⟩) hr0 |>.trans h2
 have q1:(⟨w.heap.size+1,0,none⟩:Addr)≠⟨rb,ro+1,none⟩:=by intro e;have e:=congrArg Addr.block e;simp at e;omega
 have hbne:(er != 0)=true:=by simpa using hne
 clear h2 hr0 hne
 go_enter_defers Tryz.func158,Tryz.ntmps158
 go_wp2
 go_region_o
 all_goals go_wp2
 simp [bodyPostD,Leaves,results,Tryz.results158,go_sem];exact((((Below.refl _ w).alloc (Nat.le_refl _) _).alloc (by simp) _).alloc (by simp;omega) _).drew
theorem Uj (how:Value) (w:World):
 Calls Tryz.prog 158 #[.pointer none,how] w fun r w'=>r= .returned (.tuple #[(.int .u8 0),.int .i64 2])/\Below w.heap.size w w':=by
 go_enter_defers Tryz.func158,Tryz.ntmps158
 go_wp2
 simp [bodyPostD,Leaves,results,Tryz.results158,go_sem];exact(((Below.refl _ w).alloc (Nat.le_refl _) _).alloc (by simp) _).alloc (by simp;omega) _
set_option maxHeartbeats 400000 in
theorem aEZ (pv rv xv ev pb rb ro:Nat) (s:ByteArray) (w:World) (h1:w.cell? ⟨pv,0,none⟩=some (.pointer (some ⟨pb,0,none⟩))) (h2:w.cell? ⟨rv,0,none⟩=some (.pointer (some ⟨rb,ro,none⟩)))
 (h3:w.cell? ⟨pb,0,none⟩=some (.string s)) (old:Value) (h4:w.cell? ⟨rb,ro,none⟩=some old) (h5:w.frozen? ⟨rb,ro,none⟩=false):
 CallsD Tryz.prog 168 #[.pointer (some ⟨pv,0,none⟩),.pointer (some ⟨rv,0,none⟩),.pointer (some ⟨xv,0,none⟩),.pointer (some ⟨ev,0,none⟩)] .returning w fun e u' w'=>
  e= .returned (.tuple #[])/\u'= .returning/\w'=w.drew.setCell ⟨rb,ro,none⟩ (.string s):=by
 have mixed:=mixed;refine callsD_of_wpS Tryz.func168 rfl fun c₀ cs hu=>?_;apply wpS_seq;apply wpS_region;simp [wpOpsS,go_sem,recoverD,hu,Tryz.ntmps168,Exit.thenS];have hnil:∀w:World,(binOp BinOp.eql 20 .nilIface .nilIface).run Tryz.prog w= .ok (.bool true) w:=fun _=>by kernel_rfl
 have g1:w.drew.cell? ⟨pv,0,none⟩=some (.pointer (some ⟨pb,0,none⟩)):=h1;have g2:w.drew.cell? ⟨rv,0,none⟩=some (.pointer (some ⟨rb,ro,none⟩)):=h2;have g3:w.drew.cell? ⟨pb,0,none⟩=some (.string s):=h3;have g4:w.drew.cell? ⟨rb,ro,none⟩=some old:=h4;have g5:w.drew.frozen? ⟨rb,ro,none⟩=false:=h5;refine wpS_of_wp ?_;have ht:(#[.pointer (some ⟨pv,0,none⟩),.pointer (some ⟨rv,0,none⟩),.pointer (some ⟨xv,0,none⟩),.pointer (some ⟨ev,0,none⟩)]++(Array.replicate 28 undef).setIfInBounds 4 Value.nilIface:Array Value)= #[.pointer (some ⟨pv,0,none⟩),.pointer (some ⟨rv,0,none⟩),.pointer (some ⟨xv,0,none⟩),.pointer (some ⟨ev,0,none⟩),undef,undef,undef,undef,.nilIface,undef,undef,undef,undef,undef,undef,undef,undef,undef,undef,undef,undef,undef,undef,undef,undef,undef,undef,undef,undef,undef,undef,undef]:=by simp [Array.replicate,List.replicate]
 rw [ht]
 go_wp2
 go_region_o
 all_goals
  go_wp2
 cases c₀
 simp_all [bodyPostS,results,Tryz.results168]
set_option maxHeartbeats 2000000 in
theorem aBS (pv rv xv ev rb ro:Nat) (er:Int) (w:World) (h2:w.cell? ⟨rv,0,none⟩=some (.pointer (some ⟨rb,ro,none⟩)))
 (ox oe os Zk:Value) (h4:w.cell? ⟨xv,0,none⟩=some ox) (h5:w.frozen? ⟨xv,0,none⟩=false) (h6:w.cell? ⟨ev,0,none⟩=some oe) (h7:w.frozen? ⟨ev,0,none⟩=false)
 (h8:w.cell? ⟨rb,ro,none⟩=some os) (h9:w.frozen? ⟨rb,ro,none⟩=false) (h10:w.cell? ⟨rb,ro+1,none⟩=some Zk) (h11:w.frozen? ⟨rb,ro+1,none⟩=false)
 (d1:xv≠rv) (d2:ev≠rv) (d3:xv≠ev) (d4:xv≠rb) (d5:ev≠rb) (d6:rb≠rv) (l1:rv<w.heap.size) (l2:xv<w.heap.size) (l3:ev<w.heap.size) (l4:rb<w.heap.size):
 CallsD Tryz.prog 168 #[.pointer (some ⟨pv,0,none⟩),.pointer (some ⟨rv,0,none⟩),.pointer (some ⟨xv,0,none⟩),.pointer (some ⟨ev,0,none⟩)] (.panicking [{pJ er with recovered:=false}]) w fun e u' w'=>
  e= .returned (.tuple #[])/\u'= .panicking [{pJ er with recovered:=true}]/\
  w'=(((((w.alloc (.cells #[.int .i64 er] 219)).setCell ⟨xv,0,none⟩ (.int .i64 0)).setCell ⟨ev,0,none⟩ (.int .i64 er)).drew.setCell ⟨rb,ro,none⟩ (.string ⟨#[]⟩)).setCell ⟨rb,ro+1,none⟩ (.int .i64 er)).drew:=by
 have mixed:=mixed;unfold pJ;refine callsD_of_wpS Tryz.func168 rfl fun c₀ cs hu=>?_;apply wpS_seq;apply wpS_region;simp [wpOpsS,go_sem,recoverD,hu,Tryz.ntmps168,Exit.thenS];have hnil:∀w:World,(binOp BinOp.eql 20 (.iface 219 (.agg #[.int .i64 er])) .nilIface).run Tryz.prog w= .ok (.bool false) w:=fun _=>by kernel_rfl
 have hta:∀w:World,(Instr.typeAssert (.iface 219 (.agg #[.int .i64 er])) 20 219 true).run Tryz.prog w= .ok (.tuple #[.agg #[.int .i64 er],.bool true]) w:=fun _=>by kernel_rfl
 refine wpS_of_wp ?_;have ht:(#[.pointer (some ⟨pv,0,none⟩),.pointer (some ⟨rv,0,none⟩),.pointer (some ⟨xv,0,none⟩),.pointer (some ⟨ev,0,none⟩)]++(Array.replicate 28 undef).setIfInBounds 4 (.iface 219 (.agg #[.int .i64 er])):Array Value)= #[.pointer (some ⟨pv,0,none⟩),.pointer (some ⟨rv,0,none⟩),.pointer (some ⟨xv,0,none⟩),.pointer (some ⟨ev,0,none⟩),undef,undef,undef,undef,(.iface 219 (.agg #[.int .i64 er])),undef,undef,undef,undef,undef,undef,undef,undef,undef,undef,undef,undef,undef,undef,undef,undef,undef,undef,undef,undef,undef,undef,undef]:=by simp [Array.replicate,List.replicate]
 rw [ht];have HB:Below w.heap.size w (w.alloc (.cells #[.int .i64 er] 219)):=(Below.refl _ w).alloc (Nat.le_refl _) _;have hl:(w.alloc (.cells #[.int .i64 er] 219)).cell? ⟨w.heap.size,0,none⟩=some (.int .i64 er):=by simp [go_sem]
 have k2:=(HB.cell (p:=⟨rv,0,none⟩) l1).trans h2;have k4:=(HB.cell (p:=⟨xv,0,none⟩) l2).trans h4;have k5:=(HB.frozen (p:=⟨xv,0,none⟩) l2).trans h5;have k6:=(HB.cell (p:=⟨ev,0,none⟩) l3).trans h6;have k7:=(HB.frozen (p:=⟨ev,0,none⟩) l3).trans h7;have k8:=(HB.cell (p:=⟨rb,ro,none⟩) l4).trans h8;have k9:=(HB.frozen (p:=⟨rb,ro,none⟩) l4).trans h9;have k10:=(HB.cell (p:=⟨rb,ro+1,none⟩) l4).trans h10;have k11:=(HB.frozen (p:=⟨rb,ro+1,none⟩) l4).trans h11;have n1:w.heap.size≠xv:=by omega
 have n2:w.heap.size≠ev:=by omega
 have n3:rb≠w.heap.size:=by omega
 go_wp2
 clear HB h2 h4 h5 h6 h7 h8 h9 h10 h11 l1 l2 l3 l4;generalize w.heap.size=lb at*;generalize hw1:w.alloc (.cells #[.int .i64 er] 219)=w1 at*;have HW1:=Go.Lib.hid hw1;clear hw1;have q2:(⟨xv,0,none⟩:Addr)≠⟨rv,0,none⟩:=fun e=>d1 (congrArg Addr.block e);have q3:(⟨ev,0,none⟩:Addr)≠⟨rv,0,none⟩:=fun e=>d2 (congrArg Addr.block e)
 go_region_o
 all_goals go_wp2
 have f1:∀(a:Addr) (v:Value),a.block≠xv->a.block≠ev->w1.cell? a=some v->(((w1.setCell ⟨xv,0,none⟩ (.int .i64 0)).setCell ⟨ev,0,none⟩ (.int .i64 er)).drew).cell? a=some v:=by
  intro a v a1 a2 h;have e1:(⟨ev,0,none⟩:Addr)≠a:=fun e=>a2 (by rw [<-e]);have e2:(⟨xv,0,none⟩:Addr)≠a:=fun e=>a1 (by rw [<-e]);show((w1.setCell ⟨xv,0,none⟩ (.int .i64 0)).setCell ⟨ev,0,none⟩ (.int .i64 er)).cell? a=some v;rw [World.cell?_setCell_other _ _ _ _ e1,World.cell?_setCell_other _ _ _ _ e2];exact h
 have f2:∀(a:Addr),w1.frozen? a=false->(((w1.setCell ⟨xv,0,none⟩ (.int .i64 0)).setCell ⟨ev,0,none⟩ (.int .i64 er)).drew).frozen? a=false:=by
  intro a h;show((w1.setCell ⟨xv,0,none⟩ (.int .i64 0)).setCell ⟨ev,0,none⟩ (.int .i64 er)).frozen? a=false;simp [go_sem,h]
 have z2:=f1 _ _ (Ne.symm d1) (Ne.symm d2) k2;have z8:=f1 _ _ (Ne.symm d4) (Ne.symm d5) k8;have z9:=f2 _ k9;have z10:=f1 _ _ (Ne.symm d4) (Ne.symm d5) k10;have z11:=f2 _ k11;have zl:=f1 _ _ n1 n2 hl;clear f1 f2 k2 k4 k5 k6 k7 k8 k9 k10 k11 hl q2 q3;generalize hw2:((w1.setCell ⟨xv,0,none⟩ (.int .i64 0)).setCell ⟨ev,0,none⟩ (.int .i64 er)).drew=w2 at*;have HW2:=Go.Lib.hid hw2;clear hw2;have q4:(⟨rb,ro,none⟩:Addr)≠⟨lb,0,none⟩:=fun e=>n3 (congrArg Addr.block e);have q5:(⟨rb,ro,none⟩:Addr)≠⟨rv,0,none⟩:=fun e=>d6 (congrArg Addr.block e)
 go_region_o
 all_goals go_wp2
 have e1:w.alloc (.cells #[.int .i64 er] 219)=w1:=HW1;have e2:((w1.setCell ⟨xv,0,none⟩ (.int .i64 0)).setCell ⟨ev,0,none⟩ (.int .i64 er)).drew=w2:=HW2;refine⟨rfl,_,rfl,.tuple #[],?_,rfl,rfl,?_⟩
 ·simp [results,Tryz.results168]
 ·rw [e1,<-e2];rfl
set_option maxHeartbeats 2000000 in
theorem Zb (rb ro:Nat) (h:FuncId) (cap:Array Value) (s rest:ByteArray) (x:Int) (w:World) (hr0:rb<w.heap.size) (h1:w.cell? ⟨rb,ro,none⟩=some (.string s)) (h2:w.cell? ⟨rb,ro+1,none⟩=some (.int .i64 0)) (h3:w.frozen? ⟨rb,ro,none⟩=false)
 (he:∀args w,(callFunc h args).run Tryz.prog w= .ok (.enter h args) w) (H:xU h cap s rest (.int .i64 x) w):
 Calls Tryz.prog 155 #[.pointer (some ⟨rb,ro,none⟩),.func (.func h) #[] cap] w (EB rb ro rest (.int .i64 x) w):=by
 have hmf:∀(fn:Fn) (first cap:Array Value) (w:World),(Instr.makeFunc fn first cap).run Tryz.prog w= .ok (.func fn first cap) w:=fun _ _ _ _=>rfl
 have k1:∀o1 o2 o3,(((w.alloc o1).alloc o2).alloc o3).cell? ⟨rb,ro,none⟩=some (.string s):=fun o1 o2 o3=>
  ((((Below.refl _ w).alloc (Nat.le_refl _) o1).alloc (by simp) o2).alloc (by simp;omega) o3).cell (p:=⟨rb,ro,none⟩) hr0 |>.trans h1
 have k2:∀o1 o2 o3,(((w.alloc o1).alloc o2).alloc o3).cell? ⟨rb,ro+1,none⟩=some (.int .i64 0):=fun o1 o2 o3=>
  ((((Below.refl _ w).alloc (Nat.le_refl _) o1).alloc (by simp) o2).alloc (by simp;omega) o3).cell (p:=⟨rb,ro+1,none⟩) hr0 |>.trans h2
 have HH:=Go.Lib.hid H;have HR:=Go.Lib.hid hr0;clear H hr0
 go_enter_defers Tryz.func155,Tryz.ntmps155
 go_wp2
 generalize hW:((((w.alloc (Obj.cells #[Value.pointer (some {block:=rb,off:=ro})] 100)).alloc (Obj.cells #[(.int .i64 0)] 3)).alloc (Obj.cells #[.int .i64 0] 37)).alloc (Obj.cells #[Value.string s] 174)).alloc (Obj.cells #[Value.pointer (some {block:=w.heap.size+1+1+1,off:=0})] 171)=W;have hr0:rb<w.heap.size:=HR;obtain⟨b0,b1,b2,b3,b4,hsz⟩:=yQ w _ _ _ _ _ W hW
 have hBW:Below w.heap.size w W:=by
  rw [<-hW];exact(((((Below.refl _ w).alloc (Nat.le_refl _) _).alloc (by simp) _).alloc (by simp;omega) _).alloc (by simp;omega) _).alloc (by simp;omega) _
 clear hW k1 k2;have c3:W.cell? ⟨w.heap.size+1+1+1,0,none⟩=some (.string s):=aS b3;refine((HH:xU h cap s rest (.int .i64 x) w) (w.heap.size+1+1+1) W hBW (by omega) (by omega) c3 (cT b3)).mono ?_
 rintro r w1 ⟨rfl,hB⟩
 have hk:∀k,k<w.heap.size+5->k≠w.heap.size+1+1+1->w1.heap[k]? =W.heap[k]? :=fun k h1 h2=>(hB.block k (by omega)).trans (aE (Ne.symm h2));have d0:w1.heap[w.heap.size]? =_:=(hk _ (by omega) (by omega)).trans b0;have d1:w1.heap[w.heap.size+1]? =_:=(hk _ (by omega) (by omega)).trans b1;have d2:w1.heap[w.heap.size+1+1]? =_:=(hk _ (by omega) (by omega)).trans b2
 have d3:w1.heap[w.heap.size+1+1+1]? =some (Obj.cells #[Value.string rest] 174):=by
  rw [hB.block _ (by omega),bM b3];rfl
 have d4:w1.heap[w.heap.size+1+1+1+1]? =_:=(hk _ (by omega) (by omega)).trans b4;have hB1:Below w.heap.size w w1:=(hBW.setCell (p:=⟨w.heap.size+1+1+1,0,none⟩) (by show _<=w.heap.size+1+1+1;omega) (.string rest)).trans (hB.mono (by omega));clear hk hB b0 b1 b2 b3 b4 c3 hBW;have x1:w1.cell? ⟨w.heap.size+1,0,none⟩=some (.int .i64 0):=aS d1;have x2:w1.frozen? ⟨w.heap.size+1,0,none⟩=false:=cT d1;have x3:w1.cell? ⟨w.heap.size+1+1,0,none⟩=some (.int .i64 0):=aS d2;have x4:w1.frozen? ⟨w.heap.size+1+1,0,none⟩=false:=cT d2;have HD:=Go.Lib.hid d0;have HD1:=Go.Lib.hid d1;have HD2:=Go.Lib.hid d2;have HD3:=Go.Lib.hid d3;have HD4:=Go.Lib.hid d4;have HZ:=Go.Lib.hid hsz;have h1:=Go.Lib.hid h1;have h3:=Go.Lib.hid h3;clear d0 d1 d2 d3 d4 hsz h2 hr0
 go_wp2
 have hr0:rb<w.heap.size:=HR;have g0:=(HD:w1.heap[w.heap.size]? =_);have g1:=(HD1:w1.heap[w.heap.size+1]? =_);have g2:=(HD2:w1.heap[w.heap.size+1+1]? =_);have g3:=(HD3:w1.heap[w.heap.size+1+1+1]? =_);have g4:=(HD4:w1.heap[w.heap.size+1+1+1+1]? =_);clear HD HD1 HD2 HD3 HD4 HZ HR HH x1 x2 x3 x4;generalize hw2:(w1.setCell {block:=w.heap.size+1,off:=0} (.int .i64 x)).setCell {block:=w.heap.size+1+1,off:=0} (Value.int IntKind.i64 0)=w2;have ho:∀k,k≠w.heap.size+1->k≠w.heap.size+1+1->w2.heap[k]? =w1.heap[k]? :=fun k a1 a2=>by rw [<-hw2,aE (by exact Ne.symm a2),aE (by exact Ne.symm a1)]
 have e0:=(ho _ (by omega) (by omega)).trans g0;have e3:=(ho _ (by omega) (by omega)).trans g3;have e4:=(ho _ (by omega) (by omega)).trans g4;have e1:w2.heap[w.heap.size+1]? =some (Obj.cells #[(.int .i64 x)] 3):=by rw [<-hw2,aE (by show w.heap.size+1+1≠_;omega),bM g1];rfl
 have e2:w2.heap[w.heap.size+1+1]? =some (Obj.cells #[.int .i64 0] 37):=by rw [<-hw2,bM ((aE (by show w.heap.size+1≠_;omega)).trans g2)];rfl
 have hB2:Below w.heap.size w w2:=by rw [<-hw2];exact(hB1.setCell (by show _<=w.heap.size+1;omega) _).setCell (by show _<=w.heap.size+1+1;omega) _
 have er:w2.heap[rb]? =w.heap[rb]? :=hB2.block rb hr0;clear hw2 ho g0 g1 g2 g3 g4 hB1;refine leaves_cons (f:=168) (args:= #[.pointer (some ⟨w.heap.size+1+1+1+1,0,none⟩),.pointer (some ⟨w.heap.size,0,none⟩),.pointer (some ⟨w.heap.size+1,0,none⟩),.pointer (some ⟨w.heap.size+1+1,0,none⟩)]) (by simp) (by simp [go_sem]) ?_;refine(aEZ _ _ _ _ (w.heap.size+1+1+1) rb ro rest w2 (aS e4) (aS e0) (aS e3) (.string s) (cY (a:=⟨rb,ro,none⟩) er h1) (iE (a:=⟨rb,ro,none⟩) er h3)).mono ?_
 rintro e u' w3 ⟨rfl,rfl,rfl⟩
 have y1:(w2.drew.setCell ⟨rb,ro,none⟩ (.string rest)).cell? ⟨w.heap.size+1,0,none⟩=some (.int .i64 x):=cY (w:=w2) (aE (by show rb≠w.heap.size+1;omega)) (aS e1);have y2:(w2.drew.setCell ⟨rb,ro,none⟩ (.string rest)).cell? ⟨w.heap.size+1+1,0,none⟩=some (.int .i64 0):=cY (w:=w2) (aE (by show rb≠w.heap.size+1+1;omega)) (aS e2);have hB3:Below w.heap.size (w.setCell ⟨rb,ro,none⟩ (.string rest)) (w2.drew.setCell ⟨rb,ro,none⟩ (.string rest)):=eJ hB2.drew _ _;generalize w2.drew.setCell ⟨rb,ro,none⟩ (.string rest)=w3 at*;clear e0 e1 e2 e3 e4 er hB2;simp [Leaves,settle,results,Tryz.results155,go_sem,y1,y2];exact⟨rfl,hB3⟩
set_option maxHeartbeats 2000000 in
theorem Nt (rb ro:Nat) (h:FuncId) (cap:Array Value) (s:ByteArray) (er:Int) (w:World) (hr0:rb<w.heap.size) (h1:w.cell? ⟨rb,ro,none⟩=some (.string s)) (h2:w.cell? ⟨rb,ro+1,none⟩=some (.int .i64 0)) (h3:w.frozen? ⟨rb,ro,none⟩=false) (h4:w.frozen? ⟨rb,ro+1,none⟩=false)
 (he:∀args w,(callFunc h args).run Tryz.prog w= .ok (.enter h args) w) (H:gH h cap s er w):
 Calls Tryz.prog 155 #[.pointer (some ⟨rb,ro,none⟩),.func (.func h) #[] cap] w (AZ rb ro er (.int .i64 0) w):=by
 have hmf:∀(fn:Fn) (first cap:Array Value) (w:World),(Instr.makeFunc fn first cap).run Tryz.prog w= .ok (.func fn first cap) w:=fun _ _ _ _=>rfl
 have k1:∀o1 o2 o3,(((w.alloc o1).alloc o2).alloc o3).cell? ⟨rb,ro,none⟩=some (.string s):=fun o1 o2 o3=>
  ((((Below.refl _ w).alloc (Nat.le_refl _) o1).alloc (by simp) o2).alloc (by simp;omega) o3).cell (p:=⟨rb,ro,none⟩) hr0 |>.trans h1
 have k2:∀o1 o2 o3,(((w.alloc o1).alloc o2).alloc o3).cell? ⟨rb,ro+1,none⟩=some (.int .i64 0):=fun o1 o2 o3=>
  ((((Below.refl _ w).alloc (Nat.le_refl _) o1).alloc (by simp) o2).alloc (by simp;omega) o3).cell (p:=⟨rb,ro+1,none⟩) hr0 |>.trans h2
 have HH:=Go.Lib.hid H;have HR:=Go.Lib.hid hr0;clear H hr0
 go_enter_defers Tryz.func155,Tryz.ntmps155
 go_wp2
 generalize hW:((((w.alloc (Obj.cells #[Value.pointer (some {block:=rb,off:=ro})] 100)).alloc (Obj.cells #[(.int .i64 0)] 3)).alloc (Obj.cells #[.int .i64 0] 37)).alloc (Obj.cells #[Value.string s] 174)).alloc (Obj.cells #[Value.pointer (some {block:=w.heap.size+1+1+1,off:=0})] 171)=W;have hr0:rb<w.heap.size:=HR;obtain⟨b0,b1,b2,b3,b4,hsz⟩:=yQ w _ _ _ _ _ W hW
 have hBW:Below w.heap.size w W:=by
  rw [<-hW];exact(((((Below.refl _ w).alloc (Nat.le_refl _) _).alloc (by simp) _).alloc (by simp;omega) _).alloc (by simp;omega) _).alloc (by simp;omega) _
 clear hW k1 k2;have c3:W.cell? ⟨w.heap.size+1+1+1,0,none⟩=some (.string s):=aS b3;refine((HH:gH h cap s er w) (w.heap.size+1+1+1) W hBW (by omega) (by omega) c3 (cT b3)).mono ?_
 rintro r w2 ⟨rfl,pv,hB⟩
 have hk:∀k,k<w.heap.size+5->k≠w.heap.size+1+1+1->w2.heap[k]? =W.heap[k]? :=fun k h1 h2=>(hB.block k (by omega)).trans (aE (Ne.symm h2));have e0:w2.heap[w.heap.size]? =_:=(hk _ (by omega) (by omega)).trans b0;have e1:w2.heap[w.heap.size+1]? =_:=(hk _ (by omega) (by omega)).trans b1;have e2:w2.heap[w.heap.size+1+1]? =_:=(hk _ (by omega) (by omega)).trans b2;have hB2:Below w.heap.size w w2:=(hBW.setCell (p:=⟨w.heap.size+1+1+1,0,none⟩) (by show _<=w.heap.size+1+1+1;omega) pv).trans (hB.mono (by omega));have hz2:W.heap.size<=w2.heap.size:=by have:=hB.size;simpa [World.setCell]using this
 clear hk hB b0 b1 b2 b3 b4 c3 hBW;have JB:w2.heap[rb]? =w.heap[rb]? :=hB2.block rb hr0;refine leaves_cons (f:=168) (args:= #[.pointer (some ⟨w.heap.size+1+1+1+1,0,none⟩),.pointer (some ⟨w.heap.size,0,none⟩),.pointer (some ⟨w.heap.size+1,0,none⟩),.pointer (some ⟨w.heap.size+1+1,0,none⟩)]) (by simp) (by simp [go_sem]) ?_
 refine(aBS _ _ _ _ rb ro er w2 (aS e0) (.int .i64 0) (.int .i64 0) (.string s) (.int .i64 0) (aS e1) (cT e1) (aS e2) (cT e2)
  (cY (a:=⟨rb,ro,none⟩) JB h1) (iE (a:=⟨rb,ro,none⟩) JB h3) (cY (a:=⟨rb,ro+1,none⟩) JB h2) (iE (a:=⟨rb,ro+1,none⟩) JB h4)
  (by omega) (by omega) (by omega) (by omega) (by omega) (by omega) (by omega) (by omega) (by omega) (by omega)).mono ?_
 rintro e u' w3 ⟨rfl,rfl,hw3⟩
 have n1:rb≠w.heap.size+1:=by omega
 have n2:rb≠w.heap.size+1+1:=by omega
 have WU:w.heap.size+1<w2.heap.size:=by omega
 have Zl:w.heap.size+1+1<w2.heap.size:=by omega
 have y1:w3.cell? ⟨w.heap.size+1,0,none⟩=some (.int .i64 0):=by
  have z:w3.heap[w.heap.size+1]? =some (Obj.cells #[(.int .i64 0)] 3):=by
   rw [hw3];show((((((w2.alloc _).setCell _ _).setCell _ _).setCell _ _).setCell _ _)).heap[_]? =_;rw [aE (by exact n1),aE (by exact n1),aE (by show w.heap.size+1+1≠w.heap.size+1;omega),bM (by rw [lA,if_neg (by omega)];exact e1)];rfl
  exact aS z
 have y2:w3.cell? ⟨w.heap.size+1+1,0,none⟩=some (.int .i64 er):=by
  have z:w3.heap[w.heap.size+1+1]? =some (Obj.cells #[.int .i64 er] 37):=by
   rw [hw3];show((((((w2.alloc _).setCell _ _).setCell _ _).setCell _ _).setCell _ _)).heap[_]? =_;rw [aE (by exact n2),aE (by exact n2),bM ((aE (by show w.heap.size+1≠w.heap.size+1+1;omega)).trans (by rw [lA,if_neg (by omega)];exact e2))];rfl
  exact aS z
 have hB3:Below w.heap.size ((w.setCell ⟨rb,ro,none⟩ (.string ⟨#[]⟩)).setCell ⟨rb,ro+1,none⟩ (.int .i64 er)) w3:=by
  rw [hw3];exact(eJ (eJ (((((hB2.alloc (by omega) _).setCell (by show w.heap.size<=w.heap.size+1;omega) _).setCell (by show w.heap.size<=w.heap.size+1+1;omega) _).drew)) _ _) _ _).drew
 clear hw3 e0 e1 e2 JB hB2 hz2 WU Zl n1 n2 h1 h2 h3 h4 hsz;simp [Leaves,settle,results,Tryz.results155,go_sem,y1,y2];exact⟨rfl,hB3⟩
set_option maxHeartbeats 2000000 in
theorem Jt (rb ro:Nat) (how:Value) (er:Int) (w:World) (hr0:rb<w.heap.size) (h2:w.cell? ⟨rb,ro+1,none⟩=some (.int .i64 er)) (hne:er≠0):
 Calls Tryz.prog 155 #[.pointer (some ⟨rb,ro,none⟩),how] w fun r w'=>r= .returned (.tuple #[(.int .i64 0),.int .i64 er])/\Below w.heap.size w w':=by
 have mixed:=mixed
 have k2:∀o1 o2 o3,(((w.alloc o1).alloc o2).alloc o3).cell? ⟨rb,ro+1,none⟩=some (.int .i64 er):=fun o1 o2 o3=>
  ((((Below.refl _ w).alloc (Nat.le_refl _) o1).alloc (by simp) o2).alloc (by simp;omega) o3).cell (p:=⟨rb,ro+1,none⟩) hr0 |>.trans h2
 have q1:(⟨w.heap.size+1,0,none⟩:Addr)≠⟨rb,ro+1,none⟩:=by intro e;have e:=congrArg Addr.block e;simp at e;omega
 have hbne:(er != 0)=true:=by simpa using hne
 clear h2 hr0 hne
 go_enter_defers Tryz.func155,Tryz.ntmps155
 go_wp2
 go_region_o
 all_goals go_wp2
 simp [bodyPostD,Leaves,results,Tryz.results155,go_sem];exact((((Below.refl _ w).alloc (Nat.le_refl _) _).alloc (by simp) _).alloc (by simp;omega) _).drew
theorem Uk (how:Value) (w:World):
 Calls Tryz.prog 155 #[.pointer none,how] w fun r w'=>r= .returned (.tuple #[(.int .i64 0),.int .i64 2])/\Below w.heap.size w w':=by
 go_enter_defers Tryz.func155,Tryz.ntmps155
 go_wp2
 simp [bodyPostD,Leaves,results,Tryz.results155,go_sem];exact(((Below.refl _ w).alloc (Nat.le_refl _) _).alloc (by simp) _).alloc (by simp;omega) _
set_option maxHeartbeats 400000 in
theorem aE0 (pv rv xv ev pb rb ro:Nat) (s:ByteArray) (w:World) (h1:w.cell? ⟨pv,0,none⟩=some (.pointer (some ⟨pb,0,none⟩))) (h2:w.cell? ⟨rv,0,none⟩=some (.pointer (some ⟨rb,ro,none⟩)))
 (h3:w.cell? ⟨pb,0,none⟩=some (.string s)) (old:Value) (h4:w.cell? ⟨rb,ro,none⟩=some old) (h5:w.frozen? ⟨rb,ro,none⟩=false):
 CallsD Tryz.prog 172 #[.pointer (some ⟨pv,0,none⟩),.pointer (some ⟨rv,0,none⟩),.pointer (some ⟨xv,0,none⟩),.pointer (some ⟨ev,0,none⟩)] .returning w fun e u' w'=>
  e= .returned (.tuple #[])/\u'= .returning/\w'=w.drew.setCell ⟨rb,ro,none⟩ (.string s):=by
 have mixed:=mixed;refine callsD_of_wpS Tryz.func172 rfl fun c₀ cs hu=>?_;apply wpS_seq;apply wpS_region;simp [wpOpsS,go_sem,recoverD,hu,Tryz.ntmps172,Exit.thenS];have hnil:∀w:World,(binOp BinOp.eql 20 .nilIface .nilIface).run Tryz.prog w= .ok (.bool true) w:=fun _=>by kernel_rfl
 have g1:w.drew.cell? ⟨pv,0,none⟩=some (.pointer (some ⟨pb,0,none⟩)):=h1;have g2:w.drew.cell? ⟨rv,0,none⟩=some (.pointer (some ⟨rb,ro,none⟩)):=h2;have g3:w.drew.cell? ⟨pb,0,none⟩=some (.string s):=h3;have g4:w.drew.cell? ⟨rb,ro,none⟩=some old:=h4;have g5:w.drew.frozen? ⟨rb,ro,none⟩=false:=h5;refine wpS_of_wp ?_;have ht:(#[.pointer (some ⟨pv,0,none⟩),.pointer (some ⟨rv,0,none⟩),.pointer (some ⟨xv,0,none⟩),.pointer (some ⟨ev,0,none⟩)]++(Array.replicate 28 undef).setIfInBounds 4 Value.nilIface:Array Value)= #[.pointer (some ⟨pv,0,none⟩),.pointer (some ⟨rv,0,none⟩),.pointer (some ⟨xv,0,none⟩),.pointer (some ⟨ev,0,none⟩),undef,undef,undef,undef,.nilIface,undef,undef,undef,undef,undef,undef,undef,undef,undef,undef,undef,undef,undef,undef,undef,undef,undef,undef,undef,undef,undef,undef,undef]:=by simp [Array.replicate,List.replicate]
 rw [ht]
 go_wp2
 go_region_o
 all_goals
  go_wp2
 cases c₀
 simp_all [bodyPostS,results,Tryz.results172]
set_option maxHeartbeats 2000000 in
theorem aBT (pv rv xv ev rb ro:Nat) (er:Int) (w:World) (h2:w.cell? ⟨rv,0,none⟩=some (.pointer (some ⟨rb,ro,none⟩)))
 (ox oe os Zk:Value) (h4:w.cell? ⟨xv,0,none⟩=some ox) (h5:w.frozen? ⟨xv,0,none⟩=false) (h6:w.cell? ⟨ev,0,none⟩=some oe) (h7:w.frozen? ⟨ev,0,none⟩=false)
 (h8:w.cell? ⟨rb,ro,none⟩=some os) (h9:w.frozen? ⟨rb,ro,none⟩=false) (h10:w.cell? ⟨rb,ro+1,none⟩=some Zk) (h11:w.frozen? ⟨rb,ro+1,none⟩=false)
 (d1:xv≠rv) (d2:ev≠rv) (d3:xv≠ev) (d4:xv≠rb) (d5:ev≠rb) (d6:rb≠rv) (l1:rv<w.heap.size) (l2:xv<w.heap.size) (l3:ev<w.heap.size) (l4:rb<w.heap.size):
 CallsD Tryz.prog 172 #[.pointer (some ⟨pv,0,none⟩),.pointer (some ⟨rv,0,none⟩),.pointer (some ⟨xv,0,none⟩),.pointer (some ⟨ev,0,none⟩)] (.panicking [{pJ er with recovered:=false}]) w fun e u' w'=>
  e= .returned (.tuple #[])/\u'= .panicking [{pJ er with recovered:=true}]/\
  w'=(((((w.alloc (.cells #[.int .i64 er] 219)).setCell ⟨xv,0,none⟩ (.string ⟨#[]⟩)).setCell ⟨ev,0,none⟩ (.int .i64 er)).drew.setCell ⟨rb,ro,none⟩ (.string ⟨#[]⟩)).setCell ⟨rb,ro+1,none⟩ (.int .i64 er)).drew:=by
 have mixed:=mixed;unfold pJ;refine callsD_of_wpS Tryz.func172 rfl fun c₀ cs hu=>?_;apply wpS_seq;apply wpS_region;simp [wpOpsS,go_sem,recoverD,hu,Tryz.ntmps172,Exit.thenS];have hnil:∀w:World,(binOp BinOp.eql 20 (.iface 219 (.agg #[.int .i64 er])) .nilIface).run Tryz.prog w= .ok (.bool false) w:=fun _=>by kernel_rfl
 have hta:∀w:World,(Instr.typeAssert (.iface 219 (.agg #[.int .i64 er])) 20 219 true).run Tryz.prog w= .ok (.tuple #[.agg #[.int .i64 er],.bool true]) w:=fun _=>by kernel_rfl
 refine wpS_of_wp ?_;have ht:(#[.pointer (some ⟨pv,0,none⟩),.pointer (some ⟨rv,0,none⟩),.pointer (some ⟨xv,0,none⟩),.pointer (some ⟨ev,0,none⟩)]++(Array.replicate 28 undef).setIfInBounds 4 (.iface 219 (.agg #[.int .i64 er])):Array Value)= #[.pointer (some ⟨pv,0,none⟩),.pointer (some ⟨rv,0,none⟩),.pointer (some ⟨xv,0,none⟩),.pointer (some ⟨ev,0,none⟩),undef,undef,undef,undef,(.iface 219 (.agg #[.int .i64 er])),undef,undef,undef,undef,undef,undef,undef,undef,undef,undef,undef,undef,undef,undef,undef,undef,undef,undef,undef,undef,undef,undef,undef]:=by simp [Array.replicate,List.replicate]
 rw [ht];have HB:Below w.heap.size w (w.alloc (.cells #[.int .i64 er] 219)):=(Below.refl _ w).alloc (Nat.le_refl _) _;have hl:(w.alloc (.cells #[.int .i64 er] 219)).cell? ⟨w.heap.size,0,none⟩=some (.int .i64 er):=by simp [go_sem]
 have k2:=(HB.cell (p:=⟨rv,0,none⟩) l1).trans h2;have k4:=(HB.cell (p:=⟨xv,0,none⟩) l2).trans h4;have k5:=(HB.frozen (p:=⟨xv,0,none⟩) l2).trans h5;have k6:=(HB.cell (p:=⟨ev,0,none⟩) l3).trans h6;have k7:=(HB.frozen (p:=⟨ev,0,none⟩) l3).trans h7;have k8:=(HB.cell (p:=⟨rb,ro,none⟩) l4).trans h8;have k9:=(HB.frozen (p:=⟨rb,ro,none⟩) l4).trans h9;have k10:=(HB.cell (p:=⟨rb,ro+1,none⟩) l4).trans h10;have k11:=(HB.frozen (p:=⟨rb,ro+1,none⟩) l4).trans h11;have n1:w.heap.size≠xv:=by omega
 have n2:w.heap.size≠ev:=by omega
 have n3:rb≠w.heap.size:=by omega
 go_wp2
 clear HB h2 h4 h5 h6 h7 h8 h9 h10 h11 l1 l2 l3 l4;generalize w.heap.size=lb at*;generalize hw1:w.alloc (.cells #[.int .i64 er] 219)=w1 at*;have HW1:=Go.Lib.hid hw1;clear hw1;have q2:(⟨xv,0,none⟩:Addr)≠⟨rv,0,none⟩:=fun e=>d1 (congrArg Addr.block e);have q3:(⟨ev,0,none⟩:Addr)≠⟨rv,0,none⟩:=fun e=>d2 (congrArg Addr.block e)
 go_region_o
 all_goals go_wp2
 have f1:∀(a:Addr) (v:Value),a.block≠xv->a.block≠ev->w1.cell? a=some v->(((w1.setCell ⟨xv,0,none⟩ (.string ⟨#[]⟩)).setCell ⟨ev,0,none⟩ (.int .i64 er)).drew).cell? a=some v:=by
  intro a v a1 a2 h;have e1:(⟨ev,0,none⟩:Addr)≠a:=fun e=>a2 (by rw [<-e]);have e2:(⟨xv,0,none⟩:Addr)≠a:=fun e=>a1 (by rw [<-e]);show((w1.setCell ⟨xv,0,none⟩ (.string ⟨#[]⟩)).setCell ⟨ev,0,none⟩ (.int .i64 er)).cell? a=some v;rw [World.cell?_setCell_other _ _ _ _ e1,World.cell?_setCell_other _ _ _ _ e2];exact h
 have f2:∀(a:Addr),w1.frozen? a=false->(((w1.setCell ⟨xv,0,none⟩ (.string ⟨#[]⟩)).setCell ⟨ev,0,none⟩ (.int .i64 er)).drew).frozen? a=false:=by
  intro a h;show((w1.setCell ⟨xv,0,none⟩ (.string ⟨#[]⟩)).setCell ⟨ev,0,none⟩ (.int .i64 er)).frozen? a=false;simp [go_sem,h]
 have z2:=f1 _ _ (Ne.symm d1) (Ne.symm d2) k2;have z8:=f1 _ _ (Ne.symm d4) (Ne.symm d5) k8;have z9:=f2 _ k9;have z10:=f1 _ _ (Ne.symm d4) (Ne.symm d5) k10;have z11:=f2 _ k11;have zl:=f1 _ _ n1 n2 hl;clear f1 f2 k2 k4 k5 k6 k7 k8 k9 k10 k11 hl q2 q3;generalize hw2:((w1.setCell ⟨xv,0,none⟩ (.string ⟨#[]⟩)).setCell ⟨ev,0,none⟩ (.int .i64 er)).drew=w2 at*;have HW2:=Go.Lib.hid hw2;clear hw2;have q4:(⟨rb,ro,none⟩:Addr)≠⟨lb,0,none⟩:=fun e=>n3 (congrArg Addr.block e);have q5:(⟨rb,ro,none⟩:Addr)≠⟨rv,0,none⟩:=fun e=>d6 (congrArg Addr.block e)
 go_region_o
 all_goals go_wp2
 have e1:w.alloc (.cells #[.int .i64 er] 219)=w1:=HW1;have e2:((w1.setCell ⟨xv,0,none⟩ (.string ⟨#[]⟩)).setCell ⟨ev,0,none⟩ (.int .i64 er)).drew=w2:=HW2;refine⟨rfl,_,rfl,.tuple #[],?_,rfl,rfl,?_⟩
 ·simp [results,Tryz.results172]
 ·rw [e1,<-e2];rfl
set_option maxHeartbeats 2000000 in
theorem Zc (rb ro:Nat) (h:FuncId) (cap:Array Value) (s rest:ByteArray) (x:ByteArray) (w:World) (hr0:rb<w.heap.size) (h1:w.cell? ⟨rb,ro,none⟩=some (.string s)) (h2:w.cell? ⟨rb,ro+1,none⟩=some (.int .i64 0)) (h3:w.frozen? ⟨rb,ro,none⟩=false)
 (he:∀args w,(callFunc h args).run Tryz.prog w= .ok (.enter h args) w) (H:xU h cap s rest (.string x) w):
 Calls Tryz.prog 165 #[.pointer (some ⟨rb,ro,none⟩),.func (.func h) #[] cap] w (EB rb ro rest (.string x) w):=by
 have hmf:∀(fn:Fn) (first cap:Array Value) (w:World),(Instr.makeFunc fn first cap).run Tryz.prog w= .ok (.func fn first cap) w:=fun _ _ _ _=>rfl
 have k1:∀o1 o2 o3,(((w.alloc o1).alloc o2).alloc o3).cell? ⟨rb,ro,none⟩=some (.string s):=fun o1 o2 o3=>
  ((((Below.refl _ w).alloc (Nat.le_refl _) o1).alloc (by simp) o2).alloc (by simp;omega) o3).cell (p:=⟨rb,ro,none⟩) hr0 |>.trans h1
 have k2:∀o1 o2 o3,(((w.alloc o1).alloc o2).alloc o3).cell? ⟨rb,ro+1,none⟩=some (.int .i64 0):=fun o1 o2 o3=>
  ((((Below.refl _ w).alloc (Nat.le_refl _) o1).alloc (by simp) o2).alloc (by simp;omega) o3).cell (p:=⟨rb,ro+1,none⟩) hr0 |>.trans h2
 have HH:=Go.Lib.hid H;have HR:=Go.Lib.hid hr0;clear H hr0
 go_enter_defers Tryz.func165,Tryz.ntmps165
 go_wp2
 generalize hW:((((w.alloc (Obj.cells #[Value.pointer (some {block:=rb,off:=ro})] 100)).alloc (Obj.cells #[(.string ⟨#[]⟩)] 9)).alloc (Obj.cells #[.int .i64 0] 37)).alloc (Obj.cells #[Value.string s] 174)).alloc (Obj.cells #[Value.pointer (some {block:=w.heap.size+1+1+1,off:=0})] 171)=W;have hr0:rb<w.heap.size:=HR;obtain⟨b0,b1,b2,b3,b4,hsz⟩:=yQ w _ _ _ _ _ W hW
 have hBW:Below w.heap.size w W:=by
  rw [<-hW];exact(((((Below.refl _ w).alloc (Nat.le_refl _) _).alloc (by simp) _).alloc (by simp;omega) _).alloc (by simp;omega) _).alloc (by simp;omega) _
 clear hW k1 k2;have c3:W.cell? ⟨w.heap.size+1+1+1,0,none⟩=some (.string s):=aS b3;refine((HH:xU h cap s rest (.string x) w) (w.heap.size+1+1+1) W hBW (by omega) (by omega) c3 (cT b3)).mono ?_
 rintro r w1 ⟨rfl,hB⟩
 have hk:∀k,k<w.heap.size+5->k≠w.heap.size+1+1+1->w1.heap[k]? =W.heap[k]? :=fun k h1 h2=>(hB.block k (by omega)).trans (aE (Ne.symm h2));have d0:w1.heap[w.heap.size]? =_:=(hk _ (by omega) (by omega)).trans b0;have d1:w1.heap[w.heap.size+1]? =_:=(hk _ (by omega) (by omega)).trans b1;have d2:w1.heap[w.heap.size+1+1]? =_:=(hk _ (by omega) (by omega)).trans b2
 have d3:w1.heap[w.heap.size+1+1+1]? =some (Obj.cells #[Value.string rest] 174):=by
  rw [hB.block _ (by omega),bM b3];rfl
 have d4:w1.heap[w.heap.size+1+1+1+1]? =_:=(hk _ (by omega) (by omega)).trans b4;have hB1:Below w.heap.size w w1:=(hBW.setCell (p:=⟨w.heap.size+1+1+1,0,none⟩) (by show _<=w.heap.size+1+1+1;omega) (.string rest)).trans (hB.mono (by omega));clear hk hB b0 b1 b2 b3 b4 c3 hBW;have x1:w1.cell? ⟨w.heap.size+1,0,none⟩=some (.string ⟨#[]⟩):=aS d1;have x2:w1.frozen? ⟨w.heap.size+1,0,none⟩=false:=cT d1;have x3:w1.cell? ⟨w.heap.size+1+1,0,none⟩=some (.int .i64 0):=aS d2;have x4:w1.frozen? ⟨w.heap.size+1+1,0,none⟩=false:=cT d2;have HD:=Go.Lib.hid d0;have HD1:=Go.Lib.hid d1;have HD2:=Go.Lib.hid d2;have HD3:=Go.Lib.hid d3;have HD4:=Go.Lib.hid d4;have HZ:=Go.Lib.hid hsz;have h1:=Go.Lib.hid h1;have h3:=Go.Lib.hid h3;clear d0 d1 d2 d3 d4 hsz h2 hr0
 go_wp2
 have hr0:rb<w.heap.size:=HR;have g0:=(HD:w1.heap[w.heap.size]? =_);have g1:=(HD1:w1.heap[w.heap.size+1]? =_);have g2:=(HD2:w1.heap[w.heap.size+1+1]? =_);have g3:=(HD3:w1.heap[w.heap.size+1+1+1]? =_);have g4:=(HD4:w1.heap[w.heap.size+1+1+1+1]? =_);clear HD HD1 HD2 HD3 HD4 HZ HR HH x1 x2 x3 x4;generalize hw2:(w1.setCell {block:=w.heap.size+1,off:=0} (.string x)).setCell {block:=w.heap.size+1+1,off:=0} (Value.int IntKind.i64 0)=w2;have ho:∀k,k≠w.heap.size+1->k≠w.heap.size+1+1->w2.heap[k]? =w1.heap[k]? :=fun k a1 a2=>by rw [<-hw2,aE (by exact Ne.symm a2),aE (by exact Ne.symm a1)]
 have e0:=(ho _ (by omega) (by omega)).trans g0;have e3:=(ho _ (by omega) (by omega)).trans g3;have e4:=(ho _ (by omega) (by omega)).trans g4;have e1:w2.heap[w.heap.size+1]? =some (Obj.cells #[(.string x)] 9):=by rw [<-hw2,aE (by show w.heap.size+1+1≠_;omega),bM g1];rfl
 have e2:w2.heap[w.heap.size+1+1]? =some (Obj.cells #[.int .i64 0] 37):=by rw [<-hw2,bM ((aE (by show w.heap.size+1≠_;omega)).trans g2)];rfl
 have hB2:Below w.heap.size w w2:=by rw [<-hw2];exact(hB1.setCell (by show _<=w.heap.size+1;omega) _).setCell (by show _<=w.heap.size+1+1;omega) _
 have er:w2.heap[rb]? =w.heap[rb]? :=hB2.block rb hr0;clear hw2 ho g0 g1 g2 g3 g4 hB1;refine leaves_cons (f:=172) (args:= #[.pointer (some ⟨w.heap.size+1+1+1+1,0,none⟩),.pointer (some ⟨w.heap.size,0,none⟩),.pointer (some ⟨w.heap.size+1,0,none⟩),.pointer (some ⟨w.heap.size+1+1,0,none⟩)]) (by simp) (by simp [go_sem]) ?_;refine(aE0 _ _ _ _ (w.heap.size+1+1+1) rb ro rest w2 (aS e4) (aS e0) (aS e3) (.string s) (cY (a:=⟨rb,ro,none⟩) er h1) (iE (a:=⟨rb,ro,none⟩) er h3)).mono ?_
 rintro e u' w3 ⟨rfl,rfl,rfl⟩
 have y1:(w2.drew.setCell ⟨rb,ro,none⟩ (.string rest)).cell? ⟨w.heap.size+1,0,none⟩=some (.string x):=cY (w:=w2) (aE (by show rb≠w.heap.size+1;omega)) (aS e1);have y2:(w2.drew.setCell ⟨rb,ro,none⟩ (.string rest)).cell? ⟨w.heap.size+1+1,0,none⟩=some (.int .i64 0):=cY (w:=w2) (aE (by show rb≠w.heap.size+1+1;omega)) (aS e2);have hB3:Below w.heap.size (w.setCell ⟨rb,ro,none⟩ (.string rest)) (w2.drew.setCell ⟨rb,ro,none⟩ (.string rest)):=eJ hB2.drew _ _;generalize w2.drew.setCell ⟨rb,ro,none⟩ (.string rest)=w3 at*;clear e0 e1 e2 e3 e4 er hB2;simp [Leaves,settle,results,Tryz.results165,go_sem,y1,y2];exact⟨rfl,hB3⟩
set_option maxHeartbeats 2000000 in
theorem Nu (rb ro:Nat) (h:FuncId) (cap:Array Value) (s:ByteArray) (er:Int) (w:World) (hr0:rb<w.heap.size) (h1:w.cell? ⟨rb,ro,none⟩=some (.string s)) (h2:w.cell? ⟨rb,ro+1,none⟩=some (.int .i64 0)) (h3:w.frozen? ⟨rb,ro,none⟩=false) (h4:w.frozen? ⟨rb,ro+1,none⟩=false)
 (he:∀args w,(callFunc h args).run Tryz.prog w= .ok (.enter h args) w) (H:gH h cap s er w):
 Calls Tryz.prog 165 #[.pointer (some ⟨rb,ro,none⟩),.func (.func h) #[] cap] w (AZ rb ro er (.string ⟨#[]⟩) w):=by
 have hmf:∀(fn:Fn) (first cap:Array Value) (w:World),(Instr.makeFunc fn first cap).run Tryz.prog w= .ok (.func fn first cap) w:=fun _ _ _ _=>rfl
 have k1:∀o1 o2 o3,(((w.alloc o1).alloc o2).alloc o3).cell? ⟨rb,ro,none⟩=some (.string s):=fun o1 o2 o3=>
  ((((Below.refl _ w).alloc (Nat.le_refl _) o1).alloc (by simp) o2).alloc (by simp;omega) o3).cell (p:=⟨rb,ro,none⟩) hr0 |>.trans h1
 have k2:∀o1 o2 o3,(((w.alloc o1).alloc o2).alloc o3).cell? ⟨rb,ro+1,none⟩=some (.int .i64 0):=fun o1 o2 o3=>
  ((((Below.refl _ w).alloc (Nat.le_refl _) o1).alloc (by simp) o2).alloc (by simp;omega) o3).cell (p:=⟨rb,ro+1,none⟩) hr0 |>.trans h2
 have HH:=Go.Lib.hid H;have HR:=Go.Lib.hid hr0;clear H hr0
 go_enter_defers Tryz.func165,Tryz.ntmps165
 go_wp2
 generalize hW:((((w.alloc (Obj.cells #[Value.pointer (some {block:=rb,off:=ro})] 100)).alloc (Obj.cells #[(.string ⟨#[]⟩)] 9)).alloc (Obj.cells #[.int .i64 0] 37)).alloc (Obj.cells #[Value.string s] 174)).alloc (Obj.cells #[Value.pointer (some {block:=w.heap.size+1+1+1,off:=0})] 171)=W;have hr0:rb<w.heap.size:=HR;obtain⟨b0,b1,b2,b3,b4,hsz⟩:=yQ w _ _ _ _ _ W hW
 have hBW:Below w.heap.size w W:=by
  rw [<-hW];exact(((((Below.refl _ w).alloc (Nat.le_refl _) _).alloc (by simp) _).alloc (by simp;omega) _).alloc (by simp;omega) _).alloc (by simp;omega) _
 clear hW k1 k2;have c3:W.cell? ⟨w.heap.size+1+1+1,0,none⟩=some (.string s):=aS b3;refine((HH:gH h cap s er w) (w.heap.size+1+1+1) W hBW (by omega) (by omega) c3 (cT b3)).mono ?_
 rintro r w2 ⟨rfl,pv,hB⟩
 have hk:∀k,k<w.heap.size+5->k≠w.heap.size+1+1+1->w2.heap[k]? =W.heap[k]? :=fun k h1 h2=>(hB.block k (by omega)).trans (aE (Ne.symm h2));have e0:w2.heap[w.heap.size]? =_:=(hk _ (by omega) (by omega)).trans b0;have e1:w2.heap[w.heap.size+1]? =_:=(hk _ (by omega) (by omega)).trans b1;have e2:w2.heap[w.heap.size+1+1]? =_:=(hk _ (by omega) (by omega)).trans b2;have hB2:Below w.heap.size w w2:=(hBW.setCell (p:=⟨w.heap.size+1+1+1,0,none⟩) (by show _<=w.heap.size+1+1+1;omega) pv).trans (hB.mono (by omega));have hz2:W.heap.size<=w2.heap.size:=by have:=hB.size;simpa [World.setCell]using this
 clear hk hB b0 b1 b2 b3 b4 c3 hBW;have JB:w2.heap[rb]? =w.heap[rb]? :=hB2.block rb hr0;refine leaves_cons (f:=172) (args:= #[.pointer (some ⟨w.heap.size+1+1+1+1,0,none⟩),.pointer (some ⟨w.heap.size,0,none⟩),.pointer (some ⟨w.heap.size+1,0,none⟩),.pointer (some ⟨w.heap.size+1+1,0,none⟩)]) (by simp) (by simp [go_sem]) ?_
 refine(aBT _ _ _ _ rb ro er w2 (aS e0) (.string ⟨#[]⟩) (.int .i64 0) (.string s) (.int .i64 0) (aS e1) (cT e1) (aS e2) (cT e2)
  (cY (a:=⟨rb,ro,none⟩) JB h1) (iE (a:=⟨rb,ro,none⟩) JB h3) (cY (a:=⟨rb,ro+1,none⟩) JB h2) (iE (a:=⟨rb,ro+1,none⟩) JB h4)
  (by omega) (by omega) (by omega) (by omega) (by omega) (by omega) (by omega) (by omega) (by omega) (by omega)).mono ?_
 rintro e u' w3 ⟨rfl,rfl,hw3⟩
 have n1:rb≠w.heap.size+1:=by omega
 have n2:rb≠w.heap.size+1+1:=by omega
 have WU:w.heap.size+1<w2.heap.size:=by omega
 have Zl:w.heap.size+1+1<w2.heap.size:=by omega
 have y1:w3.cell? ⟨w.heap.size+1,0,none⟩=some (.string ⟨#[]⟩):=by
  have z:w3.heap[w.heap.size+1]? =some (Obj.cells #[(.string ⟨#[]⟩)] 9):=by
   rw [hw3];show((((((w2.alloc _).setCell _ _).setCell _ _).setCell _ _).setCell _ _)).heap[_]? =_;rw [aE (by exact n1),aE (by exact n1),aE (by show w.heap.size+1+1≠w.heap.size+1;omega),bM (by rw [lA,if_neg (by omega)];exact e1)];rfl
  exact aS z
 have y2:w3.cell? ⟨w.heap.size+1+1,0,none⟩=some (.int .i64 er):=by
  have z:w3.heap[w.heap.size+1+1]? =some (Obj.cells #[.int .i64 er] 37):=by
   rw [hw3];show((((((w2.alloc _).setCell _ _).setCell _ _).setCell _ _).setCell _ _)).heap[_]? =_;rw [aE (by exact n2),aE (by exact n2),bM ((aE (by show w.heap.size+1≠w.heap.size+1+1;omega)).trans (by rw [lA,if_neg (by omega)];exact e2))];rfl
  exact aS z
 have hB3:Below w.heap.size ((w.setCell ⟨rb,ro,none⟩ (.string ⟨#[]⟩)).setCell ⟨rb,ro+1,none⟩ (.int .i64 er)) w3:=by
  rw [hw3];exact(eJ (eJ (((((hB2.alloc (by omega) _).setCell (by show w.heap.size<=w.heap.size+1;omega) _).setCell (by show w.heap.size<=w.heap.size+1+1;omega) _).drew)) _ _) _ _).drew
 clear hw3 e0 e1 e2 JB hB2 hz2 WU Zl n1 n2 h1 h2 h3 h4 hsz;simp [Leaves,settle,results,Tryz.results165,go_sem,y1,y2];exact⟨rfl,hB3⟩
set_option maxHeartbeats 2000000 in
theorem Ju (rb ro:Nat) (how:Value) (er:Int) (w:World) (hr0:rb<w.heap.size) (h2:w.cell? ⟨rb,ro+1,none⟩=some (.int .i64 er)) (hne:er≠0):
 Calls Tryz.prog 165 #[.pointer (some ⟨rb,ro,none⟩),how] w fun r w'=>r= .returned (.tuple #[(.string ⟨#[]⟩),.int .i64 er])/\Below w.heap.size w w':=by
 have mixed:=mixed
 have k2:∀o1 o2 o3,(((w.alloc o1).alloc o2).alloc o3).cell? ⟨rb,ro+1,none⟩=some (.int .i64 er):=fun o1 o2 o3=>
  ((((Below.refl _ w).alloc (Nat.le_refl _) o1).alloc (by simp) o2).alloc (by simp;omega) o3).cell (p:=⟨rb,ro+1,none⟩) hr0 |>.trans h2
 have q1:(⟨w.heap.size+1,0,none⟩:Addr)≠⟨rb,ro+1,none⟩:=by intro e;have e:=congrArg Addr.block e;simp at e;omega
 have hbne:(er != 0)=true:=by simpa using hne
 clear h2 hr0 hne
 go_enter_defers Tryz.func165,Tryz.ntmps165
 go_wp2
 go_region_o
 all_goals go_wp2
 simp [bodyPostD,Leaves,results,Tryz.results165,go_sem];exact((((Below.refl _ w).alloc (Nat.le_refl _) _).alloc (by simp) _).alloc (by simp;omega) _).drew
theorem Ul (how:Value) (w:World):
 Calls Tryz.prog 165 #[.pointer none,how] w fun r w'=>r= .returned (.tuple #[(.string ⟨#[]⟩),.int .i64 2])/\Below w.heap.size w w':=by
 go_enter_defers Tryz.func165,Tryz.ntmps165
 go_wp2
 simp [bodyPostD,Leaves,results,Tryz.results165,go_sem];exact(((Below.refl _ w).alloc (Nat.le_refl _) _).alloc (by simp) _).alloc (by simp;omega) _
set_option maxHeartbeats 400000 in
theorem idleB (pv rv xv ev pb rb ro:Nat) (s:ByteArray) (w:World) (h1:w.cell? ⟨pv,0,none⟩=some (.pointer (some ⟨pb,0,none⟩))) (h2:w.cell? ⟨rv,0,none⟩=some (.pointer (some ⟨rb,ro,none⟩)))
 (h3:w.cell? ⟨pb,0,none⟩=some (.string s)) (old:Value) (h4:w.cell? ⟨rb,ro,none⟩=some old) (h5:w.frozen? ⟨rb,ro,none⟩=false):
 CallsD Tryz.prog 95 #[.pointer (some ⟨pv,0,none⟩),.pointer (some ⟨rv,0,none⟩),.pointer (some ⟨xv,0,none⟩),.pointer (some ⟨ev,0,none⟩)] .returning w fun e u' w'=>
  e= .returned (.tuple #[])/\u'= .returning/\w'=w.drew.setCell ⟨rb,ro,none⟩ (.string s):=by
 have mixed:=mixed;refine callsD_of_wpS Tryz.func95 rfl fun c₀ cs hu=>?_;apply wpS_seq;apply wpS_region;simp [wpOpsS,go_sem,recoverD,hu,Tryz.ntmps95,Exit.thenS];have hnil:∀w:World,(binOp BinOp.eql 20 .nilIface .nilIface).run Tryz.prog w= .ok (.bool true) w:=fun _=>by kernel_rfl
 have g1:w.drew.cell? ⟨pv,0,none⟩=some (.pointer (some ⟨pb,0,none⟩)):=h1;have g2:w.drew.cell? ⟨rv,0,none⟩=some (.pointer (some ⟨rb,ro,none⟩)):=h2;have g3:w.drew.cell? ⟨pb,0,none⟩=some (.string s):=h3;have g4:w.drew.cell? ⟨rb,ro,none⟩=some old:=h4;have g5:w.drew.frozen? ⟨rb,ro,none⟩=false:=h5;refine wpS_of_wp ?_;have ht:(#[.pointer (some ⟨pv,0,none⟩),.pointer (some ⟨rv,0,none⟩),.pointer (some ⟨xv,0,none⟩),.pointer (some ⟨ev,0,none⟩)]++(Array.replicate 28 undef).setIfInBounds 4 Value.nilIface:Array Value)= #[.pointer (some ⟨pv,0,none⟩),.pointer (some ⟨rv,0,none⟩),.pointer (some ⟨xv,0,none⟩),.pointer (some ⟨ev,0,none⟩),undef,undef,undef,undef,.nilIface,undef,undef,undef,undef,undef,undef,undef,undef,undef,undef,undef,undef,undef,undef,undef,undef,undef,undef,undef,undef,undef,undef,undef]:=by simp [Array.replicate,List.replicate]
 rw [ht]
 go_wp2
 go_region_o
 all_goals
  go_wp2
 cases c₀
 simp_all [bodyPostS,results,Tryz.results95]
set_option maxHeartbeats 2000000 in
theorem aBQ (pv rv xv ev rb ro:Nat) (er:Int) (w:World) (h2:w.cell? ⟨rv,0,none⟩=some (.pointer (some ⟨rb,ro,none⟩)))
 (ox oe os Zk:Value) (h4:w.cell? ⟨xv,0,none⟩=some ox) (h5:w.frozen? ⟨xv,0,none⟩=false) (h6:w.cell? ⟨ev,0,none⟩=some oe) (h7:w.frozen? ⟨ev,0,none⟩=false)
 (h8:w.cell? ⟨rb,ro,none⟩=some os) (h9:w.frozen? ⟨rb,ro,none⟩=false) (h10:w.cell? ⟨rb,ro+1,none⟩=some Zk) (h11:w.frozen? ⟨rb,ro+1,none⟩=false)
 (d1:xv≠rv) (d2:ev≠rv) (d3:xv≠ev) (d4:xv≠rb) (d5:ev≠rb) (d6:rb≠rv) (l1:rv<w.heap.size) (l2:xv<w.heap.size) (l3:ev<w.heap.size) (l4:rb<w.heap.size):
 CallsD Tryz.prog 95 #[.pointer (some ⟨pv,0,none⟩),.pointer (some ⟨rv,0,none⟩),.pointer (some ⟨xv,0,none⟩),.pointer (some ⟨ev,0,none⟩)] (.panicking [{pJ er with recovered:=false}]) w fun e u' w'=>
  e= .returned (.tuple #[])/\u'= .panicking [{pJ er with recovered:=true}]/\
  w'=(((((w.alloc (.cells #[.int .i64 er] 219)).setCell ⟨xv,0,none⟩ (.bool false)).setCell ⟨ev,0,none⟩ (.int .i64 er)).drew.setCell ⟨rb,ro,none⟩ (.string ⟨#[]⟩)).setCell ⟨rb,ro+1,none⟩ (.int .i64 er)).drew:=by
 have mixed:=mixed;unfold pJ;refine callsD_of_wpS Tryz.func95 rfl fun c₀ cs hu=>?_;apply wpS_seq;apply wpS_region;simp [wpOpsS,go_sem,recoverD,hu,Tryz.ntmps95,Exit.thenS];have hnil:∀w:World,(binOp BinOp.eql 20 (.iface 219 (.agg #[.int .i64 er])) .nilIface).run Tryz.prog w= .ok (.bool false) w:=fun _=>by kernel_rfl
 have hta:∀w:World,(Instr.typeAssert (.iface 219 (.agg #[.int .i64 er])) 20 219 true).run Tryz.prog w= .ok (.tuple #[.agg #[.int .i64 er],.bool true]) w:=fun _=>by kernel_rfl
 refine wpS_of_wp ?_;have ht:(#[.pointer (some ⟨pv,0,none⟩),.pointer (some ⟨rv,0,none⟩),.pointer (some ⟨xv,0,none⟩),.pointer (some ⟨ev,0,none⟩)]++(Array.replicate 28 undef).setIfInBounds 4 (.iface 219 (.agg #[.int .i64 er])):Array Value)= #[.pointer (some ⟨pv,0,none⟩),.pointer (some ⟨rv,0,none⟩),.pointer (some ⟨xv,0,none⟩),.pointer (some ⟨ev,0,none⟩),undef,undef,undef,undef,(.iface 219 (.agg #[.int .i64 er])),undef,undef,undef,undef,undef,undef,undef,undef,undef,undef,undef,undef,undef,undef,undef,undef,undef,undef,undef,undef,undef,undef,undef]:=by simp [Array.replicate,List.replicate]
 rw [ht];have HB:Below w.heap.size w (w.alloc (.cells #[.int .i64 er] 219)):=(Below.refl _ w).alloc (Nat.le_refl _) _;have hl:(w.alloc (.cells #[.int .i64 er] 219)).cell? ⟨w.heap.size,0,none⟩=some (.int .i64 er):=by simp [go_sem]
 have k2:=(HB.cell (p:=⟨rv,0,none⟩) l1).trans h2;have k4:=(HB.cell (p:=⟨xv,0,none⟩) l2).trans h4;have k5:=(HB.frozen (p:=⟨xv,0,none⟩) l2).trans h5;have k6:=(HB.cell (p:=⟨ev,0,none⟩) l3).trans h6;have k7:=(HB.frozen (p:=⟨ev,0,none⟩) l3).trans h7;have k8:=(HB.cell (p:=⟨rb,ro,none⟩) l4).trans h8;have k9:=(HB.frozen (p:=⟨rb,ro,none⟩) l4).trans h9;have k10:=(HB.cell (p:=⟨rb,ro+1,none⟩) l4).trans h10;have k11:=(HB.frozen (p:=⟨rb,ro+1,none⟩) l4).trans h11;have n1:w.heap.size≠xv:=by omega
 have n2:w.heap.size≠ev:=by omega
 have n3:rb≠w.heap.size:=by omega
 go_wp2
 clear HB h2 h4 h5 h6 h7 h8 h9 h10 h11 l1 l2 l3 l4;generalize w.heap.size=lb at*;generalize hw1:w.alloc (.cells #[.int .i64 er] 219)=w1 at*;have HW1:=Go.Lib.hid hw1;clear hw1;have q2:(⟨xv,0,none⟩:Addr)≠⟨rv,0,none⟩:=fun e=>d1 (congrArg Addr.block e);have q3:(⟨ev,0,none⟩:Addr)≠⟨rv,0,none⟩:=fun e=>d2 (congrArg Addr.block e)
 go_region_o
 all_goals go_wp2
 have f1:∀(a:Addr) (v:Value),a.block≠xv->a.block≠ev->w1.cell? a=some v->(((w1.setCell ⟨xv,0,none⟩ (.bool false)).setCell ⟨ev,0,none⟩ (.int .i64 er)).drew).cell? a=some v:=by
  intro a v a1 a2 h;have e1:(⟨ev,0,none⟩:Addr)≠a:=fun e=>a2 (by rw [<-e]);have e2:(⟨xv,0,none⟩:Addr)≠a:=fun e=>a1 (by rw [<-e]);show((w1.setCell ⟨xv,0,none⟩ (.bool false)).setCell ⟨ev,0,none⟩ (.int .i64 er)).cell? a=some v;rw [World.cell?_setCell_other _ _ _ _ e1,World.cell?_setCell_other _ _ _ _ e2];exact h
 have f2:∀(a:Addr),w1.frozen? a=false->(((w1.setCell ⟨xv,0,none⟩ (.bool false)).setCell ⟨ev,0,none⟩ (.int .i64 er)).drew).frozen? a=false:=by
  intro a h;show((w1.setCell ⟨xv,0,none⟩ (.bool false)).setCell ⟨ev,0,none⟩ (.int .i64 er)).frozen? a=false;simp [go_sem,h]
 have z2:=f1 _ _ (Ne.symm d1) (Ne.symm d2) k2;have z8:=f1 _ _ (Ne.symm d4) (Ne.symm d5) k8;have z9:=f2 _ k9;have z10:=f1 _ _ (Ne.symm d4) (Ne.symm d5) k10;have z11:=f2 _ k11;have zl:=f1 _ _ n1 n2 hl;clear f1 f2 k2 k4 k5 k6 k7 k8 k9 k10 k11 hl q2 q3;generalize hw2:((w1.setCell ⟨xv,0,none⟩ (.bool false)).setCell ⟨ev,0,none⟩ (.int .i64 er)).drew=w2 at*;have HW2:=Go.Lib.hid hw2;clear hw2;have q4:(⟨rb,ro,none⟩:Addr)≠⟨lb,0,none⟩:=fun e=>n3 (congrArg Addr.block e);have q5:(⟨rb,ro,none⟩:Addr)≠⟨rv,0,none⟩:=fun e=>d6 (congrArg Addr.block e)
 go_region_o
 all_goals go_wp2
 have e1:w.alloc (.cells #[.int .i64 er] 219)=w1:=HW1;have e2:((w1.setCell ⟨xv,0,none⟩ (.bool false)).setCell ⟨ev,0,none⟩ (.int .i64 er)).drew=w2:=HW2;refine⟨rfl,_,rfl,.tuple #[],?_,rfl,rfl,?_⟩
 ·simp [results,Tryz.results95]
 ·rw [e1,<-e2];rfl
set_option maxHeartbeats 2000000 in
theorem Zd (rb ro:Nat) (h:FuncId) (cap:Array Value) (s rest:ByteArray) (x:Bool) (w:World) (hr0:rb<w.heap.size) (h1:w.cell? ⟨rb,ro,none⟩=some (.string s)) (h2:w.cell? ⟨rb,ro+1,none⟩=some (.int .i64 0)) (h3:w.frozen? ⟨rb,ro,none⟩=false)
 (he:∀args w,(callFunc h args).run Tryz.prog w= .ok (.enter h args) w) (H:xU h cap s rest (.bool x) w):
 Calls Tryz.prog 70 #[.pointer (some ⟨rb,ro,none⟩),.func (.func h) #[] cap] w (EB rb ro rest (.bool x) w):=by
 have hmf:∀(fn:Fn) (first cap:Array Value) (w:World),(Instr.makeFunc fn first cap).run Tryz.prog w= .ok (.func fn first cap) w:=fun _ _ _ _=>rfl
 have k1:∀o1 o2 o3,(((w.alloc o1).alloc o2).alloc o3).cell? ⟨rb,ro,none⟩=some (.string s):=fun o1 o2 o3=>
  ((((Below.refl _ w).alloc (Nat.le_refl _) o1).alloc (by simp) o2).alloc (by simp;omega) o3).cell (p:=⟨rb,ro,none⟩) hr0 |>.trans h1
 have k2:∀o1 o2 o3,(((w.alloc o1).alloc o2).alloc o3).cell? ⟨rb,ro+1,none⟩=some (.int .i64 0):=fun o1 o2 o3=>
  ((((Below.refl _ w).alloc (Nat.le_refl _) o1).alloc (by simp) o2).alloc (by simp;omega) o3).cell (p:=⟨rb,ro+1,none⟩) hr0 |>.trans h2
 have HH:=Go.Lib.hid H;have HR:=Go.Lib.hid hr0;clear H hr0
 go_enter_defers Tryz.func70,Tryz.ntmps70
 go_wp2
 generalize hW:((((w.alloc (Obj.cells #[Value.pointer (some {block:=rb,off:=ro})] 100)).alloc (Obj.cells #[(.bool false)] 4)).alloc (Obj.cells #[.int .i64 0] 37)).alloc (Obj.cells #[Value.string s] 174)).alloc (Obj.cells #[Value.pointer (some {block:=w.heap.size+1+1+1,off:=0})] 171)=W;have hr0:rb<w.heap.size:=HR;obtain⟨b0,b1,b2,b3,b4,hsz⟩:=yQ w _ _ _ _ _ W hW
 have hBW:Below w.heap.size w W:=by
  rw [<-hW];exact(((((Below.refl _ w).alloc (Nat.le_refl _) _).alloc (by simp) _).alloc (by simp;omega) _).alloc (by simp;omega) _).alloc (by simp;omega) _
 clear hW k1 k2;have c3:W.cell? ⟨w.heap.size+1+1+1,0,none⟩=some (.string s):=aS b3;refine((HH:xU h cap s rest (.bool x) w) (w.heap.size+1+1+1) W hBW (by omega) (by omega) c3 (cT b3)).mono ?_
 rintro r w1 ⟨rfl,hB⟩
 have hk:∀k,k<w.heap.size+5->k≠w.heap.size+1+1+1->w1.heap[k]? =W.heap[k]? :=fun k h1 h2=>(hB.block k (by omega)).trans (aE (Ne.symm h2));have d0:w1.heap[w.heap.size]? =_:=(hk _ (by omega) (by omega)).trans b0;have d1:w1.heap[w.heap.size+1]? =_:=(hk _ (by omega) (by omega)).trans b1;have d2:w1.heap[w.heap.size+1+1]? =_:=(hk _ (by omega) (by omega)).trans b2
 have d3:w1.heap[w.heap.size+1+1+1]? =some (Obj.cells #[Value.string rest] 174):=by
  rw [hB.block _ (by omega),bM b3];rfl
 have d4:w1.heap[w.heap.size+1+1+1+1]? =_:=(hk _ (by omega) (by omega)).trans b4;have hB1:Below w.heap.size w w1:=(hBW.setCell (p:=⟨w.heap.size+1+1+1,0,none⟩) (by show _<=w.heap.size+1+1+1;omega) (.string rest)).trans (hB.mono (by omega));clear hk hB b0 b1 b2 b3 b4 c3 hBW;have x1:w1.cell? ⟨w.heap.size+1,0,none⟩=some (.bool false):=aS d1;have x2:w1.frozen? ⟨w.heap.size+1,0,none⟩=false:=cT d1;have x3:w1.cell? ⟨w.heap.size+1+1,0,none⟩=some (.int .i64 0):=aS d2;have x4:w1.frozen? ⟨w.heap.size+1+1,0,none⟩=false:=cT d2;have HD:=Go.Lib.hid d0;have HD1:=Go.Lib.hid d1;have HD2:=Go.Lib.hid d2;have HD3:=Go.Lib.hid d3;have HD4:=Go.Lib.hid d4;have HZ:=Go.Lib.hid hsz;have h1:=Go.Lib.hid h1;have h3:=Go.Lib.hid h3;clear d0 d1 d2 d3 d4 hsz h2 hr0
 go_wp2
 have hr0:rb<w.heap.size:=HR;have g0:=(HD:w1.heap[w.heap.size]? =_);have g1:=(HD1:w1.heap[w.heap.size+1]? =_);have g2:=(HD2:w1.heap[w.heap.size+1+1]? =_);have g3:=(HD3:w1.heap[w.heap.size+1+1+1]? =_);have g4:=(HD4:w1.heap[w.heap.size+1+1+1+1]? =_);clear HD HD1 HD2 HD3 HD4 HZ HR HH x1 x2 x3 x4;generalize hw2:(w1.setCell {block:=w.heap.size+1,off:=0} (.bool x)).setCell {block:=w.heap.size+1+1,off:=0} (Value.int IntKind.i64 0)=w2;have ho:∀k,k≠w.heap.size+1->k≠w.heap.size+1+1->w2.heap[k]? =w1.heap[k]? :=fun k a1 a2=>by rw [<-hw2,aE (by exact Ne.symm a2),aE (by exact Ne.symm a1)]
 have e0:=(ho _ (by omega) (by omega)).trans g0;have e3:=(ho _ (by omega) (by omega)).trans g3;have e4:=(ho _ (by omega) (by omega)).trans g4;have e1:w2.heap[w.heap.size+1]? =some (Obj.cells #[(.bool x)] 4):=by rw [<-hw2,aE (by show w.heap.size+1+1≠_;omega),bM g1];rfl
 have e2:w2.heap[w.heap.size+1+1]? =some (Obj.cells #[.int .i64 0] 37):=by rw [<-hw2,bM ((aE (by show w.heap.size+1≠_;omega)).trans g2)];rfl
 have hB2:Below w.heap.size w w2:=by rw [<-hw2];exact(hB1.setCell (by show _<=w.heap.size+1;omega) _).setCell (by show _<=w.heap.size+1+1;omega) _
 have er:w2.heap[rb]? =w.heap[rb]? :=hB2.block rb hr0;clear hw2 ho g0 g1 g2 g3 g4 hB1;refine leaves_cons (f:=95) (args:= #[.pointer (some ⟨w.heap.size+1+1+1+1,0,none⟩),.pointer (some ⟨w.heap.size,0,none⟩),.pointer (some ⟨w.heap.size+1,0,none⟩),.pointer (some ⟨w.heap.size+1+1,0,none⟩)]) (by simp) (by simp [go_sem]) ?_;refine(idleB _ _ _ _ (w.heap.size+1+1+1) rb ro rest w2 (aS e4) (aS e0) (aS e3) (.string s) (cY (a:=⟨rb,ro,none⟩) er h1) (iE (a:=⟨rb,ro,none⟩) er h3)).mono ?_
 rintro e u' w3 ⟨rfl,rfl,rfl⟩
 have y1:(w2.drew.setCell ⟨rb,ro,none⟩ (.string rest)).cell? ⟨w.heap.size+1,0,none⟩=some (.bool x):=cY (w:=w2) (aE (by show rb≠w.heap.size+1;omega)) (aS e1);have y2:(w2.drew.setCell ⟨rb,ro,none⟩ (.string rest)).cell? ⟨w.heap.size+1+1,0,none⟩=some (.int .i64 0):=cY (w:=w2) (aE (by show rb≠w.heap.size+1+1;omega)) (aS e2);have hB3:Below w.heap.size (w.setCell ⟨rb,ro,none⟩ (.string rest)) (w2.drew.setCell ⟨rb,ro,none⟩ (.string rest)):=eJ hB2.drew _ _;generalize w2.drew.setCell ⟨rb,ro,none⟩ (.string rest)=w3 at*;clear e0 e1 e2 e3 e4 er hB2;simp [Leaves,settle,results,Tryz.results70,go_sem,y1,y2];exact⟨rfl,hB3⟩
set_option maxHeartbeats 2000000 in
theorem Nv (rb ro:Nat) (h:FuncId) (cap:Array Value) (s:ByteArray) (er:Int) (w:World) (hr0:rb<w.heap.size) (h1:w.cell? ⟨rb,ro,none⟩=some (.string s)) (h2:w.cell? ⟨rb,ro+1,none⟩=some (.int .i64 0)) (h3:w.frozen? ⟨rb,ro,none⟩=false) (h4:w.frozen? ⟨rb,ro+1,none⟩=false)
 (he:∀args w,(callFunc h args).run Tryz.prog w= .ok (.enter h args) w) (H:gH h cap s er w):
 Calls Tryz.prog 70 #[.pointer (some ⟨rb,ro,none⟩),.func (.func h) #[] cap] w (AZ rb ro er (.bool false) w):=by
 have hmf:∀(fn:Fn) (first cap:Array Value) (w:World),(Instr.makeFunc fn first cap).run Tryz.prog w= .ok (.func fn first cap) w:=fun _ _ _ _=>rfl
 have k1:∀o1 o2 o3,(((w.alloc o1).alloc o2).alloc o3).cell? ⟨rb,ro,none⟩=some (.string s):=fun o1 o2 o3=>
  ((((Below.refl _ w).alloc (Nat.le_refl _) o1).alloc (by simp) o2).alloc (by simp;omega) o3).cell (p:=⟨rb,ro,none⟩) hr0 |>.trans h1
 have k2:∀o1 o2 o3,(((w.alloc o1).alloc o2).alloc o3).cell? ⟨rb,ro+1,none⟩=some (.int .i64 0):=fun o1 o2 o3=>
  ((((Below.refl _ w).alloc (Nat.le_refl _) o1).alloc (by simp) o2).alloc (by simp;omega) o3).cell (p:=⟨rb,ro+1,none⟩) hr0 |>.trans h2
 have HH:=Go.Lib.hid H;have HR:=Go.Lib.hid hr0;clear H hr0
 go_enter_defers Tryz.func70,Tryz.ntmps70
 go_wp2
 generalize hW:((((w.alloc (Obj.cells #[Value.pointer (some {block:=rb,off:=ro})] 100)).alloc (Obj.cells #[(.bool false)] 4)).alloc (Obj.cells #[.int .i64 0] 37)).alloc (Obj.cells #[Value.string s] 174)).alloc (Obj.cells #[Value.pointer (some {block:=w.heap.size+1+1+1,off:=0})] 171)=W;have hr0:rb<w.heap.size:=HR;obtain⟨b0,b1,b2,b3,b4,hsz⟩:=yQ w _ _ _ _ _ W hW
 have hBW:Below w.heap.size w W:=by
  rw [<-hW];exact(((((Below.refl _ w).alloc (Nat.le_refl _) _).alloc (by simp) _).alloc (by simp;omega) _).alloc (by simp;omega) _).alloc (by simp;omega) _
 clear hW k1 k2;have c3:W.cell? ⟨w.heap.size+1+1+1,0,none⟩=some (.string s):=aS b3;refine((HH:gH h cap s er w) (w.heap.size+1+1+1) W hBW (by omega) (by omega) c3 (cT b3)).mono ?_
 rintro r w2 ⟨rfl,pv,hB⟩
 have hk:∀k,k<w.heap.size+5->k≠w.heap.size+1+1+1->w2.heap[k]? =W.heap[k]? :=fun k h1 h2=>(hB.block k (by omega)).trans (aE (Ne.symm h2));have e0:w2.heap[w.heap.size]? =_:=(hk _ (by omega) (by omega)).trans b0;have e1:w2.heap[w.heap.size+1]? =_:=(hk _ (by omega) (by omega)).trans b1;have e2:w2.heap[w.heap.size+1+1]? =_:=(hk _ (by omega) (by omega)).trans b2;have hB2:Below w.heap.size w w2:=(hBW.setCell (p:=⟨w.heap.size+1+1+1,0,none⟩) (by show _<=w.heap.size+1+1+1;omega) pv).trans (hB.mono (by omega));have hz2:W.heap.size<=w2.heap.size:=by have:=hB.size;simpa [World.setCell]using this
 clear hk hB b0 b1 b2 b3 b4 c3 hBW;have JB:w2.heap[rb]? =w.heap[rb]? :=hB2.block rb hr0;refine leaves_cons (f:=95) (args:= #[.pointer (some ⟨w.heap.size+1+1+1+1,0,none⟩),.pointer (some ⟨w.heap.size,0,none⟩),.pointer (some ⟨w.heap.size+1,0,none⟩),.pointer (some ⟨w.heap.size+1+1,0,none⟩)]) (by simp) (by simp [go_sem]) ?_
 refine(aBQ _ _ _ _ rb ro er w2 (aS e0) (.bool false) (.int .i64 0) (.string s) (.int .i64 0) (aS e1) (cT e1) (aS e2) (cT e2)
  (cY (a:=⟨rb,ro,none⟩) JB h1) (iE (a:=⟨rb,ro,none⟩) JB h3) (cY (a:=⟨rb,ro+1,none⟩) JB h2) (iE (a:=⟨rb,ro+1,none⟩) JB h4)
  (by omega) (by omega) (by omega) (by omega) (by omega) (by omega) (by omega) (by omega) (by omega) (by omega)).mono ?_
 rintro e u' w3 ⟨rfl,rfl,hw3⟩
 have n1:rb≠w.heap.size+1:=by omega
 have n2:rb≠w.heap.size+1+1:=by omega
 have WU:w.heap.size+1<w2.heap.size:=by omega
 have Zl:w.heap.size+1+1<w2.heap.size:=by omega
 have y1:w3.cell? ⟨w.heap.size+1,0,none⟩=some (.bool false):=by
  have z:w3.heap[w.heap.size+1]? =some (Obj.cells #[(.bool false)] 4):=by
   rw [hw3];show((((((w2.alloc _).setCell _ _).setCell _ _).setCell _ _).setCell _ _)).heap[_]? =_;rw [aE (by exact n1),aE (by exact n1),aE (by show w.heap.size+1+1≠w.heap.size+1;omega),bM (by rw [lA,if_neg (by omega)];exact e1)];rfl
  exact aS z
 have y2:w3.cell? ⟨w.heap.size+1+1,0,none⟩=some (.int .i64 er):=by
  have z:w3.heap[w.heap.size+1+1]? =some (Obj.cells #[.int .i64 er] 37):=by
   rw [hw3];show((((((w2.alloc _).setCell _ _).setCell _ _).setCell _ _).setCell _ _)).heap[_]? =_;rw [aE (by exact n2),aE (by exact n2),bM ((aE (by show w.heap.size+1≠w.heap.size+1+1;omega)).trans (by rw [lA,if_neg (by omega)];exact e2))];rfl
  exact aS z
 have hB3:Below w.heap.size ((w.setCell ⟨rb,ro,none⟩ (.string ⟨#[]⟩)).setCell ⟨rb,ro+1,none⟩ (.int .i64 er)) w3:=by
  rw [hw3];exact(eJ (eJ (((((hB2.alloc (by omega) _).setCell (by show w.heap.size<=w.heap.size+1;omega) _).setCell (by show w.heap.size<=w.heap.size+1+1;omega) _).drew)) _ _) _ _).drew
 clear hw3 e0 e1 e2 JB hB2 hz2 WU Zl n1 n2 h1 h2 h3 h4 hsz;simp [Leaves,settle,results,Tryz.results70,go_sem,y1,y2];exact⟨rfl,hB3⟩
set_option maxHeartbeats 2000000 in
theorem Jv (rb ro:Nat) (how:Value) (er:Int) (w:World) (hr0:rb<w.heap.size) (h2:w.cell? ⟨rb,ro+1,none⟩=some (.int .i64 er)) (hne:er≠0):
 Calls Tryz.prog 70 #[.pointer (some ⟨rb,ro,none⟩),how] w fun r w'=>r= .returned (.tuple #[(.bool false),.int .i64 er])/\Below w.heap.size w w':=by
 have mixed:=mixed
 have k2:∀o1 o2 o3,(((w.alloc o1).alloc o2).alloc o3).cell? ⟨rb,ro+1,none⟩=some (.int .i64 er):=fun o1 o2 o3=>
  ((((Below.refl _ w).alloc (Nat.le_refl _) o1).alloc (by simp) o2).alloc (by simp;omega) o3).cell (p:=⟨rb,ro+1,none⟩) hr0 |>.trans h2
 have q1:(⟨w.heap.size+1,0,none⟩:Addr)≠⟨rb,ro+1,none⟩:=by intro e;have e:=congrArg Addr.block e;simp at e;omega
 have hbne:(er != 0)=true:=by simpa using hne
 clear h2 hr0 hne
 go_enter_defers Tryz.func70,Tryz.ntmps70
 go_wp2
 go_region_o
 all_goals go_wp2
 simp [bodyPostD,Leaves,results,Tryz.results70,go_sem];exact((((Below.refl _ w).alloc (Nat.le_refl _) _).alloc (by simp) _).alloc (by simp;omega) _).drew
theorem Um (how:Value) (w:World):
 Calls Tryz.prog 70 #[.pointer none,how] w fun r w'=>r= .returned (.tuple #[(.bool false),.int .i64 2])/\Below w.heap.size w w':=by
 go_enter_defers Tryz.func70,Tryz.ntmps70
 go_wp2
 simp [bodyPostD,Leaves,results,Tryz.results70,go_sem];exact(((Below.refl _ w).alloc (Nat.le_refl _) _).alloc (by simp) _).alloc (by simp;omega) _
end Go.Proofs.jB
namespace Go.Am
open Go.RowKit Go.MapKept Go.Proofs Go.Proofs.jB
abbrev Parse:=List UInt8->Nat->(Value->List UInt8->Bool)->(Int->Bool)->Bool
noncomputable def beK (l:List UInt8) (k:Nat->Bool):Bool:=gZ (β:=Nat->Bool) k (fun b _ ih a=>dW (Nat.add (Nat.mul a 256) b.toNat) ih) l 0
theorem AX (l:List UInt8) (k:Nat->Bool):beK l k=k (be l):=by
 have:∀(l:List UInt8) (a:Nat),gZ (β:=Nat->Bool) k (fun b _ ih a=>dW (Nat.add (Nat.mul a 256) b.toNat) ih) l a=k (l.foldl (fun a b=>a*256+b.toNat) a):=by
  intro l;induction l with
  | nil=>intro a;rfl
  | cons b l ih=>intro a;rw [cE,dE,ih];rfl
 exact this l 0
noncomputable def Nq:Parse:=fun l n ok no=>match Nat.ble 8 n with
 | true=>uJ 8 l fun h=>oE 8 l fun t=>beK h fun x=>ok (.int .u64 (.ofNat x)) t
 | false=>no (.ofNat 8)
noncomputable def YS:Parse:=fun l n ok no=>match Nat.ble 1 n with
 | true=>uJ 1 l fun h=>oE 1 l fun t=>beK h fun x=>ok (.int .u8 (.ofNat x)) t
 | false=>no (.ofNat 8)
noncomputable def countP (most:Nat):Parse:=fun l n ok no=>match Nat.ble 8 n with
 | true=>uJ 8 l fun h=>oE 8 l fun t=>beK h fun x=>match Nat.ble x most with
  | true=>ok (.int .i64 (.ofNat x)) t
  | false=>no (.ofNat 4)
 | false=>no (.ofNat 8)
noncomputable def YT:Parse:=fun l n ok no=>match Nat.ble 2 n with
 | true=>uJ 2 l fun h=>oE 2 l fun t=>beK h fun x=>match Nat.ble x 2048 with
  | true=>mJ t fun m=>match Nat.ble x m with
   | true=>uJ x t fun a=>oE x t fun r=>ok (.string ⟨⟨a⟩⟩) r
   | false=>no (.ofNat 8)
  | false=>no (.ofNat 40)
 | false=>no (.ofNat 8)
noncomputable def endP:Parse:=fun l _ ok no=>match l with
 | []=>ok (.bool true) []
 | _::_=>no (.ofNat 10)
noncomputable def rdK (zero:Value) (parse:Parse) (Sz:St) (p:Value) (K:VK):Bool:=
 match p with
 | .pointer none=>K (.tuple ⟨[zero,.int .i64 (.ofNat 2)]⟩) Sz
 | .pointer (some ⟨i,o,none⟩)=>lD Sz i fun vs _ ck=>match ck with
  | .exact=>xJ vs o fun a=>xJ vs (Nat.succ o) fun b=>match a,b with
   | .string s,.int .i64 e=>match RK e 0 with
    | true=>mJ s.data.toList fun n=>match Nat.blt n 9223372036854775808 with
     | true=>parse s.data.toList n (fun v rest=>eX Sz i o [.string ⟨⟨rest⟩⟩] fun Sz=>K (.tuple ⟨[v,.int .i64 (.ofNat 0)]⟩) Sz) (fun er=>eX Sz i o [.string ⟨⟨[]⟩⟩,.int .i64 er] fun Sz=>K (.tuple ⟨[zero,.int .i64 er]⟩) Sz)
     | false=>false
    | false=>K (.tuple ⟨[zero,.int .i64 e]⟩) Sz
   | _,_=>false
  | _=>false
 | _=>false
section
variable{w0:World}{U:Rn}{Sz:St}{w:World}
def YU (parse:Parse) (h:FuncId) (cap:Array Value) (T:Value->Prop) (w:World):Prop:=∀(s:ByteArray) (ok:Value->List UInt8->Bool) (no:Int->Bool),s.size<9223372036854775808->parse s.data.toList s.size ok no=true->
 (∃(v:Value) (rest:ByteArray),ok v rest.data.toList=true/\T v/\cD v=true/\xU h cap s rest v w)\/∃er,no er=true/\gH h cap s er w
structure YV (rd h:FuncId) (cap:Array Value) (zero:Value) (T:Value->Prop):Prop where
 ok:∀(rb ro:Nat) (s rest:ByteArray) (v:Value) (w:World),T v->rb<w.heap.size->w.cell? ⟨rb,ro,none⟩=some (.string s)->w.cell? ⟨rb,ro+1,none⟩=some (.int .i64 0)->w.frozen? ⟨rb,ro,none⟩=false->xU h cap s rest v w->
  Calls Tryz.prog rd #[.pointer (some ⟨rb,ro,none⟩),.func (.func h) #[] cap] w (EB rb ro rest v w)
 lack:∀(rb ro:Nat) (s:ByteArray) (er:Int) (w:World),rb<w.heap.size->w.cell? ⟨rb,ro,none⟩=some (.string s)->w.cell? ⟨rb,ro+1,none⟩=some (.int .i64 0)->w.frozen? ⟨rb,ro,none⟩=false->w.frozen? ⟨rb,ro+1,none⟩=false->gH h cap s er w->
  Calls Tryz.prog rd #[.pointer (some ⟨rb,ro,none⟩),.func (.func h) #[] cap] w (AZ rb ro er zero w)
 wrong:∀(rb ro:Nat) (er:Int) (w:World),rb<w.heap.size->w.cell? ⟨rb,ro+1,none⟩=some (.int .i64 er)->er≠0->
  Calls Tryz.prog rd #[.pointer (some ⟨rb,ro,none⟩),.func (.func h) #[] cap] w fun r w'=>r= .returned (.tuple #[zero,.int .i64 er])/\Below w.heap.size w w'
 nil:∀(w:World),Calls Tryz.prog rd #[.pointer none,.func (.func h) #[] cap] w fun r w'=>r= .returned (.tuple #[zero,.int .i64 2])/\Below w.heap.size w w'
theorem Jo{a b:Value} (ha:cD a=true) (hb:cD b=true):VR U (.tuple ⟨[a,b]⟩) (.tuple #[a,b]):= .uQ (gO.cons (.flat ha) (gO.cons (.flat hb) (.nil U)))
theorem zW{cs:Array Value}{t:TypeId}{fz:Nat×Nat}{b j:Nat} (hb:w.heap[b]? =some (.cells cs t fz)) (hth:RQ cs.size fz) (hj:j<cs.size):w.frozen? ⟨b,j,none⟩=false:=by
 have:=hth j hj;simp only [World.frozen?,hb];simpa using this
theorem Jq{rd h:FuncId}{cap:Array Value}{zero:Value}{T:Value->Prop}{parse:Parse} (R:YV rd h cap zero T) (hz:cD zero=true) (hrel:Rel Tryz.prog w0 U Sz w) (hp:YU parse h cap T w){p p':Value} (hv:VR U p p'){K:VK} (hk:rdK zero parse Sz p K=true):
 Calls Tryz.prog rd #[p',.func (.func h) #[] cap] w (Back Tryz.prog w0 U w K):=by
 unfold rdK at hk;split at hk
 ·cases hv.of_flat rfl
  refine(R.nil w).mono ?_
  rintro e w' ⟨rfl,hb⟩
  obtain⟨r1,r2⟩:=hrel.below hb;exact⟨_,rfl,U,_,Sz,hk,Jo hz rfl,r1,r2⟩
 ·rename_i i o
  obtain⟨_,L,hL,rfl⟩:=hv.sV;obtain⟨vs,e,ck,ho,hk⟩:=kX hk;split at hk
  ·obtain⟨a,hao,hk⟩:=tH hk
   obtain⟨b,Su,hk⟩:=tH hk;obtain⟨cs,t,fz,hb,hcv,g1,g2,g3,g4,g5⟩:=hrel.cells ho hL;obtain⟨a',ha',har⟩:=hcv o a hao;obtain⟨b',hb',hbr⟩:=hcv (o+1) b Su;have hlt:L.b<w.heap.size:=hrel.loc i L hL;have c0:w.cell? ⟨L.b,L.s+o,none⟩=some a':=cell_of hb ha';have c1:w.cell? ⟨L.b,L.s+o+1,none⟩=some b':=cell_of hb hb';have f0:w.frozen? ⟨L.b,L.s+o,none⟩=false:=zW hb g4 (Array.getElem?_eq_some_iff.1 ha').1;have f1:w.frozen? ⟨L.b,L.s+o+1,none⟩=false:=zW hb g4 (Array.getElem?_eq_some_iff.1 hb').1
   have key:∃s er,a= .string s/\b= .int .i64 er:=by
    revert hk;cases a<;>cases b<;>first | (intro hk;cases hk;done) | skip
    rename_i s k er;cases k<;>first | (intro hk;cases hk;done) | (intro _;exact⟨_,_,rfl,rfl⟩)
   obtain⟨s,er,rfl,rfl⟩:=key
   ·cases har.of_flat rfl
    cases hbr.of_flat rfl;dsimp only at hk;split at hk
    ·rename_i he
     rw [rL]at he;have he:=eq_of_beq he;subst he;rw [cV]at hk;split at hk
     ·rename_i hn
      have hn:s.size<9223372036854775808:=Nat.le_of_ble_eq_true hn;rcases hp s _ _ hn hk with ⟨v,rest,hk,hT,hfl,H⟩ | ⟨er,hk,H⟩
      ·obtain⟨S',w1,hk,r1,r2,hrun⟩:=kP hrel hk hL (gO.cons (.flat (v:= .string rest) rfl) (.nil U)) (by intro v hv;simp at hv;subst hv;rfl)
       have hset:(storeCells ⟨L.b,L.s+o,none⟩ [.string rest]).run Tryz.prog w= .ok () (w.setCell ⟨L.b,L.s+o,none⟩ (.string rest)):=by
        simp only [storeCells,iC,Nat.add_zero];rw [Sem.run_bind,run_store Tryz.prog w _ _ .plain rfl,c0,f0];rfl
       rw [hset]at hrun;injection hrun with _ hrun;subst hrun;refine(R.ok L.b (L.s+o) s rest v w hT hlt c0 c1 f0 H).mono ?_
       rintro e w' ⟨rfl,hbl⟩
       obtain⟨q1,q2⟩:=r1.below (w':=w') (hbl.mono (by simp [World.setCell]));exact⟨_,rfl,U,_,S',hk,Jo hfl rfl,q1,r2.trans q2⟩
      ·obtain⟨S',w1,hk,r1,r2,hrun⟩:=kP hrel hk hL (gO.cons (.flat (v:= .string ⟨#[]⟩) rfl) (gO.cons (.flat (v:= .int .i64 er) rfl) (.nil U))) (by intro v hv;simp at hv;rcases hv with rfl | rfl<;>rfl)
       have hset:(storeCells ⟨L.b,L.s+o,none⟩ [.string ⟨#[]⟩,.int .i64 er]).run Tryz.prog w= .ok () ((w.setCell ⟨L.b,L.s+o,none⟩ (.string ⟨#[]⟩)).setCell ⟨L.b,L.s+o+1,none⟩ (.int .i64 er)):=by
        have d1:(w.setCell ⟨L.b,L.s+o,none⟩ (.string ⟨#[]⟩)).cell? ⟨L.b,L.s+o+1,none⟩=some (.int .i64 0):=by
         rw [World.cell?_setCell_other _ _ _ _ (by intro e;injection e with _ e;omega)];exact c1
        have d2:(w.setCell ⟨L.b,L.s+o,none⟩ (.string ⟨#[]⟩)).frozen? ⟨L.b,L.s+o+1,none⟩=false:=by rw [World.frozen?_setCell];exact f1
        simp only [storeCells,iC,Nat.add_zero];rw [Sem.run_bind,run_store Tryz.prog w _ _ .plain rfl,c0,f0];simp only [Result.andThen];simp only [Bool.false_eq_true,if_false,Nat.zero_add];rw [Sem.run_bind,run_store Tryz.prog _ _ _ .plain rfl,Nat.add_assoc]at*;rw [d1,d2];rfl
       rw [hset]at hrun;injection hrun with _ hrun;subst hrun;refine(R.lack L.b (L.s+o) s er w hlt c0 c1 f0 f1 H).mono ?_
       rintro e w' ⟨rfl,hbl⟩
       obtain⟨q1,q2⟩:=r1.below (w':=w') (hbl.mono (by simp [World.setCell]));exact⟨_,rfl,U,_,S',hk,Jo hz rfl,q1,r2.trans q2⟩
     ·cases hk
    ·rename_i he
     have he:er≠0:=by
      intro e;subst e;exact absurd he (by decide)
     refine(R.wrong L.b (L.s+o) er w hlt c1 he).mono ?_
     rintro e w' ⟨rfl,hbl⟩
     obtain⟨q1,q2⟩:=hrel.below hbl;exact⟨_,rfl,U,_,Sz,hk,Jo hz rfl,q1,q2⟩
  ·cases hk
 ·cases hk
end
theorem AY (s:ByteArray) (n:Nat):(s.extract n s.size).data.toList=s.data.toList.drop n:=by
 rw [ByteArray.data_extract,Array.toList_extract];unfold List.extract;exact List.take_of_length_le (by rw [List.length_drop];exact Nat.le_refl _)
theorem aBK{h:FuncId}{cap:Array Value} (he:∀args w,(callFunc h args).run Tryz.prog w= .ok (.enter h args) w):YV 160 h cap (.int .u64 0) (fun v=>∃x,v= .int .u64 x):=
 ⟨fun rb ro s rest v w ⟨x,hx⟩ a1 a2 a3 a4 H=>by subst hx;exact Ui rb ro h cap s rest x w a1 a2 a3 a4 he H,fun rb ro s er w a1 a2 a3 a4 a5 H=>Jr rb ro h cap s er w a1 a2 a3 a4 a5 he H,fun rb ro er w a1 a2 a3=>Fw rb ro _ er w a1 a2 a3,fun w=>Nr _ w⟩
theorem aDw{h:FuncId}{cap:Array Value} (he:∀args w,(callFunc h args).run Tryz.prog w= .ok (.enter h args) w):YV 158 h cap (.int .u8 0) (fun v=>∃x,v= .int .u8 x):=
 ⟨fun rb ro s rest v w ⟨x,hx⟩ a1 a2 a3 a4 H=>by subst hx;exact Za rb ro h cap s rest x w a1 a2 a3 a4 he H,fun rb ro s er w a1 a2 a3 a4 a5 H=>Ns rb ro h cap s er w a1 a2 a3 a4 a5 he H,fun rb ro er w a1 a2 a3=>Js rb ro _ er w a1 a2 a3,fun w=>Uj _ w⟩
theorem aDx{h:FuncId}{cap:Array Value} (he:∀args w,(callFunc h args).run Tryz.prog w= .ok (.enter h args) w):YV 155 h cap (.int .i64 0) (fun v=>∃x,v= .int .i64 x):=
 ⟨fun rb ro s rest v w ⟨x,hx⟩ a1 a2 a3 a4 H=>by subst hx;exact Zb rb ro h cap s rest x w a1 a2 a3 a4 he H,fun rb ro s er w a1 a2 a3 a4 a5 H=>Nt rb ro h cap s er w a1 a2 a3 a4 a5 he H,fun rb ro er w a1 a2 a3=>Jt rb ro _ er w a1 a2 a3,fun w=>Uk _ w⟩
theorem aDy{h:FuncId}{cap:Array Value} (he:∀args w,(callFunc h args).run Tryz.prog w= .ok (.enter h args) w):YV 165 h cap (.string ⟨#[]⟩) (fun v=>∃x,v= .string x):=
 ⟨fun rb ro s rest v w ⟨x,hx⟩ a1 a2 a3 a4 H=>by subst hx;exact Zc rb ro h cap s rest x w a1 a2 a3 a4 he H,fun rb ro s er w a1 a2 a3 a4 a5 H=>Nu rb ro h cap s er w a1 a2 a3 a4 a5 he H,fun rb ro er w a1 a2 a3=>Ju rb ro _ er w a1 a2 a3,fun w=>Ul _ w⟩
theorem aDz{h:FuncId}{cap:Array Value} (he:∀args w,(callFunc h args).run Tryz.prog w= .ok (.enter h args) w):YV 70 h cap (.bool false) (fun v=>∃x,v= .bool x):=
 ⟨fun rb ro s rest v w ⟨x,hx⟩ a1 a2 a3 a4 H=>by subst hx;exact Zd rb ro h cap s rest x w a1 a2 a3 a4 he H,fun rb ro s er w a1 a2 a3 a4 a5 H=>Nv rb ro h cap s er w a1 a2 a3 a4 a5 he H,fun rb ro er w a1 a2 a3=>Jv rb ro _ er w a1 a2 a3,fun w=>Um _ w⟩
section
variable{w:World}
theorem Ze:YU Nq 161 #[] (fun v=>∃x,v= .int .u64 x) w:=by
 intro s ok no hs hk;unfold Nq at hk;split at hk
 ·rename_i hn
  have hn:=Nat.le_of_ble_eq_true hn;have hl:8<=s.data.toList.length:=hn;rw [fL,if_pos hl,eH,if_pos hl,AX]at hk;exact .inl ⟨_,s.extract 8 s.size,by rw [AY];exact hk,⟨_,rfl⟩,rfl,aBL s w hn hs⟩
 ·rename_i hn
  exact .inr ⟨8,hk,Nx s w (by have:=Nat.not_le_of_not_ble_eq_true (by rw [hn];decide);omega)⟩
theorem Un:YU YS 159 #[] (fun v=>∃x,v= .int .u8 x) w:=by
 intro s ok no hs hk;unfold YS at hk;split at hk
 ·rename_i hn
  have hn:=Nat.le_of_ble_eq_true hn;have hl:1<=s.data.toList.length:=hn;rw [fL,if_pos hl,eH,if_pos hl,AX]at hk;exact .inl ⟨_,s.extract 1 s.size,by rw [AY];exact hk,⟨_,rfl⟩,rfl,Zf s w hn hs⟩
 ·rename_i hn
  exact .inr ⟨8,hk,Jw s w (by have:=Nat.not_le_of_not_ble_eq_true (by rw [hn];decide);omega)⟩
theorem Ny{mb most:Nat} (hm:w.cell? ⟨mb,0,none⟩=some (.int .i64 most)) (hmb:mb<w.heap.size) (tU:most<9223372036854775808):YU (countP most) 156 #[.pointer (some ⟨mb,0,none⟩)] (fun v=>∃x,v= .int .i64 x) w:=by
 intro s ok no hs hk;unfold countP at hk;split at hk
 ·rename_i hn
  have hn:=Nat.le_of_ble_eq_true hn;have hl:8<=s.data.toList.length:=hn;rw [fL,if_pos hl,eH,if_pos hl,AX]at hk
  ··split at hk
    ·rename_i hle
     exact .inl ⟨_,s.extract 8 s.size,by rw [AY];exact hk,⟨_,rfl⟩,rfl,Uo mb most s w hm hmb tU hn hs (Nat.le_of_ble_eq_true hle)⟩
    ·rename_i hle
     exact .inr ⟨4,hk,VH mb most s w hm hmb tU hn hs (by have:=Nat.not_le_of_not_ble_eq_true (by rw [hle];decide);omega)⟩
 ·rename_i hn
  exact .inr ⟨8,hk,Fx mb s w (by have:=Nat.not_le_of_not_ble_eq_true (by rw [hn];decide);omega)⟩
theorem Up:YU YT 166 #[] (fun v=>∃x,v= .string x) w:=by
 intro s ok no hs hk;unfold YT at hk;split at hk
 ·rename_i hn
  have hn:=Nat.le_of_ble_eq_true hn;have hl:2<=s.data.toList.length:=hn;rw [fL,if_pos hl,eH,if_pos hl,AX]at hk
  ··have e1:=AY s 2
    have hsz1:(s.extract 2 s.size).size=(s.data.toList.drop 2).length:=by rw [<-e1];rfl
    split at hk
    ·rename_i hle
     have hle:=Nat.le_of_ble_eq_true hle;rw [cV]at hk;split at hk
     ·rename_i hle2
      have hle2:=Nat.le_of_ble_eq_true hle2;rw [fL,if_pos hle2,eH,if_pos hle2]at hk
      ·refine .inl ⟨.string ((s.extract 2 s.size).extract 0 (be (s.data.toList.take 2))),(s.extract 2 s.size).extract (be (s.data.toList.take 2)) (s.extract 2 s.size).size,?_,⟨_,rfl⟩,rfl,Zg s _ _ w rfl rfl hle hn hs (by rw [hsz1];exact hle2)⟩
       have e2:(s.extract 2 s.size).extract 0 (be (s.data.toList.take 2))=(⟨⟨List.take (be (List.take 2 s.data.toList)) (List.drop 2 s.data.toList)⟩⟩:ByteArray):=by
        apply ByteArray.ext;apply Array.toList_inj.1;rw [xV,e1]
       rw [e2,AY,e1];exact hk
     ·rename_i hle2
      exact .inr ⟨8,hk,Fy s _ _ w rfl rfl hle hn hs (by rw [hsz1];have:=Nat.not_le_of_not_ble_eq_true (by rw [hle2];decide);omega)⟩
    ·rename_i hle
     exact .inr ⟨40,hk,YW s w hn hs (by have:=Nat.not_le_of_not_ble_eq_true (by rw [hle];decide);omega)⟩
 ·rename_i hn
  exact .inr ⟨8,hk,YX s w (by have:=Nat.not_le_of_not_ble_eq_true (by rw [hn];decide);omega)⟩
theorem Zh:YU endP 71 #[] (fun v=>∃x,v= .bool x) w:=by
 intro s ok no hs hk;unfold endP at hk;split at hk
 ·rename_i hl
  have e:s=⟨#[]⟩:=by apply ByteArray.ext;apply Array.toList_inj.1;exact hl
  subst e;exact .inl ⟨.bool true,⟨#[]⟩,hk,⟨_,rfl⟩,rfl,aBM w⟩
 ·rename_i b t hl
  exact .inr ⟨10,hk,Nz s w (by rw [KZ,hl];rfl)⟩
end
noncomputable def VI (h:FuncId) (zero:Value) (parse:Parse) (args:List Value) (Sz:St) (K:VK):Bool:=
 match args with
 | [p,.func (.func g) ⟨[]⟩ ⟨[]⟩]=>match Nat.beq g h with
  | true=>rdK zero parse Sz p K
  | false=>false
 | _=>false
noncomputable def Rf (args:List Value) (Sz:St) (K:VK):Bool:=
 match args with
 | [p,.func (.func g) ⟨[]⟩ ⟨[.pointer (some ⟨m,o,none⟩)]⟩]=>match Nat.beq g 156 with
  | true=>lD Sz m fun vs _ ck=>match ck,o with
   | .exact,0=>xJ vs 0 fun v=>match v with
    | .int .i64 (.ofNat most)=>match Nat.blt most 9223372036854775808 with
     | true=>rdK (.int .i64 (.ofNat 0)) (countP most) Sz p K
     | false=>false
    | _=>false
   | _,_=>false
  | false=>false
 | _=>false
section
variable{w0:World}{U:Rn}{Sz:St}{w:World}
theorem YY{a b:Value}{args':List Value} (h:gO U [a,b] args'):∃a' b',args'=[a',b']/\VR U a a'/\VR U b b':=by
 obtain⟨a',t,rfl,h1,h2⟩:=h.dI;obtain⟨b',rfl,h3⟩:=WR h2;exact⟨a',b',rfl,h1,h3⟩
theorem WT{rd h:FuncId}{zero:Value}{T:Value->Prop}{parse:Parse} (hrd:∀args w,(callFunc rd args).run Tryz.prog w= .ok (.enter rd args) w) (R:YV rd h #[] zero T) (hz:cD zero=true) (hp:∀w,YU parse h #[] T w):
 iD Tryz.prog w0 (fun f' args Sz K=>match Nat.beq f' rd with | true=>VI h zero parse args Sz K | false=>false):=by
 intro f' args Sz K U w args' hk hr ha;dsimp only at hk;split at hk
 ·rename_i hf'
  obtain rfl:f'=rd:=by simpa using hf'
  refine⟨hrd ⟨args'⟩,?_⟩;unfold VI at hk;split at hk
  ·rename_i p g
   obtain⟨p',fv,rfl,hv,hf⟩:=YY ha;cases hf.Qf;split at hk
   ·rename_i hg
    have hg:=Nat.eq_of_beq_eq_true hg;subst hg;exact callsIn_wide.2 (Jq R hz hr (hp w) hv hk)
   ·cases hk
  ·cases hk
 ·cases hk
theorem Zi:iD Tryz.prog w0 (fun f' args Sz K=>match Nat.beq f' 155 with | true=>Rf args Sz K | false=>false):=by
 intro f' args Sz K U w args' hk hr ha;dsimp only at hk;split at hk
 ·rename_i hf'
  obtain rfl:f'=155:=by simpa using hf'
  refine⟨enters_of Tryz.func155 (by kernel_rfl) rfl ⟨args'⟩,?_⟩;unfold Rf at hk;split at hk
  ·rename_i p g m o
   obtain⟨p',fv,rfl,hv,hf⟩:=YY ha;obtain⟨L,hL,rfl⟩:=hf.Xi;split at hk
   ·rename_i hg
    have hg:=Nat.eq_of_beq_eq_true hg;subst hg;obtain⟨vs,e,ck,ho,hk⟩:=kX hk;split at hk
    ·obtain⟨v,hvo,hk⟩:=tH hk
     split at hk
     ·rename_i most
      split at hk
      ·rename_i hm
       have hm:=Nat.le_of_ble_eq_true hm;obtain⟨cs,t,fz,hb,hcv,g1,g2,g3,g4,g5⟩:=hr.cells ho hL;obtain⟨v',hv',Xo⟩:=hcv 0 _ hvo;cases Xo.of_flat rfl;rw [g2]at hv' ⊢
       have hc:w.cell? ⟨L.b,0,none⟩=some (.int .i64 (most:Nat)):=by
        have:=cell_of hb hv';exact this
       exact callsIn_wide.2 (Jq (aDx (enters_of Tryz.func156 (by kernel_rfl) rfl)) rfl hr (Ny hc (hr.loc m L hL) hm) hv hk)
      ·cases hk
     ·cases hk
    ·cases hk
   ·cases hk
  ·cases hk
 ·cases hk
end
end Go.Am
namespace Go.Proofs.jB
open Go Go.RowKit Go.Proofs
def Jn (l:List UInt8) (k:Nat):List Nat:=(List.range k).map fun i=>be ((l.drop (8*i)).take 8)
theorem Jy (l:List UInt8) (k:Nat):Jn l (k+1)=Jn l k++[be ((l.drop (8*k)).take 8)]:=by simp [Jn,List.range_succ]
theorem wN (l:List UInt8) (k:Nat):(Jn l k).length=k:=by simp [Jn]
def yW (l:List UInt8) (k:Nat):List Value:=(Jn l k).map fun x=> .int .u64 ((x:Nat):Int)
theorem Oa (l:List UInt8) (k:Nat):yW l (k+1)=yW l k++[.int .u64 ((be ((l.drop (8*k)).take 8):Nat):Int)]:=by simp [yW,Jy]
theorem SB{w w':World}{B:Nat}{e:TypeId}{sz:Nat}{v:Value}{n:Nat}{xs:List Value} (h:w.ownsRow B e sz v n xs) (hk:∀g,B<=g->g<w.heap.size->w'.heap[g]? =w.heap[g]?):w'.ownsRow B e sz v n xs:=by
 refine⟨h.1,?_⟩;rcases h.2 with h2 | ⟨g,cap,cur,h1,h2,h3,h4⟩
 ·exact .inl h2
 ·exact .inr ⟨g,cap,cur,h1,h2,(hk g h2 (Array.getElem?_eq_some_iff.1 h3).1).trans h3,h4⟩
theorem LD (s:ByteArray) (n:Nat):(s.extract n s.size).data.toList=s.data.toList.drop n:=by
 rw [ByteArray.data_extract,Array.toList_extract];unfold List.extract;exact List.take_of_length_le (by rw [List.length_drop];exact Nat.le_refl _)
theorem aBO (s:ByteArray) (a b:Nat):(s.extract a s.size).extract b (s.extract a s.size).size=s.extract (a+b) s.size:=by
 apply ByteArray.ext;apply Array.toList_inj.1;rw [LD,LD,LD,List.drop_drop]
theorem aDD:(Tryz.prog.info? 57).map (fun i=>(i.zero,i.size,i.bytes))=some (some (.int .u64 0),1,8):=by kernel_rfl
def WS (h:FuncId) (cap:Array Value) (s rest:ByteArray) (xs:List Value) (w0:World):Prop:=∀(bp:Nat) (w:World),Below w0.heap.size w0 w->w0.heap.size<=bp->bp<w.heap.size->w.cell? ⟨bp,0,none⟩=some (.string s)->w.frozen? ⟨bp,0,none⟩=false->
 Calls Tryz.prog h (#[.pointer (some ⟨bp,0,none⟩)]++cap) w fun r w'=>∃x xc,r= .returned (.slice x xs.length xc)/\(xs.length=0->x=none/\xc=0)/\w'.ownsRow w.heap.size 57 1 (.slice x xs.length xc) xs.length xs/\Below w.heap.size (w.setCell ⟨bp,0,none⟩ (.string rest)) w'
set_option maxHeartbeats 2000000 in
set_option maxRecDepth 100000 in
theorem Yx (s s1:ByteArray) (n:Nat) (w0:World) (h1:s.extract 2 s.size=s1) (hn0:be (s.data.toList.take 2)=n) (hn2:n<=1024) (hn:2<=s.size) (hs:s.size<9223372036854775808) (hs1:n*8<=s1.size):
 WS 163 #[] s (s1.extract (8*n) s1.size) (yW s1.data.toList n) w0:=by
 intro bp w _ _ hlt hc hz;obtain⟨i0,hi0,hi1,hi2,hi3⟩:=info_parts aDD;have T:=LC bp 1024 s w hc hz hn hs (by omega);rw [h1,hn0]at T;have hl1:s1.size<9223372036854775808:=by rw [<-h1,ByteArray.size_extract];omega
 have C1:∀w',Below w.heap.size (w.setCell ⟨bp,0,none⟩ (.string s1)) w'->w'.cell? ⟨bp,0,none⟩=some (.string s1):=fun w' hb=>JC hb hlt hc;have C2:∀(x:ByteArray) w',Below w.heap.size (w.setCell ⟨bp,0,none⟩ (.string x)) w'->w'.cell? ⟨bp,0,none⟩=some (.string x)/\w'.frozen? ⟨bp,0,none⟩=false:=fun x w' hb=>⟨JC hb hlt hc,Jx hb hlt hz⟩;clear hc hz hn hs h1 hn0;have hle:decide ((n:Int)*8<=(s1.size:Int))=true:=by rw [decide_eq_true_eq];omega
 go_enter Tryz.func163,Tryz.ntmps163
 go_wp2_with (go_at_call 164;refine T.mono ?_;rintro e w' ⟨rfl,hb⟩;have c1:=C1 w' hb)
 go_wp2_with (go_at_call 72;refine(PG _ _).mono ?_;rintro e w2 ⟨rfl,hw2⟩;obtain rfl:w'=w2:=hw2.symm)
 go_loopw [2,16] (fun v i wr=>∃(k:Nat) (ao:Option Addr) (cv:Nat),k<=n/\i= .int .i64 k/\v= .slice ao k cv/\(k=0->ao=none/\cv=0)/\wr.ownsRow w.heap.size 57 1 v k (yW s1.data.toList k)/\Below w.heap.size (w.setCell ⟨bp,0,none⟩ (.string (s1.extract (8*k) s1.size))) wr)
  (fun _ i _=>n-(intOf i).toNat)
 case atStart=>exact⟨0,none,0,Nat.zero_le _,rfl,rfl,fun _=>⟨rfl,rfl⟩,World.ownsRow_nil _ _ _ _,by simpa using hb⟩
 case round=>
  obtain⟨k,ao,cv,hk,rfl,rfl,hz0,hown,hbw⟩:=hrel;by_cases hlt2:k<n
  ·have e8:(s1.extract (8*k) s1.size).size=s1.size-8*k:=by rw [ByteArray.size_extract];omega
   have T2:=wM bp 8 (s1.extract (8*k) s1.size) wr (C2 _ _ hbw).1 (C2 _ _ hbw).2 (by omega) (by omega) (by omega);rw [xV,aBO,LD,show 8*k+8=8*(k+1)by omega]at T2;clear e8;generalize hx:be (List.take 8 (List.drop (8*k) s1.data.toList))=x at T2;generalize hr:s1.extract (8*(k+1)) s1.size=Zm at T2
   have HO:∀w2,Below wr.heap.size (wr.setCell ⟨bp,0,none⟩ (.string Zm)) w2->w2.ownsRow w.heap.size 57 1 (.slice ao k cv) k (yW s1.data.toList k):=fun w2 hb2=>
    SB hown fun g a1 a2=>(hb2.block g a2).trans (aE (by show bp≠g;omega))
   have HB:∀w2,Below wr.heap.size (wr.setCell ⟨bp,0,none⟩ (.string Zm)) w2->Below w.heap.size (w.setCell ⟨bp,0,none⟩ (.string Zm)) w2:=fun w2 hb2=>
    (Cz.trans (eJ hbw _ _)).trans (hb2.mono (by have:=hbw.size;simpa [World.setCell]using this))
   clear hown hbw
   go_wp2_with (first
    | (go_at_call 157;refine T2.mono ?_;rintro e w2 ⟨rfl,hb2⟩;have hown:=HO w2 hb2;have hbw:=HB w2 hb2;have hsz:=hbw.size;clear HO HB)
    | (at_builtin;refine wpList_append_own _ rfl _ _ 60 rfl w.heap.size 57 i0 (.int .u64 0) 1 8 Tryz.underlying60 hi0 hi1 hi2 hi3 rfl (by decide) _ _ _ rfl (hown.alloc _) ⟨w2.heap.size,0,none⟩ 1 1 [.int .u64 (x:Nat)] rfl rfl (cell_one_new _ _ _) (fun x hx=>by simp at hx;subst hx;rfl) (by unfold maxLen;omega) (by omega) (by simp [World.setCell]at hsz ⊢;omega) ?_;intro v' w3 hown' hgrow3 hnil3))
   go_roundw
   case rel=>
    obtain⟨g3,cap3,hv3⟩:∃g3 cap3,v'= .slice (some ⟨g3,0,none⟩) (k+1) cap3:=by
     rcases hown'.2 with ⟨_,h⟩ | ⟨g3,cap3,_,h,_⟩
     ·omega
     ·exact⟨g3,cap3,h⟩
    refine⟨k+1,some ⟨g3,0,none⟩,cap3,by omega,by go_num,hv3,fun h=>absurd h (by omega),?_,?_⟩
    ·rw [Oa,hx];exact hown'
    ·rw [hr]
     exact(hbw.alloc (by simp [World.setCell]at hsz ⊢;omega) _).grown hgrow3 (by simp [World.setCell]at hsz ⊢;omega) (fun q hq=>(hown.lt q hq).1)
   case measure=>simp [intOf];omega
  ·go_wp2
   go_ret
   have hkk:k=n:=by omega
   subst hkk;have hl:(yW s1.data.toList k).length=k:=by simp [yW,wN]
   rw [hl];exact⟨ao,cv,rfl,hz0,hown,hbw⟩
theorem YR (s:ByteArray) (w0:World) (hn:s.size<2):gH 163 #[] s 8 w0:=by
 intro bp w _ _ _ hc hz;have T:=PI bp 1024 s w hc hn;have hp:=rC hc;clear hc hz hn
 go_enter Tryz.func163,Tryz.ntmps163
 go_wp2_with (go_at_call 164;refine T.mono ?_;rintro e w' ⟨rfl,rfl⟩)
 exact⟨rfl,rfl,hp⟩
theorem YQ (s:ByteArray) (w0:World) (hn:2<=s.size) (hs:s.size<9223372036854775808) (hm:1024<be (s.data.toList.take 2)):gH 163 #[] s 40 w0:=by
 intro bp w _ _ _ hc hz;have T:=PJ bp 1024 s w hc hz hn hs hm;clear hc hz hn hs hm
 go_enter Tryz.func163,Tryz.ntmps163
 go_wp2_with (go_at_call 164;refine T.mono ?_;rintro e w' ⟨rfl,hb⟩)
 exact⟨rfl,rfl,hb⟩
theorem Fv (s s1:ByteArray) (n:Nat) (w0:World) (h1:s.extract 2 s.size=s1) (hn0:be (s.data.toList.take 2)=n) (hn2:n<=1024) (hn:2<=s.size) (hs:s.size<9223372036854775808) (hs1:s1.size<n*8):gH 163 #[] s 8 w0:=by
 intro bp w _ _ hlt hc hz;have T:=LC bp 1024 s w hc hz hn hs (by omega);rw [h1,hn0]at T;have hl1:s1.size<9223372036854775808:=by rw [<-h1,ByteArray.size_extract];omega
 have C1:∀w',Below w.heap.size (w.setCell ⟨bp,0,none⟩ (.string s1)) w'->w'.cell? ⟨bp,0,none⟩=some (.string s1):=fun w' hb=>JC hb hlt hc;clear hc hz hn hs h1 hn0;have hle:decide ((n:Int)*8<=(s1.size:Int))=false:=by rw [decide_eq_false_iff_not];omega
 go_enter Tryz.func163,Tryz.ntmps163
 go_wp2_with (go_at_call 164;refine T.mono ?_;rintro e w' ⟨rfl,hb⟩;have c1:=C1 w' hb)
 go_wp2_with (go_at_call 72;refine(PH _ _).mono ?_;rintro e w2 ⟨rfl,hw2⟩;obtain rfl:w'=w2:=hw2.symm)
 exact⟨rfl,rfl,_,hb⟩
set_option maxHeartbeats 400000 in
theorem aEX (pv rv xv ev pb rb ro:Nat) (s:ByteArray) (w:World) (h1:w.cell? ⟨pv,0,none⟩=some (.pointer (some ⟨pb,0,none⟩))) (h2:w.cell? ⟨rv,0,none⟩=some (.pointer (some ⟨rb,ro,none⟩)))
 (h3:w.cell? ⟨pb,0,none⟩=some (.string s)) (old:Value) (h4:w.cell? ⟨rb,ro,none⟩=some old) (h5:w.frozen? ⟨rb,ro,none⟩=false):
 CallsD Tryz.prog 171 #[.pointer (some ⟨pv,0,none⟩),.pointer (some ⟨rv,0,none⟩),.pointer (some ⟨xv,0,none⟩),.pointer (some ⟨ev,0,none⟩)] .returning w fun e u' w'=>
  e= .returned (.tuple #[])/\u'= .returning/\w'=w.drew.setCell ⟨rb,ro,none⟩ (.string s):=by
 have mixed:=mixed;refine callsD_of_wpS Tryz.func171 rfl fun c₀ cs hu=>?_;apply wpS_seq;apply wpS_region;simp [wpOpsS,go_sem,recoverD,hu,Tryz.ntmps171,Exit.thenS];have hnil:∀w:World,(binOp BinOp.eql 20 .nilIface .nilIface).run Tryz.prog w= .ok (.bool true) w:=fun _=>by kernel_rfl
 have g1:w.drew.cell? ⟨pv,0,none⟩=some (.pointer (some ⟨pb,0,none⟩)):=h1;have g2:w.drew.cell? ⟨rv,0,none⟩=some (.pointer (some ⟨rb,ro,none⟩)):=h2;have g3:w.drew.cell? ⟨pb,0,none⟩=some (.string s):=h3;have g4:w.drew.cell? ⟨rb,ro,none⟩=some old:=h4;have g5:w.drew.frozen? ⟨rb,ro,none⟩=false:=h5;refine wpS_of_wp ?_;have ht:(#[.pointer (some ⟨pv,0,none⟩),.pointer (some ⟨rv,0,none⟩),.pointer (some ⟨xv,0,none⟩),.pointer (some ⟨ev,0,none⟩)]++(Array.replicate 28 undef).setIfInBounds 4 Value.nilIface:Array Value)= #[.pointer (some ⟨pv,0,none⟩),.pointer (some ⟨rv,0,none⟩),.pointer (some ⟨xv,0,none⟩),.pointer (some ⟨ev,0,none⟩),undef,undef,undef,undef,.nilIface,undef,undef,undef,undef,undef,undef,undef,undef,undef,undef,undef,undef,undef,undef,undef,undef,undef,undef,undef,undef,undef,undef,undef]:=by simp [Array.replicate,List.replicate]
 rw [ht]
 go_wp2
 go_region_o
 all_goals
  go_wp2
 cases c₀
 simp_all [bodyPostS,results,Tryz.results171]
set_option maxHeartbeats 2000000 in
theorem aBR (pv rv xv ev rb ro:Nat) (er:Int) (w:World) (h2:w.cell? ⟨rv,0,none⟩=some (.pointer (some ⟨rb,ro,none⟩)))
 (ox oe os Zk:Value) (h4:w.cell? ⟨xv,0,none⟩=some ox) (h5:w.frozen? ⟨xv,0,none⟩=false) (h6:w.cell? ⟨ev,0,none⟩=some oe) (h7:w.frozen? ⟨ev,0,none⟩=false)
 (h8:w.cell? ⟨rb,ro,none⟩=some os) (h9:w.frozen? ⟨rb,ro,none⟩=false) (h10:w.cell? ⟨rb,ro+1,none⟩=some Zk) (h11:w.frozen? ⟨rb,ro+1,none⟩=false)
 (d1:xv≠rv) (d2:ev≠rv) (d3:xv≠ev) (d4:xv≠rb) (d5:ev≠rb) (d6:rb≠rv) (l1:rv<w.heap.size) (l2:xv<w.heap.size) (l3:ev<w.heap.size) (l4:rb<w.heap.size):
 CallsD Tryz.prog 171 #[.pointer (some ⟨pv,0,none⟩),.pointer (some ⟨rv,0,none⟩),.pointer (some ⟨xv,0,none⟩),.pointer (some ⟨ev,0,none⟩)] (.panicking [{pJ er with recovered:=false}]) w fun e u' w'=>
  e= .returned (.tuple #[])/\u'= .panicking [{pJ er with recovered:=true}]/\
  w'=(((((w.alloc (.cells #[.int .i64 er] 219)).setCell ⟨xv,0,none⟩ (.slice none 0 0)).setCell ⟨ev,0,none⟩ (.int .i64 er)).drew.setCell ⟨rb,ro,none⟩ (.string ⟨#[]⟩)).setCell ⟨rb,ro+1,none⟩ (.int .i64 er)).drew:=by
 have mixed:=mixed;unfold pJ;refine callsD_of_wpS Tryz.func171 rfl fun c₀ cs hu=>?_;apply wpS_seq;apply wpS_region;simp [wpOpsS,go_sem,recoverD,hu,Tryz.ntmps171,Exit.thenS];have hnil:∀w:World,(binOp BinOp.eql 20 (.iface 219 (.agg #[.int .i64 er])) .nilIface).run Tryz.prog w= .ok (.bool false) w:=fun _=>by kernel_rfl
 have hta:∀w:World,(Instr.typeAssert (.iface 219 (.agg #[.int .i64 er])) 20 219 true).run Tryz.prog w= .ok (.tuple #[.agg #[.int .i64 er],.bool true]) w:=fun _=>by kernel_rfl
 refine wpS_of_wp ?_;have ht:(#[.pointer (some ⟨pv,0,none⟩),.pointer (some ⟨rv,0,none⟩),.pointer (some ⟨xv,0,none⟩),.pointer (some ⟨ev,0,none⟩)]++(Array.replicate 28 undef).setIfInBounds 4 (.iface 219 (.agg #[.int .i64 er])):Array Value)= #[.pointer (some ⟨pv,0,none⟩),.pointer (some ⟨rv,0,none⟩),.pointer (some ⟨xv,0,none⟩),.pointer (some ⟨ev,0,none⟩),undef,undef,undef,undef,(.iface 219 (.agg #[.int .i64 er])),undef,undef,undef,undef,undef,undef,undef,undef,undef,undef,undef,undef,undef,undef,undef,undef,undef,undef,undef,undef,undef,undef,undef]:=by simp [Array.replicate,List.replicate]
 rw [ht];have HB:Below w.heap.size w (w.alloc (.cells #[.int .i64 er] 219)):=(Below.refl _ w).alloc (Nat.le_refl _) _;have hl:(w.alloc (.cells #[.int .i64 er] 219)).cell? ⟨w.heap.size,0,none⟩=some (.int .i64 er):=by simp [go_sem]
 have k2:=(HB.cell (p:=⟨rv,0,none⟩) l1).trans h2;have k4:=(HB.cell (p:=⟨xv,0,none⟩) l2).trans h4;have k5:=(HB.frozen (p:=⟨xv,0,none⟩) l2).trans h5;have k6:=(HB.cell (p:=⟨ev,0,none⟩) l3).trans h6;have k7:=(HB.frozen (p:=⟨ev,0,none⟩) l3).trans h7;have k8:=(HB.cell (p:=⟨rb,ro,none⟩) l4).trans h8;have k9:=(HB.frozen (p:=⟨rb,ro,none⟩) l4).trans h9;have k10:=(HB.cell (p:=⟨rb,ro+1,none⟩) l4).trans h10;have k11:=(HB.frozen (p:=⟨rb,ro+1,none⟩) l4).trans h11;have n1:w.heap.size≠xv:=by omega
 have n2:w.heap.size≠ev:=by omega
 have n3:rb≠w.heap.size:=by omega
 go_wp2
 clear HB h2 h4 h5 h6 h7 h8 h9 h10 h11 l1 l2 l3 l4;generalize w.heap.size=lb at*;generalize hw1:w.alloc (.cells #[.int .i64 er] 219)=w1 at*;have HW1:=Go.Lib.hid hw1;clear hw1;have q2:(⟨xv,0,none⟩:Addr)≠⟨rv,0,none⟩:=fun e=>d1 (congrArg Addr.block e);have q3:(⟨ev,0,none⟩:Addr)≠⟨rv,0,none⟩:=fun e=>d2 (congrArg Addr.block e)
 go_region_o
 all_goals go_wp2
 have f1:∀(a:Addr) (v:Value),a.block≠xv->a.block≠ev->w1.cell? a=some v->(((w1.setCell ⟨xv,0,none⟩ (.slice none 0 0)).setCell ⟨ev,0,none⟩ (.int .i64 er)).drew).cell? a=some v:=by
  intro a v a1 a2 h;have e1:(⟨ev,0,none⟩:Addr)≠a:=fun e=>a2 (by rw [<-e]);have e2:(⟨xv,0,none⟩:Addr)≠a:=fun e=>a1 (by rw [<-e]);show((w1.setCell ⟨xv,0,none⟩ (.slice none 0 0)).setCell ⟨ev,0,none⟩ (.int .i64 er)).cell? a=some v;rw [World.cell?_setCell_other _ _ _ _ e1,World.cell?_setCell_other _ _ _ _ e2];exact h
 have f2:∀(a:Addr),w1.frozen? a=false->(((w1.setCell ⟨xv,0,none⟩ (.slice none 0 0)).setCell ⟨ev,0,none⟩ (.int .i64 er)).drew).frozen? a=false:=by
  intro a h;show((w1.setCell ⟨xv,0,none⟩ (.slice none 0 0)).setCell ⟨ev,0,none⟩ (.int .i64 er)).frozen? a=false;simp [go_sem,h]
 have z2:=f1 _ _ (Ne.symm d1) (Ne.symm d2) k2;have z8:=f1 _ _ (Ne.symm d4) (Ne.symm d5) k8;have z9:=f2 _ k9;have z10:=f1 _ _ (Ne.symm d4) (Ne.symm d5) k10;have z11:=f2 _ k11;have zl:=f1 _ _ n1 n2 hl;clear f1 f2 k2 k4 k5 k6 k7 k8 k9 k10 k11 hl q2 q3;generalize hw2:((w1.setCell ⟨xv,0,none⟩ (.slice none 0 0)).setCell ⟨ev,0,none⟩ (.int .i64 er)).drew=w2 at*;have HW2:=Go.Lib.hid hw2;clear hw2;have q4:(⟨rb,ro,none⟩:Addr)≠⟨lb,0,none⟩:=fun e=>n3 (congrArg Addr.block e);have q5:(⟨rb,ro,none⟩:Addr)≠⟨rv,0,none⟩:=fun e=>d6 (congrArg Addr.block e)
 go_region_o
 all_goals go_wp2
 have e1:w.alloc (.cells #[.int .i64 er] 219)=w1:=HW1;have e2:((w1.setCell ⟨xv,0,none⟩ (.slice none 0 0)).setCell ⟨ev,0,none⟩ (.int .i64 er)).drew=w2:=HW2;refine⟨rfl,_,rfl,.tuple #[],?_,rfl,rfl,?_⟩
 ·simp [results,Tryz.results171]
 ·rw [e1,<-e2];rfl
set_option maxHeartbeats 2000000 in
theorem Np (rb ro:Nat) (h:FuncId) (cap:Array Value) (s:ByteArray) (er:Int) (w:World) (hr0:rb<w.heap.size) (h1:w.cell? ⟨rb,ro,none⟩=some (.string s)) (h2:w.cell? ⟨rb,ro+1,none⟩=some (.int .i64 0)) (h3:w.frozen? ⟨rb,ro,none⟩=false) (h4:w.frozen? ⟨rb,ro+1,none⟩=false)
 (he:∀args w,(callFunc h args).run Tryz.prog w= .ok (.enter h args) w) (H:gH h cap s er w):
 Calls Tryz.prog 162 #[.pointer (some ⟨rb,ro,none⟩),.func (.func h) #[] cap] w (AZ rb ro er (.slice none 0 0) w):=by
 have hmf:∀(fn:Fn) (first cap:Array Value) (w:World),(Instr.makeFunc fn first cap).run Tryz.prog w= .ok (.func fn first cap) w:=fun _ _ _ _=>rfl
 have k1:∀o1 o2 o3,(((w.alloc o1).alloc o2).alloc o3).cell? ⟨rb,ro,none⟩=some (.string s):=fun o1 o2 o3=>
  ((((Below.refl _ w).alloc (Nat.le_refl _) o1).alloc (by simp) o2).alloc (by simp;omega) o3).cell (p:=⟨rb,ro,none⟩) hr0 |>.trans h1
 have k2:∀o1 o2 o3,(((w.alloc o1).alloc o2).alloc o3).cell? ⟨rb,ro+1,none⟩=some (.int .i64 0):=fun o1 o2 o3=>
  ((((Below.refl _ w).alloc (Nat.le_refl _) o1).alloc (by simp) o2).alloc (by simp;omega) o3).cell (p:=⟨rb,ro+1,none⟩) hr0 |>.trans h2
 have HH:=Go.Lib.hid H;have HR:=Go.Lib.hid hr0;clear H hr0
 go_enter_defers Tryz.func162,Tryz.ntmps162
 go_wp2
 generalize hW:((((w.alloc (Obj.cells #[Value.pointer (some {block:=rb,off:=ro})] 100)).alloc (Obj.cells #[(.slice none 0 0)] 60)).alloc (Obj.cells #[.int .i64 0] 37)).alloc (Obj.cells #[Value.string s] 174)).alloc (Obj.cells #[Value.pointer (some {block:=w.heap.size+1+1+1,off:=0})] 171)=W;have hr0:rb<w.heap.size:=HR;obtain⟨b0,b1,b2,b3,b4,hsz⟩:=yQ w _ _ _ _ _ W hW
 have hBW:Below w.heap.size w W:=by
  rw [<-hW];exact(((((Below.refl _ w).alloc (Nat.le_refl _) _).alloc (by simp) _).alloc (by simp;omega) _).alloc (by simp;omega) _).alloc (by simp;omega) _
 clear hW k1 k2;have c3:W.cell? ⟨w.heap.size+1+1+1,0,none⟩=some (.string s):=aS b3;refine((HH:gH h cap s er w) (w.heap.size+1+1+1) W hBW (by omega) (by omega) c3 (cT b3)).mono ?_
 rintro r w2 ⟨rfl,pv,hB⟩
 have hk:∀k,k<w.heap.size+5->k≠w.heap.size+1+1+1->w2.heap[k]? =W.heap[k]? :=fun k h1 h2=>(hB.block k (by omega)).trans (aE (Ne.symm h2));have e0:w2.heap[w.heap.size]? =_:=(hk _ (by omega) (by omega)).trans b0;have e1:w2.heap[w.heap.size+1]? =_:=(hk _ (by omega) (by omega)).trans b1;have e2:w2.heap[w.heap.size+1+1]? =_:=(hk _ (by omega) (by omega)).trans b2;have hB2:Below w.heap.size w w2:=(hBW.setCell (p:=⟨w.heap.size+1+1+1,0,none⟩) (by show _<=w.heap.size+1+1+1;omega) pv).trans (hB.mono (by omega));have hz2:W.heap.size<=w2.heap.size:=by have:=hB.size;simpa [World.setCell]using this
 clear hk hB b0 b1 b2 b3 b4 c3 hBW;have JB:w2.heap[rb]? =w.heap[rb]? :=hB2.block rb hr0;refine leaves_cons (f:=171) (args:= #[.pointer (some ⟨w.heap.size+1+1+1+1,0,none⟩),.pointer (some ⟨w.heap.size,0,none⟩),.pointer (some ⟨w.heap.size+1,0,none⟩),.pointer (some ⟨w.heap.size+1+1,0,none⟩)]) (by simp) (by simp [go_sem]) ?_
 refine(aBR _ _ _ _ rb ro er w2 (aS e0) (.slice none 0 0) (.int .i64 0) (.string s) (.int .i64 0) (aS e1) (cT e1) (aS e2) (cT e2)
  (cY (a:=⟨rb,ro,none⟩) JB h1) (iE (a:=⟨rb,ro,none⟩) JB h3) (cY (a:=⟨rb,ro+1,none⟩) JB h2) (iE (a:=⟨rb,ro+1,none⟩) JB h4)
  (by omega) (by omega) (by omega) (by omega) (by omega) (by omega) (by omega) (by omega) (by omega) (by omega)).mono ?_
 rintro e u' w3 ⟨rfl,rfl,hw3⟩
 have n1:rb≠w.heap.size+1:=by omega
 have n2:rb≠w.heap.size+1+1:=by omega
 have WU:w.heap.size+1<w2.heap.size:=by omega
 have Zl:w.heap.size+1+1<w2.heap.size:=by omega
 have y1:w3.cell? ⟨w.heap.size+1,0,none⟩=some (.slice none 0 0):=by
  have z:w3.heap[w.heap.size+1]? =some (Obj.cells #[(.slice none 0 0)] 60):=by
   rw [hw3];show((((((w2.alloc _).setCell _ _).setCell _ _).setCell _ _).setCell _ _)).heap[_]? =_;rw [aE (by exact n1),aE (by exact n1),aE (by show w.heap.size+1+1≠w.heap.size+1;omega),bM (by rw [lA,if_neg (by omega)];exact e1)];rfl
  exact aS z
 have y2:w3.cell? ⟨w.heap.size+1+1,0,none⟩=some (.int .i64 er):=by
  have z:w3.heap[w.heap.size+1+1]? =some (Obj.cells #[.int .i64 er] 37):=by
   rw [hw3];show((((((w2.alloc _).setCell _ _).setCell _ _).setCell _ _).setCell _ _)).heap[_]? =_;rw [aE (by exact n2),aE (by exact n2),bM ((aE (by show w.heap.size+1≠w.heap.size+1+1;omega)).trans (by rw [lA,if_neg (by omega)];exact e2))];rfl
  exact aS z
 have hB3:Below w.heap.size ((w.setCell ⟨rb,ro,none⟩ (.string ⟨#[]⟩)).setCell ⟨rb,ro+1,none⟩ (.int .i64 er)) w3:=by
  rw [hw3];exact(eJ (eJ (((((hB2.alloc (by omega) _).setCell (by show w.heap.size<=w.heap.size+1;omega) _).setCell (by show w.heap.size<=w.heap.size+1+1;omega) _).drew)) _ _) _ _).drew
 clear hw3 e0 e1 e2 JB hB2 hz2 WU Zl n1 n2 h1 h2 h3 h4 hsz;simp [Leaves,settle,results,Tryz.results162,go_sem,y1,y2];exact⟨rfl,hB3⟩
set_option maxHeartbeats 2000000 in
theorem Jp (rb ro:Nat) (how:Value) (er:Int) (w:World) (hr0:rb<w.heap.size) (h2:w.cell? ⟨rb,ro+1,none⟩=some (.int .i64 er)) (hne:er≠0):
 Calls Tryz.prog 162 #[.pointer (some ⟨rb,ro,none⟩),how] w fun r w'=>r= .returned (.tuple #[(.slice none 0 0),.int .i64 er])/\Below w.heap.size w w':=by
 have mixed:=mixed
 have k2:∀o1 o2 o3,(((w.alloc o1).alloc o2).alloc o3).cell? ⟨rb,ro+1,none⟩=some (.int .i64 er):=fun o1 o2 o3=>
  ((((Below.refl _ w).alloc (Nat.le_refl _) o1).alloc (by simp) o2).alloc (by simp;omega) o3).cell (p:=⟨rb,ro+1,none⟩) hr0 |>.trans h2
 have q1:(⟨w.heap.size+1,0,none⟩:Addr)≠⟨rb,ro+1,none⟩:=by intro e;have e:=congrArg Addr.block e;simp at e;omega
 have hbne:(er != 0)=true:=by simpa using hne
 clear h2 hr0 hne
 go_enter_defers Tryz.func162,Tryz.ntmps162
 go_wp2
 go_region_o
 all_goals go_wp2
 simp [bodyPostD,Leaves,results,Tryz.results162,go_sem];exact((((Below.refl _ w).alloc (Nat.le_refl _) _).alloc (by simp) _).alloc (by simp;omega) _).drew
theorem Uh (how:Value) (w:World):
 Calls Tryz.prog 162 #[.pointer none,how] w fun r w'=>r= .returned (.tuple #[(.slice none 0 0),.int .i64 2])/\Below w.heap.size w w':=by
 go_enter_defers Tryz.func162,Tryz.ntmps162
 go_wp2
 simp [bodyPostD,Leaves,results,Tryz.results162,go_sem];exact(((Below.refl _ w).alloc (Nat.le_refl _) _).alloc (by simp) _).alloc (by simp;omega) _
theorem Ur{w:World}{B B':Nat}{e:TypeId}{sz:Nat}{v:Value}{n:Nat}{xs:List Value} (h:w.ownsRow B e sz v n xs) (hB:B'<=B):w.ownsRow B' e sz v n xs:=by
 refine⟨h.1,?_⟩;rcases h.2 with h2 | ⟨g,cap,cur,h1,h2,h3⟩
 ·exact .inl h2
 ·exact .inr ⟨g,cap,cur,h1,Nat.le_trans hB h2,h3⟩
set_option maxHeartbeats 2000000 in
theorem Yy (rb ro:Nat) (h:FuncId) (cap:Array Value) (s rest:ByteArray) (xs:List Value) (w:World) (hr0:rb<w.heap.size) (h1:w.cell? ⟨rb,ro,none⟩=some (.string s)) (h2:w.cell? ⟨rb,ro+1,none⟩=some (.int .i64 0)) (h3:w.frozen? ⟨rb,ro,none⟩=false)
 (he:∀args w,(callFunc h args).run Tryz.prog w= .ok (.enter h args) w) (H:WS h cap s rest xs w):
 Calls Tryz.prog 162 #[.pointer (some ⟨rb,ro,none⟩),.func (.func h) #[] cap] w fun r w'=>∃x xc,r= .returned (.tuple #[.slice x xs.length xc,.int .i64 0])/\(xs.length=0->x=none/\xc=0)/\w'.ownsRow w.heap.size 57 1 (.slice x xs.length xc) xs.length xs/\Below w.heap.size (w.setCell ⟨rb,ro,none⟩ (.string rest)) w':=by
 have hmf:∀(fn:Fn) (first cap:Array Value) (w:World),(Instr.makeFunc fn first cap).run Tryz.prog w= .ok (.func fn first cap) w:=fun _ _ _ _=>rfl
 have k1:∀o1 o2 o3,(((w.alloc o1).alloc o2).alloc o3).cell? ⟨rb,ro,none⟩=some (.string s):=fun o1 o2 o3=>
  ((((Below.refl _ w).alloc (Nat.le_refl _) o1).alloc (by simp) o2).alloc (by simp;omega) o3).cell (p:=⟨rb,ro,none⟩) hr0 |>.trans h1
 have k2:∀o1 o2 o3,(((w.alloc o1).alloc o2).alloc o3).cell? ⟨rb,ro+1,none⟩=some (.int .i64 0):=fun o1 o2 o3=>
  ((((Below.refl _ w).alloc (Nat.le_refl _) o1).alloc (by simp) o2).alloc (by simp;omega) o3).cell (p:=⟨rb,ro+1,none⟩) hr0 |>.trans h2
 have HH:=Go.Lib.hid H;have HR:=Go.Lib.hid hr0;clear H hr0
 go_enter_defers Tryz.func162,Tryz.ntmps162
 go_wp2
 generalize hW:((((w.alloc (Obj.cells #[Value.pointer (some {block:=rb,off:=ro})] 100)).alloc (Obj.cells #[(.slice none 0 0)] 60)).alloc (Obj.cells #[.int .i64 0] 37)).alloc (Obj.cells #[Value.string s] 174)).alloc (Obj.cells #[Value.pointer (some {block:=w.heap.size+1+1+1,off:=0})] 171)=W;have hr0:rb<w.heap.size:=HR;obtain⟨b0,b1,b2,b3,b4,hsz⟩:=yQ w _ _ _ _ _ W hW
 have hBW:Below w.heap.size w W:=by
  rw [<-hW];exact(((((Below.refl _ w).alloc (Nat.le_refl _) _).alloc (by simp) _).alloc (by simp;omega) _).alloc (by simp;omega) _).alloc (by simp;omega) _
 clear hW k1 k2;have c3:W.cell? ⟨w.heap.size+1+1+1,0,none⟩=some (.string s):=aS b3;refine((HH:WS h cap s rest xs w) (w.heap.size+1+1+1) W hBW (by omega) (by omega) c3 (cT b3)).mono ?_
 rintro r w1 ⟨x,xc,rfl,hX,hO,hB⟩
 have HX:=Go.Lib.hid hX;clear hX;rw [hsz]at hO;have HO:=Go.Lib.hid hO;clear hO;have hk:∀k,k<w.heap.size+5->k≠w.heap.size+1+1+1->w1.heap[k]? =W.heap[k]? :=fun k h1 h2=>(hB.block k (by omega)).trans (aE (Ne.symm h2));have d0:w1.heap[w.heap.size]? =_:=(hk _ (by omega) (by omega)).trans b0;have d1:w1.heap[w.heap.size+1]? =_:=(hk _ (by omega) (by omega)).trans b1;have d2:w1.heap[w.heap.size+1+1]? =_:=(hk _ (by omega) (by omega)).trans b2
 have d3:w1.heap[w.heap.size+1+1+1]? =some (Obj.cells #[Value.string rest] 174):=by
  rw [hB.block _ (by omega),bM b3];rfl
 have d4:w1.heap[w.heap.size+1+1+1+1]? =_:=(hk _ (by omega) (by omega)).trans b4;have hB1:Below w.heap.size w w1:=(hBW.setCell (p:=⟨w.heap.size+1+1+1,0,none⟩) (by show _<=w.heap.size+1+1+1;omega) (.string rest)).trans (hB.mono (by omega));clear hk hB b0 b1 b2 b3 b4 c3 hBW;have x1:w1.cell? ⟨w.heap.size+1,0,none⟩=some (.slice none 0 0):=aS d1;have x2:w1.frozen? ⟨w.heap.size+1,0,none⟩=false:=cT d1;have x3:w1.cell? ⟨w.heap.size+1+1,0,none⟩=some (.int .i64 0):=aS d2;have x4:w1.frozen? ⟨w.heap.size+1+1,0,none⟩=false:=cT d2;have HD:=Go.Lib.hid d0;have HD1:=Go.Lib.hid d1;have HD2:=Go.Lib.hid d2;have HD3:=Go.Lib.hid d3;have HD4:=Go.Lib.hid d4;have HZ:=Go.Lib.hid hsz;have h1:=Go.Lib.hid h1;have h3:=Go.Lib.hid h3;clear d0 d1 d2 d3 d4 hsz h2 hr0
 go_wp2
 have hr0:rb<w.heap.size:=HR;have g0:=(HD:w1.heap[w.heap.size]? =_);have g1:=(HD1:w1.heap[w.heap.size+1]? =_);have g2:=(HD2:w1.heap[w.heap.size+1+1]? =_);have g3:=(HD3:w1.heap[w.heap.size+1+1+1]? =_);have g4:=(HD4:w1.heap[w.heap.size+1+1+1+1]? =_);clear HD HD1 HD2 HD3 HD4 HZ HR HH x1 x2 x3 x4;generalize hw2:(w1.setCell {block:=w.heap.size+1,off:=0} (.slice x xs.length xc)).setCell {block:=w.heap.size+1+1,off:=0} (Value.int IntKind.i64 0)=w2;have ho:∀k,k≠w.heap.size+1->k≠w.heap.size+1+1->w2.heap[k]? =w1.heap[k]? :=fun k a1 a2=>by rw [<-hw2,aE (by exact Ne.symm a2),aE (by exact Ne.symm a1)]
 have e0:=(ho _ (by omega) (by omega)).trans g0;have e3:=(ho _ (by omega) (by omega)).trans g3;have e4:=(ho _ (by omega) (by omega)).trans g4;have e1:w2.heap[w.heap.size+1]? =some (Obj.cells #[(.slice x xs.length xc)] 60):=by rw [<-hw2,aE (by show w.heap.size+1+1≠_;omega),bM g1];rfl
 have e2:w2.heap[w.heap.size+1+1]? =some (Obj.cells #[.int .i64 0] 37):=by rw [<-hw2,bM ((aE (by show w.heap.size+1≠_;omega)).trans g2)];rfl
 have hB2:Below w.heap.size w w2:=by rw [<-hw2];exact(hB1.setCell (by show _<=w.heap.size+1;omega) _).setCell (by show _<=w.heap.size+1+1;omega) _
 have er:w2.heap[rb]? =w.heap[rb]? :=hB2.block rb hr0;have o2:w2.ownsRow (w.heap.size+5) 57 1 (.slice x xs.length xc) xs.length xs:=SB HO.out fun g a1 _=>ho g (by omega) (by omega);clear hw2 ho g0 g1 g2 g3 g4 hB1;clear HO;refine leaves_cons (f:=171) (args:= #[.pointer (some ⟨w.heap.size+1+1+1+1,0,none⟩),.pointer (some ⟨w.heap.size,0,none⟩),.pointer (some ⟨w.heap.size+1,0,none⟩),.pointer (some ⟨w.heap.size+1+1,0,none⟩)]) (by simp) (by simp [go_sem]) ?_;refine(aEX _ _ _ _ (w.heap.size+1+1+1) rb ro rest w2 (aS e4) (aS e0) (aS e3) (.string s) (cY (a:=⟨rb,ro,none⟩) er h1) (iE (a:=⟨rb,ro,none⟩) er h3)).mono ?_
 rintro e u' w3 ⟨rfl,rfl,rfl⟩
 have y1:(w2.drew.setCell ⟨rb,ro,none⟩ (.string rest)).cell? ⟨w.heap.size+1,0,none⟩=some (.slice x xs.length xc):=cY (w:=w2) (aE (by show rb≠w.heap.size+1;omega)) (aS e1);have y2:(w2.drew.setCell ⟨rb,ro,none⟩ (.string rest)).cell? ⟨w.heap.size+1+1,0,none⟩=some (.int .i64 0):=cY (w:=w2) (aE (by show rb≠w.heap.size+1+1;omega)) (aS e2);have hB3:Below w.heap.size (w.setCell ⟨rb,ro,none⟩ (.string rest)) (w2.drew.setCell ⟨rb,ro,none⟩ (.string rest)):=eJ hB2.drew _ _;have o3:(w2.drew.setCell ⟨rb,ro,none⟩ (.string rest)).ownsRow (w.heap.size+5) 57 1 (.slice x xs.length xc) xs.length xs:=SB o2 fun g a1 _=>aE (w:=w2.drew) (by show rb≠g;omega);clear o2;generalize w2.drew.setCell ⟨rb,ro,none⟩ (.string rest)=w3 at*;clear e0 e1 e2 e3 e4 er hB2;have o4:=Ur o3 (show w.heap.size<=w.heap.size+5 by omega);clear o3;simp [Leaves,settle,results,Tryz.results162,go_sem,y1,y2];exact⟨x,xc,⟨rfl,rfl⟩,by simpa using HX.out,o4,hB3⟩
end Go.Proofs.jB
namespace Go.Am
open Go.RowKit Go.MapKept Go.Proofs Go.Proofs.jB
noncomputable def aDs (n:Nat):List UInt8->(List Value->List UInt8->Bool)->Bool:=
 Nat.rec (motive:=fun _=>List UInt8->(List Value->List UInt8->Bool)->Bool) (fun l k=>k [] l) (fun _ ih l k=>uJ 8 l fun h=>oE 8 l fun t=>beK h fun x=>ih t fun vs rest=>k (.int .u64 (.ofNat x)::vs) rest) n
noncomputable def Jm (l:List UInt8) (n:Nat) (ok:List Value->List UInt8->Bool) (no:Int->Bool):Bool:=match Nat.ble 2 n with
 | true=>uJ 2 l fun h=>oE 2 l fun t=>beK h fun x=>match Nat.ble x 1024 with
  | true=>mJ t fun m=>match Nat.ble (Nat.mul x 8) m with
   | true=>aDs x t ok
   | false=>no (.ofNat 8)
  | false=>no (.ofNat 40)
 | false=>no (.ofNat 8)
noncomputable def aBI (vs:List Value) (Sz:St) (K:VK):Bool:=mJ vs fun n=>match n with
 | 0=>K (.tuple ⟨[.slice none 0 0,.int .i64 (.ofNat 0)]⟩) Sz
 | n+1=>qZ Sz (.cells vs 57 (.grown [])) fun j Sz=>K (.tuple ⟨[.slice (some ⟨j,0,some 0⟩) (Nat.succ n) (Nat.succ n),.int .i64 (.ofNat 0)]⟩) Sz
noncomputable def aDt (Sz:St) (p:Value) (K:VK):Bool:=
 match p with
 | .pointer none=>K (.tuple ⟨[(.slice none 0 0),.int .i64 (.ofNat 2)]⟩) Sz
 | .pointer (some ⟨i,o,none⟩)=>lD Sz i fun vs _ ck=>match ck with
  | .exact=>xJ vs o fun a=>xJ vs (Nat.succ o) fun b=>match a,b with
   | .string s,.int .i64 e=>match RK e 0 with
    | true=>mJ s.data.toList fun n=>match Nat.blt n 9223372036854775808 with
     | true=>Jm s.data.toList n (fun vs rest=>eX Sz i o [.string ⟨⟨rest⟩⟩] fun Sz=>aBI vs Sz K) (fun er=>eX Sz i o [.string ⟨⟨[]⟩⟩,.int .i64 er] fun Sz=>K (.tuple ⟨[(.slice none 0 0),.int .i64 er]⟩) Sz)
     | false=>false
    | false=>K (.tuple ⟨[(.slice none 0 0),.int .i64 e]⟩) Sz
   | _,_=>false
  | _=>false
 | _=>false
theorem Nm (l:List UInt8) (k:Nat):yW l (k+1)= .int .u64 ((be (l.take 8):Nat):Int)::yW (l.drop 8) k:=by
 simp only [yW,Jn,List.range_succ_eq_map,List.map_cons,List.map_map];refine congr (congrArg _ (by simp)) ?_;apply List.map_congr_left;intro x _;simp only [Function.comp,List.drop_drop];rw [show 8*(x+1)=8+8*x by omega]
theorem Rb:∀(n:Nat) (l:List UInt8) (k:List Value->List UInt8->Bool),n*8<=l.length->aDs n l k=k (yW l n) (l.drop (8*n)):=by
 intro n;induction n with
 | zero=>intro l k _;rfl
 | succ n ih=>
  intro l k hl;show uJ 8 l (fun h=>oE 8 l fun t=>beK h fun x=>aDs n t fun vs rest=>k (.int .u64 (.ofNat x)::vs) rest)=_;rw [fL,if_pos (by omega),eH,if_pos (by omega),AX,ih _ _ (by rw [List.length_drop];omega),Nm,List.drop_drop,show 8+8*n=8*(n+1)by omega];rfl
theorem aDu:cN Tryz.prog 57=some 1:=by kernel_rfl
theorem Nn (l:List UInt8) (n:Nat):∀v∈yW l n,cD v=true:=by
 intro v hv;simp only [yW,List.mem_map]at hv;obtain⟨x,_,rfl⟩:=hv;rfl
section
variable{w0:World}{U:Rn}{Sz:St}{w:World}
theorem Uf (s:ByteArray) (ok:List Value->List UInt8->Bool) (no:Int->Bool) (hs:s.size<9223372036854775808) (hk:Jm s.data.toList s.size ok no=true):
 (∃(xs:List Value) (rest:ByteArray),ok xs rest.data.toList=true/\(∀v∈xs,cD v=true)/\WS 163 #[] s rest xs w)\/∃er,no er=true/\gH 163 #[] s er w:=by
 unfold Jm at hk;split at hk
 ·rename_i hn
  have hn:=Nat.le_of_ble_eq_true hn;have hl:2<=s.data.toList.length:=hn;rw [fL,if_pos hl,eH,if_pos hl,AX]at hk;have e1:=AY s 2;have hsz1:(s.extract 2 s.size).size=(s.data.toList.drop 2).length:=by rw [<-e1];rfl
  split at hk
  ·rename_i hle
   have hle:=Nat.le_of_ble_eq_true hle;rw [cV]at hk;split at hk
   ·rename_i hle2
    have hle2:be (s.data.toList.take 2)*8<=(s.data.toList.drop 2).length:=Nat.le_of_ble_eq_true hle2;rw [Rb _ _ _ hle2,<-e1,<-AY]at hk;exact .inl ⟨_,_,hk,Nn _ _,Yx s _ _ w rfl rfl hle hn hs (by rw [hsz1];exact hle2)⟩
   ·rename_i hle2
    exact .inr ⟨8,hk,Fv s _ _ w rfl rfl hle hn hs (by rw [hsz1];have h9:¬be (s.data.toList.take 2)*8<=(s.data.toList.drop 2).length:=Nat.not_le_of_not_ble_eq_true (fun h9=>by have h9:Nat.ble (Nat.mul (be (s.data.toList.take 2)) 8) (s.data.toList.drop 2).length=true:=h9;rw [hle2]at h9;cases h9);exact Nat.lt_of_not_le h9)⟩
  ·rename_i hle
   exact .inr ⟨40,hk,YQ s w hn hs (by have:=Nat.not_le_of_not_ble_eq_true (by rw [hle];decide);omega)⟩
 ·rename_i hn
  exact .inr ⟨8,hk,YR s w (by have:=Nat.not_le_of_not_ble_eq_true (by rw [hn];decide);omega)⟩
theorem Ug (hrel:Rel Tryz.prog w0 U Sz w) (hent:∀args w,(callFunc 163 args).run Tryz.prog w= .ok (.enter 163 args) w){p p':Value} (hv:VR U p p'){K:VK} (hk:aDt Sz p K=true):
 Calls Tryz.prog 162 #[p',.func (.func 163) #[] #[]] w (Back Tryz.prog w0 U w K):=by
 unfold aDt at hk;split at hk
 ·cases hv.of_flat rfl
  refine(Uh _ w).mono ?_
  rintro e w' ⟨rfl,hb⟩
  obtain⟨r1,r2⟩:=hrel.below hb;exact⟨_,rfl,U,_,Sz,hk,Jo rfl rfl,r1,r2⟩
 ·rename_i i o
  obtain⟨_,L,hL,rfl⟩:=hv.sV;obtain⟨vs,e,ck,ho,hk⟩:=kX hk;split at hk
  ·obtain⟨a,hao,hk⟩:=tH hk
   obtain⟨b,Su,hk⟩:=tH hk;obtain⟨cs,t,fz,hb,hcv,g1,g2,g3,g4,g5⟩:=hrel.cells ho hL;obtain⟨a',ha',har⟩:=hcv o a hao;obtain⟨b',hb',hbr⟩:=hcv (o+1) b Su;have hlt:L.b<w.heap.size:=hrel.loc i L hL;have c0:w.cell? ⟨L.b,L.s+o,none⟩=some a':=cell_of hb ha';have c1:w.cell? ⟨L.b,L.s+o+1,none⟩=some b':=cell_of hb hb';have f0:w.frozen? ⟨L.b,L.s+o,none⟩=false:=zW hb g4 (Array.getElem?_eq_some_iff.1 ha').1;have f1:w.frozen? ⟨L.b,L.s+o+1,none⟩=false:=zW hb g4 (Array.getElem?_eq_some_iff.1 hb').1
   have key:∃s er,a= .string s/\b= .int .i64 er:=by
    revert hk;cases a<;>cases b<;>first | (intro hk;cases hk;done) | skip
    rename_i s k er;cases k<;>first | (intro hk;cases hk;done) | (intro _;exact⟨_,_,rfl,rfl⟩)
   obtain⟨s,er,rfl,rfl⟩:=key
   ·cases har.of_flat rfl
    cases hbr.of_flat rfl;dsimp only at hk;split at hk
    ·rename_i he
     rw [rL]at he;have he:=eq_of_beq he;subst he;rw [cV]at hk;split at hk
     ·rename_i hn
      have hn:s.size<9223372036854775808:=Nat.le_of_ble_eq_true hn;rcases Uf (w:=w) s _ _ hn hk with ⟨xs,rest,hk,hfl,H⟩ | ⟨er,hk,H⟩
      ·obtain⟨S',w1,hk,r1,r2,hrun⟩:=kP hrel hk hL (gO.cons (.flat (v:= .string rest) rfl) (.nil U)) (by intro v hv;simp at hv;subst hv;rfl)
       have hset:(storeCells ⟨L.b,L.s+o,none⟩ [.string rest]).run Tryz.prog w= .ok () (w.setCell ⟨L.b,L.s+o,none⟩ (.string rest)):=by
        simp only [storeCells,iC,Nat.add_zero];rw [Sem.run_bind,run_store Tryz.prog w _ _ .plain rfl,c0,f0];rfl
       rw [hset]at hrun;injection hrun with _ hrun;subst hrun;refine(Yy L.b (L.s+o) 163 #[] s rest xs w hlt c0 c1 f0 hent H).mono ?_
       rintro e w' ⟨x,xc,rfl,hX,hown,hbl⟩
       have aEV:=hbl.mono (show(w.setCell ⟨L.b,L.s+o,none⟩ (.string rest)).heap.size<=w.heap.size by simp [World.setCell]);unfold aBI at hk;rw [cV]at hk;split at hk
       ·rename_i h0
        obtain⟨q1,q2⟩:=r1.below aEV;obtain⟨rfl,rfl⟩:=hX h0;rw [h0];exact⟨_,rfl,U,_,S',hk,Jo rfl rfl,q1,r2.trans q2⟩
       ·rename_i n' hn'
        rw [gE]at hk;rcases hown.2 with ⟨_,h0⟩ | ⟨g,cap,cur,hv0,hg,hcur,hnc,hcm,hcs,htk⟩
        ·omega
        ·injection hv0 with z1 z2 z3
         subst z1 z3;obtain⟨h1,h2⟩:=r1.Yv aEV aDu (by simpa [World.setCell]using hg) hcur (gO.flat hfl) (by simpa using htk);refine⟨_,rfl,_,_,_,hk,?_,h1,r2.trans h2⟩;rw [hn'];refine .uQ (gO.cons ?_ (gO.cons (.flat rfl) (.nil _)));have:=VR.lU (U:=U.put S'.n ⟨g,0,cur.size,1⟩) (i:=S'.n) (o:=0) (n:=n'+1) (c:=n'+1) (c':=xc) (Rn.iV _ _ _) (by omega) (Nat.le_refl _) (by simp [hcs]) (by simp);simpa using this
      ·obtain⟨S',w1,hk,r1,r2,hrun⟩:=kP hrel hk hL (gO.cons (.flat (v:= .string ⟨#[]⟩) rfl) (gO.cons (.flat (v:= .int .i64 er) rfl) (.nil U))) (by intro v hv;simp at hv;rcases hv with rfl | rfl<;>rfl)
       have hset:(storeCells ⟨L.b,L.s+o,none⟩ [.string ⟨#[]⟩,.int .i64 er]).run Tryz.prog w= .ok () ((w.setCell ⟨L.b,L.s+o,none⟩ (.string ⟨#[]⟩)).setCell ⟨L.b,L.s+o+1,none⟩ (.int .i64 er)):=by
        have d1:(w.setCell ⟨L.b,L.s+o,none⟩ (.string ⟨#[]⟩)).cell? ⟨L.b,L.s+o+1,none⟩=some (.int .i64 0):=by
         rw [World.cell?_setCell_other _ _ _ _ (by intro e;injection e with _ e;omega)];exact c1
        have d2:(w.setCell ⟨L.b,L.s+o,none⟩ (.string ⟨#[]⟩)).frozen? ⟨L.b,L.s+o+1,none⟩=false:=by rw [World.frozen?_setCell];exact f1
        simp only [storeCells,iC,Nat.add_zero];rw [Sem.run_bind,run_store Tryz.prog w _ _ .plain rfl,c0,f0];simp only [Result.andThen];simp only [Bool.false_eq_true,if_false,Nat.zero_add];rw [Sem.run_bind,run_store Tryz.prog _ _ _ .plain rfl,Nat.add_assoc]at*;rw [d1,d2];rfl
       rw [hset]at hrun;injection hrun with _ hrun;subst hrun;refine(Np L.b (L.s+o) 163 #[] s er w hlt c0 c1 f0 f1 hent H).mono ?_
       rintro e w' ⟨rfl,hbl⟩
       obtain⟨q1,q2⟩:=r1.below (w':=w') (hbl.mono (by simp [World.setCell]));exact⟨_,rfl,U,_,S',hk,Jo rfl rfl,q1,r2.trans q2⟩
     ·cases hk
    ·rename_i he
     have he':er≠0:=by
      intro e;subst e;exact absurd he (by decide)
     refine(Jp L.b (L.s+o) _ er w hlt c1 he').mono ?_
     rintro e w' ⟨rfl,hbl⟩
     obtain⟨q1,q2⟩:=hrel.below hbl;exact⟨_,rfl,U,_,Sz,hk,Jo rfl rfl,q1,q2⟩
  ·cases hk
 ·cases hk
end
end Go.Am
