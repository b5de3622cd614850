/- The program, and tables of its functions' live temporaries (written by a program). -/
import Derived.Test.YtcikbnhbihljmaaGreatGd
import Derived.Test.YtcikbnhbihljmaaGreatChecked
import GoSem.Core.World
import Derived.WalkKit
import Derived.OwnWalk
import Derived.Shelf.Abstract
import Derived.RangeFuncNested
import Derived.RangeFuncBound
import Derived.RangeFuncCalls
import Derived.RangeFuncLeaves
import Derived.Shelf.RegionOpen
import Derived.OwnWalkIn
import Derived.TacticsInMore
import Derived.LoopNIn
import Derived.LoopIn
import Derived.Maps.AppendAt
import Derived.Shelf.SlSortCmp.NoneTotal
import Derived.Shelf.SlicesG.Cmp
import Derived.RegionCalls
import Derived.StillTailTactics
import Derived.Sort.Grow
import Derived.Test.YtcikbnhbihljmaaGreatGb
import Derived.Shelf.Sort.Plain
import Derived.Shelf.Slices.In.SortNone

set_option linter.unusedVariables false
set_option maxRecDepth 100000
namespace Go.Am
noncomputable abbrev PP:Program:=Go.Proofs.Tryz.prog
abbrev gQ:FuncId:=3
abbrev qY:FuncId:=4
abbrev rV:FuncId:=5
abbrev rW:FuncId:=6
abbrev tV:FuncId:=7
abbrev gZ:FuncId:=8
abbrev mC:FuncId:=9
abbrev tW:FuncId:=10
abbrev oK:FuncId:=11
abbrev cN:FuncId:=12
abbrev yQ:FuncId:=13
abbrev rX:FuncId:=14
abbrev kU:FuncId:=15
abbrev oF:FuncId:=16
abbrev qG:FuncId:=17
abbrev qZ:FuncId:=18
abbrev jY:FuncId:=19
abbrev gM:FuncId:=20
abbrev iK:FuncId:=21
abbrev jZ:FuncId:=22
abbrev nJ:FuncId:=23
abbrev pN:FuncId:=24
abbrev jR:FuncId:=25
abbrev eB:FuncId:=26
abbrev yR:FuncId:=27
abbrev yS:FuncId:=28
abbrev gX:FuncId:=29
abbrev tA:FuncId:=30
abbrev bR:FuncId:=31
abbrev eI:FuncId:=32
abbrev eT:FuncId:=33
abbrev kV:FuncId:=34
abbrev tX:FuncId:=35
abbrev eU:FuncId:=36
abbrev kW:FuncId:=37
abbrev gH:FuncId:=38
abbrev kI:FuncId:=39
abbrev fN:FuncId:=40
abbrev bK:FuncId:=41
abbrev aZ:FuncId:=42
abbrev eJ:FuncId:=43
abbrev gR:FuncId:=44
abbrev dJ:FuncId:=45
abbrev bZ:FuncId:=46
abbrev bE:FuncId:=47
abbrev jI:FuncId:=48
abbrev tY:FuncId:=49
abbrev rY:FuncId:=50
abbrev dO:FuncId:=51
abbrev BJ:FuncId:=52
abbrev rZ:FuncId:=53
abbrev eW:FuncId:=54
abbrev bF:FuncId:=55
abbrev gY:FuncId:=56
abbrev jG:FuncId:=57
abbrev iL:FuncId:=58
abbrev gC:FuncId:=59
abbrev dH:FuncId:=60
abbrev gN:FuncId:=61
abbrev cT:FuncId:=62
abbrev gI:FuncId:=63
abbrev bJ:FuncId:=64
abbrev cH:FuncId:=65
abbrev bV:FuncId:=66
abbrev eX:FuncId:=67
abbrev iZ:FuncId:=68
abbrev fR:FuncId:=69
abbrev cU:FuncId:=78
abbrev eY:FuncId:=79
abbrev kA:FuncId:=80
abbrev mD:FuncId:=81
abbrev eD:FuncId:=82
abbrev eF:FuncId:=83
abbrev jA:FuncId:=84
abbrev gS:FuncId:=85
abbrev jB:FuncId:=104
abbrev lF:FuncId:=105
abbrev dS:FuncId:=106
abbrev fK:FuncId:=108
noncomputable def bM:FuncId->oC:=aF4 [(3,⟨dD [(9,[1,5,6,8,10],[1,6,8],[])],dE []⟩),
 (4,⟨dD [(7,[0,3,4,5],[0,3,4],[]),(3,[0,3,4],[3],[])],dE []⟩),
 (5,⟨dD [(3,[1,2,3,4],[2,3],[])],dE []⟩),
 (6,⟨dD [(5,[1,4,79,80,81],[1,4],[2,3])],dE []⟩),
 (7,⟨dD [(6,[1,4,5],[1],[2,3])],dE []⟩),
 (8,⟨dD [(19,[0,1,2,7,13,14],[0,1,2,7],[]),(2,[0,1,2,7],[],[6])],dE [(3,[0,1,2,7]),(13,[0,1,2,7,10])]⟩),
 (18,⟨dD [(4,[0,1,5],[],[4])],dE []⟩),
 (20,⟨dD [(2,[0,1,2,7],[7],[6])],dE []⟩),
 (21,⟨dD [],dE [(8,[0,1,2,7])]⟩),
 (22,⟨dD [],dE [(15,[0,1,2,7])]⟩),
 (24,⟨dD [(4,[0,1,5],[],[4])],dE []⟩),
 (25,⟨dD [(5,[3,12,13,14],[3],[])],dE []⟩),
 (26,⟨dD [(7,[0,3,4,5],[0,3,4,5],[]),(3,[0,3,4],[3],[])],dE [(4,[0,3,4])]⟩),
 (34,⟨dD [(5,[0,3,5,6],[0,3,5,6],[])],dE []⟩),
 (35,⟨dD [(4,[2,3,5],[],[4])],dE []⟩),
 (36,⟨dD [(8,[0,3,6,7,27,28,29],[0,3,6,7],[]),(6,[0,3,6,7],[7],[])],dE [(5,[0,3,6])]⟩),
 (37,⟨dD [(12,[0,1,2,8,12],[0,1,2],[6,7]),(3,[0,1,2,8,9],[0,1,2,8],[6,7])],dE []⟩),
 (38,⟨dD [(3,[3,7,8,9],[3],[])],dE []⟩),
 (43,⟨dD [(3,[0,1,2,7,8],[7],[])],dE [(4,[0,1,2,7,8])]⟩),
 (47,⟨dD [(9,[0,3,4,5],[0,3],[]),(4,[0,3],[0],[2])],dE [(10,[0,3,4,5])]⟩),
 (48,⟨dD [(2,[0,1,5],[],[4])],dE []⟩),
 (49,⟨dD [(4,[0,1,5],[],[4])],dE []⟩),
 (50,⟨dD [(3,[0,3,4],[3],[])],dE []⟩),
 (51,⟨dD [],dE [(8,[2,49])]⟩),
 (54,⟨dD [(2,[0,14,15,16],[],[4,5])],dE []⟩),
 (55,⟨dD [(1000003,[2,4,5],[],[])],dE []⟩),
 (1400003,⟨dD [(1000000,[2,4,5],[],[])],dE []⟩),
 (60,⟨dD [],dE [(4,[0,6,7])]⟩),
 (63,⟨dD [(3,[0,1,5,6],[5],[])],dE [(4,[0,1,5,6])]⟩),
 (64,⟨dD [(9,[0,3,4,5],[0,3],[]),(4,[0,3],[0],[2])],dE [(10,[0,3,4,5])]⟩),
 (73,⟨dD [(3,[3,6,7,8],[3],[2])],dE []⟩),
 (76,⟨dD [(2,[0,1,2,3,8,9],[],[])],dE [(17,[0,1,2,3,8,9,10,11]),(15,[0,1,2,3,8,9,10,11,12]),(10,[0,1,2,3,8,9,10])]⟩),
 (83,⟨dD [],dE [(4,[0,1])]⟩),
 (84,⟨dD [(2,[0,1,2,6,8],[6],[6,7])],dE []⟩),
 (85,⟨dD [(3,[0,1,2,3,9,10],[9],[])],dE [(4,[0,1,2,3,9,10])]⟩),
 (86,⟨dD [(6,[1,5,6,21],[6],[])],dE [(11,[1,5,6,8,21])]⟩),
 (90,⟨dD [(1,[0,6],[],[])],dE []⟩),
 (93,⟨dD [(4,[0,1,2,6,7],[0,1,2,6],[]),(1,[0,1,2,6],[],[])],dE []⟩),
 (94,⟨dD [(8,[0,6,7,10],[],[]),(4,[0,6,7,8,9],[0,6,7,8],[])],dE []⟩),
 (95,⟨dD [(5,[0,1,6,7,8,9],[],[])],dE [(10,[0,1,6,7,8,9,10])]⟩),
 (96,⟨dD [],dE [(12,[9,11]),(11,[0,9,10,11,12])]⟩),
 (97,⟨dD [(2,[0,6,7],[],[])],dE []⟩),
 (98,⟨dD [(20,[0,1,2,7,8,10],[0,1,2,7,8],[]),(14,[0,1,2,7,8,9],[0,1,2,7,8],[]),(5,[0,1,2,7,8],[0,1,2,7,8],[]),(3,[0,1,2,7,8],[],[6])],dE [(4,[0,1,2,7,8]),(18,[0,1,2,7,8])]⟩),
 (100,⟨dD [(5,[0,1,9,10],[0,1,9,10],[]),(3,[0,1,9,10],[0,1,9,10],[]),(3,[0,1,9,10],[9],[])],dE []⟩),
 (101,⟨dD [(15,[0,1,10,11],[0,1,10,11],[]),(13,[0,1,10,11],[0,1,10,11],[]),(13,[0,1,10,11],[0,1,11],[]),(5,[0,1,10,11],[0,1,10,11],[]),(3,[0,1,10,11],[0,1,10,11],[])],dE []⟩),
 (102,⟨dD [],dE [(7,[0,2]),(4,[0,2])]⟩),
 (103,⟨dD [],dE [(10,[0,2]),(7,[0,2]),(4,[0,2])]⟩),
 (106,⟨dD [(1,[0,1,3],[],[])],dE []⟩),
 (108,⟨dD [(2,[0,1,7,8],[],[4])],dE []⟩),
 (109,⟨dD [(1000003,[2],[],[])],dE []⟩),
 (1130003,⟨dD [(1000000,[2],[],[])],dE []⟩),
 (110,⟨dD [(2,[0,1,2,3,4,10,11],[],[])],dE [(17,[0,1,2,3,4,10,11,12,13]),(15,[0,1,2,3,4,10,11,12,13,14]),(10,[0,1,2,3,4,10,11,12])]⟩),
 (111,⟨dD [(1,[0,2,3,8],[],[])],dE [(5,[0,2,3,8,9])]⟩),
 (118,⟨dD [(4,[0,1,2,3,8,9],[0,1,2,3,8],[]),(1,[0,1,2,3,8],[],[])],dE []⟩),
 (119,⟨dD [(8,[0,3,8,9,12],[],[]),(4,[0,3,8,9,10,11],[0,3,8,9,10],[])],dE []⟩),
 (120,⟨dD [(5,[0,1,8,9,10,11],[],[])],dE [(10,[0,1,8,9,10,11,12])]⟩),
 (121,⟨dD [],dE [(12,[11,13]),(11,[0,3,11,12,13,14])]⟩),
 (122,⟨dD [(2,[0,8,9],[],[])],dE []⟩),
 (123,⟨dD [(20,[0,1,2,3,9,10,12],[0,1,2,3,9,10],[]),(14,[0,1,2,3,9,10,11],[0,1,2,3,9,10],[]),(5,[0,1,2,3,9,10],[0,1,2,3,9,10],[]),(3,[0,1,2,3,9,10],[],[8])],dE [(4,[0,1,2,3,9,10]),(18,[0,1,2,3,9,10])]⟩),
 (124,⟨dD [(5,[0,1,4,11,12],[0,1,4,11,12],[]),(3,[0,1,4,11,12],[0,1,4,11,12],[]),(3,[0,1,4,11,12],[11],[])],dE []⟩),
 (125,⟨dD [(15,[0,1,4,12,13],[0,1,4,12,13],[]),(13,[0,1,4,12,13],[0,1,4,12,13],[]),(13,[0,1,4,12,13],[0,1,13],[]),(5,[0,1,4,12,13],[0,1,4,12,13],[]),(3,[0,1,4,12,13],[0,1,4,12,13],[])],dE []⟩),
 (127,⟨dD [(1,[0,2,3,4,10],[],[])],dE [(5,[0,2,3,4,10,11])]⟩)]
noncomputable def yB (x:VE) (a0:V) (S:Hp) (K:KV):Prop:=
 aQ PP a0 fun v0=>
 aD 1 v0 fun v1=>
 aE v1 S fun v2 S=>
 aQ PP a0 fun v3=>
 aD 14 v3 fun v4=>
 aE v4 S fun v5 S=>
 gP [(.int .i64 (.ofNat 0)),(.slice none 0 0)] [(0,1,v2),(1,1,v5)] fun v6=>
 aE v4 S fun v7 _=>
 aY v7 v5 (aE v1 S fun v8 _=>
 aY v8 v2 ((nW 74 v6 S fun v9 S=>
 True)/\(nW 74 v6 S fun v10 S=>
 aS v10 S K)))
theorem JA (x:VE) (a0:V) (S:Hp) (K:KV):nP PP bM fN x [a0] S K=yB x a0 S K:=by kernel_rfl
noncomputable def AN (x:VE) (a0 a1:V) (S:Hp) (K:KV):Prop:=
 aQ PP a0 fun v0=>
 aD 5 v0 fun v1=>
 jK 1 v1 a1 S fun S=>
 aQ PP a0 fun v2=>
 aD 6 v2 fun v3=>
 jK 1 v3 (.int .i64 (.ofNat 0)) S fun S=>
 aS (.tuple []) S K
theorem LG (x:VE) (a0 a1:V) (S:Hp) (K:KV):nP PP bM bK x [a0,a1] S K=AN x a0 a1 S K:=by kernel_rfl
noncomputable def BP (x:VE) (a0 a1 a2 a3:V) (S:Hp) (K:KV):Prop:=
 aQ PP a0 fun v0=>
 aD 3 v0 fun v1=>
 aE v1 S fun v2 S=>
 aQ PP a0 fun v3=>
 aD 4 v3 fun v4=>
 aE v4 S fun v5 S=>
 gP [(.int .i64 (.ofNat 0)),(.int .i64 (.ofNat 0)),(.int .u8 (.ofNat 0)),(.int .i64 (.ofNat 0)),(.string ⟨⟨[]⟩⟩)] [(0,1,v2),(1,1,v5),(2,1,a1),(3,1,a2),(4,1,a3)] fun v6=>
 x.call kU [a0,v6] S fun v7 S=>
 aE v4 S fun v8 _=>
 aY v8 v5 (aE v1 S fun v9 _=>
 aY v9 v2 (aQ PP a0 fun v10=>
 aD 0 v10 fun v11=>
 aE v11 S fun v12 S=>
 aQ PP a0 fun v13=>
 aD 4 v13 fun v14=>
 aE v14 S fun v15 S=>
 gP [(.int .u8 (.ofNat 0)),(.int .i64 (.ofNat 0)),(.int .i64 (.ofNat 0)),(.int .i64 (.ofNat 0)),(.int .i64 (.ofNat 0)),(.int .i64 (.ofNat 0)),(.int .i64 (.ofNat 0)),(.int .i64 (.ofNat 0)),(.int .i64 (.ofNat 0)),(.string ⟨⟨[]⟩⟩),(.slice none 0 0)] [(0,1,a1),(3,1,v12),(4,1,v15),(5,1,a2),(9,1,a3)] fun v16=>
 aE v14 S fun v17 _=>
 aY v17 v15 (aE v11 S fun v18 _=>
 aY v18 v12 ((dP 45 1 [(.int .u8 (.ofNat 0)),(.int .i64 (.ofNat 0)),(.int .i64 (.ofNat 0)),(.int .i64 (.ofNat 0)),(.int .i64 (.ofNat 0)),(.int .i64 (.ofNat 0)),(.int .i64 (.ofNat 0)),(.int .i64 (.ofNat 0)),(.int .i64 (.ofNat 0)),(.string ⟨⟨[]⟩⟩),(.slice none 0 0)] [(0,11,v16)] S fun v19 S=>
 True)/\(dP 45 1 [(.int .u8 (.ofNat 0)),(.int .i64 (.ofNat 0)),(.int .i64 (.ofNat 0)),(.int .i64 (.ofNat 0)),(.int .i64 (.ofNat 0)),(.int .i64 (.ofNat 0)),(.int .i64 (.ofNat 0)),(.int .i64 (.ofNat 0)),(.int .i64 (.ofNat 0)),(.string ⟨⟨[]⟩⟩),(.slice none 0 0)] [(0,11,v16)] S fun v20 S=>
 aS v20 S K)))))
theorem NU (x:VE) (a0 a1 a2 a3:V) (S:Hp) (K:KV):nP PP bM aZ x [a0,a1,a2,a3] S K=BP x a0 a1 a2 a3 S K:=by kernel_rfl
noncomputable def kX (x:VE) (m:Nat) (t0 t1 t2 t7 t8:V) (S:Hp) (K:KV):Prop:=kH PP bM eJ x [.r,.r,.l,.r,.d] m [] [t0,t1,t2,t7,t8] S K
noncomputable def jD (x:VE) (m0:Nat) (t0 t1 t2 t7 t8:V) (S:Hp) (K:KV):Prop:=xO PP bM eJ x [.r,.r,.l,.r,.d,.d,.r,.r] [m0] [t0,t1,t2,t7,t8] S K
noncomputable def BQ (x:VE) (a0 a1 a2:V) (S:Hp) (K:KV):Prop:=
 kX x x.most a0 a1 a2 (.int .i64 (.ofNat 0)) (.int .i64 (.ofNat 0)) S K
theorem NV (x:VE) (a0 a1 a2:V) (S:Hp) (K:KV):nP PP bM eJ x [a0,a1,a2] S K=BQ x a0 a1 a2 S K:=by kernel_rfl
noncomputable def nY (x:VE) (m0:Nat) (t0 t1 t2 t7 t8:V) (S:Hp) (K:KV):Prop:=
 dX S fun S=>
 aQ PP t0 fun v0=>
 aD 1 v0 fun v1=>
 aE v1 S fun v2 S=>
 cY v2 fun v3=>
 aF PP .lss 3 t8 v3 fun v4=>
 fC v4 (aQ PP t0 fun v5=>
 aD 1 v5 fun v6=>
 aE v6 S fun v7 S=>
 fQ 5 v7 t8 fun v8=>
 aD 1 v8 fun v9=>
 aE v9 S fun v10 S=>
 aF PP .eql 3 v10 t1 fun v11=>
 aC x.most (aB true v11 (fun k=>k t0 S) S fun v12 S=>
 aC x.most (aB true v11 (fun k=>aQ PP v12 fun v13=>
 k v13 S) S fun v14 S=>
 aC x.most (aB true v11 (fun k=>aD 1 v14 fun v15=>
 k v15 S) S fun v16 S=>
 aC x.most (aB true v11 (fun k=>aE v16 S fun v17 S=>
 k v17 S) S fun v18 S=>
 aC x.most (aB true v11 (fun k=>k t8 S) S fun v19 S=>
 aC x.most (aB true v11 (fun k=>fQ 5 v18 v19 fun v20=>
 k v20 S) S fun v21 S=>
 aC x.most (aB true v11 (fun k=>aD 2 v21 fun v22=>
 k v22 S) S fun v23 S=>
 aC x.most (aB true v11 (fun k=>aE v23 S fun v24 S=>
 k v24 S) S fun v25 S=>
 aC x.most (aB true v11 (fun k=>k t2 S) S fun v26 S=>
 aC x.most (aB true v11 (fun k=>aF PP .eql 5 v25 v26 fun v27=>
 k v27 S) S fun v28 S=>
 aC x.most (aL v11 v28 (.bool false) fun v29=>
 fC v29 (aF PP .add 3 t7 (.int .i64 (.ofNat 1)) fun v30=>
 jD x m0 t0 t1 t2 v30 t8 S K) (jD x m0 t0 t1 t2 t7 t8 S K))))))))))))) (aS t7 S K)
theorem sD (x:VE) (m0:Nat) (t0 t1 t2 t7 t8:V) (S:Hp) (K:KV):kX x (m0+1) t0 t1 t2 t7 t8 S K=nY x m0 t0 t1 t2 t7 t8 S K:=by kernel_rfl
noncomputable def lO (x:VE) (m0:Nat) (t0 t1 t2 t7 t8:V) (S:Hp) (K:KV):Prop:=
 dX S fun S=>
 aF PP .add 3 t8 (.int .i64 (.ofNat 1)) fun v0=>
 kX x m0 t0 t1 t2 t7 v0 S K
theorem xJ (x:VE) (m0:Nat) (t0 t1 t2 t7 t8:V) (S:Hp) (K:KV):xP PP bM eJ x [.r,.r,.l,.r,.d,.d,.r,.r] [m0] [t0,t1,t2,t7,t8] S K=lO x m0 t0 t1 t2 t7 t8 S K:=by kernel_rfl
theorem yW (x:VE) (hm:x.most≠0) (m0:Nat) (t0 t1 t2 t7 t8:V) (S:Hp) (K:KV):jD x m0 t0 t1 t2 t7 t8 S K=lO x m0 t0 t1 t2 t7 t8 S K:=(nI (hm:=hm) ..).trans (xJ x m0 t0 t1 t2 t7 t8 S K)
noncomputable def yC (x:VE) (a0 a1:V) (S:Hp) (K:KV):Prop:=
 aQ PP a0 fun v0=>
 aD 4 v0 fun v1=>
 jK 1 v1 a1 S fun S=>
 x.call bK [a0,(.int .i64 (.ofNat 1))] S fun v2 S=>
 aQ PP a0 fun v3=>
 aD 11 v3 fun v4=>
 jK 1 v4 (.bool false) S fun S=>
 aQ PP a0 fun v5=>
 aD 12 v5 fun v6=>
 jK 1 v6 (.bool false) S fun S=>
 aS (.tuple []) S K
theorem JB (x:VE) (a0 a1:V) (S:Hp) (K:KV):nP PP bM gR x [a0,a1] S K=yC x a0 a1 S K:=by kernel_rfl
noncomputable def nN (x:VE) (m:Nat) (t0 t1 t5:V) (S:Hp) (K:KV):Prop:=kH PP bM jI x [.r,.l,.r,.d] m [] [t0,t1,t5] S K
noncomputable def FF (x:VE) (a0 a1:V) (S:Hp) (K:KV):Prop:=
 nN x x.most a0 a1 (.int .i64 (.ofNat 0)) S K
theorem RV (x:VE) (a0 a1:V) (S:Hp) (K:KV):nP PP bM jI x [a0,a1] S K=FF x a0 a1 S K:=by kernel_rfl
noncomputable def qA (x:VE) (m0:Nat) (t0 t1 t5:V) (S:Hp) (K:KV):Prop:=
 dX S fun S=>
 cY t0 fun v0=>
 aF PP .lss 3 t5 v0 fun v1=>
 fC v1 (fQ 1 t0 t5 fun v2=>
 aE v2 S fun v3 S=>
 aF PP .eql 9 v3 t1 fun v4=>
 fC v4 (aS (.bool true) S K) (aF PP .add 3 t5 (.int .i64 (.ofNat 1)) fun v5=>
 nN x m0 t0 t1 v5 S K)) (aS (.bool false) S K)
theorem uX (x:VE) (m0:Nat) (t0 t1 t5:V) (S:Hp) (K:KV):nN x (m0+1) t0 t1 t5 S K=qA x m0 t0 t1 t5 S K:=by kernel_rfl
noncomputable def QZ (x:VE) (a0 a1:V) (S:Hp) (K:KV):Prop:=
 nW 49 a0 S fun v0 S=>
 aD 0 v0 fun v1=>
 aE v1 S fun v2 S=>
 aF PP .lss 3 v2 (.int .i64 (.ofNat 1)) fun v3=>
 aC x.most (aB false v3 (fun k=>aD 0 v0 fun v4=>
 k v4 S) S fun v5 S=>
 aC x.most (aB false v3 (fun k=>aE v5 S fun v6 S=>
 k v6 S) S fun v7 S=>
 aC x.most (aB false v3 (fun k=>k a1 S) S fun v8 S=>
 aC x.most (aB false v3 (fun k=>aF PP .gtr 3 v7 v8 fun v9=>
 k v9 S) S fun v10 S=>
 aC x.most (aL v3 (.bool true) v10 fun v11=>
 aC x.most (aB false v11 (fun k=>aD 1 v0 fun v12=>
 k v12 S) S fun v13 S=>
 aC x.most (aB false v11 (fun k=>aE v13 S fun v14 S=>
 k v14 S) S fun v15 S=>
 aC x.most (aB false v11 (fun k=>aF PP .lss 3 v15 (.int .i64 (.ofNat 0)) fun v16=>
 k v16 S) S fun v17 S=>
 aC x.most (aL v11 (.bool true) v17 fun v18=>
 aC x.most (aB false v18 (fun k=>aD 1 v0 fun v19=>
 k v19 S) S fun v20 S=>
 aC x.most (aB false v18 (fun k=>aE v20 S fun v21 S=>
 k v21 S) S fun v22 S=>
 aC x.most (aB false v18 (fun k=>aF PP .gtr 3 v22 (.int .i64 (.ofNat 99)) fun v23=>
 k v23 S) S fun v24 S=>
 aC x.most (aL v18 (.bool true) v24 fun v25=>
 aC x.most (aB false v25 (fun k=>aD 4 v0 fun v26=>
 k v26 S) S fun v27 S=>
 aC x.most (aB false v25 (fun k=>aE v27 S fun v28 S=>
 k v28 S) S fun v29 S=>
 aC x.most (aB false v25 (fun k=>xN v29 fun v30=>
 k v30 S) S fun v31 S=>
 aC x.most (aB false v25 (fun k=>aF PP .gtr 3 v31 (.int .i64 (.ofNat 2048)) fun v32=>
 k v32 S) S fun v33 S=>
 aC x.most (aL v25 (.bool true) v33 fun v34=>
 fC v34 (aS (.bool false) S K) (aD 2 v0 fun v35=>
 aE v35 S fun v36 S=>
 aF PP .eql 5 v36 (.int .u8 (.ofNat 2)) fun v37=>
 fC v37 (aD 4 v0 fun v38=>
 aE v38 S fun v39 S=>
 aF PP .neq 9 v39 (.str []) fun v40=>
 aC x.most (aB true v40 (fun k=>aD 3 v0 fun v41=>
 k v41 S) S fun v42 S=>
 aC x.most (aB true v40 (fun k=>aE v42 S fun v43 S=>
 k v43 S) S fun v44 S=>
 aC x.most (aB true v40 (fun k=>aF PP .geq 3 v44 (.int .i64 (.negSucc 0)) fun v45=>
 k v45 S) S fun v46 S=>
 aC x.most (aL v40 v46 (.bool false) fun v47=>
 aC x.most (aB true v47 (fun k=>aD 3 v0 fun v48=>
 k v48 S) S fun v49 S=>
 aC x.most (aB true v47 (fun k=>aE v49 S fun v50 S=>
 k v50 S) S fun v51 S=>
 aC x.most (aB true v47 (fun k=>aD 1 v0 fun v52=>
 k v52 S) S fun v53 S=>
 aC x.most (aB true v47 (fun k=>aE v53 S fun v54 S=>
 k v54 S) S fun v55 S=>
 aC x.most (aB true v47 (fun k=>aF PP .lss 3 v51 v55 fun v56=>
 k v56 S) S fun v57 S=>
 aC x.most (aL v47 v57 (.bool false) fun v58=>
 aS v58 S K))))))))))) (aD 2 v0 fun v59=>
 aE v59 S fun v60 S=>
 aF PP .eql 5 v60 (.int .u8 (.ofNat 3)) fun v61=>
 aC x.most (aB false v61 (fun k=>aD 2 v0 fun v62=>
 k v62 S) S fun v63 S=>
 aC x.most (aB false v61 (fun k=>aE v63 S fun v64 S=>
 k v64 S) S fun v65 S=>
 aC x.most (aB false v61 (fun k=>aF PP .eql 5 v65 (.int .u8 (.ofNat 4)) fun v66=>
 k v66 S) S fun v67 S=>
 aC x.most (aL v61 (.bool true) v67 fun v68=>
 aC x.most (aB true v68 (fun k=>aD 3 v0 fun v69=>
 k v69 S) S fun v70 S=>
 aC x.most (aB true v68 (fun k=>aE v70 S fun v71 S=>
 k v71 S) S fun v72 S=>
 aC x.most (aB true v68 (fun k=>aF PP .eql 3 v72 (.int .i64 (.ofNat 0)) fun v73=>
 k v73 S) S fun v74 S=>
 aC x.most (aL v68 v74 (.bool false) fun v75=>
 aS v75 S K))))))))))))))))))))))))))))
theorem Hd (x:VE) (a0 a1:V) (S:Hp) (K:KV):nP PP bM BJ x [a0,a1] S K=QZ x a0 a1 S K:=by kernel_rfl
noncomputable def JZ (x:VE) (a0 a1:V) (S:Hp) (K:KV):Prop:=
 nW 49 a0 S fun v0 S=>
 nW 49 a1 S fun v1 S=>
 aD 1 v0 fun v2=>
 aE v2 S fun v3 S=>
 aD 1 v1 fun v4=>
 aE v4 S fun v5 S=>
 aF PP .neq 3 v3 v5 fun v6=>
 fC v6 (aD 1 v0 fun v7=>
 aE v7 S fun v8 S=>
 aD 1 v1 fun v9=>
 aE v9 S fun v10 S=>
 aF PP .lss 3 v8 v10 fun v11=>
 aS v11 S K) (aD 0 v0 fun v12=>
 aE v12 S fun v13 S=>
 aD 0 v1 fun v14=>
 aE v14 S fun v15 S=>
 aF PP .neq 3 v13 v15 fun v16=>
 fC v16 (aD 0 v0 fun v17=>
 aE v17 S fun v18 S=>
 aD 0 v1 fun v19=>
 aE v19 S fun v20 S=>
 aF PP .lss 3 v18 v20 fun v21=>
 aS v21 S K) (aD 2 v0 fun v22=>
 aE v22 S fun v23 S=>
 aD 2 v1 fun v24=>
 aE v24 S fun v25 S=>
 aF PP .lss 5 v23 v25 fun v26=>
 aS v26 S K))
theorem XL (x:VE) (a0 a1:V) (S:Hp) (K:KV):nP PP bM rZ x [a0,a1] S K=JZ x a0 a1 S K:=by kernel_rfl
noncomputable def uI (x:VE) (a0 a1:V) (S:Hp) (K:KV):Prop:=
 fE [(.int .i64 (.ofNat 0)),(.int .i64 (.ofNat 0)),(.int .u8 (.ofNat 0)),(.int .i64 (.ofNat 0)),(.string ⟨⟨[]⟩⟩)] 49 S fun v0 S=>
 x.call fN [a0] S fun v1 S=>
 x.call eT [a0,a1] S fun v2 S=>
 x.call jA [v1,a1,v2] S fun v3 S=>
 lU 0 v3 fun v4=>
 lU 1 v3 fun v5=>
 jK 5 v0 v4 S fun S=>
 dK 5 v0 S fun v6 _=>
 aS (.tuple [v6,v5]) S K
theorem EY (x:VE) (a0 a1:V) (S:Hp) (K:KV):nP PP bM gN x [a0,a1] S K=uI x a0 a1 S K:=by kernel_rfl
noncomputable def wX (x:VE) (a0 a1 a2 a3:V) (S:Hp) (K:KV):Prop:=
 aQ PP a0 fun v0=>
 aD 1 v0 fun v1=>
 aE v1 S fun v2 S=>
 aQ PP a0 fun v3=>
 aD 2 v3 fun v4=>
 aE v4 S fun v5 S=>
 aF PP .sub 3 v2 v5 fun v6=>
 x.call fN [a0] S fun v7 S=>
 aE v4 S fun v8 _=>
 aY v8 v5 (aE v1 S fun v9 _=>
 aY v9 v2 (x.call gS [v7,a1,a2,a3] S fun v10 S=>
 aE v4 S fun v11 _=>
 aY v11 v5 (aE v1 S fun v12 _=>
 aY v12 v2 (aF PP .geq 3 v10 v6 fun v13=>
 aS v13 S K))))
theorem HH (x:VE) (a0 a1 a2 a3:V) (S:Hp) (K:KV):nP PP bM cT x [a0,a1,a2,a3] S K=wX x a0 a1 a2 a3 S K:=by kernel_rfl
noncomputable def kG (x:VE) (m:Nat) (t0 t1 t5 t6:V) (S:Hp) (K:KV):Prop:=kH PP bM gI x [.r,.r,.l,.r,.d] m [] [t0,t1,t5,t6] S K
noncomputable def iS (x:VE) (m0:Nat) (t0 t1 t5 t6:V) (S:Hp) (K:KV):Prop:=xO PP bM gI x [.r,.r,.l,.r,.d,.d,.r,.r] [m0] [t0,t1,t5,t6] S K
noncomputable def AO (x:VE) (a0 a1:V) (S:Hp) (K:KV):Prop:=
 kG x x.most a0 a1 (.int .i64 (.ofNat 0)) (.int .i64 (.ofNat 0)) S K
theorem LH (x:VE) (a0 a1:V) (S:Hp) (K:KV):nP PP bM gI x [a0,a1] S K=AO x a0 a1 S K:=by kernel_rfl
noncomputable def nA (x:VE) (m0:Nat) (t0 t1 t5 t6:V) (S:Hp) (K:KV):Prop:=
 dX S fun S=>
 aQ PP t0 fun v0=>
 aD 1 v0 fun v1=>
 aE v1 S fun v2 S=>
 cY v2 fun v3=>
 aF PP .lss 3 t6 v3 fun v4=>
 fC v4 (aQ PP t0 fun v5=>
 aD 1 v5 fun v6=>
 aE v6 S fun v7 S=>
 fQ 5 v7 t6 fun v8=>
 aD 1 v8 fun v9=>
 aE v9 S fun v10 S=>
 aF PP .eql 3 v10 t1 fun v11=>
 aC x.most (aB true v11 (fun k=>k t6 S) S fun v12 S=>
 aC x.most (aB true v11 (fun k=>aF PP .eql 3 v12 (.int .i64 (.ofNat 0)) fun v13=>
 k v13 S) S fun v14 S=>
 aC x.most (aB true v11 (fun k=>k v14 S) S fun v15 S=>
 aC x.most (aB false v15 (fun k=>k t0 S) S fun v16 S=>
 aC x.most (aB false v15 (fun k=>aQ PP v16 fun v17=>
 k v17 S) S fun v18 S=>
 aC x.most (aB false v15 (fun k=>aD 1 v18 fun v19=>
 k v19 S) S fun v20 S=>
 aC x.most (aB false v15 (fun k=>aE v20 S fun v21 S=>
 k v21 S) S fun v22 S=>
 aC x.most (aB false v15 (fun k=>k t6 S) S fun v23 S=>
 aC x.most (aB false v15 (fun k=>aF PP .sub 3 v23 (.int .i64 (.ofNat 1)) fun v24=>
 k v24 S) S fun v25 S=>
 aC x.most (aB false v15 (fun k=>fQ 5 v22 v25 fun v26=>
 k v26 S) S fun v27 S=>
 aC x.most (aB false v15 (fun k=>aD 1 v27 fun v28=>
 k v28 S) S fun v29 S=>
 aC x.most (aB false v15 (fun k=>aE v29 S fun v30 S=>
 k v30 S) S fun v31 S=>
 aC x.most (aB false v15 (fun k=>k t1 S) S fun v32 S=>
 aC x.most (aB false v15 (fun k=>aF PP .neq 3 v31 v32 fun v33=>
 k v33 S) S fun v34 S=>
 aC x.most (aB true v11 (fun k=>aC x.most (aL v15 (.bool true) v34 fun v35=>
 k v35 S)) S fun v36 S=>
 aC x.most (aB true v11 (fun k=>k v36 S) S fun v37 S=>
 aC x.most (aB false v37 (fun k=>k t0 S) S fun v38 S=>
 aC x.most (aB false v37 (fun k=>aQ PP v38 fun v39=>
 k v39 S) S fun v40 S=>
 aC x.most (aB false v37 (fun k=>aD 1 v40 fun v41=>
 k v41 S) S fun v42 S=>
 aC x.most (aB false v37 (fun k=>aE v42 S fun v43 S=>
 k v43 S) S fun v44 S=>
 aC x.most (aB false v37 (fun k=>k t6 S) S fun v45 S=>
 aC x.most (aB false v37 (fun k=>aF PP .sub 3 v45 (.int .i64 (.ofNat 1)) fun v46=>
 k v46 S) S fun v47 S=>
 aC x.most (aB false v37 (fun k=>fQ 5 v44 v47 fun v48=>
 k v48 S) S fun v49 S=>
 aC x.most (aB false v37 (fun k=>aD 0 v49 fun v50=>
 k v50 S) S fun v51 S=>
 aC x.most (aB false v37 (fun k=>aE v51 S fun v52 S=>
 k v52 S) S fun v53 S=>
 aC x.most (aB false v37 (fun k=>k t0 S) S fun v54 S=>
 aC x.most (aB false v37 (fun k=>aQ PP v54 fun v55=>
 k v55 S) S fun v56 S=>
 aC x.most (aB false v37 (fun k=>aD 1 v56 fun v57=>
 k v57 S) S fun v58 S=>
 aC x.most (aB false v37 (fun k=>aE v58 S fun v59 S=>
 k v59 S) S fun v60 S=>
 aC x.most (aB false v37 (fun k=>k t6 S) S fun v61 S=>
 aC x.most (aB false v37 (fun k=>fQ 5 v60 v61 fun v62=>
 k v62 S) S fun v63 S=>
 aC x.most (aB false v37 (fun k=>aD 0 v63 fun v64=>
 k v64 S) S fun v65 S=>
 aC x.most (aB false v37 (fun k=>aE v65 S fun v66 S=>
 k v66 S) S fun v67 S=>
 aC x.most (aB false v37 (fun k=>aF PP .neq 3 v53 v67 fun v68=>
 k v68 S) S fun v69 S=>
 aC x.most (aB true v11 (fun k=>aC x.most (aL v37 (.bool true) v69 fun v70=>
 k v70 S)) S fun v71 S=>
 aC x.most (aL v11 v71 (.bool false) fun v72=>
 fC v72 (aF PP .add 3 t5 (.int .i64 (.ofNat 1)) fun v73=>
 iS x m0 t0 t1 v73 t6 S K) (iS x m0 t0 t1 t5 t6 S K)))))))))))))))))))))))))))))))))))))) (aS t5 S K)
theorem rF (x:VE) (m0:Nat) (t0 t1 t5 t6:V) (S:Hp) (K:KV):kG x (m0+1) t0 t1 t5 t6 S K=nA x m0 t0 t1 t5 t6 S K:=by kernel_rfl
noncomputable def lC (x:VE) (m0:Nat) (t0 t1 t5 t6:V) (S:Hp) (K:KV):Prop:=
 dX S fun S=>
 aF PP .add 3 t6 (.int .i64 (.ofNat 1)) fun v0=>
 kG x m0 t0 t1 t5 v0 S K
theorem wY (x:VE) (m0:Nat) (t0 t1 t5 t6:V) (S:Hp) (K:KV):xP PP bM gI x [.r,.r,.l,.r,.d,.d,.r,.r] [m0] [t0,t1,t5,t6] S K=lC x m0 t0 t1 t5 t6 S K:=by kernel_rfl
theorem xK (x:VE) (hm:x.most≠0) (m0:Nat) (t0 t1 t5 t6:V) (S:Hp) (K:KV):iS x m0 t0 t1 t5 t6 S K=lC x m0 t0 t1 t5 t6 S K:=(nI (hm:=hm) ..).trans (wY x m0 t0 t1 t5 t6 S K)
noncomputable def fV (x:VE) (m:Nat) (t0 t1 t2 t6 t8:V) (S:Hp) (K:KV):Prop:=kH PP bM jA x [.r,.l,.r,.d] m [] [t0,t1,t2,t6,t8] S K
noncomputable def uJ (x:VE) (a0 a1 a2:V) (S:Hp) (K:KV):Prop:=
 fE [(.int .i64 (.ofNat 0)),(.int .i64 (.ofNat 0)),(.int .u8 (.ofNat 0)),(.int .i64 (.ofNat 0)),(.string ⟨⟨[]⟩⟩)] 49 S fun v0 S=>
 fV x x.most a0 a1 a2 v0 (.int .i64 (.ofNat 0)) S K
theorem EZ (x:VE) (a0 a1 a2:V) (S:Hp) (K:KV):nP PP bM jA x [a0,a1,a2] S K=uJ x a0 a1 a2 S K:=by kernel_rfl
noncomputable def lD (x:VE) (m0:Nat) (t0 t1 t2 t6 t8:V) (S:Hp) (K:KV):Prop:=
 dX S fun S=>
 aQ PP t0 fun v0=>
 aD 1 v0 fun v1=>
 aE v1 S fun v2 S=>
 cY v2 fun v3=>
 aF PP .lss 3 t8 v3 fun v4=>
 fC v4 (aQ PP t0 fun v5=>
 aD 1 v5 fun v6=>
 aE v6 S fun v7 S=>
 fQ 5 v7 t8 fun v8=>
 aD 1 v8 fun v9=>
 aE v9 S fun v10 S=>
 aF PP .eql 3 v10 t1 fun v11=>
 aC x.most (aB true v11 (fun k=>k t0 S) S fun v12 S=>
 aC x.most (aB true v11 (fun k=>aQ PP v12 fun v13=>
 k v13 S) S fun v14 S=>
 aC x.most (aB true v11 (fun k=>aD 1 v14 fun v15=>
 k v15 S) S fun v16 S=>
 aC x.most (aB true v11 (fun k=>aE v16 S fun v17 S=>
 k v17 S) S fun v18 S=>
 aC x.most (aB true v11 (fun k=>k t8 S) S fun v19 S=>
 aC x.most (aB true v11 (fun k=>fQ 5 v18 v19 fun v20=>
 k v20 S) S fun v21 S=>
 aC x.most (aB true v11 (fun k=>aD 0 v21 fun v22=>
 k v22 S) S fun v23 S=>
 aC x.most (aB true v11 (fun k=>aE v23 S fun v24 S=>
 k v24 S) S fun v25 S=>
 aC x.most (aB true v11 (fun k=>k t2 S) S fun v26 S=>
 aC x.most (aB true v11 (fun k=>aF PP .eql 3 v25 v26 fun v27=>
 k v27 S) S fun v28 S=>
 aC x.most (aL v11 v28 (.bool false) fun v29=>
 aC x.most (aB true v29 (fun k=>k t0 S) S fun v30 S=>
 aC x.most (aB true v29 (fun k=>aQ PP v30 fun v31=>
 k v31 S) S fun v32 S=>
 aC x.most (aB true v29 (fun k=>aD 1 v32 fun v33=>
 k v33 S) S fun v34 S=>
 aC x.most (aB true v29 (fun k=>aE v34 S fun v35 S=>
 k v35 S) S fun v36 S=>
 aC x.most (aB true v29 (fun k=>k t8 S) S fun v37 S=>
 aC x.most (aB true v29 (fun k=>fQ 5 v36 v37 fun v38=>
 k v38 S) S fun v39 S=>
 aC x.most (aB true v29 (fun k=>aD 2 v39 fun v40=>
 k v40 S) S fun v41 S=>
 aC x.most (aB true v29 (fun k=>aE v41 S fun v42 S=>
 k v42 S) S fun v43 S=>
 aC x.most (aB true v29 (fun k=>aF PP .eql 5 v43 (.int .u8 (.ofNat 2)) fun v44=>
 k v44 S) S fun v45 S=>
 aC x.most (aL v29 v45 (.bool false) fun v46=>
 fC v46 (aQ PP t0 fun v47=>
 aD 1 v47 fun v48=>
 aE v48 S fun v49 S=>
 fQ 5 v49 t8 fun v50=>
 dK 5 v50 S fun v51 S=>
 jK 5 t6 v51 S fun S=>
 dK 5 t6 S fun v52 _=>
 aS (.tuple [v52,(.bool true)]) S K) (aF PP .add 3 t8 (.int .i64 (.ofNat 1)) fun v53=>
 fV x m0 t0 t1 t2 t6 v53 S K))))))))))))))))))))))) (gP [(.int .i64 (.ofNat 0)),(.int .i64 (.ofNat 0)),(.int .u8 (.ofNat 0)),(.int .i64 (.ofNat 0)),(.string ⟨⟨[]⟩⟩)] [] fun v54=>
 jK 5 t6 v54 S fun S=>
 dK 5 t6 S fun v55 _=>
 aS (.tuple [v55,(.bool false)]) S K)
theorem pP (x:VE) (m0:Nat) (t0 t1 t2 t6 t8:V) (S:Hp) (K:KV):fV x (m0+1) t0 t1 t2 t6 t8 S K=lD x m0 t0 t1 t2 t6 t8 S K:=by kernel_rfl
noncomputable def jN (x:VE) (m:Nat) (t0 t1 t2 t3 t9 t10:V) (S:Hp) (K:KV):Prop:=kH PP bM gS x [.r,.r,.l,.r,.d] m [] [t0,t1,t2,t3,t9,t10] S K
noncomputable def iF (x:VE) (m0:Nat) (t0 t1 t2 t3 t9 t10:V) (S:Hp) (K:KV):Prop:=xO PP bM gS x [.r,.r,.l,.r,.d,.d,.r,.r] [m0] [t0,t1,t2,t3,t9,t10] S K
noncomputable def yD (x:VE) (a0 a1 a2 a3:V) (S:Hp) (K:KV):Prop:=
 jN x x.most a0 a1 a2 a3 (.int .i64 (.ofNat 0)) (.int .i64 (.ofNat 0)) S K
theorem JC (x:VE) (a0 a1 a2 a3:V) (S:Hp) (K:KV):nP PP bM gS x [a0,a1,a2,a3] S K=yD x a0 a1 a2 a3 S K:=by kernel_rfl
noncomputable def mL (x:VE) (m0:Nat) (t0 t1 t2 t3 t9 t10:V) (S:Hp) (K:KV):Prop:=
 dX S fun S=>
 aQ PP t0 fun v0=>
 aD 1 v0 fun v1=>
 aE v1 S fun v2 S=>
 cY v2 fun v3=>
 aF PP .lss 3 t10 v3 fun v4=>
 fC v4 (aQ PP t0 fun v5=>
 aD 1 v5 fun v6=>
 aE v6 S fun v7 S=>
 fQ 5 v7 t10 fun v8=>
 aD 1 v8 fun v9=>
 aE v9 S fun v10 S=>
 aF PP .eql 3 v10 t1 fun v11=>
 aC x.most (aB true v11 (fun k=>k t0 S) S fun v12 S=>
 aC x.most (aB true v11 (fun k=>aQ PP v12 fun v13=>
 k v13 S) S fun v14 S=>
 aC x.most (aB true v11 (fun k=>aD 1 v14 fun v15=>
 k v15 S) S fun v16 S=>
 aC x.most (aB true v11 (fun k=>aE v16 S fun v17 S=>
 k v17 S) S fun v18 S=>
 aC x.most (aB true v11 (fun k=>k t10 S) S fun v19 S=>
 aC x.most (aB true v11 (fun k=>fQ 5 v18 v19 fun v20=>
 k v20 S) S fun v21 S=>
 aC x.most (aB true v11 (fun k=>aD 2 v21 fun v22=>
 k v22 S) S fun v23 S=>
 aC x.most (aB true v11 (fun k=>aE v23 S fun v24 S=>
 k v24 S) S fun v25 S=>
 aC x.most (aB true v11 (fun k=>k t2 S) S fun v26 S=>
 aC x.most (aB true v11 (fun k=>aF PP .eql 5 v25 v26 fun v27=>
 k v27 S) S fun v28 S=>
 aC x.most (aL v11 v28 (.bool false) fun v29=>
 aC x.most (aB true v29 (fun k=>k t0 S) S fun v30 S=>
 aC x.most (aB true v29 (fun k=>aQ PP v30 fun v31=>
 k v31 S) S fun v32 S=>
 aC x.most (aB true v29 (fun k=>aD 1 v32 fun v33=>
 k v33 S) S fun v34 S=>
 aC x.most (aB true v29 (fun k=>aE v34 S fun v35 S=>
 k v35 S) S fun v36 S=>
 aC x.most (aB true v29 (fun k=>k t10 S) S fun v37 S=>
 aC x.most (aB true v29 (fun k=>fQ 5 v36 v37 fun v38=>
 k v38 S) S fun v39 S=>
 aC x.most (aB true v29 (fun k=>aD 4 v39 fun v40=>
 k v40 S) S fun v41 S=>
 aC x.most (aB true v29 (fun k=>aE v41 S fun v42 S=>
 k v42 S) S fun v43 S=>
 aC x.most (aB true v29 (fun k=>k t3 S) S fun v44 S=>
 aC x.most (aB true v29 (fun k=>aF PP .eql 9 v43 v44 fun v45=>
 k v45 S) S fun v46 S=>
 aC x.most (aL v29 v46 (.bool false) fun v47=>
 fC v47 (aF PP .add 3 t9 (.int .i64 (.ofNat 1)) fun v48=>
 iF x m0 t0 t1 t2 t3 v48 t10 S K) (iF x m0 t0 t1 t2 t3 t9 t10 S K)))))))))))))))))))))))) (aS t9 S K)
theorem qS (x:VE) (m0:Nat) (t0 t1 t2 t3 t9 t10:V) (S:Hp) (K:KV):jN x (m0+1) t0 t1 t2 t3 t9 t10 S K=mL x m0 t0 t1 t2 t3 t9 t10 S K:=by kernel_rfl
noncomputable def kL (x:VE) (m0:Nat) (t0 t1 t2 t3 t9 t10:V) (S:Hp) (K:KV):Prop:=
 dX S fun S=>
 aF PP .add 3 t10 (.int .i64 (.ofNat 1)) fun v0=>
 jN x m0 t0 t1 t2 t3 t9 v0 S K
theorem vN (x:VE) (m0:Nat) (t0 t1 t2 t3 t9 t10:V) (S:Hp) (K:KV):xP PP bM gS x [.r,.r,.l,.r,.d,.d,.r,.r] [m0] [t0,t1,t2,t3,t9,t10] S K=kL x m0 t0 t1 t2 t3 t9 t10 S K:=by kernel_rfl
theorem wZ (x:VE) (hm:x.most≠0) (m0:Nat) (t0 t1 t2 t3 t9 t10:V) (S:Hp) (K:KV):iF x m0 t0 t1 t2 t3 t9 t10 S K=kL x m0 t0 t1 t2 t3 t9 t10 S K:=(nI (hm:=hm) ..).trans (vN x m0 t0 t1 t2 t3 t9 t10 S K)
noncomputable def fH (x:VE) (m:Nat) (t3 t12 t13 t14:V) (S:Hp) (K:KV):Prop:=kH PP bM jR x [.r,.r,.r,.l,.r,.d] m [] [t3,t12,t13,t14] S K
noncomputable def uY (x:VE) (a0:V) (S:Hp) (K:KV):Prop:=
 aF PP .eql 31 a0 .pW fun v0=>
 fC v0 (aS .nil S K) (aQ PP a0 fun v1=>
 aD 15 v1 fun v2=>
 aE v2 S fun v3 S=>
 x.call dJ [v3] S fun v4 S=>
 cY v4 fun v5=>
 fH x x.most .nil v4 v5 (.int .i64 (.ofNat 0)) S K)
theorem FL (x:VE) (a0:V) (S:Hp) (K:KV):nP PP bM jR x [a0] S K=uY x a0 S K:=by kernel_rfl
noncomputable def kM (x:VE) (m0:Nat) (t3 t12 t13 t14:V) (S:Hp) (K:KV):Prop:=
 dX S fun S=>
 aF PP .lss 3 t14 t13 fun v0=>
 fC v0 (fQ 5 t12 t14 fun v1=>
 dK 5 v1 S fun v2 S=>
 fE [(.int .i64 (.ofNat 0)),(.int .i64 (.ofNat 0)),(.int .u8 (.ofNat 0)),(.int .i64 (.ofNat 0)),(.string ⟨⟨[]⟩⟩)] 39 S fun v3 S=>
 jK 5 v3 v2 S fun S=>
 aD 2 v3 fun v4=>
 aE v4 S fun v5 S=>
 aF PP .eql 5 v5 (.int .u8 (.ofNat 2)) fun v6=>
 fC v6 (aD 4 v3 fun v7=>
 aE v7 S fun v8 S=>
 dP 9 1 [(.string ⟨⟨[]⟩⟩)] [(0,1,v8)] S fun v9 S=>
 oP 9 1 16 t3 v9 S fun v10 S=>
 aF PP .add 3 t14 (.int .i64 (.ofNat 1)) fun v11=>
 fH x m0 v10 t12 t13 v11 S K) (aF PP .add 3 t14 (.int .i64 (.ofNat 1)) fun v12=>
 fH x m0 t3 t12 t13 v12 S K)) (x.call bZ [t3] S fun v13 S=>
 x.call bE [t3] S fun v14 S=>
 aS v14 S K)
theorem oT (x:VE) (m0:Nat) (t3 t12 t13 t14:V) (S:Hp) (K:KV):fH x (m0+1) t3 t12 t13 t14 S K=kM x m0 t3 t12 t13 t14 S K:=by kernel_rfl
noncomputable def dA (x:VE) (m:Nat) (t0 t3:V) (S:Hp) (K:KV):Prop:=kH PP bM bE x [.r,.r,.l,.r,.d] m [] [t0,t3] S K
noncomputable def bY (x:VE) (m:Nat) (m0:Nat) (t0 t3 t4 t5:V) (S:Hp) (K:KV):Prop:=kH PP bM bE x [.r,.r,.l,.r,.d,.d,.r,.l,.d,.r,.l,.r,.l,.r,.d] m [m0] [t0,t3,t4,t5] S K
noncomputable def bU (x:VE) (m0:Nat) (m1:Nat) (t0 t3 t4 t5:V) (S:Hp) (K:KV):Prop:=xO PP bM bE x [.r,.r,.l,.r,.d,.d,.r,.l,.d,.r,.l,.r,.l,.r,.d,.d,.r,.r] [m0,m1] [t0,t3,t4,t5] S K
noncomputable def eL (x:VE) (a0:V) (S:Hp) (K:KV):Prop:=
 cY a0 fun v0=>
 aF PP .lss 3 v0 (.int .i64 (.ofNat 2)) fun v1=>
 fC v1 (aS a0 S K) (dA x x.most a0 (.int .i64 (.ofNat 1)) S K)
theorem iC (x:VE) (a0:V) (S:Hp) (K:KV):nP PP bM bE x [a0] S K=eL x a0 S K:=by kernel_rfl
noncomputable def fA (x:VE) (m0:Nat) (t0 t3:V) (S:Hp) (K:KV):Prop:=
 dX S fun S=>
 cY t0 fun v0=>
 aF PP .lss 3 t3 v0 fun v1=>
 fC v1 (fQ 1 t0 t3 fun v2=>
 aE v2 S fun v3 S=>
 aF PP .sub 3 t3 (.int .i64 (.ofNat 1)) fun v4=>
 fQ 1 t0 v4 fun v5=>
 aE v5 S fun v6 S=>
 aF PP .eql 9 v3 v6 fun v7=>
 fC v7 (uO 9 1 t0 (some t3) none none S fun v8=>
 bY x x.most m0 t0 t3 v8 (.int .i64 (.ofNat 1)) S K) (aF PP .add 3 t3 (.int .i64 (.ofNat 1)) fun v9=>
 dA x m0 t0 v9 S K)) (aS t0 S K)
theorem jE (x:VE) (m0:Nat) (t0 t3:V) (S:Hp) (K:KV):dA x (m0+1) t0 t3 S K=fA x m0 t0 t3 S K:=by kernel_rfl
noncomputable def cQ (x:VE) (m1:Nat) (m0:Nat) (t0 t3 t4 t5:V) (S:Hp) (K:KV):Prop:=
 dX S fun S=>
 cY t4 fun v0=>
 aF PP .lss 3 t5 v0 fun v1=>
 fC v1 (fQ 1 t4 t5 fun v2=>
 aE v2 S fun v3 S=>
 aF PP .sub 3 t5 (.int .i64 (.ofNat 1)) fun v4=>
 fQ 1 t4 v4 fun v5=>
 aE v5 S fun v6 S=>
 aF PP .neq 9 v3 v6 fun v7=>
 fC v7 (fQ 1 t4 t5 fun v8=>
 aE v8 S fun v9 S=>
 fQ 1 t0 t3 fun v10=>
 jK 1 v10 v9 S fun S=>
 aF PP .add 3 t3 (.int .i64 (.ofNat 1)) fun v11=>
 bU x m0 m1 t0 v11 t4 t5 S K) (bU x m0 m1 t0 t3 t4 t5 S K)) (uO 9 1 t0 (some t3) none none S fun v12=>
 ED [(.string ⟨⟨[]⟩⟩)] v12 S fun S=>
 uO 9 1 t0 none (some t3) none S fun v13=>
 aS v13 S K)
theorem fW (x:VE) (m1:Nat) (m0:Nat) (t0 t3 t4 t5:V) (S:Hp) (K:KV):bY x (m1+1) m0 t0 t3 t4 t5 S K=cQ x m1 m0 t0 t3 t4 t5 S K:=by kernel_rfl
noncomputable def cL (x:VE) (m0:Nat) (m1:Nat) (t0 t3 t4 t5:V) (S:Hp) (K:KV):Prop:=
 dX S fun S=>
 aF PP .add 3 t5 (.int .i64 (.ofNat 1)) fun v0=>
 bY x m1 m0 t0 t3 t4 v0 S K
theorem kN (x:VE) (m0:Nat) (m1:Nat) (t0 t3 t4 t5:V) (S:Hp) (K:KV):xP PP bM bE x [.r,.r,.l,.r,.d,.d,.r,.l,.d,.r,.l,.r,.l,.r,.d,.d,.r,.r] [m0,m1] [t0,t3,t4,t5] S K=cL x m0 m1 t0 t3 t4 t5 S K:=by kernel_rfl
theorem kQ (x:VE) (hm:x.most≠0) (m0:Nat) (m1:Nat) (t0 t3 t4 t5:V) (S:Hp) (K:KV):bU x m0 m1 t0 t3 t4 t5 S K=cL x m0 m1 t0 t3 t4 t5 S K:=(nI (hm:=hm) ..).trans (kN x m0 m1 t0 t3 t4 t5 S K)
end Go.Am
namespace Go.Proofs.UB
open Go
structure Vt where
 fr:Int
 rd:Int
 kd:Int
 va:Int
 tx:ByteArray
 deriving Inhabited
def nU (v:Vt):Value:= .agg #[.int .i64 v.fr,.int .i64 v.rd,.int .u8 v.kd,.int .i64 v.va,.string v.tx]
def dec:Value->Vt
 | .agg ⟨[.int _ a,.int _ b,.int _ c,.int _ d,.string s]⟩=>⟨a,b,c,d,s⟩
 | _=>default
def dv (e:MapEntry):Vt:=dec e.val
def cnt (p:Vt->Bool) (l:List Vt) (f:Nat):Nat:=(l.filter fun v=>p v&&v.fr==(f:Int)).length
def mem (p:Vt->Bool) (n:Nat) (l:List Vt):Nat:=((List.range (n+1)).filter fun f=>cnt p l f != 0).length
theorem Vp{p:Vt->Bool}{l m:List Vt} (h:l.Perm m) (f:Nat):cnt p l f=cnt p m f:=(h.filter _).length_eq
theorem Vj{p:Vt->Bool}{l m:List Vt} (h:l.Perm m) (n:Nat):mem p n l=mem p n m:=by
 unfold mem;congr 2;funext f;rw [Vp h]
theorem cnt_le (p:Vt->Bool) (l:List Vt) (f:Nat):cnt p l f<=l.length:=List.length_filter_le _ _
theorem aDg (p:Vt->Bool) (n:Nat) (l:List Vt):mem p n l<=n+1:=by
 unfold mem;have:=List.length_filter_le (fun f=>cnt p l f != 0) (List.range (n+1));simpa using this
theorem Mz (p:Vt->Bool) (f:Nat):cnt p [] f=0:=rfl
theorem aAR (p:Vt->Bool) (n:Nat):mem p n []=0:=by
 unfold mem;simp [Mz]
theorem Jp{p:Vt->Bool}{v:Vt} (h:p v=false) (l:List Vt) (f:Nat):cnt p (l++[v]) f=cnt p l f:=by
 unfold cnt;simp [List.filter_append,h]
theorem aDh{p:Vt->Bool}{v:Vt} (h:p v=false) (n:Nat) (l:List Vt):mem p n (l++[v])=mem p n l:=by
 unfold mem;congr 2;funext f;rw [Jp h]
theorem UE{p:Vt->Bool}{v:Vt} (h:p v=true){f:Nat} (hf:v.fr=(f:Int)) (l:List Vt):cnt p (l++[v]) f=cnt p l f+1:=by
 unfold cnt;simp [List.filter_append,h,hf]
theorem PD{p:Vt->Bool}{v:Vt}{f g:Nat} (hf:v.fr=(f:Int)) (hg:g≠f) (l:List Vt):cnt p (l++[v]) g=cnt p l g:=by
 unfold cnt;have:((f:Int)==(g:Int))=false:=by simp;omega
 simp [List.filter_append,hf,this]
theorem RO{L:List Nat} (hn:L.Nodup){f:Nat} (hf:f∈L){q q':Nat->Bool} (hq:q f=false) (hq':q' f=true) (ho:∀x,x≠f->q' x=q x):(L.filter q').length=(L.filter q).length+1:=by
 induction L with
 | nil=>cases hf
 | cons a L ih=>
  simp only [List.nodup_cons]at hn;by_cases ha:a=f
  ·subst ha
   have:L.filter q'=L.filter q:=List.filter_congr fun x hx=>ho x (fun e=>hn.1 (e▸hx));simp [hq,hq',this]
  ·have hf':f∈L:=by
    rcases List.mem_cons.1 hf with h | h
    ·exact absurd h.symm ha
    ·exact h
   simp only [List.filter_cons,ho a ha];cases q a<;>simp [ih hn.2 hf']
theorem aAS{p:Vt->Bool}{v:Vt} (h:p v=true){n f:Nat} (hf:v.fr=(f:Int)) (hn:f<=n){l:List Vt} (h0:cnt p l f=0):mem p n (l++[v])=mem p n l+1:=by
 unfold mem;refine RO (List.nodup_range) (f:=f) (by simp;omega) (by simp [h0]) (by simp [UE h hf]) fun x hx=>by rw [PD hf hx]
theorem aAT{p:Vt->Bool}{v:Vt}{n f:Nat} (hf:v.fr=(f:Int)){l:List Vt} (h0:cnt p l f≠0):mem p n (l++[v])=mem p n l:=by
 unfold mem;congr 2;funext x;by_cases hx:x=f
 ·subst hx
  cases hp:p v with
  | true=>rw [UE hp hf];simp [h0]
  | false=>rw [Jp hp]
 ·rw [PD hf hx]
end Go.Proofs.UB
namespace Go.Proofs.UB
open Go Go.RowKit Go.Rm Go.Proofs
theorem sH{W:World}{a:Addr}{v:Value} (o:Obj) (h:W.cell? a=some v):(W.alloc o).cell? a=some v:=by
 have hb:a.block<W.heap.size:=by
  unfold World.cell? at h;cases hx:W.heap[a.block]? with
  | none=>rw [hx]at h;simp at h
  | some _=>exact(Array.getElem?_eq_some_iff.1 hx).1
 rw [World.cell?_alloc_lt W o a hb];exact h
theorem Fs{a b:Bool} (h:a=b):Ending.returned (.bool a)= .returned (.bool b):=by rw [h]
set_option maxHeartbeats 400000 in
theorem aF6 (v:Vt) (rd:Int) (br:Nat) (w:World) (hr:w.cell? ⟨br,0,none⟩=some (.int .i64 rd)):
 Calls Tryz.prog 107 #[nU v,.pointer (some ⟨br,0,none⟩)] w fun e w'=>e= .returned (.bool (v.rd==rd))/\w'=w.alloc (.cells #[.int .i64 v.fr,.int .i64 v.rd,.int .u8 v.kd,.int .i64 v.va,.string v.tx] 39):=by
 unfold nU;have hr1:∀o,(w.alloc o).cell? ⟨br,0,none⟩=some (.int .i64 rd):=fun o=>sH o hr
 go_enter Tryz.func107,Tryz.ntmps107
 go_wp2
 go_ret
 exact⟨rfl,rfl⟩
set_option maxHeartbeats 400000 in
theorem all1 (v:Vt) (rd kd:Int) (br bk:Nat) (w:World) (hr:w.cell? ⟨br,0,none⟩=some (.int .i64 rd)) (hk:w.cell? ⟨bk,0,none⟩=some (.int .u8 kd)):
 Calls Tryz.prog 87 #[nU v,.pointer (some ⟨br,0,none⟩),.pointer (some ⟨bk,0,none⟩)] w fun e w'=>e= .returned (.bool (v.rd==rd&&v.kd==kd))/\w'=w.alloc (.cells #[.int .i64 v.fr,.int .i64 v.rd,.int .u8 v.kd,.int .i64 v.va,.string v.tx] 39):=by
 unfold nU;have hr1:∀o,(w.alloc o).cell? ⟨br,0,none⟩=some (.int .i64 rd):=fun o=>sH o hr;have hk1:∀o,(w.alloc o).cell? ⟨bk,0,none⟩=some (.int .u8 kd):=fun o=>sH o hk
 go_enter Tryz.func87,Tryz.ntmps87
 go_wp2
 all_goals
  go_ret
  refine⟨Fs ?_,by simp_all⟩
  simp_all
set_option maxHeartbeats 1000000 in
theorem aDe (v:Vt) (rd kd:Int) (tx:ByteArray) (br bk bt:Nat) (w:World) (hr:w.cell? ⟨br,0,none⟩=some (.int .i64 rd)) (hk:w.cell? ⟨bk,0,none⟩=some (.int .u8 kd)) (ht:w.cell? ⟨bt,0,none⟩=some (.string tx)):
 Calls Tryz.prog 117 #[nU v,.pointer (some ⟨br,0,none⟩),.pointer (some ⟨bk,0,none⟩),.pointer (some ⟨bt,0,none⟩)] w fun e w'=>e= .returned (.bool (v.rd==rd&&v.kd==kd&&v.tx.toList==tx.toList))/\w'=w.alloc (.cells #[.int .i64 v.fr,.int .i64 v.rd,.int .u8 v.kd,.int .i64 v.va,.string v.tx] 39):=by
 unfold nU;have hr1:∀o,(w.alloc o).cell? ⟨br,0,none⟩=some (.int .i64 rd):=fun o=>sH o hr;have hk1:∀o,(w.alloc o).cell? ⟨bk,0,none⟩=some (.int .u8 kd):=fun o=>sH o hk;have ht1:∀o,(w.alloc o).cell? ⟨bt,0,none⟩=some (.string tx):=fun o=>sH o ht
 go_enter Tryz.func117,Tryz.ntmps117
 go_wp2
 all_goals
  go_ret
  refine⟨Fs ?_,by simp_all⟩
  simp_all
theorem MX{a b:Int} (h:a=b):Ending.returned (.int .i64 a)= .returned (.int .i64 b):=by rw [h]
theorem Qi (k:Nat):(madeCells (Value.int .i64 0).cells (k*1)).toList=List.replicate k (Value.int .i64 0):=by
 apply List.ext_getElem
 ·simp [madeCells]
 ·intro i h1 h2
  simp [madeCells,Value.cells,Nat.mod_one]
theorem hid{p:Prop} (h:p):RowKit.Hid p:=h
def Had (w:World) (bh n:Nat) (p:Vt->Bool) (l:List Vt):Prop:=∀f,f<=n->w.cell? ⟨bh,f,none⟩=some (.int .i64 (cnt p l f:Int))/\w.frozen? ⟨bh,f,none⟩=false
theorem cell_lt{W:World}{a:Addr}{v:Value} (h:W.cell? a=some v):a.block<W.heap.size:=by
 unfold World.cell? at h;cases hx:W.heap[a.block]? with
 | none=>rw [hx]at h;simp at h
 | some _=>exact(Array.getElem?_eq_some_iff.1 hx).1
theorem Ft{W W':World}{a:Addr} (h:W'.heap[a.block]? =W.heap[a.block]?):W'.cell? a=W.cell? a/\W'.frozen? a=W.frozen? a:=by
 unfold World.cell? World.frozen?;rw [h];exact⟨rfl,rfl⟩
theorem aAQ{W W':World}{a:Addr}{v:Value}{row:Option Nat} (h:W.cell? a=some v) (hg:W.grownBy W' row) (hr:some a.block≠row):W'.cell? a=some v:=
 (Ft (hg.block _ (cell_lt h) hr)).1.trans h
theorem aDf{W W':World}{b:Nat}{o:Obj}{row:Option Nat} (h:W.heap[b]? =some o) (hg:W.grownBy W' row) (hr:some b≠row):W'.heap[b]? =some o:=
 (hg.block _ (Array.getElem?_eq_some_iff.1 h).1 hr).trans h
theorem cell_below{W W':World}{n:Nat}{a:Addr}{v:Value} (h:W.cell? a=some v) (hb:Below n W W') (hn:a.block<n):W'.cell? a=some v:=(hb.cell hn).trans h
theorem info3:(Tryz.prog.info? 3).map (fun i=>(i.zero,i.size,i.bytes))=some (some (.int .i64 0),1,8):=by kernel_rfl
set_option maxRecDepth 100000 in
set_option maxHeartbeats 1000000 in
theorem Fu (g:FuncId) (cb:Array Value) (p:Vt->Bool) (bt ot bm n:Nat) (es:Array MapEntry) (clock:Nat) (w:World) (hn:n<=1000000) (hsz:es.size<=1000000)
 (h0:w.cell? ⟨bt,ot,none⟩=some (.int .i64 (n:Int))) (h1:w.cell? ⟨bt,ot+1,none⟩=some (.map (some bm))) (hb:w.heap[bm]? =some (.map es clock)) (hs:zX es clock)
 (hv:∀e∈es.toList,e.val=nU (dv e)/\∃f:Nat,(dv e).fr=(f:Int)/\f<=n)
 (eg:∀args w,(callFunc g args).run Tryz.prog w= .ok (.enter g args) w)
 (hg:∀(W:World) (v:Vt),Below w.heap.size w W->Calls Tryz.prog g (#[nU v]++cb) W fun e W'=>e= .returned (.bool (p v))/\Below W.heap.size W W'):
 Calls Tryz.prog 86 #[.pointer (some ⟨bt,ot,none⟩),.func (.func g) #[] cb] w fun e w'=>e= .returned (.int .i64 (mem p n (es.toList.map dv):Int))/\Below w.heap.size w w':=by
 obtain⟨i0,hi,hz0,hz1,hz2⟩:=info_parts info3
 go_enter Tryz.func86,Tryz.ntmps86
 go_wp2_with (first
  | (at_make;refine wpList_make_full _ rfl _ _ 81 rfl w.heap.size 3 i0 (.int .i64 0) 1 Tryz.underlying81 hi hz0 hz1 .i64 .i64 _ _ (n+1) rfl rfl (by push_cast;rfl) (by push_cast;rfl) (by rw [hz2];omega) (by unfold maxLen;omega) (Nat.le_refl _) ?_;intro w1 hown hgr;have hc1:=aAQ h1 hgr (by simp);have hb1:=aDf hb hgr (by simp))
  | (at_range;refine PC rfl _ 94 rfl 99 39 Tryz.underlying94 rfl hb1 hs ?_;intro w2 hw2 hrg)
  | go_in)
 go_frame
 have hlt1:w.heap.size<w1.heap.size:=(hown.lt w.heap.size rfl).2;have hbt:=cell_lt h0;have hbm:=(Array.getElem?_eq_some_iff.1 hb).1;simp only at hbt
 have aHl:Had w2 w.heap.size n p []:=by
  obtain⟨_,h | ⟨gg,cap,cur,he,_,hcur,_,_,hcs,htk⟩⟩:=hown
  ·cases h.1
  ·injection he with he1 he2 he3
   injection he1 with he1;injection he1 with he1;subst he1
   have hz:cur.toList=List.replicate (n+1) (Value.int .i64 0):=by
    have h1:cur.toList.take ((n+1)*1)=cur.toList:=List.take_of_length_le (by simp [hcs,<-he3]);rw [<-h1,htk];exact Qi _
   have hblk:w2.heap[w.heap.size]? =some (.cells cur 3 (0,0)):=by rw [hw2,Below.heap_alloc _ _ _ hlt1];exact hcur
   intro f hf
   have hcf:cur[f]? =some (.int .i64 0):=by
    rw [<-Array.getElem?_toList,hz,List.getElem?_replicate,if_pos (by omega)]
   constructor
   ·unfold World.cell?;simp only [hblk];simpa [Mz]using hcf
   ·unfold World.frozen?;simp only [hblk];simp
 have hB2:Below w.heap.size w w2:=by
  rw [hw2];exact((Below.refl _ _).grown hgr (Nat.le_refl _) (fun k e=>by cases e)).alloc (by omega) _
 go_loopw [6] (fun x wr=>∃(done todo:List MapEntry),GO wr bm w1.heap.size es clock done todo/\x= .int .i64 (mem p n (done.map dv):Int)/\Had wr w.heap.size n p (done.map dv)/\Below w.heap.size w wr/\w1.heap.size<wr.heap.size)
  (fun _ wr=>wr.rangeLeft bm w1.heap.size)
 case atStart=>exact⟨[],es.toList,hrg,by simp [aAR],aHl,hB2,by rw [hw2];simp⟩
 case round=>
  obtain⟨done,todo,hrg,rfl,hH,hB,hws⟩:=hrel
  go_wp2_with (first
   | (at_next;refine RN rfl _ rfl rfl hrg ?_ ?_)
   | go_in)
  ·intro h0
   subst h0;have hm:mem p n (done.map dv)=mem p n (es.toList.map dv):=Vj (by simpa using hrg.2.2.2.map dv) n
   go_wp2
   go_ret
   exact⟨MX (by rw [hm]),hB⟩
  ·rintro⟨k0,x0,b0⟩ todo' w3 hp hrg3 hg3 hs3 hen
   obtain⟨hx,f,hf,hfn⟩:=hv ⟨k0,x0,b0⟩ ((hrg.2.2.2).subset (List.mem_append_right _ (hp.symm.subset List.mem_cons_self)));obtain⟨v,hvd,hx⟩:∃v,dv ⟨k0,x0,b0⟩=v/\x0=nU v:=⟨_,rfl,hx⟩;subst hx;rw [hvd]at hf;have hgv:=hg (w3.alloc (.cells #[.int .i64 v.fr,.int .i64 v.rd,.int .u8 v.kd,.int .i64 v.va,.string v.tx] 39)) v (((hB.grown hg3 (by omega) (fun k e=>by cases e;omega))).alloc (by omega) _);dsimp only [nU]at hen hgv ⊢;rw [hf]at hen hgv ⊢;have hcl:=cnt_le p (done.map dv) f;have hml:=aDg p n (done.map dv)
   have hdl:done.length<=es.size:=by
    have:=hrg.2.2.2.length_eq;simp at this;omega
   simp only [List.length_map]at hcl;have aHG:cnt p (done.map dv) f<=1000000:=by omega
   have aHH:mem p n (done.map dv)<=1000001:=by omega
   clear hcl hml hdl;have aHI:bm<w1.heap.size:=by omega
   have hH3:∀W4,Below (w3.alloc (.cells #[.int .i64 v.fr,.int .i64 v.rd,.int .u8 v.kd,.int .i64 v.va,.string v.tx] 39)).heap.size (w3.alloc (.cells #[.int .i64 v.fr,.int .i64 v.rd,.int .u8 v.kd,.int .i64 v.va,.string v.tx] 39)) W4->GO W4 bm w1.heap.size es clock (done++[⟨k0,nU v,b0⟩]) todo'/\Had W4 w.heap.size n p (done.map dv)/\Below w.heap.size w W4/\wr.heap.size<W4.heap.size/\W4.cell? ⟨wr.heap.size,0,none⟩=some (.int .i64 v.fr):=by
    intro W4 hb4;have aHm:=hb4.size;simp only [World.size_alloc]at aHm
    have hblk:∀j,j<wr.heap.size->j≠w1.heap.size->W4.heap[j]? =wr.heap[j]? :=fun j hj hne=>by
     rw [hb4.block j (by simp;omega),Below.heap_alloc _ _ _ (by omega)];exact hg3.block j hj (by simpa using hne)
    refine⟨hrg3.PA ?_ ?_,fun g hg=>?_,?_,by omega,?_⟩
    ·rw [hb4.block bm (by simp;omega),Below.heap_alloc _ _ _ (by omega)]
    ·rw [hb4.block w1.heap.size (by simp;omega),Below.heap_alloc _ _ _ (by omega)]
    ·obtain⟨q1,q2⟩:=Ft (W:=wr) (W':=W4) (a:=⟨w.heap.size,g,none⟩) (hblk _ (by simp;omega) (by simp;omega))
     rw [q1,q2];exact hH g hg
    ·refine(((hB.grown hg3 (by omega) (fun k e=>by cases e;omega))).alloc (by omega) (.cells #[.int .i64 v.fr,.int .i64 v.rd,.int .u8 v.kd,.int .i64 v.va,.string v.tx] 39)).trans (hb4.mono (by simp;omega))
    ·rw [<-hs3,hb4.cell (p:=⟨w3.heap.size,0,none⟩) (by simp),World.cell?_alloc_new];rfl
   have aF7:dv ⟨k0,nU v,b0⟩=v:=rfl;have hdone:(done++[⟨k0,nU v,b0⟩]:List MapEntry).map dv=done.map dv++[v]:=by simp [aF7]
   have HD:=hid hdone;have HL:=hid hrg.left_eq;have HP:=hid hp;have HF:=hid hf;rw [hf]at hH3;clear hdone aF7 hvd hp;cases hpv:p v with
   | false=>
    rw [hpv]at hgv
    go_wp2_with (first | (go_at_fn g;refine hgv.mono ?_;clear hgv;rintro e w4 ⟨rfl,hb4⟩;obtain⟨r1,r2,r3,r4,r5⟩:=hH3 w4 hb4) | go_in)
    go_roundw
    case rel=>exact⟨done++[({key:=k0,val:=nU v,born:=b0}:MapEntry)],todo',r1,by rw [HD.out,aDh hpv],fun g hg=>by rw [HD.out,Jp hpv];exact r2 g hg,r3,by omega⟩
    case measure=>rw [r1.left_eq,HL.out,HP.out.length_eq];simp
   | true=>
    rw [hpv]at hgv
    have hfin:∀W4,GO W4 bm w1.heap.size es clock (done++[⟨k0,nU v,b0⟩]) todo'->Had W4 w.heap.size n p (done.map dv)->Below w.heap.size w W4->wr.heap.size<W4.heap.size->∀x,x=Value.int .i64 (cnt p (done.map dv) f+1:Int)->
     GO (W4.setCell ⟨w.heap.size,f,none⟩ x) bm w1.heap.size es clock (done++[⟨k0,nU v,b0⟩]) todo'/\Had (W4.setCell ⟨w.heap.size,f,none⟩ x) w.heap.size n p ((done++[⟨k0,nU v,b0⟩]:List MapEntry).map dv)/\Below w.heap.size w (W4.setCell ⟨w.heap.size,f,none⟩ x)/\w1.heap.size<(W4.setCell ⟨w.heap.size,f,none⟩ x).heap.size:=by
     rintro W4 r1 r2 r3 r4 x rfl
     refine⟨r1.PA (Below.heap_setCell _ _ _ _ (by simp;omega)) (Below.heap_setCell _ _ _ _ (by simp;omega)),fun g hg=>?_,r3.setCell (p:=⟨w.heap.size,f,none⟩) (Nat.le_refl _) _,by simp [World.setCell];omega⟩;rw [HD.out,World.frozen?_setCell];refine⟨?_,(r2 g hg).2⟩;by_cases hgf:g=f
     ·subst hgf
      rw [World.cell?_setCell_same _ _ _ (r2 g hg).1,UE hpv HF.out];simp
     ·rw [World.cell?_setCell_other _ _ _ _ (by simp),PD HF.out hgf]
      exact(r2 g hg).1
    by_cases hc0:cnt p (done.map dv) f=0
    ·have HC:=hid hc0
     have ht:((cnt p (done.map dv) f:Int)==0)=true:=by simp [hc0]
     clear hc0
     go_wp2_with (first | (go_at_fn g;refine hgv.mono ?_;clear hgv;rintro e w4 ⟨rfl,hb4⟩;obtain⟨r1,r2,r3,r4,r5⟩:=hH3 w4 hb4;obtain⟨r6,r7⟩:=r2 f hfn) | go_in)
     go_roundw
     case rel=>
      obtain⟨z1,z2,z3,z4⟩:=hfin w4 r1 r2 r3 r4 _ rfl;exact⟨done++[⟨k0,nU v,b0⟩],todo',z1,by rw [HD.out,aAS hpv HF.out hfn HC.out];simp,z2,z3,z4⟩
     case measure=>
      obtain⟨z1,z2,z3,z4⟩:=hfin w4 r1 r2 r3 r4 _ rfl;rw [z1.left_eq,HL.out,HP.out.length_eq];simp
    ·have HC:=hid hc0
     have ht:((cnt p (done.map dv) f:Int)==0)=false:=by simp [hc0]
     clear hc0
     go_wp2_with (first | (go_at_fn g;refine hgv.mono ?_;clear hgv;rintro e w4 ⟨rfl,hb4⟩;obtain⟨r1,r2,r3,r4,r5⟩:=hH3 w4 hb4;obtain⟨r6,r7⟩:=r2 f hfn) | go_in)
     go_roundw
     case rel=>
      obtain⟨z1,z2,z3,z4⟩:=hfin w4 r1 r2 r3 r4 _ rfl;exact⟨done++[⟨k0,nU v,b0⟩],todo',z1,by rw [HD.out,aAT HF.out HC.out],z2,z3,z4⟩
     case measure=>
      obtain⟨z1,z2,z3,z4⟩:=hfin w4 r1 r2 r3 r4 _ rfl;rw [z1.left_eq,HL.out,HP.out.length_eq];simp
structure At (w:World) (bt ot n:Nat) (es:Array MapEntry):Prop where
 count:w.cell? ⟨bt,ot,none⟩=some (.int .i64 (n:Int))
 map:∃bm clock,w.cell? ⟨bt,ot+1,none⟩=some (.map (some bm))/\w.heap[bm]? =some (.map es clock)/\zX es clock
 few:n<=1000000
 size:es.size<=1000000
 My:∀e∈es.toList,e.val=nU (dv e)/\∃f:Nat,(dv e).fr=(f:Int)/\f<=n
theorem At.below{w w':World}{bt ot n:Nat}{es:Array MapEntry} (h:At w bt ot n es) (hb:Below w.heap.size w w'):At w' bt ot n es:=by
 obtain⟨h1,⟨bm,clock,h2,h3,h4⟩,h5,h6,h7⟩:=h;exact⟨cell_below h1 hb (cell_lt h1),⟨bm,clock,cell_below h2 hb (cell_lt h2),(hb.block _ (Array.getElem?_eq_some_iff.1 h3).1).trans h3,h4⟩,h5,h6,h7⟩
theorem At.alloc{w:World}{bt ot n:Nat}{es:Array MapEntry} (h:At w bt ot n es) (o:Obj):At (w.alloc o) bt ot n es:=h.below ((Below.refl _ _).alloc (Nat.le_refl _) _)
theorem KM (g:FuncId) (cb:Array Value) (p:Vt->Bool){bt ot n:Nat}{es:Array MapEntry}{w:World} (h:At w bt ot n es)
 (eg:∀args w,(callFunc g args).run Tryz.prog w= .ok (.enter g args) w)
 (hg:∀(W:World) (v:Vt),Below w.heap.size w W->Calls Tryz.prog g (#[nU v]++cb) W fun e W'=>e= .returned (.bool (p v))/\Below W.heap.size W W'):
 Calls Tryz.prog 86 #[.pointer (some ⟨bt,ot,none⟩),.func (.func g) #[] cb] w fun e w'=>e= .returned (.int .i64 (mem p n (es.toList.map dv):Int))/\Below w.heap.size w w':=by
 obtain⟨h1,⟨bm,clock,h2,h3,h4⟩,h5,h6,h7⟩:=h;exact Fu g cb p bt ot bm n es clock w h5 h6 h1 h2 h3 h4 h7 eg hg
set_option maxHeartbeats 1000000 in
theorem Vh{bt ot n:Nat}{es:Array MapEntry}{w:World} (h:At w bt ot n es) (rd:Int):
 Calls Tryz.prog 81 #[.pointer (some ⟨bt,ot,none⟩),.int .i64 rd] w fun e w'=>e= .returned (.int .i64 (mem (fun v=>v.rd==rd) n (es.toList.map dv):Int))/\Below w.heap.size w w':=by
 have hm:=KM 107 #[.pointer (some ⟨w.heap.size,0,none⟩)] (fun v=>v.rd==rd) (h.alloc (.cells #[.int .i64 rd] 3)) (enters_of Tryz.func107 (by kernel_rfl) rfl) (fun W v hb=>
  (aF6 v rd w.heap.size W (cell_below (World.cell?_alloc_new ..) hb (by simp))).mono fun e W' ⟨he,hw⟩=>⟨he,hw▸(Below.refl _ _).alloc (Nat.le_refl _) _⟩)
 go_enter Tryz.func81,Tryz.ntmps81
 go_wp2_with (first | (go_at_call 86;refine hm.mono ?_;clear hm;rintro e w4 ⟨rfl,hb4⟩) | go_in)
 go_ret
 exact⟨rfl,((Below.refl _ _).alloc (Nat.le_refl _) _).trans (hb4.mono (by simp))⟩
set_option maxHeartbeats 1000000 in
theorem aAO{bt ot n:Nat}{es:Array MapEntry}{w:World} (h:At w bt ot n es) (rd kd:Int):
 Calls Tryz.prog 68 #[.pointer (some ⟨bt,ot,none⟩),.int .i64 rd,.int .u8 kd] w fun e w'=>e= .returned (.int .i64 (mem (fun v=>v.rd==rd&&v.kd==kd) n (es.toList.map dv):Int))/\Below w.heap.size w w':=by
 have hm:=KM 87 #[.pointer (some ⟨w.heap.size,0,none⟩),.pointer (some ⟨w.heap.size+1,0,none⟩)] (fun v=>v.rd==rd&&v.kd==kd) ((h.alloc (.cells #[.int .i64 rd] 3)).alloc (.cells #[.int .u8 kd] 5)) (enters_of Tryz.func87 (by kernel_rfl) rfl) (fun W v hb=>
  (all1 v rd kd w.heap.size (w.heap.size+1) W (cell_below (World.cell?_alloc2_first ..) hb (by simp;omega)) (cell_below (World.cell?_alloc2_new ..) hb (by simp))).mono fun e W' ⟨he,hw⟩=>⟨he,hw▸(Below.refl _ _).alloc (Nat.le_refl _) _⟩)
 go_enter Tryz.func68,Tryz.ntmps68
 go_wp2_with (first | (go_at_call 86;refine hm.mono ?_;clear hm;rintro e w4 ⟨rfl,hb4⟩) | go_in)
 go_ret
 exact⟨rfl,(((Below.refl _ _).alloc (Nat.le_refl _) _).alloc (by simp) _).trans (hb4.mono (by simp;omega))⟩
set_option maxHeartbeats 1000000 in
theorem count_any{bt ot n:Nat}{es:Array MapEntry}{w:World} (h:At w bt ot n es) (rd kd:Int) (tx:ByteArray):
 Calls Tryz.prog 105 #[.pointer (some ⟨bt,ot,none⟩),.int .i64 rd,.int .u8 kd,.string tx] w fun e w'=>e= .returned (.int .i64 (mem (fun v=>v.rd==rd&&v.kd==kd&&v.tx.toList==tx.toList) n (es.toList.map dv):Int))/\Below w.heap.size w w':=by
 have hm:=KM 117 #[.pointer (some ⟨w.heap.size,0,none⟩),.pointer (some ⟨w.heap.size+1,0,none⟩),.pointer (some ⟨w.heap.size+1+1,0,none⟩)] (fun v=>v.rd==rd&&v.kd==kd&&v.tx.toList==tx.toList) (((h.alloc (.cells #[.int .i64 rd] 3)).alloc (.cells #[.int .u8 kd] 5)).alloc (.cells #[.string tx] 9)) (enters_of Tryz.func117 (by kernel_rfl) rfl) (fun W v hb=>
  (aDe v rd kd tx w.heap.size (w.heap.size+1) (w.heap.size+1+1) W (cell_below (sH _ (World.cell?_alloc2_first ..)) hb (by simp;omega)) (cell_below (sH _ (World.cell?_alloc2_new ..)) hb (by simp)) (cell_below (by rw [show w.heap.size+1+1=((w.alloc (.cells #[.int .i64 rd] 3)).alloc (.cells #[.int .u8 kd] 5)).heap.size by simp];exact World.cell?_alloc_new ..) hb (by simp))).mono fun e W' ⟨he,hw⟩=>⟨he,hw▸(Below.refl _ _).alloc (Nat.le_refl _) _⟩)
 go_enter Tryz.func105,Tryz.ntmps105
 go_wp2_with (first | (go_at_call 86;refine hm.mono ?_;clear hm;rintro e w4 ⟨rfl,hb4⟩) | go_in)
 go_ret
 exact⟨rfl,((((Below.refl _ _).alloc (Nat.le_refl _) _).alloc (by simp) _).alloc (by simp;omega) _).trans (hb4.mono (by simp;omega))⟩
end Go.Proofs.UB
namespace Go.Proofs.UB
open Go Go.RowKit Go.Rm Go.Proofs Go.Shelf
theorem Qj{w w':World}{b r:Nat}{es:Array MapEntry}{clock:Nat}{done todo:List MapEntry} (h:GO w b r es clock done todo) (hk:KeepsWalks w w'):GO w' b r es clock done todo:=by
 obtain⟨hb,hs,⟨seen,c0,hr,hc,ht⟩,hp⟩:=h;exact⟨hk.same b _ hb rfl,hs,⟨seen,c0,hk.same r _ hr rfl,hc,ht⟩,hp⟩
theorem Vk{w:World}{b r:Nat}{es:Array MapEntry}{clock:Nat}{done todo:List MapEntry} (h:GO w b r es clock done todo):∃o:Obj,w.heap[r]? =some o/\o.isWalk=true:=by
 obtain⟨hb,hs,⟨seen,c0,hr,hc,ht⟩,hp⟩:=h;exact⟨_,hr,rfl⟩
attribute [local go_sem] Oper.semAt_some
set_option maxRecDepth 100000 in
set_option maxHeartbeats 1000000 in
theorem Vl (F:Fence) (n:Nat) (h94:F.fn 90) (hro:F.round=none) (hn:1<=n) (l Bm bm:Nat) (es:Array MapEntry) (clock:Nat) (J Jx:List Vt->World->Prop)
 (hY:∀pre x W,J pre W->pre.length<es.size->YieldAt F (n-1) Tryz.prog l #[nU x] W fun e W'=>
  (e= .returned (.bool true)/\J (pre++[x]) W'/\KeepsWalks W W')\/(e= .returned (.bool false)/\Jx (pre++[x]) W'))
 (W:World) (hJ:AbidesFrom W.heap.size J) (hm:W.cell? ⟨Bm,0,none⟩=some (.map (some bm))) (hb:W.heap[bm]? =some (.map es clock)) (hs:zX es clock) (hv:∀e∈es.toList,e.val=nU (dv e)) (h0:J [] W):
 CallsIn F n Tryz.prog 90 #[.func (.yield l) #[] #[],.pointer (some ⟨Bm,0,none⟩)] W fun e W'=>(∃v,e= .returned v)/\
  ((∃xs,xs.Perm (es.toList.map dv)/\J xs W')\/(∃pre,True/\Jx pre W')):=by
 refine callsIn_of_wp Tryz.func90 rfl h94 ?_ hro;simp only [Tryz.ntmps90,List.size_toArray,List.length_cons,List.length_nil,Nat.reduceAdd,Nat.reduceSub,Array.replicate_succ,Array.replicate_zero,List.push_toArray,List.append_toArray,List.nil_append,List.cons_append]
 gi_wp2_with (first
  | (gi_at_range;refine KL rfl _ 94 rfl 99 39 Tryz.underlying94 rfl hb hs ?_;intro w0 hw0 hrg0)
  | gi_in)
 go_frame
 gi_loopw [4] (fun _ wr=>∃(done todo:List MapEntry),GO wr bm W.heap.size es clock done todo/\J (done.map dv) wr)
  (fun _ wr=>wr.rangeLeft bm W.heap.size)
 case atStart=>
  exact⟨[],es.toList,hrg0,hJ [] W w0 none h0 (by rw [hw0];exact World.grownBy_alloc W _ none) (fun r e=>by cases e)⟩
 case round=>
  obtain⟨done,todo,hrg,hJs⟩:=hrel
  gi_wp2_with (first
   | (gi_at_next;refine MW rfl _ rfl rfl hrg ?_ ?_)
   | gi_in)
  ·intro hc0
   subst hc0
   gi_wp2
   go_end0
   exact⟨⟨_,rfl⟩,.inl ⟨_,by simpa using hrg.2.2.2.map dv,hJs⟩⟩
  ·rintro⟨k0,x0,b0⟩ todo' w2 hp hrg2 hg2 hs2 hen
   have hx:=hv ⟨k0,x0,b0⟩ ((hrg.2.2.2).subset (List.mem_append_right _ (hp.symm.subset List.mem_cons_self)));obtain⟨v,hvd,hx⟩:∃v,dv ⟨k0,x0,b0⟩=v/\x0=nU v:=⟨_,rfl,hx⟩;subst hx;have hJ2:J (done.map dv) w2:=hJ _ wr w2 (some W.heap.size) hJs hg2 (fun r e=>by cases e;exact⟨Nat.le_refl _,Vk hrg⟩);have hJ3:J (done.map dv) (w2.alloc (.cells #[.int .i64 v.fr,.int .i64 v.rd,.int .u8 v.kd,.int .i64 v.va,.string v.tx] 39)):=hJ _ w2 _ none hJ2 (World.grownBy_alloc _ _ none) (fun r e=>by cases e)
   have hdl:done.length<es.size:=by
    have h1:=hrg.2.2.2.length_eq;have h2:=hp.length_eq;simp at h1 h2;omega
   obtain⟨fn,tmps,assign,body,hy,hR⟩:=hY (done.map dv) v _ hJ3 (by simpa using hdl);have hdone:(done++[⟨k0,nU v,b0⟩]:List MapEntry).map dv=done.map dv++[v]:=by simp [hvd]
   have HD:=hid hdone;have HL:=hid hrg.left_eq;have HP:=hid hp;have hrg3:=hrg2.kept (World.grownBy_alloc w2 (.cells #[.int .i64 v.fr,.int .i64 v.rd,.int .u8 v.kd,.int .i64 v.va,.string v.tx] 39) none) (by simp) (by simp);clear hdone hvd hp hJ2 hJ3 hdl;dsimp only [nU]at hen hy hR ⊢
   gi_wp2
   refine hR.mono ?_
   rintro e W3 (⟨rfl,hJ3,hk3⟩ | ⟨rfl,hJx3⟩)
   ·gi_wp2
    have hrg4:=Qj hrg3 hk3
    go_roundw
    case rel=>exact⟨done++[⟨k0,nU v,b0⟩],todo',hrg4,by rw [HD.out];exact hJ3⟩
    case measure=>rw [hrg4.left_eq,HL.out,HP.out.length_eq];simp
   ·gi_wp2
    refine bodyPost_ret (results_none rfl _ _ _) rfl ?_;exact⟨⟨_,rfl⟩,.inr ⟨_,trivial,hJx3⟩⟩
def fY (v:Vt):List Value:=[.int .i64 v.fr,.int .i64 v.rd,.int .u8 v.kd,.int .i64 v.va,.string v.tx]
theorem aDi:(Tryz.prog.info? 39).map (fun i=>(i.zero,i.size,i.bytes))=some (some (.agg #[.int .i64 0,.int .i64 0,.int .u8 0,.int .i64 0,.string ⟨#[]⟩]),5,48):=by kernel_rfl
theorem Jq (F:Fence) (n:Nat) (h94:F.fn 90) (hro:F.round=none) (hn:1<=n) (Bm bm:Nat) (es:Array MapEntry) (clock:Nat) (w:World) (hBm:Bm<w.heap.size)
 (hm:w.cell? ⟨Bm,0,none⟩=some (.map (some bm))) (hb:w.heap[bm]? =some (.map es clock)) (hs:zX es clock) (hv:∀e∈es.toList,e.val=nU (dv e)):
 SeqStopsK F n Tryz.prog 90 #[.pointer (some ⟨Bm,0,none⟩)] (fun v:Vt=> #[nU v]) KeepsWalks (fun xs=>xs.Perm (es.toList.map dv)) (fun _=>True) es.size w:=fun l J Jx W hW hJ _ hY h0=>
 Vl F n h94 hro hn l Bm bm es clock J Jx hY W hJ ((hW.cell (p:=⟨Bm,0,none⟩) hBm).trans hm) ((hW.block bm (Array.getElem?_eq_some_iff.1 hb).1).trans hb) hs hv h0
theorem KN (W:World) (v:Vt) (t:TypeId):∀j u,(fY v)[j]? =some u->(W.alloc (.cells #[.int .i64 v.fr,.int .i64 v.rd,.int .u8 v.kd,.int .i64 v.va,.string v.tx] t)).cell? ((⟨W.heap.size,0,none⟩:Addr).add j)=some u:=by
 intro j u hj
 have:(⟨W.heap.size,0,none⟩:Addr).add j=⟨W.heap.size,j,none⟩:=by
  unfold Addr.add;split<;>simp_all
 rw [this,World.cell?_alloc_new];exact(List.getElem?_toArray (xs:=fY v)).trans hj
theorem UF (v:Vt):∀u∈fY v,u.oneCell'=true:=by
 intro u hu;simp [fY]at hu;rcases hu with rfl | rfl | rfl | rfl | rfl<;>rfl
attribute [local go_sem] Oper.semAt_some
set_option maxRecDepth 100000 in
set_option maxHeartbeats 4000000 in
theorem appendSeq_in (F:Fence) (n:Nat) (aHn:F.fn 109) (h94:F.fn 90) (hro:F.round=none) (hn:3<=n) (Bm bm:Nat) (es:Array MapEntry) (clock:Nat) (w:World) (hsz:es.size<=1000000)
 (hm:w.cell? ⟨Bm,0,none⟩=some (.map (some bm))) (hb:w.heap[bm]? =some (.map es clock)) (hs:zX es clock) (hv:∀e∈es.toList,e.val=nU (dv e)):
 CallsIn F n Tryz.prog 109 #[.slice none 0 0,.func (.func 90) #[] #[.pointer (some ⟨Bm,0,none⟩)]] w fun e W'=>∃(v:Value) (xs:List Vt),e= .returned v/\xs.Perm (es.toList.map dv)/\W'.ownsRow w.heap.size 39 5 v xs.length (xs.flatMap fY)/\(v= .slice none 0 0↔xs=[])/\Below w.heap.size w W':=by
 have h1:1<=n:=by omega
 have hBm:=cell_lt hm;simp only at hBm;obtain⟨i0,hi,hz0,hz1,hz2⟩:=info_parts aDi;refine callsIn_of_wp_marks Tryz.func109 rfl aHn ?_ hro;simp only [Tryz.ntmps109,List.size_toArray,List.length_cons,List.length_nil,Nat.reduceAdd,Nat.reduceSub,Array.replicate_succ,Array.replicate_zero,List.push_toArray,List.append_toArray,List.nil_append,List.cons_append]
 gi_wp2
 have bS:=Boxed.new w 27 (.slice none 0 0);have hB0:Below w.heap.size w (w.alloc (.cells #[.slice none 0 0] 27)):=(Below.refl _ w).alloc (Nat.le_refl _) _;have hm0:=sH (.cells #[.slice none 0 0] 27) hm;have hb0:(w.alloc (.cells #[.slice none 0 0] 27)).heap[bm]? =some (.map es clock):=(Below.heap_alloc _ _ _ (Array.getElem?_eq_some_iff.1 hb).1).trans hb;have hsz0:(w.alloc (.cells #[.slice none 0 0] 27)).heap.size=w.heap.size+1:=by simp
 have hr0:=World.ownsRow_nil (w.alloc (.cells #[.slice none 0 0] 27)) w.heap.size 39 5;obtain⟨W0,hW0⟩:∃W0,w.alloc (.cells #[.slice none 0 0] 27)=W0:=⟨_,rfl⟩;rw [hW0]at bS hB0 hm0 hb0 hsz0 hr0 ⊢;clear hW0
 refine wpIn_rangeFunc_ownH hro h1 (gf:=90) (lb:= #[.pointer (some ⟨Bm,0,none⟩)]) rfl h94 (enters_of Tryz.func90 (by kernel_rfl) rfl)
  (Jq F (n-1) h94 hro (by omega) Bm bm es clock W0 (by omega) hm0 hb0 hs hv) walksK_t walksK_b (Below.refl _ _) (fun _=>rfl)
  (fun pre W=>(∃v,Boxed W w.heap.size 27 v/\W.ownsRow w.heap.size 39 5 v pre.length (pre.flatMap fY)/\(v= .slice none 0 0↔pre=[]))/\Below w.heap.size w W)
  (fun _ _ _=>False)
  (OwnFrom.and (Own.from (holdsRow_own w.heap.size w.heap.size 27 39 5 (fun pre:List Vt=>pre.length) (fun pre=>pre.flatMap fY) (fun pre v=>(v= .slice none 0 0↔pre=[]))) _) (ownFrom_below (Nat.le_refl _) (by omega)))
  (fun _ _ _ _ _ hs _ _=>hs)
  ⟨⟨_,bS,hr0,by simp⟩,hB0⟩
  (fun x a' W=>∃Bx,w.heap.size<Bx/\W.heap[Bx]? =some (.cells #[.int .i64 x.fr,.int .i64 x.rd,.int .u8 x.kd,.int .i64 x.va,.string x.tx] 39 (0,0))/\a'={tmps:= #[.slice none 0 0,.func (.func 90) #[] #[.pointer (some ⟨Bm,0,none⟩)],.pointer (some ⟨w.heap.size,0,none⟩),undef,.slice none 0 0,.pointer (some ⟨Bx,0,none⟩),.func (.func 90) #[] #[.pointer (some ⟨Bm,0,none⟩)],nU x,undef,undef,undef,undef,undef],defers:=[]})
  (fun x a' _ X Y row hs hg hr=>by
   obtain⟨Bx,h1,h2,h3⟩:=hs;refine⟨Bx,h1,(hg.block Bx (Array.getElem?_eq_some_iff.1 h2).1 (fun e=>?_)).trans h2,h3⟩;obtain⟨_,o,ho,hc⟩:=hr Bx e.symm;rw [h2]at ho;cases ho;cases hc)
  ?assign ?body ?done ?stop
 case assign=>
  rintro l pre x W K ⟨⟨v,bS1,hr1,hnl⟩,hB1⟩ hK
  dsimp only [nU]at hK ⊢
  gi_wp2
  refine hK _ _ ((KeepsOthers.alloc _ _).from _) (KeepsWalks.alloc _ _) ⟨⟨v,bS1.alloc _,hr1.alloc _,hnl⟩,hB1.alloc hB1.size _⟩ ⟨W.heap.size,bS1.lt,?_,rfl⟩;exact World.alloc_heap_new W _
 case body=>
  rintro l pre x a' W hl ⟨r,hr⟩ ⟨⟨v,bS1,hr1,_⟩,hB1⟩ ⟨Bx,hBx,bX,rfl⟩ hlt
  have cB:=bS1.cell;have hle:=hB1.size
  have cX:∀j u,(fY x)[j]? =some u->W.cell? ⟨Bx,j,none⟩=some u:=fun j u hj=>by
   unfold World.cell?;simp only [bX];exact(List.getElem?_toArray (xs:=fY x)).trans hj
  have c0:=cX 0 _ rfl;have c1:=cX 1 _ rfl;have c2:=cX 2 _ rfl;have c3:=cX 3 _ rfl;have c4:=cX 4 _ rfl;clear cX;dsimp only [nU]
  gi_wp2_with (first
   | (gi_at_builtin;refine wpListIn_append_own _ rfl _ _ 27 rfl w.heap.size 39 i0 _ 5 48 Tryz.underlying27 hi hz0 hz1 hz2 rfl (by decide) _ _ _ rfl (hr1.alloc _) ⟨W.heap.size,0,none⟩ 1 1 (fY x) rfl rfl (KN _ _ _) (UF x) (by unfold maxLen;omega) (by omega) (by simp;omega) ?_;intro v' w1 hown' hgrow _;obtain⟨g',cap',rfl⟩:=ownsRow_succ hown';obtain⟨hv1,hv2,hr2,hk2,hb2⟩:=bS1.appended (by decide) hr1 hle (Nat.le_refl _) hown' hgrow;have hc1:=hv1.cell;have hf1:=hv1.frozen)
   | gi_in)
  refine⟨hk2.from _,?_,⟨⟨_,hv2,?_,by simp⟩,hB1.trans hb2⟩⟩
  ·exact⟨hk2.size,fun k o hk ho=>hk2.same k o hk (Obj.not_cells_of_walk ho)⟩
  ·simpa using hr2
 case done=>
  rintro D xs W hD hxs ⟨⟨v,bS1,hr1,hnl⟩,hB1⟩ hK
  have cS:=bS1.cell
  gi_wp2
  refine⟨by simp,.inl ⟨_,_,rfl,run_takeDeferred hK,?_⟩⟩;exact⟨_,results_tmp rfl _ _ _,v,xs,rfl,hxs,ownsRow_putObj hr1 _ hK rfl,hnl,hB1.trans (belowK_b (w:=w) (Nat.le_refl _) W D _ _ (by omega) hK rfl rfl)⟩
 case stop=>
  rintro D c pre W _ _ h _
  exact h.elim
end Go.Proofs.UB
namespace Go.Proofs
open Go.Shelf
def Tryz.cmpInt_ren:Go.Shelf.Ren:=⟨fun | 5=>74 | 7=>91 | n=>n,fun | 22=>3 | 3=>3 | 4=>4 | n=>n,fun | n=>n⟩
theorem Tryz.cmpInt:Go.Proofs.SlLaysC2.n5 Tryz.prog Tryz.cmpInt_ren:={
 mixed:=by kernel_rfl
 f5:=⟨Tryz.f74.name,by decide,Tryz.func74.trans (congrArg some (by kernel_rfl))⟩
 f7:=⟨Tryz.f91.name,by decide,Tryz.func91.trans (congrArg some (by kernel_rfl))⟩
 t3:=Tryz.underlying3
 a3:=Tryz.isAgg3
 z3:=Tryz.sizeOf3
 v3:=Tryz.zeroValue3
 t4:=Tryz.underlying4
 a4:=Tryz.isAgg4
 z4:=Tryz.sizeOf4
 v4:=Tryz.zeroValue4
 t22:=Tryz.underlying3
 a22:=Tryz.isAgg3
 z22:=Tryz.sizeOf3
 v22:=Tryz.zeroValue3}
def Tryz.sortV_ren:Go.Shelf.Ren:=⟨fun | 6=>89 | 15=>77 | 14=>110 | 28=>102 | 29=>103 | 20=>118 | 21=>119 | 22=>120 | 23=>121 | 24=>122 | 25=>123 | 26=>124 | 27=>125 | 46=>127 | 47=>112 | 48=>113 | 49=>128 | 50=>129 | 57=>130 | n=>n,fun | 22=>27 | 24=>39 | 25=>119 | 3=>3 | 39=>122 | 0=>0 | 53=>144 | 55=>103 | 4=>4 | 46=>136 | 45=>135 | 50=>141 | 5=>5 | 9=>9 | 66=>151 | 70=>155 | 76=>163 | 77=>164 | n=>n,fun | n=>n⟩
theorem Tryz.sortV:Go.Proofs.SlLaysF0.n6 Tryz.prog Tryz.sortV_ren:={
 mixed:=by kernel_rfl
 f6:=⟨Tryz.f89.name,by decide,Tryz.func89.trans (congrArg some (by kernel_rfl))⟩
 f14:=⟨Tryz.f110.name,by decide,Tryz.func110.trans (congrArg some (by kernel_rfl))⟩
 f15:=Tryz.func77.trans (congrArg some (by kernel_rfl))
 f20:=⟨Tryz.f118.name,by decide,Tryz.func118.trans (congrArg some (by kernel_rfl))⟩
 f21:=⟨Tryz.f119.name,by decide,Tryz.func119.trans (congrArg some (by kernel_rfl))⟩
 f22:=⟨Tryz.f120.name,by decide,Tryz.func120.trans (congrArg some (by kernel_rfl))⟩
 f23:=⟨Tryz.f121.name,by decide,Tryz.func121.trans (congrArg some (by kernel_rfl))⟩
 f24:=⟨Tryz.f122.name,by decide,Tryz.func122.trans (congrArg some (by kernel_rfl))⟩
 f25:=⟨Tryz.f123.name,by decide,Tryz.func123.trans (congrArg some (by kernel_rfl))⟩
 f26:=⟨Tryz.f124.name,by decide,Tryz.func124.trans (congrArg some (by kernel_rfl))⟩
 f27:=⟨Tryz.f125.name,by decide,Tryz.func125.trans (congrArg some (by kernel_rfl))⟩
 f28:=Tryz.func102.trans (congrArg some (by kernel_rfl))
 f29:=Tryz.func103.trans (congrArg some (by kernel_rfl))
 f46:=⟨Tryz.f127.name,by decide,Tryz.func127.trans (congrArg some (by kernel_rfl))⟩
 f47:=Tryz.func112.trans (congrArg some (by kernel_rfl))
 f48:=Tryz.func113.trans (congrArg some (by kernel_rfl))
 f49:=⟨Tryz.f128.name,by decide,Tryz.func128.trans (congrArg some (by kernel_rfl))⟩
 f50:=⟨Tryz.f129.name,by decide,Tryz.func129.trans (congrArg some (by kernel_rfl))⟩
 f57:=⟨Tryz.f130.name,by decide,Tryz.func130.trans (congrArg some (by kernel_rfl))⟩
 t0:=Tryz.underlying0
 a0:=Tryz.isAgg0
 z0:=Tryz.sizeOf0
 v0:=Tryz.zeroValue0
 t3:=Tryz.underlying3
 a3:=Tryz.isAgg3
 z3:=Tryz.sizeOf3
 v3:=Tryz.zeroValue3
 t4:=Tryz.underlying4
 a4:=Tryz.isAgg4
 z4:=Tryz.sizeOf4
 v4:=Tryz.zeroValue4
 t5:=Tryz.underlying5
 a5:=Tryz.isAgg5
 z5:=Tryz.sizeOf5
 v5:=Tryz.zeroValue5
 t9:=Tryz.underlying9
 a9:=Tryz.isAgg9
 z9:=Tryz.sizeOf9
 v9:=Tryz.zeroValue9
 t22:=Tryz.underlying27
 a22:=Tryz.isAgg27
 z22:=Tryz.sizeOf27
 v22:=Tryz.zeroValue27
 t25:=Tryz.underlying119
 a25:=Tryz.isAgg119
 z25:=Tryz.sizeOf119
 v25:=Tryz.zeroValue119
 t39:=Tryz.underlying122
 a39:=Tryz.isAgg122
 z39:=Tryz.sizeOf122
 v39:=Tryz.zeroValue122
 t45:=Tryz.underlying135
 a45:=Tryz.isAgg135
 z45:=Tryz.sizeOf135
 v45:=Tryz.zeroValue135
 t46:=Tryz.underlying136
 a46:=Tryz.isAgg136
 z46:=Tryz.sizeOf136
 v46:=Tryz.zeroValue136
 t50:=Tryz.underlying141
 a50:=Tryz.isAgg141
 z50:=Tryz.sizeOf141
 v50:=Tryz.zeroValue141
 t53:=Tryz.underlying144
 a53:=Tryz.isAgg144
 z53:=Tryz.sizeOf144
 v53:=Tryz.zeroValue144
 t55:=Tryz.underlying103
 a55:=Tryz.isAgg103
 z55:=Tryz.sizeOf103
 v55:=Tryz.zeroValue103
 t66:=Tryz.underlying151
 a66:=Tryz.isAgg151
 z66:=Tryz.sizeOf151
 v66:=Tryz.zeroValue151
 t70:=Tryz.underlying155
 a70:=Tryz.isAgg155
 z70:=Tryz.sizeOf155
 v70:=Tryz.zeroValue155
 t76:=Tryz.underlying163
 a76:=Tryz.isAgg163
 z76:=Tryz.sizeOf163
 v76:=Tryz.zeroValue163
 t77:=Tryz.underlying164
 a77:=Tryz.isAgg164
 z77:=Tryz.sizeOf164
 v77:=Tryz.zeroValue164}
end Go.Proofs
namespace Go.Proofs.UB
open Go Go.RowKit Go.Rm Go.Proofs Go.Shelf Go.Lib
set_option maxHeartbeats 1000000 in
theorem cmpInt (a b:Int) (w:World):Calls Tryz.prog 74 #[.int .i64 a,.int .i64 b] w fun e w'=>e= .returned (.int .i64 (Lib.compareInt a b))/\w=w':=by
 have hcon:=AnyG.cmp_Compare_int Tryz.cmpInt a b w;change Calls Tryz.prog 74 _ _ _ at hcon;exact hcon.mono fun _ _ ⟨h1,h2⟩=>⟨h1,h2.symm⟩
set_option maxHeartbeats 1000000 in
theorem aF8 (a b:Int) (w:World):Calls Tryz.prog 75 #[.int .u8 a,.int .u8 b] w fun e w'=>e= .returned (.int .i64 (Lib.compareInt a b))/\w=w':=by
 go_enter Tryz.func75,Tryz.ntmps75
 go_wp2
 all_goals
  go_ret
  refine⟨MX ?_,rfl⟩;unfold Lib.compareInt
  (repeat' split)<;>first | rfl | omega
def or3 (a b c:Int):Int:=if a≠0 then a else if b≠0 then b else c
set_option maxHeartbeats 1000000 in
theorem aF9 (a b c:Int) (B:Nat) (w:World) (h0:w.cell? ⟨B,0,none⟩=some (.int .i64 a)) (h1:w.cell? ⟨B,1,none⟩=some (.int .i64 b)) (h2:w.cell? ⟨B,2,none⟩=some (.int .i64 c)):
 Calls Tryz.prog 73 #[.slice (some ⟨B,0,none⟩) 3 3] w fun e w'=>e= .returned (.int .i64 (or3 a b c))/\w=w':=by
 by_cases ha:a=0
 ·by_cases hb:b=0
  ·by_cases hc:c=0
   ·subst ha;subst hb;subst hc
    go_enter Tryz.func73,Tryz.ntmps73
    go_wp2
    refine wp_loop_rounds 4 ?_;rw [rounds_succ]
    go_wp2
    rw [rounds_succ]
    go_wp2
    rw [rounds_succ]
    go_wp2
    rw [rounds_succ]
    go_wp2
    go_ret
    exact⟨rfl,rfl⟩
   ·subst ha;subst hb
    have hc':(c != 0)=true:=by simp [hc]
    have H:=hid hc;clear hc
    go_enter Tryz.func73,Tryz.ntmps73
    go_wp2
    refine wp_loop_rounds 3 ?_;rw [rounds_succ]
    go_wp2
    rw [rounds_succ]
    go_wp2
    rw [rounds_succ]
    go_wp2
    go_ret
    exact⟨MX (by simp [or3]),rfl⟩
  ·subst ha
   have hb':(b != 0)=true:=by simp [hb]
   have H:=hid hb;clear hb
   go_enter Tryz.func73,Tryz.ntmps73
   go_wp2
   refine wp_loop_rounds 2 ?_;rw [rounds_succ]
   go_wp2
   rw [rounds_succ]
   go_wp2
   go_ret
   exact⟨MX (by simp [or3,H.out]),rfl⟩
 ·have ha':(a != 0)=true:=by simp [ha]
  have H:=hid ha;clear ha
  go_enter Tryz.func73,Tryz.ntmps73
  go_wp2
  refine wp_loop_rounds 1 ?_;rw [rounds_succ]
  go_wp2
  go_ret
  exact⟨MX (by simp [or3,H.out]),rfl⟩
end Go.Proofs.UB
namespace Go.Proofs.UB
open Go Go.RowKit Go.Rm Go.Proofs Go.Shelf Go.Lib Go.Sort
theorem GP{P:Program}{f:FuncId}{args:Array Value}{w:World}{v:Value} (h:Calls P f args w fun e w'=>e= .returned v/\w=w'):Calls P f args w (fun e w''=>e= .returned v/\w''=w):=h.mono fun _ _ ⟨a,b⟩=>⟨a,b.symm⟩
def cf (x y:Vt):Int:=or3 (Lib.compareInt x.rd y.rd) (Lib.compareInt x.fr y.fr) (Lib.compareInt x.kd y.kd)
set_option maxRecDepth 100000 in
set_option maxHeartbeats 1000000 in
theorem Qk (x y:Vt) (W:World):Calls Tryz.prog 72 #[nU x,nU y] W fun e w'=>e= .returned (.int .i64 (cf x y))/\∃q os',w'=grow (W.drewN q) os':=by
 unfold nU cf;have hc1:=fun W=>GP (cmpInt x.rd y.rd W);have hc2:=fun W=>GP (cmpInt x.fr y.fr W);have hc3:=fun W=>GP (aF8 x.kd y.kd W);generalize Lib.compareInt x.rd y.rd=r1 at hc1 ⊢;generalize Lib.compareInt x.fr y.fr=r2 at hc2 ⊢;generalize Lib.compareInt x.kd y.kd=r3 at hc3 ⊢
 go_enter Tryz.func72,Tryz.ntmps72
 go_wp2
 have cx:=KN W x 39;have cy:=KN (W.alloc (.cells #[.int .i64 x.fr,.int .i64 x.rd,.int .u8 x.kd,.int .i64 x.va,.string x.tx] 39)) y 39;have hW2:∃W2,((W.alloc (.cells #[.int .i64 x.fr,.int .i64 x.rd,.int .u8 x.kd,.int .i64 x.va,.string x.tx] 39)).alloc (.cells #[.int .i64 y.fr,.int .i64 y.rd,.int .u8 y.kd,.int .i64 y.va,.string y.tx] 39))=W2:=⟨_,rfl⟩;obtain⟨W2,hW2⟩:=hW2;have x0:W2.cell? ⟨W.heap.size,0,none⟩=some (.int .i64 x.fr):=by rw [<-hW2];exact sH _ (cx 0 _ rfl)
 have x1:W2.cell? ⟨W.heap.size,1,none⟩=some (.int .i64 x.rd):=by rw [<-hW2];exact sH _ (cx 1 _ rfl)
 have x2:W2.cell? ⟨W.heap.size,2,none⟩=some (.int .u8 x.kd):=by rw [<-hW2];exact sH _ (cx 2 _ rfl)
 have y0:W2.cell? ⟨W.heap.size+1,0,none⟩=some (.int .i64 y.fr):=by rw [<-hW2];simp
 have y1:W2.cell? ⟨W.heap.size+1,1,none⟩=some (.int .i64 y.rd):=by rw [<-hW2];simp
 have y2:W2.cell? ⟨W.heap.size+1,2,none⟩=some (.int .u8 y.kd):=by rw [<-hW2];simp
 rw [hW2];have HW2:=hid hW2;have hsz:W2.heap.size=W.heap.size+2:=by rw [<-hW2];simp
 clear cx cy hW2;refine wp_region_still_tail 15 (by kernel_rfl) (by kernel_rfl) ?_;change wpStill _ _ W2.drew _ _ _;have x0':W2.drew.cell? ⟨W.heap.size,0,none⟩=some (.int .i64 x.fr):=x0;have x1':W2.drew.cell? ⟨W.heap.size,1,none⟩=some (.int .i64 x.rd):=x1;have x2':W2.drew.cell? ⟨W.heap.size,2,none⟩=some (.int .u8 x.kd):=x2;have y0':W2.drew.cell? ⟨W.heap.size+1,0,none⟩=some (.int .i64 y.fr):=y0;have y1':W2.drew.cell? ⟨W.heap.size+1,1,none⟩=some (.int .i64 y.rd):=y1;have y2':W2.drew.cell? ⟨W.heap.size+1,2,none⟩=some (.int .u8 y.kd):=y2;have hsz':W2.drew.heap.size=W.heap.size+2:=hsz;clear x0 x1 x2 y0 y1 y2 hsz;obtain⟨W3,hW3⟩:∃W3,W2.drew=W3:=⟨_,rfl⟩;rw [hW3]at x0' x1' x2' y0' y1' y2' hsz' ⊢;have HW3:=hid hW3;clear hW3;have HS:=hid hsz';clear hsz';simp only [List.take_succ_cons,List.take_zero,List.drop_succ_cons,List.drop_zero]
 repeat still_step
 still_call (hc1 W3)
 repeat still_step
 still_call (hc2 W3)
 repeat still_step
 still_call (hc3 W3)
 repeat still_step
 try refine wpStill_nil ?_
 have hOr:=aF9 r1 r2 r3 W2.heap.size (W2.alloc (.cells #[.int .i64 r1,.int .i64 r2,.int .i64 r3] 3)).drew (World.cell?_alloc_new ..) (World.cell?_alloc_new ..) (World.cell?_alloc_new ..)
 go_wp2_with (first | (go_at_call 73;refine hOr.mono ?_;clear hOr;rintro e w' ⟨rfl,rfl⟩) | go_in)
 go_ret
 exact⟨rfl,1,_,by rw [<-HW2.out,alloc_eq_grow,alloc_eq_grow,alloc_eq_grow,drew_grow,drew_grow,drew_grow,grow_grow,grow_grow];rfl⟩
def Ib (x y:Vt):Bool:=decide (x.rd<y.rd\/(x.rd=y.rd/\(x.fr<y.fr\/(x.fr=y.fr/\x.kd<y.kd))))
theorem Na (x y:Vt):ltOf cf x y=Ib x y:=by
 unfold ltOf cf or3 Ib Lib.compareInt;by_cases h1:x.rd<y.rd
 ·simp [h1]
 ·by_cases h2:y.rd<x.rd
  ·have h3:¬x.rd=y.rd:=by omega
   simp [h1,h2,h3]
  ·have h3:x.rd=y.rd:=by omega
   by_cases h4:x.fr<y.fr
   ·simp [h3,h4]
   ·by_cases h5:y.fr<x.fr
    ·have h6:¬x.fr=y.fr:=by omega
     simp [h3,h4,h5,h6]
    ·have h6:x.fr=y.fr:=by omega
     by_cases h7:x.kd<y.kd
     ·simp [h3,h6,h7]
     ·by_cases h8:y.kd<x.kd<;>simp [h3,h6,h7,h8]
theorem SD (x y:Vt):Ib x y=true↔(x.rd<y.rd\/(x.rd=y.rd/\(x.fr<y.fr\/(x.fr=y.fr/\x.kd<y.kd)))):=by unfold Ib;simp
theorem Nb (x y:Vt):Ib x y=false↔(y.rd<x.rd\/(x.rd=y.rd/\(y.fr<x.fr\/(x.fr=y.fr/\y.kd<=x.kd)))):=by
 unfold Ib;simp only [decide_eq_false_iff_not];omega
theorem aHo:SWO (ltOf cf)where
 irrefl x:=by rw [Na,Nb];omega
 trans x y z h1 h2:=by rw [Na,SD]at*;omega
 ntrans x y z h1 h2:=by rw [Na,Nb]at*;omega
theorem flat_get:∀(l:List Vt) (t:Nat),t<l.length*5->(l.flatMap fY)[t]? =some ((fY (l.toArray[t / 5]!))[t%5]!):=by
 intro l;induction l with
 | nil=>intro t h;simp at h
 | cons v l ih=>
  intro t h;rw [List.flatMap_cons];have hl:(fY v).length=5:=rfl;by_cases ht:t<5
  ·rw [List.getElem?_append_left (by omega)]
   have h1:t / 5=0:=by omega
   have h2:t%5=t:=by omega
   rw [h1,h2];have:((v::l).toArray)[0]! =v:=by simp
   rw [this];rw [List.getElem?_eq_getElem (by omega),getElem!_pos _ _ (by omega)]
  ·rw [List.getElem?_append_right (by omega),hl,ih (t-5) (by simp at h;omega)]
   have h1:t / 5=(t-5) / 5+1:=by omega
   have h2:t%5=(t-5)%5:=by omega
   rw [h1,h2];have:((v::l).toArray)[(t-5) / 5+1]! =l.toArray[(t-5) / 5]! :=by simp
   rw [this]
theorem GA (l:List Vt):(l.flatMap fY).length=l.length*5:=by
 induction l with
 | nil=>rfl
 | cons v l ih=>rw [List.flatMap_cons,List.length_append,ih,List.length_cons];simp [fY];omega
theorem Vm{ys:List Vt} (hso:ys.Pairwise fun x y=>Ib x y=true){a b:Vt} (ha:a∈ys) (hb:b∈ys):a=b\/Ib a b=true\/Ib b a=true:=by
 obtain⟨i,hi,rfl⟩:=List.getElem_of_mem ha;obtain⟨j,hj,rfl⟩:=List.getElem_of_mem hb;rw [List.pairwise_iff_getElem]at hso;rcases Nat.lt_trichotomy i j with h | h | h
 ·exact .inr (.inl (hso i j hi hj h))
 ·subst h;exact .inl rfl
 ·exact .inr (.inr (hso j i hj hi h))
set_option maxHeartbeats 1000000 in
theorem Vn (blk cap:Nat) (xs ys:List Vt) (W:World) (base:Nat) (hown:W.ownsRow base 39 5 (.slice (some ⟨blk,0,none⟩) xs.length cap) xs.length (xs.flatMap fY)) (hsz:xs.length<4611686018427387904)
 (hys:ys.Perm xs) (hso:ys.Pairwise fun x y=>Ib x y=true):
 Calls Tryz.prog 89 #[.slice (some ⟨blk,0,none⟩) xs.length cap,.func (.func 72) #[] #[]] W fun e W'=>e= .returned (.tuple #[])/\W'.ownsRow base 39 5 (.slice (some ⟨blk,0,none⟩) xs.length cap) ys.length (ys.flatMap fY)/\Below base W W':=by
 obtain⟨_,h | ⟨gg,cp,cur,he,hbase,hcur,hnc,hcm,hcs,htk⟩⟩:=hown
 ·cases h.1
 ·injection he with he1 he2 he3
  injection he1 with he1;injection he1 with he1;subst he1 he3
  have hH:HoldsK fY 5 W blk 0 xs.toArray:=by
   intro j hj;rw [size_flatK]at hj;rw [get_flatK _ _ _ _ hj];simp at hj;have hg:=flat_get xs j hj;rw [<-htk,List.getElem?_take,if_pos hj]at hg;have hg':cur[j]? =some ((fY (xs.toArray[j / 5]!))[j%5]!):=by simpa using hg
   constructor
   ·unfold World.cell?;simp only [hcur];simpa using hg'
   ·unfold World.frozen?;simp only [hcur];simp
  have eg:∀args w,(callFunc 72 args).run Tryz.prog w= .ok (.enter 72 args) w:=enters_of Tryz.func72 (by kernel_rfl) rfl;have hcon:=AnyQ.slices_SortFunc Tryz.sortV 5 Tryz.isAgg39 Tryz.sizeOf39 fY (fun _=>rfl) (fun v=>UF v) cf aHo 72 #[] blk 0 cap xs.toArray W eg (fun _ _ _ _ x y=>Qk x y _) hH (Array.getElem?_eq_some_iff.1 hcur).1 (by simpa using hsz);change Calls Tryz.prog 89 _ _ _ at hcon;refine Calls.mono hcon ?_
  rintro e w' ⟨rfl,d',n,os,hp,hs,rfl⟩
  obtain⟨hds,_,hperm⟩:=hp;have e1:d'.extract 0 xs.toArray.size=d':=by rw [<-hds];exact Array.extract_size
  rw [e1,Array.extract_size]at hperm
  have hd:d'.toList=ys:=by
   refine List.Perm.eq_of_pairwise (le:=fun x y=>Ib y x=false) ?_ ?_ ?_ (hperm.trans hys.symm)
   ·intro a b ha hb h1 h2
    rcases Vm hso (hys.symm.subset (by simpa using hperm.subset ha)) hb with h | h | h
    ·exact h
    ·rw [h]at h2;cases h2
    ·rw [h]at h1;cases h1
   ·rw [List.pairwise_iff_getElem]
    intro i j hi hj hij;have hi':i<d'.size:=by simpa using hi
    have hj':j<d'.size:=by simpa using hj
    have:=hs i j (Nat.zero_le _) hij (by omega);rw [getElem!_pos d' j hj',getElem!_pos d' i hi',Na]at this;simpa using this
   ·refine hso.imp fun {a b} h=>?_
    cases hba:Ib b a with
    | false=>rfl
    | true=>rw [SD]at h hba;omega
  have hlen:ys.length=xs.length:=hys.length_eq;have hbl:=(Array.getElem?_eq_some_iff.1 hcur).1
  have hput:(putRowK fY 5 (Go.Sort.ahead W n) blk 0 d').heap[blk]? =some (.cells (putCells id 0 (flatK fY 5 d') cur) 39 (0,0)):=by
   show((Go.Sort.ahead W n).heap.modify blk _)[blk]? =_;rw [Array.getElem?_modify,if_pos rfl];show Option.map _ W.heap[blk]? =_;rw [hcur];rfl
  have hgr:∀k,k<W.heap.size->(sortWorldK fY 5 W blk 0 n d' os).heap[k]? =(putRowK fY 5 (Go.Sort.ahead W n) blk 0 d').heap[k]? :=by
   intro k hk;show((putRowK fY 5 (Go.Sort.ahead W n) blk 0 d').heap++os)[k]? =_;rw [Array.getElem?_append_left];show k<(W.heap.modify blk _).size;rw [Array.size_modify];exact hk
  have hoth:∀k,k≠blk->(putRowK fY 5 (Go.Sort.ahead W n) blk 0 d').heap[k]? =W.heap[k]? :=by
   intro k hk;show(W.heap.modify blk _)[k]? =_;rw [Array.getElem?_modify,if_neg (Ne.symm hk)]
  refine⟨rfl,⟨GA _,.inr ⟨blk,cap,_,by rw [hlen],hbase,(hgr blk hbl).trans hput,by omega,hcm,by simp [putCells,hcs],?_⟩⟩,rfl,rfl,rfl,?_,fun k hk=>(hgr k (by omega)).trans (hoth k (by omega))⟩
  ·have hfs:(flatK fY 5 d').size=ys.length*5:=by rw [size_flatK,<-hd];simp
   apply List.ext_getElem?;intro t;rw [List.getElem?_take];by_cases ht:t<ys.length*5
   ·rw [if_pos ht]
    have hg:=flat_get ys t ht;rw [hg];have htc:t<cur.size:=by rw [hcs];have:xs.length*5<=cap*5:=Nat.mul_le_mul_right _ hnc;omega
    have:(putCells id 0 (flatK fY 5 d') cur)[t]? =some ((flatK fY 5 d')[t]!):=by
     unfold putCells;rw [Array.getElem?_mapIdx,Array.getElem?_eq_getElem htc];simp [hfs,ht]
    rw [Array.getElem?_toList,this,get_flatK _ _ _ _ (by rw [<-hfs,size_flatK]at ht;exact ht)];have:d'=ys.toArray:=by rw [<-hd]
    rw [this]
   ·rw [if_neg ht,List.getElem?_eq_none (by rw [GA];omega)]
  ·show W.heap.size<=((W.heap.modify blk _)++os).size
   rw [Array.size_append,Array.size_modify];omega
theorem Bc{W:World}{base base':Nat}{e:TypeId}{size:Nat}{v:Value}{n:Nat}{xs:List Value} (h:W.ownsRow base e size v n xs) (hb:base'<=base):W.ownsRow base' e size v n xs:=by
 obtain⟨h1,h | ⟨g,cap,cur,h2,h3,h5⟩⟩:=h
 ·exact⟨h1,.inl h⟩
 ·exact⟨h1,.inr ⟨g,cap,cur,h2,Nat.le_trans hb h3,h5⟩⟩
set_option maxHeartbeats 1000000 in
theorem Fv (Bm bm:Nat) (es:Array MapEntry) (clock:Nat) (w:World) (hsz:es.size<=1000000)
 (hm:w.cell? ⟨Bm,0,none⟩=some (.map (some bm))) (hb:w.heap[bm]? =some (.map es clock)) (hs:zX es clock) (hv:∀e∈es.toList,e.val=nU (dv e)):
 Calls Tryz.prog 88 #[.func (.func 90) #[] #[.pointer (some ⟨Bm,0,none⟩)]] w fun e W'=>∃(v:Value) (xs:List Vt),e= .returned v/\xs.Perm (es.toList.map dv)/\W'.ownsRow w.heap.size 39 5 v xs.length (xs.flatMap fY)/\(v= .slice none 0 0↔xs=[])/\Below w.heap.size w W':=by
 have hcon:=(callsIn_wide (n:=3)).1 (appendSeq_in _ 3 trivial trivial rfl (by omega) Bm bm es clock w hsz hm hb hs hv)
 go_enter Tryz.func88,Tryz.ntmps88
 go_wp2_with (first | (go_at_call 109;refine hcon.mono ?_;clear hcon;rintro e w' ⟨v,xs,rfl,h1,h2,hnl,h3⟩) | go_in)
 go_ret
 exact⟨v,xs,rfl,h1,h2,hnl,h3⟩
set_option maxHeartbeats 1000000 in
theorem Jr (Bm bm:Nat) (es:Array MapEntry) (clock:Nat) (w:World) (hsz:es.size<=1000000)
 (hm:w.cell? ⟨Bm,0,none⟩=some (.map (some bm))) (hb:w.heap[bm]? =some (.map es clock)) (hs:zX es clock) (hv:∀e∈es.toList,e.val=nU (dv e))
 (ys:List Vt) (hys:ys.Perm (es.toList.map dv)) (hso:ys.Pairwise fun x y=>Ib x y=true):
 Calls Tryz.prog 70 #[.func (.func 90) #[] #[.pointer (some ⟨Bm,0,none⟩)],.func (.func 72) #[] #[]] w fun e W'=>∃v:Value,e= .returned v/\W'.ownsRow w.heap.size 39 5 v ys.length (ys.flatMap fY)/\(v= .slice none 0 0↔ys=[])/\Below w.heap.size w W':=by
 have hcon:=Fv Bm bm es clock w hsz hm hb hs hv;have hlen:ys.length=es.size:=by rw [hys.length_eq];simp
 go_enter Tryz.func70,Tryz.ntmps70
 go_wp2_with (first | (go_at_call 88;refine hcon.mono ?_;clear hcon;rintro e w' ⟨v,xs,rfl,h1,h2,hnl,h3⟩) | fail)
 have hyx:ys.Perm xs:=hys.trans h1.symm;have hxl:=hyx.length_eq;rcases h2.2 with ⟨rfl,h0⟩ | ⟨g,cap,cur,rfl,_⟩
 ·have hns:=AnyF.slices_SortFunc_none Tryz.sortV none 0 (.func (.func 72) #[] #[]) w'
  change Calls Tryz.prog 89 _ _ _ at hns;have hnil:ys=[]:=List.eq_nil_of_length_eq_zero (by omega)
  go_wp2_with (first | (go_at_call 89;refine hns.mono ?_;clear hns;rintro e w1 ⟨rfl,rfl⟩) | go_in)
  go_ret
  exact⟨_,rfl,by rw [hnil];exact World.ownsRow_nil _ _ _ _,by simp [hnil],h3⟩
 ·have hns:=Vn g cap xs ys w' w.heap.size h2 (by omega) hyx hso
  have HX:=hid hxl;clear hxl hlen
  go_wp2_with (first | (go_at_call 89;refine hns.mono ?_;clear hns;rintro e w1 ⟨rfl,h4,h5⟩) | go_in)
  go_ret
  exact⟨_,rfl,h4,⟨fun h=>(nomatch h),fun h=>(by rw [h]at hyx;have:=hnl.2 hyx.symm.eq_nil;cases this)⟩,h3.trans h5⟩
set_option maxHeartbeats 1000000 in
theorem Qg{bt ot n:Nat}{es:Array MapEntry}{w:World} (h:At w bt ot n es) (ys:List Vt) (hys:ys.Perm (es.toList.map dv)) (hso:ys.Pairwise fun x y=>Ib x y=true):
 Calls Tryz.prog 45 #[.pointer (some ⟨bt,ot,none⟩)] w fun e W'=>∃v:Value,e= .returned v/\W'.ownsRow w.heap.size 39 5 v ys.length (ys.flatMap fY)/\(v= .slice none 0 0↔ys=[])/\Below w.heap.size w W':=by
 obtain⟨h1,⟨bm,clock,h2,h3,h4⟩,h5,h6,h7⟩:=h;have hcon:=Jr w.heap.size bm es clock (w.alloc (.cells #[.map (some bm)] 94)) h6 (World.cell?_alloc_new ..) ((Below.heap_alloc _ _ _ (Array.getElem?_eq_some_iff.1 h3).1).trans h3) h4 (fun e he=>(h7 e he).1) ys hys hso
 go_enter Tryz.func45,Tryz.ntmps45
 go_wp2_with (first | (go_at_call 70;refine hcon.mono ?_;clear hcon;rintro e w' ⟨v,rfl,q1,qn,q2⟩) | go_in)
 go_ret
 exact⟨_,rfl,Bc q1 (by simp),qn,((Below.refl _ _).alloc (Nat.le_refl _) _).trans (q2.mono (by simp))⟩
end Go.Proofs.UB
namespace Go.Am
open Go.RowKit Go.MapKept Go.Proofs Go.Proofs.UB Go.Rm
noncomputable def CJ (v:Value) (z:Bool) (k:Nat->Int->Int->List UInt8->Bool):Bool:=
 match v with
 | .agg ⟨[.int .i64 (.ofNat f),.int .i64 r,.int .u8 q,.int .i64 _,.string s]⟩=>k f r q s.data.toList
 | _=>z
noncomputable def aF5 (n c:Nat) (es:List MapEntry):Bool:=
 fD (β:=Nat->Bool) (fun _=>true) (fun e _ ih lo=>match Nat.ble lo e.born,Nat.blt e.born c,CJ e.val false (fun f _ _ _=>Nat.ble f n)with
  | true,true,true=>ih (Nat.succ e.born)
  | _,_,_=>false) es 0
noncomputable def GM (S:St) (v:Value) (k:Nat->List MapEntry->Bool):Bool:=
 match v with
 | .pointer (some ⟨i,o,none⟩)=>AZ S i o 2 fun l=>match l with
  | [.int .i64 (.ofNat n),.map (some m)]=>oV S.h m fun ob=>match ob with
   | .map es c=>vX es fun q=>match Nat.ble n 1000000,Nat.ble q 1000000,aF5 n c es with
    | true,true,true=>k n es
    | _,_,_=>false
   | _=>false
  | _=>false
 | _=>false
theorem Vf{v:Value}{n:Nat} (h:CJ v false (fun f _ _ _=>Nat.ble f n)=true):v=nU (dec v)/\lP v=true/\∃f:Nat,(dec v).fr=(f:Int)/\f<=n:=by
 unfold CJ at h;split at h
 ·rename_i f r q va s
  exact⟨rfl,rfl,f,rfl,by simpa using h⟩
 ·cases h
theorem aAL:∀{es:List MapEntry} {n c lo:Nat},(fD (β:=Nat->Bool) (fun _=>true) (fun e _ ih lo=>match Nat.ble lo e.born,Nat.blt e.born c,CJ e.val false (fun f _ _ _=>Nat.ble f n)with
 | true,true,true=>ih (Nat.succ e.born)
 | _,_,_=>false) es lo)=true->(∀e∈es,lo<=e.born/\e.born<c/\e.val=nU (dv e)/\lP e.val=true/\∃f:Nat,(dv e).fr=(f:Int)/\f<=n)/\(es.map (·.born)).Nodup:=by
 intro es;induction es with
 | nil=>intro n c lo _;simp
 | cons e es ih=>
  intro n c lo h;rw [bG]at h;split at h
  ·rename_i h1 h2 h3
   obtain⟨g1,g2⟩:=ih h;obtain⟨k1,k0,k2⟩:=Vf h3;have h1':lo<=e.born:=by simpa using h1
   have h2':e.born<c:=by
    have:=h2;simp only [Nat.blt_eq]at this;exact this
   refine⟨fun x hx=>?_,?_⟩
   ·rcases List.mem_cons.1 hx with rfl | hx
    ·exact⟨h1',h2',k1,k0,k2⟩
    ·obtain⟨q1,q2⟩:=g1 x hx
     exact⟨by omega,q2⟩
   ·simp only [List.map_cons,List.nodup_cons]
    refine⟨fun hm=>?_,g2⟩;obtain⟨x,hx,hb⟩:=List.mem_map.1 hm;have:=(g1 x hx).1;omega
  ·cases h
section
variable{w0:World}{U:Rn}{S:St}{w:World}
theorem aAM{l l':List MapEntry} (h:eH U l l') (hf:∀e∈l,lP e.val=true):l'=l:=by
 apply List.ext_getElem?;intro k;cases hk:l[k]? with
 | none=>
  rw [List.getElem?_eq_none_iff]at*;rw [<-h.1];exact hk
 | some e=>
  have hlt:k<l'.length:=by rw [<-h.1];exact(List.getElem?_eq_some_iff.1 hk).1
  rw [List.getElem?_eq_getElem hlt];obtain⟨h1,_,h3,h4⟩:=h.2 k e l'[k] hk (List.getElem?_eq_getElem hlt);have h5:=h4.Dy (hf e (List.mem_of_getElem? hk))
  congr 1
  cases hx:l'[k];rw [hx]at h1 h3 h5;cases e;simp at*;exact⟨h1,h5,h3⟩
theorem BF{v v':Value}{k:Nat->List MapEntry->Bool} (hk:GM S v k=true) (h:Rel Tryz.prog w0 U S w) (hv:VR U v v'):
 ∃bt ot n es,v'= .pointer (some ⟨bt,ot,none⟩)/\k n es=true/\At w bt ot n ⟨es⟩:=by
 unfold GM at hk;split at hk
 ·rename_i i o
  obtain⟨vs,e,c,ho,hle,hk⟩:=sM hk;split at hk
  ·rename_i n m hl
   obtain⟨ob,hob,hk⟩:=Qb hk;split at hk
   ·rename_i es clk
    rw [iW]at hk;split at hk
    ·rename_i c1 c2 c3
     obtain⟨g1,g2⟩:=aAL c3;cases hv with
     | flat h=>simp [bH]at h
     | ptr hL=>
      rename_i L
      have e0:vs[o]? =some (.int .i64 (.ofNat n)):=by
       have:=congrArg (·[0]?) hl;simpa [List.getElem?_take,List.getElem?_drop]using this
      have e1:vs[o+1]? =some (.map (some m)):=by
       have:=congrArg (·[1]?) hl;simpa [List.getElem?_take,List.getElem?_drop]using this
      obtain⟨u0,hu0,hr0⟩:=h.TR ho hL e0;obtain⟨u1,hu1,hr1⟩:=h.TR ho hL e1;obtain rfl:=hr0.of_flat rfl;cases hr1 with
      | flat h=>simp [bH]at h
      | map hM=>
       rename_i M;obtain⟨M',es',hM',_,hb,hes⟩:=h.map' hob;rw [hM]at hM';injection hM' with hM';subst hM';have hes':es'.toList=es:=aAM hes fun e he=>(g1 e he).2.2.2.1;refine⟨_,_,n,es,rfl,hk,⟨hu0,⟨M.b,clk,hu1,?_,⟨fun x hx=>(g1 x hx).2.1,g2⟩⟩,by simpa using c1,by simpa using c2,fun e he=>⟨(g1 e he).2.2.1,(g1 e he).2.2.2.2⟩⟩⟩;rw [hb,<-hes']
    ·cases hk
   ·cases hk
  ·cases hk
 ·cases hk
end
noncomputable def hasB (pe:MapEntry->Nat->Bool) (es:List MapEntry) (i:Nat):Bool:=fD (β:=Bool) false (fun e _ ih=>dW (pe e i) true ih) es
noncomputable def Jk (pe:MapEntry->Nat->Bool) (es:List MapEntry) (n:Nat) (K:Nat->Bool):Bool:=
 FG (β:=Nat->Bool) K (fun i ih acc=>dW (hasB pe es i) (cF (Nat.succ acc) ih) (ih acc)) (Nat.succ n) 0
theorem aAN{pe:MapEntry->Nat->Bool}{p:Vt->Bool}{i:Nat}:∀{es:List MapEntry},(∀e∈es,pe e i=(p (dv e)&&(dv e).fr==(i:Int)))->hasB pe es i=(cnt p (es.map dv) i != 0):=by
 intro es;induction es with
 | nil=>intro _;rfl
 | cons e es ih=>
  intro h;have ih:=ih fun x hx=>h x (List.mem_cons_of_mem _ hx);unfold hasB at ih ⊢;rw [bG,h e List.mem_cons_self,ih];unfold cnt;rw [List.map_cons,List.filter_cons];cases hb:(p (dv e)&&(dv e).fr==(i:Int))<;>simp [dW]
theorem Mx{pe:MapEntry->Nat->Bool}{es:List MapEntry}{K:Nat->Bool}:∀(m acc:Nat),FG (β:=Nat->Bool) K (fun i ih acc=>dW (hasB pe es i) (cF (Nat.succ acc) ih) (ih acc)) m acc=K (acc+((List.range m).filter fun i=>hasB pe es i).length):=by
 intro m;induction m with
 | zero=>intro acc;simp [OL]
 | succ m ih=>
  intro acc;rw [XW,List.range_succ,List.filter_append,List.length_append];cases hb:hasB pe es m
  ·show FG K _ m acc=_
   rw [ih];simp [hb]
  ·show cF (Nat.succ acc) (FG K _ m)=_
   rw [bI,ih];simp [hb];congr 1;omega
theorem Az{pe:MapEntry->Nat->Bool}{p:Vt->Bool}{es:List MapEntry}{n:Nat}{K:Nat->Bool} (h:∀i,∀e∈es,pe e i=(p (dv e)&&(dv e).fr==(i:Int))):Jk pe es n K=K (mem p n (es.map dv)):=by
 unfold Jk mem;rw [Mx]
 congr 1
 simp only [Nat.zero_add]
 congr 2
 funext i
 rw [aAN (h i)]
noncomputable def Bb (a b:Bool):Bool:=dW a b false
theorem qF (a b:Bool):Bb a b=(a&&b):=by cases a<;>rfl
noncomputable def MU (a b:MapEntry):Bool:=
 CJ a.val false fun f r q _=>CJ b.val false fun f' r' q' _=>dW (WJ r r') true (Bb (RX r r') (dW (Nat.blt f f') true (Bb (Nat.beq f f') (WJ q q'))))
noncomputable def Qc (e:MapEntry) (l:List MapEntry) (k:List MapEntry->Bool):Bool:=
 fD (β:=(List MapEntry->Bool)->Bool) (fun k=>k [e]) (fun x t ih k=>dW (MU e x) (k (e::x::t)) (ih fun t'=>k (x::t'))) l k
noncomputable def sortK (es:List MapEntry) (k:List MapEntry->Bool):Bool:=
 fD (β:=(List MapEntry->Bool)->Bool) (fun k=>k []) (fun e _ ih k=>ih fun s=>Qc e s k) es k
noncomputable def chainB (l:List MapEntry):Bool:=
 fD (β:=Bool) true (fun e t ih=>match t with | []=>true | x::_=>dW (MU e x) ih false) l
noncomputable def flatK' (l:List MapEntry) (k:List Value->Bool):Bool:=
 fD (β:=(List Value->Bool)->Bool) (fun k=>k []) (fun e _ ih k=>match e.val with | .agg ⟨vs⟩=>ih fun t=>uM vs t k | _=>false) l k
theorem Qd{e:MapEntry}:∀{l:List MapEntry} {k:List MapEntry->Bool},Qc e l k=true->∃s,s.Perm (e::l)/\k s=true:=by
 intro l;induction l with
 | nil=>intro k h;exact⟨[e],.refl _,h⟩
 | cons x t ih=>
  intro k h;unfold Qc at h ih;rw [bG]at h;cases hb:MU e x
  ·rw [hb]at h
   obtain⟨s,hs,hk⟩:=ih h;exact⟨x::s,(hs.cons x).trans (List.Perm.swap e x t),hk⟩
  ·rw [hb]at h
   exact⟨_,.refl _,h⟩
theorem Jl:∀{es:List MapEntry} {k:List MapEntry->Bool},sortK es k=true->∃s,s.Perm es/\k s=true:=by
 intro es;induction es with
 | nil=>intro k h;exact⟨[],.refl _,h⟩
 | cons e es ih=>
  intro k h;unfold sortK at h ih;rw [bG]at h;obtain⟨s,hs,h⟩:=ih h;obtain⟨s',hs',h⟩:=Qd h;exact⟨s',hs'.trans (hs.cons e),h⟩
theorem Vg{a b:MapEntry} (h:MU a b=true):Ib (dv a) (dv b)=true:=by
 unfold MU CJ at h;split at h
 ·rename_i f r q va s ha
  split at h
  ·rename_i f' r' q' va' s' hb
   rw [SD];unfold dv;rw [ha,hb];simp only [dec];dsimp only at h;cases h1:WJ r r'
   ·rw [h1]at h
    simp only [dW,qF,qL,Bool.and_eq_true,beq_iff_eq]at h;obtain⟨h2,h3⟩:=h;refine .inr ⟨h2,?_⟩;cases h4:Nat.blt f f'
    ·rw [h4]at h3
     simp only [Bool.and_eq_true,Nat.beq_eq,zP,decide_eq_true_eq]at h3;exact .inr ⟨by rw [h3.1],h3.2⟩
    ·simp only [Nat.blt_eq]at h4
     exact .inl (by simpa using h4)
   ·rw [zP,decide_eq_true_eq]at h1
    exact .inl h1
  ·cases h
 ·cases h
theorem Qe:∀{l:List MapEntry},chainB l=true->(l.map dv).Pairwise fun x y=>Ib x y=true:=by
 intro l;induction l with
 | nil=>intro _;exact .nil
 | cons e t ih=>
  intro h;unfold chainB at h ih;rw [bG]at h;cases t with
  | nil=>simp
  | cons x t=>
   simp only at h;cases hb:MU e x
   ·rw [hb]at h;cases h
   ·rw [hb]at h
    have hp:=ih h;rw [List.map_cons,List.pairwise_cons];refine⟨fun y hy=>?_,hp⟩;have hx:=Vg hb;rw [List.map_cons]at hy;rcases List.mem_cons.1 hy with rfl | hy
    ·exact hx
    ·have:=(List.pairwise_cons.1 hp).1 y hy
     rw [SD]at hx this ⊢;omega
theorem Fp:∀{l:List MapEntry} {k:List Value->Bool},flatK' l k=true->(∀e∈l,e.val=nU (dv e))->k ((l.map dv).flatMap fY)=true:=by
 intro l;induction l with
 | nil=>intro k h _;exact h
 | cons e t ih=>
  intro k h he;unfold flatK' at h ih;rw [bG]at h;split at h
  ·rename_i vs hv
   have:=ih h fun x hx=>he x (List.mem_cons_of_mem _ hx);rw [jJ]at this
   have hvs:vs=fY (dv e):=by
    have:=he e List.mem_cons_self;rw [hv]at this;injection this with this;injection this
   rw [List.map_cons,List.flatMap_cons,<-hvs];exact this
  ·cases h
noncomputable def OY (args:List Value) (S:St) (K:VK):Bool:=
 match args with
 | [t,.int .i64 rd]=>GM S t fun n es=>Jk (fun e i=>CJ e.val false fun f r _ _=>Bb (RX r rd) (Nat.beq f i)) es n fun c=>K (.int .i64 (.ofNat c)) S
 | _=>false
noncomputable def YK (args:List Value) (S:St) (K:VK):Bool:=
 match args with
 | [t,.int .i64 rd,.int .u8 kd]=>GM S t fun n es=>Jk (fun e i=>CJ e.val false fun f r q _=>Bb (Bb (RX r rd) (RX q kd)) (Nat.beq f i)) es n fun c=>K (.int .i64 (.ofNat c)) S
 | _=>false
noncomputable def HR (args:List Value) (S:St) (K:VK):Bool:=
 match args with
 | [t,.int .i64 rd,.int .u8 kd,.string tx]=>GM S t fun n es=>Jk (fun e i=>CJ e.val false fun f r q s=>Bb (Bb (Bb (RX r rd) (RX q kd)) (RD s tx.data.toList)) (Nat.beq f i)) es n fun c=>K (.int .i64 (.ofNat c)) S
 | _=>false
noncomputable def HT (args:List Value) (S:St) (K:VK):Bool:=
 match args with
 | [t]=>GM S t fun _ es=>sortK es fun ss=>match chainB ss with
  | true=>flatK' ss fun cs=>vX ss fun n=>match n with
   | 0=>K (.slice none 0 0) S
   | n'+1=>qW S (.cells cs 39 (.grown [])) fun i S=>K (.slice (some ⟨i,0,some 0⟩) (n'+1) (n'+1)) S
  | false=>false
 | _=>false
theorem UC{v:Value}{u:Vt}{f:Nat} (h:v=nU u) (hf:u.fr=(f:Int)) (z:Bool) (k:Nat->Int->Int->List UInt8->Bool):CJ v z k=k f u.rd u.kd u.tx.data.toList:=by
 subst h;unfold nU;rw [hf];rfl
theorem UD (f i:Nat):Nat.beq f i=((f:Int)==(i:Int)):=by
 rw [Bool.eq_iff_iff];simp only [Nat.beq_eq,beq_iff_eq];omega
section
variable{w0:World}
theorem OZ{f:FuncId}{args':List Value}{S:St}{K:VK}{U:Rn}{w:World}{c:Nat} (h:Rel Tryz.prog w0 U S w) (hk:K (.int .i64 (.ofNat c)) S=true)
 (hc:Calls Tryz.prog f ⟨args'⟩ w fun e w'=>e= .returned (.int .i64 (c:Int))/\Below w.heap.size w w'):CallsIn (KH none) 0 Tryz.prog f ⟨args'⟩ w (Back Tryz.prog w0 U w K):=by
 refine callsIn_wide.2 (hc.mono ?_)
 rintro e w' ⟨rfl,hb⟩
 obtain⟨h1,h2⟩:=h.below hb;exact⟨_,rfl,U,_,S,hk,.flat rfl,h1,h2⟩
theorem MV{U:Rn}{q:IntKind}{n:Int}{v:Value} (h:VR U (.int q n) v):v= .int q n:=h.of_flat rfl
theorem Jm{U:Rn}{s:ByteArray}{v:Value} (h:VR U (.string s) v):v= .string s:=h.of_flat rfl
theorem Qf:jU Tryz.prog w0 (fun f' args S K=>match Nat.beq f' 81 with | true=>OY args S K | false=>false):=by
 intro f args S K U w args' hk h ha;dsimp only at hk;split at hk
 ·rename_i hf
  obtain rfl:f=81:=by simpa using hf
  refine⟨enters_of Tryz.func81 (by kernel_rfl) rfl ⟨args'⟩,?_⟩;unfold OY at hk;split at hk
  ·rename_i t rd
   obtain⟨t',l',rfl,ht,ha⟩:=ha.cC;obtain⟨r',l',rfl,hr,ha⟩:=ha.cC;cases ha.iN;obtain rfl:=MV hr;obtain⟨bt,ot,n,es,rfl,hk,hat⟩:=BF hk h ht
   rw [Az (p:=fun v=>v.rd==rd) (fun i e he=>by
    obtain⟨h1,f,h2,h3⟩:=hat.My e he;rw [UC h1 h2,qF,qL,h2,UD])]at hk
   exact OZ h hk (Vh hat rd)
  ·cases hk
 ·cases hk
theorem Vi:jU Tryz.prog w0 (fun f' args S K=>match Nat.beq f' 68 with | true=>YK args S K | false=>false):=by
 intro f args S K U w args' hk h ha;dsimp only at hk;split at hk
 ·rename_i hf
  obtain rfl:f=68:=by simpa using hf
  refine⟨enters_of Tryz.func68 (by kernel_rfl) rfl ⟨args'⟩,?_⟩;unfold YK at hk;split at hk
  ·rename_i t rd kd
   obtain⟨t',l',rfl,ht,ha⟩:=ha.cC;obtain⟨r',l',rfl,hr,ha⟩:=ha.cC;obtain⟨k',l',rfl,hq,ha⟩:=ha.cC;cases ha.iN;obtain rfl:=MV hr;obtain rfl:=MV hq;obtain⟨bt,ot,n,es,rfl,hk,hat⟩:=BF hk h ht
   rw [Az (p:=fun v=>v.rd==rd&&v.kd==kd) (fun i e he=>by
    obtain⟨h1,f,h2,h3⟩:=hat.My e he;rw [UC h1 h2,qF,qF,qL,qL,h2,UD])]at hk
   exact OZ h hk (aAO hat rd kd)
  ·cases hk
 ·cases hk
theorem Jn:jU Tryz.prog w0 (fun f' args S K=>match Nat.beq f' 105 with | true=>HR args S K | false=>false):=by
 intro f args S K U w args' hk h ha;dsimp only at hk;split at hk
 ·rename_i hf
  obtain rfl:f=105:=by simpa using hf
  refine⟨enters_of Tryz.func105 (by kernel_rfl) rfl ⟨args'⟩,?_⟩;unfold HR at hk;split at hk
  ·rename_i t rd kd tx
   obtain⟨t',l',rfl,ht,ha⟩:=ha.cC;obtain⟨r',l',rfl,hr,ha⟩:=ha.cC;obtain⟨k',l',rfl,hq,ha⟩:=ha.cC;obtain⟨x',l',rfl,hx,ha⟩:=ha.cC;cases ha.iN;obtain rfl:=MV hr;obtain rfl:=MV hq;obtain rfl:=Jm hx;obtain⟨bt,ot,n,es,rfl,hk,hat⟩:=BF hk h ht
   rw [Az (p:=fun v=>v.rd==rd&&v.kd==kd&&v.tx.toList==tx.toList) (fun i e he=>by
    obtain⟨h1,f,h2,h3⟩:=hat.My e he;rw [UC h1 h2,qF,qF,qF,qL,qL,yJ,h2,UD,Lib.toList_data,Lib.toList_data])]at hk
   exact OZ h hk (count_any hat rd kd tx)
  ·cases hk
 ·cases hk
theorem aDc:bQ Tryz.prog 39=some 5:=by kernel_rfl
theorem Fq (l:List Vt):∀v∈l.flatMap fY,bH v=true:=by
 intro v hv;obtain⟨x,_,hx⟩:=List.mem_flatMap.1 hv;simp [fY]at hx;rcases hx with rfl | rfl | rfl | rfl | rfl<;>rfl
theorem Jo:jU Tryz.prog w0 (fun f' args S K=>match Nat.beq f' 45 with | true=>HT args S K | false=>false):=by
 intro f args S K U w args' hk h ha;dsimp only at hk;split at hk
 ·rename_i hf
  obtain rfl:f=45:=by simpa using hf
  refine⟨enters_of Tryz.func45 (by kernel_rfl) rfl ⟨args'⟩,?_⟩;unfold HT at hk;split at hk
  ·rename_i t
   obtain⟨t',l',rfl,ht,ha⟩:=ha.cC;cases ha.iN;obtain⟨bt,ot,n,es,rfl,hk,hat⟩:=BF hk h ht;obtain⟨ss,hperm,hk⟩:=Jl hk;split at hk
   ·rename_i hch
    have hk:=Fp hk fun e he=>(hat.My e (hperm.subset he)).1;rw [iW]at hk;refine callsIn_wide.2 ((Qg hat (ss.map dv) (hperm.map dv) (Qe hch)).mono ?_)
    rintro e w' ⟨v,rfl,hown,hnil,hb⟩
    split at hk
    ·rename_i h0
     obtain rfl:=hnil.2 (List.eq_nil_of_length_eq_zero (by simpa using h0));obtain⟨h1,h2⟩:=h.below hb;exact⟨_,rfl,U,_,S,hk,.flat rfl,h1,h2⟩
    ·rename_i n' hn'
     rw [gD]at hk;rcases hown.2 with ⟨rfl,h0⟩ | ⟨g,cap,cur,rfl,hg,hcur,hnc,hcm,hcs,htk⟩
     ·simp at h0;rw [h0]at hn';simp at hn'
     ·have hlen:(ss.map dv).length=n'+1:=by simpa using hn'
      obtain⟨h1,h2⟩:=h.Ve hb aDc hg hcur (jP.flat (Fq (ss.map dv))) (by rw [Go.Proofs.UB.GA];exact htk);refine⟨_,rfl,_,_,_,hk,?_,h1,h2⟩;rw [hlen];have:=VR.mP (U:=U.put S.n ⟨g,0,cur.size,5⟩) (i:=S.n) (o:=0) (n:=n'+1) (c:=n'+1) (c':=cap) (Rn.iJ _ _ _) (by omega) (Nat.le_refl _) (by simp [hcs]) (by simp);simpa using this
   ·cases hk
  ·cases hk
 ·cases hk
noncomputable def ovT (f:FuncId):Option (List Value->St->VK->Bool):=
 dW (Nat.beq f 105) (some HR) (dW (Nat.beq f 45) (some HT) (dW (Nat.beq f 68) (some YK) (dW (Nat.beq f 81) (some OY) none)))
theorem Vc:Ty Tryz.prog w0 ovT:=by
 intro f g hg;unfold ovT at hg;cases h1:Nat.beq f 105
 ·rw [h1]at hg
  cases h2:Nat.beq f 45
  ·rw [h2]at hg
   cases h3:Nat.beq f 68
   ·rw [h3]at hg
    cases h4:Nat.beq f 81
    ·rw [h4]at hg;cases hg
    ·rw [h4]at hg
     cases hg;obtain rfl:f=81:=by simpa using h4
     exact Qf
   ·rw [h3]at hg
    cases hg;obtain rfl:f=68:=by simpa using h3
    exact Vi
  ·rw [h2]at hg
   cases hg;obtain rfl:f=45:=by simpa using h2
   exact Jo
 ·rw [h1]at hg
  cases hg;obtain rfl:f=105:=by simpa using h1
  exact Jn
end
end Go.Am
namespace Go.Proofs
open Go.Shelf
def Tryz.sortS_ren:Go.Shelf.Ren:=⟨fun | 190=>46 | 125=>77 | 258=>76 | 128=>102 | 129=>103 | 302=>93 | 303=>94 | 304=>95 | 305=>96 | 306=>97 | 307=>98 | 308=>99 | 309=>100 | 310=>101 | 333=>111 | 329=>112 | 330=>113 | 334=>114 | 335=>115 | 336=>116 | 344=>126 | n=>n,fun | 31=>46 | 9=>9 | 3=>3 | 46=>122 | 0=>0 | 51=>144 | 53=>103 | 4=>4 | 183=>136 | 182=>135 | 131=>141 | 5=>5 | 218=>151 | 222=>155 | 228=>163 | 229=>164 | n=>n,fun | n=>n⟩
theorem Tryz.sortS:Go.Proofs.Lays.n190 Tryz.prog Tryz.sortS_ren:={
 mixed:=by kernel_rfl
 f125:=Tryz.func77.trans (congrArg some (by kernel_rfl))
 f128:=Tryz.func102.trans (congrArg some (by kernel_rfl))
 f129:=Tryz.func103.trans (congrArg some (by kernel_rfl))
 f190:=Tryz.func46.trans (congrArg some (by kernel_rfl))
 f258:=Tryz.func76.trans (congrArg some (by kernel_rfl))
 f302:=Tryz.func93.trans (congrArg some (by kernel_rfl))
 f303:=Tryz.func94.trans (congrArg some (by kernel_rfl))
 f304:=Tryz.func95.trans (congrArg some (by kernel_rfl))
 f305:=Tryz.func96.trans (congrArg some (by kernel_rfl))
 f306:=Tryz.func97.trans (congrArg some (by kernel_rfl))
 f307:=Tryz.func98.trans (congrArg some (by kernel_rfl))
 f308:=Tryz.func99.trans (congrArg some (by kernel_rfl))
 f309:=Tryz.func100.trans (congrArg some (by kernel_rfl))
 f310:=Tryz.func101.trans (congrArg some (by kernel_rfl))
 f329:=Tryz.func112.trans (congrArg some (by kernel_rfl))
 f330:=Tryz.func113.trans (congrArg some (by kernel_rfl))
 f333:=Tryz.func111.trans (congrArg some (by kernel_rfl))
 f334:=Tryz.func114.trans (congrArg some (by kernel_rfl))
 f335:=Tryz.func115.trans (congrArg some (by kernel_rfl))
 f336:=Tryz.func116.trans (congrArg some (by kernel_rfl))
 f344:=Tryz.func126.trans (congrArg some (by kernel_rfl))
 t0:=Tryz.underlying0
 a0:=Tryz.isAgg0
 z0:=Tryz.sizeOf0
 v0:=Tryz.zeroValue0
 t3:=Tryz.underlying3
 a3:=Tryz.isAgg3
 z3:=Tryz.sizeOf3
 v3:=Tryz.zeroValue3
 t4:=Tryz.underlying4
 a4:=Tryz.isAgg4
 z4:=Tryz.sizeOf4
 v4:=Tryz.zeroValue4
 t5:=Tryz.underlying5
 a5:=Tryz.isAgg5
 z5:=Tryz.sizeOf5
 v5:=Tryz.zeroValue5
 t9:=Tryz.underlying9
 a9:=Tryz.isAgg9
 z9:=Tryz.sizeOf9
 v9:=Tryz.zeroValue9
 t31:=Tryz.underlying46
 a31:=Tryz.isAgg46
 z31:=Tryz.sizeOf46
 v31:=Tryz.zeroValue46
 t46:=Tryz.underlying122
 a46:=Tryz.isAgg122
 z46:=Tryz.sizeOf122
 v46:=Tryz.zeroValue122
 t51:=Tryz.underlying144
 a51:=Tryz.isAgg144
 z51:=Tryz.sizeOf144
 v51:=Tryz.zeroValue144
 t53:=Tryz.underlying103
 a53:=Tryz.isAgg103
 z53:=Tryz.sizeOf103
 v53:=Tryz.zeroValue103
 t131:=Tryz.underlying141
 a131:=Tryz.isAgg141
 z131:=Tryz.sizeOf141
 v131:=Tryz.zeroValue141
 t182:=Tryz.underlying135
 a182:=Tryz.isAgg135
 z182:=Tryz.sizeOf135
 v182:=Tryz.zeroValue135
 t183:=Tryz.underlying136
 a183:=Tryz.isAgg136
 z183:=Tryz.sizeOf136
 v183:=Tryz.zeroValue136
 t218:=Tryz.underlying151
 a218:=Tryz.isAgg151
 z218:=Tryz.sizeOf151
 v218:=Tryz.zeroValue151
 t222:=Tryz.underlying155
 a222:=Tryz.isAgg155
 z222:=Tryz.sizeOf155
 v222:=Tryz.zeroValue155
 t228:=Tryz.underlying163
 a228:=Tryz.isAgg163
 z228:=Tryz.sizeOf163
 v228:=Tryz.zeroValue163
 t229:=Tryz.underlying164
 a229:=Tryz.isAgg164
 z229:=Tryz.sizeOf164
 v229:=Tryz.zeroValue164}
end Go.Proofs
namespace Go.Am
open Go.RowKit Go.MapKept Go.Proofs
def wI (l:List UInt8):Value:= .string ⟨⟨l⟩⟩
noncomputable def zW (ls:List (List UInt8)):List (List UInt8):=ls.mergeSort fun x y=>decide (x<=y)
open Classical in
noncomputable def KK (args:List Value) (S:St) (K:VK):Bool:=
 match args with
 | [.slice none 0 0]=>K (.tuple #[]) S
 | [.slice (some ⟨i,0,some 0⟩) n _]=>if h:∃ls:List (List UInt8),ls.length=n/\ls.length<1000000/\∃olds,S.obj i=some (.cells (ls.map wI) 9 (.grown olds))then oW S i 0 ((zW h.choose).map wI) fun S=>K (.tuple #[]) S else false
 | _=>false
theorem GN (ls:List (List UInt8)):(zW ls).length=ls.length:=List.length_mergeSort ls
theorem RM (d:List (List UInt8)) (off:Nat) (cs:Array Value) (h:off+d.length<=cs.size):Go.Sort.putCells wI off d.toArray cs=⟨splice off (d.map wI) cs.toList⟩:=by
 apply Array.ext_getElem?;intro k;have:=nS off (d.map wI) cs.toList (by simpa using h) k;simp only [List.length_map]at this;simp only [Go.Sort.putCells,Array.getElem?_mapIdx,List.size_toArray];refine Eq.trans ?_ (show(splice off (d.map wI) cs.toList)[k]? =(⟨splice off (d.map wI) cs.toList⟩:Array Value)[k]? by simp);rw [this];by_cases hk:off<=k/\k<off+d.length
 ·rw [if_pos hk,Array.getElem?_eq_getElem (show k<cs.size by omega),Option.map_some,if_pos hk,List.getElem?_map,List.getElem?_eq_getElem (show k-off<d.length by omega)]
  simp [show k-off<d.length by omega]
 ·rw [if_neg hk]
  cases hc:cs[k]? with
  | none=>rw [Option.map_none];simpa using hc.symm
  | some y=>rw [Option.map_some,if_neg hk];simpa using hc.symm
section
variable{w0:World}
theorem Qh:jU Tryz.prog w0 (fun f' args S K=>match Nat.beq f' 46 with | true=>KK args S K | false=>false):=by
 intro f args S K U w args' hk h ha;dsimp only at hk;split at hk
 ·rename_i hf
  obtain rfl:f=46:=by simpa using hf
  refine⟨enters_of Tryz.func46 (by kernel_rfl) rfl ⟨args'⟩,?_⟩;have nil:∀U',VR U' (.tuple #[]) (.tuple #[]):=fun U'=> .tuple rfl fun k v v' e _=>by simp at e
  unfold KK at hk;split at hk
  ·obtain⟨t',l',rfl,ht,ha⟩:=ha.cC
   cases ha.iN;obtain rfl:=ht.of_flat rfl;have hc:Calls Tryz.prog 46 #[.slice none 0 0] w fun e w'=>e= .returned (.tuple #[])/\w'=w:=Any.slices_Sort_string_none Tryz.sortS none 0 w;refine callsIn_wide.2 (hc.mono ?_)
   rintro e w' ⟨rfl,rfl⟩
   exact⟨_,rfl,U,_,S,hk,nil U,h,.refl U _⟩
  ·rename_i i n c
   split at hk
   ·rename_i hex
    obtain⟨h1,h2,olds,ho⟩:=hex.choose_spec;generalize hex.choose=ls at h1 h2 ho hk;obtain⟨t',l',rfl,ht,ha⟩:=ha.cC;cases ha.iN;cases ht with
    | flat q=>cases q
    | @mP _ _ _ _ c' L hL hcc hn he hm=>
     obtain⟨cs,t,fz,hb,hcell,hkind⟩:=h.cells ho hL;obtain⟨g1,g2,g3,g4,g5⟩:=hkind
     have hcl:∀j (hj:j<ls.length),cs[L.s+j]? =some (wI ls[j]):=fun j hj=>by
      obtain⟨v',hv',hr⟩:=hcell j (wI ls[j]) (by rw [List.getElem?_map,List.getElem?_eq_getElem hj];rfl);rw [hv',hr.of_flat rfl]
     have hfit:L.s+ls.length<=cs.size:=by
      rcases Nat.eq_zero_or_pos ls.length with hz | hz
      ·rw [<-g3,<-he,hz];omega
      ·have:=hcl (ls.length-1) (by omega)
       have:=(Array.getElem?_eq_some_iff.1 this).1;omega
     have hH:Go.Sort.Holds wI w L.b L.s ls.toArray:=fun j hj=>by
      have hj:j<ls.length:=by simpa using hj
      refine⟨?_,?_⟩
      ·rw [cell_of hb (hcl j hj)]
       simp [hj]
      ·have:=g2 (L.s+j) (by omega)
       unfold World.frozen?;simp only [hb];obtain⟨lo,hi⟩:=fz;rw [Bool.eq_false_iff];intro q;simp only [Bool.and_eq_true,decide_eq_true_eq]at q;exact this q
     have hc:Calls Tryz.prog 46 #[.slice (some ⟨L.b,L.s,none⟩) ls.length c'] w fun e w'=>e= .returned (.tuple #[])/\∃n os,w'=Go.Sort.grow (Go.Sort.putRow wI (Go.Sort.ahead w n) L.b L.s (zW ls).toArray) os:=
      Any.slices_Sort_string Tryz.sortS L.b L.s c' ls w hH (Array.getElem?_eq_some_iff.1 hb).1 (by omega)
     obtain⟨S',w1,k1,r1,s1,aHk⟩:=tN (new':=(zW ls).map wI) h hk hL (jP.flat fun v hv=>by
      obtain⟨u,_,rfl⟩:=List.mem_map.1 hv;rfl) (fun v hv=>by obtain⟨u,_,rfl⟩:=List.mem_map.1 hv;rfl)
     have hlen:((zW ls).map wI).length=ls.length:=by rw [List.length_map,GN]
     have aAP:=tO (P:=Tryz.prog) ((zW ls).map wI) w L.b (L.s+0) 0 cs t fz hb (by rw [hlen];omega) (fun x _ hx=>g2 x (by rw [hlen]at hx;omega)) (fun v hv=>by obtain⟨u,_,rfl⟩:=List.mem_map.1 hv;rfl);rw [aHk]at aAP;injection aAP with _ aAP;subst h1;refine callsIn_wide.2 (Calls.mono (show Calls Tryz.prog 46 #[.slice (some ⟨L.b,L.s+0,none⟩) ls.length c'] w _ from hc) ?_)
     rintro e w' ⟨rfl,m,os,rfl⟩
     have hbel:Below w1.heap.size w1 (Go.Sort.grow (Go.Sort.putRow wI (Go.Sort.ahead w m) L.b L.s (zW ls).toArray) os):=by
      subst aAP;have hsz:(w.putObj L.b (.cells ⟨splice (L.s+0+0) ((zW ls).map wI) cs.toList⟩ t fz)).heap.size=w.heap.size:=putObj_size _ _;have hhp:∀k,k<w.heap.size->(Go.Sort.grow (Go.Sort.putRow wI (Go.Sort.ahead w m) L.b L.s (zW ls).toArray) os).heap[k]? =(Go.Sort.putRow wI (Go.Sort.ahead w m) L.b L.s (zW ls).toArray).heap[k]? :=fun k hk=>Go.Sort.heap_grow_old _ os (by rw [Go.Sort.size_putRow];exact hk);refine⟨rfl,rfl,rfl,by rw [hsz,Go.Sort.size_grow,Go.Sort.size_putRow];show w.heap.size<=w.heap.size+os.size;omega,fun k hk=>?_⟩;rw [hsz]at hk;rw [hhp k hk];by_cases e:k=L.b
      ·subst e
       rw [DO hb];simp only [Go.Sort.putRow,Go.Sort.mapBlock,Array.getElem?_modify,if_true];show Option.map _ w.heap[L.b]? =_;rw [hb,Option.map_some];simp only [Go.Sort.onCells];rw [RM _ _ _ (by rw [GN];exact hfit)];rfl
      ·rw [qX e]
       simp only [Go.Sort.putRow,Go.Sort.mapBlock,Array.getElem?_modify];rw [if_neg (Ne.symm e)];rfl
     obtain⟨q1,q2⟩:=r1.below hbel;exact⟨_,rfl,U,_,S',k1,nil U,q1,s1.trans q2⟩
   ·cases hk
  ·cases hk
 ·cases hk
end
end Go.Am
set_option maxRecDepth 100000
namespace Go.Am
noncomputable def oM (x:VE) (a0:V) (S:Hp) (K:KV):Prop:=
 nW 81 a0 S fun v0 S=>
 aS (.func dS [] [v0]) S K
theorem vM (x:VE) (a0:V) (S:Hp) (K:KV):nP PP bM kA x [a0] S K=oM x a0 S K:=by kernel_rfl
noncomputable def cV (x:VE) (m:Nat) (t0 t1 t3:V) (S:Hp) (K:KV):Prop:=kH PP bM dS x [.r,.d] m [] [t0,t1,t3] S K
noncomputable def nL (x:VE) (a0 a1:V) (S:Hp) (K:KV):Prop:=
 aE a1 S fun v0 S=>
 cY v0 fun v1=>
 aF PP .sub 3 v1 (.int .i64 (.ofNat 1)) fun v2=>
 cV x x.most a0 a1 v2 S K
theorem uE (x:VE) (a0 a1:V) (S:Hp) (K:KV):nP PP bM dS x [a0,a1] S K=nL x a0 a1 S K:=by kernel_rfl
noncomputable def gU (x:VE) (m0:Nat) (t0 t1 t3:V) (S:Hp) (K:KV):Prop:=
 dX S fun S=>
 aF PP .geq 3 t3 (.int .i64 (.ofNat 0)) fun v0=>
 fC v0 (aE t1 S fun v1 S=>
 fQ 1 v1 t3 fun v2=>
 aE v2 S fun v3 S=>
 PK x t0 [t3,v3] S fun v4 S=>
 GU .not v4 fun v5=>
 fC v5 (aS (.tuple []) S K) (aF PP .sub 3 t3 (.int .i64 (.ofNat 1)) fun v6=>
 cV x m0 t0 t1 v6 S K)) (aS (.tuple []) S K)
theorem lH (x:VE) (m0:Nat) (t0 t1 t3:V) (S:Hp) (K:KV):cV x (m0+1) t0 t1 t3 S K=gU x m0 t0 t1 t3 S K:=by kernel_rfl
noncomputable def eK (x:VE) (m:Nat) (t0 t3:V) (S:Hp) (K:KV):Prop:=kH PP bM bJ x [.r,.r,.l,.r,.d] m [] [t0,t3] S K
noncomputable def cK (x:VE) (m:Nat) (m0:Nat) (t0 t3 t4 t5:V) (S:Hp) (K:KV):Prop:=kH PP bM bJ x [.r,.r,.l,.r,.d,.d,.r,.l,.d,.r,.l,.r,.l,.r,.d] m [m0] [t0,t3,t4,t5] S K
noncomputable def cE (x:VE) (m0:Nat) (m1:Nat) (t0 t3 t4 t5:V) (S:Hp) (K:KV):Prop:=xO PP bM bJ x [.r,.r,.l,.r,.d,.d,.r,.l,.d,.r,.l,.r,.l,.r,.d,.d,.r,.r] [m0,m1] [t0,t3,t4,t5] S K
noncomputable def kK (x:VE) (a0:V) (S:Hp) (K:KV):Prop:=
 cY a0 fun v0=>
 aF PP .lss 3 v0 (.int .i64 (.ofNat 2)) fun v1=>
 fC v1 (aS a0 S K) (eK x x.most a0 (.int .i64 (.ofNat 1)) S K)
theorem oS (x:VE) (a0:V) (S:Hp) (K:KV):nP PP bM bJ x [a0] S K=kK x a0 S K:=by kernel_rfl
noncomputable def gV (x:VE) (m0:Nat) (t0 t3:V) (S:Hp) (K:KV):Prop:=
 dX S fun S=>
 cY t0 fun v0=>
 aF PP .lss 3 t3 v0 fun v1=>
 fC v1 (fQ 1 t0 t3 fun v2=>
 aE v2 S fun v3 S=>
 aF PP .sub 3 t3 (.int .i64 (.ofNat 1)) fun v4=>
 fQ 1 t0 v4 fun v5=>
 aE v5 S fun v6 S=>
 aF PP .eql 3 v3 v6 fun v7=>
 fC v7 (uO 3 1 t0 (some t3) none none S fun v8=>
 cK x x.most m0 t0 t3 v8 (.int .i64 (.ofNat 1)) S K) (aF PP .add 3 t3 (.int .i64 (.ofNat 1)) fun v9=>
 eK x m0 t0 v9 S K)) (aS t0 S K)
theorem lI (x:VE) (m0:Nat) (t0 t3:V) (S:Hp) (K:KV):eK x (m0+1) t0 t3 S K=gV x m0 t0 t3 S K:=by kernel_rfl
noncomputable def dY (x:VE) (m1:Nat) (m0:Nat) (t0 t3 t4 t5:V) (S:Hp) (K:KV):Prop:=
 dX S fun S=>
 cY t4 fun v0=>
 aF PP .lss 3 t5 v0 fun v1=>
 fC v1 (fQ 1 t4 t5 fun v2=>
 aE v2 S fun v3 S=>
 aF PP .sub 3 t5 (.int .i64 (.ofNat 1)) fun v4=>
 fQ 1 t4 v4 fun v5=>
 aE v5 S fun v6 S=>
 aF PP .neq 3 v3 v6 fun v7=>
 fC v7 (fQ 1 t4 t5 fun v8=>
 aE v8 S fun v9 S=>
 fQ 1 t0 t3 fun v10=>
 jK 1 v10 v9 S fun S=>
 aF PP .add 3 t3 (.int .i64 (.ofNat 1)) fun v11=>
 cE x m0 m1 t0 v11 t4 t5 S K) (cE x m0 m1 t0 t3 t4 t5 S K)) (uO 3 1 t0 (some t3) none none S fun v12=>
 ED [(.int .i64 (.ofNat 0))] v12 S fun S=>
 uO 3 1 t0 none (some t3) none S fun v13=>
 aS v13 S K)
theorem iA (x:VE) (m1:Nat) (m0:Nat) (t0 t3 t4 t5:V) (S:Hp) (K:KV):cK x (m1+1) m0 t0 t3 t4 t5 S K=dY x m1 m0 t0 t3 t4 t5 S K:=by kernel_rfl
noncomputable def dI (x:VE) (m0:Nat) (m1:Nat) (t0 t3 t4 t5:V) (S:Hp) (K:KV):Prop:=
 dX S fun S=>
 aF PP .add 3 t5 (.int .i64 (.ofNat 1)) fun v0=>
 cK x m1 m0 t0 t3 t4 v0 S K
theorem mK (x:VE) (m0:Nat) (m1:Nat) (t0 t3 t4 t5:V) (S:Hp) (K:KV):xP PP bM bJ x [.r,.r,.l,.r,.d,.d,.r,.l,.d,.r,.l,.r,.l,.r,.d,.d,.r,.r] [m0,m1] [t0,t3,t4,t5] S K=dI x m0 m1 t0 t3 t4 t5 S K:=by kernel_rfl
theorem mU (x:VE) (hm:x.most≠0) (m0:Nat) (m1:Nat) (t0 t3 t4 t5:V) (S:Hp) (K:KV):cE x m0 m1 t0 t3 t4 t5 S K=dI x m0 m1 t0 t3 t4 t5 S K:=(nI (hm:=hm) ..).trans (mK x m0 m1 t0 t3 t4 t5 S K)
noncomputable def wO (x:VE) (a0:V) (S:Hp) (K:KV):Prop:=
 aF PP .eql 31 a0 .pW fun v0=>
 fC v0 (aS (.tuple [(.str []),(.bool false)]) S K) (aQ PP a0 fun v1=>
 aD 0 v1 fun v2=>
 aD 13 v2 fun v3=>
 aE v3 S fun v4 S=>
 aQ PP a0 fun v5=>
 aD 0 v5 fun v6=>
 aD 13 v6 fun v7=>
 aE v7 S fun v8 S=>
 aF PP .neq 9 v8 (.str []) fun v9=>
 aS (.tuple [v4,v9]) S K)
theorem GX (x:VE) (a0:V) (S:Hp) (K:KV):nP PP bM nJ x [a0] S K=wO x a0 S K:=by kernel_rfl
noncomputable def xW (x:VE) (a0 a1:V) (S:Hp) (K:KV):Prop:=
 nW 39 a1 S fun v0 S=>
 aD 2 v0 fun v1=>
 aE v1 S fun v2 S=>
 aF PP .eql 5 v2 (.int .u8 (.ofNat 2)) fun v3=>
 aC x.most (aB true v3 (fun k=>aD 1 v0 fun v4=>
 k v4 S) S fun v5 S=>
 aC x.most (aB true v3 (fun k=>aE v5 S fun v6 S=>
 k v6 S) S fun v7 S=>
 aC x.most (aB true v3 (fun k=>aF PP .lss 3 v7 (.int .i64 (.ofNat 0)) fun v8=>
 k v8 S) S fun v9 S=>
 aC x.most (aB true v3 (fun k=>k v9 S) S fun v10 S=>
 aC x.most (aB false v10 (fun k=>aD 0 v0 fun v11=>
 k v11 S) S fun v12 S=>
 aC x.most (aB false v10 (fun k=>aE v12 S fun v13 S=>
 k v13 S) S fun v14 S=>
 aC x.most (aB false v10 (fun k=>k a0 S) S fun v15 S=>
 aC x.most (aB false v10 (fun k=>aD 1 v0 fun v16=>
 k v16 S) S fun v17 S=>
 aC x.most (aB false v10 (fun k=>aE v17 S fun v18 S=>
 k v18 S) S fun v19 S=>
 aC x.most (aB false v10 (fun k=>x.call bR [v15,v19] S fun v20 S=>
 k v20 S) S fun v21 S=>
 aC x.most (bN false v10 v14 (fun k=>aE v12 S fun v22 _=>
 aY v22 v14 k) (aC x.most (bN true v3 v7 (fun k=>aE v5 S fun v23 _=>
 aY v23 v7 k) (aE v1 S fun v24 _=>
 aY v24 v2 (aC x.most (aB false v10 (fun k=>aF PP .neq 3 v14 v21 fun v25=>
 k v25 S) S fun v26 S=>
 aC x.most (aB true v3 (fun k=>aC x.most (aL v10 (.bool true) v26 fun v27=>
 k v27 S)) S fun v28 S=>
 aC x.most (aL v3 v28 (.bool false) fun v29=>
 fC v29 (aS (.bool false) S K) (aQ PP a0 fun v30=>
 aD 15 v30 fun v31=>
 aE v31 S fun v32 S=>
 dK 5 v0 S fun v33 S=>
 x.call eI [v32,v33] S fun v34 S=>
 aS v34 S K)))))))))))))))))))
theorem IW (x:VE) (a0 a1:V) (S:Hp) (K:KV):nP PP bM cN x [a0,a1] S K=xW x a0 a1 S K:=by kernel_rfl
noncomputable def kF (x:VE) (t0 t3 t6:V) (S:Hp) (K:KV):Prop:=xO PP bM eU x [.r,.d,.r,.r,.r] [] [t0,t3,t6] S K
noncomputable def iE (x:VE) (m:Nat) (t0 t3 t6 t7:V) (S:Hp) (K:KV):Prop:=kH PP bM eU x [.r,.d,.r,.r,.r,.r,.r,.l,.d] m [] [t0,t3,t6,t7] S K
noncomputable def eZ (x:VE) (m:Nat) (m0:Nat) (t0 t3 t6 t7 t27 t28 t29:V) (S:Hp) (K:KV):Prop:=kH PP bM eU x [.r,.d,.r,.r,.r,.r,.r,.l,.d,.d,.r,.d,.l,.r,.d] m [m0] [t0,t3,t6,t7,t27,t28,t29] S K
noncomputable def AE (x:VE) (a0 a1:V) (S:Hp) (K:KV):Prop:=
 nW 78 a1 S fun v0 S=>
 gP [.nilFunc,.nilFunc,.nilFunc,.nilFunc,.nilFunc,.nilFunc,.nilFunc] [(0,1,(.func eW [] [])),(1,1,(.func bF [] [])),(2,1,(.func gY [] [])),(3,1,(.func jG [] [])),(4,1,(.func iL [] [])),(5,1,(.func gC [] [])),(6,1,(.func dH [] []))] fun v1=>
 fE [.nilFunc,.nilFunc,.nilFunc,.nilFunc,.nilFunc,.nilFunc,.nilFunc] 106 S fun v2 S=>
 jK 7 v2 v1 S fun S=>
 Jv 7 1 v2 none none none fun v3=>
 aQ PP a0 fun v4=>
 aD 0 v4 fun v5=>
 aD 3 v5 fun v6=>
 aE v6 S fun v7 S=>
 aF PP .eql 3 v7 (.int .i64 (.ofNat 0)) fun v8=>
 fC v8 (Jv 7 1 v2 none (some (.int .i64 (.ofNat 1))) none fun v9=>
 kF x a0 v0 v9 S K) (kF x a0 v0 v3 S K)
theorem LB (x:VE) (a0 a1:V) (S:Hp) (K:KV):nP PP bM eU x [a0,a1] S K=AE x a0 a1 S K:=by kernel_rfl
noncomputable def mX (x:VE) (t0 t3 t6:V) (S:Hp) (K:KV):Prop:=
 dX S fun S=>
 iE x x.most t0 t3 t6 .nil S K
theorem AF (x:VE) (t0 t3 t6:V) (S:Hp) (K:KV):xP PP bM eU x [.r,.d,.r,.r,.r] [] [t0,t3,t6] S K=mX x t0 t3 t6 S K:=by kernel_rfl
theorem AU (x:VE) (hm:x.most≠0) (t0 t3 t6:V) (S:Hp) (K:KV):kF x t0 t3 t6 S K=mX x t0 t3 t6 S K:=(nI (hm:=hm) ..).trans (AF x t0 t3 t6 S K)
noncomputable def kJ (x:VE) (m0:Nat) (t0 t3 t6 t7:V) (S:Hp) (K:KV):Prop:=
 dX S fun S=>
 aQ PP t0 fun v0=>
 aD 0 v0 fun v1=>
 aD 13 v1 fun v2=>
 aE v2 S fun v3 S=>
 aF PP .eql 9 v3 (.str []) fun v4=>
 fC v4 (cY t6 fun v5=>
 eZ x x.most m0 t0 t3 t6 t7 t6 v5 (.int .i64 (.ofNat 0)) S K) (aS t7 S K)
theorem oR (x:VE) (m0:Nat) (t0 t3 t6 t7:V) (S:Hp) (K:KV):iE x (m0+1) t0 t3 t6 t7 S K=kJ x m0 t0 t3 t6 t7 S K:=by kernel_rfl
noncomputable def hS (x:VE) (m1:Nat) (m0:Nat) (t0 t3 t6 t7 t27 t28 t29:V) (S:Hp) (K:KV):Prop:=
 dX S fun S=>
 aF PP .lss 3 t29 t28 fun v0=>
 fC v0 (fQ 1 t27 t29 fun v1=>
 aE v1 S fun v2 S=>
 dK 2 t3 S fun v3 S=>
 PK x v2 [t0,v3] S fun v4 S=>
 lU 0 v4 fun v5=>
 lU 1 v4 fun v6=>
 fC v6 (oP 45 11 112 t7 v5 S fun v7 S=>
 iE x m0 t0 t3 t6 v7 S K) (aF PP .add 3 t29 (.int .i64 (.ofNat 1)) fun v8=>
 eZ x m1 m0 t0 t3 t6 t7 t27 t28 v8 S K)) (aS t7 S K)
theorem lR (x:VE) (m1:Nat) (m0:Nat) (t0 t3 t6 t7 t27 t28 t29:V) (S:Hp) (K:KV):eZ x (m1+1) m0 t0 t3 t6 t7 t27 t28 t29 S K=hS x m1 m0 t0 t3 t6 t7 t27 t28 t29 S K:=by kernel_rfl
noncomputable def wP (x:VE) (a0:V) (S:Hp) (K:KV):Prop:=
 aQ PP a0 fun v0=>
 aD 0 v0 fun v1=>
 aD 5 v1 fun v2=>
 aE v2 S fun v3 S=>
 aF PP .eql 3 v3 (.int .i64 (.ofNat 1)) fun v4=>
 fC v4 (x.call cH [a0,(.int .i64 (.ofNat 2))] S fun v5 S=>
 x.call bV [a0,(.int .u8 (.ofNat 3)),(.int .i64 (.ofNat 0)),(.str [])] S fun v6 S=>
 aS v6 S K) (aF PP .eql 3 v3 (.int .i64 (.ofNat 2)) fun v7=>
 fC v7 (aQ PP a0 fun v8=>
 aD 15 v8 fun v9=>
 aE v9 S fun v10 S=>
 aQ PP a0 fun v11=>
 aD 0 v11 fun v12=>
 aD 4 v12 fun v13=>
 aE v13 S fun v14 S=>
 x.call iZ [v10,v14,(.int .u8 (.ofNat 3))] S fun v15 S=>
 x.call eX [a0,v15] S fun v16 S=>
 fC v16 (x.call cH [a0,(.int .i64 (.ofNat 3))] S fun v17 S=>
 x.call bV [a0,(.int .u8 (.ofNat 4)),(.int .i64 (.ofNat 0)),(.str [])] S fun v18 S=>
 aS v18 S K) (aS .nil S K)) (aF PP .eql 3 v3 (.int .i64 (.ofNat 3)) fun v19=>
 fC v19 (aQ PP a0 fun v20=>
 aD 15 v20 fun v21=>
 aE v21 S fun v22 S=>
 aQ PP a0 fun v23=>
 aD 0 v23 fun v24=>
 aD 4 v24 fun v25=>
 aE v25 S fun v26 S=>
 x.call iZ [v22,v26,(.int .u8 (.ofNat 4))] S fun v27 S=>
 x.call eX [a0,v27] S fun v28 S=>
 aC x.most (aB true v28 (fun k=>k a0 S) S fun v29 S=>
 aC x.most (aB true v28 (fun k=>aQ PP v29 fun v30=>
 k v30 S) S fun v31 S=>
 aC x.most (aB true v28 (fun k=>aD 0 v31 fun v32=>
 k v32 S) S fun v33 S=>
 aC x.most (aB true v28 (fun k=>aD 4 v33 fun v34=>
 k v34 S) S fun v35 S=>
 aC x.most (aB true v28 (fun k=>aE v35 S fun v36 S=>
 k v36 S) S fun v37 S=>
 aC x.most (aB true v28 (fun k=>aF PP .lss 3 v37 (.int .i64 (.ofNat 99)) fun v38=>
 k v38 S) S fun v39 S=>
 aC x.most (aL v28 v39 (.bool false) fun v40=>
 fC v40 (aQ PP a0 fun v41=>
 aD 0 v41 fun v42=>
 aD 4 v42 fun v43=>
 aE v43 S fun v44 S=>
 aF PP .add 3 v44 (.int .i64 (.ofNat 1)) fun v45=>
 x.call fR [a0,v45] S fun v46 S=>
 aS .nil S K) (aS .nil S K))))))))) (aS .nil S K)))
theorem GY (x:VE) (a0:V) (S:Hp) (K:KV):nP PP bM kI x [a0] S K=wP x a0 S K:=by kernel_rfl
noncomputable def GZ (x:VE) (a0 a1 a2:V) (S:Hp) (K:KV):Prop:=
 xN a0 fun v0=>
 aF PP .leq 3 v0 (.int .i64 (.ofNat 2048)) fun v1=>
 aC x.most (aB true v1 (fun k=>k a1 S) S fun v2 S=>
 aC x.most (aB true v1 (fun k=>aF PP .geq 3 v2 (.int .i64 (.negSucc 0)) fun v3=>
 k v3 S) S fun v4 S=>
 aC x.most (aL v1 v4 (.bool false) fun v5=>
 aC x.most (aB true v5 (fun k=>k a1 S) S fun v6 S=>
 aC x.most (aB true v5 (fun k=>k a2 S) S fun v7 S=>
 aC x.most (aB true v5 (fun k=>aF PP .leq 3 v6 v7 fun v8=>
 k v8 S) S fun v9 S=>
 aC x.most (aL v5 v9 (.bool false) fun v10=>
 aC x.most (aB true v10 (fun k=>k a0 S) S fun v11 S=>
 aC x.most (aB true v10 (fun k=>aF PP .eql 9 v11 (.str []) fun v12=>
 k v12 S) S fun v13 S=>
 aC x.most (aB true v10 (fun k=>k a1 S) S fun v14 S=>
 aC x.most (aB true v10 (fun k=>aF PP .eql 3 v14 (.int .i64 (.negSucc 0)) fun v15=>
 k v15 S) S fun v16 S=>
 aC x.most (aB true v10 (fun k=>aF PP .eql 4 v13 v16 fun v17=>
 k v17 S) S fun v18 S=>
 aC x.most (aL v10 v18 (.bool false) fun v19=>
 aS v19 S K)))))))))))))
theorem VN (x:VE) (a0 a1 a2:V) (S:Hp) (K:KV):nP PP bM oK x [a0,a1,a2] S K=GZ x a0 a1 a2 S K:=by kernel_rfl
noncomputable def pE (x:VE) (m:Nat) (t0 t1 t5:V) (S:Hp) (K:KV):Prop:=kH PP bM tY x [.r,.r,.l,.r,.d] m [] [t0,t1,t5] S K
noncomputable def NJ (x:VE) (a0 a1:V) (S:Hp) (K:KV):Prop:=
 cY a0 fun v0=>
 cY a1 fun v1=>
 aF PP .neq 3 v0 v1 fun v2=>
 fC v2 (aS (.bool false) S K) (pE x x.most a0 a1 (.int .i64 (.ofNat 0)) S K)
theorem Cu (x:VE) (a0 a1:V) (S:Hp) (K:KV):nP PP bM tY x [a0,a1] S K=NJ x a0 a1 S K:=by kernel_rfl
noncomputable def rM (x:VE) (m0:Nat) (t0 t1 t5:V) (S:Hp) (K:KV):Prop:=
 dX S fun S=>
 cY t0 fun v0=>
 aF PP .lss 3 t5 v0 fun v1=>
 fC v1 (fQ 5 t0 t5 fun v2=>
 dK 5 v2 S fun v3 S=>
 fQ 5 t1 t5 fun v4=>
 dK 5 v4 S fun v5 S=>
 Qm PP .neq 49 v3 v5 fun v6=>
 fC v6 (aS (.bool false) S K) (aF PP .add 3 t5 (.int .i64 (.ofNat 1)) fun v7=>
 pE x m0 t0 t1 v7 S K)) (aS (.bool true) S K)
theorem xX (x:VE) (m0:Nat) (t0 t1 t5:V) (S:Hp) (K:KV):pE x (m0+1) t0 t1 t5 S K=rM x m0 t0 t1 t5 S K:=by kernel_rfl
noncomputable def oH (x:VE) (m:Nat) (t0 t3 t4:V) (S:Hp) (K:KV):Prop:=kH PP bM rY x [.r,.r,.l,.r,.d] m [] [t0,t3,t4] S K
noncomputable def JX (x:VE) (a0:V) (S:Hp) (K:KV):Prop:=
 oH x x.most a0 .nil (.int .i64 (.ofNat 0)) S K
theorem XJ (x:VE) (a0:V) (S:Hp) (K:KV):nP PP bM rY x [a0] S K=JX x a0 S K:=by kernel_rfl
noncomputable def qQ (x:VE) (m0:Nat) (t0 t3 t4:V) (S:Hp) (K:KV):Prop:=
 dX S fun S=>
 cY t0 fun v0=>
 aF PP .lss 3 t4 v0 fun v1=>
 fC v1 (fQ 5 t0 t4 fun v2=>
 dK 5 v2 S fun v3 S=>
 dP 49 1 [(.int .i64 (.ofNat 0)),(.int .i64 (.ofNat 0)),(.int .u8 (.ofNat 0)),(.int .i64 (.ofNat 0)),(.string ⟨⟨[]⟩⟩)] [(0,5,v3)] S fun v4 S=>
 oP 49 5 48 t3 v4 S fun v5 S=>
 aF PP .add 3 t4 (.int .i64 (.ofNat 1)) fun v6=>
 oH x m0 t0 v5 v6 S K) (aS t3 S K)
theorem wQ (x:VE) (m0:Nat) (t0 t3 t4:V) (S:Hp) (K:KV):oH x (m0+1) t0 t3 t4 S K=qQ x m0 t0 t3 t4 S K:=by kernel_rfl
noncomputable def sR (x:VE) (m:Nat) (t2 t3 t5:V) (S:Hp) (K:KV):Prop:=kH PP bM tX x [.r,.r,.l,.r,.d] m [] [t2,t3,t5] S K
noncomputable def NL (x:VE) (a0 a1:V) (S:Hp) (K:KV):Prop:=
 nW 45 a0 S fun v0 S=>
 nW 45 a1 S fun v1 S=>
 aD 0 v0 fun v2=>
 aE v2 S fun v3 S=>
 aD 0 v1 fun v4=>
 aE v4 S fun v5 S=>
 aF PP .neq 5 v3 v5 fun v6=>
 aC x.most (aB false v6 (fun k=>aD 1 v0 fun v7=>
 k v7 S) S fun v8 S=>
 aC x.most (aB false v6 (fun k=>aE v8 S fun v9 S=>
 k v9 S) S fun v10 S=>
 aC x.most (aB false v6 (fun k=>aD 1 v1 fun v11=>
 k v11 S) S fun v12 S=>
 aC x.most (aB false v6 (fun k=>aE v12 S fun v13 S=>
 k v13 S) S fun v14 S=>
 aC x.most (aB false v6 (fun k=>aF PP .neq 3 v10 v14 fun v15=>
 k v15 S) S fun v16 S=>
 aC x.most (aL v6 (.bool true) v16 fun v17=>
 aC x.most (aB false v17 (fun k=>aD 2 v0 fun v18=>
 k v18 S) S fun v19 S=>
 aC x.most (aB false v17 (fun k=>aE v19 S fun v20 S=>
 k v20 S) S fun v21 S=>
 aC x.most (aB false v17 (fun k=>aD 2 v1 fun v22=>
 k v22 S) S fun v23 S=>
 aC x.most (aB false v17 (fun k=>aE v23 S fun v24 S=>
 k v24 S) S fun v25 S=>
 aC x.most (aB false v17 (fun k=>aF PP .neq 3 v21 v25 fun v26=>
 k v26 S) S fun v27 S=>
 aC x.most (aL v17 (.bool true) v27 fun v28=>
 aC x.most (aB false v28 (fun k=>aD 3 v0 fun v29=>
 k v29 S) S fun v30 S=>
 aC x.most (aB false v28 (fun k=>aE v30 S fun v31 S=>
 k v31 S) S fun v32 S=>
 aC x.most (aB false v28 (fun k=>aD 3 v1 fun v33=>
 k v33 S) S fun v34 S=>
 aC x.most (aB false v28 (fun k=>aE v34 S fun v35 S=>
 k v35 S) S fun v36 S=>
 aC x.most (aB false v28 (fun k=>aF PP .neq 3 v32 v36 fun v37=>
 k v37 S) S fun v38 S=>
 aC x.most (aL v28 (.bool true) v38 fun v39=>
 aC x.most (aB false v39 (fun k=>aD 4 v0 fun v40=>
 k v40 S) S fun v41 S=>
 aC x.most (aB false v39 (fun k=>aE v41 S fun v42 S=>
 k v42 S) S fun v43 S=>
 aC x.most (aB false v39 (fun k=>aD 4 v1 fun v44=>
 k v44 S) S fun v45 S=>
 aC x.most (aB false v39 (fun k=>aE v45 S fun v46 S=>
 k v46 S) S fun v47 S=>
 aC x.most (aB false v39 (fun k=>aF PP .neq 3 v43 v47 fun v48=>
 k v48 S) S fun v49 S=>
 aC x.most (aL v39 (.bool true) v49 fun v50=>
 aC x.most (aB false v50 (fun k=>aD 5 v0 fun v51=>
 k v51 S) S fun v52 S=>
 aC x.most (aB false v50 (fun k=>aE v52 S fun v53 S=>
 k v53 S) S fun v54 S=>
 aC x.most (aB false v50 (fun k=>aD 5 v1 fun v55=>
 k v55 S) S fun v56 S=>
 aC x.most (aB false v50 (fun k=>aE v56 S fun v57 S=>
 k v57 S) S fun v58 S=>
 aC x.most (aB false v50 (fun k=>aF PP .neq 3 v54 v58 fun v59=>
 k v59 S) S fun v60 S=>
 aC x.most (aL v50 (.bool true) v60 fun v61=>
 aC x.most (aB false v61 (fun k=>aD 6 v0 fun v62=>
 k v62 S) S fun v63 S=>
 aC x.most (aB false v61 (fun k=>aE v63 S fun v64 S=>
 k v64 S) S fun v65 S=>
 aC x.most (aB false v61 (fun k=>aD 6 v1 fun v66=>
 k v66 S) S fun v67 S=>
 aC x.most (aB false v61 (fun k=>aE v67 S fun v68 S=>
 k v68 S) S fun v69 S=>
 aC x.most (aB false v61 (fun k=>aF PP .neq 3 v65 v69 fun v70=>
 k v70 S) S fun v71 S=>
 aC x.most (aL v61 (.bool true) v71 fun v72=>
 aC x.most (aB false v72 (fun k=>aD 7 v0 fun v73=>
 k v73 S) S fun v74 S=>
 aC x.most (aB false v72 (fun k=>aE v74 S fun v75 S=>
 k v75 S) S fun v76 S=>
 aC x.most (aB false v72 (fun k=>aD 7 v1 fun v77=>
 k v77 S) S fun v78 S=>
 aC x.most (aB false v72 (fun k=>aE v78 S fun v79 S=>
 k v79 S) S fun v80 S=>
 aC x.most (aB false v72 (fun k=>aF PP .neq 3 v76 v80 fun v81=>
 k v81 S) S fun v82 S=>
 aC x.most (aL v72 (.bool true) v82 fun v83=>
 aC x.most (aB false v83 (fun k=>aD 8 v0 fun v84=>
 k v84 S) S fun v85 S=>
 aC x.most (aB false v83 (fun k=>aE v85 S fun v86 S=>
 k v86 S) S fun v87 S=>
 aC x.most (aB false v83 (fun k=>aD 8 v1 fun Ce=>
 k Ce S) S fun v89 S=>
 aC x.most (aB false v83 (fun k=>aE v89 S fun Km S=>
 k Km S) S fun v91 S=>
 aC x.most (aB false v83 (fun k=>aF PP .neq 3 v87 v91 fun Ri=>
 k Ri S) S fun v93 S=>
 aC x.most (aL v83 (.bool true) v93 fun RT=>
 aC x.most (aB false RT (fun k=>aD 9 v0 fun Ha=>
 k Ha S) S fun Hb S=>
 aC x.most (aB false RT (fun k=>aE Hb S fun xG S=>
 k xG S) S fun Ko S=>
 aC x.most (aB false RT (fun k=>aD 9 v1 fun Nq=>
 k Nq S) S fun PQ S=>
 aC x.most (aB false RT (fun k=>aE PQ S fun UW S=>
 k UW S) S fun UX S=>
 aC x.most (aB false RT (fun k=>aF PP .neq 9 Ko UX fun UY=>
 k UY S) S fun UZ S=>
 aC x.most (aL RT (.bool true) UZ fun v105=>
 aC x.most (aB false v105 (fun k=>aD 10 v0 fun Cf=>
 k Cf S) S fun v107 S=>
 aC x.most (aB false v105 (fun k=>aE v107 S fun VB S=>
 k VB S) S fun v109 S=>
 aC x.most (aB false v105 (fun k=>cY v109 fun PR=>
 k PR S) S fun VC S=>
 aC x.most (aB false v105 (fun k=>aD 10 v1 fun tZ=>
 k tZ S) S fun VD S=>
 aC x.most (aB false v105 (fun k=>aE VD S fun VF S=>
 k VF S) S fun VG S=>
 aC x.most (aB false v105 (fun k=>cY VG fun IV=>
 k IV S) S fun v117 S=>
 aC x.most (aB false v105 (fun k=>aF PP .neq 3 VC v117 fun VH=>
 k VH S) S fun LA S=>
 aC x.most (aL v105 (.bool true) LA fun VI=>
 fC VI (aS (.bool false) S K) (sR x x.most v0 v1 (.int .i64 (.ofNat 0)) S K)))))))))))))))))))))))))))))))))))))))))))))))))))))))))))))))
theorem Cv (x:VE) (a0 a1:V) (S:Hp) (K:KV):nP PP bM tX x [a0,a1] S K=NL x a0 a1 S K:=by kernel_rfl
noncomputable def xY (x:VE) (m0:Nat) (t2 t3 t5:V) (S:Hp) (K:KV):Prop:=
 dX S fun S=>
 aD 10 t2 fun v0=>
 aE v0 S fun v1 S=>
 cY v1 fun v2=>
 aF PP .lss 3 t5 v2 fun v3=>
 fC v3 (aD 10 t2 fun v4=>
 aE v4 S fun v5 S=>
 fQ 1 v5 t5 fun v6=>
 aE v6 S fun v7 S=>
 aD 10 t3 fun v8=>
 aE v8 S fun v9 S=>
 fQ 1 v9 t5 fun v10=>
 aE v10 S fun v11 S=>
 aF PP .neq 103 v7 v11 fun v12=>
 fC v12 (aS (.bool false) S K) (aF PP .add 3 t5 (.int .i64 (.ofNat 1)) fun v13=>
 sR x m0 t2 t3 v13 S K)) (aS (.bool true) S K)
theorem IX (x:VE) (m0:Nat) (t2 t3 t5:V) (S:Hp) (K:KV):sR x (m0+1) t2 t3 t5 S K=xY x m0 t2 t3 t5 S K:=by kernel_rfl
noncomputable def sA (x:VE) (a0 a1:V) (S:Hp) (K:KV):Prop:=
 aQ PP a0 fun v0=>
 aD 0 v0 fun v1=>
 aD 0 v1 fun v2=>
 aE v2 S fun v3 S=>
 aF PP .add 3 v3 a1 fun v4=>
 aQ PP a0 fun v5=>
 aD 0 v5 fun v6=>
 aD 1 v6 fun v7=>
 aE v7 S fun v8 S=>
 aF PP .rem 3 v4 v8 fun v9=>
 aF PP .add 3 (.int .i64 (.ofNat 1)) v9 fun v10=>
 aS v10 S K
theorem BX (x:VE) (a0 a1:V) (S:Hp) (K:KV):nP PP bM bR x [a0,a1] S K=sA x a0 a1 S K:=by kernel_rfl
noncomputable def fU (x:VE) (m:Nat) (t0 t14 t15 t16:V) (S:Hp) (K:KV):Prop:=kH PP bM eW x [.r,.l,.r,.d] m [] [t0,t14,t15,t16] S K
noncomputable def uA (x:VE) (a0 a1:V) (S:Hp) (K:KV):Prop:=
 nW 78 a1 S fun v0 S=>
 aQ PP a0 fun v1=>
 aD 15 v1 fun v2=>
 aE v2 S fun v3 S=>
 x.call gH [v3] S fun v4 S=>
 cY v4 fun v5=>
 fU x x.most a0 v4 v5 (.int .i64 (.ofNat 0)) S K
theorem ET (x:VE) (a0 a1:V) (S:Hp) (K:KV):nP PP bM eW x [a0,a1] S K=uA x a0 a1 S K:=by kernel_rfl
noncomputable def kZ (x:VE) (m0:Nat) (t0 t14 t15 t16:V) (S:Hp) (K:KV):Prop:=
 dX S fun S=>
 aF PP .lss 3 t16 t15 fun v0=>
 fC v0 (fQ 1 t14 t16 fun v1=>
 aE v1 S fun v2 S=>
 x.call cU [t0,v2] S fun v3 S=>
 lU 0 v3 fun v4=>
 lU 1 v3 fun v5=>
 fE [(.int .i64 (.ofNat 0)),(.int .i64 (.ofNat 0)),(.int .u8 (.ofNat 0)),(.int .i64 (.ofNat 0)),(.string ⟨⟨[]⟩⟩)] 39 S fun v6 S=>
 jK 5 v6 v4 S fun S=>
 aC x.most (aB true v5 (fun k=>k t0 S) S fun v7 S=>
 aC x.most (aB true v5 (fun k=>k v2 S) S fun v8 S=>
 aC x.most (aB true v5 (fun k=>aD 4 v6 fun v9=>
 k v9 S) S fun v10 S=>
 aC x.most (aB true v5 (fun k=>aE v10 S fun v11 S=>
 k v11 S) S fun v12 S=>
 aC x.most (aB true v5 (fun k=>x.call eY [v7,v8,(.int .u8 (.ofNat 4)),v12] S fun v13 S=>
 k v13 S) S fun v14 S=>
 aC x.most (aL v5 v14 (.bool false) fun v15=>
 fC v15 (aD 4 v6 fun v16=>
 aE v16 S fun v17 S=>
 aQ PP t0 fun v18=>
 aD 0 v18 fun v19=>
 aD 13 v19 fun v20=>
 jK 1 v20 v17 S fun S=>
 aS (.tuple [.nil,(.bool true)]) S K) (aF PP .add 3 t16 (.int .i64 (.ofNat 1)) fun v21=>
 fU x m0 t0 t14 t15 v21 S K)))))))) (aS (.tuple [.nil,(.bool false)]) S K)
theorem pO (x:VE) (m0:Nat) (t0 t14 t15 t16:V) (S:Hp) (K:KV):fU x (m0+1) t0 t14 t15 t16 S K=kZ x m0 t0 t14 t15 t16 S K:=by kernel_rfl
set_option maxRecDepth 4000
structure Vo where
 fr:Int
 rd:Int
 kd:Nat
 vl:Int
 tx:List UInt8
def Vo.dt (v:Vo):List Dt:=[.int .i64 v.fr,.int .i64 v.rd,.int .u8 (.ofNat v.kd),.int .i64 v.vl,.str v.tx]
def Vo.vv (v:Vo):List V:=[.int .i64 v.fr,.int .i64 v.rd,.int .u8 (.ofNat v.kd),.int .i64 v.vl,.str v.tx]
def uQ (l:List Vo):List Dt:=l.flatMap Vo.dt
def AT (l:List Vo):List V:=l.flatMap Vo.vv
theorem yY (l:List Vo):(uQ l).length=l.length*5:=by
 induction l with
 | nil=>rfl
 | cons v l ih=>simp [uQ,Vo.dt]at ih ⊢;omega
theorem PV (l:List Vo) (i:Nat) (v:Vo) (h:l[i]? =some v):((uQ l).drop (i*5)).take 5=v.dt:=by
 induction l generalizing i with
 | nil=>simp at h
 | cons a l ih=>
  cases i with
  | zero=>simp at h;subst h;simp [uQ,Vo.dt]
  | succ i=>
   have:=ih i (by simpa using h);rw [<-this];simp only [uQ,List.flatMap_cons];rw [show(i+1)*5=a.dt.length+i*5 by simp [Vo.dt];omega,<-List.drop_drop];simp
theorem Ns (l:List Vo) (O:Tag):AT l=(uQ l).map (T O):=by
 induction l with
 | nil=>rfl
 | cons v l ih=>simp [AT,uQ,Vo.vv,Vo.dt,T]at ih ⊢;exact ih
theorem pH (l:List Vo):(AT l).length=l.length*5:=by rw [Ns l (.root 0),List.length_map,yY]
theorem VT (l:List Vo) (i:Nat) (h:i<l.length):AT (l.take (i+1))=AT (l.take i)++l[i].vv:=by
 rw [List.take_add_one,List.getElem?_eq_getElem h];simp only [AT,List.flatMap_append,List.flatMap_cons,List.flatMap_nil,List.append_nil,Option.toList]
theorem Xx{x:VE}{K:KV}{O:Tag}{l:List Vo}{S0:Hp} (hl:l.length<=1000000) (hk:∀O,K (.list O (uQ l) l.length) S0):∀(m i:Nat) (t:V) (S S2:Hp),l.length<=i+m->i<=l.length->Made 49 5 S0 t S (AT (l.take i)) i->dL S S2->oH x (m+1) (.list O (uQ l) l.length) t (.int .i64 (.ofNat i)) S2 K:=by
 intro m
 have fin:∀{i:Nat} {t:V} {S:Hp},l.length<=i->i<=l.length->Made 49 5 S0 t S (AT (l.take i)) i->aS t S K:=by
  intro i t S h1 h2 a;have:i=l.length:=by omega
  subst this;rw [List.take_length]at a;refine a.ret (cs:=uQ l) (by rw [pH,yY]) (fun j v d e1 e2=>?_) hk;rw [Ns l (.root 0),List.getElem?_map,e2]at e1;injection e1 with e1;subst e1;exact .T
 induction m with
 | zero=>
  intro i t S S2 hm hi a hs;rw [wQ];unfold qQ;refine lE S hs ?_;rw [iY,aI,aT,if_neg (by simp;omega)];exact fin hm hi a
 | succ m ih=>
  intro i t S S2 hm hi a hs;rw [wQ];unfold qQ;refine lE S hs ?_;rw [iY,aI,aT];by_cases hlt:i<l.length
  ·rw [if_pos (by simp;omega),qN hlt,KT,eE (by rw [yY];omega),PV l i l[i] (List.getElem?_eq_getElem hlt)]
   refine oQ rfl rfl rfl rfl fun j hj=>?_;refine a.app (bytes:=48) (m:=1) (new:=l[i].vv) (.aV hj) (fun q hq=>a.le.none (pL hq).2) (fun k hq=>zZ upd_same rfl hq) (by omega) rfl rfl (by omega) ?_;intro t2 S4 S3 b hle;rw [bA,fF (by omega)];rw [<-VT l i hlt]at b;exact ih (i+1) t2 S3 S4 (by omega) (by omega) b hle
  ·rw [if_neg (by simp;omega)]
   exact fin (by omega) hi a
theorem aBc{x:VE}{K:KV}{O:Tag}{l:List Vo}{S:Hp} (hl:l.length<=1000000) (hm:l.length<x.most) (hk:∀O,K (.list O (uQ l) l.length) S):nP PP bM rY x [.list O (uQ l) l.length] S K:=by
 rw [XJ];unfold JX;obtain⟨m,e⟩:=Nat.exists_eq_succ_of_ne_zero (show x.most≠0 by omega);have:=Xx (x:=x) (O:=O) hl hk m 0 .nil S S (by omega) (by omega) .nil (.refl S);rw [e];exact this
def ints (l:List Int):List V:=l.map (V.int .i64)
def pQ (l:List Int):List Dt:=l.map (Dt.int .i64)
theorem AQ (l:List Int):(ints l).length=l.length:=by simp [ints]
theorem IH (l:List Int):(pQ l).length=l.length:=by simp [pQ]
theorem DA{l:List Int}{p:Nat} (h:p<l.length):l.getD p 0=l[p]:=by rw [List.getD_eq_getElem?_getD,List.getElem?_eq_getElem h];rfl
theorem DB{l:List Int}{p:Nat} (h:p<l.length):(ints l)[p]? =some (.int .i64 (l.getD p 0)):=by
 unfold ints;rw [List.getElem?_map,List.getElem?_eq_getElem h,DA h];rfl
theorem ints_set (l:List Int) (p:Nat) (z:Int):(ints l).set p (.int .i64 z)=ints (l.set p z):=by
 unfold ints;rw [List.map_set]
def kp (zs:List Int) (j:Nat):Bool:=decide (j=0) || !decide (zs.getD j 0=zs.getD (j-1) 0)
def dq (zs:List Int):Nat->List Int
 | 0=>[]
 | j+1=>if kp zs j then dq zs j++[zs.getD j 0]else dq zs j
def dd (zs:List Int):List Int:=dq zs zs.length
theorem Nu{zs:List Int}{j:Nat} (h0:0<j) (h:zs.getD j 0=zs.getD (j-1) 0):dq zs (j+1)=dq zs j:=by
 conv=>lhs;unfold dq
 rw [show kp zs j=false by unfold kp;rw [decide_eq_false (by omega),decide_eq_true h];rfl];rfl
theorem Xz{zs:List Int}{j:Nat} (h:¬zs.getD j 0=zs.getD (j-1) 0):dq zs (j+1)=dq zs j++[zs.getD j 0]:=by
 conv=>lhs;unfold dq
 rw [show kp zs j=true by unfold kp;rw [decide_eq_false h];simp];rfl
theorem Ya (zs:List Int):∀j,(dq zs j).length<=j:=by
 intro j;induction j with
 | zero=>exact Nat.le_refl _
 | succ j ih=>
  unfold dq;split
  ·rw [List.length_append];simp;exact ih
  ·omega
theorem PW{i:Nat} (h:0<i) (h2:i<4611686018427387904):kC .i64 (Int.ofNat i-Int.ofNat 1)=Int.ofNat (i-1):=by
 rw [wrap_small]<;>simp<;>omega
theorem pI{S S':Hp}{i:Nat}{o:Ob} (h:dL S' S) (e:S' i=none):dL S' (upd S i o):=fun j q hq=>by
 by_cases hj:j=i
 ·subst hj;rw [e]at hq;cases hq
 ·rw [aG hj];exact h j q hq
section
variable{x:VE}{K:KV}{zs:List Int}{i n:Nat}{S':Hp}
theorem aGl (hn:zs.length=n) (hM:n<x.most) (hb:n<1000000000) (hs:S' i=none) (hk:∀O,K (.list O (pQ (dd zs)) (dd zs).length) S') (m0:Nat){k:Nat} (k1:1<=k):
 ∀(m k2 kk:Nat) (S:Hp) (cur:List Int),dL S' S->S i=some (.iD (ints cur) 3 n)->cur.length=n->1<=k2->k+k2<=n->n<=k+k2+m->kk=(dq zs (k+k2)).length->kk<k+k2->cur.take kk=dq zs (k+k2)->cur.drop (k+k2-1)=zs.drop (k+k2-1)->
  cK x (m+1) m0 (.acc i n) (.int .i64 (.ofNat kk)) (.FN i n (k*1) (n-k) (n-k)) (.int .i64 (.ofNat k2)) S K:=by
 have fin:∀(k2 kk:Nat) (S:Hp) (cur:List Int),dL S' S->S i=some (.iD (ints cur) 3 n)->cur.length=n->k+k2=n->kk=(dq zs (k+k2)).length->kk<k+k2->cur.take kk=dq zs (k+k2)->
  (uO 3 1 (.acc i n) (some (.int .i64 (.ofNat kk))) none none S fun v12=>ED [(.int .i64 (.ofNat 0))] v12 S fun S=>uO 3 1 (.acc i n) none (some (.int .i64 (.ofNat kk))) none S fun v13=>aS v13 S K):=by
  intro k2 kk S cur hle hi hc hk2 e1 e2 e3;refine HY hi (by omega) ?_;refine UI hi rfl (by omega) (by simp [AQ];omega) ?_;refine Bk upd_same (by omega) (by omega) ?_;have e4:dq zs (k+k2)=dd zs:=by rw [hk2,<-hn];rfl
  rw [e4]at e1 e3;have e5:(dd zs).length=kk:=e1.symm;refine⟨S',fun O=> .list (O 0) (pQ (dd zs)) kk,pI hle hs,fun O=> .one (.dat (.FN (cs:=pQ (dd zs)) upd_same hs (by omega) ?_ ?_)),fun O=>by rw [<-e5];exact hk _⟩
  ·rw [IH,e5];unfold splice;simp [AQ];omega
  ·intro j v d h1 h2
   have hj:j<kk:=by have:=(List.getElem?_eq_some_iff.1 h2).1;rw [IH]at this;omega
   have h3:(ints cur)[j]? =some v:=by
    unfold splice at h1;rw [Nat.zero_add,List.append_assoc,List.getElem?_append_left (by rw [List.length_take,AQ];omega),List.getElem?_take,if_pos (by omega)]at h1;exact h1
   rw [DB (by omega)]at h3;injection h3 with h3;subst h3;unfold pQ at h2;rw [List.getElem?_map,<-e3,List.getElem?_take,if_pos hj,List.getElem?_eq_getElem (by omega)]at h2;injection h2 with h2;subst h2;rw [DA (by omega)];exact .int
 intro m;induction m with
 | zero=>
  intro k2 kk S cur hle hi hc h2 hle2 hm e1 e2 e3 e4;rw [iA];unfold dY;refine aN ?_;rw [HV,aI,aT,if_neg (by simp;omega)];exact fin k2 kk S cur hle hi hc (by omega) e1 e2 e3
 | succ m ih=>
  intro k2 kk S cur hle hi hc h2 hle2 hm e1 e2 e3 e4;rw [iA];unfold dY;refine aN ?_;rw [HV,aI,aT];by_cases hlt:k2<n-k
  ·have cell:∀p,k+k2-1<=p->p<n->cur.getD p 0=zs.getD p 0:=by
    intro p h1 h3;have:=congrArg (fun l:List Int=>l.getD (p-(k+k2-1)) 0) e4;simp only [List.getD_eq_getElem?_getD,List.getElem?_drop]at this;rw [show k+k2-1+(p-(k+k2-1))=p by omega]at this;simpa [List.getD_eq_getElem?_getD]using this
   rw [if_pos (by simp;omega),CL hlt];refine JQ hi (DB (by omega)) ?_;rw [lV,PW (by omega) (by omega),CL (by omega)];refine JQ hi (DB (by omega)) ?_;rw [cW,aT];have c1:cur.getD (k*1+k2*1) 0=zs.getD (k+k2) 0:=by rw [show k*1+k2*1=k+k2 by omega];exact cell _ (by omega) (by omega)
   have c2:cur.getD (k*1+(k2-1)*1) 0=zs.getD (k+k2-1) 0:=by rw [show k*1+(k2-1)*1=k+k2-1 by omega];exact cell _ (by omega) (by omega)
   rw [c1,c2]
   have next:∀(S2:Hp) (PX:List Int) (Rk:Nat),dL S' S2->S2 i=some (.iD (ints PX) 3 n)->PX.length=n->Rk=(dq zs (k+(k2+1))).length->Rk<k+(k2+1)->PX.take Rk=dq zs (k+(k2+1))->PX.drop (k+k2)=zs.drop (k+k2)->cE x m0 (m+1) (.acc i n) (.int .i64 (.ofNat Rk)) (.FN i n (k*1) (n-k) (n-k)) (.int .i64 (.ofNat k2)) S2 K:=by
    intro S2 PX Rk q1 q2 q3 q4 q5 q6 q7;rw [mU x (by omega)];unfold dI;refine aN ?_;rw [bA,fF (by omega)];exact ih (k2+1) Rk S2 PX q1 q2 q3 (by omega) (by omega) (by omega) q4 q5 q6 (by rw [show k+(k2+1)-1=k+k2 by omega];exact q7)
   have hd1:cur.drop (k+k2)=zs.drop (k+k2):=by
    have:=congrArg (List.drop 1) e4
    rwa [List.drop_drop,List.drop_drop,show k+k2-1+1=k+k2 by omega]at this
   have hz:¬k+k2=0:=by omega
   by_cases hd:zs.getD (k+k2) 0=zs.getD (k+k2-1) 0
   ·rw [if_neg (by simp only [hd];simp)]
    have e5:dq zs (k+(k2+1))=dq zs (k+k2):=Nu (show 0<k+k2 by omega) hd;exact next S cur kk hle hi hc (by rw [e5];exact e1) (by omega) (by rw [e5];exact e3) hd1
   ·rw [if_pos (by rw [decide_eq_false hd];rfl),CL hlt]
    refine JQ hi (DB (by omega)) ?_;rw [c1,dR (by omega),Nat.mul_one];refine Ng hi rfl (by rw [AQ];omega) ?_;rw [EI (by rw [AQ];omega),ints_set,bA,fF (show kk<4611686018427387904 by have:=Ya zs (k+k2);omega)];have e5:dq zs (k+(k2+1))=dq zs (k+k2)++[zs.getD (k+k2) 0]:=Xz hd;refine next _ _ (kk+1) (pI hle hs) upd_same (by simp;omega) (by rw [e5,List.length_append,<-e1];rfl) (by omega) ?_ ?_
    ·rw [e5,<-e3]
     apply List.ext_getElem?;intro p;rw [List.getElem?_take];by_cases h1:p<kk
     ·rw [if_pos (by omega),List.getElem?_set_ne (by omega),List.getElem?_append_left (by rw [List.length_take];omega),List.getElem?_take,if_pos h1]
     ·by_cases h3:p=kk
      ·subst h3
       rw [if_pos (by omega),List.getElem?_set_self (by omega),List.getElem?_append_right (by rw [List.length_take];omega),List.length_take];rw [show p-min p cur.length=0 by omega];rfl
      ·rw [if_neg (by omega),List.getElem?_eq_none (by simp;omega)]
    ·rw [List.drop_set_of_lt (by omega)];exact hd1
  ·rw [if_neg (by simp;omega)]
   exact fin k2 kk S cur hle hi hc (by omega) e1 e2 e3
theorem aGm (hn:zs.length=n) (hM:n<x.most) (hb:n<1000000000) (hs:S' i=none) (hk:∀O,K (.list O (pQ (dd zs)) (dd zs).length) S'){S:Hp} (hle:dL S' S) (hi:S i=some (.iD (ints zs) 3 n)):
 ∀(m k:Nat),1<=k->k<=n->n<=k+m->dq zs k=zs.take k->eK x (m+1) (.acc i n) (.int .i64 (.ofNat k)) S K:=by
 have fin:∀k,n=k->dq zs k=zs.take k->aS (.acc i n) S K:=by
  intro k h1 h2;subst h1;have e4:dd zs=zs:=by unfold dd;rw [hn,h2,<-hn,List.take_length]
  refine⟨S',fun O=> .list (O 0) (pQ zs) n,hle,fun O=> .one (.dat (.acc hi hs (by rw [AQ,IH]) ?_)),fun O=>by have:=hk (O 0);rwa [e4,hn]at this⟩;intro j v d h3 h4;unfold ints at h3;unfold pQ at h4;rw [List.getElem?_map]at h3 h4;cases hq:zs[j]? with
  | none=>rw [hq]at h3;cases h3
  | some z=>rw [hq]at h3 h4;injection h3 with h3;injection h4 with h4;subst h3 h4;exact .int
 intro m;induction m with
 | zero=>
  intro k h1 h2 h3 h4;rw [lI];unfold gV;refine aN ?_;rw [jW,aI,aT,if_neg (by simp;omega)];exact fin k (by omega) h4
 | succ m ih=>
  intro k h1 h2 h3 h4;rw [lI];unfold gV;refine aN ?_;rw [jW,aI,aT];by_cases hlt:k<n
  ·rw [if_pos (by simp;omega),dR hlt]
   refine JQ hi (DB (by omega)) ?_;rw [lV,PW (by omega) (by omega),dR (by omega)];refine JQ hi (DB (by omega)) ?_;rw [bW,aT,Nat.mul_one,Nat.mul_one];have hz:¬k=0:=by omega
   by_cases hd:zs.getD k 0=zs.getD (k-1) 0
   ·rw [if_pos (by simp only [hd];simp)]
    refine HY hi hlt ?_;obtain⟨p,hp⟩:=Nat.exists_eq_succ_of_ne_zero (show x.most≠0 by omega);rw [hp];have e5:dq zs (k+1)=zs.take k:=(Nu (by omega) hd).trans h4;have e6:(dq zs (k+1)).length=k:=by rw [e5,List.length_take];omega
    exact aGl hn hM hb hs hk (m+1) h1 p 1 k S zs hle hi hn (Nat.le_refl _) (by omega) (by omega) e6.symm (by omega) e5.symm rfl
   ·rw [if_neg (by rw [decide_eq_false hd];simp),bA,fF (by omega)]
    refine ih (k+1) (by omega) (by omega) (by omega) ?_;rw [Xz hd,List.take_add_one,List.getElem?_eq_getElem (by omega),h4,DA (by omega)];rfl
  ·rw [if_neg (by simp;omega)]
   exact fin k (by omega) h4
end
section
variable{ov:XE}{M d i n:Nat}{x:VE}{S S':Hp}{K:KV}{zs:List Int}
theorem Rl (hf:ov bJ=none) (hx:Deep PP bM ov M (d+1) x) (hn:zs.length=n) (hM:n<M) (hb:n<1000000000) (hs:S' i=none) (hle:dL S' S) (h1:1<=n) (hi:S i=some (.iD (ints zs) 3 n)) (hk:∀O,K (.list O (pQ (dd zs)) (dd zs).length) S'):x.call bJ [.acc i n] S K:=by
 refine hx.call hf fun y hy=>?_;rw [oS];unfold kK;have hm:y.most=M:=hy.most;rw [jW,aI,aT]
 have one:dq zs 1=zs.take 1:=by
  cases zs with
  | nil=>simp at hn;omega
  | cons a l=>rfl
 by_cases h2:n<2
 ·rw [if_pos (by simp;omega)]
  have e:n=1:=by omega
  subst e;have e4:dd zs=zs:=by unfold dd;rw [hn,one,<-hn,List.take_length]
  refine⟨S',fun O=> .list (O 0) (pQ zs) 1,hle,fun O=> .one (.dat (.acc hi hs (by rw [AQ,IH]) ?_)),fun O=>by have:=hk (O 0);rwa [e4,hn]at this⟩;intro j v d h3 h4;unfold ints at h3;unfold pQ at h4;rw [List.getElem?_map]at h3 h4;cases hq:zs[j]? with
  | none=>rw [hq]at h3;cases h3
  | some z=>rw [hq]at h3 h4;injection h3 with h3;injection h4 with h4;subst h3 h4;exact .int
 ·rw [if_neg (by simp;omega)]
  obtain⟨p,hp⟩:=Nat.exists_eq_succ_of_ne_zero (show y.most≠0 by omega);rw [hp];exact aGm hn (by omega) hb hs hk hle hi p 1 (Nat.le_refl _) h1 (by omega) one
end
set_option maxRecDepth 100000
noncomputable def uU (x:VE) (a0 a1:V) (S:Hp) (K:KV):Prop:=
 nW 78 a1 S fun v0 S=>
 aQ PP a0 fun v1=>
 aD 0 v1 fun v2=>
 aD 4 v2 fun v3=>
 aE v3 S fun v4 S=>
 x.call cU [a0,v4] S fun v5 S=>
 lU 0 v5 fun v6=>
 lU 1 v5 fun v7=>
 fE [(.int .i64 (.ofNat 0)),(.int .i64 (.ofNat 0)),(.int .u8 (.ofNat 0)),(.int .i64 (.ofNat 0)),(.string ⟨⟨[]⟩⟩)] 39 S fun v8 S=>
 jK 5 v8 v6 S fun S=>
 aQ PP a0 fun v9=>
 aD 0 v9 fun v10=>
 aD 5 v10 fun v11=>
 aE v11 S fun v12 S=>
 aF PP .neq 3 v12 (.int .i64 (.ofNat 1)) fun v13=>
 aC x.most (aB false v13 (fun k=>k v7 S) S fun v14 S=>
 aC x.most (aB false v13 (fun k=>GU .not v14 fun v15=>
 k v15 S) S fun v16 S=>
 aC x.most (aL v13 (.bool true) v16 fun v17=>
 aC x.most (aB false v17 (fun k=>aD 3 v8 fun v18=>
 k v18 S) S fun v19 S=>
 aC x.most (aB false v17 (fun k=>aE v19 S fun v20 S=>
 k v20 S) S fun v21 S=>
 aC x.most (aB false v17 (fun k=>aF PP .neq 3 v21 (.int .i64 (.negSucc 0)) fun v22=>
 k v22 S) S fun v23 S=>
 aC x.most (aL v17 (.bool true) v23 fun v24=>
 aC x.most (aB false v24 (fun k=>aD 1 v0 fun v25=>
 k v25 S) S fun v26 S=>
 aC x.most (aB false v24 (fun k=>aE v26 S fun v27 S=>
 k v27 S) S fun v28 S=>
 aC x.most (aB false v24 (fun k=>aD 4 v8 fun v29=>
 k v29 S) S fun v30 S=>
 aC x.most (aB false v24 (fun k=>aE v30 S fun v31 S=>
 k v31 S) S fun v32 S=>
 aC x.most (aB false v24 (fun k=>x.call eD [v28,v32] S fun v33 S=>
 k v33 S) S fun v34 S=>
 aC x.most (aB false v24 (fun k=>GU .not v34 fun v35=>
 k v35 S) S fun v36 S=>
 aC x.most (aL v24 (.bool true) v36 fun v37=>
 fC v37 (aS (.tuple [.nil,(.bool false)]) S K) (aD 4 v8 fun v38=>
 aE v38 S fun v39 S=>
 aQ PP a0 fun v40=>
 aD 0 v40 fun v41=>
 aD 7 v41 fun v42=>
 aE v42 S fun v43 S=>
 aF PP .eql 9 v43 (.str []) fun v44=>
 x.call eF [a0,v39,v44] S fun v45 S=>
 aE v42 S fun v46 _=>
 aY v46 v43 (lU 0 v45 fun v47=>
 lU 1 v45 fun v48=>
 aS (.tuple [v47,v48]) S K))))))))))))))))
theorem FJ (x:VE) (a0 a1:V) (S:Hp) (K:KV):nP PP bM gY x [a0,a1] S K=uU x a0 a1 S K:=by kernel_rfl
noncomputable def xZ (x:VE) (a0 a1:V) (S:Hp) (K:KV):Prop:=
 nW 78 a1 S fun v0 S=>
 aQ PP a0 fun v1=>
 aD 0 v1 fun v2=>
 aD 4 v2 fun v3=>
 aE v3 S fun v4 S=>
 x.call cU [a0,v4] S fun v5 S=>
 lU 0 v5 fun v6=>
 lU 1 v5 fun v7=>
 fE [(.int .i64 (.ofNat 0)),(.int .i64 (.ofNat 0)),(.int .u8 (.ofNat 0)),(.int .i64 (.ofNat 0)),(.string ⟨⟨[]⟩⟩)] 39 S fun v8 S=>
 jK 5 v8 v6 S fun S=>
 aQ PP a0 fun v9=>
 aD 0 v9 fun v10=>
 aD 5 v10 fun v11=>
 aE v11 S fun v12 S=>
 aF PP .neq 3 v12 (.int .i64 (.ofNat 1)) fun v13=>
 aC x.most (aB false v13 (fun k=>k v7 S) S fun v14 S=>
 aC x.most (aB false v13 (fun k=>GU .not v14 fun v15=>
 k v15 S) S fun v16 S=>
 aC x.most (aL v13 (.bool true) v16 fun v17=>
 aC x.most (aB false v17 (fun k=>aD 3 v8 fun v18=>
 k v18 S) S fun v19 S=>
 aC x.most (aB false v17 (fun k=>aE v19 S fun v20 S=>
 k v20 S) S fun v21 S=>
 aC x.most (aB false v17 (fun k=>aF PP .eql 3 v21 (.int .i64 (.negSucc 0)) fun v22=>
 k v22 S) S fun v23 S=>
 aC x.most (aL v17 (.bool true) v23 fun v24=>
 aC x.most (aB false v24 (fun k=>k a0 S) S fun v25 S=>
 aC x.most (aB false v24 (fun k=>aD 3 v8 fun v26=>
 k v26 S) S fun v27 S=>
 aC x.most (aB false v24 (fun k=>aE v27 S fun v28 S=>
 k v28 S) S fun v29 S=>
 aC x.most (aB false v24 (fun k=>aD 4 v8 fun v30=>
 k v30 S) S fun v31 S=>
 aC x.most (aB false v24 (fun k=>aE v31 S fun v32 S=>
 k v32 S) S fun v33 S=>
 aC x.most (aB false v24 (fun k=>x.call eY [v25,v29,(.int .u8 (.ofNat 3)),v33] S fun v34 S=>
 k v34 S) S fun v35 S=>
 aC x.most (aB false v24 (fun k=>GU .not v35 fun v36=>
 k v36 S) S fun v37 S=>
 aC x.most (aL v24 (.bool true) v37 fun v38=>
 fC v38 (aS (.tuple [.nil,(.bool false)]) S K) (aD 4 v8 fun v39=>
 aE v39 S fun v40 S=>
 aQ PP a0 fun v41=>
 aD 0 v41 fun v42=>
 aD 9 v42 fun v43=>
 aE v43 S fun v44 S=>
 aD 3 v8 fun v45=>
 aE v45 S fun v46 S=>
 aF PP .leq 3 v44 v46 fun v47=>
 x.call eF [a0,v40,v47] S fun v48 S=>
 aE v45 S fun v49 _=>
 aY v49 v46 (aE v43 S fun v50 _=>
 aY v50 v44 (lU 0 v48 fun v51=>
 lU 1 v48 fun v52=>
 aS (.tuple [v51,v52]) S K))))))))))))))))))
theorem IY (x:VE) (a0 a1:V) (S:Hp) (K:KV):nP PP bM jG x [a0,a1] S K=xZ x a0 a1 S K:=by kernel_rfl
noncomputable def wR (x:VE) (a0 a1:V) (S:Hp) (K:KV):Prop:=
 nW 78 a1 S fun v0 S=>
 aQ PP a0 fun v1=>
 aD 0 v1 fun v2=>
 aD 4 v2 fun v3=>
 aE v3 S fun v4 S=>
 x.call cU [a0,v4] S fun v5 S=>
 lU 0 v5 fun v6=>
 lU 1 v5 fun v7=>
 fE [(.int .i64 (.ofNat 0)),(.int .i64 (.ofNat 0)),(.int .u8 (.ofNat 0)),(.int .i64 (.ofNat 0)),(.string ⟨⟨[]⟩⟩)] 39 S fun v8 S=>
 jK 5 v8 v6 S fun S=>
 aQ PP a0 fun v9=>
 aD 0 v9 fun v10=>
 aD 5 v10 fun v11=>
 aE v11 S fun v12 S=>
 aF PP .eql 3 v12 (.int .i64 (.ofNat 1)) fun v13=>
 aC x.most (aB false v13 (fun k=>k a0 S) S fun v14 S=>
 aC x.most (aB false v13 (fun k=>aQ PP v14 fun v15=>
 k v15 S) S fun v16 S=>
 aC x.most (aB false v13 (fun k=>aD 0 v16 fun v17=>
 k v17 S) S fun v18 S=>
 aC x.most (aB false v13 (fun k=>aD 12 v18 fun v19=>
 k v19 S) S fun v20 S=>
 aC x.most (aB false v13 (fun k=>aE v20 S fun v21 S=>
 k v21 S) S fun v22 S=>
 aC x.most (aL v13 (.bool true) v22 fun v23=>
 aC x.most (aB false v23 (fun k=>k v7 S) S fun v24 S=>
 aC x.most (aB false v23 (fun k=>GU .not v24 fun v25=>
 k v25 S) S fun v26 S=>
 aC x.most (aL v23 (.bool true) v26 fun v27=>
 aC x.most (aB false v27 (fun k=>k a0 S) S fun v28 S=>
 aC x.most (aB false v27 (fun k=>k a0 S) S fun v29 S=>
 aC x.most (aB false v27 (fun k=>aQ PP v29 fun v30=>
 k v30 S) S fun v31 S=>
 aC x.most (aB false v27 (fun k=>aD 0 v31 fun v32=>
 k v32 S) S fun v33 S=>
 aC x.most (aB false v27 (fun k=>aD 4 v33 fun v34=>
 k v34 S) S fun v35 S=>
 aC x.most (aB false v27 (fun k=>aE v35 S fun v36 S=>
 k v36 S) S fun v37 S=>
 aC x.most (aB false v27 (fun k=>aD 4 v8 fun v38=>
 k v38 S) S fun v39 S=>
 aC x.most (aB false v27 (fun k=>aE v39 S fun v40 S=>
 k v40 S) S fun v41 S=>
 aC x.most (aB false v27 (fun k=>x.call eY [v28,v37,(.int .u8 (.ofNat 3)),v41] S fun v42 S=>
 k v42 S) S fun v43 S=>
 aC x.most (bN false v13 v22 (fun k=>aE v20 S fun v44 _=>
 aY v44 v22 k) (aE v11 S fun v45 _=>
 aY v45 v12 (aC x.most (aB false v27 (fun k=>GU .not v43 fun v46=>
 k v46 S) S fun v47 S=>
 aC x.most (aL v27 (.bool true) v47 fun v48=>
 fC v48 (aS (.tuple [.nil,(.bool false)]) S K) (aD 4 v8 fun v49=>
 aE v49 S fun v50 S=>
 aQ PP a0 fun v51=>
 aD 0 v51 fun v52=>
 aD 4 v52 fun v53=>
 aE v53 S fun v54 S=>
 aQ PP a0 fun v55=>
 aD 0 v55 fun v56=>
 aD 12 v56 fun v57=>
 jK 1 v57 (.bool true) S fun S=>
 aE v49 S fun v58 _=>
 aY v58 v50 (aQ PP a0 fun v59=>
 aD 0 v59 fun v60=>
 aD 8 v60 fun v61=>
 jK 1 v61 v50 S fun S=>
 aQ PP a0 fun v62=>
 aD 0 v62 fun v63=>
 aD 10 v63 fun v64=>
 jK 1 v64 v54 S fun S=>
 aQ PP a0 fun v65=>
 aD 0 v65 fun v66=>
 aD 5 v66 fun v67=>
 aE v67 S fun v68 S=>
 aF PP .eql 3 v68 (.int .i64 (.ofNat 3)) fun v69=>
 fC v69 (aS (.tuple [.nil,(.bool true)]) S K) (aD 4 v8 fun v70=>
 aE v70 S fun v71 S=>
 aQ PP a0 fun v72=>
 aD 0 v72 fun v73=>
 aD 4 v73 fun v74=>
 aE v74 S fun v75 S=>
 aQ PP a0 fun v76=>
 aD 0 v76 fun v77=>
 aD 7 v77 fun v78=>
 jK 1 v78 v71 S fun S=>
 aQ PP a0 fun v79=>
 aD 0 v79 fun v80=>
 aD 9 v80 fun v81=>
 jK 1 v81 v75 S fun S=>
 x.call cH [a0,(.int .i64 (.ofNat 3))] S fun v82 S=>
 aD 4 v8 fun v83=>
 aE v83 S fun v84 S=>
 x.call bV [a0,(.int .u8 (.ofNat 4)),(.int .i64 (.ofNat 0)),v84] S fun v85 S=>
 aS (.tuple [v85,(.bool true)]) S K))))))))))))))))))))))))))
theorem HA (x:VE) (a0 a1:V) (S:Hp) (K:KV):nP PP bM iL x [a0,a1] S K=wR x a0 a1 S K:=by kernel_rfl
noncomputable def tB (x:VE) (a0 a1:V) (S:Hp) (K:KV):Prop:=
 nW 78 a1 S fun v0 S=>
 aQ PP a0 fun v1=>
 aD 0 v1 fun v2=>
 aD 5 v2 fun v3=>
 aE v3 S fun v4 S=>
 aF PP .neq 3 v4 (.int .i64 (.ofNat 2)) fun v5=>
 aC x.most (aB false v5 (fun k=>k a0 S) S fun v6 S=>
 aC x.most (aB false v5 (fun k=>k a0 S) S fun v7 S=>
 aC x.most (aB false v5 (fun k=>aQ PP v7 fun v8=>
 k v8 S) S fun v9 S=>
 aC x.most (aB false v5 (fun k=>aD 0 v9 fun v10=>
 k v10 S) S fun v11 S=>
 aC x.most (aB false v5 (fun k=>aD 4 v11 fun v12=>
 k v12 S) S fun v13 S=>
 aC x.most (aB false v5 (fun k=>aE v13 S fun v14 S=>
 k v14 S) S fun v15 S=>
 aC x.most (aB false v5 (fun k=>x.call eY [v6,v15,(.int .u8 (.ofNat 3)),(.str [])] S fun v16 S=>
 k v16 S) S fun v17 S=>
 aC x.most (aB false v5 (fun k=>GU .not v17 fun v18=>
 k v18 S) S fun v19 S=>
 aC x.most (aL v5 (.bool true) v19 fun v20=>
 fC v20 (aS (.tuple [.nil,(.bool false)]) S K) (x.call cH [a0,(.int .i64 (.ofNat 3))] S fun v21 S=>
 x.call bV [a0,(.int .u8 (.ofNat 4)),(.int .i64 (.ofNat 0)),(.str [])] S fun v22 S=>
 aS (.tuple [v22,(.bool true)]) S K))))))))))
theorem CS (x:VE) (a0 a1:V) (S:Hp) (K:KV):nP PP bM gC x [a0,a1] S K=tB x a0 a1 S K:=by kernel_rfl
noncomputable def iP (x:VE) (t0 t6 t7:V) (S:Hp) (K:KV):Prop:=xO PP bM dH x [.r,.r,.r] [] [t0,t6,t7] S K
noncomputable def tC (x:VE) (a0 a1:V) (S:Hp) (K:KV):Prop:=
 nW 78 a1 S fun v0 S=>
 aQ PP a0 fun v1=>
 aD 0 v1 fun v2=>
 aD 8 v2 fun v3=>
 aE v3 S fun v4 S=>
 aQ PP a0 fun v5=>
 aD 0 v5 fun v6=>
 aD 10 v6 fun v7=>
 aE v7 S fun v8 S=>
 aF PP .eql 9 v4 (.str []) fun v9=>
 fC v9 (aD 0 v0 fun v10=>
 aE v10 S fun v11 S=>
 iP x a0 v11 (.int .i64 (.negSucc 0)) S K) (iP x a0 v4 v8 S K)
theorem CU (x:VE) (a0 a1:V) (S:Hp) (K:KV):nP PP bM dH x [a0,a1] S K=tC x a0 a1 S K:=by kernel_rfl
noncomputable def lA (x:VE) (t0 t6 t7:V) (S:Hp) (K:KV):Prop:=
 dX S fun S=>
 aQ PP t0 fun v0=>
 aD 0 v0 fun v1=>
 aD 5 v1 fun v2=>
 aE v2 S fun v3 S=>
 aF PP .neq 3 v3 (.int .i64 (.ofNat 1)) fun v4=>
 aC x.most (aB false v4 (fun k=>k t0 S) S fun v5 S=>
 aC x.most (aB false v4 (fun k=>aQ PP v5 fun v6=>
 k v6 S) S fun v7 S=>
 aC x.most (aB false v4 (fun k=>aD 0 v7 fun v8=>
 k v8 S) S fun v9 S=>
 aC x.most (aB false v4 (fun k=>aD 11 v9 fun v10=>
 k v10 S) S fun v11 S=>
 aC x.most (aB false v4 (fun k=>aE v11 S fun v12 S=>
 k v12 S) S fun v13 S=>
 aC x.most (aL v4 (.bool true) v13 fun v14=>
 aC x.most (aB false v14 (fun k=>k t0 S) S fun v15 S=>
 aC x.most (aB false v14 (fun k=>k t0 S) S fun v16 S=>
 aC x.most (aB false v14 (fun k=>aQ PP v16 fun v17=>
 k v17 S) S fun v18 S=>
 aC x.most (aB false v14 (fun k=>aD 0 v18 fun v19=>
 k v19 S) S fun v20 S=>
 aC x.most (aB false v14 (fun k=>aD 4 v20 fun v21=>
 k v21 S) S fun v22 S=>
 aC x.most (aB false v14 (fun k=>aE v22 S fun v23 S=>
 k v23 S) S fun v24 S=>
 aC x.most (aB false v14 (fun k=>k t0 S) S fun v25 S=>
 aC x.most (aB false v14 (fun k=>aQ PP v25 fun v26=>
 k v26 S) S fun v27 S=>
 aC x.most (aB false v14 (fun k=>aD 0 v27 fun v28=>
 k v28 S) S fun v29 S=>
 aC x.most (aB false v14 (fun k=>aD 3 v29 fun v30=>
 k v30 S) S fun v31 S=>
 aC x.most (aB false v14 (fun k=>aE v31 S fun v32 S=>
 k v32 S) S fun v33 S=>
 aC x.most (aB false v14 (fun k=>x.call bR [v15,v24] S fun v34 S=>
 k v34 S) S fun v35 S=>
 aC x.most (bN false v14 v33 (fun k=>aE v31 S fun v36 _=>
 aY v36 v33 k) (aC x.most (bN false v4 v13 (fun k=>aE v11 S fun v37 _=>
 aY v37 v13 k) (aE v2 S fun v38 _=>
 aY v38 v3 (aC x.most (aB false v14 (fun k=>aF PP .neq 3 v35 v33 fun v39=>
 k v39 S) S fun v40 S=>
 aC x.most (aL v14 (.bool true) v40 fun v41=>
 aC x.most (aB false v41 (fun k=>k t6 S) S fun v42 S=>
 aC x.most (aB false v41 (fun k=>aF PP .eql 9 v42 (.str []) fun v43=>
 k v43 S) S fun v44 S=>
 aC x.most (aL v41 (.bool true) v44 fun v45=>
 fC v45 (aS (.tuple [.nil,(.bool false)]) S K) (aQ PP t0 fun v46=>
 aD 0 v46 fun v47=>
 aD 11 v47 fun v48=>
 jK 1 v48 (.bool true) S fun S=>
 x.call bV [t0,(.int .u8 (.ofNat 2)),t7,t6] S fun v49 S=>
 aS (.tuple [v49,(.bool true)]) S K)))))))))))))))))))))))))))))
theorem wS (x:VE) (t0 t6 t7:V) (S:Hp) (K:KV):xP PP bM dH x [.r,.r,.r] [] [t0,t6,t7] S K=lA x t0 t6 t7 S K:=by kernel_rfl
theorem xH (x:VE) (hm:x.most≠0) (t0 t6 t7:V) (S:Hp) (K:KV):iP x t0 t6 t7 S K=lA x t0 t6 t7 S K:=(nI (hm:=hm) ..).trans (wS x t0 t6 t7 S K)
noncomputable def AG (x:VE) (a0 a1:V) (S:Hp) (K:KV):Prop:=
 aQ PP a0 fun v0=>
 aD 0 v0 fun v1=>
 aD 5 v1 fun v2=>
 jK 1 v2 a1 S fun S=>
 aQ PP a0 fun v3=>
 aD 0 v3 fun v4=>
 aD 6 v4 fun v5=>
 jK 1 v5 (.int .i64 (.ofNat 0)) S fun S=>
 aS (.tuple []) S K
theorem LC (x:VE) (a0 a1:V) (S:Hp) (K:KV):nP PP bM cH x [a0,a1] S K=AG x a0 a1 S K:=by kernel_rfl
noncomputable def yA (x:VE) (a0 a1 a2 a3:V) (S:Hp) (K:KV):Prop:=
 aQ PP a0 fun v0=>
 aD 0 v0 fun v1=>
 aD 3 v1 fun v2=>
 aE v2 S fun v3 S=>
 aQ PP a0 fun v4=>
 aD 0 v4 fun v5=>
 aD 4 v5 fun v6=>
 aE v6 S fun v7 S=>
 gP [(.int .i64 (.ofNat 0)),(.int .i64 (.ofNat 0)),(.int .u8 (.ofNat 0)),(.int .i64 (.ofNat 0)),(.string ⟨⟨[]⟩⟩)] [(0,1,v3),(1,1,v7),(2,1,a1),(3,1,a2),(4,1,a3)] fun v8=>
 x.call cN [a0,v8] S fun v9 S=>
 aE v6 S fun v10 _=>
 aY v10 v7 (aE v2 S fun v11 _=>
 aY v11 v3 (aQ PP a0 fun v12=>
 aD 0 v12 fun v13=>
 aD 0 v13 fun v14=>
 aE v14 S fun v15 S=>
 aQ PP a0 fun v16=>
 aD 0 v16 fun v17=>
 aD 4 v17 fun v18=>
 aE v18 S fun v19 S=>
 gP [(.int .u8 (.ofNat 0)),(.int .i64 (.ofNat 0)),(.int .i64 (.ofNat 0)),(.int .i64 (.ofNat 0)),(.int .i64 (.ofNat 0)),(.int .i64 (.ofNat 0)),(.int .i64 (.ofNat 0)),(.int .i64 (.ofNat 0)),(.int .i64 (.ofNat 0)),(.string ⟨⟨[]⟩⟩),(.slice none 0 0)] [(0,1,a1),(3,1,v15),(4,1,v19),(5,1,a2),(9,1,a3)] fun v20=>
 aE v18 S fun v21 _=>
 aY v21 v19 (aE v14 S fun v22 _=>
 aY v22 v15 ((dP 45 1 [(.int .u8 (.ofNat 0)),(.int .i64 (.ofNat 0)),(.int .i64 (.ofNat 0)),(.int .i64 (.ofNat 0)),(.int .i64 (.ofNat 0)),(.int .i64 (.ofNat 0)),(.int .i64 (.ofNat 0)),(.int .i64 (.ofNat 0)),(.int .i64 (.ofNat 0)),(.string ⟨⟨[]⟩⟩),(.slice none 0 0)] [(0,11,v20)] S fun v23 S=>
 True)/\(dP 45 1 [(.int .u8 (.ofNat 0)),(.int .i64 (.ofNat 0)),(.int .i64 (.ofNat 0)),(.int .i64 (.ofNat 0)),(.int .i64 (.ofNat 0)),(.int .i64 (.ofNat 0)),(.int .i64 (.ofNat 0)),(.int .i64 (.ofNat 0)),(.int .i64 (.ofNat 0)),(.string ⟨⟨[]⟩⟩),(.slice none 0 0)] [(0,11,v20)] S fun v24 S=>
 aS v24 S K)))))
theorem IZ (x:VE) (a0 a1 a2 a3:V) (S:Hp) (K:KV):nP PP bM bV x [a0,a1,a2,a3] S K=yA x a0 a1 a2 a3 S K:=by kernel_rfl
noncomputable def uB (x:VE) (a0 a1:V) (S:Hp) (K:KV):Prop:=
 aQ PP a0 fun v0=>
 aD 0 v0 fun v1=>
 aD 1 v1 fun v2=>
 aE v2 S fun v3 S=>
 aQ PP a0 fun v4=>
 aD 0 v4 fun v5=>
 aD 2 v5 fun v6=>
 aE v6 S fun v7 S=>
 aF PP .sub 3 v3 v7 fun v8=>
 aF PP .geq 3 a1 v8 fun v9=>
 aS v9 S K
theorem EU (x:VE) (a0 a1:V) (S:Hp) (K:KV):nP PP bM eX x [a0,a1] S K=uB x a0 a1 S K:=by kernel_rfl
noncomputable def uV (x:VE) (a0 a1:V) (S:Hp) (K:KV):Prop:=
 x.call cH [a0,(.int .i64 (.ofNat 1))] S fun v0 S=>
 aQ PP a0 fun v1=>
 aD 0 v1 fun v2=>
 aD 4 v2 fun v3=>
 jK 1 v3 a1 S fun S=>
 aQ PP a0 fun v4=>
 aD 0 v4 fun v5=>
 aD 11 v5 fun v6=>
 jK 1 v6 (.bool false) S fun S=>
 aQ PP a0 fun v7=>
 aD 0 v7 fun v8=>
 aD 12 v8 fun v9=>
 jK 1 v9 (.bool false) S fun S=>
 aS (.tuple []) S K
theorem FK (x:VE) (a0 a1:V) (S:Hp) (K:KV):nP PP bM fR x [a0,a1] S K=uV x a0 a1 S K:=by kernel_rfl
noncomputable def jM (x:VE) (t2 t49:V) (S:Hp) (K:KV):Prop:=xO PP bM dO x [.r,.r,.l,.r,.d,.r,.r,.r] [] [t2,t49] S K
noncomputable def CW (x:VE) (a0 a1:V) (S:Hp) (K:KV):Prop:=
 nW 39 a0 S fun v0 S=>
 aD 0 v0 fun v1=>
 aE v1 S fun v2 S=>
 aF PP .lss 3 v2 (.int .i64 (.ofNat 1)) fun v3=>
 aC x.most (aB false v3 (fun k=>aD 0 v0 fun v4=>
 k v4 S) S fun v5 S=>
 aC x.most (aB false v3 (fun k=>aE v5 S fun v6 S=>
 k v6 S) S fun v7 S=>
 aC x.most (aB false v3 (fun k=>k a1 S) S fun v8 S=>
 aC x.most (aB false v3 (fun k=>aF PP .gtr 3 v7 v8 fun v9=>
 k v9 S) S fun v10 S=>
 aC x.most (aL v3 (.bool true) v10 fun v11=>
 aC x.most (aB false v11 (fun k=>aD 1 v0 fun v12=>
 k v12 S) S fun v13 S=>
 aC x.most (aB false v11 (fun k=>aE v13 S fun v14 S=>
 k v14 S) S fun v15 S=>
 aC x.most (aB false v11 (fun k=>aF PP .lss 3 v15 (.int .i64 (.ofNat 0)) fun v16=>
 k v16 S) S fun v17 S=>
 aC x.most (aL v11 (.bool true) v17 fun v18=>
 aC x.most (aB false v18 (fun k=>aD 1 v0 fun v19=>
 k v19 S) S fun v20 S=>
 aC x.most (aB false v18 (fun k=>aE v20 S fun v21 S=>
 k v21 S) S fun v22 S=>
 aC x.most (aB false v18 (fun k=>aF PP .geq 3 v22 (.int .i64 (.ofNat 100)) fun v23=>
 k v23 S) S fun v24 S=>
 aC x.most (aL v18 (.bool true) v24 fun v25=>
 aC x.most (aB false v25 (fun k=>aD 4 v0 fun v26=>
 k v26 S) S fun v27 S=>
 aC x.most (aB false v25 (fun k=>aE v27 S fun v28 S=>
 k v28 S) S fun v29 S=>
 aC x.most (aB false v25 (fun k=>xN v29 fun v30=>
 k v30 S) S fun v31 S=>
 aC x.most (aB false v25 (fun k=>aF PP .gtr 3 v31 (.int .i64 (.ofNat 2048)) fun v32=>
 k v32 S) S fun v33 S=>
 aC x.most (aL v25 (.bool true) v33 fun v34=>
 fC v34 (aS (.bool false) S K) (aD 2 v0 fun v35=>
 aE v35 S fun v36 S=>
 aF PP .eql 5 v36 (.int .u8 (.ofNat 2)) fun v37=>
 fC v37 (aD 4 v0 fun v38=>
 aE v38 S fun v39 S=>
 aF PP .neq 9 v39 (.str []) fun v40=>
 aC x.most (aB true v40 (fun k=>aD 3 v0 fun v41=>
 k v41 S) S fun v42 S=>
 aC x.most (aB true v40 (fun k=>aE v42 S fun v43 S=>
 k v43 S) S fun v44 S=>
 aC x.most (aB true v40 (fun k=>aF PP .geq 3 v44 (.int .i64 (.negSucc 0)) fun v45=>
 k v45 S) S fun v46 S=>
 aC x.most (aL v40 v46 (.bool false) fun v47=>
 aC x.most (aB true v47 (fun k=>aD 3 v0 fun v48=>
 k v48 S) S fun v49 S=>
 aC x.most (aB true v47 (fun k=>aE v49 S fun v50 S=>
 k v50 S) S fun v51 S=>
 aC x.most (aB true v47 (fun k=>aD 1 v0 fun v52=>
 k v52 S) S fun v53 S=>
 aC x.most (aB true v47 (fun k=>aE v53 S fun v54 S=>
 k v54 S) S fun v55 S=>
 aC x.most (aB true v47 (fun k=>aF PP .lss 3 v51 v55 fun v56=>
 k v56 S) S fun v57 S=>
 aC x.most (aL v47 v57 (.bool false) fun v58=>
 aS v58 S K))))))))))) (aF PP .eql 5 v36 (.int .u8 (.ofNat 3)) fun v59=>
 fC v59 (jM x v0 v59 S K) (aF PP .eql 5 v36 (.int .u8 (.ofNat 4)) fun v60=>
 jM x v0 v60 S K)))))))))))))))))))))
theorem PS (x:VE) (a0 a1:V) (S:Hp) (K:KV):nP PP bM dO x [a0,a1] S K=CW x a0 a1 S K:=by kernel_rfl
noncomputable def mJ (x:VE) (t2 t49:V) (S:Hp) (K:KV):Prop:=
 dX S fun S=>
 fC t49 (aD 3 t2 fun v0=>
 aE v0 S fun v1 S=>
 aF PP .eql 3 v1 (.int .i64 (.ofNat 0)) fun v2=>
 aS v2 S K) (aS (.bool false) S K)
theorem yV (x:VE) (t2 t49:V) (S:Hp) (K:KV):xP PP bM dO x [.r,.r,.l,.r,.d,.r,.r,.r] [] [t2,t49] S K=mJ x t2 t49 S K:=by kernel_rfl
theorem AH (x:VE) (hm:x.most≠0) (t2 t49:V) (S:Hp) (K:KV):jM x t2 t49 S K=mJ x t2 t49 S K:=(nI (hm:=hm) ..).trans (yV x t2 t49 S K)
noncomputable def sB (x:VE) (a0 a1:V) (S:Hp) (K:KV):Prop:=
 fE [(.int .i64 (.ofNat 0)),(.int .i64 (.ofNat 0)),(.int .u8 (.ofNat 0)),(.int .i64 (.ofNat 0)),(.string ⟨⟨[]⟩⟩)] 39 S fun v0 S=>
 aQ PP a0 fun v1=>
 aD 15 v1 fun v2=>
 aE v2 S fun v3 S=>
 x.call bR [a0,a1] S fun v4 S=>
 aE v2 S fun v5 _=>
 aY v5 v3 (x.call jB [v3,a1,v4] S fun v6 S=>
 lU 0 v6 fun v7=>
 lU 1 v6 fun v8=>
 jK 5 v0 v7 S fun S=>
 dK 5 v0 S fun v9 _=>
 aS (.tuple [v9,v8]) S K)
theorem BY (x:VE) (a0 a1:V) (S:Hp) (K:KV):nP PP bM cU x [a0,a1] S K=sB x a0 a1 S K:=by kernel_rfl
noncomputable def uC (x:VE) (a0 a1 a2 a3:V) (S:Hp) (K:KV):Prop:=
 aQ PP a0 fun v0=>
 aD 15 v0 fun v1=>
 aE v1 S fun v2 S=>
 x.call lF [v2,a1,a2,a3] S fun v3 S=>
 x.call eX [a0,v3] S fun v4 S=>
 aS v4 S K
theorem EV (x:VE) (a0 a1 a2 a3:V) (S:Hp) (K:KV):nP PP bM eY x [a0,a1,a2,a3] S K=uC x a0 a1 a2 a3 S K:=by kernel_rfl
noncomputable def iQ (x:VE) (t0 t1:V) (S:Hp) (K:KV):Prop:=xO PP bM eF x [.r,.r,.r] [] [t0,t1] S K
noncomputable def tD (x:VE) (a0 a1 a2:V) (S:Hp) (K:KV):Prop:=
 x.call cH [a0,(.int .i64 (.ofNat 2))] S fun v0 S=>
 GU .not a2 fun v1=>
 aC x.most (aB true v1 (fun k=>k a0 S) S fun v2 S=>
 aC x.most (aB true v1 (fun k=>aQ PP v2 fun v3=>
 k v3 S) S fun v4 S=>
 aC x.most (aB true v1 (fun k=>aD 0 v4 fun v5=>
 k v5 S) S fun v6 S=>
 aC x.most (aB true v1 (fun k=>aD 7 v6 fun v7=>
 k v7 S) S fun v8 S=>
 aC x.most (aB true v1 (fun k=>aE v8 S fun v9 S=>
 k v9 S) S fun v10 S=>
 aC x.most (aB true v1 (fun k=>k a1 S) S fun v11 S=>
 aC x.most (aB true v1 (fun k=>aF PP .neq 9 v10 v11 fun v12=>
 k v12 S) S fun v13 S=>
 aC x.most (aL v1 v13 (.bool false) fun v14=>
 fC v14 (iQ x a0 (.str []) S K) (iQ x a0 a1 S K)))))))))
theorem CX (x:VE) (a0 a1 a2:V) (S:Hp) (K:KV):nP PP bM eF x [a0,a1,a2] S K=tD x a0 a1 a2 S K:=by kernel_rfl
noncomputable def lB (x:VE) (t0 t1:V) (S:Hp) (K:KV):Prop:=
 dX S fun S=>
 x.call bV [t0,(.int .u8 (.ofNat 3)),(.int .i64 (.ofNat 0)),t1] S fun v0 S=>
 aS (.tuple [v0,(.bool true)]) S K
theorem wT (x:VE) (t0 t1:V) (S:Hp) (K:KV):xP PP bM eF x [.r,.r,.r] [] [t0,t1] S K=lB x t0 t1 S K:=by kernel_rfl
theorem xI (x:VE) (hm:x.most≠0) (t0 t1:V) (S:Hp) (K:KV):iQ x t0 t1 S K=lB x t0 t1 S K:=(nI (hm:=hm) ..).trans (wT x t0 t1 S K)
noncomputable def lG (x:VE) (a0 a1:V) (S:Hp) (K:KV):Prop:=
 x.call fK [a0,a1] S fun v0 S=>
 aF PP .geq 3 v0 (.int .i64 (.ofNat 0)) fun v1=>
 aS v1 S K
theorem rN (x:VE) (a0 a1:V) (S:Hp) (K:KV):nP PP bM eD x [a0,a1] S K=lG x a0 a1 S K:=by kernel_rfl
noncomputable def dU (x:VE) (m:Nat) (t0 t1 t7 t8:V) (S:Hp) (K:KV):Prop:=kH PP bM fK x [.r,.l,.r,.d] m [] [t0,t1,t7,t8] S K
noncomputable def mV (x:VE) (a0 a1:V) (S:Hp) (K:KV):Prop:=
 cY a0 fun v0=>
 dU x x.most a0 a1 v0 (.int .i64 (.ofNat 0)) S K
theorem tF (x:VE) (a0 a1:V) (S:Hp) (K:KV):nP PP bM fK x [a0,a1] S K=mV x a0 a1 S K:=by kernel_rfl
noncomputable def fZ (x:VE) (m0:Nat) (t0 t1 t7 t8:V) (S:Hp) (K:KV):Prop:=
 dX S fun S=>
 aF PP .lss 3 t8 t7 fun v0=>
 fC v0 (fQ 1 t0 t8 fun v1=>
 aE v1 S fun v2 S=>
 aF PP .eql 9 t1 v2 fun v3=>
 fC v3 (aS t8 S K) (aF PP .add 3 t8 (.int .i64 (.ofNat 1)) fun v4=>
 dU x m0 t0 t1 t7 v4 S K)) (aS (.int .i64 (.negSucc 0)) S K)
theorem kD (x:VE) (m0:Nat) (t0 t1 t7 t8:V) (S:Hp) (K:KV):dU x (m0+1) t0 t1 t7 t8 S K=fZ x m0 t0 t1 t7 t8 S K:=by kernel_rfl
noncomputable def jC (x:VE) (m:Nat) (t3 t7 t8 t9:V) (S:Hp) (K:KV):Prop:=kH PP bM gH x [.r,.r,.l,.r,.d] m [] [t3,t7,t8,t9] S K
noncomputable def wU (x:VE) (a0:V) (S:Hp) (K:KV):Prop:=
 x.call dJ [a0] S fun v0 S=>
 cY v0 fun v1=>
 jC x x.most .nil v0 v1 (.int .i64 (.ofNat 0)) S K
theorem HB (x:VE) (a0:V) (S:Hp) (K:KV):nP PP bM gH x [a0] S K=wU x a0 S K:=by kernel_rfl
noncomputable def iR (x:VE) (m0:Nat) (t3 t7 t8 t9:V) (S:Hp) (K:KV):Prop:=
 dX S fun S=>
 aF PP .lss 3 t9 t8 fun v0=>
 fC v0 (fQ 5 t7 t9 fun v1=>
 dK 5 v1 S fun v2 S=>
 fE [(.int .i64 (.ofNat 0)),(.int .i64 (.ofNat 0)),(.int .u8 (.ofNat 0)),(.int .i64 (.ofNat 0)),(.string ⟨⟨[]⟩⟩)] 39 S fun v3 S=>
 jK 5 v3 v2 S fun S=>
 aD 1 v3 fun v4=>
 aE v4 S fun v5 S=>
 dP 3 1 [(.int .i64 (.ofNat 0))] [(0,1,v5)] S fun v6 S=>
 oP 3 1 8 t3 v6 S fun v7 S=>
 aF PP .add 3 t9 (.int .i64 (.ofNat 1)) fun v8=>
 jC x m0 v7 t7 t8 v8 S K) (x.call bJ [t3] S fun v9 S=>
 aS v9 S K)
theorem lN (x:VE) (m0:Nat) (t3 t7 t8 t9:V) (S:Hp) (K:KV):jC x (m0+1) t3 t7 t8 t9 S K=iR x m0 t3 t7 t8 t9 S K:=by kernel_rfl
noncomputable def QY (x:VE) (a0:V) (S:Hp) (K:KV):Prop:=
 aF PP .lss 3 a0 (.int .i64 (.ofNat 1)) fun v0=>
 aC x.most (aB false v0 (fun k=>k a0 S) S fun v1 S=>
 aC x.most (aB false v0 (fun k=>aF PP .gtr 3 v1 (.int .i64 (.ofNat 7)) fun v2=>
 k v2 S) S fun v3 S=>
 aC x.most (aL v0 (.bool true) v3 fun v4=>
 fC v4 (aS (.tuple [.pW,(.int .i64 (.ofNat 1))]) S K) (Bg S fun v5 S=>
 gP [(.int .i64 (.ofNat 0)),(.map none)] [(0,1,a0),(1,1,v5)] fun v6=>
 nW 96 v6 S fun v7 S=>
 aS (.tuple [v7,(.int .i64 (.ofNat 0))]) S K))))
theorem Hc (x:VE) (a0:V) (S:Hp) (K:KV):nP PP bM tA x [a0] S K=QY x a0 S K:=by kernel_rfl
noncomputable def BK (x:VE) (a0 a1:V) (S:Hp) (K:KV):Prop:=
 nW 39 a1 S fun v0 S=>
 aF PP .eql 53 a0 .pW fun v1=>
 aC x.most (aB false v1 (fun k=>dK 5 v0 S fun v2 S=>
 k v2 S) S fun v3 S=>
 aC x.most (aB false v1 (fun k=>k a0 S) S fun v4 S=>
 aC x.most (aB false v1 (fun k=>aQ PP v4 fun v5=>
 k v5 S) S fun v6 S=>
 aC x.most (aB false v1 (fun k=>aD 0 v6 fun v7=>
 k v7 S) S fun v8 S=>
 aC x.most (aB false v1 (fun k=>aE v8 S fun v9 S=>
 k v9 S) S fun v10 S=>
 aC x.most (aB false v1 (fun k=>x.call dO [v3,v10] S fun v11 S=>
 k v11 S) S fun v12 S=>
 aC x.most (aB false v1 (fun k=>GU .not v12 fun v13=>
 k v13 S) S fun v14 S=>
 aC x.most (aL v1 (.bool true) v14 fun v15=>
 fC v15 (aS (.bool false) S K) (aD 1 v0 fun v16=>
 aE v16 S fun v17 S=>
 aD 0 v0 fun v18=>
 aE v18 S fun v19 S=>
 aD 2 v0 fun v20=>
 aE v20 S fun v21 S=>
 gP [(.int .i64 (.ofNat 0)),(.int .i64 (.ofNat 0)),(.int .u8 (.ofNat 0))] [(0,1,v17),(1,1,v19),(2,1,v21)] fun v22=>
 fE [(.int .i64 (.ofNat 0)),(.int .i64 (.ofNat 0)),(.int .u8 (.ofNat 0))] 99 S fun v23 S=>
 jK 3 v23 v22 S fun S=>
 aQ PP a0 fun v24=>
 aD 1 v24 fun v25=>
 aE v25 S fun v26 S=>
 dK 3 v23 S fun v27 S=>
 MZ (.many [.int .i64,.int .i64,.int .u8]) (.agg [(.int .i64 (.ofNat 0)),(.int .i64 (.ofNat 0)),(.int .u8 (.ofNat 0)),(.int .i64 (.ofNat 0)),(.str [])]) true v26 v27 S fun v28 S=>
 lU 0 v28 fun v29=>
 lU 1 v28 fun v30=>
 MZ (.many [.int .i64,.int .i64,.int .u8]) (.agg [(.int .i64 (.ofNat 0)),(.int .i64 (.ofNat 0)),(.int .u8 (.ofNat 0)),(.int .i64 (.ofNat 0)),(.str [])]) true v26 v27 S fun v31 _=>
 aY v31 v28 (dK 3 v23 S fun v32 _=>
 aY v32 v27 (aE v25 S fun v33 _=>
 aY v33 v26 ((fE [(.int .i64 (.ofNat 0)),(.int .i64 (.ofNat 0)),(.int .u8 (.ofNat 0)),(.int .i64 (.ofNat 0)),(.string ⟨⟨[]⟩⟩)] 39 S fun v34 S=>
 True)/\(fE [(.int .i64 (.ofNat 0)),(.int .i64 (.ofNat 0)),(.int .u8 (.ofNat 0)),(.int .i64 (.ofNat 0)),(.string ⟨⟨[]⟩⟩)] 39 S fun v35 S=>
 jK 5 v35 v29 S fun S=>
 fC v30 (aS (.bool false) S K) (aQ PP a0 fun v36=>
 aD 1 v36 fun v37=>
 aE v37 S fun v38 S=>
 dK 3 v23 S fun v39 S=>
 dK 5 v0 S fun v40 S=>
 PG (.many [.int .i64,.int .i64,.int .u8]) v38 v39 v40 S fun S=>
 aS (.bool true) S K))))))))))))))
theorem NM (x:VE) (a0 a1:V) (S:Hp) (K:KV):nP PP bM eI x [a0,a1] S K=BK x a0 a1 S K:=by kernel_rfl
noncomputable def uD (x:VE) (a0 a1 a2:V) (S:Hp) (K:KV):Prop:=
 fE [(.int .i64 (.ofNat 0)),(.int .i64 (.ofNat 0)),(.int .u8 (.ofNat 0)),(.int .i64 (.ofNat 0)),(.string ⟨⟨[]⟩⟩)] 39 S fun v0 S=>
 aF PP .eql 53 a0 .pW fun v1=>
 fC v1 (gP [(.int .i64 (.ofNat 0)),(.int .i64 (.ofNat 0)),(.int .u8 (.ofNat 0)),(.int .i64 (.ofNat 0)),(.string ⟨⟨[]⟩⟩)] [] fun v2=>
 jK 5 v0 v2 S fun S=>
 dK 5 v0 S fun v3 _=>
 aS (.tuple [v3,(.bool false)]) S K) (aQ PP a0 fun v4=>
 aD 1 v4 fun v5=>
 aE v5 S fun v6 S=>
 gP [(.int .i64 (.ofNat 0)),(.int .i64 (.ofNat 0)),(.int .u8 (.ofNat 0))] [(0,1,a1),(1,1,a2),(2,1,(.int .u8 (.ofNat 2)))] fun v7=>
 MZ (.many [.int .i64,.int .i64,.int .u8]) (.agg [(.int .i64 (.ofNat 0)),(.int .i64 (.ofNat 0)),(.int .u8 (.ofNat 0)),(.int .i64 (.ofNat 0)),(.str [])]) true v6 v7 S fun v8 S=>
 lU 0 v8 fun v9=>
 lU 1 v8 fun v10=>
 fE [(.int .i64 (.ofNat 0)),(.int .i64 (.ofNat 0)),(.int .u8 (.ofNat 0)),(.int .i64 (.ofNat 0)),(.string ⟨⟨[]⟩⟩)] 39 S fun v11 S=>
 jK 5 v11 v9 S fun S=>
 dK 5 v11 S fun v12 S=>
 jK 5 v0 v12 S fun S=>
 dK 5 v0 S fun v13 _=>
 aS (.tuple [v13,v10]) S K)
theorem EW (x:VE) (a0 a1 a2:V) (S:Hp) (K:KV):nP PP bM jB x [a0,a1,a2] S K=uD x a0 a1 a2 S K:=by kernel_rfl
noncomputable def wW (x:VE) (a0 a1:V) (S:Hp) (K:KV):Prop:=
 nW 31 a0 S fun v0 S=>
 nW 78 a1 S fun v1 S=>
 fE [(.slice none 0 0)] 60 S fun v2 S=>
 fE [(.bool false)] 4 S fun v3 S=>
 aE v0 S fun v4 S=>
 aQ PP v4 fun v5=>
 aD 15 v5 fun v6=>
 aE v6 S fun v7 S=>
 x.call gH [v7] S fun v8 S=>
 x.call kA [v8] S fun v9 S=>
 PJ x v9 [2,4,5] [v0,v2,v3] 40 (aAZ PP bF [.r,.l,.r,.d]) (aA0 PP bF [.r,.l,.r,.d]) (Wg PP bF [.r,.l,.r,.d]) S fun pe S=>
 QT pe (jK 1 v2 .nil S fun S=>
 jK 1 v3 (.bool false) S fun S=>
 aE v2 S fun v11 _=>
 aE v3 S fun v12 _=>
 aS (.tuple [v11,v12]) S K) (aE v2 S fun v13 _=>
 aE v3 S fun v14 _=>
 aS (.tuple [v13,v14]) S K) (fun v10=>Nd v10 0 (jK 1 v2 .nil S fun S=>
 jK 1 v3 (.bool false) S fun S=>
 aE v2 S fun v15 _=>
 aE v3 S fun v16 _=>
 aS (.tuple [v15,v16]) S K) (False))
theorem HE (x:VE) (a0 a1:V) (S:Hp) (K:KV):nP PP bM bF x [a0,a1] S K=wW x a0 a1 S K:=by kernel_rfl
noncomputable def qR (x:VE) (l:Nat) (t2 t4 t5 a0 a1:V) (S:Hp) (K:KV):Prop:=
 YL l S fun S=>
 aE t2 S fun v0 S=>
 aQ PP v0 fun v1=>
 aD 0 v1 fun v2=>
 aD 4 v2 fun v3=>
 aE v3 S fun v4 S=>
 aF PP .gtr 3 a1 v4 fun v5=>
 aC x.most (aB true v5 (fun k=>aE t2 S fun v6 S=>
 k v6 S) S fun v7 S=>
 aC x.most (aB true v5 (fun k=>aQ PP v7 fun v8=>
 k v8 S) S fun v9 S=>
 aC x.most (aB true v5 (fun k=>aD 15 v9 fun v10=>
 k v10 S) S fun v11 S=>
 aC x.most (aB true v5 (fun k=>aE v11 S fun v12 S=>
 k v12 S) S fun v13 S=>
 aC x.most (aB true v5 (fun k=>k a1 S) S fun v14 S=>
 aC x.most (aB true v5 (fun k=>aE t2 S fun v15 S=>
 k v15 S) S fun v16 S=>
 aC x.most (aB true v5 (fun k=>aQ PP v16 fun v17=>
 k v17 S) S fun v18 S=>
 aC x.most (aB true v5 (fun k=>aD 0 v18 fun v19=>
 k v19 S) S fun v20 S=>
 aC x.most (aB true v5 (fun k=>aD 2 v20 fun v21=>
 k v21 S) S fun v22 S=>
 aC x.most (aB true v5 (fun k=>aE v22 S fun v23 S=>
 k v23 S) S fun v24 S=>
 aC x.most (aB true v5 (fun k=>x.call mD [v13,v14] S fun v25 S=>
 k v25 S) S fun v26 S=>
 aC x.most (bN true v5 v24 (fun k=>aE v22 S fun v27 _=>
 aY v27 v24 k) (aC x.most (bN true v5 v16 (fun k=>aE t2 S fun v28 _=>
 aY v28 v16 k) (aC x.most (bN true v5 v7 (fun k=>aE t2 S fun v29 _=>
 aY v29 v7 k) (aE v3 S fun v30 _=>
 aY v30 v4 (aE t2 S fun v31 _=>
 aY v31 v0 (aC x.most (aB true v5 (fun k=>aF PP .gtr 3 v26 v24 fun v32=>
 k v32 S) S fun v33 S=>
 aC x.most (aL v5 v33 (.bool false) fun v34=>
 fC v34 (aE t2 S fun v35 S=>
 x.call fR [v35,a1] S fun v36 S=>
 jK 1 t4 .nil S fun S=>
 jK 1 t5 (.bool true) S fun S=>
 JN l .done (some .ret) false S K) (JN l .ready none true S K))))))))))))))))))))))
theorem AV (x:VE) (l:Nat) (t2 t4 t5 a0 a1:V) (S:Hp) (K:KV):Bi PP bM x 40 (aAZ PP bF [.r,.l,.r,.d]) (aA0 PP bF [.r,.l,.r,.d]) (Wg PP bF [.r,.l,.r,.d]) l [t2,t4,t5] [a0,a1] S K=qR x l t2 t4 t5 a0 a1 S K:=by kernel_rfl
theorem AW:[2,4,5]=YJ bM 40 (Wg PP bF [.r,.l,.r,.d]):=by kernel_rfl
set_option maxRecDepth 4000
def Vo.may (v:Vo) (n:Int):Bool:= !(decide (v.fr<1) || decide (n<v.fr) || decide (v.rd<0) || decide (100<=v.rd) || decide (2048<v.tx.length))&&
 (if v.kd=2 then(!decide (v.tx=[]))&&decide (-1<=v.vl)&&decide (v.vl<v.rd)else if v.kd=3\/v.kd=4 then decide (v.vl=0)else false)
variable{ov:XE}{M n b t:Nat}{x:VE}{S:Hp}{K:KV}{ty:TypeId}
theorem aGD (hM:M≠0) (hf:ov dO=none) (hx:Deep PP bM ov M (n+1) x){v:Vo}{z:Int} (hk:K (.bool (v.may z)) S):x.call dO [.agg v.vv,.int .i64 z] S K:=by
 refine hx.call hf fun y hy=>?_;have hm:y.most≠0:=by rw [hy.most];exact hM
 rw [PS];unfold CW;refine eQ rfl fun i hi=>?_;have hr:upd S i (.row v.vv 39) i=some (.row v.vv 39):=upd_same;have hle:dL S (upd S i (.row v.vv 39)):= .aV hi;generalize upd S i (.row v.vv 39)=S1 at hr hle;have l0:∀{K:KV},aE (.ptr i 0) S1 K=K (.int .i64 v.fr) S1:=aJ hr;have l1:∀{K:KV},aE (.ptr i 1) S1 K=K (.int .i64 v.rd) S1:=aJ hr;have l2:∀{K:KV},aE (.ptr i 2) S1 K=K (.int .u8 (.ofNat v.kd)) S1:=aJ hr;have l3:∀{K:KV},aE (.ptr i 3) S1 K=K (.int .i64 v.vl) S1:=aJ hr;have l4:∀{K:KV},aE (.ptr i 4) S1 K=K (.str v.tx) S1:=aJ hr;have fin:∀{bb:Bool},v.may z=bb->aS (.bool bb) S1 K:=fun e=>cI hle (by rw [<-e];exact hk);simp only [eO,Nat.zero_add,l0,aI,bD];have e1:∀a b:Int,(Int.ofNat 1=1):=fun _ _=>rfl;by_cases h1:v.fr<1
 ·simp only [show decide (v.fr<Int.ofNat 1)=true from decide_eq_true h1,bL,aR,if_true,aT]
  refine fin ?_;simp [Vo.may,h1]
 simp only [show decide (v.fr<Int.ofNat 1)=false from decide_eq_false h1,aH,aR,if_false,Bool.false_eq_true,l0,dN];by_cases h2:z<v.fr
 ·simp only [decide_eq_true h2,bL,aR,if_true,aT]
  refine fin ?_;simp [Vo.may,h2]
 simp only [decide_eq_false h2,aH,aR,if_false,Bool.false_eq_true,l1,aI];by_cases h3:v.rd<0
 ·simp only [show decide (v.rd<Int.ofNat 0)=true from decide_eq_true h3,bL,aR,if_true,aT]
  refine fin ?_;simp [Vo.may,h3]
 simp only [show decide (v.rd<Int.ofNat 0)=false from decide_eq_false h3,aH,aR,if_false,Bool.false_eq_true,l1,dG];by_cases h4:100<=v.rd
 ·simp only [show decide (Int.ofNat 100<=v.rd)=true from decide_eq_true h4,bL,if_true,aT]
  refine fin ?_;simp [Vo.may,h4]
 simp only [show decide (Int.ofNat 100<=v.rd)=false from decide_eq_false h4,aH,aR,if_false,Bool.false_eq_true,aT,l2,l4,dN,bW,kT,yN];by_cases h5:2048<v.tx.length
 ·simp only [show decide (Int.ofNat 2048<Int.ofNat v.tx.length)=true from decide_eq_true (by simp;omega),if_true]
  refine fin ?_;simp [Vo.may,h5]
 simp only [show decide (Int.ofNat 2048<Int.ofNat v.tx.length)=false from decide_eq_false (by simp;omega),if_false,Bool.false_eq_true]
 have hj:∀bb:Bool,(bb=true->v.may z=decide (v.vl=0))->(bb=false->v.may z=false)->jM y (.ptr i 0) (.bool bb) S1 K:=by
  intro bb q1 q2;rw [AH y hm];unfold mJ;refine aN ?_;rw [aT];cases bb with
  | true=>
   rw [if_pos rfl,eO,Nat.zero_add,l3,bW];exact fin (q1 rfl)
  | false=>exact fin (q2 rfl)
 by_cases k2:v.kd=2
 ·simp only [show decide (Int.ofNat v.kd=Int.ofNat 2)=true from decide_eq_true (by rw [k2]),if_true]
  by_cases k3:v.tx=[]
  ·simp only [decide_eq_true k3,Bool.not_true,dF,aR,if_false,Bool.false_eq_true]
   refine fin ?_;simp [Vo.may,k2,k3]
  simp only [decide_eq_false k3,Bool.not_false,aH,aR,if_true,l3,dG];by_cases k4: -1<=v.vl
  ·simp only [show decide (Int.negSucc 0<=v.vl)=true from decide_eq_true k4,aH,if_true,l3,l1,aI]
   refine fin ?_;simp [Vo.may,h1,h2,h3,h4,h5,k2,k3,k4]
  ·simp only [show decide (Int.negSucc 0<=v.vl)=false from decide_eq_false k4,dF,if_false,Bool.false_eq_true]
   refine fin ?_;simp [Vo.may,k2,k4]
 ·simp only [show decide (Int.ofNat v.kd=Int.ofNat 2)=false from decide_eq_false (fun e=>k2 (Int.ofNat.inj e)),if_false,Bool.false_eq_true]
  by_cases k3:v.kd=3
  ·simp only [show decide (Int.ofNat v.kd=Int.ofNat 3)=true from decide_eq_true (by rw [k3]),if_true]
   refine hj true (fun _=>?_) (fun e=>by cases e);simp [Vo.may,h1,h2,h3,h4,h5,k3]
  ·simp only [show decide (Int.ofNat v.kd=Int.ofNat 3)=false from decide_eq_false (fun e=>k3 (Int.ofNat.inj e)),if_false,Bool.false_eq_true]
   refine hj _ (fun e=>?_) (fun e=>?_)
   ·have k4:v.kd=4:=Int.ofNat.inj (of_decide_eq_true e)
    simp [Vo.may,h1,h2,h3,h4,h5,k4]
   ·have k4:¬v.kd=4:=fun q=>of_decide_eq_false e (by rw [q])
    simp [Vo.may,k2,k3,k4]
def Vo.key (v:Vo):V:= .agg [.int .i64 v.rd,.int .i64 v.fr,.int .u8 (.ofNat v.kd)]
def eV (v:Vo):V×V:=(v.key,.agg v.vv)
def Vo.at (v:Vo) (r f:Int) (k:Nat):Bool:=decide (v.rd=r)&&decide (v.fr=f)&&decide (v.kd=k)
structure Tal (S:Hp) (t m:Nat) (n:Int) (l:List Vo):Prop where
 row:S t=some (.row [.int .i64 n,.rS m] 96)
 map:S m=some (.map (l.map eV))
theorem Tal.le{S S':Hp}{t m:Nat}{n:Int}{l:List Vo} (a:Tal S t m n l) (h:dL S S'):Tal S' t m n l:=⟨h _ _ a.row,h _ _ a.map⟩
theorem key_eq{r f:Int}{k:Nat}{v:Vo}:(V.agg [.int .i64 r,.int .i64 f,.int .u8 (.ofNat k)]=v.key)↔v.at r f k=true:=by
 unfold Vo.key Vo.at;simp only [Bool.and_eq_true,decide_eq_true_eq];constructor
 ·intro h
  injection h with h;injection h with h1 h;injection h with h2 h;injection h with h3 h;injection h1 with _ h1;injection h2 with _ h2;injection h3 with _ h3;exact⟨⟨h1.symm,h2.symm⟩,(Int.ofNat.inj h3).symm⟩
 ·rintro⟨⟨rfl,rfl⟩,rfl⟩;rfl
theorem SM (l:List Vo) (r f:Int) (k:Nat):RP (l.map eV) (.agg [.int .i64 r,.int .i64 f,.int .u8 (.ofNat k)])=(l.find? fun v=>v.at r f k).map fun v=> .agg v.vv:=by
 induction l with
 | nil=>rfl
 | cons v l ih=>
  simp only [List.map_cons,RP,eV,List.find?_cons];by_cases h:v.at r f k=true
  ·rw [if_pos (key_eq.2 h),h];rfl
  ·rw [if_neg (fun e=>h (key_eq.1 e))]
   simp only [Bool.not_eq_true]at h;rw [h];exact ih
theorem aBx (l:List Vo) (v:Vo) (h:l.find? (fun u=>u.at v.rd v.fr v.kd)=none):PF (l.map eV) v.key (.agg v.vv)=(l++[v]).map eV:=by
 induction l with
 | nil=>rfl
 | cons u l ih=>
  simp only [List.find?_cons]at h;split at h
  ·cases h
  ·rename_i hu
   simp only [List.map_cons,PF,eV,List.cons_append];rw [if_neg (fun e=>by rw [key_eq.1 e]at hu;cases hu)];exact congrArg _ (ih h)
theorem Dj (l:List Vo):∀e∈l.map eV,KP (.many [.int .i64,.int .i64,.int .u8]) e.1:=by
 intro e he;obtain⟨v,_,rfl⟩:=List.mem_map.1 he;exact⟨rfl,rfl,rfl,trivial⟩
theorem Yy:YM PP 53=some .ptr:=by kernel_rfl
def tG:Vo:=⟨0,0,0,0,[]⟩
variable{ov:XE}{M n b t m:Nat}{x:VE}{S:Hp}{K:KV}{ty:TypeId}
theorem aEX (hf:ov jB=none) (hx:Deep PP bM ov M (n+1) x){z r f:Int}{l:List Vo} (a:Tal S t m z l) (hk:K (.tuple [.agg (((l.find? fun v=>v.at r f 2).getD tG).vv),.bool (l.find? fun v=>v.at r f 2).isSome]) S):x.call jB [.ptr t 0,.int .i64 r,.int .i64 f] S K:=by
 refine hx.call hf fun y hy=>?_;rw [EW];unfold uD;refine cG rfl fun i hi=>?_;refine yO Yy ?_;rw [aT,if_neg (by simp),aP,eO];have le1:dL S (upd S i (.row tG.vv 39)):= .aV hi;have a1:=a.le le1;refine iO a1.row rfl ?_;have hb:∀{k:V->Prop},k (.agg [.int .i64 r,.int .i64 f,.int .u8 (.ofNat 2)])->gP [(.int .i64 (.ofNat 0)),(.int .i64 (.ofNat 0)),(.int .u8 (.ofNat 0))] [(0,1,.int .i64 r),(1,1,.int .i64 f),(2,1,(.int .u8 (.ofNat 2)))] k:=fun h=>⟨rfl,by simp,rfl,by simp [splice],rfl,by simp [splice],h⟩;refine hb ?_
 have go:∀(w:List V) (is:Bool),w.length=5->w.all lL=true->K (.tuple [.agg w,.bool is]) S->lU 0 (.tuple [.agg w,.bool is]) fun v9=>lU 1 (.tuple [.agg w,.bool is]) fun v10=>
  fE [(.int .i64 (.ofNat 0)),(.int .i64 (.ofNat 0)),(.int .u8 (.ofNat 0)),(.int .i64 (.ofNat 0)),(.string ⟨⟨[]⟩⟩)] 39 (upd S i (.row tG.vv 39)) fun v11 S=>
  jK 5 v11 v9 S fun S=>dK 5 v11 S fun v12 S=>jK 5 (.ptr i 0) v12 S fun S=>dK 5 (.ptr i 0) S fun v13 _=>aS (.tuple [v13,v10]) S K:=by
  intro w is hw ho hk;refine BH rfl ?_;refine BH rfl ?_;refine cG (l:=tG.vv) rfl fun j hj=>?_;obtain⟨hji,hj0⟩:=pL hj;refine gE upd_same ho hw rfl ?_;rw [cP];refine fT upd_same hw ?_;refine gE (by rw [aG (Ne.symm hji)];exact upd_same) ho hw rfl ?_;refine fT upd_same hw ?_;refine cI (S':=S) ?_ hk;rw [Vs hji,cP];exact(dL.aV hi).trans (.aV (by rw [aG hji];exact hj0))
 refine Fx a1.map ⟨rfl,rfl,rfl,trivial⟩ (Dj l) (fun v hv=>?_) (fun hv=>?_)
 ·rw [SM]at hv
  cases hq:l.find? (fun v=>v.at r f 2)with
  | none=>rw [hq]at hv;cases hv
  | some u=>
   rw [hq]at hv hk;injection hv with hv;subst hv;exact go u.vv true rfl rfl hk
 ·rw [SM]at hv
  cases hq:l.find? (fun v=>v.at r f 2)with
  | some u=>rw [hq]at hv;cases hv
  | none=>
   rw [hq]at hk;exact go tG.vv false rfl rfl hk
end Go.Am
set_option maxRecDepth 4000
namespace Go.Am
open Go.RowKit Go.MapKept Go.Proofs
def Da (v:Vo):List Value:=[.int .i64 v.fr,.int .i64 v.rd,.int .u8 (.ofNat v.kd),.int .i64 v.vl,.string ⟨⟨v.tx⟩⟩]
def NX (v:Vo):Value:= .agg ⟨Da v⟩
def Vo.lt (a b:Vo):Bool:=decide (a.rd<b.rd) || (decide (a.rd=b.rd)&&(decide (a.fr<b.fr) || (decide (a.fr=b.fr)&&decide (a.kd<b.kd))))
def uP (v:Vo):List Vo->List Vo
 | []=>[v]
 | u::l=>if v.lt u then v::u::l else u::uP v l
def sortV:List Vo->List Vo
 | []=>[]
 | v::l=>uP v (sortV l)
def mO (p:Vo->Bool) (n:Nat) (l:List Vo):Nat:=((List.range (n+1)).filter fun(i:Nat)=>l.any fun v=>p v&&decide (v.fr=(i:Int))).length
def Okl (n:Nat) (l:List Vo):Prop:=n<=1000000/\l.length<=1000000/\∀v∈l,0<=v.fr/\v.fr<=n
inductive Hg:List MapEntry->List Vo->Prop
 | nil:Hg [] []
 | cons {e:MapEntry} {v:Vo} {es:List MapEntry} {l:List Vo} (he:e.val=NX v) (hf:∃f:Nat,v.fr=(f:Int)) (h:Hg es l):Hg (e::es) (v::l)
section
variable{c:Cx}{S:St}{C:Nat->Prop}
theorem aEQ{v:Vo}{w:List Value} (r:jQ c S C v.vv w):w=Da v:=by
 obtain⟨a,w,rfl,r1,r⟩:=r.cons_inv;obtain⟨b,w,rfl,r2,r⟩:=r.cons_inv;obtain⟨d,w,rfl,r3,r⟩:=r.cons_inv;obtain⟨e,w,rfl,r4,r⟩:=r.cons_inv;obtain⟨f,w,rfl,r5,r⟩:=r.cons_inv;rw [r.pB];cases r1;cases r2;cases r3;cases r4;cases r5;rfl
theorem aER{v:Vo}:jQ c S C v.vv (Da v):= .cons .int (.cons .int (.cons .int (.cons .int (.cons .str .nil))))
theorem aGn{l:List Vo}:∀{es:List MapEntry},EsR c S C (l.map eV) es->(∀v∈l,0<=v.fr)->Hg es l:=by
 induction l with
 | nil=>
  intro es r _;obtain rfl:es=[]:=List.eq_nil_of_length_eq_zero (by have:=r.1;simpa using this.symm);exact .nil
 | cons v l ih=>
  intro es r hf;cases es with
  | nil=>have:=r.1;simp at this
  | cons e es=>
   have h0:=(r.2 0 (eV v) e rfl rfl).2
   have h1:e.val=NX v:=by
    generalize e.val=w at h0;have h0:fB c S C (.agg v.vv) w:=h0;cases h0 with
    | @agg _ a' la ha=>have:=aEQ (⟨la,ha⟩:jQ c S C v.vv a');subst this;rfl
   exact .cons h1 ⟨v.fr.toNat,by have:=hf v (.head _);omega⟩ (ih r.tail fun u hu=>hf u (.tail _ hu))
end
theorem Hg.len{es:List MapEntry}{l:List Vo} (h:Hg es l):es.length=l.length:=by induction h with | nil=>rfl | cons _ _ _ ih=>simp [ih]
theorem zD{v:Vo}{f:Nat} (hf:v.fr=(f:Int)) (z:Bool) (k:Nat->Int->Int->List UInt8->Bool):CJ (NX v) z k=k f v.rd (.ofNat v.kd) v.tx:=by
 unfold NX Da;rw [hf];rfl
theorem aBe{n ck:Nat}:∀{es:List MapEntry} {l:List Vo} {lo:Nat},Hg es l->(∀v∈l,v.fr<=n)->(es.map (·.born)).Pairwise (· < ·)->(∀e∈es,lo<=e.born/\e.born<ck)->
 (fD (β:=Nat->Bool) (fun _=>true) (fun e _ ih lo=>match Nat.ble lo e.born,Nat.blt e.born ck,CJ e.val false (fun f _ _ _=>Nat.ble f n)with
  | true,true,true=>ih (Nat.succ e.born)
  | _,_,_=>false) es lo)=true:=by
 intro es;induction es with
 | nil=>intro l lo _ _ _ _;rfl
 | cons e es ih=>
  intro l lo h hn hp hb;cases h with
  | @cons _ v _ l he hf h=>
   obtain⟨f,hf⟩:=hf;rw [bG];obtain⟨b1,b2⟩:=hb e (.head _);rw [show Nat.ble lo e.born=true from Nat.ble_eq_true_of_le b1,show Nat.blt e.born ck=true from Nat.ble_eq_true_of_le b2,he,zD hf,show Nat.ble f n=true from Nat.ble_eq_true_of_le (by have:=hn v (.head _);omega)];simp only;rw [List.map_cons,List.pairwise_cons]at hp;exact ih h (fun u hu=>hn u (.tail _ hu)) hp.2 fun x hx=>⟨hp.1 _ (List.mem_map_of_mem hx),(hb x (.tail _ hx)).2⟩
theorem Yb{pe:MapEntry->Nat->Bool} (es:List MapEntry) (i:Nat):hasB pe es i=es.any fun e=>pe e i:=by
 induction es with
 | nil=>rfl
 | cons e es ih=>
  unfold hasB at ih ⊢;rw [bG,ih,List.any_cons];cases pe e i<;>rfl
theorem Hg.any{pe:MapEntry->Nat->Bool}{p:Vo->Bool}{i:Nat}{es:List MapEntry}{l:List Vo} (h:Hg es l) (hp:∀(e:MapEntry) (v:Vo) (f:Nat),e.val=NX v->v.fr=(f:Int)->pe e i=(p v&&Nat.beq f i)):(es.any fun e=>pe e i)=l.any fun v=>p v&&decide (v.fr=(i:Int)):=by
 induction h with
 | nil=>rfl
 | @cons e v es l he hf h ih=>
  obtain⟨f,hf⟩:=hf;rw [List.any_cons,List.any_cons,ih,hp e v f he hf,hf]
  congr 2
  rw [Bool.eq_iff_iff];simp only [Nat.beq_eq,decide_eq_true_eq];omega
theorem Ks{pe:MapEntry->Nat->Bool}{p:Vo->Bool}{n:Nat}{es:List MapEntry}{l:List Vo} (h:Hg es l) (hp:∀(e:MapEntry) (v:Vo) (f i:Nat),e.val=NX v->v.fr=(f:Int)->pe e i=(p v&&Nat.beq f i)) (K:Nat->Bool):Jk pe es n K=K (mO p n l):=by
 unfold Jk mO;rw [Mx]
 congr 1
 rw [Nat.zero_add]
 congr 2
 funext i
 rw [Yb,h.any fun e v f=>hp e v f i]
theorem Nv{a b:MapEntry}{v u:Vo}{f g:Nat} (ha:a.val=NX v) (hb:b.val=NX u) (hf:v.fr=(f:Int)) (hg:u.fr=(g:Int)):MU a b=v.lt u:=by
 unfold MU;rw [ha,hb,zD hf,zD hg];unfold Vo.lt;rw [hf,hg];simp only [zP,qL,qF];have e1:∀x y:Nat,Nat.blt x y=decide ((x:Int)<(y:Int)):=fun x y=>by rw [Bool.eq_iff_iff];simp only [Nat.blt_eq,decide_eq_true_eq];omega
 have e2:∀x y:Nat,Nat.beq x y=decide ((x:Int)=(y:Int)):=fun x y=>by rw [Bool.eq_iff_iff];simp only [Nat.beq_eq,decide_eq_true_eq];omega
 have e3:decide (Int.ofNat v.kd<Int.ofNat u.kd)=decide (v.kd<u.kd):=by rw [Bool.eq_iff_iff];simp
 have e4:(v.rd==u.rd)=decide (v.rd=u.rd):=by rw [Bool.eq_iff_iff];simp
 rw [e1,e2,e3,e4];cases decide (v.rd<u.rd)<;>cases decide ((f:Int)<(g:Int))<;>rfl
theorem aES{e:MapEntry}{v:Vo} (he:e.val=NX v) (hf:∃f:Nat,v.fr=(f:Int)):∀{s:List MapEntry} {l:List Vo} {k:List MapEntry->Bool},Hg s l->∃s',Hg s' (uP v l)/\Qc e s k=k s':=by
 intro s;induction s with
 | nil=>intro l k h;cases h;exact⟨[e],.cons he hf .nil,rfl⟩
 | cons x t ih=>
  intro l k h;cases h with
  | @cons _ u _ l hx hg h=>
   obtain⟨f,hf'⟩:=hf;obtain⟨g,hg'⟩:=hg;have hl:=Nv he hx hf' hg';unfold uP;unfold Qc at ih ⊢;rw [bG,hl];cases v.lt u with
   | true=>exact⟨_,.cons he ⟨f,hf'⟩ (.cons hx ⟨g,hg'⟩ h),rfl⟩
   | false=>
    obtain⟨s',h1,h2⟩:=ih (k:=fun t'=>k (x::t')) h;exact⟨x::s',.cons hx ⟨g,hg'⟩ h1,h2⟩
theorem aBf:∀{es:List MapEntry} {l:List Vo} {k:List MapEntry->Bool},Hg es l->∃s,Hg s (sortV l)/\sortK es k=k s:=by
 intro es;induction es with
 | nil=>intro l k h;cases h;exact⟨[],.nil,rfl⟩
 | cons e es ih=>
  intro l k h;cases h with
  | @cons _ v _ l he hf h=>
   unfold sortK at ih ⊢;rw [bG];obtain⟨s,h1,h2⟩:=ih (k:=fun s=>Qc e s k) h;obtain⟨s',h3,h4⟩:=aES he hf (k:=k) h1;exact⟨s',h3,h2.trans h4⟩
theorem Yc{s:List MapEntry}{l:List Vo} (h:Hg s l) (hp:l.Pairwise fun a b=>a.lt b=true):chainB s=true:=by
 induction h with
 | nil=>rfl
 | @cons e v es l he hf h ih=>
  rw [List.pairwise_cons]at hp;have ih:=ih hp.2;unfold chainB at ih ⊢;rw [bG,ih];cases h with
  | nil=>rfl
  | @cons e2 u es l he2 hf2 h=>
   obtain⟨f,hf'⟩:=hf;obtain⟨g,hg'⟩:=hf2;show dW (MU e e2) true false=true;rw [Nv he he2 hf' hg',hp.1 u (.head _)];rfl
theorem aBg{s:List MapEntry}{l:List Vo} (h:Hg s l):∀(k:List Value->Bool),flatK' s k=k (l.flatMap Da):=by
 induction h with
 | nil=>intro k;rfl
 | @cons e v es l he hf h ih=>
  intro k;unfold flatK' at ih ⊢;rw [bG,he];show fD (β:=(List Value->Bool)->Bool) _ _ es (fun t=>uM (Da v) t k)=_;rw [ih,jJ,List.flatMap_cons]
section
variable{P:Program}{B:Nat->Prop}{Sb:St}{c:Cx}{h:Hp}{S:St}
theorem aBh{l:List Vo}{C:Nat->Prop}:jQ c S C (AT l) (l.flatMap Da):=by
 induction l with
 | nil=>exact .nil
 | cons v l ih=>exact aER.app ih
theorem II (s:VS P B Sb c h S){t m n:Nat}{l:List Vo} (a:Tal h t m n l) (o:Okl n l){b:Nat} (hb:c.Zz t=some b){k:Nat->List MapEntry->Bool} (hk:∀es,Hg es l->k n es=true):GM S (.pointer (some ⟨b,0,none⟩)) k=true:=by
 obtain⟨b',ws,a1,a2,a3,a4,a5⟩:=s.row t _ _ a.row;rw [hb]at a1;injection a1 with a1;subst a1;obtain⟨w1,ws,rfl,r1,a5⟩:=a5.cons_inv;obtain⟨w2,ws,rfl,r2,a5⟩:=a5.cons_inv;rw [a5.pB]at a4;cases r1;cases r2 with
 | rS hm=>
  obtain⟨bm,es,ck,q1,q2,q3,q4⟩:=s.aGj a.map;rw [hm]at q1;injection q1 with q1;subst q1;have ev:=aGn q3 fun v hv=>(o.2.2 v hv).1;unfold GM;simp only;rw [EB a4 (by simp)];show(oV S.h _ _)=true;rw [Bz q2];simp only;rw [iW,ev.len,show Nat.ble n 1000000=true from Nat.ble_eq_true_of_le o.1,show Nat.ble l.length 1000000=true from Nat.ble_eq_true_of_le o.2.1];have:aF5 n ck es=true:=aBe ev (fun v hv=>(o.2.2 v hv).2) q4.1 fun e he=>⟨Nat.zero_le _,q4.2 e he⟩;rw [this];exact hk es ev
def Nx (args:List V) (h:Hp) (K:KV):Prop:=∃(t m n:Nat) (l:List Vo) (r:Int),args=[.ptr t 0,.int .i64 r]/\Tal h t m n l/\Okl n l/\K (.int .i64 (.ofNat (mO (fun v=>decide (v.rd=r)) n l))) h
def aBi (args:List V) (h:Hp) (K:KV):Prop:=∃(t m n:Nat) (l:List Vo) (r:Int) (kd:Nat),args=[.ptr t 0,.int .i64 r,.int .u8 (.ofNat kd)]/\Tal h t m n l/\Okl n l/\K (.int .i64 (.ofNat (mO (fun v=>decide (v.rd=r)&&decide (v.kd=kd)) n l))) h
def Db (args:List V) (h:Hp) (K:KV):Prop:=∃(t m n:Nat) (l:List Vo) (r:Int) (kd:Nat) (tx:List UInt8),args=[.ptr t 0,.int .i64 r,.int .u8 (.ofNat kd),.str tx]/\Tal h t m n l/\Okl n l/\K (.int .i64 (.ofNat (mO (fun v=>decide (v.rd=r)&&decide (v.kd=kd)&&decide (v.tx=tx)) n l))) h
def LJ (args:List V) (h:Hp) (K:KV):Prop:=∃(t m n:Nat) (l:List Vo),args=[.ptr t 0]/\Tal h t m n l/\Okl n l/\((sortV l).Pairwise fun a b=>a.lt b=true)/\
 ((sortV l=[]->K .nil h)/\(sortV l≠[]->∀i,h i=none->K (.acc i (sortV l).length) (upd h i (.iD (AT (sortV l)) 39 (sortV l).length))))
theorem Ny (x y:Int):RX x y=decide (x=y):=by rw [qL,Bool.eq_iff_iff];simp
theorem aCB (x y:Nat):RX (Int.ofNat x) (Int.ofNat y)=decide (x=y):=by rw [Ny,Bool.eq_iff_iff];simp only [decide_eq_true_eq];exact⟨Int.ofNat.inj,fun e=>by rw [e]⟩
theorem Ro{args:List V}{ws:List Value}{Kv:KV}{K:VK} (s:VS P B Sb c h S) (ra:jQ c S (dB B c h) args ws) (k:KR P B Sb c h S Kv K) (hv:Nx args h Kv):OY ws S K=true:=by
 obtain⟨t,m,n,l,r,rfl,a,o,hv⟩:=hv;obtain⟨w1,ws,rfl,r1,ra⟩:=ra.cons_inv;obtain⟨w2,ws,rfl,r2,ra⟩:=ra.cons_inv;rw [ra.pB];cases r2;cases r1 with
 | ptr hb=>
  unfold OY;refine II s a o hb fun es ev=>?_;rw [Ks (p:=fun v=>decide (v.rd=r)) ev (fun e v f i he hf=>by rw [he,zD hf,qF,Ny])];exact k.here s .int hv
theorem Yd{args:List V}{ws:List Value}{Kv:KV}{K:VK} (s:VS P B Sb c h S) (ra:jQ c S (dB B c h) args ws) (k:KR P B Sb c h S Kv K) (hv:aBi args h Kv):YK ws S K=true:=by
 obtain⟨t,m,n,l,r,kd,rfl,a,o,hv⟩:=hv;obtain⟨w1,ws,rfl,r1,ra⟩:=ra.cons_inv;obtain⟨w2,ws,rfl,r2,ra⟩:=ra.cons_inv;obtain⟨w3,ws,rfl,r3,ra⟩:=ra.cons_inv;rw [ra.pB];cases r2;cases r3;cases r1 with
 | ptr hb=>
  unfold YK;refine II s a o hb fun es ev=>?_;rw [Ks (p:=fun v=>decide (v.rd=r)&&decide (v.kd=kd)) ev (fun e v f i he hf=>by rw [he,zD hf,qF,qF,Ny,aCB])];exact k.here s .int hv
theorem Kt{args:List V}{ws:List Value}{Kv:KV}{K:VK} (s:VS P B Sb c h S) (ra:jQ c S (dB B c h) args ws) (k:KR P B Sb c h S Kv K) (hv:Db args h Kv):HR ws S K=true:=by
 obtain⟨t,m,n,l,r,kd,tx,rfl,a,o,hv⟩:=hv;obtain⟨w1,ws,rfl,r1,ra⟩:=ra.cons_inv;obtain⟨w2,ws,rfl,r2,ra⟩:=ra.cons_inv;obtain⟨w3,ws,rfl,r3,ra⟩:=ra.cons_inv;obtain⟨w4,ws,rfl,r4,ra⟩:=ra.cons_inv;rw [ra.pB];cases r2;cases r3;cases r4;cases r1 with
 | ptr hb=>
  unfold HR;refine II s a o hb fun es ev=>?_
  rw [Ks (p:=fun v=>decide (v.rd=r)&&decide (v.kd=kd)&&decide (v.tx=tx)) ev (fun e v f i he hf=>by
   rw [he,zD hf,qF,qF,qF,Ny,aCB,yJ]
   congr 2
   rw [Bool.eq_iff_iff];simp)]
  exact k.here s .int hv
theorem Ku (hsz:bQ P 39=some 5){args:List V}{ws:List Value}{Kv:KV}{K:VK} (s:VS P B Sb c h S) (ra:jQ c S (dB B c h) args ws) (k:KR P B Sb c h S Kv K) (hv:LJ args h Kv):HT ws S K=true:=by
 obtain⟨t,m,n,l,rfl,a,o,hp,hv0,hv1⟩:=hv;obtain⟨w1,ws,rfl,r1,ra⟩:=ra.cons_inv;rw [ra.pB];cases r1 with
 | ptr hb=>
  unfold HT;refine II s a o hb fun es ev=>?_
  obtain⟨ss,e1,e2⟩:=aBf (k:=fun ss=>match chainB ss with
   | true=>flatK' ss fun cs=>vX ss fun n=>match n with
    | 0=>K (.slice none 0 0) S
    | n'+1=>qW S (.cells cs 39 (.grown [])) fun i S=>K (.slice (some ⟨i,0,some 0⟩) (n'+1) (n'+1)) S
   | false=>false) ev
  refine e2.trans ?_;simp only [Yc e1 hp];rw [aBg e1,iW,e1.len];cases hs:sortV l with
  | nil=>
   exact k.here s .nil (hv0 hs)
  | cons v l'=>
   have hne:sortV l≠[]:=by rw [hs];simp
   obtain⟨i,i1,i2,i3⟩:=s.fresh;have hv:=hv1 hne i i1;rw [hs]at hv;show qW S (.cells ((v::l').flatMap Da) 39 (.grown [])) (fun i S=>K (.slice (some ⟨i,0,some 0⟩) (l'.length+1) (l'.length+1)) S)=true;rw [gD];obtain⟨s1,s2,s3,s4⟩:=s.Ka i1 i2 i3 (vs:=AT (v::l')) (ws:=(v::l').flatMap Da) (t:=39) (n:=l'.length+1) hsz (by rw [pH];rfl) aBh;exact k _ _ _ _ _ s2 s3 s1 (.acc s4) hv
theorem VV{a b:Nat} (h:a≠b):Nat.beq a b=false:=by
 cases e:Nat.beq a b with
 | false=>rfl
 | true=>exact absurd (Nat.eq_of_beq_eq_true e) h
def Hh (args:List V) (h:Hp) (K:KV):Prop:=(args=[.nil]/\K (.tuple []) h)\/∃(i:Nat) (ls:List (List UInt8)),args=[.acc i ls.length]/\h i=some (.iD (ls.map V.str) 9 ls.length)/\ls.length<1000000/\K (.tuple []) (upd h i (.iD ((zW ls).map V.str) 9 ls.length))
theorem Ye{C:Nat->Prop}:∀{ls:List (List UInt8)} {ws:List Value},jQ c S C (ls.map V.str) ws->ws=ls.map wI:=by
 intro ls;induction ls with
 | nil=>intro ws r;exact r.pB
 | cons l ls ih=>
  intro ws r;obtain⟨w1,ws,rfl,r1,r2⟩:=r.cons_inv;cases r1;rw [ih r2];rfl
theorem Rp{C:Nat->Prop}:∀(ls:List (List UInt8)),jQ c S C (ls.map V.str) (ls.map wI):=by
 intro ls;induction ls with
 | nil=>exact .nil
 | cons l ls ih=>exact .cons .str ih
theorem Yf:∀{a b:List (List UInt8)},a.map wI=b.map wI->a=b:=by
 intro a;induction a with
 | nil=>intro b h;cases b with | nil=>rfl | cons=>cases h
 | cons x a ih=>
  intro b h;cases b with
  | nil=>cases h
  | cons y b=>
   simp only [List.map_cons,List.cons.injEq]at h
   have hx:x=y:=by
    have h:=h.1;unfold wI at h;injection h with h;injection h with h;injection h with h
   rw [hx,ih h.2]
open Classical in
theorem Rq{args:List V}{ws:List Value}{Kv:KV}{K:VK} (s:VS P B Sb c h S) (ra:jQ c S (dB B c h) args ws) (k:KR P B Sb c h S Kv K) (hv:Hh args h Kv):KK ws S K=true:=by
 have nil:∀{d:Cx} {S':St} {C:Nat->Prop},fB d S' C (.tuple []) (.tuple #[]):= .tuple rfl fun k v w e _=>by simp at e
 rcases hv with ⟨rfl,hv⟩ | ⟨i,ls,rfl,hi,hn,hv⟩
 ·obtain⟨w1,ws,rfl,r1,ra⟩:=ra.cons_inv
  rw [ra.pB];cases r1;exact k.here s nil hv
 ·obtain⟨w1,ws,rfl,r1,ra⟩:=ra.cons_inv
  rw [ra.pB];cases r1 with
  | acc hG=>
   obtain⟨b,us,olds,sz,e1,e2,e3,e4,e5,_⟩:=s.iD i _ _ _ hi;rw [hG]at e1;injection e1 with e1;subst e1;have hu:=Ye e5;subst hu;unfold KK;have hex:∃Kw:List (List UInt8),Kw.length=ls.length/\Kw.length<1000000/\∃olds,S.obj b=some (.cells (Kw.map wI) 9 (.grown olds)):=⟨ls,rfl,hn,olds,e4⟩;show(if h:∃Kw:List (List UInt8),Kw.length=ls.length/\Kw.length<1000000/\∃olds,S.obj b=some (.cells (Kw.map wI) 9 (.grown olds))then oW S b 0 ((zW h.choose).map wI) (fun S=>K (.tuple #[]) S)else false)=true;rw [dif_pos hex];obtain⟨h1,h2,aHD,h3⟩:=hex.choose_spec
   have hls:hex.choose=ls:=by
    have h4:=e4.symm.trans h3;injection h4 with h4;injection h4 with h4;exact(Yf h4).symm
   rw [hls];refine EO s (o:=0) (cs:=(zW ls).map V.str) hi hG (Rp _) (by simp [GN]) (Kv:=fun h'=>Kv (.tuple []) h') (fun h' S' f s' hv'=>k c h' S' _ _ (.refl c) f s' nil hv') ?_
   have:splice 0 ((zW ls).map V.str) (ls.map V.str)=(zW ls).map V.str:=by
    unfold splice;simp [GN]
   rw [this];exact hv
noncomputable def XM (f:FuncId):Option (List Value->St->VK->Bool):=dW (Nat.beq f 46) (some KK) (ovT f)
noncomputable def gT (f:FuncId):Option (List V->Hp->KV->Prop):=
 if f=lF then some Db else if f=dJ then some LJ else if f=iZ then some aBi else if f=mD then some Nx else if f=bZ then some Hh else none
theorem aET (hsz:bQ P 39=some 5):aCz P B Sb gT XM:=by
 have h1:∀f,(f=lF/\gT f=some Db/\XM f=some HR)\/(f=dJ/\gT f=some LJ/\XM f=some HT)\/(f=iZ/\gT f=some aBi/\XM f=some YK)\/(f=mD/\gT f=some Nx/\XM f=some OY)\/(f=bZ/\gT f=some Hh/\XM f=some KK)\/(gT f=none/\XM f=none):=by
  intro f;by_cases e1:f=lF
  ·subst e1;exact .inl ⟨rfl,rfl,rfl⟩
  ·by_cases e2:f=dJ
   ·subst e2;exact .inr (.inl ⟨rfl,rfl,rfl⟩)
   ·by_cases e3:f=iZ
    ·subst e3;exact .inr (.inr (.inl ⟨rfl,rfl,rfl⟩))
    ·by_cases e4:f=mD
     ·subst e4;exact .inr (.inr (.inr (.inl ⟨rfl,rfl,rfl⟩)))
     ·by_cases e5:f=bZ
      ·subst e5;exact .inr (.inr (.inr (.inr (.inl ⟨rfl,rfl,rfl⟩))))
      ·refine .inr (.inr (.inr (.inr (.inr ⟨by unfold gT;rw [if_neg e1,if_neg e2,if_neg e3,if_neg e4,if_neg e5],?_⟩))))
       unfold XM ovT;rw [show Nat.beq f 105=false from VV e1,show Nat.beq f 45=false from VV e2,show Nat.beq f 68=false from VV e3,show Nat.beq f 81=false from VV e4,show Nat.beq f 46=false from VV e5];rfl
 refine⟨fun f hf=>?_,fun f g hg=>?_⟩
 ·rcases h1 f with ⟨_,q,_⟩ | ⟨_,q,_⟩ | ⟨_,q,_⟩ | ⟨_,q,_⟩ | ⟨_,q,_⟩ | ⟨_,q⟩
  ·rw [q]at hf;cases hf
  ·rw [q]at hf;cases hf
  ·rw [q]at hf;cases hf
  ·rw [q]at hf;cases hf
  ·rw [q]at hf;cases hf
  ·exact q
 ·rcases h1 f with ⟨_,q,q2⟩ | ⟨_,q,q2⟩ | ⟨_,q,q2⟩ | ⟨_,q,q2⟩ | ⟨_,q,q2⟩ | ⟨q,_⟩
  ·rw [q]at hg;injection hg with hg;subst hg;exact⟨_,q2,fun s ra k hv=>Kt s ra k hv⟩
  ·rw [q]at hg;injection hg with hg;subst hg;exact⟨_,q2,fun s ra k hv=>Ku hsz s ra k hv⟩
  ·rw [q]at hg;injection hg with hg;subst hg;exact⟨_,q2,fun s ra k hv=>Yd s ra k hv⟩
  ·rw [q]at hg;injection hg with hg;subst hg;exact⟨_,q2,fun s ra k hv=>Ro s ra k hv⟩
  ·rw [q]at hg
   injection hg with hg;subst hg;exact⟨_,q2,fun s ra k hv=>Rq s ra k hv⟩
  ·rw [q]at hg;cases hg
end
end Go.Am
set_option maxRecDepth 4000
namespace Go.Am
structure Bs where
 h:Int
 n:Int
 t:Int
 me:Int
 rd:Int
 st:Int
 age:Int
 lock:List UInt8
 valid:List UInt8
 mW:Int
 gA:Int
 prop:Bool
 seen:Bool
 dec:List UInt8
def kP (s:Bs) (t:Nat):List V:=[.int .i64 s.h,.int .i64 s.n,.int .i64 s.t,.int .i64 s.me,.int .i64 s.rd,.int .i64 s.st,.int .i64 s.age,.str s.lock,.str s.valid,.int .i64 s.mW,.int .i64 s.gA,.bool s.prop,.bool s.seen,.str s.dec,.nil,.ptr t 0]
variable{ov:XE}{M n b t:Nat}{x:VE}{S:Hp}{K:KV}{s:Bs}{ty:TypeId}
theorem VU (hf:ov eX=none) (hx:Deep PP bM ov M (n+1) x) (hb:S b=some (.row (kP s t) ty)){z:Int} (hs: -9223372036854775808<=s.n-s.t/\s.n-s.t<=9223372036854775807) (hk:K (.bool (decide (s.n-s.t<=z))) S):x.call eX [.ptr b 0,.int .i64 z] S K:=by
 refine hx.call hf fun y _=>?_;rw [EU];unfold uB;rw [aP,eO,eO];refine iO hb rfl ?_;rw [aP,eO,eO];refine iO hb rfl ?_;rw [lV,wrap_small hs.1 hs.2,dG];exact aK hk
theorem LI (hf:ov bR=none) (hx:Deep PP bM ov M (n+1) x) (hb:S b=some (.row (kP s t) ty)){z:Int} (h0:0<=s.h/\s.h<=1000000) (h1:0<=z/\z<=1000000) (h2:0<s.n/\s.n<=1000000) (hk:K (.int .i64 (1+(s.h+z)%s.n)) S):x.call bR [.ptr b 0,.int .i64 z] S K:=by
 refine hx.call hf fun y _=>?_;rw [BX];unfold sA;rw [aP,eO,eO];refine iO hb rfl ?_;rw [bA,wrap_small (by omega) (by omega),aP,eO,eO];refine iO hb rfl ?_;have hm:(s.h+z).tmod s.n=(s.h+z)%s.n:=Int.tmod_eq_emod_of_nonneg (by omega);have hp:=Int.emod_nonneg (s.h+z) (show s.n≠0 by omega);have hq:=Int.emod_lt_of_pos (s.h+z) h2.1;rw [PI (by omega),hm,bA];have:kC .i64 (Int.ofNat 1+(s.h+z)%s.n)=1+(s.h+z)%s.n:=by rw [wrap_small]<;>(try simp)<;>omega
 rw [this];exact aK hk
theorem aGk (hf:ov cH=none) (hx:Deep PP bM ov M (n+1) x) (hb:S b=some (.row (kP s t) ty)){z:Int} (hk:K (.tuple []) (upd S b (.row (kP {s with st:=z,age:=0} t) ty))):x.call cH [.ptr b 0,.int .i64 z] S K:=by
 refine hx.call hf fun y _=>?_;rw [LC];unfold AG;rw [aP,eO,eO];refine dQ hb rfl (by simp [kP]) ?_;rw [aP,eO,eO];refine dQ upd_same rfl (by simp [kP,splice]) ?_;rw [cP];exact aK hk
theorem aBd (hf:ov fR=none) (hf2:ov cH=none) (hx:Deep PP bM ov M (n+2) x) (hb:S b=some (.row (kP s t) ty)){z:Int} (hk:K (.tuple []) (upd S b (.row (kP {s with st:=1,age:=0,rd:=z,prop:=false,seen:=false} t) ty))):x.call fR [.ptr b 0,.int .i64 z] S K:=by
 refine hx.call hf fun y hy=>?_;rw [FK];unfold uV;refine aGk hf2 hy hb ?_;rw [aP,eO,eO];refine dQ upd_same rfl (by simp [kP]) ?_;rw [cP,aP,eO,eO];refine dQ upd_same rfl (by simp [kP,splice]) ?_;rw [cP,aP,eO,eO];refine dQ upd_same rfl (by simp [kP,splice]) ?_;rw [cP];exact aK hk
variable{ov:XE}{M n b t m:Nat}{x:VE}{S:Hp}{K:KV}{ty:TypeId}
theorem aBy{b:Bool}{k:V->Prop}:GU .not (.bool b) k=k (.bool (!b)):=rfl
theorem Sc{sh:Sz}{a y:V}{es:List (V×V)} (hm:S m=some (.map es)) (ha:KP sh a) (ho:∀e∈es,KP sh e.1){k:Hp->Prop} (hk:k (upd S m (.map (PF es a y)))):PG sh (.rS m) a y S k:=by
 unfold PG;simp only [hm];exact⟨ha,ho,hk⟩
def Vo.free (v:Vo) (l:List Vo):Bool:=(l.find? fun u=>u.at v.rd v.fr v.kd).isNone
theorem YU (hM:M≠0) (hf:ov eI=none) (hf2:ov dO=none) (hx:Deep PP bM ov M (n+2) x){z:Int}{l:List Vo}{v:Vo} (a:Tal S t m z l) (h1:(v.may z&&v.free l)=false->K (.bool false) S) (h2:(v.may z&&v.free l)=true->K (.bool true) (upd S m (.map ((l++[v]).map eV)))):x.call eI [.ptr t 0,.agg v.vv] S K:=by
 refine hx.call hf fun y hy=>?_;rw [NM];unfold BK;refine eQ rfl fun i hi=>?_;refine yO Yy ?_;simp only [bD,aH];have le1:dL S (upd S i (.row v.vv 39)):= .aV hi;have ri:upd S i (.row v.vv 39) i=some (.row v.vv 39):=upd_same;generalize hS1:upd S i (.row v.vv 39)=S1 at le1 ri;have a1:=a.le le1;refine fT ri rfl ?_;rw [aP,eO];refine iO a1.row rfl ?_;refine aGD hM hf2 hy ?_;rw [aBy,aR,if_neg (by simp),aT];cases hmay:v.may z with
 | false=>
  rw [if_pos (by simp)];exact cI le1 (h1 (by rw [hmay];rfl))
 | true=>
  rw [if_neg (by simp),eO];refine iO ri rfl ?_;rw [eO];refine iO ri rfl ?_;rw [eO];refine iO ri rfl ?_;have hb:∀{k:V->Prop},k (.agg [.int .i64 v.rd,.int .i64 v.fr,.int .u8 (.ofNat v.kd)])->gP [(.int .i64 (.ofNat 0)),(.int .i64 (.ofNat 0)),(.int .u8 (.ofNat 0))] [(0,1,.int .i64 v.rd),(1,1,.int .i64 v.fr),(2,1,(.int .u8 (.ofNat v.kd)))] k:=fun h=>⟨rfl,by simp,rfl,by simp [splice],rfl,by simp [splice],h⟩;refine hb ?_;refine cG (l:=[.int .i64 0,.int .i64 0,.int .u8 0]) rfl fun j hj=>?_;refine gE upd_same (by rfl) (by rfl) (by rfl) ?_;rw [cP];have jX:∀{cs:List V},dL S1 (upd S1 j (.row cs 99)):= .aV hj;have rj:upd S1 j (.row [.int .i64 v.rd,.int .i64 v.fr,.int .u8 (.ofNat v.kd)] 99) j=some (.row [.int .i64 v.rd,.int .i64 v.fr,.int .u8 (.ofNat v.kd)] 99):=upd_same;have jX:=jX (cs:=[.int .i64 v.rd,.int .i64 v.fr,.int .u8 (.ofNat v.kd)]);generalize upd S1 j (.row [.int .i64 v.rd,.int .i64 v.fr,.int .u8 (.ofNat v.kd)] 99)=S2 at jX rj;have a2:=a1.le jX;have Lc:=jX _ _ ri;rw [aP,eO];refine iO a2.row rfl ?_;refine fT rj rfl ?_
  have look:∀(K:KV),K (.tuple [.agg (((l.find? fun u=>u.at v.rd v.fr v.kd).getD tG).vv),.bool (l.find? fun u=>u.at v.rd v.fr v.kd).isSome]) S2->MZ (.many [.int .i64,.int .i64,.int .u8]) (.agg [(.int .i64 (.ofNat 0)),(.int .i64 (.ofNat 0)),(.int .u8 (.ofNat 0)),(.int .i64 (.ofNat 0)),(.str [])]) true (.rS m) (.agg [.int .i64 v.rd,.int .i64 v.fr,.int .u8 (.ofNat v.kd)]) S2 K:=by
   intro K hk;refine Fx a2.map ⟨rfl,rfl,rfl,trivial⟩ (Dj l) (fun w hw=>?_) (fun hw=>?_)
   ·rw [SM]at hw
    cases hq:l.find? (fun u=>u.at v.rd v.fr v.kd)with
    | none=>rw [hq]at hw;cases hw
    | some u=>rw [hq]at hw hk;injection hw with hw;subst hw;exact hk
   ·rw [SM]at hw
    cases hq:l.find? (fun u=>u.at v.rd v.fr v.kd)with
    | some u=>rw [hq]at hw;cases hw
    | none=>rw [hq]at hk;exact hk
  refine look _ ?_;refine BH rfl ?_;refine BH rfl ?_;refine look _ ?_;refine tT rfl ?_;refine fT rj rfl ?_;refine tT rfl ?_;refine iO a2.row rfl ?_;refine tT rfl ?_;refine⟨cG (l:=tG.vv) rfl fun _ _=>trivial,?_⟩;refine cG (l:=tG.vv) rfl fun k hk=>?_;refine gE upd_same (by rfl) (by rfl) (by rfl) ?_;rw [cP];have DC:=dL.aV (a:= .row ((l.find? fun u=>u.at v.rd v.fr v.kd).getD tG).vv 39) hk;generalize upd S2 k (.row ((l.find? fun u=>u.at v.rd v.fr v.kd).getD tG).vv 39)=S3 at DC;have a3:=a2.le DC;rw [aT];cases hq:l.find? (fun u=>u.at v.rd v.fr v.kd)with
  | some u=>
   rw [if_pos (by rfl)];exact cI ((le1.trans jX).trans DC) (h1 (by simp [Vo.free,hq]))
  | none=>
   rw [if_neg (by simp),aP,eO];refine iO a3.row rfl ?_;refine fT (DC _ _ rj) rfl ?_;refine fT (DC _ _ Lc) rfl ?_;refine Sc a3.map (by exact⟨rfl,rfl,rfl,trivial⟩) (by exact Dj l) ?_;have hp:=aBx l v hq;have hp:PF (l.map eV) (.agg [.int .i64 v.rd,.int .i64 v.fr,.int .u8 (.ofNat v.kd)]) (.agg v.vv)=(l++[v]).map eV:=hp;rw [hp];exact cI (((le1.trans jX).trans DC).upd) (h2 (by simp [hmay,Vo.free,hq]))
variable{ov:XE}{M n b t m:Nat}{x:VE}{S:Hp}{K:KV}{ty:TypeId}
theorem aEP (hf:ov tA=none) (hx:Deep PP bM ov M (n+1) x){z:Int} (h1:¬(1<=z/\z<=7)->K (.tuple [.pW,.int .i64 1]) S)
 (h2:1<=z->z<=7->∀m t,S m=none->t≠m->S t=none->K (.tuple [.ptr t 0,.int .i64 0]) (upd (upd S m (.map [])) t (.row [.int .i64 z,.rS m] 96))):x.call tA [.int .i64 z] S K:=by
 refine hx.call hf fun y hy=>?_;rw [Hc];unfold QY;rw [aI];simp only [bD];by_cases a:z<1
 ·simp only [show decide (z<Int.ofNat 1)=true from decide_eq_true a,bL,aR,if_true,aT]
  exact aK (h1 (by omega))
 simp only [show decide (z<Int.ofNat 1)=false from decide_eq_false a,aH,dN,aR,if_false,Bool.false_eq_true,aT];by_cases b:7<z
 ·rw [show decide (Int.ofNat 7<z)=true from decide_eq_true b,if_pos rfl]
  exact aK (h1 (by omega))
 rw [show decide (Int.ofNat 7<z)=false from decide_eq_false b,if_neg (by simp)];intro m hm;have hb:∀{k:V->Prop},k (.agg [.int .i64 z,.rS m])->gP [(.int .i64 (.ofNat 0)),(.map none)] [(0,1,.int .i64 z),(1,1,.rS m)] k:=fun h=>⟨rfl,by simp,rfl,by simp [splice],h⟩;refine hb ?_;refine eQ rfl fun t ht=>?_;obtain⟨Sw,ht0⟩:=pL ht;exact aK (h2 (by omega) (by omega) m t hm Sw ht0)
variable{ov:XE}{M n b t m:Nat}{x:VE}{S:Hp}{K:KV}{s:Bs}{ty:TypeId}
def Bs.RW (s:Bs) (r:Int):Int:=1+(s.h+r)%s.n
def Bs.takes (s:Bs) (l:List Vo) (v:Vo):Bool:= !(decide (v.kd=2)&&(decide (v.rd<0) || !decide (v.fr=s.RW v.rd)))&&(v.may s.n&&v.free l)
theorem aEM (hM:M≠0) (hf:ov cN=none) (hf1:ov bR=none) (hf2:ov eI=none) (hf3:ov dO=none) (hx:Deep PP bM ov M (n+3) x) (hb:S b=some (.row (kP s t) ty)){l:List Vo}{v:Vo} (a:Tal S t m s.n l)
 (hh:0<=s.h/\s.h<=1000000) (hn:0<s.n/\s.n<=1000000) (hr:v.rd<=1000000) (h1:s.takes l v=false->K (.bool false) S) (h2:s.takes l v=true->K (.bool true) (upd S m (.map ((l++[v]).map eV)))):x.call cN [.ptr b 0,.agg v.vv] S K:=by
 refine hx.call hf fun y hy=>?_;rw [IW];unfold xW;refine eQ rfl fun i hi=>?_;have le1:dL S (upd S i (.row v.vv 39)):= .aV hi;have ri:upd S i (.row v.vv 39) i=some (.row v.vv 39):=upd_same;have him:m≠i:=fun e=>by have:=a.map;rw [e,hi]at this;cases this
 generalize hS1:upd S i (.row v.vv 39)=S1 at le1 ri;have a1:=a.le le1;have hb1:=le1 _ _ hb;have l0:∀{K:KV},aE (.ptr i 0) S1 K=K (.int .i64 v.fr) S1:=aJ ri;have l1:∀{K:KV},aE (.ptr i 1) S1 K=K (.int .i64 v.rd) S1:=aJ ri;have l2:∀{K:KV},aE (.ptr i 2) S1 K=K (.int .u8 (.ofNat v.kd)) S1:=aJ ri;simp only [eO,Nat.zero_add,l2,bW,bD]
 have rest:(decide (v.kd=2)&&(decide (v.rd<0) || !decide (v.fr=s.RW v.rd)))=false->(aQ PP (.ptr b 0) fun v30=>aD 15 v30 fun v31=>aE v31 S1 fun v32 S=>dK 5 (.ptr i 0) S fun v33 S=>y.call eI [v32,v33] S fun v34 S=>aS v34 S K):=by
  intro hc;rw [aP,eO];refine iO hb1 rfl ?_;refine fT ri (by rfl) ?_;refine YU hM hf2 hf3 hy a1 (fun e=>?_) (fun e=>?_)
  ·exact cI le1 (h1 (by unfold Bs.takes;rw [hc,e];rfl))
  ·exact cI le1.upd (h2 (by unfold Bs.takes;rw [hc,e];rfl))
 have stop:(decide (v.kd=2)&&(decide (v.rd<0) || !decide (v.fr=s.RW v.rd)))=true->aS (.bool false) S1 K:=fun e=>cI le1 (h1 (by unfold Bs.takes;rw [e];rfl));by_cases k2:v.kd=2
 ·simp only [show decide (Int.ofNat v.kd=Int.ofNat 2)=true from decide_eq_true (by rw [k2]),aH,l1,aI]
  by_cases k3:v.rd<0
  ·simp only [show decide (v.rd<Int.ofNat 0)=true from decide_eq_true k3,bL,EH,gB,l1,l2,aR,if_true,aT]
   refine tT rfl (tT rfl ?_);exact stop (by simp [k2,k3])
  ·simp only [show decide (v.rd<Int.ofNat 0)=false from decide_eq_false k3,aH,l0,l1]
   refine LI hf1 hy.less hb1 hh ⟨by omega,hr⟩ hn ?_;simp only [gB,l0,l1,l2,cW,aR,if_true,if_false,Bool.false_eq_true,aT];refine tT rfl (tT rfl (tT rfl ?_));by_cases k4:v.fr=s.RW v.rd
   ·have:decide (v.fr=1+(s.h+v.rd)%s.n)=true:=decide_eq_true k4
    rw [this,if_neg (by simp)];exact rest (by simp [k3,k4])
   ·have:decide (v.fr=1+(s.h+v.rd)%s.n)=false:=decide_eq_false k4
    rw [this,if_pos (by simp)];exact stop (by simp [k2,k4])
 ·simp only [show decide (Int.ofNat v.kd=Int.ofNat 2)=false from decide_eq_false (fun e=>k2 (Int.ofNat.inj e)),dF,UH,vJ,YP,l2,aR,if_false,Bool.false_eq_true,aT]
  refine tT rfl ?_;exact rest (by simp [k2])
end Go.Am
