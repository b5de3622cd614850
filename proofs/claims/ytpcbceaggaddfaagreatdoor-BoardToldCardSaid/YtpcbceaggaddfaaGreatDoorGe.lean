/- The program, and tables of its functions' live temporaries (written by a program). -/
import Derived.Test.YtpcbceaggaddfaaGreatDoorGd
import Derived.Test.YtpcbceaggaddfaaGreatDoorChecked
import GoSem.Core.World
import Derived.WalkKit
import Derived.OwnWalk
import Derived.Shelf.Abstract
import Derived.RangeFuncNested
import Derived.RangeFuncBound
import Derived.RangeFuncCalls
import Derived.RangeFuncLeaves
import Derived.Shelf.RegionOpen
import Derived.OwnWalkIn
import Derived.TacticsInMore
import Derived.LoopNIn
import Derived.LoopIn
import Derived.Maps.AppendAt
import Derived.Shelf.SlSortCmp.NoneTotal
import Derived.Shelf.SlicesG.Cmp
import Derived.RegionCalls
import Derived.StillTailTactics
import Derived.Sort.Grow
import Derived.Test.YtpcbceaggaddfaaGreatDoorGb
import Derived.Shelf.Sort.Plain
import Derived.Shelf.Slices.In.SortNone
import Derived.Ground.Names2Prog
import Derived.Shelf.Spec.SlicesInsertGrow

noncomputable section
set_option maxRecDepth 100000
set_option linter.unusedVariables false
namespace Go.Am
abbrev PP:Program:=Go.Proofs.Tryz.prog
abbrev gI:FuncId:=3
abbrev zV:FuncId:=6
abbrev FX:FuncId:=7
abbrev zW:FuncId:=8
abbrev xK:FuncId:=9
abbrev lK:FuncId:=10
abbrev tX:FuncId:=11
abbrev CN:FuncId:=12
abbrev rL:FuncId:=13
abbrev rT:FuncId:=14
abbrev ZI:FuncId:=27
abbrev DA:FuncId:=28
abbrev dM:FuncId:=29
abbrev mD:FuncId:=30
abbrev CO:FuncId:=31
abbrev aI:FuncId:=32
abbrev jM:FuncId:=33
abbrev aZ:FuncId:=34
abbrev dP:FuncId:=35
abbrev mE:FuncId:=36
abbrev cW:FuncId:=66
abbrev FY:FuncId:=68
abbrev dA:FuncId:=69
abbrev cT:FuncId:=70
abbrev AH:FuncId:=71
abbrev AI:FuncId:=72
abbrev AJ:FuncId:=73
abbrev AK:FuncId:=74
abbrev AL:FuncId:=75
abbrev AM:FuncId:=76
abbrev AN:FuncId:=77
abbrev xL:FuncId:=78
abbrev xM:FuncId:=79
abbrev xN:FuncId:=80
abbrev xO:FuncId:=81
abbrev xP:FuncId:=82
abbrev nH:FuncId:=83
abbrev bL:FuncId:=84
abbrev mM:FuncId:=85
abbrev xQ:FuncId:=86
abbrev dN:FuncId:=87
abbrev lL:FuncId:=88
abbrev jP:FuncId:=89
abbrev lM:FuncId:=90
abbrev fT:FuncId:=91
abbrev nA:FuncId:=97
abbrev eI:FuncId:=102
abbrev jQ:FuncId:=103
abbrev cE:FuncId:=109
abbrev jV:FuncId:=110
abbrev oA:FuncId:=111
abbrev aU:FuncId:=112
abbrev wE:FuncId:=113
abbrev iA:FuncId:=114
abbrev oB:FuncId:=115
abbrev qB:FuncId:=116
abbrev fU:FuncId:=117
abbrev aV:FuncId:=118
abbrev iU:FuncId:=119
abbrev kW:FuncId:=120
abbrev jR:FuncId:=121
abbrev gR:FuncId:=122
abbrev eD:FuncId:=123
abbrev bV:FuncId:=151
abbrev fO:FuncId:=152
abbrev dX:FuncId:=153
abbrev dG:FuncId:=154
abbrev kN:FuncId:=155
abbrev xR:FuncId:=156
abbrev iV:FuncId:=157
abbrev bC:FuncId:=162
abbrev iB:FuncId:=163
abbrev kO:FuncId:=164
abbrev dQ:FuncId:=165
abbrev fV:FuncId:=166
abbrev lO:FuncId:=167
abbrev oC:FuncId:=168
abbrev fH:FuncId:=169
abbrev fM:FuncId:=170
abbrev eT:FuncId:=193
abbrev kP:FuncId:=208
abbrev nB:FuncId:=209
abbrev eU:FuncId:=210
abbrev gB:FuncId:=212
def cM:FuncId->oN:=aMJ [(3,⟨bI [(25,[0,2,3,9,12,14,15],[0,2,3,9,12,14,15],[8]),(16,[0,2,3,9,12,14,15],[0,14],[8]),(9,[0,2,3,9,11,12,13],[0,2,3,9,12],[8])],bJ [(22,[0,2,3,9,12,14,15])]⟩),(4,⟨bI [(24,[1,5,7,9,10,14],[1,5,7,9],[]),(20,[1,5,7,9,10,13],[1,5,7,9,10],[]),(16,[1,5,7,9,10,11,12],[1,5,7,9,10],[]),(10,[1,5,7,9],[],[4])],bJ []⟩),(5,⟨bI [(8,[0,1,5,7],[],[4])],bJ [(25,[0,1,5,7,8,11])]⟩),(14,⟨bI [(4,[0,1,5],[],[4])],bJ []⟩),(15,⟨bI [(7,[0,3,4,5],[0,3,4],[]),(3,[0,3,4],[3],[])],bJ []⟩),(19,⟨bI [(4,[2,3,5],[],[4])],bJ []⟩),(20,⟨bI [(9,[1,2,3,6],[2,3],[]),(5,[1,2,3,4,5],[1,2,3],[])],bJ []⟩),(22,⟨bI [(5,[0,3,16,17,18],[3],[])],bJ []⟩),(23,⟨bI [(13,[3,4,6,7],[3,4,6,7],[]),(10,[3,4,6],[4],[]),(5,[0,3,4,5],[3,4],[])],bJ [(11,[3,4,6]),(6,[0,3,4,5]),(4,[0,3,4])]⟩),(24,⟨bI [(20,[5,8,130,131,132],[5,8],[6,7]),(14,[3,5,8,84,85,86],[5,8],[6,7])],bJ [(13,[3,5,8])]⟩),(25,⟨bI [(4,[0,1,5],[],[4])],bJ []⟩),(28,⟨bI [],bJ [(7,[1,3,4,5,6])]⟩),(32,⟨bI [(22,[0,11,148,149],[11],[]),(12,[0,1,11,13,88,89,90,94,95,96],[0,1,11,88,89,90],[]),(9,[0,1,11,88,89,90],[0,1,11],[])],bJ [(20,[0,1,11]),(5,[0,1,2,3,4])]⟩),(34,⟨bI [(5,[0,1,5,6],[0,5],[])],bJ [(6,[0,1,5,6])]⟩),(38,⟨bI [(4,[0,3,5],[0,3],[4])],bJ []⟩),(41,⟨bI [(6,[0,4,5,6],[0,4,5],[])],bJ [(7,[0,4,5,6])]⟩),(45,⟨bI [(5,[3,12,13,14],[3],[])],bJ []⟩),(47,⟨bI [(9,[0,3,4,5],[0,3],[]),(4,[0,3],[0],[2])],bJ [(10,[0,3,4,5])]⟩),(48,⟨bI [(7,[0,3,4,5],[0,3,4,5],[]),(3,[0,3,4],[3],[])],bJ [(4,[0,3,4])]⟩),(49,⟨bI [(5,[1,4,79,80,81],[1,4],[2,3])],bJ []⟩),(51,⟨bI [(4,[2,3,5],[],[4])],bJ []⟩),(52,⟨bI [],bJ [(8,[0,1,2,7])]⟩),(63,⟨bI [(12,[0,3,6,16,17,36,37],[0,3,16,17],[]),(5,[0,3,16,17],[],[2])],bJ []⟩),(84,⟨bI [(2,[0,1,7,8],[],[4])],bJ []⟩),(87,⟨bI [(2,[0,1,7,8],[],[4])],bJ []⟩),(88,⟨bI [(4,[1,2,18,19,20],[],[])],bJ []⟩),(91,⟨bI [(8,[0,3,6,7,27,28,29],[0,3,6,7],[]),(6,[0,3,6,7],[7],[])],bJ [(5,[0,3,6])]⟩),(93,⟨bI [(11,[0,29,30,31],[],[2]),(4,[0,3],[0],[2])],bJ []⟩),(95,⟨bI [(40,[0,17,22],[0,17],[]),(30,[0,1,17,18,19,20],[0,1,17,18,19],[]),(27,[0,1,17,18,19],[0,1,17],[]),(10,[0,1,2,3,4,13,14],[0,1,2,3,4],[])],bJ [(41,[0,17,22]),(37,[0,1,17]),(31,[0,1,17,18,19,20]),(26,[0,1,17,18]),(11,[0,1,2,3,4,13,14]),(7,[0,1,2,3,4])]⟩),(96,⟨bI [(4,[0,1,5],[],[4])],bJ []⟩),(98,⟨bI [(2,[0,1,2,3,8,9],[],[])],bJ [(17,[0,1,2,3,8,9,10,11]),(15,[0,1,2,3,8,9,10,11,12]),(10,[0,1,2,3,8,9,10])]⟩),(100,⟨bI [(2,[0,1,5],[],[4])],bJ []⟩),(103,⟨bI [(3,[3,7,8,9],[3],[])],bJ []⟩),(106,⟨bI [(4,[0,1,2,7],[7],[])],bJ [(8,[0,1,2,7])]⟩),(109,⟨bI [(2,[0,1,7,8],[],[4])],bJ []⟩),(112,⟨bI [(9,[0,3,4,5],[0,3],[]),(4,[0,3],[0],[2])],bJ [(10,[0,3,4,5])]⟩),(114,⟨bI [],bJ [(3,[1,3])]⟩),(115,⟨bI [(5,[0,2,8,37,38,39],[0,2,8],[])],bJ []⟩),(117,⟨bI [(2,[0,14,15,16],[],[4,5])],bJ []⟩),(118,⟨bI [(1000003,[2,4,5],[],[])],bJ []⟩),(1400003,⟨bI [(1000000,[2,4,5],[],[])],bJ []⟩),(123,⟨bI [],bJ [(4,[0,6,7])]⟩),(125,⟨bI [(9,[1,6,7,8],[],[4]),(2,[0,1,5,6],[0,1,5,6],[])],bJ []⟩),(127,⟨bI [(2,[0,1,5],[0,1],[4])],bJ []⟩),(129,⟨bI [(2,[0,1,5],[],[4])],bJ []⟩),(130,⟨bI [(4,[0,1,2,6,7,8,9],[0,1,2,6,7,8],[])],bJ [(16,[0,2,6,8]),(5,[0,1,2,6,7,8,9]),(11,[0,1,2,6,7,8,9,10])]⟩),(132,⟨bI [],bJ [(15,[0,1,2,7])]⟩),(133,⟨bI [(2,[0,1,2,7],[7],[6])],bJ []⟩),(137,⟨bI [(3,[3,6,7,8],[3],[2])],bJ []⟩),(140,⟨bI [(4,[0,1,2,6,7],[0,1,2,6],[]),(1,[0,1,2,6],[],[])],bJ []⟩),(141,⟨bI [(8,[0,6,7,10],[],[]),(4,[0,6,7,8,9],[0,6,7,8],[])],bJ []⟩),(142,⟨bI [(5,[0,1,6,7,8,9],[],[])],bJ [(10,[0,1,6,7,8,9,10])]⟩),(143,⟨bI [],bJ [(12,[9,11]),(11,[0,9,10,11,12])]⟩),(144,⟨bI [(2,[0,6,7],[],[])],bJ []⟩),(145,⟨bI [(20,[0,1,2,7,8,10],[0,1,2,7,8],[]),(14,[0,1,2,7,8,9],[0,1,2,7,8],[]),(5,[0,1,2,7,8],[0,1,2,7,8],[]),(3,[0,1,2,7,8],[],[6])],bJ [(4,[0,1,2,7,8]),(18,[0,1,2,7,8])]⟩),(147,⟨bI [(5,[0,1,9,10],[0,1,9,10],[]),(3,[0,1,9,10],[0,1,9,10],[]),(3,[0,1,9,10],[9],[])],bJ []⟩),(148,⟨bI [(15,[0,1,10,11],[0,1,10,11],[]),(13,[0,1,10,11],[0,1,10,11],[]),(13,[0,1,10,11],[0,1,11],[]),(5,[0,1,10,11],[0,1,10,11],[]),(3,[0,1,10,11],[0,1,10,11],[])],bJ []⟩),(149,⟨bI [],bJ [(7,[0,2]),(4,[0,2])]⟩),(150,⟨bI [],bJ [(10,[0,2]),(7,[0,2]),(4,[0,2])]⟩),(161,⟨bI [(2,[0,1,2,3,8,9],[],[])],bJ [(17,[0,1,2,3,8,9,10,11]),(15,[0,1,2,3,8,9,10,11,12]),(10,[0,1,2,3,8,9,10])]⟩),(162,⟨bI [(3,[0,1,2,8,9,10],[0,1,2,8,9],[])],bJ []⟩),(170,⟨bI [],bJ [(4,[0,1])]⟩),(173,⟨bI [(2,[0,1,2,7],[7],[])],bJ [(5,[0,1,2,7])]⟩),(179,⟨bI [(3,[0,1,2,7,8],[7],[])],bJ [(4,[0,1,2,7,8])]⟩),(181,⟨bI [(12,[0,1,2,8,12],[0,1,2],[6,7]),(3,[0,1,2,8,9],[0,1,2,8],[6,7])],bJ []⟩),(184,⟨bI [(1,[0,6],[],[])],bJ []⟩),(187,⟨bI [(1,[0,2,3,8],[],[])],bJ [(5,[0,2,3,8,9])]⟩),(193,⟨bI [],bJ [(8,[2,49])]⟩),(194,⟨bI [(6,[1,5,6,21],[6],[])],bJ [(11,[1,5,6,8,21])]⟩),(196,⟨bI [(24,[2,8,9,10,14,15,16,17,18],[2,8,14,15,17,18],[]),(17,[2,8,9,10,11,13,14,15,16],[2,8,9,10,11,13,14,15],[])],bJ [(28,[2,8,14,15,17,18]),(21,[2,8,9,10,11,13,14,15]),(5,[0,1,2]),(3,[0,1,2])]⟩),(197,⟨bI [(4,[0,1,2,6,7],[0,1,2,6],[]),(1,[0,1,2,6],[],[])],bJ []⟩),(198,⟨bI [(8,[0,6,7,10],[],[]),(4,[0,6,7,8,9],[0,6,7,8],[])],bJ []⟩),(199,⟨bI [(5,[0,1,6,7,8,9],[],[])],bJ [(10,[0,1,6,7,8,9,10])]⟩),(200,⟨bI [],bJ [(12,[9,11]),(11,[0,9,10,11,12])]⟩),(201,⟨bI [(2,[0,6,7],[],[])],bJ []⟩),(202,⟨bI [(20,[0,1,2,7,8,10],[0,1,2,7,8],[]),(14,[0,1,2,7,8,9],[0,1,2,7,8],[]),(5,[0,1,2,7,8],[0,1,2,7,8],[]),(3,[0,1,2,7,8],[],[6])],bJ [(4,[0,1,2,7,8]),(18,[0,1,2,7,8])]⟩),(204,⟨bI [(5,[0,1,9,10],[0,1,9,10],[]),(3,[0,1,9,10],[0,1,9,10],[]),(3,[0,1,9,10],[9],[])],bJ []⟩),(205,⟨bI [(15,[0,1,10,11],[0,1,10,11],[]),(13,[0,1,10,11],[0,1,10,11],[]),(13,[0,1,10,11],[0,1,11],[]),(5,[0,1,10,11],[0,1,10,11],[]),(3,[0,1,10,11],[0,1,10,11],[])],bJ []⟩),(210,⟨bI [(1,[0,1,3],[],[])],bJ []⟩),(212,⟨bI [(2,[0,1,7,8],[],[4])],bJ []⟩),(213,⟨bI [(5,[1,2,5,6],[5],[])],bJ []⟩),(216,⟨bI [(5,[0,3,5,6],[0,3,5,6],[])],bJ []⟩),(219,⟨bI [(3,[0,1,5,6],[5],[])],bJ [(4,[0,1,5,6])]⟩),(220,⟨bI [(1000003,[2],[],[])],bJ []⟩),(1130003,⟨bI [(1000000,[2],[],[])],bJ []⟩),(221,⟨bI [(2,[0,1,2,3,4,10,11],[],[])],bJ [(17,[0,1,2,3,4,10,11,12,13]),(15,[0,1,2,3,4,10,11,12,13,14]),(10,[0,1,2,3,4,10,11,12])]⟩),(224,⟨bI [(1,[0,2,3,8],[],[])],bJ [(5,[0,2,3,8,9])]⟩),(231,⟨bI [(2,[0,1,2,6,8],[6],[6,7])],bJ []⟩),(232,⟨bI [(3,[0,1,2,3,9,10],[9],[])],bJ [(4,[0,1,2,3,9,10])]⟩),(233,⟨bI [(4,[0,1,2,3,8,9],[0,1,2,3,8],[]),(1,[0,1,2,3,8],[],[])],bJ []⟩),(234,⟨bI [(8,[0,3,8,9,12],[],[]),(4,[0,3,8,9,10,11],[0,3,8,9,10],[])],bJ []⟩),(235,⟨bI [(5,[0,1,8,9,10,11],[],[])],bJ [(10,[0,1,8,9,10,11,12])]⟩),(236,⟨bI [],bJ [(12,[11,13]),(11,[0,3,11,12,13,14])]⟩),(237,⟨bI [(2,[0,8,9],[],[])],bJ []⟩),(238,⟨bI [(20,[0,1,2,3,9,10,12],[0,1,2,3,9,10],[]),(14,[0,1,2,3,9,10,11],[0,1,2,3,9,10],[]),(5,[0,1,2,3,9,10],[0,1,2,3,9,10],[]),(3,[0,1,2,3,9,10],[],[8])],bJ [(4,[0,1,2,3,9,10]),(18,[0,1,2,3,9,10])]⟩),(239,⟨bI [(5,[0,1,4,11,12],[0,1,4,11,12],[]),(3,[0,1,4,11,12],[0,1,4,11,12],[]),(3,[0,1,4,11,12],[11],[])],bJ []⟩),(240,⟨bI [(15,[0,1,4,12,13],[0,1,4,12,13],[]),(13,[0,1,4,12,13],[0,1,4,12,13],[]),(13,[0,1,4,12,13],[0,1,13],[]),(5,[0,1,4,12,13],[0,1,4,12,13],[]),(3,[0,1,4,12,13],[0,1,4,12,13],[])],bJ []⟩),(242,⟨bI [(1,[0,2,3],[],[])],bJ []⟩),(243,⟨bI [(1,[0,2,3,4,10],[],[])],bJ [(5,[0,2,3,4,10,11])]⟩)]
end Go.Am
namespace Go.Proofs.Et
open Go
structure Vt where
 fr:Int
 rd:Int
 kd:Int
 va:Int
 tx:ByteArray
 deriving Inhabited
def pN (v:Vt):Value:= .agg #[.int .i64 v.fr,.int .i64 v.rd,.int .u8 v.kd,.int .i64 v.va,.string v.tx]
def dec:Value->Vt
 | .agg ⟨[.int _ a,.int _ b,.int _ c,.int _ d,.string s]⟩=>⟨a,b,c,d,s⟩
 | _=>default
def dv (e:MapEntry):Vt:=dec e.val
def wC (p:Vt->Bool) (l:List Vt) (f:Nat):Nat:=(l.filter fun v=>p v&&v.fr==(f:Int)).length
def mem (p:Vt->Bool) (n:Nat) (l:List Vt):Nat:=((List.range (n+1)).filter fun f=>wC p l f != 0).length
theorem aE5{p:Vt->Bool}{l m:List Vt} (h:l.Perm m) (f:Nat):wC p l f=wC p m f:=(h.filter _).length_eq
theorem aE0{p:Vt->Bool}{l m:List Vt} (h:l.Perm m) (n:Nat):mem p n l=mem p n m:=by
 unfold mem;congr 2;funext f;rw [aE5 h]
theorem aKp (p:Vt->Bool) (l:List Vt) (f:Nat):wC p l f<=l.length:=List.length_filter_le _ _
theorem aKq (p:Vt->Bool) (n:Nat) (l:List Vt):mem p n l<=n+1:=by
 unfold mem;have:=List.length_filter_le (fun f=>wC p l f != 0) (List.range (n+1));simpa using this
theorem aBt (p:Vt->Bool) (f:Nat):wC p [] f=0:=rfl
theorem aHC (p:Vt->Bool) (n:Nat):mem p n []=0:=by
 unfold mem;simp [aBt]
theorem Zl{p:Vt->Bool}{v:Vt} (h:p v=false) (l:List Vt) (f:Nat):wC p (l++[v]) f=wC p l f:=by
 unfold wC;simp [List.filter_append,h]
theorem aKr{p:Vt->Bool}{v:Vt} (h:p v=false) (n:Nat) (l:List Vt):mem p n (l++[v])=mem p n l:=by
 unfold mem;congr 2;funext f;rw [Zl h]
theorem Ey{p:Vt->Bool}{v:Vt} (h:p v=true){f:Nat} (hf:v.fr=(f:Int)) (l:List Vt):wC p (l++[v]) f=wC p l f+1:=by
 unfold wC;simp [List.filter_append,h,hf]
theorem HI{p:Vt->Bool}{v:Vt}{f g:Nat} (hf:v.fr=(f:Int)) (hg:g≠f) (l:List Vt):wC p (l++[v]) g=wC p l g:=by
 unfold wC;have:((f:Int)==(g:Int))=false:=by simp;omega
 simp [List.filter_append,hf,this]
theorem Aj{L:List Nat} (hn:L.Nodup){f:Nat} (hf:f∈L){q q':Nat->Bool} (hq:q f=false) (hq':q' f=true) (ho:∀x,x≠f->q' x=q x):(L.filter q').length=(L.filter q).length+1:=by
 induction L with
 | nil=>cases hf
 | cons a L ih=>
  simp only [List.nodup_cons]at hn;by_cases ha:a=f
  ·subst ha
   have:L.filter q'=L.filter q:=List.filter_congr fun x hx=>ho x (fun e=>hn.1 (e▸hx));simp [hq,hq',this]
  ·have hf':f∈L:=by
    rcases List.mem_cons.1 hf with h | h
    ·exact absurd h.symm ha
    ·exact h
   simp only [List.filter_cons,ho a ha];cases q a<;>simp [ih hn.2 hf']
theorem aHD{p:Vt->Bool}{v:Vt} (h:p v=true){n f:Nat} (hf:v.fr=(f:Int)) (hn:f<=n){l:List Vt} (h0:wC p l f=0):mem p n (l++[v])=mem p n l+1:=by
 unfold mem;refine Aj (List.nodup_range) (f:=f) (by simp;omega) (by simp [h0]) (by simp [Ey h hf]) fun x hx=>by rw [HI hf hx]
theorem aHE{p:Vt->Bool}{v:Vt}{n f:Nat} (hf:v.fr=(f:Int)){l:List Vt} (h0:wC p l f≠0):mem p n (l++[v])=mem p n l:=by
 unfold mem;congr 2;funext x;by_cases hx:x=f
 ·subst hx
  cases hp:p v with
  | true=>rw [Ey hp hf];simp [h0]
  | false=>rw [Zl hp]
 ·rw [HI hf hx]
end Go.Proofs.Et
namespace Go.Proofs.Et
open Go Go.RowKit Go.Rm Go.Proofs
theorem vE{W:World}{a:Addr}{v:Value} (o:Obj) (h:W.cell? a=some v):(W.alloc o).cell? a=some v:=by
 have hb:a.block<W.heap.size:=by
  unfold World.cell? at h;cases hx:W.heap[a.block]? with
  | none=>rw [hx]at h;simp at h
  | some _=>exact(Array.getElem?_eq_some_iff.1 hx).1
 rw [World.cell?_alloc_lt W o a hb];exact h
theorem To{a b:Bool} (h:a=b):Ending.returned (.bool a)= .returned (.bool b):=by rw [h]
set_option maxHeartbeats 400000 in
theorem aMQ (v:Vt) (rd:Int) (br:Nat) (w:World) (hr:w.cell? ⟨br,0,none⟩=some (.int .i64 rd)):
 Calls Tryz.prog 211 #[pN v,.pointer (some ⟨br,0,none⟩)] w fun e w'=>e= .returned (.bool (v.rd==rd))/\w'=w.alloc (.cells #[.int .i64 v.fr,.int .i64 v.rd,.int .u8 v.kd,.int .i64 v.va,.string v.tx] 94):=by
 unfold pN;have Iq:∀o,(w.alloc o).cell? ⟨br,0,none⟩=some (.int .i64 rd):=fun o=>vE o hr
 go_enter Tryz.func211,Tryz.ntmps211
 go_wp2
 go_ret
 exact⟨rfl,rfl⟩
set_option maxHeartbeats 400000 in
theorem aOJ (v:Vt) (rd kd:Int) (br bk:Nat) (w:World) (hr:w.cell? ⟨br,0,none⟩=some (.int .i64 rd)) (hk:w.cell? ⟨bk,0,none⟩=some (.int .u8 kd)):
 Calls Tryz.prog 195 #[pN v,.pointer (some ⟨br,0,none⟩),.pointer (some ⟨bk,0,none⟩)] w fun e w'=>e= .returned (.bool (v.rd==rd&&v.kd==kd))/\w'=w.alloc (.cells #[.int .i64 v.fr,.int .i64 v.rd,.int .u8 v.kd,.int .i64 v.va,.string v.tx] 94):=by
 unfold pN;have Iq:∀o,(w.alloc o).cell? ⟨br,0,none⟩=some (.int .i64 rd):=fun o=>vE o hr;have Yb:∀o,(w.alloc o).cell? ⟨bk,0,none⟩=some (.int .u8 kd):=fun o=>vE o hk
 go_enter Tryz.func195,Tryz.ntmps195
 go_wp2
 all_goals
  go_ret
  refine⟨To ?_,by simp_all⟩
  simp_all
set_option maxHeartbeats 1000000 in
theorem aKm (v:Vt) (rd kd:Int) (tx:ByteArray) (br bk bt:Nat) (w:World) (hr:w.cell? ⟨br,0,none⟩=some (.int .i64 rd)) (hk:w.cell? ⟨bk,0,none⟩=some (.int .u8 kd)) (ht:w.cell? ⟨bt,0,none⟩=some (.string tx)):
 Calls Tryz.prog 228 #[pN v,.pointer (some ⟨br,0,none⟩),.pointer (some ⟨bk,0,none⟩),.pointer (some ⟨bt,0,none⟩)] w fun e w'=>e= .returned (.bool (v.rd==rd&&v.kd==kd&&v.tx.toList==tx.toList))/\w'=w.alloc (.cells #[.int .i64 v.fr,.int .i64 v.rd,.int .u8 v.kd,.int .i64 v.va,.string v.tx] 94):=by
 unfold pN;have Iq:∀o,(w.alloc o).cell? ⟨br,0,none⟩=some (.int .i64 rd):=fun o=>vE o hr;have Yb:∀o,(w.alloc o).cell? ⟨bk,0,none⟩=some (.int .u8 kd):=fun o=>vE o hk;have ht1:∀o,(w.alloc o).cell? ⟨bt,0,none⟩=some (.string tx):=fun o=>vE o ht
 go_enter Tryz.func228,Tryz.ntmps228
 go_wp2
 all_goals
  go_ret
  refine⟨To ?_,by simp_all⟩
  simp_all
theorem TT{a b:Int} (h:a=b):Ending.returned (.int .i64 a)= .returned (.int .i64 b):=by rw [h]
theorem aCM (k:Nat):(madeCells (Value.int .i64 0).cells (k*1)).toList=List.replicate k (Value.int .i64 0):=by
 apply List.ext_getElem
 ·simp [madeCells]
 ·intro i h1 h2
  simp [madeCells,Value.cells,Nat.mod_one]
theorem Bj{p:Prop} (h:p):RowKit.Hid p:=h
def Had (w:World) (bh n:Nat) (p:Vt->Bool) (l:List Vt):Prop:=∀f,f<=n->w.cell? ⟨bh,f,none⟩=some (.int .i64 (wC p l f:Int))/\w.frozen? ⟨bh,f,none⟩=false
theorem TU{W:World}{a:Addr}{v:Value} (h:W.cell? a=some v):a.block<W.heap.size:=by
 unfold World.cell? at h;cases hx:W.heap[a.block]? with
 | none=>rw [hx]at h;simp at h
 | some _=>exact(Array.getElem?_eq_some_iff.1 hx).1
theorem Tp{W W':World}{a:Addr} (h:W'.heap[a.block]? =W.heap[a.block]?):W'.cell? a=W.cell? a/\W'.frozen? a=W.frozen? a:=by
 unfold World.cell? World.frozen?;rw [h];exact⟨rfl,rfl⟩
theorem aHB{W W':World}{a:Addr}{v:Value}{row:Option Nat} (h:W.cell? a=some v) (hg:W.grownBy W' row) (hr:some a.block≠row):W'.cell? a=some v:=
 (Tp (hg.block _ (TU h) hr)).1.trans h
theorem aKn{W W':World}{b:Nat}{o:Obj}{row:Option Nat} (h:W.heap[b]? =some o) (hg:W.grownBy W' row) (hr:some b≠row):W'.heap[b]? =some o:=
 (hg.block _ (Array.getElem?_eq_some_iff.1 h).1 hr).trans h
theorem tL{W W':World}{n:Nat}{a:Addr}{v:Value} (h:W.cell? a=some v) (hb:Below n W W') (hn:a.block<n):W'.cell? a=some v:=(hb.cell hn).trans h
theorem aMR:(Tryz.prog.info? 3).map (fun i=>(i.zero,i.size,i.bytes))=some (some (.int .i64 0),1,8):=by kernel_rfl
set_option maxRecDepth 100000 in
set_option maxHeartbeats 1000000 in
theorem Tq (g:FuncId) (cb:Array Value) (p:Vt->Bool) (bt ot bm n:Nat) (es:Array MapEntry) (clock:Nat) (w:World) (hn:n<=1000000) (hsz:es.size<=1000000)
 (h0:w.cell? ⟨bt,ot,none⟩=some (.int .i64 (n:Int))) (h1:w.cell? ⟨bt,ot+1,none⟩=some (.map (some bm))) (hb:w.heap[bm]? =some (.map es clock)) (hs:EB es clock)
 (hv:∀e∈es.toList,e.val=pN (dv e)/\∃f:Nat,(dv e).fr=(f:Int)/\f<=n)
 (eg:∀args w,(callFunc g args).run Tryz.prog w= .ok (.enter g args) w)
 (hg:∀(W:World) (v:Vt),Below w.heap.size w W->Calls Tryz.prog g (#[pN v]++cb) W fun e W'=>e= .returned (.bool (p v))/\Below W.heap.size W W'):
 Calls Tryz.prog 194 #[.pointer (some ⟨bt,ot,none⟩),.func (.func g) #[] cb] w fun e w'=>e= .returned (.int .i64 (mem p n (es.toList.map dv):Int))/\Below w.heap.size w w':=by
 obtain⟨i0,hi,hz0,YC,Av⟩:=info_parts aMR
 go_enter Tryz.func194,Tryz.ntmps194
 go_wp2_with (first
  | (at_make;refine wpList_make_full _ rfl _ _ 33 rfl w.heap.size 3 i0 (.int .i64 0) 1 Tryz.underlying33 hi hz0 YC .i64 .i64 _ _ (n+1) rfl rfl (by push_cast;rfl) (by push_cast;rfl) (by rw [Av];omega) (by unfold maxLen;omega) (Nat.le_refl _) ?_;intro w1 aCI hgr;have hc1:=aHB h1 hgr (by simp);have Dp:=aKn hb hgr (by simp))
  | (at_range;refine XC rfl _ 156 rfl 158 94 Tryz.underlying156 rfl Dp hs ?_;intro w2 hw2 Px)
  | go_in)
 go_frame
 have aOK:w.heap.size<w1.heap.size:=(aCI.lt w.heap.size rfl).2;have hbt:=TU h0;have hbm:=(Array.getElem?_eq_some_iff.1 hb).1;simp only at hbt
 have aOL:Had w2 w.heap.size n p []:=by
  obtain⟨_,h | ⟨gg,cap,cur,he,_,QV,_,_,vL,htk⟩⟩:=aCI
  ·cases h.1
  ·injection he with Me he2 he3
   injection Me with Me;injection Me with Me;subst Me
   have hz:cur.toList=List.replicate (n+1) (Value.int .i64 0):=by
    have h1:cur.toList.take ((n+1)*1)=cur.toList:=List.take_of_length_le (by simp [vL,<-he3]);rw [<-h1,htk];exact aCM _
   have hblk:w2.heap[w.heap.size]? =some (.cells cur 3 (0,0)):=by rw [hw2,Below.heap_alloc _ _ _ aOK];exact QV
   intro f hf
   have hcf:cur[f]? =some (.int .i64 0):=by
    rw [<-Array.getElem?_toList,hz,List.getElem?_replicate,if_pos (by omega)]
   constructor
   ·unfold World.cell?;simp only [hblk];simpa [aBt]using hcf
   ·unfold World.frozen?;simp only [hblk];simp
 have hB2:Below w.heap.size w w2:=by
  rw [hw2];exact((Below.refl _ _).grown hgr (Nat.le_refl _) (fun k e=>by cases e)).alloc (by omega) _
 go_loopw [6] (fun x wr=>∃(done todo:List MapEntry),MN wr bm w1.heap.size es clock done todo/\x= .int .i64 (mem p n (done.map dv):Int)/\Had wr w.heap.size n p (done.map dv)/\Below w.heap.size w wr/\w1.heap.size<wr.heap.size)
  (fun _ wr=>wr.rangeLeft bm w1.heap.size)
 case atStart=>exact⟨[],es.toList,Px,by simp [aHC],aOL,hB2,by rw [hw2];simp⟩
 case round=>
  obtain⟨done,todo,Px,rfl,hH,hB,hws⟩:=hrel
  go_wp2_with (first
   | (at_next;refine Ai rfl _ rfl rfl Px ?_ ?_)
   | go_in)
  ·intro h0
   subst h0;have hm:mem p n (done.map dv)=mem p n (es.toList.map dv):=aE0 (by simpa using Px.2.2.2.map dv) n
   go_wp2
   go_ret
   exact⟨TT (by rw [hm]),hB⟩
  ·rintro⟨k0,x0,b0⟩ uS w3 hp aKo hg3 hs3 hen
   obtain⟨hx,f,hf,hfn⟩:=hv ⟨k0,x0,b0⟩ ((Px.2.2.2).subset (List.mem_append_right _ (hp.symm.subset List.mem_cons_self)));obtain⟨v,hvd,hx⟩:∃v,dv ⟨k0,x0,b0⟩=v/\x0=pN v:=⟨_,rfl,hx⟩;subst hx;rw [hvd]at hf;have hgv:=hg (w3.alloc (.cells #[.int .i64 v.fr,.int .i64 v.rd,.int .u8 v.kd,.int .i64 v.va,.string v.tx] 94)) v (((hB.grown hg3 (by omega) (fun k e=>by cases e;omega))).alloc (by omega) _);dsimp only [pN]at hen hgv ⊢;rw [hf]at hen hgv ⊢;have ZX:=aKp p (done.map dv) f;have KA:=aKq p n (done.map dv)
   have Ae:done.length<=es.size:=by
    have:=Px.2.2.2.length_eq;simp at this;omega
   simp only [List.length_map]at ZX;have aPw:wC p (done.map dv) f<=1000000:=by omega
   have aPx:mem p n (done.map dv)<=1000001:=by omega
   clear ZX KA Ae;have aPy:bm<w1.heap.size:=by omega
   have hH3:∀W4,Below (w3.alloc (.cells #[.int .i64 v.fr,.int .i64 v.rd,.int .u8 v.kd,.int .i64 v.va,.string v.tx] 94)).heap.size (w3.alloc (.cells #[.int .i64 v.fr,.int .i64 v.rd,.int .u8 v.kd,.int .i64 v.va,.string v.tx] 94)) W4->MN W4 bm w1.heap.size es clock (done++[⟨k0,pN v,b0⟩]) uS/\Had W4 w.heap.size n p (done.map dv)/\Below w.heap.size w W4/\wr.heap.size<W4.heap.size/\W4.cell? ⟨wr.heap.size,0,none⟩=some (.int .i64 v.fr):=by
    intro W4 Ni;have aOM:=Ni.size;simp only [World.size_alloc]at aOM
    have hblk:∀j,j<wr.heap.size->j≠w1.heap.size->W4.heap[j]? =wr.heap[j]? :=fun j hj uR=>by
     rw [Ni.block j (by simp;omega),Below.heap_alloc _ _ _ (by omega)];exact hg3.block j hj (by simpa using uR)
    refine⟨aKo.XA ?_ ?_,fun g hg=>?_,?_,by omega,?_⟩
    ·rw [Ni.block bm (by simp;omega),Below.heap_alloc _ _ _ (by omega)]
    ·rw [Ni.block w1.heap.size (by simp;omega),Below.heap_alloc _ _ _ (by omega)]
    ·obtain⟨q1,q2⟩:=Tp (W:=wr) (W':=W4) (a:=⟨w.heap.size,g,none⟩) (hblk _ (by simp;omega) (by simp;omega))
     rw [q1,q2];exact hH g hg
    ·refine(((hB.grown hg3 (by omega) (fun k e=>by cases e;omega))).alloc (by omega) (.cells #[.int .i64 v.fr,.int .i64 v.rd,.int .u8 v.kd,.int .i64 v.va,.string v.tx] 94)).trans (Ni.mono (by simp;omega))
    ·rw [<-hs3,Ni.cell (p:=⟨w3.heap.size,0,none⟩) (by simp),World.cell?_alloc_new];rfl
   have aMS:dv ⟨k0,pN v,b0⟩=v:=rfl;have Ts:(done++[⟨k0,pN v,b0⟩]:List MapEntry).map dv=done.map dv++[v]:=by simp [aMS]
   have HD:=Bj Ts;have HL:=Bj Px.left_eq;have HP:=Bj hp;have HF:=Bj hf;rw [hf]at hH3;clear Ts aMS hvd hp;cases hpv:p v with
   | false=>
    rw [hpv]at hgv
    go_wp2_with (first | (go_at_fn g;refine hgv.mono ?_;clear hgv;rintro e w4 ⟨rfl,Ni⟩;obtain⟨r1,r2,r3,r4,r5⟩:=hH3 w4 Ni) | go_in)
    go_roundw
    case rel=>exact⟨done++[({key:=k0,val:=pN v,born:=b0}:MapEntry)],uS,r1,by rw [HD.out,aKr hpv],fun g hg=>by rw [HD.out,Zl hpv];exact r2 g hg,r3,by omega⟩
    case measure=>rw [r1.left_eq,HL.out,HP.out.length_eq];simp
   | true=>
    rw [hpv]at hgv
    have Hv:∀W4,MN W4 bm w1.heap.size es clock (done++[⟨k0,pN v,b0⟩]) uS->Had W4 w.heap.size n p (done.map dv)->Below w.heap.size w W4->wr.heap.size<W4.heap.size->∀x,x=Value.int .i64 (wC p (done.map dv) f+1:Int)->
     MN (W4.setCell ⟨w.heap.size,f,none⟩ x) bm w1.heap.size es clock (done++[⟨k0,pN v,b0⟩]) uS/\Had (W4.setCell ⟨w.heap.size,f,none⟩ x) w.heap.size n p ((done++[⟨k0,pN v,b0⟩]:List MapEntry).map dv)/\Below w.heap.size w (W4.setCell ⟨w.heap.size,f,none⟩ x)/\w1.heap.size<(W4.setCell ⟨w.heap.size,f,none⟩ x).heap.size:=by
     rintro W4 r1 r2 r3 r4 x rfl
     refine⟨r1.XA (Below.heap_setCell _ _ _ _ (by simp;omega)) (Below.heap_setCell _ _ _ _ (by simp;omega)),fun g hg=>?_,r3.setCell (p:=⟨w.heap.size,f,none⟩) (Nat.le_refl _) _,by simp [World.setCell];omega⟩;rw [HD.out,World.frozen?_setCell];refine⟨?_,(r2 g hg).2⟩;by_cases hgf:g=f
     ·subst hgf
      rw [World.cell?_setCell_same _ _ _ (r2 g hg).1,Ey hpv HF.out];simp
     ·rw [World.cell?_setCell_other _ _ _ _ (by simp),HI HF.out hgf]
      exact(r2 g hg).1
    by_cases hc0:wC p (done.map dv) f=0
    ·have HC:=Bj hc0
     have ht:((wC p (done.map dv) f:Int)==0)=true:=by simp [hc0]
     clear hc0
     go_wp2_with (first | (go_at_fn g;refine hgv.mono ?_;clear hgv;rintro e w4 ⟨rfl,Ni⟩;obtain⟨r1,r2,r3,r4,r5⟩:=hH3 w4 Ni;obtain⟨r6,r7⟩:=r2 f hfn) | go_in)
     go_roundw
     case rel=>
      obtain⟨z1,z2,z3,z4⟩:=Hv w4 r1 r2 r3 r4 _ rfl;exact⟨done++[⟨k0,pN v,b0⟩],uS,z1,by rw [HD.out,aHD hpv HF.out hfn HC.out];simp,z2,z3,z4⟩
     case measure=>
      obtain⟨z1,z2,z3,z4⟩:=Hv w4 r1 r2 r3 r4 _ rfl;rw [z1.left_eq,HL.out,HP.out.length_eq];simp
    ·have HC:=Bj hc0
     have ht:((wC p (done.map dv) f:Int)==0)=false:=by simp [hc0]
     clear hc0
     go_wp2_with (first | (go_at_fn g;refine hgv.mono ?_;clear hgv;rintro e w4 ⟨rfl,Ni⟩;obtain⟨r1,r2,r3,r4,r5⟩:=hH3 w4 Ni;obtain⟨r6,r7⟩:=r2 f hfn) | go_in)
     go_roundw
     case rel=>
      obtain⟨z1,z2,z3,z4⟩:=Hv w4 r1 r2 r3 r4 _ rfl;exact⟨done++[⟨k0,pN v,b0⟩],uS,z1,by rw [HD.out,aHE HF.out HC.out],z2,z3,z4⟩
     case measure=>
      obtain⟨z1,z2,z3,z4⟩:=Hv w4 r1 r2 r3 r4 _ rfl;rw [z1.left_eq,HL.out,HP.out.length_eq];simp
structure At (w:World) (bt ot n:Nat) (es:Array MapEntry):Prop where
 count:w.cell? ⟨bt,ot,none⟩=some (.int .i64 (n:Int))
 map:∃bm clock,w.cell? ⟨bt,ot+1,none⟩=some (.map (some bm))/\w.heap[bm]? =some (.map es clock)/\EB es clock
 few:n<=1000000
 size:es.size<=1000000
 aBo:∀e∈es.toList,e.val=pN (dv e)/\∃f:Nat,(dv e).fr=(f:Int)/\f<=n
theorem At.below{w w':World}{bt ot n:Nat}{es:Array MapEntry} (h:At w bt ot n es) (hb:Below w.heap.size w w'):At w' bt ot n es:=by
 obtain⟨h1,⟨bm,clock,h2,h3,h4⟩,h5,h6,h7⟩:=h;exact⟨tL h1 hb (TU h1),⟨bm,clock,tL h2 hb (TU h2),(hb.block _ (Array.getElem?_eq_some_iff.1 h3).1).trans h3,h4⟩,h5,h6,h7⟩
theorem At.alloc{w:World}{bt ot n:Nat}{es:Array MapEntry} (h:At w bt ot n es) (o:Obj):At (w.alloc o) bt ot n es:=h.below ((Below.refl _ _).alloc (Nat.le_refl _) _)
theorem QZ (g:FuncId) (cb:Array Value) (p:Vt->Bool){bt ot n:Nat}{es:Array MapEntry}{w:World} (h:At w bt ot n es)
 (eg:∀args w,(callFunc g args).run Tryz.prog w= .ok (.enter g args) w)
 (hg:∀(W:World) (v:Vt),Below w.heap.size w W->Calls Tryz.prog g (#[pN v]++cb) W fun e W'=>e= .returned (.bool (p v))/\Below W.heap.size W W'):
 Calls Tryz.prog 194 #[.pointer (some ⟨bt,ot,none⟩),.func (.func g) #[] cb] w fun e w'=>e= .returned (.int .i64 (mem p n (es.toList.map dv):Int))/\Below w.heap.size w w':=by
 obtain⟨h1,⟨bm,clock,h2,h3,h4⟩,h5,h6,h7⟩:=h;exact Tq g cb p bt ot bm n es clock w h5 h6 h1 h2 h3 h4 h7 eg hg
set_option maxHeartbeats 1000000 in
theorem aER{bt ot n:Nat}{es:Array MapEntry}{w:World} (h:At w bt ot n es) (rd:Int):
 Calls Tryz.prog 168 #[.pointer (some ⟨bt,ot,none⟩),.int .i64 rd] w fun e w'=>e= .returned (.int .i64 (mem (fun v=>v.rd==rd) n (es.toList.map dv):Int))/\Below w.heap.size w w':=by
 have hm:=QZ 211 #[.pointer (some ⟨w.heap.size,0,none⟩)] (fun v=>v.rd==rd) (h.alloc (.cells #[.int .i64 rd] 3)) (enters_of Tryz.func211 (by kernel_rfl) rfl) (fun W v hb=>
  (aMQ v rd w.heap.size W (tL (World.cell?_alloc_new ..) hb (by simp))).mono fun e W' ⟨he,hw⟩=>⟨he,hw▸(Below.refl _ _).alloc (Nat.le_refl _) _⟩)
 go_enter Tryz.func168,Tryz.ntmps168
 go_wp2_with (first | (go_at_call 194;refine hm.mono ?_;clear hm;rintro e w4 ⟨rfl,Ni⟩) | go_in)
 go_ret
 exact⟨rfl,((Below.refl _ _).alloc (Nat.le_refl _) _).trans (Ni.mono (by simp))⟩
set_option maxHeartbeats 1000000 in
theorem aHx{bt ot n:Nat}{es:Array MapEntry}{w:World} (h:At w bt ot n es) (rd kd:Int):
 Calls Tryz.prog 156 #[.pointer (some ⟨bt,ot,none⟩),.int .i64 rd,.int .u8 kd] w fun e w'=>e= .returned (.int .i64 (mem (fun v=>v.rd==rd&&v.kd==kd) n (es.toList.map dv):Int))/\Below w.heap.size w w':=by
 have hm:=QZ 195 #[.pointer (some ⟨w.heap.size,0,none⟩),.pointer (some ⟨w.heap.size+1,0,none⟩)] (fun v=>v.rd==rd&&v.kd==kd) ((h.alloc (.cells #[.int .i64 rd] 3)).alloc (.cells #[.int .u8 kd] 5)) (enters_of Tryz.func195 (by kernel_rfl) rfl) (fun W v hb=>
  (aOJ v rd kd w.heap.size (w.heap.size+1) W (tL (World.cell?_alloc2_first ..) hb (by simp;omega)) (tL (World.cell?_alloc2_new ..) hb (by simp))).mono fun e W' ⟨he,hw⟩=>⟨he,hw▸(Below.refl _ _).alloc (Nat.le_refl _) _⟩)
 go_enter Tryz.func156,Tryz.ntmps156
 go_wp2_with (first | (go_at_call 194;refine hm.mono ?_;clear hm;rintro e w4 ⟨rfl,Ni⟩) | go_in)
 go_ret
 exact⟨rfl,(((Below.refl _ _).alloc (Nat.le_refl _) _).alloc (by simp) _).trans (Ni.mono (by simp;omega))⟩
set_option maxHeartbeats 1000000 in
theorem aCG{bt ot n:Nat}{es:Array MapEntry}{w:World} (h:At w bt ot n es) (rd kd:Int) (tx:ByteArray):
 Calls Tryz.prog 209 #[.pointer (some ⟨bt,ot,none⟩),.int .i64 rd,.int .u8 kd,.string tx] w fun e w'=>e= .returned (.int .i64 (mem (fun v=>v.rd==rd&&v.kd==kd&&v.tx.toList==tx.toList) n (es.toList.map dv):Int))/\Below w.heap.size w w':=by
 have hm:=QZ 228 #[.pointer (some ⟨w.heap.size,0,none⟩),.pointer (some ⟨w.heap.size+1,0,none⟩),.pointer (some ⟨w.heap.size+1+1,0,none⟩)] (fun v=>v.rd==rd&&v.kd==kd&&v.tx.toList==tx.toList) (((h.alloc (.cells #[.int .i64 rd] 3)).alloc (.cells #[.int .u8 kd] 5)).alloc (.cells #[.string tx] 9)) (enters_of Tryz.func228 (by kernel_rfl) rfl) (fun W v hb=>
  (aKm v rd kd tx w.heap.size (w.heap.size+1) (w.heap.size+1+1) W (tL (vE _ (World.cell?_alloc2_first ..)) hb (by simp;omega)) (tL (vE _ (World.cell?_alloc2_new ..)) hb (by simp)) (tL (by rw [show w.heap.size+1+1=((w.alloc (.cells #[.int .i64 rd] 3)).alloc (.cells #[.int .u8 kd] 5)).heap.size by simp];exact World.cell?_alloc_new ..) hb (by simp))).mono fun e W' ⟨he,hw⟩=>⟨he,hw▸(Below.refl _ _).alloc (Nat.le_refl _) _⟩)
 go_enter Tryz.func209,Tryz.ntmps209
 go_wp2_with (first | (go_at_call 194;refine hm.mono ?_;clear hm;rintro e w4 ⟨rfl,Ni⟩) | go_in)
 go_ret
 exact⟨rfl,((((Below.refl _ _).alloc (Nat.le_refl _) _).alloc (by simp) _).alloc (by simp;omega) _).trans (Ni.mono (by simp;omega))⟩
end Go.Proofs.Et
namespace Go.Proofs.Et
open Go Go.RowKit Go.Rm Go.Proofs Go.Shelf
theorem aCN{w w':World}{b r:Nat}{es:Array MapEntry}{clock:Nat}{done todo:List MapEntry} (h:MN w b r es clock done todo) (hk:KeepsWalks w w'):MN w' b r es clock done todo:=by
 obtain⟨hb,hs,⟨seen,c0,hr,hc,ht⟩,hp⟩:=h;exact⟨hk.same b _ hb rfl,hs,⟨seen,c0,hk.same r _ hr rfl,hc,ht⟩,hp⟩
theorem aE1{w:World}{b r:Nat}{es:Array MapEntry}{clock:Nat}{done todo:List MapEntry} (h:MN w b r es clock done todo):∃o:Obj,w.heap[r]? =some o/\o.isWalk=true:=by
 obtain⟨hb,hs,⟨seen,c0,hr,hc,ht⟩,hp⟩:=h;exact⟨_,hr,rfl⟩
attribute [local go_sem] Oper.semAt_some
set_option maxRecDepth 100000 in
set_option maxHeartbeats 1000000 in
theorem aE2 (F:Fence) (n:Nat) (h94:F.fn 184) (pK:F.round=none) (hn:1<=n) (l Bm bm:Nat) (es:Array MapEntry) (clock:Nat) (J Jx:List Vt->World->Prop)
 (hY:∀pre x W,J pre W->pre.length<es.size->YieldAt F (n-1) Tryz.prog l #[pN x] W fun e W'=>
  (e= .returned (.bool true)/\J (pre++[x]) W'/\KeepsWalks W W')\/(e= .returned (.bool false)/\Jx (pre++[x]) W'))
 (W:World) (hJ:AbidesFrom W.heap.size J) (hm:W.cell? ⟨Bm,0,none⟩=some (.map (some bm))) (hb:W.heap[bm]? =some (.map es clock)) (hs:EB es clock) (hv:∀e∈es.toList,e.val=pN (dv e)) (h0:J [] W):
 CallsIn F n Tryz.prog 184 #[.func (.yield l) #[] #[],.pointer (some ⟨Bm,0,none⟩)] W fun e W'=>(∃v,e= .returned v)/\
  ((∃xs,xs.Perm (es.toList.map dv)/\J xs W')\/(∃pre,True/\Jx pre W')):=by
 refine callsIn_of_wp Tryz.func184 rfl h94 ?_ pK;simp only [Tryz.ntmps184,List.size_toArray,List.length_cons,List.length_nil,Nat.reduceAdd,Nat.reduceSub,Array.replicate_succ,Array.replicate_zero,List.push_toArray,List.append_toArray,List.nil_append,List.cons_append]
 gi_wp2_with (first
  | (gi_at_range;refine QY rfl _ 156 rfl 158 94 Tryz.underlying156 rfl hb hs ?_;intro w0 hw0 aON)
  | gi_in)
 go_frame
 gi_loopw [4] (fun _ wr=>∃(done todo:List MapEntry),MN wr bm W.heap.size es clock done todo/\J (done.map dv) wr)
  (fun _ wr=>wr.rangeLeft bm W.heap.size)
 case atStart=>
  exact⟨[],es.toList,aON,hJ [] W w0 none h0 (by rw [hw0];exact World.grownBy_alloc W _ none) (fun r e=>by cases e)⟩
 case round=>
  obtain⟨done,todo,Px,hJs⟩:=hrel
  gi_wp2_with (first
   | (gi_at_next;refine TS rfl _ rfl rfl Px ?_ ?_)
   | gi_in)
  ·intro hc0
   subst hc0
   gi_wp2
   go_end0
   exact⟨⟨_,rfl⟩,.inl ⟨_,by simpa using Px.2.2.2.map dv,hJs⟩⟩
  ·rintro⟨k0,x0,b0⟩ uS w2 hp aOO hg2 Pu hen
   have hx:=hv ⟨k0,x0,b0⟩ ((Px.2.2.2).subset (List.mem_append_right _ (hp.symm.subset List.mem_cons_self)));obtain⟨v,hvd,hx⟩:∃v,dv ⟨k0,x0,b0⟩=v/\x0=pN v:=⟨_,rfl,hx⟩;subst hx;have hJ2:J (done.map dv) w2:=hJ _ wr w2 (some W.heap.size) hJs hg2 (fun r e=>by cases e;exact⟨Nat.le_refl _,aE1 Px⟩);have hJ3:J (done.map dv) (w2.alloc (.cells #[.int .i64 v.fr,.int .i64 v.rd,.int .u8 v.kd,.int .i64 v.va,.string v.tx] 94)):=hJ _ w2 _ none hJ2 (World.grownBy_alloc _ _ none) (fun r e=>by cases e)
   have Ae:done.length<es.size:=by
    have h1:=Px.2.2.2.length_eq;have h2:=hp.length_eq;simp at h1 h2;omega
   obtain⟨fn,tmps,assign,body,hy,hR⟩:=hY (done.map dv) v _ hJ3 (by simpa using Ae);have Ts:(done++[⟨k0,pN v,b0⟩]:List MapEntry).map dv=done.map dv++[v]:=by simp [hvd]
   have HD:=Bj Ts;have HL:=Bj Px.left_eq;have HP:=Bj hp;have aKo:=aOO.kept (World.grownBy_alloc w2 (.cells #[.int .i64 v.fr,.int .i64 v.rd,.int .u8 v.kd,.int .i64 v.va,.string v.tx] 94) none) (by simp) (by simp);clear Ts hvd hp hJ2 hJ3 Ae;dsimp only [pN]at hen hy hR ⊢
   gi_wp2
   refine hR.mono ?_
   rintro e W3 (⟨rfl,hJ3,hk3⟩ | ⟨rfl,aOP⟩)
   ·gi_wp2
    have aMT:=aCN aKo hk3
    go_roundw
    case rel=>exact⟨done++[⟨k0,pN v,b0⟩],uS,aMT,by rw [HD.out];exact hJ3⟩
    case measure=>rw [aMT.left_eq,HL.out,HP.out.length_eq];simp
   ·gi_wp2
    refine bodyPost_ret (results_none rfl _ _ _) rfl ?_;exact⟨⟨_,rfl⟩,.inr ⟨_,trivial,aOP⟩⟩
def gM (v:Vt):List Value:=[.int .i64 v.fr,.int .i64 v.rd,.int .u8 v.kd,.int .i64 v.va,.string v.tx]
theorem aKs:(Tryz.prog.info? 94).map (fun i=>(i.zero,i.size,i.bytes))=some (some (.agg #[.int .i64 0,.int .i64 0,.int .u8 0,.int .i64 0,.string ⟨#[]⟩]),5,48):=by kernel_rfl
theorem Zm (F:Fence) (n:Nat) (h94:F.fn 184) (pK:F.round=none) (hn:1<=n) (Bm bm:Nat) (es:Array MapEntry) (clock:Nat) (w:World) (hBm:Bm<w.heap.size)
 (hm:w.cell? ⟨Bm,0,none⟩=some (.map (some bm))) (hb:w.heap[bm]? =some (.map es clock)) (hs:EB es clock) (hv:∀e∈es.toList,e.val=pN (dv e)):
 SeqStopsK F n Tryz.prog 184 #[.pointer (some ⟨Bm,0,none⟩)] (fun v:Vt=> #[pN v]) KeepsWalks (fun xs=>xs.Perm (es.toList.map dv)) (fun _=>True) es.size w:=fun l J Jx W hW hJ _ hY h0=>
 aE2 F n h94 pK hn l Bm bm es clock J Jx hY W hJ ((hW.cell (p:=⟨Bm,0,none⟩) hBm).trans hm) ((hW.block bm (Array.getElem?_eq_some_iff.1 hb).1).trans hb) hs hv h0
theorem RA (W:World) (v:Vt) (t:TypeId):∀j u,(gM v)[j]? =some u->(W.alloc (.cells #[.int .i64 v.fr,.int .i64 v.rd,.int .u8 v.kd,.int .i64 v.va,.string v.tx] t)).cell? ((⟨W.heap.size,0,none⟩:Addr).add j)=some u:=by
 intro j u hj
 have:(⟨W.heap.size,0,none⟩:Addr).add j=⟨W.heap.size,j,none⟩:=by
  unfold Addr.add;split<;>simp_all
 rw [this,World.cell?_alloc_new];exact(List.getElem?_toArray (xs:=gM v)).trans hj
theorem Ez (v:Vt):∀u∈gM v,u.oneCell'=true:=by
 intro u hu;simp [gM]at hu;rcases hu with rfl | rfl | rfl | rfl | rfl<;>rfl
attribute [local go_sem] Oper.semAt_some
set_option maxRecDepth 100000 in
set_option maxHeartbeats 4000000 in
theorem Nj (F:Fence) (n:Nat) (aOQ:F.fn 220) (h94:F.fn 184) (pK:F.round=none) (hn:3<=n) (Bm bm:Nat) (es:Array MapEntry) (clock:Nat) (w:World) (hsz:es.size<=1000000)
 (hm:w.cell? ⟨Bm,0,none⟩=some (.map (some bm))) (hb:w.heap[bm]? =some (.map es clock)) (hs:EB es clock) (hv:∀e∈es.toList,e.val=pN (dv e)):
 CallsIn F n Tryz.prog 220 #[.slice none 0 0,.func (.func 184) #[] #[.pointer (some ⟨Bm,0,none⟩)]] w fun e W'=>∃(v:Value) (xs:List Vt),e= .returned v/\xs.Perm (es.toList.map dv)/\W'.ownsRow w.heap.size 94 5 v xs.length (xs.flatMap gM)/\(v= .slice none 0 0↔xs=[])/\Below w.heap.size w W':=by
 have h1:1<=n:=by omega
 have hBm:=TU hm;simp only at hBm;obtain⟨i0,hi,hz0,YC,Av⟩:=info_parts aKs;refine callsIn_of_wp_marks Tryz.func220 rfl aOQ ?_ pK;simp only [Tryz.ntmps220,List.size_toArray,List.length_cons,List.length_nil,Nat.reduceAdd,Nat.reduceSub,Array.replicate_succ,Array.replicate_zero,List.push_toArray,List.append_toArray,List.nil_append,List.cons_append]
 gi_wp2
 have bS:=Boxed.new w 66 (.slice none 0 0);have hB0:Below w.heap.size w (w.alloc (.cells #[.slice none 0 0] 66)):=(Below.refl _ w).alloc (Nat.le_refl _) _;have hm0:=vE (.cells #[.slice none 0 0] 66) hm;have hb0:(w.alloc (.cells #[.slice none 0 0] 66)).heap[bm]? =some (.map es clock):=(Below.heap_alloc _ _ _ (Array.getElem?_eq_some_iff.1 hb).1).trans hb;have aOR:(w.alloc (.cells #[.slice none 0 0] 66)).heap.size=w.heap.size+1:=by simp
 have hr0:=World.ownsRow_nil (w.alloc (.cells #[.slice none 0 0] 66)) w.heap.size 94 5;obtain⟨W0,hW0⟩:∃W0,w.alloc (.cells #[.slice none 0 0] 66)=W0:=⟨_,rfl⟩;rw [hW0]at bS hB0 hm0 hb0 aOR hr0 ⊢;clear hW0
 refine wpIn_rangeFunc_ownH pK h1 (gf:=184) (lb:= #[.pointer (some ⟨Bm,0,none⟩)]) rfl h94 (enters_of Tryz.func184 (by kernel_rfl) rfl)
  (Zm F (n-1) h94 pK (by omega) Bm bm es clock W0 (by omega) hm0 hb0 hs hv) walksK_t walksK_b (Below.refl _ _) (fun _=>rfl)
  (fun pre W=>(∃v,Boxed W w.heap.size 66 v/\W.ownsRow w.heap.size 94 5 v pre.length (pre.flatMap gM)/\(v= .slice none 0 0↔pre=[]))/\Below w.heap.size w W)
  (fun _ _ _=>False)
  (OwnFrom.and (Own.from (holdsRow_own w.heap.size w.heap.size 66 94 5 (fun pre:List Vt=>pre.length) (fun pre=>pre.flatMap gM) (fun pre v=>(v= .slice none 0 0↔pre=[]))) _) (ownFrom_below (Nat.le_refl _) (by omega)))
  (fun _ _ _ _ _ hs _ _=>hs)
  ⟨⟨_,bS,hr0,by simp⟩,hB0⟩
  (fun x a' W=>∃Bx,w.heap.size<Bx/\W.heap[Bx]? =some (.cells #[.int .i64 x.fr,.int .i64 x.rd,.int .u8 x.kd,.int .i64 x.va,.string x.tx] 94 (0,0))/\a'={tmps:= #[.slice none 0 0,.func (.func 184) #[] #[.pointer (some ⟨Bm,0,none⟩)],.pointer (some ⟨w.heap.size,0,none⟩),undef,.slice none 0 0,.pointer (some ⟨Bx,0,none⟩),.func (.func 184) #[] #[.pointer (some ⟨Bm,0,none⟩)],pN x,undef,undef,undef,undef,undef],defers:=[]})
  (fun x a' _ X Y row hs hg hr=>by
   obtain⟨Bx,h1,h2,h3⟩:=hs;refine⟨Bx,h1,(hg.block Bx (Array.getElem?_eq_some_iff.1 h2).1 (fun e=>?_)).trans h2,h3⟩;obtain⟨_,o,ho,hc⟩:=hr Bx e.symm;rw [h2]at ho;cases ho;cases hc)
  ?assign ?body ?done ?stop
 case assign=>
  rintro l pre x W K ⟨⟨v,bS1,Iq,IC⟩,Wn⟩ hK
  dsimp only [pN]at hK ⊢
  gi_wp2
  refine hK _ _ ((KeepsOthers.alloc _ _).from _) (KeepsWalks.alloc _ _) ⟨⟨v,bS1.alloc _,Iq.alloc _,IC⟩,Wn.alloc Wn.size _⟩ ⟨W.heap.size,bS1.lt,?_,rfl⟩;exact World.alloc_heap_new W _
 case body=>
  rintro l pre x a' W hl ⟨r,hr⟩ ⟨⟨v,bS1,Iq,_⟩,Wn⟩ ⟨Bx,hBx,bX,rfl⟩ hlt
  have cB:=bS1.cell;have hle:=Wn.size
  have cX:∀j u,(gM x)[j]? =some u->W.cell? ⟨Bx,j,none⟩=some u:=fun j u hj=>by
   unfold World.cell?;simp only [bX];exact(List.getElem?_toArray (xs:=gM x)).trans hj
  have c0:=cX 0 _ rfl;have c1:=cX 1 _ rfl;have c2:=cX 2 _ rfl;have c3:=cX 3 _ rfl;have c4:=cX 4 _ rfl;clear cX;dsimp only [pN]
  gi_wp2_with (first
   | (gi_at_builtin;refine wpListIn_append_own _ rfl _ _ 66 rfl w.heap.size 94 i0 _ 5 48 Tryz.underlying66 hi hz0 YC Av rfl (by decide) _ _ _ rfl (Iq.alloc _) ⟨W.heap.size,0,none⟩ 1 1 (gM x) rfl rfl (RA _ _ _) (Ez x) (by unfold maxLen;omega) (by omega) (by simp;omega) ?_;intro v' w1 aJc aMU _;obtain⟨g',TE,rfl⟩:=ownsRow_succ aJc;obtain⟨hv1,Lu,hr2,tC,OO⟩:=bS1.appended (by decide) Iq hle (Nat.le_refl _) aJc aMU;have hc1:=hv1.cell;have Xr:=hv1.frozen)
   | gi_in)
  refine⟨tC.from _,?_,⟨⟨_,Lu,?_,by simp⟩,Wn.trans OO⟩⟩
  ·exact⟨tC.size,fun k o hk ho=>tC.same k o hk (Obj.not_cells_of_walk ho)⟩
  ·simpa using hr2
 case done=>
  rintro D xs W hD hxs ⟨⟨v,bS1,Iq,IC⟩,Wn⟩ hK
  have cS:=bS1.cell
  gi_wp2
  refine⟨by simp,.inl ⟨_,_,rfl,run_takeDeferred hK,?_⟩⟩;exact⟨_,results_tmp rfl _ _ _,v,xs,rfl,hxs,ownsRow_putObj Iq _ hK rfl,IC,Wn.trans (belowK_b (w:=w) (Nat.le_refl _) W D _ _ (by omega) hK rfl rfl)⟩
 case stop=>
  rintro D c pre W _ _ h _
  exact h.elim
end Go.Proofs.Et
namespace Go.Proofs
open Go.Shelf
def Tryz.cmpInt_ren:Go.Shelf.Ren:=⟨fun | 5=>138 | 7=>185 | n=>n,fun | 22=>3 | 3=>3 | 4=>4 | n=>n,fun | n=>n⟩
theorem Tryz.cmpInt:Go.Proofs.SlLaysC2.n5 Tryz.prog Tryz.cmpInt_ren:={
 mixed:=by kernel_rfl
 f5:=⟨Tryz.f138.name,by decide,Tryz.func138.trans (congrArg some (by kernel_rfl))⟩
 f7:=⟨Tryz.f185.name,by decide,Tryz.func185.trans (congrArg some (by kernel_rfl))⟩
 t3:=Tryz.underlying3
 a3:=Tryz.isAgg3
 z3:=Tryz.sizeOf3
 v3:=Tryz.zeroValue3
 t4:=Tryz.underlying4
 a4:=Tryz.isAgg4
 z4:=Tryz.sizeOf4
 v4:=Tryz.zeroValue4
 t22:=Tryz.underlying3
 a22:=Tryz.isAgg3
 z22:=Tryz.sizeOf3
 v22:=Tryz.zeroValue3}
def Tryz.sortV_ren:Go.Shelf.Ren:=⟨fun | 6=>183 | 15=>99 | 14=>221 | 28=>149 | 29=>150 | 20=>233 | 21=>234 | 22=>235 | 23=>236 | 24=>237 | 25=>238 | 26=>239 | 27=>240 | 46=>243 | 47=>188 | 48=>189 | 49=>244 | 50=>245 | 57=>246 | n=>n,fun | 22=>66 | 24=>94 | 25=>164 | 3=>3 | 39=>40 | 0=>0 | 53=>175 | 55=>29 | 4=>4 | 46=>167 | 45=>166 | 50=>172 | 5=>5 | 9=>9 | 66=>202 | 70=>206 | 76=>229 | 77=>230 | n=>n,fun | n=>n⟩
theorem Tryz.sortV:Go.Proofs.SlLaysF0.n6 Tryz.prog Tryz.sortV_ren:={
 mixed:=by kernel_rfl
 f6:=⟨Tryz.f183.name,by decide,Tryz.func183.trans (congrArg some (by kernel_rfl))⟩
 f14:=⟨Tryz.f221.name,by decide,Tryz.func221.trans (congrArg some (by kernel_rfl))⟩
 f15:=Tryz.func99.trans (congrArg some (by kernel_rfl))
 f20:=⟨Tryz.f233.name,by decide,Tryz.func233.trans (congrArg some (by kernel_rfl))⟩
 f21:=⟨Tryz.f234.name,by decide,Tryz.func234.trans (congrArg some (by kernel_rfl))⟩
 f22:=⟨Tryz.f235.name,by decide,Tryz.func235.trans (congrArg some (by kernel_rfl))⟩
 f23:=⟨Tryz.f236.name,by decide,Tryz.func236.trans (congrArg some (by kernel_rfl))⟩
 f24:=⟨Tryz.f237.name,by decide,Tryz.func237.trans (congrArg some (by kernel_rfl))⟩
 f25:=⟨Tryz.f238.name,by decide,Tryz.func238.trans (congrArg some (by kernel_rfl))⟩
 f26:=⟨Tryz.f239.name,by decide,Tryz.func239.trans (congrArg some (by kernel_rfl))⟩
 f27:=⟨Tryz.f240.name,by decide,Tryz.func240.trans (congrArg some (by kernel_rfl))⟩
 f28:=Tryz.func149.trans (congrArg some (by kernel_rfl))
 f29:=Tryz.func150.trans (congrArg some (by kernel_rfl))
 f46:=⟨Tryz.f243.name,by decide,Tryz.func243.trans (congrArg some (by kernel_rfl))⟩
 f47:=Tryz.func188.trans (congrArg some (by kernel_rfl))
 f48:=Tryz.func189.trans (congrArg some (by kernel_rfl))
 f49:=⟨Tryz.f244.name,by decide,Tryz.func244.trans (congrArg some (by kernel_rfl))⟩
 f50:=⟨Tryz.f245.name,by decide,Tryz.func245.trans (congrArg some (by kernel_rfl))⟩
 f57:=⟨Tryz.f246.name,by decide,Tryz.func246.trans (congrArg some (by kernel_rfl))⟩
 t0:=Tryz.underlying0
 a0:=Tryz.isAgg0
 z0:=Tryz.sizeOf0
 v0:=Tryz.zeroValue0
 t3:=Tryz.underlying3
 a3:=Tryz.isAgg3
 z3:=Tryz.sizeOf3
 v3:=Tryz.zeroValue3
 t4:=Tryz.underlying4
 a4:=Tryz.isAgg4
 z4:=Tryz.sizeOf4
 v4:=Tryz.zeroValue4
 t5:=Tryz.underlying5
 a5:=Tryz.isAgg5
 z5:=Tryz.sizeOf5
 v5:=Tryz.zeroValue5
 t9:=Tryz.underlying9
 a9:=Tryz.isAgg9
 z9:=Tryz.sizeOf9
 v9:=Tryz.zeroValue9
 t22:=Tryz.underlying66
 a22:=Tryz.isAgg66
 z22:=Tryz.sizeOf66
 v22:=Tryz.zeroValue66
 t25:=Tryz.underlying164
 a25:=Tryz.isAgg164
 z25:=Tryz.sizeOf164
 v25:=Tryz.zeroValue164
 t39:=Tryz.underlying40
 a39:=Tryz.isAgg40
 z39:=Tryz.sizeOf40
 v39:=Tryz.zeroValue40
 t45:=Tryz.underlying166
 a45:=Tryz.isAgg166
 z45:=Tryz.sizeOf166
 v45:=Tryz.zeroValue166
 t46:=Tryz.underlying167
 a46:=Tryz.isAgg167
 z46:=Tryz.sizeOf167
 v46:=Tryz.zeroValue167
 t50:=Tryz.underlying172
 a50:=Tryz.isAgg172
 z50:=Tryz.sizeOf172
 v50:=Tryz.zeroValue172
 t53:=Tryz.underlying175
 a53:=Tryz.isAgg175
 z53:=Tryz.sizeOf175
 v53:=Tryz.zeroValue175
 t55:=Tryz.underlying29
 a55:=Tryz.isAgg29
 z55:=Tryz.sizeOf29
 v55:=Tryz.zeroValue29
 t66:=Tryz.underlying202
 a66:=Tryz.isAgg202
 z66:=Tryz.sizeOf202
 v66:=Tryz.zeroValue202
 t70:=Tryz.underlying206
 a70:=Tryz.isAgg206
 z70:=Tryz.sizeOf206
 v70:=Tryz.zeroValue206
 t76:=Tryz.underlying229
 a76:=Tryz.isAgg229
 z76:=Tryz.sizeOf229
 v76:=Tryz.zeroValue229
 t77:=Tryz.underlying230
 a77:=Tryz.isAgg230
 z77:=Tryz.sizeOf230
 v77:=Tryz.zeroValue230}
end Go.Proofs
namespace Go.Proofs.Et
open Go Go.RowKit Go.Rm Go.Proofs Go.Shelf Go.Lib
set_option maxHeartbeats 1000000 in
theorem cmpInt (a b:Int) (w:World):Calls Tryz.prog 138 #[.int .i64 a,.int .i64 b] w fun e w'=>e= .returned (.int .i64 (Lib.compareInt a b))/\w=w':=by
 have TV:=AnyG.cmp_Compare_int Tryz.cmpInt a b w;change Calls Tryz.prog 138 _ _ _ at TV;exact TV.mono fun _ _ ⟨h1,h2⟩=>⟨h1,h2.symm⟩
set_option maxHeartbeats 1000000 in
theorem aMV (a b:Int) (w:World):Calls Tryz.prog 139 #[.int .u8 a,.int .u8 b] w fun e w'=>e= .returned (.int .i64 (Lib.compareInt a b))/\w=w':=by
 go_enter Tryz.func139,Tryz.ntmps139
 go_wp2
 all_goals
  go_ret
  refine⟨TT ?_,rfl⟩;unfold Lib.compareInt
  (repeat' split)<;>first | rfl | omega
def or3 (a b c:Int):Int:=if a≠0 then a else if b≠0 then b else c
set_option maxHeartbeats 1000000 in
theorem aMW (a b c:Int) (B:Nat) (w:World) (h0:w.cell? ⟨B,0,none⟩=some (.int .i64 a)) (h1:w.cell? ⟨B,1,none⟩=some (.int .i64 b)) (h2:w.cell? ⟨B,2,none⟩=some (.int .i64 c)):
 Calls Tryz.prog 137 #[.slice (some ⟨B,0,none⟩) 3 3] w fun e w'=>e= .returned (.int .i64 (or3 a b c))/\w=w':=by
 by_cases ha:a=0
 ·by_cases hb:b=0
  ·by_cases hc:c=0
   ·subst ha;subst hb;subst hc
    go_enter Tryz.func137,Tryz.ntmps137
    go_wp2
    refine wp_loop_rounds 4 ?_;rw [rounds_succ]
    go_wp2
    rw [rounds_succ]
    go_wp2
    rw [rounds_succ]
    go_wp2
    rw [rounds_succ]
    go_wp2
    go_ret
    exact⟨rfl,rfl⟩
   ·subst ha;subst hb
    have hc':(c != 0)=true:=by simp [hc]
    have H:=Bj hc;clear hc
    go_enter Tryz.func137,Tryz.ntmps137
    go_wp2
    refine wp_loop_rounds 3 ?_;rw [rounds_succ]
    go_wp2
    rw [rounds_succ]
    go_wp2
    rw [rounds_succ]
    go_wp2
    go_ret
    exact⟨TT (by simp [or3]),rfl⟩
  ·subst ha
   have PC:(b != 0)=true:=by simp [hb]
   have H:=Bj hb;clear hb
   go_enter Tryz.func137,Tryz.ntmps137
   go_wp2
   refine wp_loop_rounds 2 ?_;rw [rounds_succ]
   go_wp2
   rw [rounds_succ]
   go_wp2
   go_ret
   exact⟨TT (by simp [or3,H.out]),rfl⟩
 ·have ha':(a != 0)=true:=by simp [ha]
  have H:=Bj ha;clear ha
  go_enter Tryz.func137,Tryz.ntmps137
  go_wp2
  refine wp_loop_rounds 1 ?_;rw [rounds_succ]
  go_wp2
  go_ret
  exact⟨TT (by simp [or3,H.out]),rfl⟩
end Go.Proofs.Et
namespace Go.Proofs.Et
open Go Go.RowKit Go.Rm Go.Proofs Go.Shelf Go.Lib Go.Sort
theorem MO{P:Program}{f:FuncId}{args:Array Value}{w:World}{v:Value} (h:Calls P f args w fun e w'=>e= .returned v/\w=w'):Calls P f args w (fun e w''=>e= .returned v/\w''=w):=h.mono fun _ _ ⟨a,b⟩=>⟨a,b.symm⟩
def cf (x y:Vt):Int:=or3 (Lib.compareInt x.rd y.rd) (Lib.compareInt x.fr y.fr) (Lib.compareInt x.kd y.kd)
set_option maxRecDepth 100000 in
set_option maxHeartbeats 1000000 in
theorem aCO (x y:Vt) (W:World):Calls Tryz.prog 136 #[pN x,pN y] W fun e w'=>e= .returned (.int .i64 (cf x y))/\∃q os',w'=grow (W.drewN q) os':=by
 unfold pN cf;have hc1:=fun W=>MO (cmpInt x.rd y.rd W);have hc2:=fun W=>MO (cmpInt x.fr y.fr W);have hc3:=fun W=>MO (aMV x.kd y.kd W);generalize Lib.compareInt x.rd y.rd=r1 at hc1 ⊢;generalize Lib.compareInt x.fr y.fr=r2 at hc2 ⊢;generalize Lib.compareInt x.kd y.kd=r3 at hc3 ⊢
 go_enter Tryz.func136,Tryz.ntmps136
 go_wp2
 have cx:=RA W x 94;have cy:=RA (W.alloc (.cells #[.int .i64 x.fr,.int .i64 x.rd,.int .u8 x.kd,.int .i64 x.va,.string x.tx] 94)) y 94;have hW2:∃W2,((W.alloc (.cells #[.int .i64 x.fr,.int .i64 x.rd,.int .u8 x.kd,.int .i64 x.va,.string x.tx] 94)).alloc (.cells #[.int .i64 y.fr,.int .i64 y.rd,.int .u8 y.kd,.int .i64 y.va,.string y.tx] 94))=W2:=⟨_,rfl⟩;obtain⟨W2,hW2⟩:=hW2;have x0:W2.cell? ⟨W.heap.size,0,none⟩=some (.int .i64 x.fr):=by rw [<-hW2];exact vE _ (cx 0 _ rfl)
 have x1:W2.cell? ⟨W.heap.size,1,none⟩=some (.int .i64 x.rd):=by rw [<-hW2];exact vE _ (cx 1 _ rfl)
 have x2:W2.cell? ⟨W.heap.size,2,none⟩=some (.int .u8 x.kd):=by rw [<-hW2];exact vE _ (cx 2 _ rfl)
 have y0:W2.cell? ⟨W.heap.size+1,0,none⟩=some (.int .i64 y.fr):=by rw [<-hW2];simp
 have y1:W2.cell? ⟨W.heap.size+1,1,none⟩=some (.int .i64 y.rd):=by rw [<-hW2];simp
 have y2:W2.cell? ⟨W.heap.size+1,2,none⟩=some (.int .u8 y.kd):=by rw [<-hW2];simp
 rw [hW2];have HW2:=Bj hW2;have hsz:W2.heap.size=W.heap.size+2:=by rw [<-hW2];simp
 clear cx cy hW2;refine wp_region_still_tail 15 (by kernel_rfl) (by kernel_rfl) ?_;change wpStill _ _ W2.drew _ _ _;have x0':W2.drew.cell? ⟨W.heap.size,0,none⟩=some (.int .i64 x.fr):=x0;have x1':W2.drew.cell? ⟨W.heap.size,1,none⟩=some (.int .i64 x.rd):=x1;have x2':W2.drew.cell? ⟨W.heap.size,2,none⟩=some (.int .u8 x.kd):=x2;have y0':W2.drew.cell? ⟨W.heap.size+1,0,none⟩=some (.int .i64 y.fr):=y0;have y1':W2.drew.cell? ⟨W.heap.size+1,1,none⟩=some (.int .i64 y.rd):=y1;have y2':W2.drew.cell? ⟨W.heap.size+1,2,none⟩=some (.int .u8 y.kd):=y2;have Sh:W2.drew.heap.size=W.heap.size+2:=hsz;clear x0 x1 x2 y0 y1 y2 hsz;obtain⟨W3,hW3⟩:∃W3,W2.drew=W3:=⟨_,rfl⟩;rw [hW3]at x0' x1' x2' y0' y1' y2' Sh ⊢;have HW3:=Bj hW3;clear hW3;have HS:=Bj Sh;clear Sh;simp only [List.take_succ_cons,List.take_zero,List.drop_succ_cons,List.drop_zero]
 repeat still_step
 still_call (hc1 W3)
 repeat still_step
 still_call (hc2 W3)
 repeat still_step
 still_call (hc3 W3)
 repeat still_step
 try refine wpStill_nil ?_
 have hOr:=aMW r1 r2 r3 W2.heap.size (W2.alloc (.cells #[.int .i64 r1,.int .i64 r2,.int .i64 r3] 3)).drew (World.cell?_alloc_new ..) (World.cell?_alloc_new ..) (World.cell?_alloc_new ..)
 go_wp2_with (first | (go_at_call 137;refine hOr.mono ?_;clear hOr;rintro e w' ⟨rfl,rfl⟩) | go_in)
 go_ret
 exact⟨rfl,1,_,by rw [<-HW2.out,alloc_eq_grow,alloc_eq_grow,alloc_eq_grow,drew_grow,drew_grow,drew_grow,grow_grow,grow_grow];rfl⟩
def Wm (x y:Vt):Bool:=decide (x.rd<y.rd\/(x.rd=y.rd/\(x.fr<y.fr\/(x.fr=y.fr/\x.kd<y.kd))))
theorem aBu (x y:Vt):ltOf cf x y=Wm x y:=by
 unfold ltOf cf or3 Wm Lib.compareInt;by_cases h1:x.rd<y.rd
 ·simp [h1]
 ·by_cases h2:y.rd<x.rd
  ·have h3:¬x.rd=y.rd:=by omega
   simp [h1,h2,h3]
  ·have h3:x.rd=y.rd:=by omega
   by_cases h4:x.fr<y.fr
   ·simp [h3,h4]
   ·by_cases h5:y.fr<x.fr
    ·have h6:¬x.fr=y.fr:=by omega
     simp [h3,h4,h5,h6]
    ·have h6:x.fr=y.fr:=by omega
     by_cases h7:x.kd<y.kd
     ·simp [h3,h6,h7]
     ·by_cases h8:y.kd<x.kd<;>simp [h3,h6,h7,h8]
theorem Bi (x y:Vt):Wm x y=true↔(x.rd<y.rd\/(x.rd=y.rd/\(x.fr<y.fr\/(x.fr=y.fr/\x.kd<y.kd)))):=by unfold Wm;simp
theorem aBv (x y:Vt):Wm x y=false↔(y.rd<x.rd\/(x.rd=y.rd/\(y.fr<x.fr\/(x.fr=y.fr/\y.kd<=x.kd)))):=by
 unfold Wm;simp only [decide_eq_false_iff_not];omega
theorem aOS:SWO (ltOf cf)where
 irrefl x:=by rw [aBu,aBv];omega
 trans x y z h1 h2:=by rw [aBu,Bi]at*;omega
 ntrans x y z h1 h2:=by rw [aBu,aBv]at*;omega
theorem Tt:∀(l:List Vt) (t:Nat),t<l.length*5->(l.flatMap gM)[t]? =some ((gM (l.toArray[t / 5]!))[t%5]!):=by
 intro l;induction l with
 | nil=>intro t h;simp at h
 | cons v l ih=>
  intro t h;rw [List.flatMap_cons];have hl:(gM v).length=5:=rfl;by_cases ht:t<5
  ·rw [List.getElem?_append_left (by omega)]
   have h1:t / 5=0:=by omega
   have h2:t%5=t:=by omega
   rw [h1,h2];have:((v::l).toArray)[0]! =v:=by simp
   rw [this];rw [List.getElem?_eq_getElem (by omega),getElem!_pos _ _ (by omega)]
  ·rw [List.getElem?_append_right (by omega),hl,ih (t-5) (by simp at h;omega)]
   have h1:t / 5=(t-5) / 5+1:=by omega
   have h2:t%5=(t-5)%5:=by omega
   rw [h1,h2];have:((v::l).toArray)[(t-5) / 5+1]! =l.toArray[(t-5) / 5]! :=by simp
   rw [this]
theorem LQ (l:List Vt):(l.flatMap gM).length=l.length*5:=by
 induction l with
 | nil=>rfl
 | cons v l ih=>rw [List.flatMap_cons,List.length_append,ih,List.length_cons];simp [gM];omega
theorem aE3{ys:List Vt} (hso:ys.Pairwise fun x y=>Wm x y=true){a b:Vt} (ha:a∈ys) (hb:b∈ys):a=b\/Wm a b=true\/Wm b a=true:=by
 obtain⟨i,hi,rfl⟩:=List.getElem_of_mem ha;obtain⟨j,hj,rfl⟩:=List.getElem_of_mem hb;rw [List.pairwise_iff_getElem]at hso;rcases Nat.lt_trichotomy i j with h | h | h
 ·exact .inr (.inl (hso i j hi hj h))
 ·subst h;exact .inl rfl
 ·exact .inr (.inr (hso j i hj hi h))
set_option maxHeartbeats 1000000 in
theorem aE4 (Ag cap:Nat) (xs ys:List Vt) (W:World) (base:Nat) (aCI:W.ownsRow base 94 5 (.slice (some ⟨Ag,0,none⟩) xs.length cap) xs.length (xs.flatMap gM)) (hsz:xs.length<4611686018427387904)
 (hys:ys.Perm xs) (hso:ys.Pairwise fun x y=>Wm x y=true):
 Calls Tryz.prog 183 #[.slice (some ⟨Ag,0,none⟩) xs.length cap,.func (.func 136) #[] #[]] W fun e W'=>e= .returned (.tuple #[])/\W'.ownsRow base 94 5 (.slice (some ⟨Ag,0,none⟩) xs.length cap) ys.length (ys.flatMap gM)/\Below base W W':=by
 obtain⟨_,h | ⟨gg,cp,cur,he,tH,QV,Xn,hcm,vL,htk⟩⟩:=aCI
 ·cases h.1
 ·injection he with Me he2 he3
  injection Me with Me;injection Me with Me;subst Me he3
  have hH:HoldsK gM 5 W Ag 0 xs.toArray:=by
   intro j hj;rw [size_flatK]at hj;rw [get_flatK _ _ _ _ hj];simp at hj;have hg:=Tt xs j hj;rw [<-htk,List.getElem?_take,if_pos hj]at hg;have Zn:cur[j]? =some ((gM (xs.toArray[j / 5]!))[j%5]!):=by simpa using hg
   constructor
   ·unfold World.cell?;simp only [QV];simpa using Zn
   ·unfold World.frozen?;simp only [QV];simp
  have eg:∀args w,(callFunc 136 args).run Tryz.prog w= .ok (.enter 136 args) w:=enters_of Tryz.func136 (by kernel_rfl) rfl;have TV:=AnyQ.slices_SortFunc Tryz.sortV 5 Tryz.isAgg94 Tryz.sizeOf94 gM (fun _=>rfl) (fun v=>Ez v) cf aOS 136 #[] Ag 0 cap xs.toArray W eg (fun _ _ _ _ x y=>aCO x y _) hH (Array.getElem?_eq_some_iff.1 QV).1 (by simpa using hsz);change Calls Tryz.prog 183 _ _ _ at TV;refine Calls.mono TV ?_
  rintro e w' ⟨rfl,d',n,os,hp,hs,rfl⟩
  obtain⟨hds,_,Jm⟩:=hp;have e1:d'.extract 0 xs.toArray.size=d':=by rw [<-hds];exact Array.extract_size
  rw [e1,Array.extract_size]at Jm
  have hd:d'.toList=ys:=by
   refine List.Perm.eq_of_pairwise (le:=fun x y=>Wm y x=false) ?_ ?_ ?_ (Jm.trans hys.symm)
   ·intro a b ha hb h1 h2
    rcases aE3 hso (hys.symm.subset (by simpa using Jm.subset ha)) hb with h | h | h
    ·exact h
    ·rw [h]at h2;cases h2
    ·rw [h]at h1;cases h1
   ·rw [List.pairwise_iff_getElem]
    intro i j hi hj KE;have OM:i<d'.size:=by simpa using hi
    have YH:j<d'.size:=by simpa using hj
    have:=hs i j (Nat.zero_le _) KE (by omega);rw [getElem!_pos d' j YH,getElem!_pos d' i OM,aBu]at this;simpa using this
   ·refine hso.imp fun {a b} h=>?_
    cases hba:Wm b a with
    | false=>rfl
    | true=>rw [Bi]at h hba;omega
  have hlen:ys.length=xs.length:=hys.length_eq;have hbl:=(Array.getElem?_eq_some_iff.1 QV).1
  have oT:(putRowK gM 5 (Go.Sort.ahead W n) Ag 0 d').heap[Ag]? =some (.cells (putCells id 0 (flatK gM 5 d') cur) 94 (0,0)):=by
   show((Go.Sort.ahead W n).heap.modify Ag _)[Ag]? =_;rw [Array.getElem?_modify,if_pos rfl];show Option.map _ W.heap[Ag]? =_;rw [QV];rfl
  have hgr:∀k,k<W.heap.size->(sortWorldK gM 5 W Ag 0 n d' os).heap[k]? =(putRowK gM 5 (Go.Sort.ahead W n) Ag 0 d').heap[k]? :=by
   intro k hk;show((putRowK gM 5 (Go.Sort.ahead W n) Ag 0 d').heap++os)[k]? =_;rw [Array.getElem?_append_left];show k<(W.heap.modify Ag _).size;rw [Array.size_modify];exact hk
  have aOT:∀k,k≠Ag->(putRowK gM 5 (Go.Sort.ahead W n) Ag 0 d').heap[k]? =W.heap[k]? :=by
   intro k hk;show(W.heap.modify Ag _)[k]? =_;rw [Array.getElem?_modify,if_neg (Ne.symm hk)]
  refine⟨rfl,⟨LQ _,.inr ⟨Ag,cap,_,by rw [hlen],tH,(hgr Ag hbl).trans oT,by omega,hcm,by simp [putCells,vL],?_⟩⟩,rfl,rfl,rfl,?_,fun k hk=>(hgr k (by omega)).trans (aOT k (by omega))⟩
  ·have hfs:(flatK gM 5 d').size=ys.length*5:=by rw [size_flatK,<-hd];simp
   apply List.ext_getElem?;intro t;rw [List.getElem?_take];by_cases ht:t<ys.length*5
   ·rw [if_pos ht]
    have hg:=Tt ys t ht;rw [hg];have htc:t<cur.size:=by rw [vL];have:xs.length*5<=cap*5:=Nat.mul_le_mul_right _ Xn;omega
    have:(putCells id 0 (flatK gM 5 d') cur)[t]? =some ((flatK gM 5 d')[t]!):=by
     unfold putCells;rw [Array.getElem?_mapIdx,Array.getElem?_eq_getElem htc];simp [hfs,ht]
    rw [Array.getElem?_toList,this,get_flatK _ _ _ _ (by rw [<-hfs,size_flatK]at ht;exact ht)];have:d'=ys.toArray:=by rw [<-hd]
    rw [this]
   ·rw [if_neg ht,List.getElem?_eq_none (by rw [LQ];omega)]
  ·show W.heap.size<=((W.heap.modify Ag _)++os).size
   rw [Array.size_append,Array.size_modify];omega
theorem Nk{W:World}{base SM:Nat}{e:TypeId}{size:Nat}{v:Value}{n:Nat}{xs:List Value} (h:W.ownsRow base e size v n xs) (hb:SM<=base):W.ownsRow SM e size v n xs:=by
 obtain⟨h1,h | ⟨g,cap,cur,h2,h3,h5⟩⟩:=h
 ·exact⟨h1,.inl h⟩
 ·exact⟨h1,.inr ⟨g,cap,cur,h2,Nat.le_trans hb h3,h5⟩⟩
set_option maxHeartbeats 1000000 in
theorem Tu (Bm bm:Nat) (es:Array MapEntry) (clock:Nat) (w:World) (hsz:es.size<=1000000)
 (hm:w.cell? ⟨Bm,0,none⟩=some (.map (some bm))) (hb:w.heap[bm]? =some (.map es clock)) (hs:EB es clock) (hv:∀e∈es.toList,e.val=pN (dv e)):
 Calls Tryz.prog 182 #[.func (.func 184) #[] #[.pointer (some ⟨Bm,0,none⟩)]] w fun e W'=>∃(v:Value) (xs:List Vt),e= .returned v/\xs.Perm (es.toList.map dv)/\W'.ownsRow w.heap.size 94 5 v xs.length (xs.flatMap gM)/\(v= .slice none 0 0↔xs=[])/\Below w.heap.size w W':=by
 have TV:=(callsIn_wide (n:=3)).1 (Nj _ 3 trivial trivial rfl (by omega) Bm bm es clock w hsz hm hb hs hv)
 go_enter Tryz.func182,Tryz.ntmps182
 go_wp2_with (first | (go_at_call 220;refine TV.mono ?_;clear TV;rintro e w' ⟨v,xs,rfl,h1,h2,IC,h3⟩) | go_in)
 go_ret
 exact⟨v,xs,rfl,h1,h2,IC,h3⟩
set_option maxHeartbeats 1000000 in
theorem Zo (Bm bm:Nat) (es:Array MapEntry) (clock:Nat) (w:World) (hsz:es.size<=1000000)
 (hm:w.cell? ⟨Bm,0,none⟩=some (.map (some bm))) (hb:w.heap[bm]? =some (.map es clock)) (hs:EB es clock) (hv:∀e∈es.toList,e.val=pN (dv e))
 (ys:List Vt) (hys:ys.Perm (es.toList.map dv)) (hso:ys.Pairwise fun x y=>Wm x y=true):
 Calls Tryz.prog 134 #[.func (.func 184) #[] #[.pointer (some ⟨Bm,0,none⟩)],.func (.func 136) #[] #[]] w fun e W'=>∃v:Value,e= .returned v/\W'.ownsRow w.heap.size 94 5 v ys.length (ys.flatMap gM)/\(v= .slice none 0 0↔ys=[])/\Below w.heap.size w W':=by
 have TV:=Tu Bm bm es clock w hsz hm hb hs hv;have hlen:ys.length=es.size:=by rw [hys.length_eq];simp
 go_enter Tryz.func134,Tryz.ntmps134
 go_wp2_with (first | (go_at_call 182;refine TV.mono ?_;clear TV;rintro e w' ⟨v,xs,rfl,h1,h2,IC,h3⟩) | fail)
 have hyx:ys.Perm xs:=hys.trans h1.symm;have hxl:=hyx.length_eq;rcases h2.2 with ⟨rfl,h0⟩ | ⟨g,cap,cur,rfl,_⟩
 ·have hns:=AnyF.slices_SortFunc_none Tryz.sortV none 0 (.func (.func 136) #[] #[]) w'
  change Calls Tryz.prog 183 _ _ _ at hns;have ON:ys=[]:=List.eq_nil_of_length_eq_zero (by omega)
  go_wp2_with (first | (go_at_call 183;refine hns.mono ?_;clear hns;rintro e w1 ⟨rfl,rfl⟩) | go_in)
  go_ret
  exact⟨_,rfl,by rw [ON];exact World.ownsRow_nil _ _ _ _,by simp [ON],h3⟩
 ·have hns:=aE4 g cap xs ys w' w.heap.size h2 (by omega) hyx hso
  have HX:=Bj hxl;clear hxl hlen
  go_wp2_with (first | (go_at_call 183;refine hns.mono ?_;clear hns;rintro e w1 ⟨rfl,h4,h5⟩) | go_in)
  go_ret
  exact⟨_,rfl,h4,⟨fun h=>(nomatch h),fun h=>(by rw [h]at hyx;have:=IC.2 hyx.symm.eq_nil;cases this)⟩,h3.trans h5⟩
set_option maxHeartbeats 1000000 in
theorem aCH{bt ot n:Nat}{es:Array MapEntry}{w:World} (h:At w bt ot n es) (ys:List Vt) (hys:ys.Perm (es.toList.map dv)) (hso:ys.Pairwise fun x y=>Wm x y=true):
 Calls Tryz.prog 97 #[.pointer (some ⟨bt,ot,none⟩)] w fun e W'=>∃v:Value,e= .returned v/\W'.ownsRow w.heap.size 94 5 v ys.length (ys.flatMap gM)/\(v= .slice none 0 0↔ys=[])/\Below w.heap.size w W':=by
 obtain⟨h1,⟨bm,clock,h2,h3,h4⟩,h5,h6,h7⟩:=h;have TV:=Zo w.heap.size bm es clock (w.alloc (.cells #[.map (some bm)] 156)) h6 (World.cell?_alloc_new ..) ((Below.heap_alloc _ _ _ (Array.getElem?_eq_some_iff.1 h3).1).trans h3) h4 (fun e he=>(h7 e he).1) ys hys hso
 go_enter Tryz.func97,Tryz.ntmps97
 go_wp2_with (first | (go_at_call 134;refine TV.mono ?_;clear TV;rintro e w' ⟨v,rfl,q1,qn,q2⟩) | go_in)
 go_ret
 exact⟨_,rfl,Nk q1 (by simp),qn,((Below.refl _ _).alloc (Nat.le_refl _) _).trans (q2.mono (by simp))⟩
end Go.Proofs.Et
namespace Go.Am
open Go.RowKit Go.MapKept Go.Proofs Go.Proofs.Et Go.Rm
def HH (v:Value) (z:Bool) (k:Nat->Int->Int->List UInt8->Bool):Bool:=
 match v with
 | .agg ⟨[.int .i64 (.ofNat f),.int .i64 r,.int .u8 q,.int .i64 _,.string s]⟩=>k f r q s.data.toList
 | _=>z
def aMN (n c:Nat) (es:List MapEntry):Bool:=
 fE (β:=Nat->Bool) (fun _=>true) (fun e _ ih lo=>match Nat.ble lo e.born,Nat.blt e.born c,HH e.val false (fun f _ _ _=>Nat.ble f n)with
  | true,true,true=>ih (Nat.succ e.born)
  | _,_,_=>false) es 0
def MM (S:St) (v:Value) (k:Nat->List MapEntry->Bool):Bool:=
 match v with
 | .pointer (some ⟨i,o,none⟩)=>BS S i o 2 fun l=>match l with
  | [.int .i64 (.ofNat n),.map (some m)]=>nV S.h m fun ob=>match ob with
   | .map es c=>zZ es fun q=>match Nat.ble n 1000000,Nat.ble q 1000000,aMN n c es with
    | true,true,true=>k n es
    | _,_,_=>false
   | _=>false
  | _=>false
 | _=>false
theorem aEP{v:Value}{n:Nat} (h:HH v false (fun f _ _ _=>Nat.ble f n)=true):v=pN (dec v)/\iZ v=true/\∃f:Nat,(dec v).fr=(f:Int)/\f<=n:=by
 unfold HH at h;split at h
 ·rename_i f r q va s
  exact⟨rfl,rfl,f,rfl,by simpa using h⟩
 ·cases h
theorem aHu:∀{es:List MapEntry} {n c lo:Nat},(fE (β:=Nat->Bool) (fun _=>true) (fun e _ ih lo=>match Nat.ble lo e.born,Nat.blt e.born c,HH e.val false (fun f _ _ _=>Nat.ble f n)with
 | true,true,true=>ih (Nat.succ e.born)
 | _,_,_=>false) es lo)=true->(∀e∈es,lo<=e.born/\e.born<c/\e.val=pN (dv e)/\iZ e.val=true/\∃f:Nat,(dv e).fr=(f:Int)/\f<=n)/\(es.map (·.born)).Nodup:=by
 intro es;induction es with
 | nil=>intro n c lo _;simp
 | cons e es ih=>
  intro n c lo h;rw [aO]at h;split at h
  ·rename_i h1 h2 h3
   obtain⟨g1,g2⟩:=ih h;obtain⟨k1,k0,k2⟩:=aEP h3;have h1':lo<=e.born:=by simpa using h1
   have h2':e.born<c:=by
    have:=h2;simp only [Nat.blt_eq]at this;exact this
   refine⟨fun x hx=>?_,?_⟩
   ·rcases cO.1 hx with rfl | hx
    ·exact⟨h1',h2',k1,k0,k2⟩
    ·obtain⟨q1,q2⟩:=g1 x hx
     exact⟨by omega,q2⟩
   ·simp only [vK,QC]
    refine⟨fun hm=>?_,g2⟩;obtain⟨x,hx,hb⟩:=mA.1 hm;have:=(g1 x hx).1;omega
  ·cases h
section
variable{w0:World}{U:Rn}{S:St}{w:World}
theorem aHv{l l':List MapEntry} (h:fN U l l') (hf:∀e∈l,iZ e.val=true):l'=l:=by
 apply uH;intro k;cases hk:l[k]? with
 | none=>
  rw [List.getElem?_eq_none_iff]at*;rw [<-h.1];exact hk
 | some e=>
  have hlt:k<l'.length:=by rw [<-h.1];exact(cZ.1 hk).1
  rw [aS hlt];obtain⟨h1,_,h3,h4⟩:=h.2 k e l'[k] hk (aS hlt);have h5:=h4.Qn (hf e (rB hk))
  congr 1
  cases hx:l'[k];rw [hx]at h1 h3 h5;cases e;simp at*;exact⟨h1,h5,h3⟩
theorem FP{v v':Value}{k:Nat->List MapEntry->Bool} (hk:MM S v k=true) (h:Rel Tryz.prog w0 U S w) (hv:VR U v v'):
 ∃bt ot n es,v'= .pointer (some ⟨bt,ot,none⟩)/\k n es=true/\At w bt ot n ⟨es⟩:=by
 unfold MM at hk;split at hk
 ·rename_i i o
  obtain⟨vs,e,c,ho,hle,hk⟩:=rG hk;split at hk
  ·rename_i n m hl
   obtain⟨ob,hob,hk⟩:=aCB hk;split at hk
   ·rename_i es clk
    rw [jT]at hk;split at hk
    ·rename_i c1 c2 c3
     obtain⟨g1,g2⟩:=aHu c3;cases hv with
     | flat h=>simp [bA]at h
     | ptr hL=>
      rename_i L
      have e0:vs[o]? =some (.int .i64 (.ofNat n)):=by
       have:=kA (·[0]?) hl;simpa [kZ,kI]using this
      have e1:vs[o+1]? =some (.map (some m)):=by
       have:=kA (·[1]?) hl;simpa [kZ,kI]using this
      obtain⟨u0,hu0,hr0⟩:=h.Ed ho hL e0;obtain⟨u1,hu1,Iq⟩:=h.Ed ho hL e1;obtain rfl:=hr0.of_flat rfl;cases Iq with
      | flat h=>simp [bA]at h
      | map hM=>
       rename_i M;obtain⟨M',iD,YG,_,hb,NS⟩:=h.map' hob;rw [hM]at YG;injection YG with YG;subst YG;have aOv:iD.toList=es:=aHv NS fun e he=>(g1 e he).2.2.2.1;refine⟨_,_,n,es,rfl,hk,⟨hu0,⟨M.b,clk,hu1,?_,⟨fun x hx=>(g1 x hx).2.1,g2⟩⟩,by simpa using c1,by simpa using c2,fun e he=>⟨(g1 e he).2.2.1,(g1 e he).2.2.2.2⟩⟩⟩;rw [hb,<-aOv]
    ·cases hk
   ·cases hk
  ·cases hk
 ·cases hk
end
def hasB (pe:MapEntry->Nat->Bool) (es:List MapEntry) (i:Nat):Bool:=fE (β:=Bool) false (fun e _ ih=>dF (pe e i) true ih) es
def Zd (pe:MapEntry->Nat->Bool) (es:List MapEntry) (n:Nat) (K:Nat->Bool):Bool:=
 IK (β:=Nat->Bool) K (fun i ih acc=>dF (hasB pe es i) (cG (Nat.succ acc) ih) (ih acc)) (Nat.succ n) 0
theorem aHw{pe:MapEntry->Nat->Bool}{p:Vt->Bool}{i:Nat}:∀{es:List MapEntry},(∀e∈es,pe e i=(p (dv e)&&(dv e).fr==(i:Int)))->hasB pe es i=(wC p (es.map dv) i != 0):=by
 intro es;induction es with
 | nil=>intro _;rfl
 | cons e es ih=>
  intro h;have ih:=ih fun x hx=>h x (Xa _ hx);unfold hasB at ih ⊢;rw [aO,h e List.mem_cons_self,ih];unfold wC;rw [vK,VT];cases hb:(p (dv e)&&(dv e).fr==(i:Int))<;>simp [dF]
theorem aBn{pe:MapEntry->Nat->Bool}{es:List MapEntry}{K:Nat->Bool}:∀(m acc:Nat),IK (β:=Nat->Bool) K (fun i ih acc=>dF (hasB pe es i) (cG (Nat.succ acc) ih) (ih acc)) m acc=K (acc+((List.range m).filter fun i=>hasB pe es i).length):=by
 intro m;induction m with
 | zero=>intro acc;simp [WK]
 | succ m ih=>
  intro acc;rw [Iu,List.range_succ,Cj,bW];cases hb:hasB pe es m
  ·show IK K _ m acc=_
   rw [ih];simp [hb]
  ·show cG (Nat.succ acc) (IK K _ m)=_
   rw [aY,ih];simp [hb];congr 1;omega
theorem Nf{pe:MapEntry->Nat->Bool}{p:Vt->Bool}{es:List MapEntry}{n:Nat}{K:Nat->Bool} (h:∀i,∀e∈es,pe e i=(p (dv e)&&(dv e).fr==(i:Int))):Zd pe es n K=K (mem p n (es.map dv)):=by
 unfold Zd mem;rw [aBn]
 congr 1
 simp only [fK]
 congr 2
 funext i
 rw [aHw (h i)]
def Ng (a b:Bool):Bool:=dF a b false
theorem sK (a b:Bool):Ng a b=(a&&b):=by cases a<;>rfl
def TQ (a b:MapEntry):Bool:=
 HH a.val false fun f r q _=>HH b.val false fun f' r' q' _=>dF (Hf r r') true (Ng (Au r r') (dF (Nat.blt f f') true (Ng (Nat.beq f f') (Hf q q'))))
def aCC (e:MapEntry) (l:List MapEntry) (k:List MapEntry->Bool):Bool:=
 fE (β:=(List MapEntry->Bool)->Bool) (fun k=>k [e]) (fun x t ih k=>dF (TQ e x) (k (e::x::t)) (ih fun t'=>k (x::t'))) l k
def Th (es:List MapEntry) (k:List MapEntry->Bool):Bool:=
 fE (β:=(List MapEntry->Bool)->Bool) (fun k=>k []) (fun e _ ih k=>ih fun s=>aCC e s k) es k
def chainB (l:List MapEntry):Bool:=
 fE (β:=Bool) true (fun e t ih=>match t with | []=>true | x::_=>dF (TQ e x) ih false) l
def WX (l:List MapEntry) (k:List Value->Bool):Bool:=
 fE (β:=(List Value->Bool)->Bool) (fun k=>k []) (fun e _ ih k=>match e.val with | .agg ⟨vs⟩=>ih fun t=>wQ vs t k | _=>false) l k
theorem aCD{e:MapEntry}:∀{l:List MapEntry} {k:List MapEntry->Bool},aCC e l k=true->∃s,s.Perm (e::l)/\k s=true:=by
 intro l;induction l with
 | nil=>intro k h;exact⟨[e],.refl _,h⟩
 | cons x t ih=>
  intro k h;unfold aCC at h ih;rw [aO]at h;cases hb:TQ e x
  ·rw [hb]at h
   obtain⟨s,hs,hk⟩:=ih h;exact⟨x::s,(hs.cons x).trans (List.Perm.swap e x t),hk⟩
  ·rw [hb]at h
   exact⟨_,.refl _,h⟩
theorem Ze:∀{es:List MapEntry} {k:List MapEntry->Bool},Th es k=true->∃s,s.Perm es/\k s=true:=by
 intro es;induction es with
 | nil=>intro k h;exact⟨[],.refl _,h⟩
 | cons e es ih=>
  intro k h;unfold Th at h ih;rw [aO]at h;obtain⟨s,hs,h⟩:=ih h;obtain⟨s',hs',h⟩:=aCD h;exact⟨s',hs'.trans (hs.cons e),h⟩
theorem aEQ{a b:MapEntry} (h:TQ a b=true):Wm (dv a) (dv b)=true:=by
 unfold TQ HH at h;split at h
 ·rename_i f r q va s ha
  split at h
  ·rename_i f' r' q' va' s' hb
   rw [Bi];unfold dv;rw [ha,hb];simp only [dec];dsimp only at h;cases h1:Hf r r'
   ·rw [h1]at h
    simp only [dF,sK,tD,bT,beq_iff_eq]at h;obtain⟨h2,h3⟩:=h;refine .inr ⟨h2,?_⟩;cases h4:Nat.blt f f'
    ·rw [h4]at h3
     simp only [bT,WA,DN,decide_eq_true_eq]at h3;exact .inr ⟨by rw [h3.1],h3.2⟩
    ·simp only [Nat.blt_eq]at h4
     exact .inl (by simpa using h4)
   ·rw [DN,decide_eq_true_eq]at h1
    exact .inl h1
  ·cases h
 ·cases h
theorem aCE:∀{l:List MapEntry},chainB l=true->(l.map dv).Pairwise fun x y=>Wm x y=true:=by
 intro l;induction l with
 | nil=>intro _;exact .nil
 | cons e t ih=>
  intro h;unfold chainB at h ih;rw [aO]at h;cases t with
  | nil=>simp
  | cons x t=>
   simp only at h;cases hb:TQ e x
   ·rw [hb]at h;cases h
   ·rw [hb]at h
    have hp:=ih h;rw [vK,rC];refine⟨fun y hy=>?_,hp⟩;have hx:=aEQ hb;rw [vK]at hy;rcases cO.1 hy with rfl | hy
    ·exact hx
    ·have:=(rC.1 hp).1 y hy
     rw [Bi]at hx this ⊢;omega
theorem Ti:∀{l:List MapEntry} {k:List Value->Bool},WX l k=true->(∀e∈l,e.val=pN (dv e))->k ((l.map dv).flatMap gM)=true:=by
 intro l;induction l with
 | nil=>intro k h _;exact h
 | cons e t ih=>
  intro k h he;unfold WX at h ih;rw [aO]at h;split at h
  ·rename_i vs hv
   have:=ih h fun x hx=>he x (Xa _ hx);rw [kL]at this
   have DQ:vs=gM (dv e):=by
    have:=he e List.mem_cons_self;rw [hv]at this;injection this with this;injection this
   rw [vK,VO,<-DQ];exact this
  ·cases h
def WY (args:List Value) (S:St) (K:VK):Bool:=
 match args with
 | [t,.int .i64 rd]=>MM S t fun n es=>Zd (fun e i=>HH e.val false fun f r _ _=>Ng (Au r rd) (Nat.beq f i)) es n fun c=>K (.int .i64 (.ofNat c)) S
 | _=>false
def Jl (args:List Value) (S:St) (K:VK):Bool:=
 match args with
 | [t,.int .i64 rd,.int .u8 kd]=>MM S t fun n es=>Zd (fun e i=>HH e.val false fun f r q _=>Ng (Ng (Au r rd) (Au q kd)) (Nat.beq f i)) es n fun c=>K (.int .i64 (.ofNat c)) S
 | _=>false
def NU (args:List Value) (S:St) (K:VK):Bool:=
 match args with
 | [t,.int .i64 rd,.int .u8 kd,.string tx]=>MM S t fun n es=>Zd (fun e i=>HH e.val false fun f r q s=>Ng (Ng (Ng (Au r rd) (Au q kd)) (ZW s tx.data.toList)) (Nat.beq f i)) es n fun c=>K (.int .i64 (.ofNat c)) S
 | _=>false
def NV (args:List Value) (S:St) (K:VK):Bool:=
 match args with
 | [t]=>MM S t fun _ es=>Th es fun ss=>match chainB ss with
  | true=>WX ss fun cs=>zZ ss fun n=>match n with
   | 0=>K (.slice none 0 0) S
   | n'+1=>sP S (.cells cs 94 (.grown [])) fun i S=>K (.slice (some ⟨i,0,some 0⟩) (n'+1) (n'+1)) S
  | false=>false
 | _=>false
theorem Eu{v:Value}{u:Vt}{f:Nat} (h:v=pN u) (hf:u.fr=(f:Int)) (z:Bool) (k:Nat->Int->Int->List UInt8->Bool):HH v z k=k f u.rd u.kd u.tx.data.toList:=by
 subst h;unfold pN;rw [hf];rfl
theorem Ew (f i:Nat):Nat.beq f i=((f:Int)==(i:Int)):=by
 rw [pL];simp only [WA,beq_iff_eq];omega
section
variable{w0:World}
theorem WZ{f:FuncId}{dI:List Value}{S:St}{K:VK}{U:Rn}{w:World}{c:Nat} (h:Rel Tryz.prog w0 U S w) (hk:K (.int .i64 (.ofNat c)) S=true)
 (hc:Calls Tryz.prog f ⟨dI⟩ w fun e w'=>e= .returned (.int .i64 (c:Int))/\Below w.heap.size w w'):CallsIn (JW none) 0 Tryz.prog f ⟨dI⟩ w (Xp Tryz.prog w0 U w K):=by
 refine callsIn_wide.2 (hc.mono ?_)
 rintro e w' ⟨rfl,hb⟩
 obtain⟨h1,h2⟩:=h.below hb;exact⟨_,rfl,U,_,S,hk,.flat rfl,h1,h2⟩
theorem TR{U:Rn}{q:IntKind}{n:Int}{v:Value} (h:VR U (.int q n) v):v= .int q n:=h.of_flat rfl
theorem Zf{U:Rn}{s:ByteArray}{v:Value} (h:VR U (.string s) v):v= .string s:=h.of_flat rfl
theorem aCF:jA Tryz.prog w0 (fun f' args S K=>match Nat.beq f' 168 with | true=>WY args S K | false=>false):=by
 intro f args S K U w dI hk h ha;dsimp only at hk;split at hk
 ·rename_i hf
  obtain rfl:f=168:=by simpa using hf
  refine⟨enters_of Tryz.func168 (by kernel_rfl) rfl ⟨dI⟩,?_⟩;unfold WY at hk;split at hk
  ·rename_i t rd
   obtain⟨t',l',rfl,ht,ha⟩:=ha.bU;obtain⟨r',l',rfl,hr,ha⟩:=ha.bU;cases ha.iH;obtain rfl:=TR hr;obtain⟨bt,ot,n,es,rfl,hk,DV⟩:=FP hk h ht
   rw [Nf (p:=fun v=>v.rd==rd) (fun i e he=>by
    obtain⟨h1,f,h2,h3⟩:=DV.aBo e he;rw [Eu h1 h2,sK,tD,h2,Ew])]at hk
   exact WZ h hk (aER DV rd)
  ·cases hk
 ·cases hk
theorem aES:jA Tryz.prog w0 (fun f' args S K=>match Nat.beq f' 156 with | true=>Jl args S K | false=>false):=by
 intro f args S K U w dI hk h ha;dsimp only at hk;split at hk
 ·rename_i hf
  obtain rfl:f=156:=by simpa using hf
  refine⟨enters_of Tryz.func156 (by kernel_rfl) rfl ⟨dI⟩,?_⟩;unfold Jl at hk;split at hk
  ·rename_i t rd kd
   obtain⟨t',l',rfl,ht,ha⟩:=ha.bU;obtain⟨r',l',rfl,hr,ha⟩:=ha.bU;obtain⟨k',l',rfl,hq,ha⟩:=ha.bU;cases ha.iH;obtain rfl:=TR hr;obtain rfl:=TR hq;obtain⟨bt,ot,n,es,rfl,hk,DV⟩:=FP hk h ht
   rw [Nf (p:=fun v=>v.rd==rd&&v.kd==kd) (fun i e he=>by
    obtain⟨h1,f,h2,h3⟩:=DV.aBo e he;rw [Eu h1 h2,sK,sK,tD,tD,h2,Ew])]at hk
   exact WZ h hk (aHx DV rd kd)
  ·cases hk
 ·cases hk
theorem Zg:jA Tryz.prog w0 (fun f' args S K=>match Nat.beq f' 209 with | true=>NU args S K | false=>false):=by
 intro f args S K U w dI hk h ha;dsimp only at hk;split at hk
 ·rename_i hf
  obtain rfl:f=209:=by simpa using hf
  refine⟨enters_of Tryz.func209 (by kernel_rfl) rfl ⟨dI⟩,?_⟩;unfold NU at hk;split at hk
  ·rename_i t rd kd tx
   obtain⟨t',l',rfl,ht,ha⟩:=ha.bU;obtain⟨r',l',rfl,hr,ha⟩:=ha.bU;obtain⟨k',l',rfl,hq,ha⟩:=ha.bU;obtain⟨x',l',rfl,hx,ha⟩:=ha.bU;cases ha.iH;obtain rfl:=TR hr;obtain rfl:=TR hq;obtain rfl:=Zf hx;obtain⟨bt,ot,n,es,rfl,hk,DV⟩:=FP hk h ht
   rw [Nf (p:=fun v=>v.rd==rd&&v.kd==kd&&v.tx.toList==tx.toList) (fun i e he=>by
    obtain⟨h1,f,h2,h3⟩:=DV.aBo e he;rw [Eu h1 h2,sK,sK,sK,tD,tD,CF,h2,Ew,Lib.toList_data,Lib.toList_data])]at hk
   exact WZ h hk (aCG DV rd kd tx)
  ·cases hk
 ·cases hk
theorem aKe:bP Tryz.prog 94=some 5:=by kernel_rfl
theorem Tj (l:List Vt):∀v∈l.flatMap gM,bA v=true:=by
 intro v hv;obtain⟨x,_,hx⟩:=Ky.1 hv;simp [gM]at hx;rcases hx with rfl | rfl | rfl | rfl | rfl<;>rfl
theorem Zh:jA Tryz.prog w0 (fun f' args S K=>match Nat.beq f' 97 with | true=>NV args S K | false=>false):=by
 intro f args S K U w dI hk h ha;dsimp only at hk;split at hk
 ·rename_i hf
  obtain rfl:f=97:=by simpa using hf
  refine⟨enters_of Tryz.func97 (by kernel_rfl) rfl ⟨dI⟩,?_⟩;unfold NV at hk;split at hk
  ·rename_i t
   obtain⟨t',l',rfl,ht,ha⟩:=ha.bU;cases ha.iH;obtain⟨bt,ot,n,es,rfl,hk,DV⟩:=FP hk h ht;obtain⟨ss,Jm,hk⟩:=Ze hk;split at hk
   ·rename_i hch
    have hk:=Ti hk fun e he=>(DV.aBo e (Jm.subset he)).1;rw [jT]at hk;refine callsIn_wide.2 ((aCH DV (ss.map dv) (Jm.map dv) (aCE hch)).mono ?_)
    rintro e w' ⟨v,rfl,aCI,ON,hb⟩
    split at hk
    ·rename_i h0
     obtain rfl:=ON.2 (lZ (by simpa using h0));obtain⟨h1,h2⟩:=h.below hb;exact⟨_,rfl,U,_,S,hk,.flat rfl,h1,h2⟩
    ·rename_i n' hn'
     rw [gG]at hk;rcases aCI.2 with ⟨rfl,h0⟩ | ⟨g,cap,cur,rfl,hg,QV,Xn,hcm,vL,htk⟩
     ·simp at h0;rw [h0]at hn';simp at hn'
     ·have hlen:(ss.map dv).length=n'+1:=by simpa using hn'
      obtain⟨h1,h2⟩:=h.aEO hb aKe hg QV (kK.flat (Tj (ss.map dv))) (by rw [Go.Proofs.Et.LQ];exact htk);refine⟨_,rfl,_,_,_,hk,?_,h1,h2⟩;rw [hlen];have:=VR.oG (U:=U.put S.n ⟨g,0,cur.size,5⟩) (i:=S.n) (o:=0) (n:=n'+1) (c:=n'+1) (c':=cap) (Rn.jN _ _ _) (by omega) (bN _) (by simp [vL]) (by simp);simpa using this
   ·cases hk
  ·cases hk
 ·cases hk
def ovT (f:FuncId):Option (List Value->St->VK->Bool):=
 dF (Nat.beq f 209) (some NU) (dF (Nat.beq f 97) (some NV) (dF (Nat.beq f 156) (some Jl) (dF (Nat.beq f 168) (some WY) none)))
theorem Zb:Dq Tryz.prog w0 ovT:=by
 intro f g hg;unfold ovT at hg;cases h1:Nat.beq f 209
 ·rw [h1]at hg
  cases h2:Nat.beq f 97
  ·rw [h2]at hg
   cases h3:Nat.beq f 156
   ·rw [h3]at hg
    cases h4:Nat.beq f 168
    ·rw [h4]at hg;cases hg
    ·rw [h4]at hg
     cases hg;obtain rfl:f=168:=by simpa using h4
     exact aCF
   ·rw [h3]at hg
    cases hg;obtain rfl:f=156:=by simpa using h3
    exact aES
  ·rw [h2]at hg
   cases hg;obtain rfl:f=97:=by simpa using h2
   exact Zh
 ·rw [h1]at hg
  cases hg;obtain rfl:f=209:=by simpa using h1
  exact Zg
end
end Go.Am
namespace Go.Am
def UT (x:VE) (a0 a1 a2 a3:V) (S:Hp) (K:KV):Prop:=
 x.call wE [a1] S fun v0 S=>
 pY 0 v0 fun v1=>
 pY 1 v0 fun v2=>
 aE PP .neq 26 v2 (.int .i64 (.ofNat 0)) fun v3=>
 aC x.most (aB false v3 (fun k=>k a0 S) S fun v4 S=>aC x.most (aB false v3 (fun k=>aE PP .lss 3 v4 (.int .i64 (.ofNat 1)) fun v5=>k v5 S) S fun v6 S=>aC x.most (cK v3 (.bool true) v6 fun v7=>aC x.most (aB false v7 (fun k=>k a0 S) S fun v8 S=>aC x.most (aB false v7 (fun k=>aE PP .gtr 3 v8 (.int .i64 (.ofNat 64)) fun v9=>k v9 S) S fun v10 S=>aC x.most (cK v7 (.bool true) v10 fun v11=>aC x.most (aB false v11 (fun k=>k a2 S) S fun v12 S=>aC x.most (aB false v11 (fun k=>aE PP .lss 3 v12 (.int .i64 (.ofNat 0)) fun pB=>k pB S) S fun pU S=>aC x.most (cK v11 (.bool true) pU fun qS=>aC x.most (aB false qS (fun k=>k a2 S) S fun sV S=>aC x.most (aB false qS (fun k=>k a1 S) S fun v17 S=>aC x.most (aB false qS (fun k=>aE PP .gtr 3 sV v17 fun xS=>k xS S) S fun yH S=>aC x.most (cK qS (.bool true) yH fun v20=>aC x.most (aB false v20 (fun k=>k a1 S) S fun v21 S=>aC x.most (aB false v20 (fun k=>k a2 S) S fun v22 S=>aC x.most (aB false v20 (fun k=>aE PP .mul 3 (.int .i64 (.ofNat 3)) v22 fun v23=>k v23 S) S fun v24 S=>aC x.most (aB false v20 (fun k=>aE PP .add 3 v24 (.int .i64 (.ofNat 1)) fun v25=>k v25 S) S fun v26 S=>aC x.most (aB false v20 (fun k=>aE PP .lss 3 v21 v26 fun CP=>k CP S) S fun v28 S=>aC x.most (cK v20 (.bool true) v28 fun JG=>aC x.most (aB false JG (fun k=>k a3 S) S fun v30 S=>aC x.most (aB false JG (fun k=>aE PP .lss 3 v30 (.int .i64 (.ofNat 0)) fun v31=>k v31 S) S fun v32 S=>aC x.most (cK JG (.bool true) v32 fun v33=>aC x.most (aB false v33 (fun k=>k a3 S) S fun BV S=>aC x.most (aB false v33 (fun k=>k a1 S) S fun v35 S=>aC x.most (aB false v33 (fun k=>aE PP .gtr 3 BV v35 fun KJ=>k KJ S) S fun v37 S=>aC x.most (cK v33 (.bool true) v37 fun VF=>pA VF (bD (.tuple [.sD,(.int .i64 (.ofNat 1))]) S K) (iQ [(.int .i64 (.ofNat 0)),(.int .i64 (.ofNat 0)),(.int .i64 (.ofNat 0)),(.int .i64 (.ofNat 0)),(.int .i64 (.ofNat 0)),(.int .i64 (.ofNat 0)),(.int .i64 (.ofNat 0)),(.string ⟨⟨[]⟩⟩),(.string ⟨⟨[]⟩⟩),(.int .i64 (.ofNat 0)),(.int .i64 (.ofNat 0)),(.bool false),(.bool false),(.string ⟨⟨[]⟩⟩),(.slice none 0 0)] [(0,1,a0),(1,1,a1),(2,1,a2),(3,1,a3),(5,1,(.int .i64 (.ofNat 1))),(9,1,(.int .i64 (.negSucc 0))),(10,1,(.int .i64 (.negSucc 0)))] fun v39=>iQ [(.int .i64 (.ofNat 0)),(.int .i64 (.ofNat 0)),(.int .i64 (.ofNat 0)),(.int .i64 (.ofNat 0)),(.int .i64 (.ofNat 0)),(.int .i64 (.ofNat 0)),(.int .i64 (.ofNat 0)),(.string ⟨⟨[]⟩⟩),(.string ⟨⟨[]⟩⟩),(.int .i64 (.ofNat 0)),(.int .i64 (.ofNat 0)),(.bool false),(.bool false),(.string ⟨⟨[]⟩⟩),(.slice none 0 0),(.pointer none)] [(0,15,v39),(15,1,v1)] fun v40=>tW 124 v40 S fun v41 S=>bD (.tuple [v41,(.int .i64 (.ofNat 0))]) S K)))))))))))))))))))))))))))
theorem Pb (x:VE) (a0 a1 a2 a3:V) (S:Hp) (K:KV):pP PP cM xQ x [a0,a1,a2,a3] S K=UT x a0 a1 a2 a3 S K:=by kernel_rfl
def EN (x:VE) (a0 a1 a2:V) (S:Hp) (K:KV):Prop:=
 aE PP .eql 80 a0 .sD fun v0=>
 pA v0 (bD .nil S K) (iQ [(.string ⟨⟨[]⟩⟩),(.slice none 0 0)] [(0,1,a1),(1,1,a2)] fun v1=>x.call fT [a0,v1] S fun v2 S=>bD v2 S K)
theorem RO (x:VE) (a0 a1 a2:V) (S:Hp) (K:KV):pP PP cM jM x [a0,a1,a2] S K=EN x a0 a1 a2 S K:=by kernel_rfl
def lY (x:VE) (t0 t3 t6:V) (S:Hp) (K:KV):Prop:=EC PP cM fT x [.r,.d,.r,.r,.r] [] [t0,t3,t6] S K
def jL (x:VE) (m:Nat) (t0 t3 t6 t7:V) (S:Hp) (K:KV):Prop:=sL PP cM fT x [.r,.d,.r,.r,.r,.r,.r,.l,.d] m [] [t0,t3,t6,t7] S K
def fW (x:VE) (m:Nat) (m0:Nat) (t0 t3 t6 t7 t27 t28 t29:V) (S:Hp) (K:KV):Prop:=sL PP cM fT x [.r,.d,.r,.r,.r,.r,.r,.l,.d,.d,.r,.d,.l,.r,.d] m [m0] [t0,t3,t6,t7,t27,t28,t29] S K
def EO (x:VE) (a0 a1:V) (S:Hp) (K:KV):Prop:=
 tW 119 a1 S fun v0 S=>
 iQ [.nilFunc,.nilFunc,.nilFunc,.nilFunc,.nilFunc,.nilFunc,.nilFunc] [(0,1,(.func fU [] [])),(1,1,(.func aV [] [])),(2,1,(.func iU [] [])),(3,1,(.func kW [] [])),(4,1,(.func jR [] [])),(5,1,(.func gR [] [])),(6,1,(.func eD [] []))] fun v1=>
 gZ [.nilFunc,.nilFunc,.nilFunc,.nilFunc,.nilFunc,.nilFunc,.nilFunc] 146 S fun v2 S=>
 sU 7 v2 v1 S fun S=>
 Zt 7 1 v2 none none none fun v3=>
 cP PP a0 fun v4=>
 aL 0 v4 fun v5=>
 aL 3 v5 fun v6=>
 aH v6 S fun v7 S=>
 aE PP .eql 3 v7 (.int .i64 (.ofNat 0)) fun v8=>
 pA v8 (Zt 7 1 v2 none (some (.int .i64 (.ofNat 1))) none fun v9=>lY x a0 v0 v9 S K) (lY x a0 v0 v3 S K)
theorem RP (x:VE) (a0 a1:V) (S:Hp) (K:KV):pP PP cM fT x [a0,a1] S K=EO x a0 a1 S K:=by kernel_rfl
def oY (x:VE) (t0 t3 t6:V) (S:Hp) (K:KV):Prop:=
 jC S fun S=>
 jL x x.most t0 t3 t6 .nil S K
theorem EP (x:VE) (t0 t3 t6:V) (S:Hp) (K:KV):BU PP cM fT x [.r,.d,.r,.r,.r] [] [t0,t3,t6] S K=oY x t0 t3 t6 S K:=by kernel_rfl
theorem EX (x:VE) (hm:x.most≠0) (t0 t3 t6:V) (S:Hp) (K:KV):lY x t0 t3 t6 S K=oY x t0 t3 t6 S K:=(tP (hm:=hm) ..).trans (EP x t0 t3 t6 S K)
def mH (x:VE) (m0:Nat) (t0 t3 t6 t7:V) (S:Hp) (K:KV):Prop:=
 jC S fun S=>
 cP PP t0 fun v0=>
 aL 0 v0 fun v1=>
 aL 13 v1 fun v2=>
 aH v2 S fun v3 S=>
 aE PP .eql 9 v3 (.str []) fun v4=>
 pA v4 (dJ t6 fun v5=>fW x x.most m0 t0 t3 t6 t7 t6 v5 (.int .i64 (.ofNat 0)) S K) (bD t7 S K)
theorem qZ (x:VE) (m0:Nat) (t0 t3 t6 t7:V) (S:Hp) (K:KV):jL x (m0+1) t0 t3 t6 t7 S K=mH x m0 t0 t3 t6 t7 S K:=by kernel_rfl
def jG (x:VE) (m1:Nat) (m0:Nat) (t0 t3 t6 t7 t27 t28 t29:V) (S:Hp) (K:KV):Prop:=
 jC S fun S=>
 aE PP .lss 3 t29 t28 fun v0=>
 pA v0 (kX 1 t27 t29 fun v1=>aH v1 S fun v2 S=>iP 2 t3 S fun v3 S=>fF x v2 [t0,v3] S fun v4 S=>pY 0 v4 fun v5=>pY 1 v4 fun v6=>pA v6 (sE 37 11 112 t7 v5 S fun v7 S=>jL x m0 t0 t3 t6 v7 S K) (aE PP .add 3 t29 (.int .i64 (.ofNat 1)) fun v8=>fW x m1 m0 t0 t3 t6 t7 t27 t28 v8 S K)) (bD t7 S K)
theorem nP (x:VE) (m1:Nat) (m0:Nat) (t0 t3 t6 t7 t27 t28 t29:V) (S:Hp) (K:KV):fW x (m1+1) m0 t0 t3 t6 t7 t27 t28 t29 S K=jG x m1 m0 t0 t3 t6 t7 t27 t28 t29 S K:=by kernel_rfl
def gK (x:VE) (m:Nat) (t0 t14 t15 t16:V) (S:Hp) (K:KV):Prop:=sL PP cM fU x [.r,.l,.r,.d] m [] [t0,t14,t15,t16] S K
def xV (x:VE) (a0 a1:V) (S:Hp) (K:KV):Prop:=
 tW 119 a1 S fun v0 S=>
 cP PP a0 fun v1=>
 aL 15 v1 fun v2=>
 aH v2 S fun v3 S=>
 x.call jQ [v3] S fun v4 S=>
 dJ v4 fun v5=>
 gK x x.most a0 v4 v5 (.int .i64 (.ofNat 0)) S K
theorem JH (x:VE) (a0 a1:V) (S:Hp) (K:KV):pP PP cM fU x [a0,a1] S K=xV x a0 a1 S K:=by kernel_rfl
def mR (x:VE) (m0:Nat) (t0 t14 t15 t16:V) (S:Hp) (K:KV):Prop:=
 jC S fun S=>
 aE PP .lss 3 t16 t15 fun v0=>
 pA v0 (kX 1 t14 t16 fun v1=>aH v1 S fun v2 S=>x.call dQ [t0,v2] S fun v3 S=>pY 0 v3 fun v4=>pY 1 v3 fun v5=>gZ [(.int .i64 (.ofNat 0)),(.int .i64 (.ofNat 0)),(.int .u8 (.ofNat 0)),(.int .i64 (.ofNat 0)),(.string ⟨⟨[]⟩⟩)] 94 S fun v6 S=>sU 5 v6 v4 S fun S=>aC x.most (aB true v5 (fun k=>k t0 S) S fun v7 S=>aC x.most (aB true v5 (fun k=>k v2 S) S fun v8 S=>aC x.most (aB true v5 (fun k=>aL 4 v6 fun v9=>k v9 S) S fun v10 S=>aC x.most (aB true v5 (fun k=>aH v10 S fun v11 S=>k v11 S) S fun v12 S=>aC x.most (aB true v5 (fun k=>x.call fV [v7,v8,(.int .u8 (.ofNat 4)),v12] S fun pB S=>k pB S) S fun pU S=>aC x.most (cK v5 pU (.bool false) fun qS=>pA qS (aL 4 v6 fun sV=>aH sV S fun v17 S=>cP PP t0 fun xS=>aL 0 xS fun yH=>aL 13 yH fun v20=>sU 1 v20 v17 S fun S=>bD (.tuple [.nil,(.bool true)]) S K) (aE PP .add 3 t16 (.int .i64 (.ofNat 1)) fun v21=>gK x m0 t0 t14 t15 v21 S K)))))))) (bD (.tuple [.nil,(.bool false)]) S K)
theorem rU (x:VE) (m0:Nat) (t0 t14 t15 t16:V) (S:Hp) (K:KV):gK x (m0+1) t0 t14 t15 t16 S K=mR x m0 t0 t14 t15 t16 S K:=by kernel_rfl
def AT (x:VE) (a0:V) (S:Hp) (K:KV):Prop:=
 aE PP .eql 80 a0 .sD fun v0=>
 pA v0 (bD (.tuple [(.str []),(.bool false)]) S K) (cP PP a0 fun v1=>aL 0 v1 fun v2=>aL 13 v2 fun v3=>aH v3 S fun v4 S=>cP PP a0 fun v5=>aL 0 v5 fun v6=>aL 13 v6 fun v7=>aH v7 S fun v8 S=>aE PP .neq 9 v8 (.str []) fun v9=>bD (.tuple [v4,v9]) S K)
theorem NG (x:VE) (a0:V) (S:Hp) (K:KV):pP PP cM jP x [a0] S K=AT x a0 S K:=by kernel_rfl
def BW (x:VE) (a0 a1 a2:V) (S:Hp) (K:KV):Prop:=
 tW 37 a2 S fun v0 S=>
 aE PP .eql 80 a0 .sD fun v1=>
 aC x.most (aB false v1 (fun k=>aL 3 v0 fun v2=>k v2 S) S fun v3 S=>aC x.most (aB false v1 (fun k=>aH v3 S fun v4 S=>k v4 S) S fun v5 S=>aC x.most (aB false v1 (fun k=>k a0 S) S fun v6 S=>aC x.most (aB false v1 (fun k=>cP PP v6 fun v7=>k v7 S) S fun v8 S=>aC x.most (aB false v1 (fun k=>aL 0 v8 fun v9=>k v9 S) S fun v10 S=>aC x.most (aB false v1 (fun k=>aL 0 v10 fun v11=>k v11 S) S fun v12 S=>aC x.most (aB false v1 (fun k=>aH v12 S fun pB S=>k pB S) S fun pU S=>aC x.most (aB false v1 (fun k=>aE PP .neq 3 v5 pU fun qS=>k qS S) S fun sV S=>aC x.most (cK v1 (.bool true) sV fun v17=>aC x.most (aB false v17 (fun k=>aL 0 v0 fun xS=>k xS S) S fun yH S=>aC x.most (aB false v17 (fun k=>aH yH S fun v20 S=>k v20 S) S fun v21 S=>aC x.most (aB false v17 (fun k=>aE PP .lss 5 v21 (.int .u8 (.ofNat 2)) fun v22=>k v22 S) S fun v23 S=>aC x.most (cK v17 (.bool true) v23 fun v24=>aC x.most (aB false v24 (fun k=>aL 0 v0 fun v25=>k v25 S) S fun v26 S=>aC x.most (aB false v24 (fun k=>aH v26 S fun CP S=>k CP S) S fun v28 S=>aC x.most (aB false v24 (fun k=>aE PP .gtr 5 v28 (.int .u8 (.ofNat 4)) fun JG=>k JG S) S fun v30 S=>aC x.most (cK v24 (.bool true) v30 fun v31=>aC x.most (aB false v31 (fun k=>aL 4 v0 fun v32=>k v32 S) S fun v33 S=>aC x.most (aB false v31 (fun k=>aH v33 S fun BV S=>k BV S) S fun v35 S=>aC x.most (aB false v31 (fun k=>aE PP .geq 3 v35 (.int .i64 (.ofNat 100)) fun KJ=>k KJ S) S fun v37 S=>aC x.most (cK v31 (.bool true) v37 fun VF=>pA VF (bD (.bool false) S K) (aL 4 v0 fun v39=>aH v39 S fun v40 S=>aL 0 v0 fun v41=>aH v41 S fun Ic S=>aL 5 v0 fun Id=>aH Id S fun v44 S=>aL 9 v0 fun v45=>aH v45 S fun v46 S=>iQ [(.int .i64 (.ofNat 0)),(.int .i64 (.ofNat 0)),(.int .u8 (.ofNat 0)),(.int .i64 (.ofNat 0)),(.string ⟨⟨[]⟩⟩)] [(0,1,a1),(1,1,v40),(2,1,Ic),(3,1,v44),(4,1,v46)] fun Bv=>x.call eI [a0,Bv] S fun Jy S=>bD Jy S K))))))))))))))))))))))
theorem OT (x:VE) (a0 a1 a2:V) (S:Hp) (K:KV):pP PP cM qB x [a0,a1,a2] S K=BW x a0 a1 a2 S K:=by kernel_rfl
def BX (x:VE) (a0 a1:V) (S:Hp) (K:KV):Prop:=
 tW 94 a1 S fun v0 S=>
 aL 2 v0 fun v1=>
 aH v1 S fun v2 S=>
 aE PP .eql 5 v2 (.int .u8 (.ofNat 2)) fun v3=>
 aC x.most (aB true v3 (fun k=>aL 1 v0 fun v4=>k v4 S) S fun v5 S=>aC x.most (aB true v3 (fun k=>aH v5 S fun v6 S=>k v6 S) S fun v7 S=>aC x.most (aB true v3 (fun k=>aE PP .lss 3 v7 (.int .i64 (.ofNat 0)) fun v8=>k v8 S) S fun v9 S=>aC x.most (aB true v3 (fun k=>k v9 S) S fun v10 S=>aC x.most (aB false v10 (fun k=>aL 0 v0 fun v11=>k v11 S) S fun v12 S=>aC x.most (aB false v10 (fun k=>aH v12 S fun pB S=>k pB S) S fun pU S=>aC x.most (aB false v10 (fun k=>k a0 S) S fun qS S=>aC x.most (aB false v10 (fun k=>aL 1 v0 fun sV=>k sV S) S fun v17 S=>aC x.most (aB false v10 (fun k=>aH v17 S fun xS S=>k xS S) S fun yH S=>aC x.most (aB false v10 (fun k=>x.call bV [qS,yH] S fun v20 S=>k v20 S) S fun v21 S=>aC x.most (nF false v10 pU (fun k=>aH v12 S fun v22 _=>bH v22 pU k) (aC x.most (nF true v3 v7 (fun k=>aH v5 S fun v23 _=>bH v23 v7 k) (aH v1 S fun v24 _=>bH v24 v2 (aC x.most (aB false v10 (fun k=>aE PP .neq 3 pU v21 fun v25=>k v25 S) S fun v26 S=>aC x.most (aB true v3 (fun k=>aC x.most (cK v10 (.bool true) v26 fun CP=>k CP S)) S fun v28 S=>aC x.most (cK v3 v28 (.bool false) fun JG=>pA JG (bD (.bool false) S K) (cP PP a0 fun v30=>aL 15 v30 fun v31=>aH v31 S fun v32 S=>iP 5 v0 S fun v33 S=>x.call fO [v32,v33] S fun BV S=>bD BV S K)))))))))))))))))))
theorem OU (x:VE) (a0 a1:V) (S:Hp) (K:KV):pP PP cM eI x [a0,a1] S K=BX x a0 a1 S K:=by kernel_rfl
def uX (x:VE) (a0 a1:V) (S:Hp) (K:KV):Prop:=
 cP PP a0 fun v0=>
 aL 0 v0 fun v1=>
 aL 0 v1 fun v2=>
 aH v2 S fun v3 S=>
 aE PP .add 3 v3 a1 fun v4=>
 cP PP a0 fun v5=>
 aL 0 v5 fun v6=>
 aL 1 v6 fun v7=>
 aH v7 S fun v8 S=>
 aE PP .rem 3 v4 v8 fun v9=>
 aE PP .add 3 (.int .i64 (.ofNat 1)) v9 fun v10=>
 bD v10 S K
theorem GM (x:VE) (a0 a1:V) (S:Hp) (K:KV):pP PP cM bV x [a0,a1] S K=uX x a0 a1 S K:=by kernel_rfl
def uY (x:VE) (a0 a1:V) (S:Hp) (K:KV):Prop:=
 gZ [(.int .i64 (.ofNat 0)),(.int .i64 (.ofNat 0)),(.int .u8 (.ofNat 0)),(.int .i64 (.ofNat 0)),(.string ⟨⟨[]⟩⟩)] 94 S fun v0 S=>
 cP PP a0 fun v1=>
 aL 15 v1 fun v2=>
 aH v2 S fun v3 S=>
 x.call bV [a0,a1] S fun v4 S=>
 aH v2 S fun v5 _=>
 bH v5 v3 (x.call kP [v3,a1,v4] S fun v6 S=>pY 0 v6 fun v7=>pY 1 v6 fun v8=>sU 5 v0 v7 S fun S=>iP 5 v0 S fun v9 _=>bD (.tuple [v9,v8]) S K)
theorem GN (x:VE) (a0 a1:V) (S:Hp) (K:KV):pP PP cM dQ x [a0,a1] S K=uY x a0 a1 S K:=by kernel_rfl
def xW (x:VE) (a0 a1 a2 a3:V) (S:Hp) (K:KV):Prop:=
 cP PP a0 fun v0=>
 aL 15 v0 fun v1=>
 aH v1 S fun v2 S=>
 x.call nB [v2,a1,a2,a3] S fun v3 S=>
 x.call kN [a0,v3] S fun v4 S=>
 bD v4 S K
theorem JI (x:VE) (a0 a1 a2 a3:V) (S:Hp) (K:KV):pP PP cM fV x [a0,a1,a2,a3] S K=xW x a0 a1 a2 a3 S K:=by kernel_rfl
def xX (x:VE) (a0 a1:V) (S:Hp) (K:KV):Prop:=
 cP PP a0 fun v0=>
 aL 0 v0 fun v1=>
 aL 1 v1 fun v2=>
 aH v2 S fun v3 S=>
 cP PP a0 fun v4=>
 aL 0 v4 fun v5=>
 aL 2 v5 fun v6=>
 aH v6 S fun v7 S=>
 aE PP .sub 3 v3 v7 fun v8=>
 aE PP .geq 3 a1 v8 fun v9=>
 bD v9 S K
theorem JJ (x:VE) (a0 a1:V) (S:Hp) (K:KV):pP PP cM kN x [a0,a1] S K=xX x a0 a1 S K:=by kernel_rfl
def AU (x:VE) (a0 a1:V) (S:Hp) (K:KV):Prop:=
 tW 80 a0 S fun v0 S=>
 tW 119 a1 S fun v1 S=>
 gZ [(.slice none 0 0)] 23 S fun v2 S=>
 gZ [(.bool false)] 4 S fun v3 S=>
 aH v0 S fun v4 S=>
 cP PP v4 fun v5=>
 aL 15 v5 fun v6=>
 aH v6 S fun v7 S=>
 x.call jQ [v7] S fun v8 S=>
 x.call lO [v8] S fun v9 S=>
 XK x v9 [2,4,5] [v0,v2,v3] 40 (aHK PP aV [.r,.l,.r,.d]) (aHL PP aV [.r,.l,.r,.d]) (aFn PP aV [.r,.l,.r,.d]) S fun pe S=>
 ZB pe (sU 1 v2 .nil S fun S=>sU 1 v3 (.bool false) S fun S=>aH v2 S fun v11 _=>aH v3 S fun v12 _=>bD (.tuple [v11,v12]) S K) (aH v2 S fun pB _=>aH v3 S fun pU _=>bD (.tuple [pB,pU]) S K) (fun v10=>aBx v10 0 (sU 1 v2 .nil S fun S=>sU 1 v3 (.bool false) S fun S=>aH v2 S fun qS _=>aH v3 S fun sV _=>bD (.tuple [qS,sV]) S K) (False))
theorem NH (x:VE) (a0 a1:V) (S:Hp) (K:KV):pP PP cM aV x [a0,a1] S K=AU x a0 a1 S K:=by kernel_rfl
def tQ (x:VE) (l:Nat) (t2 t4 t5 a0 a1:V) (S:Hp) (K:KV):Prop:=
 Jo l S fun S=>
 aH t2 S fun v0 S=>
 cP PP v0 fun v1=>
 aL 0 v1 fun v2=>
 aL 4 v2 fun v3=>
 aH v3 S fun v4 S=>
 aE PP .gtr 3 a1 v4 fun v5=>
 aC x.most (aB true v5 (fun k=>aH t2 S fun v6 S=>k v6 S) S fun v7 S=>aC x.most (aB true v5 (fun k=>cP PP v7 fun v8=>k v8 S) S fun v9 S=>aC x.most (aB true v5 (fun k=>aL 15 v9 fun v10=>k v10 S) S fun v11 S=>aC x.most (aB true v5 (fun k=>aH v11 S fun v12 S=>k v12 S) S fun pB S=>aC x.most (aB true v5 (fun k=>k a1 S) S fun pU S=>aC x.most (aB true v5 (fun k=>aH t2 S fun qS S=>k qS S) S fun sV S=>aC x.most (aB true v5 (fun k=>cP PP sV fun v17=>k v17 S) S fun xS S=>aC x.most (aB true v5 (fun k=>aL 0 xS fun yH=>k yH S) S fun v20 S=>aC x.most (aB true v5 (fun k=>aL 2 v20 fun v21=>k v21 S) S fun v22 S=>aC x.most (aB true v5 (fun k=>aH v22 S fun v23 S=>k v23 S) S fun v24 S=>aC x.most (aB true v5 (fun k=>x.call oC [pB,pU] S fun v25 S=>k v25 S) S fun v26 S=>aC x.most (nF true v5 v24 (fun k=>aH v22 S fun CP _=>bH CP v24 k) (aC x.most (nF true v5 sV (fun k=>aH t2 S fun v28 _=>bH v28 sV k) (aC x.most (nF true v5 v7 (fun k=>aH t2 S fun JG _=>bH JG v7 k) (aH v3 S fun v30 _=>bH v30 v4 (aH t2 S fun v31 _=>bH v31 v0 (aC x.most (aB true v5 (fun k=>aE PP .gtr 3 v26 v24 fun v32=>k v32 S) S fun v33 S=>aC x.most (cK v5 v33 (.bool false) fun BV=>pA BV (aH t2 S fun v35 S=>x.call iV [v35,a1] S fun KJ S=>sU 1 t4 .nil S fun S=>sU 1 t5 (.bool true) S fun S=>PN l .done (some .ret) false S K) (PN l .ready none true S K))))))))))))))))))))))
theorem EY (x:VE) (l:Nat) (t2 t4 t5 a0 a1:V) (S:Hp) (K:KV):Nq PP cM x 40 (aHK PP aV [.r,.l,.r,.d]) (aHL PP aV [.r,.l,.r,.d]) (aFn PP aV [.r,.l,.r,.d]) l [t2,t4,t5] [a0,a1] S K=tQ x l t2 t4 t5 a0 a1 S K:=by kernel_rfl
theorem EZ:[2,4,5]=Jj cM 40 (aFn PP aV [.r,.l,.r,.d]):=by kernel_rfl
def yI (x:VE) (a0 a1:V) (S:Hp) (K:KV):Prop:=
 tW 119 a1 S fun v0 S=>
 cP PP a0 fun v1=>
 aL 0 v1 fun v2=>
 aL 4 v2 fun v3=>
 aH v3 S fun v4 S=>
 x.call dQ [a0,v4] S fun v5 S=>
 pY 0 v5 fun v6=>
 pY 1 v5 fun v7=>
 gZ [(.int .i64 (.ofNat 0)),(.int .i64 (.ofNat 0)),(.int .u8 (.ofNat 0)),(.int .i64 (.ofNat 0)),(.string ⟨⟨[]⟩⟩)] 94 S fun v8 S=>
 sU 5 v8 v6 S fun S=>
 cP PP a0 fun v9=>
 aL 0 v9 fun v10=>
 aL 5 v10 fun v11=>
 aH v11 S fun v12 S=>
 aE PP .neq 3 v12 (.int .i64 (.ofNat 1)) fun pB=>
 aC x.most (aB false pB (fun k=>k v7 S) S fun pU S=>aC x.most (aB false pB (fun k=>NX .not pU fun qS=>k qS S) S fun sV S=>aC x.most (cK pB (.bool true) sV fun v17=>aC x.most (aB false v17 (fun k=>aL 3 v8 fun xS=>k xS S) S fun yH S=>aC x.most (aB false v17 (fun k=>aH yH S fun v20 S=>k v20 S) S fun v21 S=>aC x.most (aB false v17 (fun k=>aE PP .neq 3 v21 (.int .i64 (.negSucc 0)) fun v22=>k v22 S) S fun v23 S=>aC x.most (cK v17 (.bool true) v23 fun v24=>aC x.most (aB false v24 (fun k=>aL 1 v0 fun v25=>k v25 S) S fun v26 S=>aC x.most (aB false v24 (fun k=>aH v26 S fun CP S=>k CP S) S fun v28 S=>aC x.most (aB false v24 (fun k=>aL 4 v8 fun JG=>k JG S) S fun v30 S=>aC x.most (aB false v24 (fun k=>aH v30 S fun v31 S=>k v31 S) S fun v32 S=>aC x.most (aB false v24 (fun k=>x.call fH [v28,v32] S fun v33 S=>k v33 S) S fun BV S=>aC x.most (aB false v24 (fun k=>NX .not BV fun v35=>k v35 S) S fun KJ S=>aC x.most (cK v24 (.bool true) KJ fun v37=>pA v37 (bD (.tuple [.nil,(.bool false)]) S K) (aL 4 v8 fun VF=>aH VF S fun v39 S=>cP PP a0 fun v40=>aL 0 v40 fun v41=>aL 7 v41 fun Ic=>aH Ic S fun Id S=>aE PP .eql 9 Id (.str []) fun v44=>x.call fM [a0,v39,v44] S fun v45 S=>aH Ic S fun v46 _=>bH v46 Id (pY 0 v45 fun Bv=>pY 1 v45 fun Jy=>bD (.tuple [Bv,Jy]) S K))))))))))))))))
theorem KK (x:VE) (a0 a1:V) (S:Hp) (K:KV):pP PP cM iU x [a0,a1] S K=yI x a0 a1 S K:=by kernel_rfl
def BY (x:VE) (a0 a1:V) (S:Hp) (K:KV):Prop:=
 tW 119 a1 S fun v0 S=>
 cP PP a0 fun v1=>
 aL 0 v1 fun v2=>
 aL 4 v2 fun v3=>
 aH v3 S fun v4 S=>
 x.call dQ [a0,v4] S fun v5 S=>
 pY 0 v5 fun v6=>
 pY 1 v5 fun v7=>
 gZ [(.int .i64 (.ofNat 0)),(.int .i64 (.ofNat 0)),(.int .u8 (.ofNat 0)),(.int .i64 (.ofNat 0)),(.string ⟨⟨[]⟩⟩)] 94 S fun v8 S=>
 sU 5 v8 v6 S fun S=>
 cP PP a0 fun v9=>
 aL 0 v9 fun v10=>
 aL 5 v10 fun v11=>
 aH v11 S fun v12 S=>
 aE PP .neq 3 v12 (.int .i64 (.ofNat 1)) fun pB=>
 aC x.most (aB false pB (fun k=>k v7 S) S fun pU S=>aC x.most (aB false pB (fun k=>NX .not pU fun qS=>k qS S) S fun sV S=>aC x.most (cK pB (.bool true) sV fun v17=>aC x.most (aB false v17 (fun k=>aL 3 v8 fun xS=>k xS S) S fun yH S=>aC x.most (aB false v17 (fun k=>aH yH S fun v20 S=>k v20 S) S fun v21 S=>aC x.most (aB false v17 (fun k=>aE PP .eql 3 v21 (.int .i64 (.negSucc 0)) fun v22=>k v22 S) S fun v23 S=>aC x.most (cK v17 (.bool true) v23 fun v24=>aC x.most (aB false v24 (fun k=>k a0 S) S fun v25 S=>aC x.most (aB false v24 (fun k=>aL 3 v8 fun v26=>k v26 S) S fun CP S=>aC x.most (aB false v24 (fun k=>aH CP S fun v28 S=>k v28 S) S fun JG S=>aC x.most (aB false v24 (fun k=>aL 4 v8 fun v30=>k v30 S) S fun v31 S=>aC x.most (aB false v24 (fun k=>aH v31 S fun v32 S=>k v32 S) S fun v33 S=>aC x.most (aB false v24 (fun k=>x.call fV [v25,JG,(.int .u8 (.ofNat 3)),v33] S fun BV S=>k BV S) S fun v35 S=>aC x.most (aB false v24 (fun k=>NX .not v35 fun KJ=>k KJ S) S fun v37 S=>aC x.most (cK v24 (.bool true) v37 fun VF=>pA VF (bD (.tuple [.nil,(.bool false)]) S K) (aL 4 v8 fun v39=>aH v39 S fun v40 S=>cP PP a0 fun v41=>aL 0 v41 fun Ic=>aL 9 Ic fun Id=>aH Id S fun v44 S=>aL 3 v8 fun v45=>aH v45 S fun v46 S=>aE PP .leq 3 v44 v46 fun Bv=>x.call fM [a0,v40,Bv] S fun Jy S=>aH v45 S fun v49 _=>bH v49 v46 (aH Id S fun v50 _=>bH v50 v44 (pY 0 Jy fun v51=>pY 1 Jy fun v52=>bD (.tuple [v51,v52]) S K))))))))))))))))))
theorem OV (x:VE) (a0 a1:V) (S:Hp) (K:KV):pP PP cM kW x [a0,a1] S K=BY x a0 a1 S K:=by kernel_rfl
def AV (x:VE) (a0 a1:V) (S:Hp) (K:KV):Prop:=
 tW 119 a1 S fun v0 S=>
 cP PP a0 fun v1=>
 aL 0 v1 fun v2=>
 aL 4 v2 fun v3=>
 aH v3 S fun v4 S=>
 x.call dQ [a0,v4] S fun v5 S=>
 pY 0 v5 fun v6=>
 pY 1 v5 fun v7=>
 gZ [(.int .i64 (.ofNat 0)),(.int .i64 (.ofNat 0)),(.int .u8 (.ofNat 0)),(.int .i64 (.ofNat 0)),(.string ⟨⟨[]⟩⟩)] 94 S fun v8 S=>
 sU 5 v8 v6 S fun S=>
 cP PP a0 fun v9=>
 aL 0 v9 fun v10=>
 aL 5 v10 fun v11=>
 aH v11 S fun v12 S=>
 aE PP .eql 3 v12 (.int .i64 (.ofNat 1)) fun pB=>
 aC x.most (aB false pB (fun k=>k a0 S) S fun pU S=>aC x.most (aB false pB (fun k=>cP PP pU fun qS=>k qS S) S fun sV S=>aC x.most (aB false pB (fun k=>aL 0 sV fun v17=>k v17 S) S fun xS S=>aC x.most (aB false pB (fun k=>aL 12 xS fun yH=>k yH S) S fun v20 S=>aC x.most (aB false pB (fun k=>aH v20 S fun v21 S=>k v21 S) S fun v22 S=>aC x.most (cK pB (.bool true) v22 fun v23=>aC x.most (aB false v23 (fun k=>k v7 S) S fun v24 S=>aC x.most (aB false v23 (fun k=>NX .not v24 fun v25=>k v25 S) S fun v26 S=>aC x.most (cK v23 (.bool true) v26 fun CP=>aC x.most (aB false CP (fun k=>k a0 S) S fun v28 S=>aC x.most (aB false CP (fun k=>k a0 S) S fun JG S=>aC x.most (aB false CP (fun k=>cP PP JG fun v30=>k v30 S) S fun v31 S=>aC x.most (aB false CP (fun k=>aL 0 v31 fun v32=>k v32 S) S fun v33 S=>aC x.most (aB false CP (fun k=>aL 4 v33 fun BV=>k BV S) S fun v35 S=>aC x.most (aB false CP (fun k=>aH v35 S fun KJ S=>k KJ S) S fun v37 S=>aC x.most (aB false CP (fun k=>aL 4 v8 fun VF=>k VF S) S fun v39 S=>aC x.most (aB false CP (fun k=>aH v39 S fun v40 S=>k v40 S) S fun v41 S=>aC x.most (aB false CP (fun k=>x.call fV [v28,v37,(.int .u8 (.ofNat 3)),v41] S fun Ic S=>k Ic S) S fun Id S=>aC x.most (nF false pB v22 (fun k=>aH v20 S fun v44 _=>bH v44 v22 k) (aH v11 S fun v45 _=>bH v45 v12 (aC x.most (aB false CP (fun k=>NX .not Id fun v46=>k v46 S) S fun Bv S=>aC x.most (cK CP (.bool true) Bv fun Jy=>pA Jy (bD (.tuple [.nil,(.bool false)]) S K) (aL 4 v8 fun v49=>aH v49 S fun v50 S=>cP PP a0 fun v51=>aL 0 v51 fun v52=>aL 4 v52 fun v53=>aH v53 S fun v54 S=>cP PP a0 fun v55=>aL 0 v55 fun v56=>aL 12 v56 fun v57=>sU 1 v57 (.bool true) S fun S=>aH v49 S fun v58 _=>bH v58 v50 (cP PP a0 fun v59=>aL 0 v59 fun v60=>aL 8 v60 fun v61=>sU 1 v61 v50 S fun S=>cP PP a0 fun v62=>aL 0 v62 fun v63=>aL 10 v63 fun v64=>sU 1 v64 v54 S fun S=>cP PP a0 fun v65=>aL 0 v65 fun v66=>aL 5 v66 fun v67=>aH v67 S fun v68 S=>aE PP .eql 3 v68 (.int .i64 (.ofNat 3)) fun v69=>pA v69 (bD (.tuple [.nil,(.bool true)]) S K) (aL 4 v8 fun v70=>aH v70 S fun v71 S=>cP PP a0 fun v72=>aL 0 v72 fun v73=>aL 4 v73 fun v74=>aH v74 S fun v75 S=>cP PP a0 fun v76=>aL 0 v76 fun v77=>aL 7 v77 fun v78=>sU 1 v78 v71 S fun S=>cP PP a0 fun v79=>aL 0 v79 fun v80=>aL 9 v80 fun v81=>sU 1 v81 v75 S fun S=>x.call dX [a0,(.int .i64 (.ofNat 3))] S fun v82 S=>aL 4 v8 fun v83=>aH v83 S fun v84 S=>x.call dG [a0,(.int .u8 (.ofNat 4)),(.int .i64 (.ofNat 0)),v84] S fun v85 S=>bD (.tuple [v85,(.bool true)]) S K))))))))))))))))))))))))))
theorem NI (x:VE) (a0 a1:V) (S:Hp) (K:KV):pP PP cM jR x [a0,a1] S K=AV x a0 a1 S K:=by kernel_rfl
def wG (x:VE) (a0 a1:V) (S:Hp) (K:KV):Prop:=
 tW 119 a1 S fun v0 S=>
 cP PP a0 fun v1=>
 aL 0 v1 fun v2=>
 aL 5 v2 fun v3=>
 aH v3 S fun v4 S=>
 aE PP .neq 3 v4 (.int .i64 (.ofNat 2)) fun v5=>
 aC x.most (aB false v5 (fun k=>k a0 S) S fun v6 S=>aC x.most (aB false v5 (fun k=>k a0 S) S fun v7 S=>aC x.most (aB false v5 (fun k=>cP PP v7 fun v8=>k v8 S) S fun v9 S=>aC x.most (aB false v5 (fun k=>aL 0 v9 fun v10=>k v10 S) S fun v11 S=>aC x.most (aB false v5 (fun k=>aL 4 v11 fun v12=>k v12 S) S fun pB S=>aC x.most (aB false v5 (fun k=>aH pB S fun pU S=>k pU S) S fun qS S=>aC x.most (aB false v5 (fun k=>x.call fV [v6,qS,(.int .u8 (.ofNat 3)),(.str [])] S fun sV S=>k sV S) S fun v17 S=>aC x.most (aB false v5 (fun k=>NX .not v17 fun xS=>k xS S) S fun yH S=>aC x.most (cK v5 (.bool true) yH fun v20=>pA v20 (bD (.tuple [.nil,(.bool false)]) S K) (x.call dX [a0,(.int .i64 (.ofNat 3))] S fun v21 S=>x.call dG [a0,(.int .u8 (.ofNat 4)),(.int .i64 (.ofNat 0)),(.str [])] S fun v22 S=>bD (.tuple [v22,(.bool true)]) S K))))))))))
theorem HT (x:VE) (a0 a1:V) (S:Hp) (K:KV):pP PP cM gR x [a0,a1] S K=wG x a0 a1 S K:=by kernel_rfl
def jW (x:VE) (t0 t6 t7:V) (S:Hp) (K:KV):Prop:=EC PP cM eD x [.r,.r,.r] [] [t0,t6,t7] S K
def wH (x:VE) (a0 a1:V) (S:Hp) (K:KV):Prop:=
 tW 119 a1 S fun v0 S=>
 cP PP a0 fun v1=>
 aL 0 v1 fun v2=>
 aL 8 v2 fun v3=>
 aH v3 S fun v4 S=>
 cP PP a0 fun v5=>
 aL 0 v5 fun v6=>
 aL 10 v6 fun v7=>
 aH v7 S fun v8 S=>
 aE PP .eql 9 v4 (.str []) fun v9=>
 pA v9 (aL 0 v0 fun v10=>aH v10 S fun v11 S=>jW x a0 v11 (.int .i64 (.negSucc 0)) S K) (jW x a0 v4 v8 S K)
theorem HU (x:VE) (a0 a1:V) (S:Hp) (K:KV):pP PP cM eD x [a0,a1] S K=wH x a0 a1 S K:=by kernel_rfl
def mS (x:VE) (t0 t6 t7:V) (S:Hp) (K:KV):Prop:=
 jC S fun S=>
 cP PP t0 fun v0=>
 aL 0 v0 fun v1=>
 aL 5 v1 fun v2=>
 aH v2 S fun v3 S=>
 aE PP .neq 3 v3 (.int .i64 (.ofNat 1)) fun v4=>
 aC x.most (aB false v4 (fun k=>k t0 S) S fun v5 S=>aC x.most (aB false v4 (fun k=>cP PP v5 fun v6=>k v6 S) S fun v7 S=>aC x.most (aB false v4 (fun k=>aL 0 v7 fun v8=>k v8 S) S fun v9 S=>aC x.most (aB false v4 (fun k=>aL 11 v9 fun v10=>k v10 S) S fun v11 S=>aC x.most (aB false v4 (fun k=>aH v11 S fun v12 S=>k v12 S) S fun pB S=>aC x.most (cK v4 (.bool true) pB fun pU=>aC x.most (aB false pU (fun k=>k t0 S) S fun qS S=>aC x.most (aB false pU (fun k=>k t0 S) S fun sV S=>aC x.most (aB false pU (fun k=>cP PP sV fun v17=>k v17 S) S fun xS S=>aC x.most (aB false pU (fun k=>aL 0 xS fun yH=>k yH S) S fun v20 S=>aC x.most (aB false pU (fun k=>aL 4 v20 fun v21=>k v21 S) S fun v22 S=>aC x.most (aB false pU (fun k=>aH v22 S fun v23 S=>k v23 S) S fun v24 S=>aC x.most (aB false pU (fun k=>k t0 S) S fun v25 S=>aC x.most (aB false pU (fun k=>cP PP v25 fun v26=>k v26 S) S fun CP S=>aC x.most (aB false pU (fun k=>aL 0 CP fun v28=>k v28 S) S fun JG S=>aC x.most (aB false pU (fun k=>aL 3 JG fun v30=>k v30 S) S fun v31 S=>aC x.most (aB false pU (fun k=>aH v31 S fun v32 S=>k v32 S) S fun v33 S=>aC x.most (aB false pU (fun k=>x.call bV [qS,v24] S fun BV S=>k BV S) S fun v35 S=>aC x.most (nF false pU v33 (fun k=>aH v31 S fun KJ _=>bH KJ v33 k) (aC x.most (nF false v4 pB (fun k=>aH v11 S fun v37 _=>bH v37 pB k) (aH v2 S fun VF _=>bH VF v3 (aC x.most (aB false pU (fun k=>aE PP .neq 3 v35 v33 fun v39=>k v39 S) S fun v40 S=>aC x.most (cK pU (.bool true) v40 fun v41=>aC x.most (aB false v41 (fun k=>k t6 S) S fun Ic S=>aC x.most (aB false v41 (fun k=>aE PP .eql 9 Ic (.str []) fun Id=>k Id S) S fun v44 S=>aC x.most (cK v41 (.bool true) v44 fun v45=>pA v45 (bD (.tuple [.nil,(.bool false)]) S K) (cP PP t0 fun v46=>aL 0 v46 fun Bv=>aL 11 Bv fun Jy=>sU 1 Jy (.bool true) S fun S=>x.call dG [t0,(.int .u8 (.ofNat 2)),t7,t6] S fun v49 S=>bD (.tuple [v49,(.bool true)]) S K)))))))))))))))))))))))))))))
theorem AW (x:VE) (t0 t6 t7:V) (S:Hp) (K:KV):BU PP cM eD x [.r,.r,.r] [] [t0,t6,t7] S K=mS x t0 t6 t7 S K:=by kernel_rfl
theorem BM (x:VE) (hm:x.most≠0) (t0 t6 t7:V) (S:Hp) (K:KV):jW x t0 t6 t7 S K=mS x t0 t6 t7 S K:=(tP (hm:=hm) ..).trans (AW x t0 t6 t7 S K)
def EQ (x:VE) (a0 a1:V) (S:Hp) (K:KV):Prop:=
 cP PP a0 fun v0=>
 aL 0 v0 fun v1=>
 aL 5 v1 fun v2=>
 sU 1 v2 a1 S fun S=>
 cP PP a0 fun v3=>
 aL 0 v3 fun v4=>
 aL 6 v4 fun v5=>
 sU 1 v5 (.int .i64 (.ofNat 0)) S fun S=>
 bD (.tuple []) S K
theorem RQ (x:VE) (a0 a1:V) (S:Hp) (K:KV):pP PP cM dX x [a0,a1] S K=EQ x a0 a1 S K:=by kernel_rfl
def BZ (x:VE) (a0 a1 a2 a3:V) (S:Hp) (K:KV):Prop:=
 cP PP a0 fun v0=>
 aL 0 v0 fun v1=>
 aL 3 v1 fun v2=>
 aH v2 S fun v3 S=>
 cP PP a0 fun v4=>
 aL 0 v4 fun v5=>
 aL 4 v5 fun v6=>
 aH v6 S fun v7 S=>
 iQ [(.int .i64 (.ofNat 0)),(.int .i64 (.ofNat 0)),(.int .u8 (.ofNat 0)),(.int .i64 (.ofNat 0)),(.string ⟨⟨[]⟩⟩)] [(0,1,v3),(1,1,v7),(2,1,a1),(3,1,a2),(4,1,a3)] fun v8=>
 x.call eI [a0,v8] S fun v9 S=>
 aH v6 S fun v10 _=>
 bH v10 v7 (aH v2 S fun v11 _=>bH v11 v3 (cP PP a0 fun v12=>aL 0 v12 fun pB=>aL 0 pB fun pU=>aH pU S fun qS S=>cP PP a0 fun sV=>aL 0 sV fun v17=>aL 4 v17 fun xS=>aH xS S fun yH S=>iQ [(.int .u8 (.ofNat 0)),(.int .i64 (.ofNat 0)),(.int .i64 (.ofNat 0)),(.int .i64 (.ofNat 0)),(.int .i64 (.ofNat 0)),(.int .i64 (.ofNat 0)),(.int .i64 (.ofNat 0)),(.int .i64 (.ofNat 0)),(.int .i64 (.ofNat 0)),(.string ⟨⟨[]⟩⟩),(.slice none 0 0)] [(0,1,a1),(3,1,qS),(4,1,yH),(5,1,a2),(9,1,a3)] fun v20=>aH xS S fun v21 _=>bH v21 yH (aH pU S fun v22 _=>bH v22 qS ((cQ 37 1 [(.int .u8 (.ofNat 0)),(.int .i64 (.ofNat 0)),(.int .i64 (.ofNat 0)),(.int .i64 (.ofNat 0)),(.int .i64 (.ofNat 0)),(.int .i64 (.ofNat 0)),(.int .i64 (.ofNat 0)),(.int .i64 (.ofNat 0)),(.int .i64 (.ofNat 0)),(.string ⟨⟨[]⟩⟩),(.slice none 0 0)] [(0,11,v20)] S fun v23 S=>True)/\(cQ 37 1 [(.int .u8 (.ofNat 0)),(.int .i64 (.ofNat 0)),(.int .i64 (.ofNat 0)),(.int .i64 (.ofNat 0)),(.int .i64 (.ofNat 0)),(.int .i64 (.ofNat 0)),(.int .i64 (.ofNat 0)),(.int .i64 (.ofNat 0)),(.int .i64 (.ofNat 0)),(.string ⟨⟨[]⟩⟩),(.slice none 0 0)] [(0,11,v20)] S fun v24 S=>bD v24 S K)))))
theorem OW (x:VE) (a0 a1 a2 a3:V) (S:Hp) (K:KV):pP PP cM dG x [a0,a1,a2,a3] S K=BZ x a0 a1 a2 a3 S K:=by kernel_rfl
def yJ (x:VE) (a0 a1:V) (S:Hp) (K:KV):Prop:=
 x.call dX [a0,(.int .i64 (.ofNat 1))] S fun v0 S=>
 cP PP a0 fun v1=>
 aL 0 v1 fun v2=>
 aL 4 v2 fun v3=>
 sU 1 v3 a1 S fun S=>
 cP PP a0 fun v4=>
 aL 0 v4 fun v5=>
 aL 11 v5 fun v6=>
 sU 1 v6 (.bool false) S fun S=>
 cP PP a0 fun v7=>
 aL 0 v7 fun v8=>
 aL 12 v8 fun v9=>
 sU 1 v9 (.bool false) S fun S=>
 bD (.tuple []) S K
theorem KL (x:VE) (a0 a1:V) (S:Hp) (K:KV):pP PP cM iV x [a0,a1] S K=yJ x a0 a1 S K:=by kernel_rfl
def jX (x:VE) (t0 t1:V) (S:Hp) (K:KV):Prop:=EC PP cM fM x [.r,.r,.r] [] [t0,t1] S K
def wI (x:VE) (a0 a1 a2:V) (S:Hp) (K:KV):Prop:=
 x.call dX [a0,(.int .i64 (.ofNat 2))] S fun v0 S=>
 NX .not a2 fun v1=>
 aC x.most (aB true v1 (fun k=>k a0 S) S fun v2 S=>aC x.most (aB true v1 (fun k=>cP PP v2 fun v3=>k v3 S) S fun v4 S=>aC x.most (aB true v1 (fun k=>aL 0 v4 fun v5=>k v5 S) S fun v6 S=>aC x.most (aB true v1 (fun k=>aL 7 v6 fun v7=>k v7 S) S fun v8 S=>aC x.most (aB true v1 (fun k=>aH v8 S fun v9 S=>k v9 S) S fun v10 S=>aC x.most (aB true v1 (fun k=>k a1 S) S fun v11 S=>aC x.most (aB true v1 (fun k=>aE PP .neq 9 v10 v11 fun v12=>k v12 S) S fun pB S=>aC x.most (cK v1 pB (.bool false) fun pU=>pA pU (jX x a0 (.str []) S K) (jX x a0 a1 S K)))))))))
theorem HV (x:VE) (a0 a1 a2:V) (S:Hp) (K:KV):pP PP cM fM x [a0,a1,a2] S K=wI x a0 a1 a2 S K:=by kernel_rfl
def mT (x:VE) (t0 t1:V) (S:Hp) (K:KV):Prop:=
 jC S fun S=>
 x.call dG [t0,(.int .u8 (.ofNat 3)),(.int .i64 (.ofNat 0)),t1] S fun v0 S=>
 bD (.tuple [v0,(.bool true)]) S K
theorem AX (x:VE) (t0 t1:V) (S:Hp) (K:KV):BU PP cM fM x [.r,.r,.r] [] [t0,t1] S K=mT x t0 t1 S K:=by kernel_rfl
theorem BN (x:VE) (hm:x.most≠0) (t0 t1:V) (S:Hp) (K:KV):jX x t0 t1 S K=mT x t0 t1 S K:=(tP (hm:=hm) ..).trans (AX x t0 t1 S K)
def lD (x:VE) (t2 t49:V) (S:Hp) (K:KV):Prop:=EC PP cM eT x [.r,.r,.l,.r,.d,.r,.r,.r] [] [t2,t49] S K
def HW (x:VE) (a0 a1:V) (S:Hp) (K:KV):Prop:=
 tW 94 a0 S fun v0 S=>
 aL 0 v0 fun v1=>
 aH v1 S fun v2 S=>
 aE PP .lss 3 v2 (.int .i64 (.ofNat 1)) fun v3=>
 aC x.most (aB false v3 (fun k=>aL 0 v0 fun v4=>k v4 S) S fun v5 S=>aC x.most (aB false v3 (fun k=>aH v5 S fun v6 S=>k v6 S) S fun v7 S=>aC x.most (aB false v3 (fun k=>k a1 S) S fun v8 S=>aC x.most (aB false v3 (fun k=>aE PP .gtr 3 v7 v8 fun v9=>k v9 S) S fun v10 S=>aC x.most (cK v3 (.bool true) v10 fun v11=>aC x.most (aB false v11 (fun k=>aL 1 v0 fun v12=>k v12 S) S fun pB S=>aC x.most (aB false v11 (fun k=>aH pB S fun pU S=>k pU S) S fun qS S=>aC x.most (aB false v11 (fun k=>aE PP .lss 3 qS (.int .i64 (.ofNat 0)) fun sV=>k sV S) S fun v17 S=>aC x.most (cK v11 (.bool true) v17 fun xS=>aC x.most (aB false xS (fun k=>aL 1 v0 fun yH=>k yH S) S fun v20 S=>aC x.most (aB false xS (fun k=>aH v20 S fun v21 S=>k v21 S) S fun v22 S=>aC x.most (aB false xS (fun k=>aE PP .geq 3 v22 (.int .i64 (.ofNat 100)) fun v23=>k v23 S) S fun v24 S=>aC x.most (cK xS (.bool true) v24 fun v25=>aC x.most (aB false v25 (fun k=>aL 4 v0 fun v26=>k v26 S) S fun CP S=>aC x.most (aB false v25 (fun k=>aH CP S fun v28 S=>k v28 S) S fun JG S=>aC x.most (aB false v25 (fun k=>uD JG fun v30=>k v30 S) S fun v31 S=>aC x.most (aB false v25 (fun k=>aE PP .gtr 3 v31 (.int .i64 (.ofNat 2048)) fun v32=>k v32 S) S fun v33 S=>aC x.most (cK v25 (.bool true) v33 fun BV=>pA BV (bD (.bool false) S K) (aL 2 v0 fun v35=>aH v35 S fun KJ S=>aE PP .eql 5 KJ (.int .u8 (.ofNat 2)) fun v37=>pA v37 (aL 4 v0 fun VF=>aH VF S fun v39 S=>aE PP .neq 9 v39 (.str []) fun v40=>aC x.most (aB true v40 (fun k=>aL 3 v0 fun v41=>k v41 S) S fun Ic S=>aC x.most (aB true v40 (fun k=>aH Ic S fun Id S=>k Id S) S fun v44 S=>aC x.most (aB true v40 (fun k=>aE PP .geq 3 v44 (.int .i64 (.negSucc 0)) fun v45=>k v45 S) S fun v46 S=>aC x.most (cK v40 v46 (.bool false) fun Bv=>aC x.most (aB true Bv (fun k=>aL 3 v0 fun Jy=>k Jy S) S fun v49 S=>aC x.most (aB true Bv (fun k=>aH v49 S fun v50 S=>k v50 S) S fun v51 S=>aC x.most (aB true Bv (fun k=>aL 1 v0 fun v52=>k v52 S) S fun v53 S=>aC x.most (aB true Bv (fun k=>aH v53 S fun v54 S=>k v54 S) S fun v55 S=>aC x.most (aB true Bv (fun k=>aE PP .lss 3 v51 v55 fun v56=>k v56 S) S fun v57 S=>aC x.most (cK Bv v57 (.bool false) fun v58=>bD v58 S K))))))))))) (aE PP .eql 5 KJ (.int .u8 (.ofNat 3)) fun v59=>pA v59 (lD x v0 v59 S K) (aE PP .eql 5 KJ (.int .u8 (.ofNat 4)) fun v60=>lD x v0 v60 S K)))))))))))))))))))))
theorem XQ (x:VE) (a0 a1:V) (S:Hp) (K:KV):pP PP cM eT x [a0,a1] S K=HW x a0 a1 S K:=by kernel_rfl
def oE (x:VE) (t2 t49:V) (S:Hp) (K:KV):Prop:=
 jC S fun S=>
 pA t49 (aL 3 t2 fun v0=>aH v0 S fun v1 S=>aE PP .eql 3 v1 (.int .i64 (.ofNat 0)) fun v2=>bD v2 S K) (bD (.bool false) S K)
theorem CS (x:VE) (t2 t49:V) (S:Hp) (K:KV):BU PP cM eT x [.r,.r,.l,.r,.d,.r,.r,.r] [] [t2,t49] S K=oE x t2 t49 S K:=by kernel_rfl
theorem ES (x:VE) (hm:x.most≠0) (t2 t49:V) (S:Hp) (K:KV):lD x t2 t49 S K=oE x t2 t49 S K:=(tP (hm:=hm) ..).trans (CS x t2 t49 S K)
def nC (x:VE) (a0 a1:V) (S:Hp) (K:KV):Prop:=
 x.call gB [a0,a1] S fun v0 S=>
 aE PP .geq 3 v0 (.int .i64 (.ofNat 0)) fun v1=>
 bD v1 S K
theorem uM (x:VE) (a0 a1:V) (S:Hp) (K:KV):pP PP cM fH x [a0,a1] S K=nC x a0 a1 S K:=by kernel_rfl
def eW (x:VE) (m:Nat) (t0 t1 t7 t8:V) (S:Hp) (K:KV):Prop:=sL PP cM gB x [.r,.l,.r,.d] m [] [t0,t1,t7,t8] S K
def oP (x:VE) (a0 a1:V) (S:Hp) (K:KV):Prop:=
 dJ a0 fun v0=>
 eW x x.most a0 a1 v0 (.int .i64 (.ofNat 0)) S K
theorem wL (x:VE) (a0 a1:V) (S:Hp) (K:KV):pP PP cM gB x [a0,a1] S K=oP x a0 a1 S K:=by kernel_rfl
def gO (x:VE) (m0:Nat) (t0 t1 t7 t8:V) (S:Hp) (K:KV):Prop:=
 jC S fun S=>
 aE PP .lss 3 t8 t7 fun v0=>
 pA v0 (kX 1 t0 t8 fun v1=>aH v1 S fun v2 S=>aE PP .eql 9 t1 v2 fun v3=>pA v3 (bD t8 S K) (aE PP .add 3 t8 (.int .i64 (.ofNat 1)) fun v4=>eW x m0 t0 t1 t7 v4 S K)) (bD (.int .i64 (.negSucc 0)) S K)
theorem lR (x:VE) (m0:Nat) (t0 t1 t7 t8:V) (S:Hp) (K:KV):eW x (m0+1) t0 t1 t7 t8 S K=gO x m0 t0 t1 t7 t8 S K:=by kernel_rfl
def qL (x:VE) (a0:V) (S:Hp) (K:KV):Prop:=
 tW 33 a0 S fun v0 S=>
 bD (.func eU [] [v0]) S K
theorem zC (x:VE) (a0:V) (S:Hp) (K:KV):pP PP cM lO x [a0] S K=qL x a0 S K:=by kernel_rfl
def dS (x:VE) (m:Nat) (t0 t1 t3:V) (S:Hp) (K:KV):Prop:=sL PP cM eU x [.r,.d] m [] [t0,t1,t3] S K
def pG (x:VE) (a0 a1:V) (S:Hp) (K:KV):Prop:=
 aH a1 S fun v0 S=>
 dJ v0 fun v1=>
 aE PP .sub 3 v1 (.int .i64 (.ofNat 1)) fun v2=>
 dS x x.most a0 a1 v2 S K
theorem xY (x:VE) (a0 a1:V) (S:Hp) (K:KV):pP PP cM eU x [a0,a1] S K=pG x a0 a1 S K:=by kernel_rfl
def iR (x:VE) (m0:Nat) (t0 t1 t3:V) (S:Hp) (K:KV):Prop:=
 jC S fun S=>
 aE PP .geq 3 t3 (.int .i64 (.ofNat 0)) fun v0=>
 pA v0 (aH t1 S fun v1 S=>kX 1 v1 t3 fun v2=>aH v2 S fun v3 S=>fF x t0 [t3,v3] S fun v4 S=>NX .not v4 fun v5=>pA v5 (bD (.tuple []) S K) (aE PP .sub 3 t3 (.int .i64 (.ofNat 1)) fun v6=>dS x m0 t0 t1 v6 S K)) (bD (.tuple []) S K)
theorem nD (x:VE) (m0:Nat) (t0 t1 t3:V) (S:Hp) (K:KV):dS x (m0+1) t0 t1 t3 S K=iR x m0 t0 t1 t3 S K:=by kernel_rfl
def ZU (x:VE) (a0:V) (S:Hp) (K:KV):Prop:=
 aE PP .lss 3 a0 (.int .i64 (.ofNat 1)) fun v0=>
 aC x.most (aB false v0 (fun k=>k a0 S) S fun v1 S=>aC x.most (aB false v0 (fun k=>aE PP .gtr 3 v1 (.int .i64 (.ofNat 7)) fun v2=>k v2 S) S fun v3 S=>aC x.most (cK v0 (.bool true) v3 fun v4=>pA v4 (bD (.tuple [.sD,(.int .i64 (.ofNat 1))]) S K) (Bq S fun v5 S=>iQ [(.int .i64 (.ofNat 0)),(.map none)] [(0,1,a0),(1,1,v5)] fun v6=>tW 160 v6 S fun v7 S=>bD (.tuple [v7,(.int .i64 (.ofNat 0))]) S K))))
theorem Vi (x:VE) (a0:V) (S:Hp) (K:KV):pP PP cM wE x [a0] S K=ZU x a0 S K:=by kernel_rfl
def FZ (x:VE) (a0 a1:V) (S:Hp) (K:KV):Prop:=
 tW 94 a1 S fun v0 S=>
 aE PP .eql 122 a0 .sD fun v1=>
 aC x.most (aB false v1 (fun k=>iP 5 v0 S fun v2 S=>k v2 S) S fun v3 S=>aC x.most (aB false v1 (fun k=>k a0 S) S fun v4 S=>aC x.most (aB false v1 (fun k=>cP PP v4 fun v5=>k v5 S) S fun v6 S=>aC x.most (aB false v1 (fun k=>aL 0 v6 fun v7=>k v7 S) S fun v8 S=>aC x.most (aB false v1 (fun k=>aH v8 S fun v9 S=>k v9 S) S fun v10 S=>aC x.most (aB false v1 (fun k=>x.call eT [v3,v10] S fun v11 S=>k v11 S) S fun v12 S=>aC x.most (aB false v1 (fun k=>NX .not v12 fun pB=>k pB S) S fun pU S=>aC x.most (cK v1 (.bool true) pU fun qS=>pA qS (bD (.bool false) S K) (aL 1 v0 fun sV=>aH sV S fun v17 S=>aL 0 v0 fun xS=>aH xS S fun yH S=>aL 2 v0 fun v20=>aH v20 S fun v21 S=>iQ [(.int .i64 (.ofNat 0)),(.int .i64 (.ofNat 0)),(.int .u8 (.ofNat 0))] [(0,1,v17),(1,1,yH),(2,1,v21)] fun v22=>gZ [(.int .i64 (.ofNat 0)),(.int .i64 (.ofNat 0)),(.int .u8 (.ofNat 0))] 158 S fun v23 S=>sU 3 v23 v22 S fun S=>cP PP a0 fun v24=>aL 1 v24 fun v25=>aH v25 S fun v26 S=>iP 3 v23 S fun CP S=>TZ (.many [.int .i64,.int .i64,.int .u8]) (.agg [(.int .i64 (.ofNat 0)),(.int .i64 (.ofNat 0)),(.int .u8 (.ofNat 0)),(.int .i64 (.ofNat 0)),(.str [])]) true v26 CP S fun v28 S=>pY 0 v28 fun JG=>pY 1 v28 fun v30=>TZ (.many [.int .i64,.int .i64,.int .u8]) (.agg [(.int .i64 (.ofNat 0)),(.int .i64 (.ofNat 0)),(.int .u8 (.ofNat 0)),(.int .i64 (.ofNat 0)),(.str [])]) true v26 CP S fun v31 _=>bH v31 v28 (iP 3 v23 S fun v32 _=>bH v32 CP (aH v25 S fun v33 _=>bH v33 v26 ((gZ [(.int .i64 (.ofNat 0)),(.int .i64 (.ofNat 0)),(.int .u8 (.ofNat 0)),(.int .i64 (.ofNat 0)),(.string ⟨⟨[]⟩⟩)] 94 S fun BV S=>True)/\(gZ [(.int .i64 (.ofNat 0)),(.int .i64 (.ofNat 0)),(.int .u8 (.ofNat 0)),(.int .i64 (.ofNat 0)),(.string ⟨⟨[]⟩⟩)] 94 S fun v35 S=>sU 5 v35 JG S fun S=>pA v30 (bD (.bool false) S K) (cP PP a0 fun KJ=>aL 1 KJ fun v37=>aH v37 S fun VF S=>iP 3 v23 S fun v39 S=>iP 5 v0 S fun v40 S=>XG (.many [.int .i64,.int .i64,.int .u8]) VF v39 v40 S fun S=>bD (.bool true) S K))))))))))))))
theorem UU (x:VE) (a0 a1:V) (S:Hp) (K:KV):pP PP cM fO x [a0,a1] S K=FZ x a0 a1 S K:=by kernel_rfl
def xZ (x:VE) (a0 a1 a2:V) (S:Hp) (K:KV):Prop:=
 gZ [(.int .i64 (.ofNat 0)),(.int .i64 (.ofNat 0)),(.int .u8 (.ofNat 0)),(.int .i64 (.ofNat 0)),(.string ⟨⟨[]⟩⟩)] 94 S fun v0 S=>
 aE PP .eql 122 a0 .sD fun v1=>
 pA v1 (iQ [(.int .i64 (.ofNat 0)),(.int .i64 (.ofNat 0)),(.int .u8 (.ofNat 0)),(.int .i64 (.ofNat 0)),(.string ⟨⟨[]⟩⟩)] [] fun v2=>sU 5 v0 v2 S fun S=>iP 5 v0 S fun v3 _=>bD (.tuple [v3,(.bool false)]) S K) (cP PP a0 fun v4=>aL 1 v4 fun v5=>aH v5 S fun v6 S=>iQ [(.int .i64 (.ofNat 0)),(.int .i64 (.ofNat 0)),(.int .u8 (.ofNat 0))] [(0,1,a1),(1,1,a2),(2,1,(.int .u8 (.ofNat 2)))] fun v7=>TZ (.many [.int .i64,.int .i64,.int .u8]) (.agg [(.int .i64 (.ofNat 0)),(.int .i64 (.ofNat 0)),(.int .u8 (.ofNat 0)),(.int .i64 (.ofNat 0)),(.str [])]) true v6 v7 S fun v8 S=>pY 0 v8 fun v9=>pY 1 v8 fun v10=>gZ [(.int .i64 (.ofNat 0)),(.int .i64 (.ofNat 0)),(.int .u8 (.ofNat 0)),(.int .i64 (.ofNat 0)),(.string ⟨⟨[]⟩⟩)] 94 S fun v11 S=>sU 5 v11 v9 S fun S=>iP 5 v11 S fun v12 S=>sU 5 v0 v12 S fun S=>iP 5 v0 S fun pB _=>bD (.tuple [pB,v10]) S K)
theorem JK (x:VE) (a0 a1 a2:V) (S:Hp) (K:KV):pP PP cM kP x [a0,a1,a2] S K=xZ x a0 a1 a2 S K:=by kernel_rfl
def kR (x:VE) (m:Nat) (t3 t7 t8 t9:V) (S:Hp) (K:KV):Prop:=sL PP cM jQ x [.r,.r,.l,.r,.d] m [] [t3,t7,t8,t9] S K
def AY (x:VE) (a0:V) (S:Hp) (K:KV):Prop:=
 x.call nA [a0] S fun v0 S=>
 dJ v0 fun v1=>
 kR x x.most .nil v0 v1 (.int .i64 (.ofNat 0)) S K
theorem NJ (x:VE) (a0:V) (S:Hp) (K:KV):pP PP cM jQ x [a0] S K=AY x a0 S K:=by kernel_rfl
def jY (x:VE) (m0:Nat) (t3 t7 t8 t9:V) (S:Hp) (K:KV):Prop:=
 jC S fun S=>
 aE PP .lss 3 t9 t8 fun v0=>
 pA v0 (kX 5 t7 t9 fun v1=>iP 5 v1 S fun v2 S=>gZ [(.int .i64 (.ofNat 0)),(.int .i64 (.ofNat 0)),(.int .u8 (.ofNat 0)),(.int .i64 (.ofNat 0)),(.string ⟨⟨[]⟩⟩)] 94 S fun v3 S=>sU 5 v3 v2 S fun S=>aL 1 v3 fun v4=>aH v4 S fun v5 S=>cQ 3 1 [(.int .i64 (.ofNat 0))] [(0,1,v5)] S fun v6 S=>sE 3 1 8 t3 v6 S fun v7 S=>aE PP .add 3 t9 (.int .i64 (.ofNat 1)) fun v8=>kR x m0 v7 t7 t8 v8 S K) (x.call aU [t3] S fun v9 S=>bD v9 S K)
theorem nL (x:VE) (m0:Nat) (t3 t7 t8 t9:V) (S:Hp) (K:KV):kR x (m0+1) t3 t7 t8 t9 S K=jY x m0 t3 t7 t8 t9 S K:=by kernel_rfl
def wF (x:VE) (a0 a1:V) (S:Hp) (K:KV):Prop:=
 x.call jV [a1] S fun v0 S=>
 x.call oA [v0] S fun v1 S=>
 dJ a1 fun v2=>
 cP PP a0 fun v3=>
 aL 0 v3 fun v4=>
 aL 5 v4 fun v5=>
 aH v5 S fun v6 S=>
 aE PP .eql 3 v2 v6 fun v7=>
 aC x.most (aB true v7 (fun k=>k v0 S) S fun v8 S=>aC x.most (aB true v7 (fun k=>k a0 S) S fun v9 S=>aC x.most (aB true v7 (fun k=>cP PP v9 fun v10=>k v10 S) S fun v11 S=>aC x.most (aB true v7 (fun k=>aL 0 v11 fun v12=>k v12 S) S fun pB S=>aC x.most (aB true v7 (fun k=>aL 5 pB fun pU=>k pU S) S fun qS S=>aC x.most (aB true v7 (fun k=>aH qS S fun sV S=>k sV S) S fun v17 S=>aC x.most (aB true v7 (fun k=>x.call aU [v8] S fun xS S=>k xS S) S fun yH S=>aC x.most (nF true v7 v17 (fun k=>aH qS S fun v20 _=>bH v20 v17 k) (aH v5 S fun v21 _=>bH v21 v6 (aC x.most (aB true v7 (fun k=>dJ yH fun v22=>k v22 S) S fun v23 S=>aC x.most (aB true v7 (fun k=>aE PP .eql 3 v23 v17 fun v24=>k v24 S) S fun v25 S=>aC x.most (cK v7 v25 (.bool false) fun v26=>aC x.most (aB true v26 (fun k=>k v0 S) S fun CP S=>aC x.most (aB true v26 (fun k=>kX 1 CP (.int .i64 (.ofNat 0)) fun v28=>k v28 S) S fun JG S=>aC x.most (aB true v26 (fun k=>aH JG S fun v30 S=>k v30 S) S fun v31 S=>aC x.most (aB true v26 (fun k=>aE PP .geq 3 v31 (.int .i64 (.ofNat 1)) fun v32=>k v32 S) S fun v33 S=>aC x.most (cK v26 v33 (.bool false) fun BV=>aC x.most (aB true BV (fun k=>k v0 S) S fun v35 S=>aC x.most (aB true BV (fun k=>k a0 S) S fun KJ S=>aC x.most (aB true BV (fun k=>cP PP KJ fun v37=>k v37 S) S fun VF S=>aC x.most (aB true BV (fun k=>aL 0 VF fun v39=>k v39 S) S fun v40 S=>aC x.most (aB true BV (fun k=>aL 5 v40 fun v41=>k v41 S) S fun Ic S=>aC x.most (aB true BV (fun k=>aH Ic S fun Id S=>k Id S) S fun v44 S=>aC x.most (aB true BV (fun k=>aE PP .sub 3 v44 (.int .i64 (.ofNat 1)) fun v45=>k v45 S) S fun v46 S=>aC x.most (aB true BV (fun k=>kX 1 v35 v46 fun Bv=>k Bv S) S fun Jy S=>aC x.most (aB true BV (fun k=>aH Jy S fun v49 S=>k v49 S) S fun v50 S=>aC x.most (aB true BV (fun k=>k a0 S) S fun v51 S=>aC x.most (aB true BV (fun k=>cP PP v51 fun v52=>k v52 S) S fun v53 S=>aC x.most (aB true BV (fun k=>aL 0 v53 fun v54=>k v54 S) S fun v55 S=>aC x.most (aB true BV (fun k=>aL 4 v55 fun v56=>k v56 S) S fun v57 S=>aC x.most (aB true BV (fun k=>aH v57 S fun v58 S=>k v58 S) S fun v59 S=>aC x.most (aB true BV (fun k=>aE PP .leq 3 v50 v59 fun v60=>k v60 S) S fun v61 S=>aC x.most (cK BV v61 (.bool false) fun v62=>bD v62 S K))))))))))))))))))))))))))))))))))
theorem HR (x:VE) (a0 a1:V) (S:Hp) (K:KV):pP PP cM mM x [a0,a1] S K=wF x a0 a1 S K:=by kernel_rfl
def sM (x:VE) (a0:V) (S:Hp) (K:KV):Prop:=
 aE PP .eql 33 a0 .nil fun v0=>
 pA v0 (bD .nil S K) (cQ 3 0 [(.int .i64 (.ofNat 0))] [] S fun v1 S=>sE 3 1 8 v1 a0 S fun v2 S=>bD v2 S K)
theorem CQ (x:VE) (a0:V) (S:Hp) (K:KV):pP PP cM jV x [a0] S K=sM x a0 S K:=by kernel_rfl
def dR (x:VE) (m:Nat) (t0 t3:V) (S:Hp) (K:KV):Prop:=sL PP cM aU x [.r,.r,.l,.r,.d] m [] [t0,t3] S K
def dC (x:VE) (m:Nat) (m0:Nat) (t0 t3 t4 t5:V) (S:Hp) (K:KV):Prop:=sL PP cM aU x [.r,.r,.l,.r,.d,.d,.r,.l,.d,.r,.l,.r,.l,.r,.d] m [m0] [t0,t3,t4,t5] S K
def cN (x:VE) (m0:Nat) (m1:Nat) (t0 t3 t4 t5:V) (S:Hp) (K:KV):Prop:=EC PP cM aU x [.r,.r,.l,.r,.d,.d,.r,.l,.d,.r,.l,.r,.l,.r,.d,.d,.r,.r] [m0,m1] [t0,t3,t4,t5] S K
def iT (x:VE) (a0:V) (S:Hp) (K:KV):Prop:=
 dJ a0 fun v0=>
 aE PP .lss 3 v0 (.int .i64 (.ofNat 2)) fun v1=>
 pA v1 (bD a0 S K) (dR x x.most a0 (.int .i64 (.ofNat 1)) S K)
theorem mF (x:VE) (a0:V) (S:Hp) (K:KV):pP PP cM aU x [a0] S K=iT x a0 S K:=by kernel_rfl
def dH (x:VE) (m0:Nat) (t0 t3:V) (S:Hp) (K:KV):Prop:=
 jC S fun S=>
 dJ t0 fun v0=>
 aE PP .lss 3 t3 v0 fun v1=>
 pA v1 (kX 1 t0 t3 fun v2=>aH v2 S fun v3 S=>aE PP .sub 3 t3 (.int .i64 (.ofNat 1)) fun v4=>kX 1 t0 v4 fun v5=>aH v5 S fun v6 S=>aE PP .eql 3 v3 v6 fun v7=>pA v7 (JB 3 1 t0 (some t3) none none S fun v8=>dC x x.most m0 t0 t3 v8 (.int .i64 (.ofNat 1)) S K) (aE PP .add 3 t3 (.int .i64 (.ofNat 1)) fun v9=>dR x m0 t0 v9 S K)) (bD t0 S K)
theorem fI (x:VE) (m0:Nat) (t0 t3:V) (S:Hp) (K:KV):dR x (m0+1) t0 t3 S K=dH x m0 t0 t3 S K:=by kernel_rfl
def eZ (x:VE) (m1:Nat) (m0:Nat) (t0 t3 t4 t5:V) (S:Hp) (K:KV):Prop:=
 jC S fun S=>
 dJ t4 fun v0=>
 aE PP .lss 3 t5 v0 fun v1=>
 pA v1 (kX 1 t4 t5 fun v2=>aH v2 S fun v3 S=>aE PP .sub 3 t5 (.int .i64 (.ofNat 1)) fun v4=>kX 1 t4 v4 fun v5=>aH v5 S fun v6 S=>aE PP .neq 3 v3 v6 fun v7=>pA v7 (kX 1 t4 t5 fun v8=>aH v8 S fun v9 S=>kX 1 t0 t3 fun v10=>sU 1 v10 v9 S fun S=>aE PP .add 3 t3 (.int .i64 (.ofNat 1)) fun v11=>cN x m0 m1 t0 v11 t4 t5 S K) (cN x m0 m1 t0 t3 t4 t5 S K)) (JB 3 1 t0 (some t3) none none S fun v12=>MS [(.int .i64 (.ofNat 0))] v12 S fun S=>JB 3 1 t0 none (some t3) none S fun pB=>bD pB S K)
theorem jF (x:VE) (m1:Nat) (m0:Nat) (t0 t3 t4 t5:V) (S:Hp) (K:KV):dC x (m1+1) m0 t0 t3 t4 t5 S K=eZ x m1 m0 t0 t3 t4 t5 S K:=by kernel_rfl
def eH (x:VE) (m0:Nat) (m1:Nat) (t0 t3 t4 t5:V) (S:Hp) (K:KV):Prop:=
 jC S fun S=>
 aE PP .add 3 t5 (.int .i64 (.ofNat 1)) fun v0=>
 dC x m1 m0 t0 t3 t4 v0 S K
theorem oD (x:VE) (m0:Nat) (m1:Nat) (t0 t3 t4 t5:V) (S:Hp) (K:KV):BU PP cM aU x [.r,.r,.l,.r,.d,.d,.r,.l,.d,.r,.l,.r,.l,.r,.d,.d,.r,.r] [m0,m1] [t0,t3,t4,t5] S K=eH x m0 m1 t0 t3 t4 t5 S K:=by kernel_rfl
theorem oM (x:VE) (hm:x.most≠0) (m0:Nat) (m1:Nat) (t0 t3 t4 t5:V) (S:Hp) (K:KV):cN x m0 m1 t0 t3 t4 t5 S K=eH x m0 m1 t0 t3 t4 t5 S K:=(tP (hm:=hm) ..).trans (oD x m0 m1 t0 t3 t4 t5 S K)
def gJ (x:VE) (m:Nat) (t0 t1 t7 t8:V) (S:Hp) (K:KV):Prop:=sL PP cM dN x [.r,.l,.r,.d] m [] [t0,t1,t7,t8] S K
def sN (x:VE) (a0 a1:V) (S:Hp) (K:KV):Prop:=
 dJ a0 fun v0=>
 gJ x x.most a0 a1 v0 (.int .i64 (.ofNat 0)) S K
theorem CR (x:VE) (a0 a1:V) (S:Hp) (K:KV):pP PP cM dN x [a0,a1] S K=sN x a0 a1 S K:=by kernel_rfl
def kC (x:VE) (m0:Nat) (t0 t1 t7 t8:V) (S:Hp) (K:KV):Prop:=
 jC S fun S=>
 aE PP .lss 3 t8 t7 fun v0=>
 pA v0 (kX 1 t0 t8 fun v1=>aH v1 S fun v2 S=>aE PP .eql 3 t1 v2 fun v3=>pA v3 (bD t8 S K) (aE PP .add 3 t8 (.int .i64 (.ofNat 1)) fun v4=>gJ x m0 t0 t1 t7 v4 S K)) (bD (.int .i64 (.negSucc 0)) S K)
theorem oO (x:VE) (m0:Nat) (t0 t1 t7 t8:V) (S:Hp) (K:KV):gJ x (m0+1) t0 t1 t7 t8 S K=kC x m0 t0 t1 t7 t8 S K:=by kernel_rfl
def fA (x:VE) (m:Nat) (t1 t2 t18 t19 t20:V) (S:Hp) (K:KV):Prop:=sL PP cM lL x [.r,.r,.r,.r,.d] m [] [t1,t2,t18,t19,t20] S K
def EL (x:VE) (a0 a1:V) (S:Hp) (K:KV):Prop:=
 tW 25 a0 S fun v0 S=>
 gZ [(.slice none 0 0)] 23 S fun v1 S=>
 aH v0 S fun v2 S=>
 aH v0 S fun v3 S=>
 cP PP v3 fun v4=>
 aL 17 v4 fun v5=>
 aH v5 S fun v6 S=>
 x.call dP [v6] S fun v7 S=>
 aH v0 S fun v8 _=>
 bH v8 v3 (aH v0 S fun v9 _=>bH v9 v2 (x.call aZ [v7,(.func iA [] [v0,v1])] S fun v10 S=>aH v0 S fun v11 _=>bH v11 v3 (aH v0 S fun v12 _=>bH v12 v2 (cP PP v2 fun pB=>aL 17 pB fun pU=>sU 1 pU v10 S fun S=>aH v1 S fun qS S=>dJ qS fun sV=>fA x x.most a1 v0 qS sV (.int .i64 (.ofNat 0)) S K))))
theorem RM (x:VE) (a0 a1:V) (S:Hp) (K:KV):pP PP cM lL x [a0,a1] S K=EL x a0 a1 S K:=by kernel_rfl
def oX (x:VE) (m0:Nat) (t1 t2 t18 t19 t20:V) (S:Hp) (K:KV):Prop:=
 jC S fun S=>
 aE PP .lss 3 t20 t19 fun v0=>
 pA v0 (kX 11 t18 t20 fun v1=>iP 11 v1 S fun v2 S=>gZ [(.int .u8 (.ofNat 0)),(.int .i64 (.ofNat 0)),(.int .i64 (.ofNat 0)),(.int .i64 (.ofNat 0)),(.int .i64 (.ofNat 0)),(.int .i64 (.ofNat 0)),(.int .i64 (.ofNat 0)),(.int .i64 (.ofNat 0)),(.int .i64 (.ofNat 0)),(.string ⟨⟨[]⟩⟩),(.slice none 0 0)] 37 S fun v3 S=>sU 11 v3 v2 S fun S=>aL 1 v3 fun v4=>aH v4 S fun v5 S=>x.call dN [t1,v5] S fun v6 S=>aE PP .add 3 v6 (.int .i64 (.ofNat 1)) fun v7=>aE PP .eql 3 v7 (.int .i64 (.ofNat 0)) fun v8=>aC x.most (aB false v8 (fun k=>aH t2 S fun v9 S=>k v9 S) S fun v10 S=>aC x.most (aB false v8 (fun k=>cP PP v10 fun v11=>k v11 S) S fun v12 S=>aC x.most (aB false v8 (fun k=>aL 14 v12 fun pB=>k pB S) S fun pU S=>aC x.most (aB false v8 (fun k=>aH pU S fun qS S=>k qS S) S fun sV S=>aC x.most (aB false v8 (fun k=>aE PP .neq 9 sV (.str []) fun v17=>k v17 S) S fun xS S=>aC x.most (cK v8 (.bool true) xS fun yH=>pA yH (aE PP .add 3 t20 (.int .i64 (.ofNat 1)) fun v20=>fA x m0 t1 t2 t18 t19 v20 S K) (aL 0 v3 fun v21=>aH v21 S fun v22 S=>aE PP .eql 5 v22 (.int .u8 (.ofNat 5)) fun v23=>pA v23 (aH t2 S fun v24 S=>aL 1 v3 fun v25=>aH v25 S fun v26 S=>aL 9 v3 fun CP=>aH CP S fun v28 S=>x.call oB [v24,v26,v28] S fun JG S=>aE PP .add 3 t20 (.int .i64 (.ofNat 1)) fun v30=>fA x m0 t1 t2 t18 t19 v30 S K) (aH t2 S fun v31 S=>cP PP v31 fun v32=>aL 15 v32 fun v33=>aH v33 S fun BV S=>iP 11 v3 S fun v35 S=>x.call qB [BV,v7,v35] S fun KJ S=>aH t2 S fun v37 _=>bH v37 v31 (aE PP .add 3 t20 (.int .i64 (.ofNat 1)) fun VF=>fA x m0 t1 t2 t18 t19 VF S K)))))))))) (bD (.tuple []) S K)
theorem uF (x:VE) (m0:Nat) (t1 t2 t18 t19 t20:V) (S:Hp) (K:KV):fA x (m0+1) t1 t2 t18 t19 t20 S K=oX x m0 t1 t2 t18 t19 t20 S K:=by kernel_rfl
def qJ (x:VE) (t1 t3:V) (S:Hp) (K:KV):Prop:=EC PP cM iA x [.r,.r] [] [t1,t3] S K
def AQ (x:VE) (a0 a1 a2:V) (S:Hp) (K:KV):Prop:=
 tW 37 a0 S fun v0 S=>
 aL 3 v0 fun v1=>
 aH v1 S fun v2 S=>
 aH a1 S fun v3 S=>
 cP PP v3 fun v4=>
 aL 13 v4 fun v5=>
 aH v5 S fun v6 S=>
 aE PP .eql 3 v2 v6 fun v7=>
 pA v7 (aH a2 S fun v8 S=>iP 11 v0 S fun v9 S=>cQ 37 1 [(.int .u8 (.ofNat 0)),(.int .i64 (.ofNat 0)),(.int .i64 (.ofNat 0)),(.int .i64 (.ofNat 0)),(.int .i64 (.ofNat 0)),(.int .i64 (.ofNat 0)),(.int .i64 (.ofNat 0)),(.int .i64 (.ofNat 0)),(.int .i64 (.ofNat 0)),(.string ⟨⟨[]⟩⟩),(.slice none 0 0)] [(0,11,v9)] S fun v10 S=>sE 37 11 112 v8 v10 S fun v11 S=>sU 1 a2 v11 S fun S=>qJ x a1 v0 S K) (qJ x a1 v0 S K)
theorem NE (x:VE) (a0 a1 a2:V) (S:Hp) (K:KV):pP PP cM iA x [a0,a1,a2] S K=AQ x a0 a1 a2 S K:=by kernel_rfl
def lX (x:VE) (t1 t3:V) (S:Hp) (K:KV):Prop:=
 jC S fun S=>
 aL 3 t3 fun v0=>
 aH v0 S fun v1 S=>
 aH t1 S fun v2 S=>
 cP PP v2 fun v3=>
 aL 13 v3 fun v4=>
 aH v4 S fun v5 S=>
 aE PP .eql 3 v1 v5 fun v6=>
 bD v6 S K
theorem EW (x:VE) (t1 t3:V) (S:Hp) (K:KV):BU PP cM iA x [.r,.r] [] [t1,t3] S K=lX x t1 t3 S K:=by kernel_rfl
theorem uW (x:VE) (hm:x.most≠0) (t1 t3:V) (S:Hp) (K:KV):qJ x t1 t3 S K=lX x t1 t3 S K:=(tP (hm:=hm) ..).trans (EW x t1 t3 S K)
def qK (x:VE) (a0 a1:V) (S:Hp) (K:KV):Prop:=
 x.call dN [a0,a1] S fun v0 S=>
 aE PP .geq 3 v0 (.int .i64 (.ofNat 0)) fun v1=>
 bD v1 S K
theorem zB (x:VE) (a0 a1:V) (S:Hp) (K:KV):pP PP cM lM x [a0,a1] S K=qK x a0 a1 S K:=by kernel_rfl
structure Vo where
 fr:Int
 rd:Int
 kd:Nat
 vl:Int
 tx:List UInt8
def Vo.dt (v:Vo):List Dt:=[.int .i64 v.fr,.int .i64 v.rd,.int .u8 (.ofNat v.kd),.int .i64 v.vl,.str v.tx]
def Vo.vv (v:Vo):List V:=[.int .i64 v.fr,.int .i64 v.rd,.int .u8 (.ofNat v.kd),.int .i64 v.vl,.str v.tx]
def voD (l:List Vo):List Dt:=l.flatMap Vo.dt
def voV (l:List Vo):List V:=l.flatMap Vo.vv
theorem aHW (l:List Vo):(voD l).length=l.length*5:=by
 induction l with
 | nil=>rfl
 | cons v l ih=>simp [voD,Vo.dt]at ih ⊢;omega
theorem aKL (l:List Vo) (i:Nat) (v:Vo) (h:l[i]? =some v):((voD l).drop (i*5)).take 5=v.dt:=by
 induction l generalizing i with
 | nil=>simp at h
 | cons a l ih=>
  cases i with
  | zero=>simp at h;subst h;simp [voD,Vo.dt]
  | succ i=>
   have:=ih i (by simpa using h);rw [<-this];simp only [voD,VO];rw [show(i+1)*5=a.dt.length+i*5 by simp [Vo.dt];omega,<-IH];simp
theorem aJl (l:List Vo) (O:Tag):voV l=(voD l).map (T O):=by
 induction l with
 | nil=>rfl
 | cons v l ih=>simp [voV,voD,Vo.vv,Vo.dt,T]at ih ⊢;exact ih
theorem aBK (l:List Vo):(voV l).length=l.length*5:=by rw [aJl l (.root 0),DD,aHW]
def ints (l:List Int):List V:=l.map (V.int .i64)
def pV (l:List Int):List Dt:=l.map (Dt.int .i64)
theorem ET (l:List Int):(ints l).length=l.length:=by simp [ints]
theorem OG (l:List Int):(pV l).length=l.length:=by simp [pV]
theorem NL{l:List Int}{p:Nat} (h:p<l.length):l.getD p 0=l[p]:=by rw [ID,aS h];rfl
theorem yC{l:List Int}{p:Nat} (h:p<l.length):(ints l)[p]? =some (.int .i64 (l.getD p 0)):=by
 unfold ints;rw [lA,aS h,NL h];rfl
theorem ints_set (l:List Int) (p:Nat) (z:Int):(ints l).set p (.int .i64 z)=ints (l.set p z):=by
 unfold ints;rw [List.map_set]
def kp (zs:List Int) (j:Nat):Bool:=decide (j=0) || !decide (zs.getD j 0=zs.getD (j-1) 0)
def dq (zs:List Int):Nat->List Int
 | 0=>[]
 | j+1=>if kp zs j then dq zs j++[zs.getD j 0]else dq zs j
def dd (zs:List Int):List Int:=dq zs zs.length
theorem Pe{zs:List Int}{j:Nat} (h0:0<j) (h:zs.getD j 0=zs.getD (j-1) 0):dq zs (j+1)=dq zs j:=by
 conv=>lhs;unfold dq
 rw [show kp zs j=false by unfold kp;rw [bM (by omega),bK h];rfl];rfl
theorem aAr{zs:List Int}{j:Nat} (h:¬zs.getD j 0=zs.getD (j-1) 0):dq zs (j+1)=dq zs j++[zs.getD j 0]:=by
 conv=>lhs;unfold dq
 rw [show kp zs j=true by unfold kp;rw [bM h];simp];rfl
theorem aFX (zs:List Int):∀j,(dq zs j).length<=j:=by
 intro j;induction j with
 | zero=>exact bN _
 | succ j ih=>
  unfold dq;split
  ·rw [bW];simp;exact ih
  ·omega
theorem aAs{i:Nat} (h:0<i) (h2:i<4611686018427387904):dW .i64 (Int.ofNat i-Int.ofNat 1)=Int.ofNat (i-1):=by
 rw [wrap_small]<;>simp<;>omega
theorem Gi{S S':Hp}{i:Nat}{o:Ob} (h:gA S' S) (e:S' i=none):gA S' (aR S i o):=fun j q hq=>by
 by_cases hj:j=i
 ·subst hj;rw [e]at hq;cases hq
 ·rw [aF hj];exact h j q hq
section
variable{x:VE}{K:KV}{zs:List Int}{i n:Nat}{S':Hp}
theorem aJm (hn:zs.length=n) (hM:n<x.most) (hb:n<1000000000) (hs:S' i=none) (hk:∀O,K (.list O (pV (dd zs)) (dd zs).length) S') (m0:Nat){k:Nat} (k1:1<=k):
 ∀(m k2 kk:Nat) (S:Hp) (cur:List Int),gA S' S->S i=some (.jK (ints cur) 3 n)->cur.length=n->1<=k2->k+k2<=n->n<=k+k2+m->kk=(dq zs (k+k2)).length->kk<k+k2->cur.take kk=dq zs (k+k2)->cur.drop (k+k2-1)=zs.drop (k+k2-1)->
  dC x (m+1) m0 (.acc i n) (.int .i64 (.ofNat kk)) (.pO i n (k*1) (n-k) (n-k)) (.int .i64 (.ofNat k2)) S K:=by
 have fin:∀(k2 kk:Nat) (S:Hp) (cur:List Int),gA S' S->S i=some (.jK (ints cur) 3 n)->cur.length=n->k+k2=n->kk=(dq zs (k+k2)).length->kk<k+k2->cur.take kk=dq zs (k+k2)->
  (JB 3 1 (.acc i n) (some (.int .i64 (.ofNat kk))) none none S fun v12=>MS [(.int .i64 (.ofNat 0))] v12 S fun S=>JB 3 1 (.acc i n) none (some (.int .i64 (.ofNat kk))) none S fun pB=>bD pB S K):=by
  intro k2 kk S cur hle hi hc tC e1 e2 e3;refine UC hi (by omega) ?_;refine Fh hi rfl (by omega) (by simp [ET];omega) ?_;refine Nt aD (by omega) (by omega) ?_;have e4:dq zs (k+k2)=dd zs:=by rw [tC,<-hn];rfl
  rw [e4]at e1 e3;have e5:(dd zs).length=kk:=e1.symm;refine⟨S',fun O=> .list (O 0) (pV (dd zs)) kk,Gi hle hs,fun O=> .one (.dat (.pO (cs:=pV (dd zs)) aD hs (by omega) ?_ ?_)),fun O=>by rw [<-e5];exact hk _⟩
  ·rw [OG,e5];unfold aG;simp [ET];omega
  ·intro j v d h1 h2
   have hj:j<kk:=by have:=(cZ.1 h2).1;rw [OG]at this;omega
   have h3:(ints cur)[j]? =some v:=by
    unfold aG at h1;rw [fK,KX,fQ (by rw [iX,ET];omega),kZ,if_pos (by omega)]at h1;exact h1
   rw [yC (by omega)]at h3;injection h3 with h3;subst h3;unfold pV at h2;rw [lA,<-e3,kZ,if_pos hj,aS (by omega)]at h2;injection h2 with h2;subst h2;rw [NL (by omega)];exact .int
 intro m;induction m with
 | zero=>
  intro k2 kk S cur hle hi hc h2 aKQ hm e1 e2 e3 e4;rw [jF];unfold eZ;refine aQ ?_;rw [Jr,cI,bR,if_neg (by simp;omega)];exact fin k2 kk S cur hle hi hc (by omega) e1 e2 e3
 | succ m ih=>
  intro k2 kk S cur hle hi hc h2 aKQ hm e1 e2 e3 e4;rw [jF];unfold eZ;refine aQ ?_;rw [Jr,cI,bR];by_cases hlt:k2<n-k
  ·have cell:∀p,k+k2-1<=p->p<n->cur.getD p 0=zs.getD p 0:=by
    intro p h1 h3;have:=kA (fun l:List Int=>l.getD (p-(k+k2-1)) 0) e4;simp only [ID,kI]at this;rw [show k+k2-1+(p-(k+k2-1))=p by omega]at this;simpa [ID]using this
   rw [if_pos (by simp;omega),Ff hlt];refine Fg hi (yC (by omega)) ?_;rw [gQ,aAs (by omega) (by omega),Ff (by omega)];refine Fg hi (yC (by omega)) ?_;rw [kT,bR];have c1:cur.getD (k*1+k2*1) 0=zs.getD (k+k2) 0:=by rw [show k*1+k2*1=k+k2 by omega];exact cell _ (by omega) (by omega)
   have c2:cur.getD (k*1+(k2-1)*1) 0=zs.getD (k+k2-1) 0:=by rw [show k*1+(k2-1)*1=k+k2-1 by omega];exact cell _ (by omega) (by omega)
   rw [c1,c2]
   have next:∀(S2:Hp) (aDe:List Int) (kk2:Nat),gA S' S2->S2 i=some (.jK (ints aDe) 3 n)->aDe.length=n->kk2=(dq zs (k+(k2+1))).length->kk2<k+(k2+1)->aDe.take kk2=dq zs (k+(k2+1))->aDe.drop (k+k2)=zs.drop (k+k2)->cN x m0 (m+1) (.acc i n) (.int .i64 (.ofNat kk2)) (.pO i n (k*1) (n-k) (n-k)) (.int .i64 (.ofNat k2)) S2 K:=by
    intro S2 aDe kk2 q1 q2 q3 q4 q5 q6 q7;rw [oM x (by omega)];unfold eH;refine aQ ?_;rw [kU,MU (by omega)];exact ih (k2+1) kk2 S2 aDe q1 q2 q3 (by omega) (by omega) (by omega) q4 q5 q6 (by rw [show k+(k2+1)-1=k+k2 by omega];exact q7)
   have hd1:cur.drop (k+k2)=zs.drop (k+k2):=by
    have:=kA (List.drop 1) e4
    rwa [IH,IH,show k+k2-1+1=k+k2 by omega]at this
   have hz:¬k+k2=0:=by omega
   by_cases hd:zs.getD (k+k2) 0=zs.getD (k+k2-1) 0
   ·rw [if_neg (by simp only [hd];simp)]
    have e5:dq zs (k+(k2+1))=dq zs (k+k2):=Pe (show 0<k+k2 by omega) hd;exact next S cur kk hle hi hc (by rw [e5];exact e1) (by omega) (by rw [e5];exact e3) hd1
   ·rw [if_pos (by rw [bM hd];rfl),Ff hlt]
    refine Fg hi (yC (by omega)) ?_;rw [c1,uU (by omega),sA];refine aM1 hi rfl (by rw [ET];omega) ?_;rw [RE (by rw [ET];omega),ints_set,kU,MU (show kk<4611686018427387904 by have:=aFX zs (k+k2);omega)];have e5:dq zs (k+(k2+1))=dq zs (k+k2)++[zs.getD (k+k2) 0]:=aAr hd;refine next _ _ (kk+1) (Gi hle hs) aD (by simp;omega) (by rw [e5,bW,<-e1];rfl) (by omega) ?_ ?_
    ·rw [e5,<-e3]
     apply uH;intro p;rw [kZ];by_cases h1:p<kk
     ·rw [if_pos (by omega),PV (by omega),fQ (by rw [iX];omega),kZ,if_pos h1]
     ·by_cases h3:p=kk
      ·subst h3
       rw [if_pos (by omega),List.getElem?_set_self (by omega),iO (by rw [iX];omega),iX];rw [show p-min p cur.length=0 by omega];rfl
      ·rw [if_neg (by omega),DC (by simp;omega)]
    ·rw [List.drop_set_of_lt (by omega)];exact hd1
  ·rw [if_neg (by simp;omega)]
   exact fin k2 kk S cur hle hi hc (by omega) e1 e2 e3
theorem aNb (hn:zs.length=n) (hM:n<x.most) (hb:n<1000000000) (hs:S' i=none) (hk:∀O,K (.list O (pV (dd zs)) (dd zs).length) S'){S:Hp} (hle:gA S' S) (hi:S i=some (.jK (ints zs) 3 n)):
 ∀(m k:Nat),1<=k->k<=n->n<=k+m->dq zs k=zs.take k->dR x (m+1) (.acc i n) (.int .i64 (.ofNat k)) S K:=by
 have fin:∀k,n=k->dq zs k=zs.take k->bD (.acc i n) S K:=by
  intro k h1 h2;subst h1;have e4:dd zs=zs:=by unfold dd;rw [hn,h2,<-hn,VQ]
  refine⟨S',fun O=> .list (O 0) (pV zs) n,hle,fun O=> .one (.dat (.acc hi hs (by rw [ET,OG]) ?_)),fun O=>by have:=hk (O 0);rwa [e4,hn]at this⟩;intro j v d h3 h4;unfold ints at h3;unfold pV at h4;rw [lA]at h3 h4;cases hq:zs[j]? with
  | none=>rw [hq]at h3;cases h3
  | some z=>rw [hq]at h3 h4;injection h3 with h3;injection h4 with h4;subst h3 h4;exact .int
 intro m;induction m with
 | zero=>
  intro k h1 h2 h3 h4;rw [fI];unfold dH;refine aQ ?_;rw [yY,cI,bR,if_neg (by simp;omega)];exact fin k (by omega) h4
 | succ m ih=>
  intro k h1 h2 h3 h4;rw [fI];unfold dH;refine aQ ?_;rw [yY,cI,bR];by_cases hlt:k<n
  ·rw [if_pos (by simp;omega),uU hlt]
   refine Fg hi (yC (by omega)) ?_;rw [gQ,aAs (by omega) (by omega),uU (by omega)];refine Fg hi (yC (by omega)) ?_;rw [fB,bR,sA,sA];have hz:¬k=0:=by omega
   by_cases hd:zs.getD k 0=zs.getD (k-1) 0
   ·rw [if_pos (by simp only [hd];simp)]
    refine UC hi hlt ?_;obtain⟨p,hp⟩:=eY (show x.most≠0 by omega);rw [hp];have e5:dq zs (k+1)=zs.take k:=(Pe (by omega) hd).trans h4;have e6:(dq zs (k+1)).length=k:=by rw [e5,iX];omega
    exact aJm hn hM hb hs hk (m+1) h1 p 1 k S zs hle hi hn (bN _) (by omega) (by omega) e6.symm (by omega) e5.symm rfl
   ·rw [if_neg (by rw [bM hd];simp),kU,MU (by omega)]
    refine ih (k+1) (by omega) (by omega) (by omega) ?_;rw [aAr hd,GE,aS (by omega),h4,NL (by omega)];rfl
  ·rw [if_neg (by simp;omega)]
   exact fin k (by omega) h4
end
section
variable{ov:Nr}{M d i n:Nat}{x:VE}{S S':Hp}{K:KV}{zs:List Int}
theorem aDf (hf:ov aU=none) (hx:Deep PP cM ov M (d+1) x) (hn:zs.length=n) (hM:n<M) (hb:n<1000000000) (hs:S' i=none) (hle:gA S' S) (h1:1<=n) (hi:S i=some (.jK (ints zs) 3 n)) (hk:∀O,K (.list O (pV (dd zs)) (dd zs).length) S'):x.call aU [.acc i n] S K:=by
 refine hx.call hf fun y hy=>?_;rw [mF];unfold iT;have hm:y.most=M:=hy.most;rw [yY,cI,bR]
 have one:dq zs 1=zs.take 1:=by
  cases zs with
  | nil=>simp at hn;omega
  | cons a l=>rfl
 by_cases h2:n<2
 ·rw [if_pos (by simp;omega)]
  have e:n=1:=by omega
  subst e;have e4:dd zs=zs:=by unfold dd;rw [hn,one,<-hn,VQ]
  refine⟨S',fun O=> .list (O 0) (pV zs) 1,hle,fun O=> .one (.dat (.acc hi hs (by rw [ET,OG]) ?_)),fun O=>by have:=hk (O 0);rwa [e4,hn]at this⟩;intro j v d h3 h4;unfold ints at h3;unfold pV at h4;rw [lA]at h3 h4;cases hq:zs[j]? with
  | none=>rw [hq]at h3;cases h3
  | some z=>rw [hq]at h3 h4;injection h3 with h3;injection h4 with h4;subst h3 h4;exact .int
 ·rw [if_neg (by simp;omega)]
  obtain⟨p,hp⟩:=eY (show y.most≠0 by omega);rw [hp];exact aNb hn (by omega) hb hs hk hle hi p 1 (bN _) h1 (by omega) one
end
def Vo.may (v:Vo) (n:Int):Bool:= !(decide (v.fr<1) || decide (n<v.fr) || decide (v.rd<0) || decide (100<=v.rd) || decide (2048<v.tx.length))&&
 (if v.kd=2 then(!decide (v.tx=[]))&&decide (-1<=v.vl)&&decide (v.vl<v.rd)else if v.kd=3\/v.kd=4 then decide (v.vl=0)else false)
variable{ov:Nr}{M n b t:Nat}{x:VE}{S:Hp}{K:KV}{ty:TypeId}
theorem aNp (hM:M≠0) (hf:ov eT=none) (hx:Deep PP cM ov M (n+1) x){v:Vo}{z:Int} (hk:K (.bool (v.may z)) S):x.call eT [.agg v.vv,.int .i64 z] S K:=by
 refine hx.call hf fun y hy=>?_;have hm:y.most≠0:=by rw [hy.most];exact hM
 rw [XQ];unfold HW;refine mB rfl fun i hi=>?_;have hr:aR S i (.row v.vv 94) i=some (.row v.vv 94):=aD;have hle:gA S (aR S i (.row v.vv 94)):= .aT hi;generalize aR S i (.row v.vv 94)=S1 at hr hle;have l0:∀{K:KV},aH (.ptr i 0) S1 K=K (.int .i64 v.fr) S1:=eL hr;have l1:∀{K:KV},aH (.ptr i 1) S1 K=K (.int .i64 v.rd) S1:=eL hr;have l2:∀{K:KV},aH (.ptr i 2) S1 K=K (.int .u8 (.ofNat v.kd)) S1:=eL hr;have l3:∀{K:KV},aH (.ptr i 3) S1 K=K (.int .i64 v.vl) S1:=eL hr;have l4:∀{K:KV},aH (.ptr i 4) S1 K=K (.str v.tx) S1:=eL hr;have fin:∀{bb:Bool},v.may z=bb->bD (.bool bb) S1 K:=fun e=>dZ hle (by rw [<-e];exact hk);simp only [gF,fK,l0,cI,aP];have e1:∀a b:Int,(Int.ofNat 1=1):=fun _ _=>rfl;by_cases h1:v.fr<1
 ·simp only [show decide (v.fr<Int.ofNat 1)=true from bK h1,dE,bO,if_true,bR]
  refine fin ?_;simp [Vo.may,h1]
 simp only [show decide (v.fr<Int.ofNat 1)=false from bM h1,aN,bO,if_false,cJ,l0,nR];by_cases h2:z<v.fr
 ·simp only [bK h2,dE,bO,if_true,bR]
  refine fin ?_;simp [Vo.may,h2]
 simp only [bM h2,aN,bO,if_false,cJ,l1,cI];by_cases h3:v.rd<0
 ·simp only [show decide (v.rd<Int.ofNat 0)=true from bK h3,dE,bO,if_true,bR]
  refine fin ?_;simp [Vo.may,h3]
 simp only [show decide (v.rd<Int.ofNat 0)=false from bM h3,aN,bO,if_false,cJ,l1,nS];by_cases h4:100<=v.rd
 ·simp only [show decide (Int.ofNat 100<=v.rd)=true from bK h4,dE,if_true,bR]
  refine fin ?_;simp [Vo.may,h4]
 simp only [show decide (Int.ofNat 100<=v.rd)=false from bM h4,aN,bO,if_false,cJ,bR,l2,l4,nR,fB,XI,aHH];by_cases h5:2048<v.tx.length
 ·simp only [show decide (Int.ofNat 2048<Int.ofNat v.tx.length)=true from bK (by simp;omega),if_true]
  refine fin ?_;simp [Vo.may,h5]
 simp only [show decide (Int.ofNat 2048<Int.ofNat v.tx.length)=false from bM (by simp;omega),if_false,cJ]
 have hj:∀bb:Bool,(bb=true->v.may z=decide (v.vl=0))->(bb=false->v.may z=false)->lD y (.ptr i 0) (.bool bb) S1 K:=by
  intro bb q1 q2;rw [ES y hm];unfold oE;refine aQ ?_;rw [bR];cases bb with
  | true=>
   rw [if_pos rfl,gF,fK,l3,fB];exact fin (q1 rfl)
  | false=>exact fin (q2 rfl)
 by_cases k2:v.kd=2
 ·simp only [show decide (Int.ofNat v.kd=Int.ofNat 2)=true from bK (by rw [k2]),if_true]
  by_cases k3:v.tx=[]
  ·simp only [bK k3,fJ,CX,bO,if_false,cJ]
   refine fin ?_;simp [Vo.may,k2,k3]
  simp only [bM k3,fD,aN,bO,if_true,l3,nS];by_cases k4: -1<=v.vl
  ·simp only [show decide (Int.negSucc 0<=v.vl)=true from bK k4,aN,if_true,l3,l1,cI]
   refine fin ?_;simp [Vo.may,h1,h2,h3,h4,h5,k2,k3,k4]
  ·simp only [show decide (Int.negSucc 0<=v.vl)=false from bM k4,CX,if_false,cJ]
   refine fin ?_;simp [Vo.may,k2,k4]
 ·simp only [show decide (Int.ofNat v.kd=Int.ofNat 2)=false from bM (fun e=>k2 (VX e)),if_false,cJ]
  by_cases k3:v.kd=3
  ·simp only [show decide (Int.ofNat v.kd=Int.ofNat 3)=true from bK (by rw [k3]),if_true]
   refine hj true (fun _=>?_) (fun e=>by cases e);simp [Vo.may,h1,h2,h3,h4,h5,k3]
  ·simp only [show decide (Int.ofNat v.kd=Int.ofNat 3)=false from bM (fun e=>k3 (VX e)),if_false,cJ]
   refine hj _ (fun e=>?_) (fun e=>?_)
   ·have k4:v.kd=4:=VX (BD e)
    simp [Vo.may,h1,h2,h3,h4,h5,k4]
   ·have k4:¬v.kd=4:=fun q=>KW e (by rw [q])
    simp [Vo.may,k2,k3,k4]
def Vo.key (v:Vo):V:= .agg [.int .i64 v.rd,.int .i64 v.fr,.int .u8 (.ofNat v.kd)]
def eV (v:Vo):V×V:=(v.key,.agg v.vv)
def Vo.at (v:Vo) (r f:Int) (k:Nat):Bool:=decide (v.rd=r)&&decide (v.fr=f)&&decide (v.kd=k)
structure Tal (S:Hp) (t m:Nat) (n:Int) (l:List Vo):Prop where
 row:S t=some (.row [.int .i64 n,.tM m] 160)
 map:S m=some (.map (l.map eV))
theorem Tal.le{S S':Hp}{t m:Nat}{n:Int}{l:List Vo} (a:Tal S t m n l) (h:gA S S'):Tal S' t m n l:=⟨h _ _ a.row,h _ _ a.map⟩
theorem aAE{r f:Int}{k:Nat}{v:Vo}:(V.agg [.int .i64 r,.int .i64 f,.int .u8 (.ofNat k)]=v.key)↔v.at r f k=true:=by
 unfold Vo.key Vo.at;simp only [bT,decide_eq_true_eq];constructor
 ·intro h
  injection h with h;injection h with h1 h;injection h with h2 h;injection h with h3 h;injection h1 with _ h1;injection h2 with _ h2;injection h3 with _ h3;exact⟨⟨h1.symm,h2.symm⟩,(VX h3).symm⟩
 ·rintro⟨⟨rfl,rfl⟩,rfl⟩;rfl
theorem Bz (l:List Vo) (r f:Int) (k:Nat):Ak (l.map eV) (.agg [.int .i64 r,.int .i64 f,.int .u8 (.ofNat k)])=(l.find? fun v=>v.at r f k).map fun v=> .agg v.vv:=by
 induction l with
 | nil=>rfl
 | cons v l ih=>
  simp only [vK,Ak,eV,List.find?_cons];by_cases h:v.at r f k=true
  ·rw [if_pos (aAE.2 h),h];rfl
  ·rw [if_neg (fun e=>h (aAE.1 e))]
   simp only [Bool.not_eq_true]at h;rw [h];exact ih
theorem aIe (l:List Vo) (v:Vo) (h:l.find? (fun u=>u.at v.rd v.fr v.kd)=none):XF (l.map eV) v.key (.agg v.vv)=(l++[v]).map eV:=by
 induction l with
 | nil=>rfl
 | cons u l ih=>
  simp only [List.find?_cons]at h;split at h
  ·cases h
  ·rename_i hu
   simp only [vK,XF,eV,List.cons_append];rw [if_neg (fun e=>by rw [aAE.1 e]at hu;cases hu)];exact kA _ (ih h)
theorem Pl (l:List Vo):∀e∈l.map eV,RB (.many [.int .i64,.int .i64,.int .u8]) e.1:=by
 intro e he;obtain⟨v,_,rfl⟩:=mA.1 he;exact⟨rfl,rfl,rfl,trivial⟩
theorem aBQ:PO PP 122=some .ptr:=by kernel_rfl
def KP:Vo:=⟨0,0,0,0,[]⟩
variable{ov:Nr}{M n b t m:Nat}{x:VE}{S:Hp}{K:KV}{ty:TypeId}
theorem aKY (hf:ov kP=none) (hx:Deep PP cM ov M (n+1) x){z r f:Int}{l:List Vo} (a:Tal S t m z l) (hk:K (.tuple [.agg (((l.find? fun v=>v.at r f 2).getD KP).vv),.bool (l.find? fun v=>v.at r f 2).isSome]) S):x.call kP [.ptr t 0,.int .i64 r,.int .i64 f] S K:=by
 refine hx.call hf fun y hy=>?_;rw [JK];unfold xZ;refine kV rfl fun i hi=>?_;refine UB aBQ ?_;rw [bR,if_neg (by simp),bG,gF];have iM:gA S (aR S i (.row KP.vv 94)):= .aT hi;have a1:=a.le iM;refine jU a1.row rfl ?_;have hb:∀{k:V->Prop},k (.agg [.int .i64 r,.int .i64 f,.int .u8 (.ofNat 2)])->iQ [(.int .i64 (.ofNat 0)),(.int .i64 (.ofNat 0)),(.int .u8 (.ofNat 0))] [(0,1,.int .i64 r),(1,1,.int .i64 f),(2,1,(.int .u8 (.ofNat 2)))] k:=fun h=>⟨rfl,by simp,rfl,by simp [aG],rfl,by simp [aG],h⟩;refine hb ?_
 have go:∀(w:List V) (is:Bool),w.length=5->w.all tO=true->K (.tuple [.agg w,.bool is]) S->pY 0 (.tuple [.agg w,.bool is]) fun v9=>pY 1 (.tuple [.agg w,.bool is]) fun v10=>
  gZ [(.int .i64 (.ofNat 0)),(.int .i64 (.ofNat 0)),(.int .u8 (.ofNat 0)),(.int .i64 (.ofNat 0)),(.string ⟨⟨[]⟩⟩)] 94 (aR S i (.row KP.vv 94)) fun v11 S=>
  sU 5 v11 v9 S fun S=>iP 5 v11 S fun v12 S=>sU 5 (.ptr i 0) v12 S fun S=>iP 5 (.ptr i 0) S fun pB _=>bD (.tuple [pB,v10]) S K:=by
  intro w is hw ho hk;refine oH rfl ?_;refine oH rfl ?_;refine kV (l:=KP.vv) rfl fun j hj=>?_;obtain⟨Ln,hj0⟩:=xG hj;refine nG aD ho hw rfl ?_;rw [fG];refine jD aD hw ?_;refine nG (by rw [aF (dV Ln)];exact aD) ho hw rfl ?_;refine jD aD hw ?_;refine dZ (S':=S) ?_ hk;rw [aFb Ln,fG];exact(gA.aT hi).trans (.aT (by rw [aF Ln];exact hj0))
 refine Tw a1.map ⟨rfl,rfl,rfl,trivial⟩ (Pl l) (fun v hv=>?_) (fun hv=>?_)
 ·rw [Bz]at hv
  cases hq:l.find? (fun v=>v.at r f 2)with
  | none=>rw [hq]at hv;cases hv
  | some u=>
   rw [hq]at hv hk;injection hv with hv;subst hv;exact go u.vv true rfl rfl hk
 ·rw [Bz]at hv
  cases hq:l.find? (fun v=>v.at r f 2)with
  | some u=>rw [hq]at hv;cases hv
  | none=>
   rw [hq]at hk;exact go KP.vv false rfl rfl hk
end Go.Am
namespace Go.Am
open Go.RowKit Go.MapKept Go.Proofs
def Pf (v:Vo):List Value:=[.int .i64 v.fr,.int .i64 v.rd,.int .u8 (.ofNat v.kd),.int .i64 v.vl,.string ⟨⟨v.tx⟩⟩]
def UY (v:Vo):Value:= .agg ⟨Pf v⟩
def Vo.lt (a b:Vo):Bool:=decide (a.rd<b.rd) || (decide (a.rd=b.rd)&&(decide (a.fr<b.fr) || (decide (a.fr=b.fr)&&decide (a.kd<b.kd))))
def Pd (v:Vo):List Vo->List Vo
 | []=>[v]
 | u::l=>if v.lt u then v::u::l else u::Pd v l
def sortV:List Vo->List Vo
 | []=>[]
 | v::l=>Pd v (sortV l)
def UW (p:Vo->Bool) (n:Nat) (l:List Vo):Nat:=((List.range (n+1)).filter fun(i:Nat)=>l.any fun v=>p v&&decide (v.fr=(i:Int))).length
def Okl (n:Nat) (l:List Vo):Prop:=n<=1000000/\l.length<=1000000/\∀v∈l,0<=v.fr/\v.fr<=n
inductive Vl:List MapEntry->List Vo->Prop
 | nil:Vl [] []
 | cons {e:MapEntry} {v:Vo} {es:List MapEntry} {l:List Vo} (he:e.val=UY v) (hf:∃f:Nat,v.fr=(f:Int)) (h:Vl es l):Vl (e::es) (v::l)
section
variable{c:Cx}{S:St}{C:Nat->Prop}
theorem aKR{v:Vo}{w:List Value} (r:kE c S C v.vv w):w=Pf v:=by
 obtain⟨a,w,rfl,r1,r⟩:=r.cons_inv;obtain⟨b,w,rfl,r2,r⟩:=r.cons_inv;obtain⟨d,w,rfl,r3,r⟩:=r.cons_inv;obtain⟨e,w,rfl,r4,r⟩:=r.cons_inv;obtain⟨f,w,rfl,r5,r⟩:=r.cons_inv;rw [r.mL];cases r1;cases r2;cases r3;cases r4;cases r5;rfl
theorem aKS{v:Vo}:kE c S C v.vv (Pf v):= .cons .int (.cons .int (.cons .int (.cons .int (.cons .str .nil))))
theorem aNc{l:List Vo}:∀{es:List MapEntry},EsR c S C (l.map eV) es->(∀v∈l,0<=v.fr)->Vl es l:=by
 induction l with
 | nil=>
  intro es r _;obtain rfl:es=[]:=lZ (by have:=r.1;simpa using this.symm);exact .nil
 | cons v l ih=>
  intro es r hf;cases es with
  | nil=>have:=r.1;simp at this
  | cons e es=>
   have h0:=(r.2 0 (eV v) e rfl rfl).2
   have h1:e.val=UY v:=by
    generalize e.val=w at h0;have h0:fC c S C (.agg v.vv) w:=h0;cases h0 with
    | @agg _ a' la ha=>have:=aKR (⟨la,ha⟩:kE c S C v.vv a');subst this;rfl
   exact .cons h1 ⟨v.fr.toNat,by have:=hf v (.head _);omega⟩ (ih r.tail fun u hu=>hf u (.tail _ hu))
end
theorem Vl.len{es:List MapEntry}{l:List Vo} (h:Vl es l):es.length=l.length:=by induction h with | nil=>rfl | cons _ _ _ ih=>simp [ih]
theorem DB{v:Vo}{f:Nat} (hf:v.fr=(f:Int)) (z:Bool) (k:Nat->Int->Int->List UInt8->Bool):HH (UY v) z k=k f v.rd (.ofNat v.kd) v.tx:=by
 unfold UY Pf;rw [hf];rfl
theorem aHY{n ck:Nat}:∀{es:List MapEntry} {l:List Vo} {lo:Nat},Vl es l->(∀v∈l,v.fr<=n)->(es.map (·.born)).Pairwise (· < ·)->(∀e∈es,lo<=e.born/\e.born<ck)->
 (fE (β:=Nat->Bool) (fun _=>true) (fun e _ ih lo=>match Nat.ble lo e.born,Nat.blt e.born ck,HH e.val false (fun f _ _ _=>Nat.ble f n)with
  | true,true,true=>ih (Nat.succ e.born)
  | _,_,_=>false) es lo)=true:=by
 intro es;induction es with
 | nil=>intro l lo _ _ _ _;rfl
 | cons e es ih=>
  intro l lo h hn hp hb;cases h with
  | @cons _ v _ l he hf h=>
   obtain⟨f,hf⟩:=hf;rw [aO];obtain⟨b1,b2⟩:=hb e (.head _);rw [show Nat.ble lo e.born=true from iW b1,show Nat.blt e.born ck=true from iW b2,he,DB hf,show Nat.ble f n=true from iW (by have:=hn v (.head _);omega)];simp only;rw [vK,rC]at hp;exact ih h (fun u hu=>hn u (.tail _ hu)) hp.2 fun x hx=>⟨hp.1 _ (List.mem_map_of_mem hx),(hb x (.tail _ hx)).2⟩
theorem aFY{pe:MapEntry->Nat->Bool} (es:List MapEntry) (i:Nat):hasB pe es i=es.any fun e=>pe e i:=by
 induction es with
 | nil=>rfl
 | cons e es ih=>
  unfold hasB at ih ⊢;rw [aO,ih,Lc];cases pe e i<;>rfl
theorem Vl.any{pe:MapEntry->Nat->Bool}{p:Vo->Bool}{i:Nat}{es:List MapEntry}{l:List Vo} (h:Vl es l) (hp:∀(e:MapEntry) (v:Vo) (f:Nat),e.val=UY v->v.fr=(f:Int)->pe e i=(p v&&Nat.beq f i)):(es.any fun e=>pe e i)=l.any fun v=>p v&&decide (v.fr=(i:Int)):=by
 induction h with
 | nil=>rfl
 | @cons e v es l he hf h ih=>
  obtain⟨f,hf⟩:=hf;rw [Lc,Lc,ih,hp e v f he hf,hf]
  congr 2
  rw [pL];simp only [WA,decide_eq_true_eq];omega
theorem aAt{pe:MapEntry->Nat->Bool}{p:Vo->Bool}{n:Nat}{es:List MapEntry}{l:List Vo} (h:Vl es l) (hp:∀(e:MapEntry) (v:Vo) (f i:Nat),e.val=UY v->v.fr=(f:Int)->pe e i=(p v&&Nat.beq f i)) (K:Nat->Bool):Zd pe es n K=K (UW p n l):=by
 unfold Zd UW;rw [aBn]
 congr 1
 rw [fK]
 congr 2
 funext i
 rw [aFY,h.any fun e v f=>hp e v f i]
theorem aBL{a b:MapEntry}{v u:Vo}{f g:Nat} (ha:a.val=UY v) (hb:b.val=UY u) (hf:v.fr=(f:Int)) (hg:u.fr=(g:Int)):TQ a b=v.lt u:=by
 unfold TQ;rw [ha,hb,DB hf,DB hg];unfold Vo.lt;rw [hf,hg];simp only [DN,tD,sK];have e1:∀x y:Nat,Nat.blt x y=decide ((x:Int)<(y:Int)):=fun x y=>by rw [pL];simp only [Nat.blt_eq,decide_eq_true_eq];omega
 have e2:∀x y:Nat,Nat.beq x y=decide ((x:Int)=(y:Int)):=fun x y=>by rw [pL];simp only [WA,decide_eq_true_eq];omega
 have e3:decide (Int.ofNat v.kd<Int.ofNat u.kd)=decide (v.kd<u.kd):=by rw [pL];simp
 have e4:(v.rd==u.rd)=decide (v.rd=u.rd):=by rw [pL];simp
 rw [e1,e2,e3,e4];cases decide (v.rd<u.rd)<;>cases decide ((f:Int)<(g:Int))<;>rfl
theorem aKT{e:MapEntry}{v:Vo} (he:e.val=UY v) (hf:∃f:Nat,v.fr=(f:Int)):∀{s:List MapEntry} {l:List Vo} {k:List MapEntry->Bool},Vl s l->∃s',Vl s' (Pd v l)/\aCC e s k=k s':=by
 intro s;induction s with
 | nil=>intro l k h;cases h;exact⟨[e],.cons he hf .nil,rfl⟩
 | cons x t ih=>
  intro l k h;cases h with
  | @cons _ u _ l hx hg h=>
   obtain⟨f,hf'⟩:=hf;obtain⟨g,Zn⟩:=hg;have hl:=aBL he hx hf' Zn;unfold Pd;unfold aCC at ih ⊢;rw [aO,hl];cases v.lt u with
   | true=>exact⟨_,.cons he ⟨f,hf'⟩ (.cons hx ⟨g,Zn⟩ h),rfl⟩
   | false=>
    obtain⟨s',h1,h2⟩:=ih (k:=fun t'=>k (x::t')) h;exact⟨x::s',.cons hx ⟨g,Zn⟩ h1,h2⟩
theorem aHZ:∀{es:List MapEntry} {l:List Vo} {k:List MapEntry->Bool},Vl es l->∃s,Vl s (sortV l)/\Th es k=k s:=by
 intro es;induction es with
 | nil=>intro l k h;cases h;exact⟨[],.nil,rfl⟩
 | cons e es ih=>
  intro l k h;cases h with
  | @cons _ v _ l he hf h=>
   unfold Th at ih ⊢;rw [aO];obtain⟨s,h1,h2⟩:=ih (k:=fun s=>aCC e s k) h;obtain⟨s',h3,h4⟩:=aKT he hf (k:=k) h1;exact⟨s',h3,h2.trans h4⟩
theorem aFZ{s:List MapEntry}{l:List Vo} (h:Vl s l) (hp:l.Pairwise fun a b=>a.lt b=true):chainB s=true:=by
 induction h with
 | nil=>rfl
 | @cons e v es l he hf h ih=>
  rw [rC]at hp;have ih:=ih hp.2;unfold chainB at ih ⊢;rw [aO,ih];cases h with
  | nil=>rfl
  | @cons e2 u es l he2 Gy h=>
   obtain⟨f,hf'⟩:=hf;obtain⟨g,Zn⟩:=Gy;show dF (TQ e e2) true false=true;rw [aBL he he2 hf' Zn,hp.1 u (.head _)];rfl
theorem aH0{s:List MapEntry}{l:List Vo} (h:Vl s l):∀(k:List Value->Bool),WX s k=k (l.flatMap Pf):=by
 induction h with
 | nil=>intro k;rfl
 | @cons e v es l he hf h ih=>
  intro k;unfold WX at ih ⊢;rw [aO,he];show fE (β:=(List Value->Bool)->Bool) _ _ es (fun t=>wQ (Pf v) t k)=_;rw [ih,kL,VO]
section
variable{P:Program}{B:Nat->Prop}{Sb:St}{c:Cx}{h:Hp}{S:St}
theorem aH1{l:List Vo}{C:Nat->Prop}:kE c S C (voV l) (l.flatMap Pf):=by
 induction l with
 | nil=>exact .nil
 | cons v l ih=>exact aKS.app ih
theorem OH (s:VS P B Sb c h S){t m n:Nat}{l:List Vo} (a:Tal h t m n l) (o:Okl n l){b:Nat} (hb:c.Z t=some b){k:Nat->List MapEntry->Bool} (hk:∀es,Vl es l->k n es=true):MM S (.pointer (some ⟨b,0,none⟩)) k=true:=by
 obtain⟨b',ws,a1,a2,a3,a4,a5⟩:=s.row t _ _ a.row;rw [hb]at a1;injection a1 with a1;subst a1;obtain⟨w1,ws,rfl,r1,a5⟩:=a5.cons_inv;obtain⟨w2,ws,rfl,r2,a5⟩:=a5.cons_inv;rw [a5.mL]at a4;cases r1;cases r2 with
 | tM hm=>
  obtain⟨bm,es,ck,q1,q2,q3,q4⟩:=s.aKE a.map;rw [hm]at q1;injection q1 with q1;subst q1;have ev:=aNc q3 fun v hv=>(o.2.2 v hv).1;unfold MM;simp only;rw [CM a4 (by simp)];show(nV S.h _ _)=true;rw [Ol q2];simp only;rw [jT,ev.len,show Nat.ble n 1000000=true from iW o.1,show Nat.ble l.length 1000000=true from iW o.2.1];have:aMN n ck es=true:=aHY ev (fun v hv=>(o.2.2 v hv).2) q4.1 fun e he=>⟨mP _,q4.2 e he⟩;rw [this];exact hk es ev
def aBM (args:List V) (h:Hp) (K:KV):Prop:=∃(t m n:Nat) (l:List Vo) (r:Int),args=[.ptr t 0,.int .i64 r]/\Tal h t m n l/\Okl n l/\K (.int .i64 (.ofNat (UW (fun v=>decide (v.rd=r)) n l))) h
def aKU (args:List V) (h:Hp) (K:KV):Prop:=∃(t m n:Nat) (l:List Vo) (r:Int) (kd:Nat),args=[.ptr t 0,.int .i64 r,.int .u8 (.ofNat kd)]/\Tal h t m n l/\Okl n l/\K (.int .i64 (.ofNat (UW (fun v=>decide (v.rd=r)&&decide (v.kd=kd)) n l))) h
def Pg (args:List V) (h:Hp) (K:KV):Prop:=∃(t m n:Nat) (l:List Vo) (r:Int) (kd:Nat) (tx:List UInt8),args=[.ptr t 0,.int .i64 r,.int .u8 (.ofNat kd),.str tx]/\Tal h t m n l/\Okl n l/\K (.int .i64 (.ofNat (UW (fun v=>decide (v.rd=r)&&decide (v.kd=kd)&&decide (v.tx=tx)) n l))) h
def Ph (args:List V) (h:Hp) (K:KV):Prop:=∃(t m n:Nat) (l:List Vo),args=[.ptr t 0]/\Tal h t m n l/\Okl n l/\((sortV l).Pairwise fun a b=>a.lt b=true)/\
 ((sortV l=[]->K .nil h)/\(sortV l≠[]->∀i,h i=none->K (.acc i (sortV l).length) (aR h i (.jK (voV (sortV l)) 94 (sortV l).length))))
theorem aBN (x y:Int):Au x y=decide (x=y):=by rw [tD,pL];simp
theorem aJn (x y:Nat):Au (Int.ofNat x) (Int.ofNat y)=decide (x=y):=by rw [aBN,pL];simp only [decide_eq_true_eq];exact⟨VX,fun e=>by rw [e]⟩
theorem aDg{args:List V}{ws:List Value}{Kv:KV}{K:VK} (s:VS P B Sb c h S) (ra:kE c S (cY B c h) args ws) (k:KR P B Sb c h S Kv K) (hv:aBM args h Kv):WY ws S K=true:=by
 obtain⟨t,m,n,l,r,rfl,a,o,hv⟩:=hv;obtain⟨w1,ws,rfl,r1,ra⟩:=ra.cons_inv;obtain⟨w2,ws,rfl,r2,ra⟩:=ra.cons_inv;rw [ra.mL];cases r2;cases r1 with
 | ptr hb=>
  unfold WY;refine OH s a o hb fun es ev=>?_;rw [aAt (p:=fun v=>decide (v.rd=r)) ev (fun e v f i he hf=>by rw [he,DB hf,sK,aBN])];exact k.here s .int hv
theorem aF0{args:List V}{ws:List Value}{Kv:KV}{K:VK} (s:VS P B Sb c h S) (ra:kE c S (cY B c h) args ws) (k:KR P B Sb c h S Kv K) (hv:aKU args h Kv):Jl ws S K=true:=by
 obtain⟨t,m,n,l,r,kd,rfl,a,o,hv⟩:=hv;obtain⟨w1,ws,rfl,r1,ra⟩:=ra.cons_inv;obtain⟨w2,ws,rfl,r2,ra⟩:=ra.cons_inv;obtain⟨w3,ws,rfl,r3,ra⟩:=ra.cons_inv;rw [ra.mL];cases r2;cases r3;cases r1 with
 | ptr hb=>
  unfold Jl;refine OH s a o hb fun es ev=>?_;rw [aAt (p:=fun v=>decide (v.rd=r)&&decide (v.kd=kd)) ev (fun e v f i he hf=>by rw [he,DB hf,sK,sK,aBN,aJn])];exact k.here s .int hv
theorem aAu{args:List V}{ws:List Value}{Kv:KV}{K:VK} (s:VS P B Sb c h S) (ra:kE c S (cY B c h) args ws) (k:KR P B Sb c h S Kv K) (hv:Pg args h Kv):NU ws S K=true:=by
 obtain⟨t,m,n,l,r,kd,tx,rfl,a,o,hv⟩:=hv;obtain⟨w1,ws,rfl,r1,ra⟩:=ra.cons_inv;obtain⟨w2,ws,rfl,r2,ra⟩:=ra.cons_inv;obtain⟨w3,ws,rfl,r3,ra⟩:=ra.cons_inv;obtain⟨w4,ws,rfl,r4,ra⟩:=ra.cons_inv;rw [ra.mL];cases r2;cases r3;cases r4;cases r1 with
 | ptr hb=>
  unfold NU;refine OH s a o hb fun es ev=>?_
  rw [aAt (p:=fun v=>decide (v.rd=r)&&decide (v.kd=kd)&&decide (v.tx=tx)) ev (fun e v f i he hf=>by
   rw [he,DB hf,sK,sK,sK,aBN,aJn,CF]
   congr 2
   rw [pL];simp)]
  exact k.here s .int hv
theorem aAv (hsz:bP P 94=some 5){args:List V}{ws:List Value}{Kv:KV}{K:VK} (s:VS P B Sb c h S) (ra:kE c S (cY B c h) args ws) (k:KR P B Sb c h S Kv K) (hv:Ph args h Kv):NV ws S K=true:=by
 obtain⟨t,m,n,l,rfl,a,o,hp,hv0,hv1⟩:=hv;obtain⟨w1,ws,rfl,r1,ra⟩:=ra.cons_inv;rw [ra.mL];cases r1 with
 | ptr hb=>
  unfold NV;refine OH s a o hb fun es ev=>?_
  obtain⟨ss,e1,e2⟩:=aHZ (k:=fun ss=>match chainB ss with
   | true=>WX ss fun cs=>zZ ss fun n=>match n with
    | 0=>K (.slice none 0 0) S
    | n'+1=>sP S (.cells cs 94 (.grown [])) fun i S=>K (.slice (some ⟨i,0,some 0⟩) (n'+1) (n'+1)) S
   | false=>false) ev
  refine e2.trans ?_;simp only [aFZ e1 hp];rw [aH0 e1,jT,e1.len];cases hs:sortV l with
  | nil=>
   exact k.here s .nil (hv0 hs)
  | cons v l'=>
   have uR:sortV l≠[]:=by rw [hs];simp
   obtain⟨i,i1,i2,i3⟩:=s.fresh;have hv:=hv1 uR i i1;rw [hs]at hv;show sP S (.cells ((v::l').flatMap Pf) 94 (.grown [])) (fun i S=>K (.slice (some ⟨i,0,some 0⟩) (l'.length+1) (l'.length+1)) S)=true;rw [gG];obtain⟨s1,s2,s3,s4⟩:=s.Zx i1 i2 i3 (vs:=voV (v::l')) (ws:=(v::l').flatMap Pf) (t:=94) (n:=l'.length+1) hsz (by rw [aBK];rfl) aH1;exact k _ _ _ _ _ s2 s3 s1 (.acc s4) hv
theorem RT{a b:Nat} (h:a≠b):Nat.beq a b=false:=by
 cases e:Nat.beq a b with
 | false=>rfl
 | true=>exact absurd (cV e) h
end
end Go.Am
namespace Go.Am
open Go.Proofs Go.RowKit
theorem mixed:Tryz.prog.follows .mixedOrders=true:=by kernel_rfl
theorem aEI:Tryz.prog.funcs.toList.all (fun f=>f.name != "runtime.NumGoroutine")=true:=by kernel_rfl
theorem names:∀(f:FuncId) (fn:Func),Tryz.prog.funcs[f]? =some fn->fn.name≠ "runtime.NumGoroutine" :=by
 intro f fn h;have hm:fn∈Tryz.prog.funcs.toList:=rB (i:=f) (by rw [Cf];exact h);have:=dL.1 aEI fn hm;simpa using this
def triedL:List Int:=[2,3,5,7,11,13,17,19,23,29,31,37]
def tabL:List Int:=[0,1,56,2,57,49,28,3,61,58,42,50,38,29,17,4,62,47,59,36,45,43,51,22,53,39,33,30,24,18,12,5,63,55,48,27,60,41,37,16,46,35,44,21,52,32,23,11,54,26,40,15,34,20,31,10,25,14,19,9,13,8,7,6]
def gs:List Ee:=[⟨0,triedL.map (Value.int .u64),134,12⟩,⟨1,tabL.map (Value.int .u8),180,64⟩]
theorem gsz:Tryz.prog.globals.size=4:=by kernel_rfl
theorem aBm:GOk Tryz.prog gs:=by
 refine⟨by decide,fun x hx=>?_⟩;rcases cO.1 hx with rfl | hx
 ·exact⟨by rw [gsz];decide,by kernel_rfl,by simp [bA]⟩
 ·rcases cO.1 hx with rfl | hx
  ·exact⟨by rw [gsz];decide,by kernel_rfl,by simp [bA]⟩
  ·cases hx
set_option maxRecDepth 1000000 in
theorem Te:TC Tryz.prog ovT 1000 60 63 gs ([.int .u64 11],.bool true):=⟨by simp [iZ,bA],rfl,by kernel_rfl⟩
set_option maxRecDepth 1000000 in
theorem Tf:TC Tryz.prog ovT 1000 60 63 gs ([.int .u64 23],.bool true):=⟨by simp [iZ,bA],rfl,by kernel_rfl⟩
def aEJ:List (List Value×Value):=[([.int .u64 11],.bool true),([.int .u64 23],.bool true)]
def ovP:FuncId->Option (List Value->St->VK->Bool):=BJ 63 (YT aEJ) ovT
theorem Za{w:World} (hsz:Tryz.prog.globals.size<=w.heap.size) (hl:Laid gs w):Dq Tryz.prog w ovP:=by
 refine CW (Be (most:=1000) (n:=60) aBm hsz hl (fun w _ _=>Zb) names mixed (enters_of Tryz.func63 (by kernel_rfl) rfl) fun x hx=>?_) Zb;unfold aEJ at hx;rcases cO.1 hx with rfl | hx
 ·exact Te
 ·rcases cO.1 hx with rfl | hx
  ·exact Tf
  ·cases hx
end Go.Am
namespace Go.Proofs
open Go.Shelf
def Tryz.sortI_ren:Go.Shelf.Ren:=⟨fun | 189=>111 | 125=>99 | 257=>161 | 128=>149 | 129=>150 | 294=>197 | 295=>198 | 296=>199 | 297=>200 | 298=>201 | 299=>202 | 216=>203 | 300=>204 | 301=>205 | 328=>224 | 329=>188 | 330=>189 | 331=>225 | 332=>226 | 215=>185 | 343=>241 | n=>n,fun | 28=>33 | 3=>3 | 46=>40 | 0=>0 | 51=>175 | 53=>29 | 4=>4 | 183=>167 | 182=>166 | 131=>172 | 5=>5 | 9=>9 | 218=>202 | 222=>206 | 228=>229 | 229=>230 | n=>n,fun | n=>n⟩
theorem Tryz.sortI:Go.Proofs.Lays.n189 Tryz.prog Tryz.sortI_ren:={
 mixed:=by kernel_rfl
 f125:=Tryz.func99.trans (congrArg some (by kernel_rfl))
 f128:=Tryz.func149.trans (congrArg some (by kernel_rfl))
 f129:=Tryz.func150.trans (congrArg some (by kernel_rfl))
 f189:=Tryz.func111.trans (congrArg some (by kernel_rfl))
 f215:=Tryz.func185.trans (congrArg some (by kernel_rfl))
 f216:=Tryz.func203.trans (congrArg some (by kernel_rfl))
 f257:=Tryz.func161.trans (congrArg some (by kernel_rfl))
 f294:=Tryz.func197.trans (congrArg some (by kernel_rfl))
 f295:=Tryz.func198.trans (congrArg some (by kernel_rfl))
 f296:=Tryz.func199.trans (congrArg some (by kernel_rfl))
 f297:=Tryz.func200.trans (congrArg some (by kernel_rfl))
 f298:=Tryz.func201.trans (congrArg some (by kernel_rfl))
 f299:=Tryz.func202.trans (congrArg some (by kernel_rfl))
 f300:=Tryz.func204.trans (congrArg some (by kernel_rfl))
 f301:=Tryz.func205.trans (congrArg some (by kernel_rfl))
 f328:=Tryz.func224.trans (congrArg some (by kernel_rfl))
 f329:=Tryz.func188.trans (congrArg some (by kernel_rfl))
 f330:=Tryz.func189.trans (congrArg some (by kernel_rfl))
 f331:=Tryz.func225.trans (congrArg some (by kernel_rfl))
 f332:=Tryz.func226.trans (congrArg some (by kernel_rfl))
 f343:=Tryz.func241.trans (congrArg some (by kernel_rfl))
 t0:=Tryz.underlying0
 a0:=Tryz.isAgg0
 z0:=Tryz.sizeOf0
 v0:=Tryz.zeroValue0
 t3:=Tryz.underlying3
 a3:=Tryz.isAgg3
 z3:=Tryz.sizeOf3
 v3:=Tryz.zeroValue3
 t4:=Tryz.underlying4
 a4:=Tryz.isAgg4
 z4:=Tryz.sizeOf4
 v4:=Tryz.zeroValue4
 t5:=Tryz.underlying5
 a5:=Tryz.isAgg5
 z5:=Tryz.sizeOf5
 v5:=Tryz.zeroValue5
 t9:=Tryz.underlying9
 a9:=Tryz.isAgg9
 z9:=Tryz.sizeOf9
 v9:=Tryz.zeroValue9
 t28:=Tryz.underlying33
 a28:=Tryz.isAgg33
 z28:=Tryz.sizeOf33
 v28:=Tryz.zeroValue33
 t46:=Tryz.underlying40
 a46:=Tryz.isAgg40
 z46:=Tryz.sizeOf40
 v46:=Tryz.zeroValue40
 t51:=Tryz.underlying175
 a51:=Tryz.isAgg175
 z51:=Tryz.sizeOf175
 v51:=Tryz.zeroValue175
 t53:=Tryz.underlying29
 a53:=Tryz.isAgg29
 z53:=Tryz.sizeOf29
 v53:=Tryz.zeroValue29
 t131:=Tryz.underlying172
 a131:=Tryz.isAgg172
 z131:=Tryz.sizeOf172
 v131:=Tryz.zeroValue172
 t182:=Tryz.underlying166
 a182:=Tryz.isAgg166
 z182:=Tryz.sizeOf166
 v182:=Tryz.zeroValue166
 t183:=Tryz.underlying167
 a183:=Tryz.isAgg167
 z183:=Tryz.sizeOf167
 v183:=Tryz.zeroValue167
 t218:=Tryz.underlying202
 a218:=Tryz.isAgg202
 z218:=Tryz.sizeOf202
 v218:=Tryz.zeroValue202
 t222:=Tryz.underlying206
 a222:=Tryz.isAgg206
 z222:=Tryz.sizeOf206
 v222:=Tryz.zeroValue206
 t228:=Tryz.underlying229
 a228:=Tryz.isAgg229
 z228:=Tryz.sizeOf229
 v228:=Tryz.zeroValue229
 t229:=Tryz.underlying230
 a229:=Tryz.isAgg230
 z229:=Tryz.sizeOf230
 v229:=Tryz.zeroValue230}
end Go.Proofs
namespace Go.Am
open Go.RowKit Go.MapKept Go.Proofs
def AG (z:Int):Value:= .int .i64 z
def sR (ls:List Int):List Int:=ls.mergeSort fun x y=>decide (x<=y)
open Classical in
def QX (args:List Value) (S:St) (K:VK):Bool:=
 match args with
 | [.slice none 0 0]=>K (.tuple #[]) S
 | [.slice (some _) 0 _]=>K (.tuple #[]) S
 | [.slice (some ⟨i,0,some 0⟩) n _]=>if h:∃ls:List Int,ls.length=n/\ls.length<1000000/\∃olds,S.obj i=some (.cells (ls.map AG) 3 (.grown olds))then oS S i 0 ((sR h.choose).map AG) fun S=>K (.tuple #[]) S else false
 | _=>false
theorem EA (ls:List Int):(sR ls).length=ls.length:=List.length_mergeSort ls
theorem Ah (d:List Int) (off:Nat) (cs:Array Value) (h:off+d.length<=cs.size):Go.Sort.putCells AG off d.toArray cs=⟨aG off (d.map AG) cs.toList⟩:=by
 apply VM;intro k;have:=fL off (d.map AG) cs.toList (by simpa using h) k;simp only [DD]at this;simp only [Go.Sort.putCells,Array.getElem?_mapIdx,List.size_toArray];refine Eq.trans ?_ (show(aG off (d.map AG) cs.toList)[k]? =(⟨aG off (d.map AG) cs.toList⟩:Array Value)[k]? by simp);rw [this];by_cases hk:off<=k/\k<off+d.length
 ·rw [if_pos hk,VG (show k<cs.size by omega),wO,if_pos hk,lA,aS (show k-off<d.length by omega)]
  simp [show k-off<d.length by omega]
 ·rw [if_neg hk]
  cases hc:cs[k]? with
  | none=>rw [Option.map_none];simpa using hc.symm
  | some y=>rw [wO,if_neg hk];simpa using hc.symm
section
variable{w0:World}
theorem aCz:jA Tryz.prog w0 (fun f' args S K=>match Nat.beq f' 111 with | true=>QX args S K | false=>false):=by
 intro f args S K U w dI hk h ha;dsimp only at hk;split at hk
 ·rename_i hf
  obtain rfl:f=111:=by simpa using hf
  refine⟨enters_of Tryz.func111 (by kernel_rfl) rfl ⟨dI⟩,?_⟩;have nil:∀U',VR U' (.tuple #[]) (.tuple #[]):=fun U'=> .tuple rfl fun k v v' e _=>by simp at e
  unfold QX at hk;split at hk
  ·obtain⟨t',l',rfl,ht,ha⟩:=ha.bU
   cases ha.iH;obtain rfl:=ht.of_flat rfl;have hc:Calls Tryz.prog 111 #[.slice none 0 0] w fun e w'=>e= .returned (.tuple #[])/\w'=w:=Any.slices_Sort_int_none Tryz.sortI none 0 w;refine callsIn_wide.2 (hc.mono ?_)
   rintro e w' ⟨rfl,rfl⟩
   exact⟨_,rfl,U,_,S,hk,nil U,h,.refl U _⟩
  ·obtain⟨t',l',rfl,ht,ha⟩:=ha.bU
   cases ha.iH
   obtain⟨p',c',rfl⟩:∃p' c',t'= .slice p' 0 c':=by
    cases ht with
    | flat q=>cases q
    | _=>exact⟨_,_,rfl⟩
   have hc:Calls Tryz.prog 111 #[.slice p' 0 c'] w fun e w'=>e= .returned (.tuple #[])/\w'=w:=Any.slices_Sort_int_none Tryz.sortI p' c' w;refine callsIn_wide.2 (hc.mono ?_)
   rintro e w' ⟨rfl,rfl⟩
   exact⟨_,rfl,U,_,S,hk,nil U,h,.refl U _⟩
  ·rename_i i n c _
   split at hk
   ·rename_i hex
    obtain⟨h1,h2,olds,ho⟩:=hex.choose_spec;generalize hex.choose=ls at h1 h2 ho hk;obtain⟨t',l',rfl,ht,ha⟩:=ha.bU;cases ha.iH;cases ht with
    | flat q=>cases q
    | @oG _ _ _ _ c' L hL hcc hn he hm=>
     obtain⟨cs,t,fz,hb,hcell,pS⟩:=h.cells ho hL;obtain⟨g1,g2,g3,g4,g5⟩:=pS
     have ZX:∀j (hj:j<ls.length),cs[L.s+j]? =some (AG ls[j]):=fun j hj=>by
      obtain⟨v',CC,hr⟩:=hcell j (AG ls[j]) (by rw [lA,aS hj];rfl);rw [CC,hr.of_flat rfl]
     have KF:L.s+ls.length<=cs.size:=by
      rcases IG ls.length with hz | hz
      ·rw [<-g3,<-he,hz];omega
      ·have:=ZX (ls.length-1) (by omega)
       have:=(mN.1 this).1;omega
     have hH:Go.Sort.Holds AG w L.b L.s ls.toArray:=fun j hj=>by
      have hj:j<ls.length:=by simpa using hj
      refine⟨?_,?_⟩
      ·rw [cell_of hb (ZX j hj)]
       simp [hj]
      ·have:=g2 (L.s+j) (by omega)
       unfold World.frozen?;simp only [hb];obtain⟨lo,hi⟩:=fz;rw [Bool.eq_false_iff];intro q;simp only [bT,decide_eq_true_eq]at q;exact this q
     have hc:Calls Tryz.prog 111 #[.slice (some ⟨L.b,L.s,none⟩) ls.length c'] w fun e w'=>e= .returned (.tuple #[])/\∃n os,w'=Go.Sort.grow (Go.Sort.putRow AG (Go.Sort.ahead w n) L.b L.s (sR ls).toArray) os:=
      Any.slices_Sort_int Tryz.sortI L.b L.s c' ls w hH (mN.1 hb).1 (by omega)
     obtain⟨S',w1,k1,r1,s1,aOI⟩:=tU (new':=(sR ls).map AG) h hk hL (kK.flat fun v hv=>by
      obtain⟨u,_,rfl⟩:=mA.1 hv;rfl) (fun v hv=>by obtain⟨u,_,rfl⟩:=mA.1 hv;rfl)
     have hlen:((sR ls).map AG).length=ls.length:=by rw [DD,EA]
     have aHA:=gY (P:=Tryz.prog) ((sR ls).map AG) w L.b (L.s+0) 0 cs t fz hb (by rw [hlen];omega) (fun x _ hx=>g2 x (by rw [hlen]at hx;omega)) (fun v hv=>by obtain⟨u,_,rfl⟩:=mA.1 hv;rfl);rw [aOI]at aHA;injection aHA with _ aHA;subst h1;refine callsIn_wide.2 (Calls.mono (show Calls Tryz.prog 111 #[.slice (some ⟨L.b,L.s+0,none⟩) ls.length c'] w _ from hc) ?_)
     rintro e w' ⟨rfl,m,os,rfl⟩
     have aEV:Below w1.heap.size w1 (Go.Sort.grow (Go.Sort.putRow AG (Go.Sort.ahead w m) L.b L.s (sR ls).toArray) os):=by
      subst aHA;have hsz:(w.putObj L.b (.cells ⟨aG (L.s+0+0) ((sR ls).map AG) cs.toList⟩ t fz)).heap.size=w.heap.size:=putObj_size _ _;have hhp:∀k,k<w.heap.size->(Go.Sort.grow (Go.Sort.putRow AG (Go.Sort.ahead w m) L.b L.s (sR ls).toArray) os).heap[k]? =(Go.Sort.putRow AG (Go.Sort.ahead w m) L.b L.s (sR ls).toArray).heap[k]? :=fun k hk=>Go.Sort.heap_grow_old _ os (by rw [Go.Sort.size_putRow];exact hk);refine⟨rfl,rfl,rfl,by rw [hsz,Go.Sort.size_grow,Go.Sort.size_putRow];show w.heap.size<=w.heap.size+os.size;omega,fun k hk=>?_⟩;rw [hsz]at hk;rw [hhp k hk];by_cases e:k=L.b
      ·subst e
       rw [lH hb];simp only [Go.Sort.putRow,Go.Sort.mapBlock,Wx,if_true];show Option.map _ w.heap[L.b]? =_;rw [hb,wO];simp only [Go.Sort.onCells];rw [Ah _ _ _ (by rw [EA];exact KF)];rfl
      ·rw [gH e]
       simp only [Go.Sort.putRow,Go.Sort.mapBlock,Wx];rw [if_neg (dV e)];rfl
     obtain⟨q1,q2⟩:=r1.below aEV;exact⟨_,rfl,U,_,S',k1,nil U,q1,s1.trans q2⟩
   ·cases hk
  ·cases hk
 ·cases hk
end
end Go.Am
set_option linter.unusedSimpArgs false
namespace Go.Am
open Go.RowKit Go.MapKept Go.Proofs Go.Lib
section
variable{P:Program}
theorem Nh{w w1:World}{t e:TypeId}{ty:TypeId}{k:Nat} (ht:P.underlying t=some (.slice e)) (hk:bP P e=some k){a:Addr}{dLen dCap m:Nat}{x:Value}{cs:List Value} (hlen:∀w,(Builtin.lenOf x).run P w= .ok m w) (hc:(Builtin.firstCells k (Nat.min m dLen) x).run P w= .ok ⟨cs⟩ w)
 (hs:(storeCells a cs).run P w= .ok () w1):(Builtin.copy_ #[t,t] ty #[.slice (some a) dLen dCap,x]).run P w= .ok (goInt (Nat.min m dLen)) w1:=by
 simp only [Builtin.copy_,Kp,Ce,KQ,bY,run_underlying ht,dK,hlen,gD hk,hc,hs,iY,goInt]
theorem NW (a:Option Addr) (n c:Nat) (w:World):(Builtin.lenOf (.slice a n c)).run P w= .ok n w:=rfl
structure Row (w:World) (b off:Nat) (old:List Value) (cs:Array Value) (t:TypeId) (fz:Nat×Nat):Prop where
 at_:w.heap[b]? =some (.cells cs t fz)
 Zk:WI cs.size fz
 has:∀(j:Nat) (v:Value),old[j]? =some v->cs[off+j]? =some v
theorem Row.size{w:World}{b off:Nat}{old:List Value}{cs:Array Value}{t:TypeId}{fz:Nat×Nat} (h:Row w b off old cs t fz) (j:Nat) (hj:j<old.length):off+j<cs.size:=(mN.1 (h.has j _ (aS hj))).1
theorem Row.drew{w:World}{b off:Nat}{old:List Value}{cs:Array Value}{t:TypeId}{fz:Nat×Nat} (h:Row w b off old cs t fz):Row w.drew b off old cs t fz:=⟨h.at_,h.Zk,h.has⟩
theorem Row.first{w:World}{b off:Nat}{old:List Value}{cs:Array Value}{t:TypeId}{fz:Nat×Nat} (h:Row w b off old cs t fz){k n c q:Nat}{l:List Value}{o:Nat} (hl:l.length=n*k) (hj:∀(j:Nat) (v:Value),l[j]? =some v->old[o+j]? =some v):(Builtin.firstCells k n (.slice (some ⟨b,off+o,none⟩) q c)).run P w= .ok ⟨l⟩ w:=by
 unfold Builtin.firstCells;refine run_loadCells (P:=P) _ l hl fun j v e=>?_;rw [lF,sX];exact cell_of h.at_ (h.has _ _ (hj _ _ e))
end
theorem ZA:Tryz.prog.underlying 69=some (.slice 75):=by kernel_rfl
theorem Ex:bP Tryz.prog 75=some 2:=by kernel_rfl
set_option maxHeartbeats 4000000 in
set_option maxRecDepth 100000 in
theorem aEW{w:World}{b off n c i vb vo vc:Nat}{cs cs2:Array Value}{t t2:TypeId}{fz fz2:Nat×Nat}{old new:List Value} (hi:i<n) (sJ:n+1<=c) (aOB:n+1<=140737488355328) (hvb:vb≠b) (hth:Ay cs2.size fz2) (R:Row w b off old cs t fz) (R2:Row w vb vo new cs2 t2 fz2)
 (Cw:old.length=n*2) (IC:new.length=2) (KF:off+c*2<=cs.size) (h1:∀v∈old,v.oneCell'=true) (h2:∀v∈new,v.oneCell'=true):
 Calls Tryz.prog 164 #[.slice (some ⟨b,off,none⟩) n c,.int .i64 i,.slice (some ⟨vb,vo,none⟩) 1 vc] w fun e w'=>
  e= .returned (.slice (some ⟨b,off,none⟩) (n+1) c)/\w'=(w.drew.putObj b (.cells ⟨aG (off+(i+1)*2) (old.drop (i*2)) cs.toList⟩ t fz)).putObj b (.cells ⟨aG (off+i*2) new (aG (off+(i+1)*2) (old.drop (i*2)) cs.toList)⟩ t fz):=by
 have Av:¬((i:Int)=(n:Int)):=by omega
 have hov:∀lb cb,(callFunc 206 #[.slice (some ⟨vb,vo,none⟩) 1 vc,.slice (some ⟨b,off+(i+1)*2,none⟩) lb cb]).run Tryz.prog w= .ok (.value (.bool false)) w:=fun lb cb=>by
  rw [run_callFunc_extern Tryz.func206 (by kernel_rfl) (by kernel_rfl) (by kernel_rfl) (e:=Extern.SlicesOverlaps.overlaps #[69,69] #[4]) (by kernel_rfl),
   Lib.run_overlaps_apart w 69 4 75 ZA 2 (gD Ex) ⟨vb,vo,none⟩ ⟨b,off+(i+1)*2,none⟩ 1 vc lb cb hvb t2 t cs2.size cs.size (by simp [World.shape?,R2.at_]) (by simp [World.shape?,R.at_]) (by omega) ?_ ?_]
  ·rfl
  ·unfold World.frozen?
   simp only [R2.at_];obtain⟨lo,hi⟩:=fz2;rw [Bool.eq_false_iff];intro q;simp only [bT,decide_eq_true_eq]at q;exact hth vo (by have:=R2.size 1 (by omega);omega) q
  ·unfold World.frozen?
   simp only [R2.at_];obtain⟨lo,hi⟩:=fz2;rw [Bool.eq_false_iff];intro q;simp only [bT,decide_eq_true_eq]at q;exact hth cs2.size (bN _) q
 have Ae:(old.drop (i*2)).length=(n-i)*2:=by rw [mO,Cw,VZ]
 have aOC:∀ty dc sc,(Builtin.copy_ #[69,69] ty #[.slice (some ⟨b,off+(i+1)*2,none⟩) (n-i) dc,.slice (some ⟨b,off+i*2,none⟩) (n+1-i) sc]).run Tryz.prog w.drew= .ok (goInt ((n-i:Nat):Int)) (w.drew.putObj b (.cells ⟨aG (off+(i+1)*2) (old.drop (i*2)) cs.toList⟩ t fz)):=fun ty dc sc=>by
  have hm:Nat.min (n+1-i) (n-i)=n-i:=by simp only [Nat.min_def];split<;>omega
  have:=Nh (w:=w.drew) (ty:=ty) (dCap:=dc) (a:=⟨b,off+(i+1)*2,none⟩) (dLen:=n-i) (x:= .slice (some ⟨b,off+i*2,none⟩) (n+1-i) sc) ZA Ex (NW _ _ _) (cs:=old.drop (i*2)) (w1:=w.drew.putObj b (.cells ⟨aG (off+(i+1)*2) (old.drop (i*2)) cs.toList⟩ t fz)) (by
   rw [hm];exact R.drew.first (o:=i*2) Ae fun j v e=>by rw [kI]at e;exact e) (by
   have:=gY (P:=Tryz.prog) (old.drop (i*2)) w.drew b (off+(i+1)*2) 0 cs t fz R.at_ (by rw [Ae];have:=oQ 2 sJ;omega) (fun x _ hx=>R.Zk x (by rw [Ae]at hx;have:=oQ 2 sJ;omega)) (fun v hv=>h1 v (Kr hv));simpa using this)
  rw [hm]at this;exact this
 have aMP:∀(W:World),W.heap[b]? =some (.cells ⟨aG (off+(i+1)*2) (old.drop (i*2)) cs.toList⟩ t fz)->W.heap[vb]? =some (.cells cs2 t2 fz2)->∀ty dc,(Builtin.copy_ #[69,69] ty #[.slice (some ⟨b,off+i*2,none⟩) (n+1-i) dc,.slice (some ⟨vb,vo,none⟩) 1 vc]).run Tryz.prog W= .ok (goInt ((1:Nat):Int)) (W.putObj b (.cells ⟨aG (off+i*2) new (aG (off+(i+1)*2) (old.drop (i*2)) cs.toList)⟩ t fz)):=fun W hW1 hW2 ty dc=>by
  have hm:Nat.min 1 (n+1-i)=1:=by simp only [Nat.min_def];split<;>omega
  have hsl:(aG (off+(i+1)*2) (old.drop (i*2)) cs.toList).length=cs.size:=by
   rw [kG _ _ _ (by rw [Ae];have:=oQ 2 sJ;show _<=cs.size;omega)];rfl
  have:=Nh (w:=W) (ty:=ty) (dCap:=dc) (a:=⟨b,off+i*2,none⟩) (dLen:=n+1-i) (x:= .slice (some ⟨vb,vo,none⟩) 1 vc) ZA Ex (NW _ _ _) (cs:=new) (w1:=W.putObj b (.cells ⟨aG (off+i*2) new (aG (off+(i+1)*2) (old.drop (i*2)) cs.toList)⟩ t fz)) (by
   rw [hm];exact(show Row W vb vo new cs2 t2 fz2 from⟨hW2,R2.Zk,R2.has⟩).first (o:=0) (by omega) fun j v e=>by rw [fK];exact e) (by
   have:=gY (P:=Tryz.prog) new W b (off+i*2) 0 ⟨aG (off+(i+1)*2) (old.drop (i*2)) cs.toList⟩ t fz hW1 (by show _<=List.length _;rw [hsl,IC];have:=oQ 2 sJ;omega) (fun x _ hx=>R.Zk x (by rw [IC]at hx;have:=oQ 2 sJ;omega)) h2;simpa using this)
  rw [hm]at this;exact this
 have aOD:=aMP (w.drew.putObj b (.cells ⟨aG (off+(i+1)*2) (old.drop (i*2)) cs.toList⟩ t fz)) (lH (w:=w.drew) R.at_) ((gH (w:=w.drew) hvb).trans R2.at_);clear aMP;have mixed:Tryz.prog.follows .mixedOrders=true:=by kernel_rfl
 have hw1:IntKind.i64.wrap ((i:Int)+1)=(i:Int)+1:=by rw [IntKind.wrap_i64];omega
 have hw2:IntKind.i64.wrap ((n:Int)+1)=(n:Int)+1:=by rw [IntKind.wrap_i64];omega
 have Dp:(0:Int)<=(i:Int)+1:=by omega
 have JT:i<=n:=by omega
 have htn:((i:Int)+1).toNat=i+1:=by omega
 have aPt:((n:Int)+1).toNat=n+1:=by omega
 have OO:¬(c=i+1):=by omega
 have hb3:(i:Int)<=(n:Int)+1:=by omega
 have Ni:¬(c=i):=by omega
 have aOE:¬((c:Int)<(n:Int)+1):=by omega
 go_enter Tryz.func164,Tryz.ntmps164
 go_wp2_with (simp only [hov])
 go_region_law_o (refine step_copy_runI rfl _ _ 69 69 rfl _ _ (by simp [Act.eval,Act.put]) (by simp [Act.eval,Act.put]) (aOC _ _ _) ?_)
 go_wp2_with (at_builtin;refine wpList_copy_runI _ rfl _ _ 69 69 rfl _ _ rfl rfl (aOD _ _) ?_)
 go_ret
 exact⟨rfl,rfl⟩
theorem aHz:(Tryz.prog.info? 75).map (fun i=>(i.zero,i.size,i.bytes))=some (some (.agg #[Value.int .i64 0,Value.string ⟨#[]⟩]),2,24):=by kernel_rfl
theorem Zj:∃i0:TypeInfo,Tryz.prog.info? 75=some i0/\i0.zero=some (.agg #[Value.int .i64 0,Value.string ⟨#[]⟩])/\i0.size=2/\i0.bytes=24:=by
 have h:=aHz;cases e:Tryz.prog.info? 75 with
 | none=>rw [e]at h;cases h
 | some i=>
  rw [e]at h;simp only [wO,Option.some.injEq,Prod.mk.injEq]at h;exact⟨i,rfl,h.1,h.2.1,h.2.2⟩
def zz (m:Nat):List Value:=(List.replicate m [Value.int .i64 0,Value.string ⟨#[]⟩]).flatten
theorem Zi (m:Nat):(zz m).length=m*2:=by unfold zz;simp
theorem aET (a b:Nat):zz a++zz b=zz (a+b):=by unfold zz;rw [<-List.flatten_append,List.replicate_append_replicate]
set_option maxHeartbeats 4000000 in
set_option maxRecDepth 100000 in
theorem aEX{w:World}{b off n c i vb vo vc:Nat}{cs cs2:Array Value}{t t2:TypeId}{fz fz2:Nat×Nat}{old new:List Value} (hi:i<n) (Xn:n<=c) (sJ:c<n+1) (aPu:(n+1)*24<=140737488355328) (R:Row w b off old cs t fz) (R2:Row w vb vo new cs2 t2 fz2)
 (Cw:old.length=n*2) (IC:new.length=2) (h1:∀v∈old,v.oneCell'=true) (h2:∀v∈new,v.oneCell'=true):
 Calls Tryz.prog 164 #[.slice (some ⟨b,off,none⟩) n c,.int .i64 i,.slice (some ⟨vb,vo,none⟩) 1 vc] w fun e w'=>
  e= .returned (.slice (some ⟨w.heap.size,0,none⟩) (n+1) (grownCap w (n+1) c 75))/\
  w'=(((w.alloc (.cells ⟨old.take (i*2)++zz (grownCap w (n+1) c 75-i)⟩ 75)).drew.putObj w.heap.size (.cells ⟨aG (i*2) new (old.take (i*2)++zz (grownCap w (n+1) c 75-i))⟩ 75 (0,0))).drew).putObj w.heap.size (.cells ⟨aG ((i+1)*2) (old.drop (i*2)) (aG (i*2) new (old.take (i*2)++zz (grownCap w (n+1) c 75-i)))⟩ 75 (0,0)):=by
 have Av:¬((i:Int)=(n:Int)):=by omega
 have hz3:(c:Int)<(n:Int)+1:=by omega
 have hGn:n+1<=grownCap w (n+1) c 75:=grownCap_ge w _ _ _
 have aOF:grownCap w (n+1) c 75<=9223372036854775807:=by
  have:=grownCap_le_maxLen w (n+1) c 75 (by unfold maxLen;omega);unfold maxLen at this;omega
 have htl:(old.take (i*2)).length=i*2:=by rw [iX,Cw];omega
 have Ae:(old.drop (i*2)).length=(n-i)*2:=by rw [mO,Cw,VZ]
 obtain⟨i0,hi0,hz0,WG,hzb⟩:=Zj
 have hzz:∀m,Builtin.zeroCells (Value.agg #[Value.int .i64 0,Value.string ⟨#[]⟩]).cells m=(zz m).toArray:=fun m=>by
  exact DJ [Value.int .i64 0,Value.string ⟨#[]⟩] _ rfl m (by simp)
 have hkk:(n:Int)+1-(i:Int)=((n+1-i:Nat):Int):=by omega
 have hik:i+(n+1-i)=n+1:=by omega
 have hold:(Builtin.firstCells i0.size i (.slice (some ⟨b,off,none⟩) i c)).run Tryz.prog w.drew= .ok ((old.take (i*2)).toArray) w.drew:=by
  rw [WG]
  exact R.drew.first (o:=0) htl fun j v e=>by
   rw [kZ]at e;split at e
   ·rw [fK];exact e
   ·cases e
 have hrz:∀ty,(Builtin.append_ #[69,3] ty #[.slice (some ⟨b,off,none⟩) i c,.int .i64 ((n:Int)+1-(i:Int))]).run Tryz.prog w=
  .ok (.slice (some ⟨w.heap.size,0,none⟩) (n+1) (grownCap w (n+1) c 75)) ((w.alloc (.cells ⟨old.take (i*2)++zz (grownCap w (n+1) c 75-i)⟩ 75)).drew):=fun ty=>by
  have h:=Lib.run_append_grow_zeros w 69 3 ty 75 i0 _ .i64 .i64 ZA (by kernel_rfl:Tryz.prog.underlying 3=some (.int .i64)) hi0 hz0 (some ⟨b,off,none⟩) i c (old.take (i*2)) hold (n+1-i) (by omega) (by omega) (by omega) (by omega) (by rw [hzb];omega) (by rw [hzb,hik];exact growslice_fits sJ (by omega));rw [hik,hzz,hzz]at h
  have e:(old.take (i*2)).toArray++(zz (n+1-i)).toArray++(zz (grownCap w (n+1) c 75-(n+1))).toArray=(⟨old.take (i*2)++zz (grownCap w (n+1) c 75-i)⟩:Array Value):=by
   apply gW.1;simp only [Array.toList_append];rw [KX,aET,show n+1-i+(grownCap w (n+1) c 75-(n+1))=grownCap w (n+1) c 75-i by omega]
  rw [e]at h;rw [hkk];exact h
 generalize hG:grownCap w (n+1) c 75=gg at hGn aOF hrz ⊢;have hrl:(old.take (i*2)++zz (gg-i)).length=gg*2:=by rw [bW,htl,Zi,<-kJ];congr 1;omega
 generalize old.take (i*2)++zz (gg-i)=ROW at hrl hrz ⊢;have hbw:b<w.heap.size:=(mN.1 R.at_).1;have hvw:vb<w.heap.size:=(mN.1 R2.at_).1;generalize hW1:(w.alloc (.cells ⟨ROW⟩ 75)).drew=W1 at hrz ⊢;have hN:W1.heap[w.heap.size]? =some (.cells ⟨ROW⟩ 75 (0,0)):=by rw [<-hW1];show(w.heap.push _)[w.heap.size]? =_;simp
 have hO:∀k,k<w.heap.size->W1.heap[k]? =w.heap[k]? :=fun k hk=>by rw [<-hW1];show(w.heap.push _)[k]? =_;rw [PW,if_neg (by omega)]
 have hG2:=oQ 2 hGn
 have aOG:∀ty dc,(Builtin.copy_ #[69,69] ty #[.slice (some ⟨w.heap.size,i*2,none⟩) (n+1-i) dc,.slice (some ⟨vb,vo,none⟩) 1 vc]).run Tryz.prog W1= .ok (goInt ((1:Nat):Int)) (W1.putObj w.heap.size (.cells ⟨aG (i*2) new ROW⟩ 75 (0,0))):=fun ty dc=>by
  have hm:Nat.min 1 (n+1-i)=1:=by simp only [Nat.min_def];split<;>omega
  have:=Nh (w:=W1) (ty:=ty) (dCap:=dc) (a:=⟨w.heap.size,i*2,none⟩) (dLen:=n+1-i) (x:= .slice (some ⟨vb,vo,none⟩) 1 vc) ZA Ex (NW _ _ _) (cs:=new) (w1:=W1.putObj w.heap.size (.cells ⟨aG (i*2) new ROW⟩ 75 (0,0))) (by
   rw [hm];exact(show Row W1 vb vo new cs2 t2 fz2 from⟨(hO vb hvw).trans R2.at_,R2.Zk,R2.has⟩).first (o:=0) (by omega) fun j v e=>by rw [fK];exact e) (by
   have:=gY (P:=Tryz.prog) new W1 w.heap.size (i*2) 0 ⟨ROW⟩ 75 (0,0) hN (by show _<=ROW.length;rw [IC,hrl];omega) (fun x _ hx=>by simp) h2;simpa using this)
  rw [hm]at this;exact this
 have hsl:(aG (i*2) new ROW).length=gg*2:=by rw [kG _ _ _ (by rw [IC,hrl];omega)];exact hrl
 have aOH:∀ty dc sc,(Builtin.copy_ #[69,69] ty #[.slice (some ⟨w.heap.size,(i+1)*2,none⟩) (n-i) dc,.slice (some ⟨b,off+i*2,none⟩) (n-i) sc]).run Tryz.prog ((W1.putObj w.heap.size (.cells ⟨aG (i*2) new ROW⟩ 75 (0,0))).drew)= .ok (goInt ((n-i:Nat):Int)) (((W1.putObj w.heap.size (.cells ⟨aG (i*2) new ROW⟩ 75 (0,0))).drew).putObj w.heap.size (.cells ⟨aG ((i+1)*2) (old.drop (i*2)) (aG (i*2) new ROW)⟩ 75 (0,0))):=fun ty dc sc=>by
  have hm:Nat.min (n-i) (n-i)=n-i:=Nat.min_self _;have OO:((W1.putObj w.heap.size (.cells ⟨aG (i*2) new ROW⟩ 75 (0,0))).drew).heap[b]? =some (.cells cs t fz):=((gH (w:=W1) (by omega)).trans (hO b hbw)).trans R.at_;have hn2:((W1.putObj w.heap.size (.cells ⟨aG (i*2) new ROW⟩ 75 (0,0))).drew).heap[w.heap.size]? =some (.cells ⟨aG (i*2) new ROW⟩ 75 (0,0)):=lH (w:=W1) hN;generalize (W1.putObj w.heap.size (.cells ⟨aG (i*2) new ROW⟩ 75 (0,0))).drew=W2 at OO hn2 ⊢
  have:=Nh (w:=W2) (ty:=ty) (dCap:=dc) (a:=⟨w.heap.size,(i+1)*2,none⟩) (dLen:=n-i) (x:= .slice (some ⟨b,off+i*2,none⟩) (n-i) sc) ZA Ex (NW _ _ _) (cs:=old.drop (i*2)) (w1:=W2.putObj w.heap.size (.cells ⟨aG ((i+1)*2) (old.drop (i*2)) (aG (i*2) new ROW)⟩ 75 (0,0))) (by
   rw [hm];exact(show Row W2 b off old cs t fz from⟨OO,R.Zk,R.has⟩).first (o:=i*2) Ae fun j v e=>by rw [kI]at e;exact e) (by
   have:=gY (P:=Tryz.prog) (old.drop (i*2)) W2 w.heap.size ((i+1)*2) 0 ⟨aG (i*2) new ROW⟩ 75 (0,0) hn2 (by show _<=List.length _;rw [Ae,hsl];omega) (fun x _ hx=>by simp) (fun v hv=>h1 v (Kr hv));simpa using this)
  rw [hm]at this;exact this
 have hGi:¬(gg=i):=by omega
 have aPv:¬(gg=i+1):=by omega
 have hci:¬(c=i):=by omega
 have hw1:IntKind.i64.wrap ((i:Int)+1)=(i:Int)+1:=by rw [IntKind.wrap_i64];omega
 have hw2:IntKind.i64.wrap ((n:Int)+1)=(n:Int)+1:=by rw [IntKind.wrap_i64];omega
 have hw3:IntKind.i64.wrap ((n:Int)+1-(i:Int))=(n:Int)+1-(i:Int):=by rw [IntKind.wrap_i64];omega
 have Dp:(0:Int)<=(i:Int)+1:=by omega
 have JT:i<=n:=by omega
 have htn:((i:Int)+1).toNat=i+1:=by omega
 have hb3:(i:Int)<=(n:Int):=by omega
 have mixed:Tryz.prog.follows .mixedOrders=true:=by kernel_rfl
 clear hkk hik hold hG hrl
 go_enter Tryz.func164,Tryz.ntmps164
 go_wp2_with (first
  | (at_builtin;refine Lib.wpList_append_run _ rfl _ _ _ _ rfl _ _ rfl rfl _ _ (hrz _) ?_)
  | (at_builtin;refine wpList_copy_runI _ rfl _ _ 69 69 rfl _ _ rfl rfl (aOG _ _) ?_))
 go_region_law_o (refine step_copy_runI rfl _ _ 69 69 rfl _ _ (by simp [Act.eval,Act.put]) (by simp [Act.eval,Act.put]) (aOH _ _ _) ?_)
 go_wp2
 go_ret
 exact⟨rfl,rfl⟩
set_option maxHeartbeats 4000000 in
set_option maxRecDepth 100000 in
theorem aBp{w w1:World}{base:Option Addr}{n c vb vo vc:Nat}{v1:Value} (Xn:n<=c) (hb0:base=none->n=0/\c=0) (aOB:n<=140737488355328) (dD:(Builtin.append_ #[69,69] 69 #[.slice base n c,.slice (some ⟨vb,vo,none⟩) 1 vc]).run Tryz.prog w= .ok v1 w1):
 Calls Tryz.prog 164 #[.slice base n c,.int .i64 n,.slice (some ⟨vb,vo,none⟩) 1 vc] w fun e w'=>e= .returned v1/\w'=w1:=by
 have mixed:Tryz.prog.follows .mixedOrders=true:=by kernel_rfl
 go_enter Tryz.func164,Tryz.ntmps164
 cases base with
 | none=>
  obtain⟨h1,h2⟩:=hb0 rfl;subst h1 h2
  go_wp2_with (at_builtin;refine Lib.wpList_append_run _ rfl _ _ _ _ rfl _ _ rfl rfl _ _ dD ?_)
  go_ret
  exact⟨rfl,rfl⟩
 | some a=>
  obtain⟨ab,ao,asp⟩:=a
  go_wp2_with (at_builtin;refine Lib.wpList_append_run _ rfl _ _ _ _ rfl _ _ rfl rfl _ _ dD ?_)
  all_goals (go_ret;exact⟨rfl,rfl⟩)
end Go.Am
namespace Go.Am
open Go.RowKit Go.MapKept Go.Proofs
def aKf (i:Nat) (new old:List Value) (K:VK):VK:=fun s1 S1=>match s1 with
 | .slice (some ⟨b1,0,some 0⟩) m1 c1=>oS S1 b1 (i*2) (new++old.drop (i*2)) fun S2=>K (.slice (some ⟨b1,0,some 0⟩) m1 c1) S2
 | _=>false
def Jk (args:List Value) (S:St) (K:VK):Bool:=
 match args with
 | [.slice base n c,.int .i64 (.ofNat i),.slice (some ⟨q,vo,none⟩) 1 vc]=>match BR (n+1) 24 with
  | true=>match Nat.beq i n with
   | true=>match base with
    | none=>match n,c with
     | 0,0=>oF Tryz.prog [69,69] (.slice none 0 0) (.slice (some ⟨q,vo,none⟩) 1 vc) S K
     | _,_=>false
    | some a=>match Nat.ble n c with
     | true=>oF Tryz.prog [69,69] (.slice (some a) n c) (.slice (some ⟨q,vo,none⟩) 1 vc) S K
     | false=>false
   | false=>match base with
    | some ⟨b,0,some 0⟩=>match Nat.blt i n with
     | true=>uJ S b fun vs e ck=>match ck,Nat.beq e 75 with
      | .grown _,true=>uJ S q fun _ _ cq=>match cq with
       | .exact=>BS S b 0 (n*2) fun old=>BS S q vo 2 fun new=>match pW fR old,pW fR new with
        | true,true=>oF Tryz.prog [69,69] (.slice (some ⟨b,0,some 0⟩) n c) (.slice (some ⟨q,vo,none⟩) 1 vc) S (aKf i new old K)
        | _,_=>false
       | _=>false
      | _,_=>false
     | false=>false
    | _=>false
  | false=>false
 | _=>false
theorem aCJ{o i n:Nat}{new old cs:List Value} (hi:i<n) (hn:new.length=2) (ho:old.length=n*2) (hc:o+(n+1)*2<=cs.length):
 aG (o+i*2) (new++old.drop (i*2)) (aG (o+n*2) new cs)=aG (o+i*2) new (aG (o+(i+1)*2) (old.drop (i*2)) cs):=by
 have hd:(old.drop (i*2)).length=(n-i)*2:=by rw [mO,ho,VZ]
 have e1:(n-i)*2+i*2=n*2:=by rw [<-kJ];congr 1;omega
 have hl1:(aG (o+n*2) new cs).length=cs.length:=kG _ _ _ (by omega);have Gz:(aG (o+(i+1)*2) (old.drop (i*2)) cs).length=cs.length:=kG _ _ _ (by omega);apply uH;intro j;rw [fL _ _ _ (by rw [bW,hl1];omega),fL (o+n*2) new cs (by omega),fL _ _ _ (by rw [Gz];omega),fL _ _ _ (by omega),bW];by_cases h1:j<o+i*2
 ·rw [if_neg (by omega),if_neg (by omega),if_neg (by omega),if_neg (by omega)]
 ·by_cases h2:j<o+i*2+2
  ·rw [if_pos (by omega),if_pos (by omega),fQ (by omega)]
  ·by_cases h3:j<o+(n+1)*2
   ·rw [if_pos (by omega),if_neg (by omega),if_pos (by omega),iO (by omega)]
    congr 1;omega
   ·rw [if_neg (by omega),if_neg (by omega),if_neg (by omega),if_neg (by omega)]
theorem aCK{i n g:Nat}{new old:List Value} (hi:i<n) (hn:new.length=2) (ho:old.length=n*2) (hg:n+1<=g):
 aG (i*2) (new++old.drop (i*2)) ((old++new)++zz (g-(n+1)))=aG ((i+1)*2) (old.drop (i*2)) (aG (i*2) new (old.take (i*2)++zz (g-i))):=by
 have hd:(old.drop (i*2)).length=(n-i)*2:=by rw [mO,ho,VZ]
 have ht:(old.take (i*2)).length=i*2:=by rw [iX,ho];omega
 have e1:(n-i)*2+i*2=n*2:=by rw [<-kJ];congr 1;omega
 have ez:zz (g-i)=zz (n+1-i)++zz (g-(n+1)):=by rw [aET];congr 1;omega
 have YC:(zz (n+1-i)).length=(n+1-i)*2:=Zi _;have e2:(n+1-i)*2+i*2=(n+1)*2:=by rw [<-kJ];congr 1;omega
 rw [ez]
 have hl1:(aG (i*2) new (old.take (i*2)++(zz (n+1-i)++zz (g-(n+1))))).length=(n+1)*2+(zz (g-(n+1))).length:=by
  rw [kG _ _ _ (by simp only [bW];omega)];simp only [bW];omega
 apply uH;intro j;rw [fL _ _ _ (by simp only [bW];omega),fL _ _ _ (by rw [hl1];omega),fL _ _ _ (by simp only [bW];omega)];simp only [bW];by_cases h1:j<i*2
 ·rw [if_neg (by omega),if_neg (by omega),if_neg (by omega),KX,fQ (by omega),fQ (by omega),kZ,if_pos h1]
 ·by_cases h2:j<i*2+2
  ·rw [if_pos (by omega),if_neg (by omega),if_pos (by omega),fQ (by omega)]
  ·by_cases h3:j<(n+1)*2
   ·rw [if_pos (by omega),if_pos (by omega),iO (by omega)]
    congr 1;omega
   ·rw [if_neg (by omega),if_neg (by omega),if_neg (by omega)]
    rw [iO (by rw [bW];omega),iO (by omega),iO (by omega)]
    congr 1;simp only [bW];omega
section
variable{w0:World}
theorem Tk{w w':World} (h1:w'.os=w.os) (h2:w'.tape=w.tape) (h3:w'.output=w.output) (h4:w'.heap=w.heap):Below w.heap.size w w':=⟨h1,h2,h3,by rw [h4];exact bN _,fun k _=>by rw [h4]⟩
theorem Jn{w:World}{b:Nat}{x y:Obj}:((w.putObj b x).putObj b y).heap=(w.putObj b y).heap:=by
 apply VM;intro k;by_cases h:k=b
 ·subst h
  cases e:w.heap[k]? with
  | none=>
   have hs:w.heap.size<=k:=by simpa using e
   rw [Ww (by rw [putObj_size,putObj_size];exact hs),Ww (by rw [putObj_size];exact hs)]
  | some o=>rw [lH (lH e),lH e]
 ·rw [gH h,gH h,gH h]
theorem aEL:jA Tryz.prog w0 (fun f' args S K=>match Nat.beq f' 164 with | true=>Jk args S K | false=>false):=by
 intro f args S K U w dI hk h ha;dsimp only at hk;split at hk
 ·rename_i hf
  obtain rfl:f=164:=by simpa using hf
  refine⟨enters_of Tryz.func164 (by kernel_rfl) rfl ⟨dI⟩,?_⟩;unfold Jk at hk;split at hk
  ·rename_i base n c i q vo vc
   obtain⟨s',l1,rfl,hs,ha1⟩:=ha.bU;obtain⟨i',l2,rfl,hi,ha2⟩:=ha1.bU;obtain⟨x',l3,rfl,hx,ha3⟩:=ha2.bU;obtain rfl:=ha3.iH;obtain rfl:=hi.of_flat rfl;split at hk
   ·rename_i sJ
    have sJ:=Qe sJ
    obtain⟨L2,c2,Df,rfl,hc2⟩:∃L2 c2,U q=some L2/\x'= .slice (some ⟨L2.b,L2.s+vo,none⟩) 1 c2/\c2=vc:=by
     rcases hx.iG with ⟨L,c',hL,rfl,⟨_,e⟩ | ⟨e,_⟩⟩ | ⟨⟨_,e⟩,_⟩
     ·exact⟨L,c',hL,rfl,e⟩
     ·cases e
     ·cases e
    split at hk
    ·
      rename_i JT;obtain rfl:=cV JT;split at hk
      ·split at hk
       ·obtain rfl:=hs.of_flat rfl
        obtain⟨U',v,S',v',w',hk,dD,hv,hr,Wj⟩:=zR (ts:= #[69,69]) (ty:=69) h hk hs hx;refine callsIn_wide.2 ((aBp (bN _) (fun _=>⟨rfl,rfl⟩) (by omega) dD).mono ?_)
        rintro e w'' ⟨rfl,rfl⟩
        exact⟨_,rfl,U',_,S',hk,hv,hr,Wj⟩
       ·cases hk
      ·rename_i a
       split at hk
       ·rename_i hle
        have hle:=bE hle
        obtain⟨a',c',rfl,hc'⟩:∃a' c',s'= .slice (some a') i c'/\i<=c':=by
         obtain⟨ab,ao,asp⟩:=a;rcases hs.iG with ⟨L,c',hL,rfl,⟨_,e⟩ | ⟨_,e1,e2,_⟩⟩ | ⟨_,rfl,rfl,a',c',rfl⟩
         ·exact⟨_,c',rfl,by omega⟩
         ·exact⟨_,c',rfl,by omega⟩
         ·exact⟨a',c',rfl,mP _⟩
        obtain⟨U',v,S',v',w',hk,dD,hv,hr,Wj⟩:=zR (ts:= #[69,69]) (ty:=69) h hk hs hx;refine callsIn_wide.2 ((aBp hc' (fun e=>by cases e) (by omega) dD).mono ?_)
        rintro e w'' ⟨rfl,rfl⟩
        exact⟨_,rfl,U',_,S',hk,hv,hr,Wj⟩
       ·cases hk
    ·
      split at hk
      ·rename_i b
       split at hk
       ·rename_i hlt
        have JT:i<n:=bE hlt;obtain⟨vs,e,ck,ho,hk⟩:=tI hk;split at hk
        ·rename_i olds aOw
         obtain rfl:=cV aOw;obtain⟨vs2,e2,cq,uK,hk⟩:=tI hk;split at hk
         ·obtain⟨vsA,eA,ckA,hoA,aOx,hk⟩:=rG hk
          rw [ho]at hoA;injection hoA with hoA;injection hoA with q1 q2 q3;subst q1 q2 q3;obtain⟨vsB,eB,ckB,hoB,aOy,hk⟩:=rG hk;rw [uK]at hoB;injection hoB with hoB;injection hoB with q1 q2 q3;subst q1 q2 q3;split at hk
          ·rename_i aBq aBr
           rw [jJ]at aBq aBr
           obtain⟨L,c',hL,rfl,hcc,Xn,Qt,hmp⟩:∃L c',U b=some L/\s'= .slice (some ⟨L.b,L.s+0,none⟩) n c'/\c<=c'/\n<=c/\L.s+0+c'*L.m=L.e/\0<L.m:=by
            rcases hs.iG with ⟨L,c',hL,rfl,⟨e,_⟩ | ⟨_,e1,e2,e3,e4⟩⟩ | ⟨⟨_,e⟩,_⟩
            ·cases e
            ·exact⟨L,c',hL,rfl,e1,e2,e3,e4⟩
            ·cases e
           obtain⟨cs,t,fz,hb,hcv,tH,Is,hLe,hLm,_⟩:=h.cells ho hL;obtain⟨cs2,t2,fz2,OO,aPs,aOz,Pw,aOA,aEU,_⟩:=h.cells uK Df;have hLm:L.m=2:=by rw [Ex]at hLm;injection hLm with hLm;exact hLm.symm
           obtain⟨old,Cw,Tn,aKg⟩:=h.vW ho hL aOx;obtain⟨new,IC,aCL,aKh⟩:=h.vW uK Df aOy;have aKi:=GX Cw (dL.1 aBq);have aHy:=GX IC (dL.1 aBr);have R:Row w L.b (L.s+0) old cs t fz:=⟨hb,Is,fun j v e=>by have:=aKg j v e;rw [lF]at this;simpa [World.cell?,hb]using this⟩;have R2:Row w L2.b (L2.s+vo) new cs2 t2 fz2:=⟨OO,aEU.to,fun j v e=>by have:=aKh j v e;rw [lF]at this;simpa [World.cell?,OO]using this⟩
           have hvb:L2.b≠L.b:=fun e=>by
            have uR:q≠b:=fun e=>by subst e;rw [ho]at uK;injection uK with uK;injection uK with _ _ uK;cases uK
            rcases h.sep q b _ _ L2 L uR uK ho rfl rfl Df hL e with ⟨g1,_⟩ | g1 | g1
            ·cases g1
            ·cases g1
            ·obtain⟨_,g2⟩:=h.old b vs 75 olds ho q g1
             rcases g2 _ uK with g3 | ⟨ws,u,g3,_⟩
             ·cases g3
             ·injection g3 with _ _ g3;cases g3
           obtain⟨U1,s1,S1,v1,w1,hk,dD,hv1,Iq,Re⟩:=zR (ts:= #[69,69]) (ty:=69) h hk hs hx;unfold aKf at hk;split at hk
           ·rename_i b1 m1 c1
            obtain⟨L1,c1',Hb,rfl,hc1⟩:∃L1 c1',U1 b1=some L1/\v1= .slice (some ⟨L1.b,L1.s+0,none⟩) m1 c1'/\True:=by
             rcases hv1.iG with ⟨L,c',hL,rfl,_⟩ | ⟨⟨_,e⟩,_⟩
             ·exact⟨L,c',hL,rfl,trivial⟩
             ·cases e
            have hvn:kK U1 (List.take 2 (List.drop vo vs2)++(List.take (n*2) (List.drop 0 vs)).drop (i*2)) (new++old.drop (i*2)):=(IC.mono Re.ext).append ((Cw.mono Re.ext).drop _)
            have aKj:∀v∈new++old.drop (i*2),v.oneCell'=true:=fun v hv=>by
             rcases oR.1 hv with hv | hv
             ·exact aHy v hv
             ·exact aKi v (Kr hv)
            obtain⟨S2,w2,hk,hr2,aG0,aBs⟩:=tU Iq hk Hb hvn aKj;obtain⟨i0,hi0,hz0,WG,hzb⟩:=Zj;have hlen:∀w,(Builtin.lenOf (.slice (some ⟨L2.b,L2.s+vo,none⟩) 1 c2)).run Tryz.prog w= .ok 1 w:=fun w=>rfl;have WJ:Cq (Tryz.prog.underlying 69)=true:=by kernel_rfl
            have hfc:∀W:World,W.heap=w.heap->(Builtin.firstCells i0.size 1 (.slice (some ⟨L2.b,L2.s+vo,none⟩) 1 c2)).run Tryz.prog W= .ok ⟨new⟩ W:=fun W hW=>by
             rw [WG];exact(show Row W L2.b (L2.s+vo) new cs2 t2 fz2 from⟨by rw [hW];exact OO,R2.Zk,R2.has⟩).first (o:=0) aCL fun j v e=>by rw [fK];exact e
            rw [hLm]at Qt;have Lm:L.s+0+c'*2<=cs.size:=by omega
            by_cases hrm:n+1<=c'
            ·
              have hm2:=oQ 2 hrm;have hsc:=gY (P:=Tryz.prog) new w L.b (L.s+0+n*2) 0 cs t fz hb (by omega) (fun x _ hx=>Is x (by omega)) aHy;have hra:=CG (P:=Tryz.prog) (ts:= #[69,69]) (ty:=69) (t:=69) (tx:=69) (e:=75) (w:=w) (base:=some ⟨L.b,L.s+0,none⟩) (sLen:=n) (sCap:=c') rfl rfl ZA WJ hi0 hlen hrm (hfc w rfl) (w1:=w.putObj L.b (.cells ⟨aG (L.s+0+n*2) new cs.toList⟩ t fz)) (fun a e=>by injection e with e;subst e;rw [lF,WG];simpa using hsc) (fun e=>by cases e);rw [hra]at dD;injection dD with g1 g2;injection g1 with g1 g3 g4;injection g1 with g1;injection g1 with g1 g5;subst g2 g3 g4;have hsl:(aG (L.s+0+n*2) new cs.toList).length=cs.size:=kG _ _ _ (by show _<=cs.size;omega);have Ae:(old.drop (i*2)).length=(n-i)*2:=by rw [mO,Tn,VZ]
              have e1:(n-i)*2+i*2=n*2:=by rw [<-kJ];congr 1;omega
              have aKk:=gY (P:=Tryz.prog) (new++old.drop (i*2)) (w.putObj L.b (.cells ⟨aG (L.s+0+n*2) new cs.toList⟩ t fz)) L.b (L.s+0+i*2) 0 ⟨aG (L.s+0+n*2) new cs.toList⟩ t fz (lH hb) (by show _<=List.length _;rw [hsl,bW];omega) (fun x _ hx=>Is x (by rw [bW]at hx;omega)) aKj;have e0:L1.s+i*2=L.s+0+i*2:=by omega
              rw [<-g1,e0,aKk]at aBs;injection aBs with _ g6
              have aEV:Below w2.heap.size w2 ((w.drew.putObj L.b (.cells ⟨aG (L.s+0+(i+1)*2) (old.drop (i*2)) cs.toList⟩ t fz)).putObj L.b (.cells ⟨aG (L.s+0+i*2) new (aG (L.s+0+(i+1)*2) (old.drop (i*2)) cs.toList)⟩ t fz)):=by
               subst g6;refine Tk rfl rfl rfl ?_;rw [Jn,Jn];have:=aCJ (o:=L.s+0) JT aCL Tn (show L.s+0+(n+1)*2<=cs.toList.length by show _<=cs.size;omega);simp only [II]at this ⊢;rw [this];rfl
              obtain⟨r1,r2⟩:=hr2.below aEV;refine callsIn_wide.2 ((aEW JT hrm sJ.2 hvb aEU R R2 Tn aCL Lm aKi aHy).mono ?_)
              rintro e w'' ⟨rfl,rfl⟩
              have ev:Value.slice (some ⟨L.b,L.s+0,none⟩) (n+1) c'= .slice (some ⟨L1.b,L1.s+0,none⟩) (n+1) c':=by rw [g1,g5]
              exact⟨_,kA Ending.returned ev,U1,_,S2,hk,hv1,r1,(Re.trans aG0).trans r2⟩
            ·
              have hold:(Builtin.firstCells i0.size n (.slice (some ⟨L.b,L.s+0,none⟩) n c')).run Tryz.prog w.drew= .ok ⟨old⟩ w.drew:=by
               rw [WG];exact R.drew.first (o:=0) Tn fun j v e=>by rw [fK];exact e
              have hra:=CI (P:=Tryz.prog) (ts:= #[69,69]) (ty:=69) (t:=69) (tx:=69) (e:=75) (w:=w) (base:=some ⟨L.b,L.s+0,none⟩) (sLen:=n) (sCap:=c') (olds:=old) (news:=new) rfl rfl ZA WJ hi0 hz0 hlen (by omega) (by rw [hzb];exact sJ) hold (hfc w.drew rfl);rw [hra]at dD;injection dD with g1 g2;injection g1 with g1 g3 g4;injection g1 with g1;injection g1 with g1 g5;have hG:=grownCap_ge w (n+1) c' 75;generalize hGe:grownCap w (n+1) c' 75=gg at g2 g4 hG;subst g3 g4;have ezz:(List.replicate (gg-(n+1)) (Value.agg #[Value.int .i64 0,Value.string ⟨#[]⟩]).cells.toList).flatten=zz (gg-(n+1)):=rfl;rw [ezz]at g2;have hN:w1.heap[w.heap.size]? =some (.cells ⟨(old++new)++zz (gg-(n+1))⟩ 75 (0,0)):=by rw [<-g2];show(w.heap.push _)[w.heap.size]? =_;simp
              have hrl:((old++new)++zz (gg-(n+1))).length=gg*2:=by
               simp only [bW,Tn,aCL,Zi];have:(n+1)*2+(gg-(n+1))*2=gg*2:=by rw [<-kJ];congr 1;omega
               omega
              have Ae:(old.drop (i*2)).length=(n-i)*2:=by rw [mO,Tn,VZ]
              have e1:(n-i)*2+i*2=n*2:=by rw [<-kJ];congr 1;omega
              have hG2:=oQ 2 hG;have aKk:=gY (P:=Tryz.prog) (new++old.drop (i*2)) w1 w.heap.size (0+0+i*2) 0 ⟨(old++new)++zz (gg-(n+1))⟩ 75 (0,0) hN (by show _<=List.length _;rw [hrl,bW];omega) (fun x _ hx=>by simp) aKj;have e0:L1.s+i*2=0+0+i*2:=by omega
              rw [<-g1,e0,aKk]at aBs;injection aBs with _ g6;have aMO:=aEX (vc:=c2) JT (rD Xn hcc) (by omega) sJ.1 R R2 Tn aCL aKi aHy;rw [hGe]at aMO
              have aEV:Below w2.heap.size w2 ((((w.alloc (.cells ⟨old.take (i*2)++zz (gg-i)⟩ 75)).drew.putObj w.heap.size (.cells ⟨aG (i*2) new (old.take (i*2)++zz (gg-i))⟩ 75 (0,0))).drew).putObj w.heap.size (.cells ⟨aG ((i+1)*2) (old.drop (i*2)) (aG (i*2) new (old.take (i*2)++zz (gg-i)))⟩ 75 (0,0))):=by
               subst g6;rw [<-g2];refine Tk rfl rfl rfl ?_;rw [<-aCK JT aCL Tn hG];apply VM;intro k;by_cases h:k=w.heap.size
               ·subst h
                have p1:∀(x y:Obj),((w.alloc x).drew.putObj w.heap.size y).heap[w.heap.size]? =some y:=fun x y=>lH (w:=(w.alloc x).drew) (y:=x) (by show(w.heap.push _)[w.heap.size]? =_;simp);rw [lH (w:=((w.alloc _).drew.putObj w.heap.size _).drew) (p1 _ _)];rw [lH (y:= .cells ⟨(old++new)++zz (gg-(n+1))⟩ 75 (0,0)) (by show(w.heap.push _)[w.heap.size]? =_;simp)];simp
               ·rw [gH h,gH h]
                show((w.alloc _).drew.putObj w.heap.size _).heap[k]? =_;rw [gH h];show(w.heap.push _)[k]? =(w.heap.push _)[k]?;rw [PW,PW,if_neg h,if_neg h]
              obtain⟨r1,r2⟩:=hr2.below aEV;refine callsIn_wide.2 (aMO.mono ?_)
              rintro e w'' ⟨rfl,rfl⟩
              have ev:Value.slice (some ⟨w.heap.size,0,none⟩) (n+1) gg= .slice (some ⟨L1.b,L1.s+0,none⟩) (n+1) gg:=by rw [g1,<-g5]
              exact⟨_,kA Ending.returned ev,U1,_,S2,hk,hv1,r1,(Re.trans aG0).trans r2⟩
           ·cases hk
          ·cases hk
         ·cases hk
        ·cases hk
       ·cases hk
      ·cases hk
   ·cases hk
  ·cases hk
 ·cases hk
end
end Go.Am
namespace Go.Am
open Go.Proofs Go.RowKit
set_option maxRecDepth 1000000 in
theorem Tg:TC Tryz.prog ovP 1000 60 27 gs ([.agg #[.int .u64 23,.int .u64 11,.int .u64 4,.int .u64 9,.int .i64 5,.int .i64 4,.int .i64 1,.int .i64 1,.int .i64 1,.int .i64 1,.int .i64 1,.int .i64 1]],.bool true):=⟨by simp [iZ,bA],rfl,by kernel_rfl⟩
def aEK:List (List Value×Value):=[([.agg #[.int .u64 23,.int .u64 11,.int .u64 4,.int .u64 9,.int .i64 5,.int .i64 4,.int .i64 1,.int .i64 1,.int .i64 1,.int .i64 1,.int .i64 1,.int .i64 1]],.bool true)]
def aMK:FuncId->Option (List Value->St->VK->Bool):=BJ 27 (YT aEK) (BJ 164 Jk (BJ 111 QX ovT))
theorem aHr{w:World} (hsz:Tryz.prog.globals.size<=w.heap.size) (hl:Laid gs w):Dq Tryz.prog w aMK:=by
 refine CW (Be (most:=1000) (n:=60) aBm hsz hl (fun w hz hw=>Za hz hw) names mixed (enters_of Tryz.func27 (by kernel_rfl) rfl) fun x hx=>?_) (CW aEL (CW aCz Zb));unfold aEK at hx;rcases cO.1 hx with rfl | hx
 ·exact Tg
 cases hx
def aML:FuncId->Option (List Value->St->VK->Bool):=BJ 27 (YT aEK) ovP
theorem aHs{w:World} (hsz:Tryz.prog.globals.size<=w.heap.size) (hl:Laid gs w):Dq Tryz.prog w aML:=by
 refine CW (Be (most:=1000) (n:=60) aBm hsz hl (fun w hz hw=>Za hz hw) names mixed (enters_of Tryz.func27 (by kernel_rfl) rfl) fun x hx=>?_) (Za hsz hl);unfold aEK at hx;rcases cO.1 hx with rfl | hx
 ·exact Tg
 cases hx
set_option maxRecDepth 1000000 in
theorem aCA:TC Tryz.prog aML 1000 60 6 gs ([],.bool true):=⟨by simp,rfl,by kernel_rfl⟩
def Zc:List (List Value×Value):=[([],.bool true)]
def aMM:FuncId->Option (List Value->St->VK->Bool):=BJ 6 (YT Zc) aMK
theorem aHt{w:World} (hsz:Tryz.prog.globals.size<=w.heap.size) (hl:Laid gs w):Dq Tryz.prog w aMM:=by
 refine CW (Be (most:=1000) (n:=60) aBm hsz hl (fun w hz hw=>aHs hz hw) names mixed (enters_of Tryz.func6 (by kernel_rfl) rfl) fun x hx=>?_) (aHr hsz hl);unfold Zc at hx;rcases cO.1 hx with rfl | hx
 ·exact aCA
 cases hx
end Go.Am
namespace Go.Am
open Go.RowKit Go.MapKept Go.Proofs
def gT0 (f:FuncId):Option (List V->Hp->KV->Prop):=
 if f=nB then some Pg else if f=nA then some Ph else if f=xR then some aKU else if f=oC then some aBM else none
section
variable{P:Program}{B:Nat->Prop}{Sb:St}{c:Cx}{h:Hp}{S:St}
theorem aIx (hsz:bP P 94=some 5):PS P B Sb gT0 ovT:=by
 have h1:∀f,(f=nB/\gT0 f=some Pg/\ovT f=some NU)\/(f=nA/\gT0 f=some Ph/\ovT f=some NV)\/(f=xR/\gT0 f=some aKU/\ovT f=some Jl)\/(f=oC/\gT0 f=some aBM/\ovT f=some WY)\/(gT0 f=none/\ovT f=none):=by
  intro f;by_cases e1:f=nB
  ·subst e1;exact .inl ⟨rfl,rfl,rfl⟩
  ·by_cases e2:f=nA
   ·subst e2;exact .inr (.inl ⟨rfl,rfl,rfl⟩)
   ·by_cases e3:f=xR
    ·subst e3;exact .inr (.inr (.inl ⟨rfl,rfl,rfl⟩))
    ·by_cases e4:f=oC
     ·subst e4;exact .inr (.inr (.inr (.inl ⟨rfl,rfl,rfl⟩)))
     ·refine .inr (.inr (.inr (.inr ⟨by unfold gT0;rw [if_neg e1,if_neg e2,if_neg e3,if_neg e4],?_⟩)))
      unfold ovT;rw [show Nat.beq f 209=false from RT e1,show Nat.beq f 97=false from RT e2,show Nat.beq f 156=false from RT e3,show Nat.beq f 168=false from RT e4];rfl
 refine⟨fun f hf=>?_,fun f g hg=>?_⟩
 ·rcases h1 f with ⟨_,q,_⟩ | ⟨_,q,_⟩ | ⟨_,q,_⟩ | ⟨_,q,_⟩ | ⟨_,q⟩
  ·rw [q]at hf;cases hf
  ·rw [q]at hf;cases hf
  ·rw [q]at hf;cases hf
  ·rw [q]at hf;cases hf
  ·exact q
 ·rcases h1 f with ⟨_,q,q2⟩ | ⟨_,q,q2⟩ | ⟨_,q,q2⟩ | ⟨_,q,q2⟩ | ⟨q,_⟩
  ·rw [q]at hg;injection hg with hg;subst hg;exact⟨_,q2,fun s ra k hv=>aAu s ra k hv⟩
  ·rw [q]at hg;injection hg with hg;subst hg;exact⟨_,q2,fun s ra k hv=>aAv hsz s ra k hv⟩
  ·rw [q]at hg;injection hg with hg;subst hg;exact⟨_,q2,fun s ra k hv=>aF0 s ra k hv⟩
  ·rw [q]at hg;injection hg with hg;subst hg;exact⟨_,q2,fun s ra k hv=>aDg s ra k hv⟩
  ·rw [q]at hg;cases hg
theorem PS.more{g:Nr}{ov:FuncId->Option (List Value->St->VK->Bool)} (o:PS P B Sb g ov){f0:FuncId}{g0:List V->Hp->KV->Prop}{ov0:List Value->St->VK->Bool}
 (hs:∀{args:List V} {ws:List Value} {c:Cx} {h:Hp} {S:St} {Kv:KV} {K:VK},VS P B Sb c h S->kE c S (cY B c h) args ws->KR P B Sb c h S Kv K->g0 args h Kv->ov0 ws S K=true):PS P B Sb (fun f=>if f=f0 then some g0 else g f) (BJ f0 ov0 ov):=by
 refine⟨fun f hf=>?_,fun f g' hg=>?_⟩
 ·by_cases e:f=f0
  ·dsimp only at hf;rw [if_pos e]at hf;cases hf
  ·dsimp only at hf;rw [if_neg e]at hf
   unfold BJ;rw [show Nat.beq f f0=false from RT e];exact o.1 f hf
 ·by_cases e:f=f0
  ·dsimp only at hg;rw [if_pos e]at hg
   injection hg with hg;subst e hg;refine⟨ov0,?_,fun s ra k hv=>hs s ra k hv⟩;unfold BJ;rw [show Nat.beq f f=true from IJ f];rfl
  ·dsimp only at hg;rw [if_neg e]at hg
   obtain⟨g2,q1,q2⟩:=o.2 f g' hg;refine⟨g2,?_,q2⟩;unfold BJ;rw [show Nat.beq f f0=false from RT e];exact q1
end
section
variable{B:Nat->Prop}{Sb:St}{c:Cx}{h:Hp}{S:St}
def Gp (args:List V) (h:Hp) (K:KV):Prop:=(args=[.nil]/\K (.tuple []) h)\/(∃i o c:Nat,args=[.own i o 0 c]/\K (.tuple []) h)\/∃(i:Nat) (ls:List Int),args=[.acc i ls.length]/\0<ls.length/\h i=some (.jK (ls.map (V.int .i64)) 3 ls.length)/\ls.length<1000000/\K (.tuple []) (aR h i (.jK ((sR ls).map (V.int .i64)) 3 ls.length))
theorem aGe{C:Nat->Prop}:∀{ls:List Int} {ws:List Value},kE c S C (ls.map (V.int .i64)) ws->ws=ls.map AG:=by
 intro ls;induction ls with
 | nil=>intro ws r;exact r.mL
 | cons l ls ih=>
  intro ws r;obtain⟨w1,ws,rfl,r1,r2⟩:=r.cons_inv;cases r1;rw [ih r2];rfl
theorem aDt{C:Nat->Prop}:∀(ls:List Int),kE c S C (ls.map (V.int .i64)) (ls.map AG):=by
 intro ls;induction ls with
 | nil=>exact .nil
 | cons l ls ih=>exact .cons .int ih
theorem aGf:∀{a b:List Int},a.map AG=b.map AG->a=b:=by
 intro a;induction a with
 | nil=>intro b h;cases b with | nil=>rfl | cons=>cases h
 | cons x a ih=>
  intro b h;cases b with
  | nil=>cases h
  | cons y b=>
   simp only [vK,List.cons.injEq]at h
   have hx:x=y:=by
    have h:=h.1;unfold AG at h;injection h
   rw [hx,ih h.2]
theorem aDu{b n c:Nat}{K:VK}:QX [.slice (some ⟨b,0,some 0⟩) (n+1) c] S K= @dite Bool (∃ls:List Int,ls.length=n+1/\ls.length<1000000/\∃olds,S.obj b=some (.cells (ls.map AG) 3 (.grown olds))) (Classical.propDecidable _) (fun h=>oS S b 0 ((sR h.choose).map AG) fun S=>K (.tuple #[]) S) (fun _=>false):=rfl
open Classical in
theorem aAH{args:List V}{ws:List Value}{Kv:KV}{K:VK} (s:VS PP B Sb c h S) (ra:kE c S (cY B c h) args ws) (k:KR PP B Sb c h S Kv K) (hv:Gp args h Kv):QX ws S K=true:=by
 have nil:∀{d:Cx} {S':St} {C:Nat->Prop},fC d S' C (.tuple []) (.tuple #[]):= .tuple rfl fun k v w e _=>by simp at e
 rcases hv with ⟨rfl,hv⟩ | ⟨i,o,c,rfl,hv⟩ | ⟨i,ls,rfl,h0,hi,hn,hv⟩
 ·obtain⟨w1,ws,rfl,r1,ra⟩:=ra.cons_inv
  rw [ra.mL];cases r1;exact k.here s nil hv
 ·obtain⟨w1,ws,rfl,r1,ra⟩:=ra.cons_inv
  rw [ra.mL];cases r1 with
  | own hZ=>exact k.here s nil hv
 ·obtain⟨w1,ws,rfl,r1,ra⟩:=ra.cons_inv
  rw [ra.mL];cases r1 with
  | acc hGz=>
   obtain⟨b,us,olds,sz,e1,e2,e3,e4,e5,_⟩:=s.jK i _ _ _ hi;rw [hGz]at e1;injection e1 with e1;subst e1;have hu:=aGe e5;subst hu;obtain⟨n,hn1⟩:∃n,ls.length=n+1:=⟨ls.length-1,by omega⟩;have hex:∃aLE:List Int,aLE.length=n+1/\aLE.length<1000000/\∃olds,S.obj b=some (.cells (aLE.map AG) 3 (.grown olds)):=⟨ls,hn1,hn,olds,e4⟩;have hg:∀m,ls.length=m->QX [.slice (some ⟨b,0,some 0⟩) m m] S K=QX [.slice (some ⟨b,0,some 0⟩) (n+1) (n+1)] S K:=fun m hm=>by rw [<-hm,hn1]
   rw [hg _ rfl,aDu];rw [dif_pos hex];obtain⟨h1,h2,aPq,h3⟩:=hex.choose_spec
   have hls:hex.choose=ls:=by
    have h4:=e4.symm.trans h3;injection h4 with h4;injection h4 with h4;exact(aGf h4).symm
   rw [hls];refine yZ s (o:=0) (cs:=(sR ls).map (V.int .i64)) hi hGz (aDt _) (by simp [EA]) (Kv:=fun h'=>Kv (.tuple []) h') (fun h' S' f s' CC=>k c h' S' _ _ (.refl c) f s' nil CC) ?_
   have:aG 0 ((sR ls).map (V.int .i64)) (ls.map (V.int .i64))=(sR ls).map (V.int .i64):=by
    unfold aG;simp [EA]
   rw [this];exact hv
def aGg (i:Nat) (new vs:List V) (K:KV):KV:=fun s1 h1=>match s1 with
 | .acc b1 m1=>match h1 b1 with
  | some (.jK ws t m)=>m=m1/\i*2+(new++vs.drop (i*2)).length<=ws.length/\K (.acc b1 m1) (aR h1 b1 (.jK (aG (i*2) (new++vs.drop (i*2)) ws) t m))
  | _=>False
 | _=>False
def aIy (args:List V) (h:Hp) (K:KV):Prop:=∃(s:V) (n i q o c:Nat),args=[s,.int .i64 (.ofNat i),.own q o 1 c]/\((n+1)*24<=140737488355328/\n+1<=140737488355328)/\
 ((i=n/\((s= .nil/\n=0)\/(∃b,s= .acc b n)\/(∃b,s= .own b 0 0 0/\n=0))/\sE 75 2 24 s (.own q o 1 c) h K)\/
  (i<n/\∃b vs us t,s= .acc b n/\h b=some (.jK vs 75 n)/\h q=some (.row us t)/\o+2<=us.length/\vs.all tO=true/\((us.drop o).take 2).all tO=true/\sE 75 2 24 s (.own q o 1 c) h (aGg i ((us.drop o).take 2) vs K)))
theorem aBT (s x:Value) (S:St) (K:VK):oF Tryz.prog [69,69] s x S K=Sv Tryz.prog 75 2 24 s x S K:=by
 obtain⟨i0,hi0,hz0,WG,hzb⟩:=Zj;rw [WV (el:=75) (n:=1) (by kernel_rfl) (by kernel_rfl) hi0 WG hz0 rfl,hzb]
theorem aDv{S:St}{b n i q o cc:Nat}{wsb wsq:List Value}{olds:List Nat}{t:TypeId}{K:VK} (hrb:BR (n+1) 24=true) (uR:Nat.beq i n=false) (hlt:Nat.blt i n=true) (hb:S.obj b=some (.cells wsb 75 (.grown olds))) (hq:S.obj q=some (.cells wsq t .exact)) (hl:wsb.length=n*2) (Gz:o+2<=wsq.length) (h1:pW fR wsb=true) (h2:pW fR ((wsq.drop o).take 2)=true):
 Jk [.slice (some ⟨b,0,some 0⟩) n n,.int .i64 (.ofNat i),.slice (some ⟨q,o,none⟩) 1 cc] S K=oF Tryz.prog [69,69] (.slice (some ⟨b,0,some 0⟩) n n) (.slice (some ⟨q,o,none⟩) 1 cc) S (aKf i ((wsq.drop o).take 2) wsb K):=by
 unfold Jk;simp only [hrb,uR,hlt];rw [xD hb];simp only [];rw [xD hq];simp only;rw [CM hb (by omega),CM hq (by omega)];rw [DE,uG (show wsb.length<=n*2 by omega),h1,h2]
theorem aGh{args:List V}{ws:List Value}{Kv:KV}{K:VK} (s:VS PP B Sb c h S) (ra:kE c S (cY B c h) args ws) (k:KR PP B Sb c h S Kv K) (hv:aIy args h Kv):Jk ws S K=true:=by
 obtain⟨sv,n,i,q,o,cc,rfl,sJ,hv⟩:=hv;obtain⟨w1,ws,rfl,r1,ra⟩:=ra.cons_inv;obtain⟨w2,ws,rfl,r2,ra⟩:=ra.cons_inv;obtain⟨w3,ws,rfl,r3,ra⟩:=ra.cons_inv;rw [ra.mL];cases r2;have r3':=r3;cases r3 with
 | @own _ _ _ _ q' hq=>
  have hrb:BR (n+1) 24=true:=LC sJ;rcases hv with ⟨rfl,hs,hv⟩ | ⟨JT,b,vs,us,t,rfl,hb,hqr,Cw,h1,h2,hv⟩
  ·rcases hs with ⟨rfl,rfl⟩ | ⟨b,rfl⟩ | ⟨b,rfl,rfl⟩
   ·cases r1
    show(match BR (0+1) 24 with | true=>oF Tryz.prog [69,69] (.slice none 0 0) (.slice (some ⟨q',o,none⟩) 1 cc) S K | false=>false)=true;rw [hrb];show oF Tryz.prog [69,69] (.slice none 0 0) (.slice (some ⟨q',o,none⟩) 1 cc) S K=true;rw [aBT];exact MZ s (by omega) Ex .nil r3' k hv
   ·have r1':=r1
    cases r1 with
    | acc e=>
     obtain⟨b',rfl⟩:=s.Gs _ _ _ e;show(match BR (i+1) 24 with | true=>(match Nat.beq i i with | true=>(match Nat.ble i i with | true=>oF Tryz.prog [69,69] (.slice (some ⟨b',0,some 0⟩) i i) (.slice (some ⟨q',o,none⟩) 1 cc) S K | false=>false) | false=>_) | false=>false)=true;rw [hrb];simp only [IJ];rw [show Nat.ble i i=true from iW (bN i)];show oF Tryz.prog [69,69] (.slice (some ⟨b',0,some 0⟩) i i) (.slice (some ⟨q',o,none⟩) 1 cc) S K=true;rw [aBT];exact MZ s (by omega) Ex r1' r3' k hv
   ·have r1':=r1
    cases r1 with
    | @own _ _ _ _ b' hb=>
     show(match BR (0+1) 24 with | true=>oF Tryz.prog [69,69] (.slice (some ⟨b',0,none⟩) 0 0) (.slice (some ⟨q',o,none⟩) 1 cc) S K | false=>false)=true;rw [hrb];show oF Tryz.prog [69,69] (.slice (some ⟨b',0,none⟩) 0 0) (.slice (some ⟨q',o,none⟩) 1 cc) S K=true;rw [aBT];exact MZ s (by omega) Ex r1' r3' k hv
  ·obtain⟨b',wsb,olds,sz,e1,e2,e3,e4,e5,e6,e7,_⟩:=s.jK b vs 75 n hb
   obtain⟨q2,wsq,f1,f2,f3,f4,f5⟩:=s.row q us t hqr;rw [hq]at f1;injection f1 with f1;subst f1;have hsz:sz=2:=by rw [show bP PP 75=some 2 from Ex]at e6;injection e6 with e6;exact e6.symm
   subst hsz;have l1:=e5.len;have l2:=f5.len;have r1':=r1;cases r1 with
   | acc e=>
    rw [e1]at e;injection e with e;subst e;have aBq:pW fR wsb=true:=by rw [jJ];exact s.Oe e5 h1
    have aBr:pW fR ((wsq.drop o).take 2)=true:=by rw [jJ];exact s.Oe ((f5.drop o).take 2) h2
    have uR:Nat.beq i n=false:=RT (by omega);rw [aDv hrb uR (iW JT) e4 f4 (by omega) (by omega) aBq aBr];rw [aBT];refine MZ s (by omega) Ex r1' r3' (fun c' h' S' v w le fr s' r hv=>?_) hv;unfold aGg at hv;split at hv
    ·rename_i b1 m1
     split at hv
     ·rename_i ws' t' m' Dp
      obtain⟨rfl,hl,hv⟩:=hv;have r':=r;cases r with
      | acc eG=>
       obtain⟨b1',rfl⟩:=s'.Gs _ _ _ eG;show oS S' b1' (i*2) ((wsq.drop o).take 2++wsb.drop (i*2)) (fun S2=>K (.slice (some ⟨b1',0,some 0⟩) m' m') S2)=true;refine yZ s' Dp eG (((f5.drop o).take 2).mono le fr |>.app ((e5.drop (i*2)).mono le fr)) hl (fun h2 S2 fr2 s2 Lu=>?_) hv;exact k c' h2 S2 _ _ le (fr.trans fr2) s2 (.acc eG) Lu
     ·cases hv
    ·cases hv
end
section
variable{B:Nat->Prop}{Sb:St}{c:Cx}{h:Hp}{S:St}
def pvS:List V:=[.int .u64 (.ofNat 23),.int .u64 (.ofNat 11),.int .u64 (.ofNat 4),.int .u64 (.ofNat 9),.int .i64 (.ofNat 5),.int .i64 (.ofNat 4),.int .i64 (.ofNat 1),.int .i64 (.ofNat 1),.int .i64 (.ofNat 1),.int .i64 (.ofNat 1),.int .i64 (.ofNat 1),.int .i64 (.ofNat 1)]
def aLF (args:List V) (h:Hp) (K:KV):Prop:=args=[.agg pvS]/\K (.bool true) h
def aIz (args:List V) (h:Hp) (K:KV):Prop:=args=[]/\K (.bool true) h
theorem aGi{args:List V}{ws:List Value}{Kv:KV}{K:VK} (s:VS PP B Sb c h S) (ra:kE c S (cY B c h) args ws) (k:KR PP B Sb c h S Kv K) (hv:aIz args h Kv):YT Zc ws S K=true:=by
 obtain⟨rfl,hv⟩:=hv;rw [ra.mL];exact k.here s .bool hv
theorem aGj{args:List V}{ws:List Value}{Kv:KV}{K:VK} (s:VS PP B Sb c h S) (ra:kE c S (cY B c h) args ws) (k:KR PP B Sb c h S Kv K) (hv:aLF args h Kv):YT aEK ws S K=true:=by
 obtain⟨rfl,hv⟩:=hv;obtain⟨w1,ws,rfl,r1,ra⟩:=ra.cons_inv;rw [ra.mL];cases r1 with
 | @agg _ cs hl hr=>
  have hr:kE c S (cY B c h) pvS cs:=⟨hl,hr⟩;obtain⟨w1,ws,rfl,r1,hr⟩:=hr.cons_inv;obtain⟨w2,ws,rfl,r2,hr⟩:=hr.cons_inv;obtain⟨w3,ws,rfl,r3,hr⟩:=hr.cons_inv;obtain⟨w4,ws,rfl,r4,hr⟩:=hr.cons_inv;obtain⟨w5,ws,rfl,r5,hr⟩:=hr.cons_inv;obtain⟨w6,ws,rfl,r6,hr⟩:=hr.cons_inv;obtain⟨w7,ws,rfl,r7,hr⟩:=hr.cons_inv;obtain⟨w8,ws,rfl,r8,hr⟩:=hr.cons_inv;obtain⟨w9,ws,rfl,r9,hr⟩:=hr.cons_inv;obtain⟨w10,ws,rfl,r10,hr⟩:=hr.cons_inv;obtain⟨w11,ws,rfl,r11,hr⟩:=hr.cons_inv;obtain⟨w12,ws,rfl,r12,hr⟩:=hr.cons_inv;rw [hr.mL];cases r1;cases r2;cases r3;cases r4;cases r5;cases r6;cases r7;cases r8;cases r9;cases r10;cases r11;cases r12;have hk:=k.here s .bool hv;exact hk
end
def gT (f:FuncId):Option (List V->Hp->KV->Prop):=if f=zV then some aIz else if f=ZI then some aLF else if f=kO then some aIy else if f=oA then some Gp else gT0 f
theorem aLG{B:Nat->Prop}{Sb:St}:PS PP B Sb gT aMM:=
 PS.more (f0:=6) (PS.more (f0:=27) (PS.more (f0:=164) (PS.more (f0:=111) (aIx (by kernel_rfl)) fun s ra k hv=>aAH s ra k hv) fun s ra k hv=>aGh s ra k hv) fun s ra k hv=>aGj s ra k hv) fun s ra k hv=>aGi s ra k hv
end Go.Am
namespace Go.Am
structure Bs where
 h:Int
 n:Int
 t:Int
 me:Int
 rd:Int
 st:Int
 Fy:Int
 lock:List UInt8
 valid:List UInt8
 HZ:Int
 sG:Int
 prop:Bool
 seen:Bool
 dec:List UInt8
def qN (s:Bs) (t:Nat):List V:=[.int .i64 s.h,.int .i64 s.n,.int .i64 s.t,.int .i64 s.me,.int .i64 s.rd,.int .i64 s.st,.int .i64 s.Fy,.str s.lock,.str s.valid,.int .i64 s.HZ,.int .i64 s.sG,.bool s.prop,.bool s.seen,.str s.dec,.nil,.ptr t 0]
variable{ov:Nr}{M n b t:Nat}{x:VE}{S:Hp}{K:KV}{s:Bs}{ty:TypeId}
theorem aFW (hf:ov kN=none) (hx:Deep PP cM ov M (n+1) x) (hb:S b=some (.row (qN s t) ty)){z:Int} (hs: -9223372036854775808<=s.n-s.t/\s.n-s.t<=9223372036854775807) (hk:K (.bool (decide (s.n-s.t<=z))) S):x.call kN [.ptr b 0,.int .i64 z] S K:=by
 refine hx.call hf fun y _=>?_;rw [JJ];unfold xX;rw [bG,gF,gF];refine jU hb rfl ?_;rw [bG,gF,gF];refine jU hb rfl ?_;rw [gQ,wrap_small hs.1 hs.2,nS];exact aJ hk
theorem RS (hf:ov bV=none) (hx:Deep PP cM ov M (n+1) x) (hb:S b=some (.row (qN s t) ty)){z:Int} (h0:0<=s.h/\s.h<=1000000) (h1:0<=z/\z<=1000000) (h2:0<s.n/\s.n<=1000000) (hk:K (.int .i64 (1+(s.h+z)%s.n)) S):x.call bV [.ptr b 0,.int .i64 z] S K:=by
 refine hx.call hf fun y _=>?_;rw [GM];unfold uX;rw [bG,gF,gF];refine jU hb rfl ?_;rw [kU,wrap_small (by omega) (by omega),bG,gF,gF];refine jU hb rfl ?_;have hm:(s.h+z).tmod s.n=(s.h+z)%s.n:=Int.tmod_eq_emod_of_nonneg (by omega);have hp:=Kz (s.h+z) (show s.n≠0 by omega);have hq:=Int.emod_lt_of_pos (s.h+z) h2.1;rw [XH (by omega),hm,kU];have:dW .i64 (Int.ofNat 1+(s.h+z)%s.n)=1+(s.h+z)%s.n:=by rw [wrap_small]<;>(try simp)<;>omega
 rw [this];exact aJ hk
theorem aNa (hf:ov dX=none) (hx:Deep PP cM ov M (n+1) x) (hb:S b=some (.row (qN s t) ty)){z:Int} (hk:K (.tuple []) (aR S b (.row (qN {s with st:=z,Fy:=0} t) ty))):x.call dX [.ptr b 0,.int .i64 z] S K:=by
 refine hx.call hf fun y _=>?_;rw [RQ];unfold EQ;rw [bG,gF,gF];refine pF hb rfl (by simp [qN]) ?_;rw [bG,gF,gF];refine pF aD rfl (by simp [qN,aG]) ?_;rw [fG];exact aJ hk
theorem aHX (hf:ov iV=none) (Gy:ov dX=none) (hx:Deep PP cM ov M (n+2) x) (hb:S b=some (.row (qN s t) ty)){z:Int} (hk:K (.tuple []) (aR S b (.row (qN {s with st:=1,Fy:=0,rd:=z,prop:=false,seen:=false} t) ty))):x.call iV [.ptr b 0,.int .i64 z] S K:=by
 refine hx.call hf fun y hy=>?_;rw [KL];unfold yJ;refine aNa Gy hy hb ?_;rw [bG,gF,gF];refine pF aD rfl (by simp [qN]) ?_;rw [fG,bG,gF,gF];refine pF aD rfl (by simp [qN,aG]) ?_;rw [fG,bG,gF,gF];refine pF aD rfl (by simp [qN,aG]) ?_;rw [fG];exact aJ hk
variable{ov:Nr}{M n b t m:Nat}{x:VE}{S:Hp}{K:KV}{ty:TypeId}
theorem aIf{b:Bool}{k:V->Prop}:NX .not (.bool b) k=k (.bool (!b)):=rfl
theorem aDq{sh:KSh}{a y:V}{es:List (V×V)} (hm:S m=some (.map es)) (ha:RB sh a) (ho:∀e∈es,RB sh e.1){k:Hp->Prop} (hk:k (aR S m (.map (XF es a y)))):XG sh (.tM m) a y S k:=by
 unfold XG;simp only [hm];exact⟨ha,ho,hk⟩
def Vo.free (v:Vo) (l:List Vo):Bool:=(l.find? fun u=>u.at v.rd v.fr v.kd).isNone
theorem Vk (hM:M≠0) (hf:ov fO=none) (Gy:ov eT=none) (hx:Deep PP cM ov M (n+2) x){z:Int}{l:List Vo}{v:Vo} (a:Tal S t m z l) (h1:(v.may z&&v.free l)=false->K (.bool false) S) (h2:(v.may z&&v.free l)=true->K (.bool true) (aR S m (.map ((l++[v]).map eV)))):x.call fO [.ptr t 0,.agg v.vv] S K:=by
 refine hx.call hf fun y hy=>?_;rw [UU];unfold FZ;refine mB rfl fun i hi=>?_;refine UB aBQ ?_;simp only [aP,aN];have iM:gA S (aR S i (.row v.vv 94)):= .aT hi;have ri:aR S i (.row v.vv 94) i=some (.row v.vv 94):=aD;generalize hS1:aR S i (.row v.vv 94)=S1 at iM ri;have a1:=a.le iM;refine jD ri rfl ?_;rw [bG,gF];refine jU a1.row rfl ?_;refine aNp hM Gy hy ?_;rw [aIf,bO,if_neg (by simp),bR];cases Gk:v.may z with
 | false=>
  rw [if_pos (by simp)];exact dZ iM (h1 (by rw [Gk];rfl))
 | true=>
  rw [if_neg (by simp),gF];refine jU ri rfl ?_;rw [gF];refine jU ri rfl ?_;rw [gF];refine jU ri rfl ?_;have hb:∀{k:V->Prop},k (.agg [.int .i64 v.rd,.int .i64 v.fr,.int .u8 (.ofNat v.kd)])->iQ [(.int .i64 (.ofNat 0)),(.int .i64 (.ofNat 0)),(.int .u8 (.ofNat 0))] [(0,1,.int .i64 v.rd),(1,1,.int .i64 v.fr),(2,1,(.int .u8 (.ofNat v.kd)))] k:=fun h=>⟨rfl,by simp,rfl,by simp [aG],rfl,by simp [aG],h⟩;refine hb ?_;refine kV (l:=[.int .i64 0,.int .i64 0,.int .u8 0]) rfl fun j hj=>?_;refine nG aD (by rfl) (by rfl) (by rfl) ?_;rw [fG];have pT:∀{cs:List V},gA S1 (aR S1 j (.row cs 158)):= .aT hj;have rj:aR S1 j (.row [.int .i64 v.rd,.int .i64 v.fr,.int .u8 (.ofNat v.kd)] 158) j=some (.row [.int .i64 v.rd,.int .i64 v.fr,.int .u8 (.ofNat v.kd)] 158):=aD;have pT:=pT (cs:=[.int .i64 v.rd,.int .i64 v.fr,.int .u8 (.ofNat v.kd)]);generalize aR S1 j (.row [.int .i64 v.rd,.int .i64 v.fr,.int .u8 (.ofNat v.kd)] 158)=S2 at pT rj;have a2:=a1.le pT;have ri2:=pT _ _ ri;rw [bG,gF];refine jU a2.row rfl ?_;refine jD rj rfl ?_
  have look:∀(K:KV),K (.tuple [.agg (((l.find? fun u=>u.at v.rd v.fr v.kd).getD KP).vv),.bool (l.find? fun u=>u.at v.rd v.fr v.kd).isSome]) S2->TZ (.many [.int .i64,.int .i64,.int .u8]) (.agg [(.int .i64 (.ofNat 0)),(.int .i64 (.ofNat 0)),(.int .u8 (.ofNat 0)),(.int .i64 (.ofNat 0)),(.str [])]) true (.tM m) (.agg [.int .i64 v.rd,.int .i64 v.fr,.int .u8 (.ofNat v.kd)]) S2 K:=by
   intro K hk;refine Tw a2.map ⟨rfl,rfl,rfl,trivial⟩ (Pl l) (fun w hw=>?_) (fun hw=>?_)
   ·rw [Bz]at hw
    cases hq:l.find? (fun u=>u.at v.rd v.fr v.kd)with
    | none=>rw [hq]at hw;cases hw
    | some u=>rw [hq]at hw hk;injection hw with hw;subst hw;exact hk
   ·rw [Bz]at hw
    cases hq:l.find? (fun u=>u.at v.rd v.fr v.kd)with
    | some u=>rw [hq]at hw;cases hw
    | none=>rw [hq]at hk;exact hk
  refine look _ ?_;refine oH rfl ?_;refine oH rfl ?_;refine look _ ?_;refine xH rfl ?_;refine jD rj rfl ?_;refine xH rfl ?_;refine jU a2.row rfl ?_;refine xH rfl ?_;refine⟨kV (l:=KP.vv) rfl fun _ _=>trivial,?_⟩;refine kV (l:=KP.vv) rfl fun k hk=>?_;refine nG aD (by rfl) (by rfl) (by rfl) ?_;rw [fG];have EV:=gA.aT (a:= .row ((l.find? fun u=>u.at v.rd v.fr v.kd).getD KP).vv 94) hk;generalize aR S2 k (.row ((l.find? fun u=>u.at v.rd v.fr v.kd).getD KP).vv 94)=S3 at EV;have a3:=a2.le EV;rw [bR];cases hq:l.find? (fun u=>u.at v.rd v.fr v.kd)with
  | some u=>
   rw [if_pos (by rfl)];exact dZ ((iM.trans pT).trans EV) (h1 (by simp [Vo.free,hq]))
  | none=>
   rw [if_neg (by simp),bG,gF];refine jU a3.row rfl ?_;refine jD (EV _ _ rj) rfl ?_;refine jD (EV _ _ ri2) rfl ?_;refine aDq a3.map (by exact⟨rfl,rfl,rfl,trivial⟩) (by exact Pl l) ?_;have hp:=aIe l v hq;have hp:XF (l.map eV) (.agg [.int .i64 v.rd,.int .i64 v.fr,.int .u8 (.ofNat v.kd)]) (.agg v.vv)=(l++[v]).map eV:=hp;rw [hp];exact dZ (((iM.trans pT).trans EV).aR) (h2 (by simp [Gk,Vo.free,hq]))
variable{ov:Nr}{M n b t m:Nat}{x:VE}{S:Hp}{K:KV}{ty:TypeId}
theorem aKO (hf:ov wE=none) (hx:Deep PP cM ov M (n+1) x){z:Int} (h1:¬(1<=z/\z<=7)->K (.tuple [.sD,.int .i64 1]) S)
 (h2:1<=z->z<=7->∀m t,S m=none->t≠m->S t=none->K (.tuple [.ptr t 0,.int .i64 0]) (aR (aR S m (.map [])) t (.row [.int .i64 z,.tM m] 160))):x.call wE [.int .i64 z] S K:=by
 refine hx.call hf fun y hy=>?_;rw [Vi];unfold ZU;rw [cI];simp only [aP];by_cases a:z<1
 ·simp only [show decide (z<Int.ofNat 1)=true from bK a,dE,bO,if_true,bR]
  exact aJ (h1 (by omega))
 simp only [show decide (z<Int.ofNat 1)=false from bM a,aN,nR,bO,if_false,cJ,bR];by_cases b:7<z
 ·rw [show decide (Int.ofNat 7<z)=true from bK b,if_pos rfl]
  exact aJ (h1 (by omega))
 rw [show decide (Int.ofNat 7<z)=false from bM b,if_neg (by simp)];intro m hm;have hb:∀{k:V->Prop},k (.agg [.int .i64 z,.tM m])->iQ [(.int .i64 (.ofNat 0)),(.map none)] [(0,1,.int .i64 z),(1,1,.tM m)] k:=fun h=>⟨rfl,by simp,rfl,by simp [aG],h⟩;refine hb ?_;refine mB rfl fun t ht=>?_;obtain⟨htm,ht0⟩:=xG ht;exact aJ (h2 (by omega) (by omega) m t hm htm ht0)
variable{ov:Nr}{M n b t m:Nat}{x:VE}{S:Hp}{K:KV}{s:Bs}{ty:TypeId}
def Bs.pro (s:Bs) (r:Int):Int:=1+(s.h+r)%s.n
def Bs.takes (s:Bs) (l:List Vo) (v:Vo):Bool:= !(decide (v.kd=2)&&(decide (v.rd<0) || !decide (v.fr=s.pro v.rd)))&&(v.may s.n&&v.free l)
theorem aKM (hM:M≠0) (hf:ov eI=none) (Xr:ov bV=none) (Gy:ov fO=none) (hf3:ov eT=none) (hx:Deep PP cM ov M (n+3) x) (hb:S b=some (.row (qN s t) ty)){l:List Vo}{v:Vo} (a:Tal S t m s.n l)
 (hh:0<=s.h/\s.h<=1000000) (hn:0<s.n/\s.n<=1000000) (hr:v.rd<=1000000) (h1:s.takes l v=false->K (.bool false) S) (h2:s.takes l v=true->K (.bool true) (aR S m (.map ((l++[v]).map eV)))):x.call eI [.ptr b 0,.agg v.vv] S K:=by
 refine hx.call hf fun y hy=>?_;rw [OU];unfold BX;refine mB rfl fun i hi=>?_;have iM:gA S (aR S i (.row v.vv 94)):= .aT hi;have ri:aR S i (.row v.vv 94) i=some (.row v.vv 94):=aD;have him:m≠i:=fun e=>by have:=a.map;rw [e,hi]at this;cases this
 generalize hS1:aR S i (.row v.vv 94)=S1 at iM ri;have a1:=a.le iM;have Dp:=iM _ _ hb;have l0:∀{K:KV},aH (.ptr i 0) S1 K=K (.int .i64 v.fr) S1:=eL ri;have l1:∀{K:KV},aH (.ptr i 1) S1 K=K (.int .i64 v.rd) S1:=eL ri;have l2:∀{K:KV},aH (.ptr i 2) S1 K=K (.int .u8 (.ofNat v.kd)) S1:=eL ri;simp only [gF,fK,l2,fB,aP]
 have rest:(decide (v.kd=2)&&(decide (v.rd<0) || !decide (v.fr=s.pro v.rd)))=false->(cP PP (.ptr b 0) fun v30=>aL 15 v30 fun v31=>aH v31 S1 fun v32 S=>iP 5 (.ptr i 0) S fun v33 S=>y.call fO [v32,v33] S fun BV S=>bD BV S K):=by
  intro hc;rw [bG,gF];refine jU Dp rfl ?_;refine jD ri (by rfl) ?_;refine Vk hM Gy hf3 hy a1 (fun e=>?_) (fun e=>?_)
  ·exact dZ iM (h1 (by unfold Bs.takes;rw [hc,e];rfl))
  ·exact dZ iM.aR (h2 (by unfold Bs.takes;rw [hc,e];rfl))
 have stop:(decide (v.kd=2)&&(decide (v.rd<0) || !decide (v.fr=s.pro v.rd)))=true->bD (.bool false) S1 K:=fun e=>dZ iM (h1 (by unfold Bs.takes;rw [e];rfl));by_cases k2:v.kd=2
 ·simp only [show decide (Int.ofNat v.kd=Int.ofNat 2)=true from bK (by rw [k2]),aN,l1,cI]
  by_cases k3:v.rd<0
  ·simp only [show decide (v.rd<Int.ofNat 0)=true from bK k3,dE,yX,rY,l1,l2,bO,if_true,bR]
   refine xH rfl (xH rfl ?_);exact stop (by simp [k2,k3])
  ·simp only [show decide (v.rd<Int.ofNat 0)=false from bM k3,aN,l0,l1]
   refine RS Xr hy.less Dp hh ⟨by omega,hr⟩ hn ?_;simp only [rY,l0,l1,l2,kT,bO,if_true,if_false,cJ,bR];refine xH rfl (xH rfl (xH rfl ?_));by_cases k4:v.fr=s.pro v.rd
   ·have:decide (v.fr=1+(s.h+v.rd)%s.n)=true:=bK k4
    rw [this,if_neg (by simp)];exact rest (by simp [k3,k4])
   ·have:decide (v.fr=1+(s.h+v.rd)%s.n)=false:=bM k4
    rw [this,if_pos (by simp)];exact stop (by simp [k2,k4])
 ·simp only [show decide (Int.ofNat v.kd=Int.ofNat 2)=false from bM (fun e=>k2 (VX e)),CX,mC,vT,XJ,l2,bO,if_false,cJ,bR]
  refine xH rfl ?_;exact rest (by simp [k2])
variable{ov:Nr}{M n:Nat}{x:VE}{S:Hp}{K:KV}
theorem cL{o:Nat}{v:V}{ps:List (Nat×Nat×V)}{cs:List V}{k:List V->Prop} (ho:tO v=true) (hl:o+1<=cs.length) (hk:uT ps (cs.set o v) k):uT ((o,1,v)::ps) cs k:=by
 have e:aG o [v] cs=cs.set o v:=by
  rw [aDI,if_pos (by omega)];simp [aG]
 rw [<-e]at hk;unfold uT;unfold yW;cases v<;>first | (cases ho;done) | exact⟨rfl,hl,hk⟩
theorem aDd{n:Nat}{new:List V}{ps:List (Nat×Nat×V)}{cs:List V}{k:List V->Prop} (ho:new.all tO=true) (hn:new.length=n) (hl:n<=cs.length) (hk:uT ps (new++cs.drop n) k):uT ((0,n,.agg new)::ps) cs k:=by
 refine⟨ho,hn,by omega,?_⟩;have e:aG 0 new cs=new++cs.drop n:=by simp [aG,hn]
 rw [e];exact hk
theorem zG{cs:List V}{k:List V->Prop} (hk:k cs):uT [] cs k:=hk
theorem zH{zero:List Value}{z:List V}{ps:List (Nat×Nat×V)}{K:V->Prop} (hz:IZ zero=some z) (h:uT ps z fun cs=>K (.agg cs)):iQ zero ps K:=by
 unfold iQ xF;rw [hz];exact h
def Bs.start (h n t me:Int):Bs:=⟨h,n,t,me,0,1,0,[],[],-1,-1,false,false,[]⟩
def bOk (h n t me:Int):Prop:=(1<=n/\n<=7)/\(1<=h/\h<=64)/\(0<=t/\t<=n)/\3*t+1<=n/\0<=me/\me<=n
theorem aKN (hf:ov xQ=none) (Gy:ov wE=none) (hx:Deep PP cM ov M (n+2) x){h z q me:Int} (h1:¬bOk h z q me->K (.tuple [.sD,.int .i64 1]) S)
 (h2:bOk h z q me->∀m t b,S m=none->t≠m->S t=none->b≠t->b≠m->S b=none->K (.tuple [.ptr b 0,.int .i64 0]) (aR (aR (aR S m (.map [])) t (.row [.int .i64 z,.tM m] 160)) b (.row (qN (.start h z q me) t) 124))):x.call xQ [.int .i64 h,.int .i64 z,.int .i64 q,.int .i64 me] S K:=by
 refine hx.call hf fun y hy=>?_;rw [Pb];unfold UT;refine aKO Gy hy (fun e=>?_) (fun e1 e2 m t hm ht ht0=>?_)
 ·refine oH rfl (oH rfl ?_)
  simp only [kT,aP,show(!decide ((1:Int)=Int.ofNat 0))=true from rfl,dE,bO,if_true,bR];exact aJ (h1 fun o=>e o.1)
 ·refine oH rfl (oH rfl ?_)
  have iM:gA S (aR (aR S m (.map [])) t (.row [.int .i64 z,.tM m] 160)):=(gA.aT hm).trans (.aT (by rw [aF ht];exact ht0));generalize hS1:aR (aR S m (.map [])) t (.row [.int .i64 z,.tM m] 160)=S1 at iM;have bad:¬bOk h z q me->bD (.tuple [.sD,(.int .i64 (.ofNat 1))]) S1 K:=fun e=>dZ iM (h1 e);simp only [kT,aP,show(!decide ((0:Int)=Int.ofNat 0))=false from rfl,aN,cI,bO,cJ,if_false];by_cases c1:h<1
  ·simp only [show decide (h<Int.ofNat 1)=true from bK c1,dE,bO,if_true,bR]
   exact bad fun o=>by have:=o.2.1;omega
  simp only [show decide (h<Int.ofNat 1)=false from bM c1,aN,nR,bO,cJ,if_false];by_cases c2:64<h
  ·simp only [show decide (Int.ofNat 64<h)=true from bK c2,dE,bO,if_true,bR]
   exact bad fun o=>by have:=o.2.1;omega
  simp only [show decide (Int.ofNat 64<h)=false from bM c2,aN,cI,bO,cJ,if_false];by_cases c3:q<0
  ·simp only [show decide (q<Int.ofNat 0)=true from bK c3,dE,bO,if_true,bR]
   exact bad fun o=>by have:=o.2.2.1;omega
  simp only [show decide (q<Int.ofNat 0)=false from bM c3,aN,nR,bO,cJ,if_false];by_cases c4:z<q
  ·simp only [bK c4,dE,bO,if_true,bR]
   exact bad fun o=>by have:=o.2.2.1;omega
  have w1:dW .i64 (Int.ofNat 3*q)=3*q:=by rw [wrap_small]<;>simp<;>omega
  have w2:dW .i64 (3*q+Int.ofNat 1)=3*q+1:=by rw [wrap_small]<;>simp<;>omega
  simp only [bM c4,aN,Jq,w1,kU,w2,cI,bO,cJ,if_false];by_cases c5:z<3*q+1
  ·simp only [bK c5,dE,bO,if_true,bR]
   exact bad fun o=>by have:=o.2.2.2.1;omega
  simp only [bM c5,aN,cI,bO,cJ,if_false];by_cases c6:me<0
  ·simp only [show decide (me<Int.ofNat 0)=true from bK c6,dE,if_true,bR]
   exact bad fun o=>by have:=o.2.2.2.2;omega
  simp only [show decide (me<Int.ofNat 0)=false from bM c6,aN,nR,cJ,if_false];by_cases c7:z<me
  ·simp only [bK c7,bR,if_true]
   exact bad fun o=>by have:=o.2.2.2.2;omega
  simp only [bM c7,bR,cJ,if_false];refine zH (by rfl) ?_;refine cL rfl (by simp) (cL rfl (by simp) (cL rfl (by simp) (cL rfl (by simp) (cL rfl (by simp) (cL rfl (by simp) (cL rfl (by simp) (zG ?_)))))));refine zH (by rfl) ?_;refine aDd (by rfl) (by rfl) (by simp) (cL rfl (by simp) (zG ?_));refine mB (cs:=qN (.start h z q me) t) rfl fun b hb=>?_;rw [<-hS1]at hb ⊢;obtain⟨hbt,hb⟩:=xG hb;obtain⟨hbm,hb⟩:=xG hb;exact aJ (h2 ⟨⟨e1,e2⟩,⟨by omega,by omega⟩,⟨by omega,by omega⟩,by omega,by omega,by omega⟩ m t b hm ht ht0 hbt hbm hb)
variable{ov:Nr}{M n b t:Nat}{x:VE}{S:Hp}{K:KV}{s:Bs}{ty:TypeId}
def XS (tx:List UInt8) (r now:Int):Bool:=decide (tx.length<=2048)&&decide (-1<=r)&&decide (r<=now)&&decide (decide (tx=[])=decide (r= -1))
theorem Gh:PO PP 80=some .ptr:=by kernel_rfl
theorem aKP (hf:ov jP=none) (hx:Deep PP cM ov M (n+1) x) (hb:S b=some (.row (qN s t) ty)) (hk:K (.tuple [.str s.dec,.bool (!decide (s.dec=[]))]) S):x.call jP [.ptr b 0] S K:=by
 refine hx.call hf fun y hy=>?_;rw [NG];unfold AT;refine UB Gh ?_;rw [bR,if_neg (by simp),bG,gF,gF];refine jU hb rfl ?_;rw [bG,gF,gF];refine jU hb rfl ?_;rw [XI];exact aJ hk
end Go.Am
