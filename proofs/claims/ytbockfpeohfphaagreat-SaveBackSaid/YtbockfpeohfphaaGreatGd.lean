/- The program, and tables of its functions' live temporaries (written by a program). -/
import Derived.Test.YtbockfpeohfphaaGreatGc
import Derived.Test.YtbockfpeohfphaaGreatChecked
import Derived.WalkKit
import Derived.OwnWalk
import Derived.Lib.Builder
import Derived.Lib.UnsafeStr
import Derived.Lib.Walk
import Derived.Laws.Externs
import Derived.Shelf.RegionOpenPlain
import Derived.WalkSmall
import Derived.WalkLawsBesides
import Derived.Defers
import Derived.Recover
import Derived.Below
import Derived.Laws.IdiomStrings
import Derived.Laws.Bits64
import Derived.Laws.Bits64b
import Derived.Lib.Hide

set_option linter.unusedVariables false
set_option maxRecDepth 100000
namespace Go.Am
noncomputable abbrev PP : Program := Go.Proofs.Tryz.prog
abbrev c_law25_SaveBack : FuncId := 4
abbrev c_law25_large : FuncId := 6
abbrev c_law25_awake : FuncId := 7
abbrev c_law25_back : FuncId := 9
abbrev c_save_Encode : FuncId := 10
abbrev c_save_Decode : FuncId := 11
abbrev c_ref24_Same : FuncId := 13
abbrev c_law25_sizeTexts : FuncId := 14
abbrev c_law25_sizeDealt : FuncId := 15
abbrev c_law25_sizeMsgs : FuncId := 16
abbrev c_law25_boarded : FuncId := 27
abbrev c_law25_dealings : FuncId := 28
abbrev c_save_all : FuncId := 29
abbrev c_strings_Builder_String : FuncId := 30
abbrev c_wire_Open : FuncId := 31
abbrev c_wire_Reader_End : FuncId := 32
abbrev c_ref24_Strings : FuncId := 45
abbrev c_ref17_Same : FuncId := 46
abbrev c_ref18_Same : FuncId := 47
abbrev c_ref24_dealings : FuncId := 48
abbrev c_ref14_Msgs : FuncId := 49
abbrev c_ref08_Nums : FuncId := 50
abbrev c_law25_sizeTold : FuncId := 51
abbrev c_save_whole : FuncId := 58
abbrev c_save_each_string : FuncId := 59
abbrev c_save_text : FuncId := 60
abbrev c_save_rows : FuncId := 61
abbrev c_save_each_api_Pair : FuncId := 62
abbrev c_save_pair : FuncId := 63
abbrev c_save_each_avss_State : FuncId := 64
abbrev c_save_dealing : FuncId := 65
abbrev c_save_each_node_Done : FuncId := 66
abbrev c_save_done : FuncId := 67
abbrev c_save_each_api_Msg : FuncId := 68
abbrev c_save_message : FuncId := 69
abbrev c_wire_read_bool : FuncId := 70
abbrev c_wire_Reader_End_1 : FuncId := 71
abbrev c_ref16_Same : FuncId := 82
abbrev c_ref19_Same : FuncId := 83
abbrev c_ref14_Same : FuncId := 84
abbrev c_save_voting : FuncId := 88
abbrev c_save_each_board_Told : FuncId := 89
abbrev c_save_said : FuncId := 90
abbrev c_save_each_list_uint64 : FuncId := 91
abbrev c_save_nums : FuncId := 92
abbrev c_save_each_avss_Told : FuncId := 93
abbrev c_save_told : FuncId := 94
abbrev c_ref15_Same : FuncId := 100
abbrev c_ref08_Lists : FuncId := 101
abbrev c_ref03_Numbers : FuncId := 102
abbrev c_ref19_tolds : FuncId := 103
abbrev c_save_each_tally_Vote : FuncId := 104
abbrev c_save_vote : FuncId := 105
abbrev c_save_pen_is : FuncId := 123
abbrev c_save_pen_kind : FuncId := 124
abbrev c_save_pen_many : FuncId := 125
abbrev c_save_pen_number : FuncId := 126
abbrev c_save_pen_nums : FuncId := 127
abbrev c_save_pen_text : FuncId := 128
abbrev c_save_pen_wrong : FuncId := 129
abbrev c_strings_Builder_WriteString : FuncId := 130
abbrev c_wire_Byte : FuncId := 131
abbrev c_save_pen_put : FuncId := 132
abbrev c_wire_Num : FuncId := 133
abbrev c_wire_List : FuncId := 134
abbrev c_wire_Text : FuncId := 135
abbrev c_strings_Builder_copyCheck : FuncId := 136
abbrev c_wire_put : FuncId := 137
abbrev c_save_eye_is : FuncId := 142
abbrev c_save_eye_kind : FuncId := 143
abbrev c_save_eye_many : FuncId := 144
abbrev c_save_eye_number : FuncId := 145
abbrev c_save_eye_nums : FuncId := 146
abbrev c_save_eye_text : FuncId := 147
abbrev c_save_eye_wrong : FuncId := 148
abbrev c_wire_Reader_Count : FuncId := 149
abbrev c_wire_Reader_Byte : FuncId := 150
abbrev c_wire_Reader_Num : FuncId := 151
abbrev c_wire_Reader_List : FuncId := 152
abbrev c_wire_Reader_Text : FuncId := 153
abbrev c_wire_Reader_Wrong : FuncId := 154
abbrev c_wire_read_int : FuncId := 155
abbrev c_wire_read_byte : FuncId := 158
abbrev c_wire_Reader_Byte_1 : FuncId := 159
abbrev c_wire_read_uint64 : FuncId := 160
abbrev c_wire_Reader_Num_1 : FuncId := 161
abbrev c_wire_read_list_uint64 : FuncId := 162
abbrev c_wire_Reader_List_1 : FuncId := 163
abbrev c_wire_read_string : FuncId := 165
abbrev c_wire_Reader_Text_1 : FuncId := 166
noncomputable def tbS : FuncId → LiveT := lookF [(3, ⟨lookL [(25, [1, 2, 5, 7, 12, 18, 19], [1, 2, 5, 7, 12, 18], []), (22, [1, 2, 5, 7, 12, 18], [1, 2, 5, 7], []), (18, [1, 2, 5, 7, 12, 17], [1, 2, 5, 7, 12], []), (14, [1, 2, 5, 7, 12, 16], [1, 2, 5, 7, 12], []), (5, [1, 2, 5, 7], [2, 5], [4])], lookJ []⟩),
 (4, ⟨lookL [], lookJ [(10, [1])]⟩),
 (6, ⟨lookL [(13, [1, 3, 7], [3], []), (9, [1, 3, 5, 6], [1, 3], []), (3, [1, 3, 4], [1, 3], [])], lookJ []⟩),
 (8, ⟨lookL [(12, [1, 4, 5], [1, 4], [])], lookJ []⟩),
 (9, ⟨lookL [(3, [1, 2, 3, 4], [2, 3], [])], lookJ []⟩),
 (12, ⟨lookL [(13, [2, 4, 5, 6, 7, 8], [2, 4, 5, 6], [])], lookJ []⟩),
 (13, ⟨lookL [(4, [2, 3, 5], [], [4])], lookJ []⟩),
 (14, ⟨lookL [(3, [0, 3, 4], [3], [])], lookJ []⟩),
 (15, ⟨lookL [(7, [0, 3, 4, 5], [0, 3, 4], []), (3, [0, 3, 4], [3], [])], lookJ []⟩),
 (16, ⟨lookL [(3, [0, 3, 4], [3], [])], lookJ []⟩),
 (18, ⟨lookL [(1, [0, 1, 4], [], [])], lookJ []⟩),
 (20, ⟨lookL [(21, [0, 3, 7], [0, 3], []), (12, [0, 3, 4, 5], [0, 3], [])], lookJ []⟩),
 (21, ⟨lookL [(2, [0, 1, 4], [], [])], lookJ []⟩),
 (22, ⟨lookL [(1, [0, 1, 4], [], [])], lookJ [(2, [0, 1, 4])]⟩),
 (23, ⟨lookL [(8, [0, 1, 4, 5, 6], [0, 1, 4, 5], []), (2, [0, 1, 4], [], [])], lookJ []⟩),
 (26, ⟨lookL [(2, [0, 1, 4], [], [])], lookJ []⟩),
 (27, ⟨lookL [(9, [1, 2, 4, 6], [2, 4], []), (5, [1, 2, 3, 4, 5], [1, 2, 4], [])], lookJ []⟩),
 (28, ⟨lookL [(11, [0, 3, 4, 5, 7], [0, 3, 4, 5], []), (7, [0, 3, 4, 5, 6], [0, 3, 4, 5], []), (3, [0, 3, 4], [3], [])], lookJ []⟩),
 (35, ⟨lookL [(4, [1, 3, 4, 5], [3], [])], lookJ []⟩),
 (36, ⟨lookL [(8, [1, 2, 3, 4, 5, 6], [1, 2, 3, 4], [])], lookJ []⟩),
 (37, ⟨lookL [(4, [1, 3, 4, 5], [3], [])], lookJ []⟩),
 (39, ⟨lookL [(11, [1, 3, 4, 5, 6, 7, 8, 9], [1, 3, 4, 5, 6, 7], []), (4, [1, 3, 4, 5], [3], [])], lookJ []⟩),
 (43, ⟨lookL [(4, [1, 3, 4, 5], [3], [])], lookJ []⟩),
 (45, ⟨lookL [(4, [0, 1, 5], [], [4])], lookJ []⟩),
 (46, ⟨lookL [(4, [2, 3, 5], [], [4])], lookJ []⟩),
 (47, ⟨lookL [(4, [0, 1, 5], [], [4])], lookJ []⟩),
 (48, ⟨lookL [(4, [0, 1, 5], [], [4])], lookJ []⟩),
 (49, ⟨lookL [(4, [0, 1, 5], [], [4])], lookJ []⟩),
 (50, ⟨lookL [(4, [0, 1, 5], [], [4])], lookJ []⟩),
 (51, ⟨lookL [(3, [0, 3, 4], [3], [])], lookJ []⟩),
 (53, ⟨lookL [(1, [0, 1, 4], [], [])], lookJ []⟩),
 (56, ⟨lookL [(2, [0, 1, 4], [], [])], lookJ []⟩),
 (57, ⟨lookL [(5, [1, 6, 7], [6], [])], lookJ []⟩),
 (58, ⟨lookL [(1, [0, 7, 8, 9], [], [])], lookJ []⟩),
 (59, ⟨lookL [(2, [0, 1, 2, 6, 7], [], [])], lookJ [(7, [0, 1, 2, 6, 7])]⟩),
 (62, ⟨lookL [(2, [0, 1, 2, 6, 7], [], [])], lookJ [(7, [0, 1, 2, 6, 7])]⟩),
 (64, ⟨lookL [(2, [0, 1, 2, 6, 7], [], [])], lookJ [(7, [0, 1, 2, 6, 7])]⟩),
 (66, ⟨lookL [(2, [0, 1, 2, 6, 7], [], [])], lookJ [(7, [0, 1, 2, 6, 7])]⟩),
 (68, ⟨lookL [(2, [0, 1, 2, 6, 7], [], [])], lookJ [(7, [0, 1, 2, 6, 7])]⟩),
 (75, ⟨lookL [(17, [1, 2, 3, 4, 5], [2, 3], [])], lookJ []⟩),
 (78, ⟨lookL [(4, [1, 3, 4, 5], [3], [])], lookJ []⟩),
 (79, ⟨lookL [(8, [0, 4, 6, 7], [6], [2, 3])], lookJ []⟩),
 (84, ⟨lookL [(4, [2, 3, 5], [], [4])], lookJ []⟩),
 (85, ⟨lookL [(3, [0, 3, 4], [3], [])], lookJ []⟩),
 (89, ⟨lookL [(2, [0, 1, 2, 6, 7], [], [])], lookJ [(7, [0, 1, 2, 6, 7])]⟩),
 (91, ⟨lookL [(2, [0, 1, 2, 6, 7], [], [])], lookJ [(7, [0, 1, 2, 6, 7])]⟩),
 (93, ⟨lookL [(2, [0, 1, 2, 6, 7], [], [])], lookJ [(7, [0, 1, 2, 6, 7])]⟩),
 (96, ⟨lookL [(7, [0, 1, 6, 7], [0, 1, 6], [])], lookJ []⟩),
 (100, ⟨lookL [(4, [0, 1, 5], [], [4])], lookJ []⟩),
 (101, ⟨lookL [(4, [0, 1, 5], [], [4])], lookJ []⟩),
 (102, ⟨lookL [(4, [0, 1, 5], [], [4])], lookJ []⟩),
 (103, ⟨lookL [(4, [0, 1, 5], [], [4])], lookJ []⟩),
 (104, ⟨lookL [(2, [0, 1, 2, 6, 7], [], [])], lookJ [(7, [0, 1, 2, 6, 7])]⟩),
 (132, ⟨lookL [], lookJ [(2, [0, 1])]⟩),
 (134, ⟨lookL [(6, [6, 19, 20, 21], [6], [])], lookJ []⟩),
 (137, ⟨lookL [(3, [1, 2, 7], [7], [])], lookJ []⟩),
 (157, ⟨lookL [(3, [5, 11, 12, 13], [5], [])], lookJ []⟩),
 (163, ⟨lookL [(4, [0, 2, 15, 16], [2], [])], lookJ []⟩)]
end Go.Am

set_option linter.unusedVariables false
set_option maxRecDepth 100000
namespace Go.Am

/-! consistory/save.Encode -/
noncomputable def r_save_Encode (x : EV) (a0 : Value) (σ : St) (K : VK) : Bool :=
 boxK 34 a0 σ fun v0 σ =>
 rBuild [(.pointer none), zL, zI] [] fun v1 =>
 boxK 96 v1 σ fun v2 σ =>
 x.C c_save_all [(.iface 90 v2), v0] σ fun v3 σ =>
 rNil PP v2 fun v4 =>
 rFld 2 v4 fun v5 =>
 rLd v5 σ fun v6 σ =>
 rBin PP .neq 37 v6 zI fun v7 =>
 rIf v7 (rNil PP v2 fun v8 =>
 rFld 2 v8 fun v9 =>
 rLd v9 σ fun v10 σ =>
 K (.tuple ⟨[zS, v10]⟩) σ) (rNil PP v2 fun v11 =>
 rFld 0 v11 fun v12 =>
 x.C c_strings_Builder_String [v12] σ fun v13 σ =>
 K (.tuple ⟨[v13, zI]⟩) σ)
theorem f_save_Encode (x : EV) (a0 : Value) (σ : St) (K : VK) : fnX PP tbS c_save_Encode (x.E PP) [a0] σ K = r_save_Encode x a0 σ K := by kernel_rfl

/-! consistory/save.all -/
noncomputable def r_save_all (x : EV) (a0 a1 : Value) (σ : St) (K : VK) : Bool :=
 rNil PP a1 fun v0 =>
 rFld 0 v0 fun v1 =>
 rBuildS 146 1 [(.pointer none)] [(0, 1, v1)] σ fun v2 σ =>
 x.C c_save_whole [a0, v2] σ fun v3 σ =>
 rNil PP a1 fun v4 =>
 rFld 1 v4 fun v5 =>
 x.C c_save_each_string [a0, v5, (.func (.func c_save_text) #[] #[])] σ fun v6 σ =>
 rNil PP a1 fun v7 =>
 rFld 2 v7 fun v8 =>
 x.C c_save_rows [a0, v8] σ fun v9 σ =>
 rNil PP a1 fun v10 =>
 rFld 22 v10 fun v11 =>
 x.C c_save_each_string [a0, v11, (.func (.func c_save_text) #[] #[])] σ fun v12 σ =>
 rNil PP a1 fun v13 =>
 rFld 23 v13 fun v14 =>
 x.C c_save_each_api_Pair [a0, v14, (.func (.func c_save_pair) #[] #[])] σ fun v15 σ =>
 rNil PP a1 fun v16 =>
 rFld 24 v16 fun v17 =>
 x.C c_save_each_api_Pair [a0, v17, (.func (.func c_save_pair) #[] #[])] σ fun v18 σ =>
 rNil PP a1 fun v19 =>
 rFld 25 v19 fun v20 =>
 rNil PP (.func (.method "consistory/save.is") ⟨[a0]⟩ ⟨[]⟩) fun v21 =>
 rInv PP x.C a0 "consistory/save.is" [v20] σ fun v22 σ =>
 rNil PP a1 fun v23 =>
 rFld 26 v23 fun v24 =>
 x.C c_save_each_avss_State [a0, v24, (.func (.func c_save_dealing) #[] #[])] σ fun v25 σ =>
 rNil PP a1 fun v26 =>
 rFld 27 v26 fun v27 =>
 x.C c_save_each_node_Done [a0, v27, (.func (.func c_save_done) #[] #[])] σ fun v28 σ =>
 rNil PP a1 fun v29 =>
 rFld 28 v29 fun v30 =>
 x.C c_save_each_api_Msg [a0, v30, (.func (.func c_save_message) #[] #[])] σ fun v31 σ =>
 rNil PP a1 fun v32 =>
 rFld 29 v32 fun v33 =>
 x.C c_save_each_avss_State [a0, v33, (.func (.func c_save_dealing) #[] #[])] σ fun v34 σ =>
 K (.tuple ⟨[]⟩) σ
theorem f_save_all (x : EV) (a0 a1 : Value) (σ : St) (K : VK) : fnX PP tbS c_save_all (x.E PP) [a0, a1] σ K = r_save_all x a0 a1 σ K := by kernel_rfl

/-! consistory/save.whole -/
noncomputable def l_save_whole_rd (x : EV) (m : Nat) (t0 t7 t8 t9 : Value) (σ : St) (K : VK) : Bool := jmpL PP tbS c_save_whole (x.E PP) [.r, .d] m [] [t0, t7, t8, t9] σ K
noncomputable def r_save_whole (x : EV) (a0 a1 : Value) (σ : St) (K : VK) : Bool :=
 rLenS a1 fun v0 =>
 l_save_whole_rd x x.most a0 a1 v0 zI σ K
theorem f_save_whole (x : EV) (a0 a1 : Value) (σ : St) (K : VK) : fnX PP tbS c_save_whole (x.E PP) [a0, a1] σ K = r_save_whole x a0 a1 σ K := by kernel_rfl
noncomputable def l_save_whole_rdB (x : EV) (m0 : Nat) (t0 t7 t8 t9 : Value) (σ : St) (K : VK) : Bool :=
 rBin PP .lss 3 t9 t8 fun v0 =>
 rIf v0 (rIdx 1 t7 t9 fun v1 =>
 rLd v1 σ fun v2 σ =>
 rNil PP v2 fun v3 =>
 rLd v3 σ fun v4 σ =>
 rInt .u64 v4 fun v5 =>
 rAlloc [(.int .u64 (.ofNat 0))] 57 σ fun v6 σ =>
 rSt 1 v6 v5 σ fun σ =>
 rInv PP x.C t0 "consistory/save.number" [v6] σ fun v7 σ =>
 rLd v6 σ fun v8 σ =>
 rInt .i64 v8 fun v9 =>
 rNil PP v2 fun v10 =>
 rSt 1 v10 v9 σ fun σ =>
 rBin PP .add 3 t9 (.int .i64 (.ofNat 1)) fun v11 =>
 l_save_whole_rd x m0 t0 t7 t8 v11 σ K) (K (.tuple ⟨[]⟩) σ)
theorem l_save_whole_rdE (x : EV) (m0 : Nat) (t0 t7 t8 t9 : Value) (σ : St) (K : VK) : l_save_whole_rd x (m0 + 1) t0 t7 t8 t9 σ K = l_save_whole_rdB x m0 t0 t7 t8 t9 σ K := by kernel_rfl

/-! consistory/save.rows -/
noncomputable def r_save_rows (x : EV) (a0 a1 : Value) (σ : St) (K : VK) : Bool :=
 rNil PP a1 fun v0 =>
 rFld 0 v0 fun v1 =>
 rBuildS 146 1 [(.pointer none)] [(0, 1, v1)] σ fun v2 σ =>
 x.C c_save_whole [a0, v2] σ fun v3 σ =>
 rNil PP a1 fun v4 =>
 rFld 1 v4 fun v5 =>
 rNil PP (.func (.method "consistory/save.text") ⟨[a0]⟩ ⟨[]⟩) fun v6 =>
 rInv PP x.C a0 "consistory/save.text" [v5] σ fun v7 σ =>
 rNil PP a1 fun v8 =>
 rFld 2 v8 fun v9 =>
 rNil PP (.func (.method "consistory/save.is") ⟨[a0]⟩ ⟨[]⟩) fun v10 =>
 rInv PP x.C a0 "consistory/save.is" [v9] σ fun v11 σ =>
 rNil PP a1 fun v12 =>
 rFld 3 v12 fun v13 =>
 x.C c_save_voting [a0, v13] σ fun v14 σ =>
 rNil PP a1 fun v15 =>
 rFld 18 v15 fun v16 =>
 x.C c_save_each_board_Told [a0, v16, (.func (.func c_save_said) #[] #[])] σ fun v17 σ =>
 rNil PP a1 fun v18 =>
 rFld 19 v18 fun v19 =>
 x.C c_save_each_api_Msg [a0, v19, (.func (.func c_save_message) #[] #[])] σ fun v20 σ =>
 K (.tuple ⟨[]⟩) σ
theorem f_save_rows (x : EV) (a0 a1 : Value) (σ : St) (K : VK) : fnX PP tbS c_save_rows (x.E PP) [a0, a1] σ K = r_save_rows x a0 a1 σ K := by kernel_rfl

/-! consistory/save.text -/
noncomputable def r_save_text (x : EV) (a0 a1 : Value) (σ : St) (K : VK) : Bool :=
 rInv PP x.C a0 "consistory/save.text" [a1] σ fun v0 σ =>
 K (.tuple ⟨[]⟩) σ
theorem f_save_text (x : EV) (a0 a1 : Value) (σ : St) (K : VK) : fnX PP tbS c_save_text (x.E PP) [a0, a1] σ K = r_save_text x a0 a1 σ K := by kernel_rfl

/-! consistory/save.each[string] -/
noncomputable def l_save_each_string_rrd (x : EV) (m : Nat) (t0 t1 t2 t6 t7 : Value) (σ : St) (K : VK) : Bool := jmpL PP tbS c_save_each_string (x.E PP) [.r, .r, .d] m [] [t0, t1, t2, t6, t7] σ K
noncomputable def j_save_each_string_rrddrldr (x : EV) (m0 : Nat) (t0 t1 t2 t6 t7 : Value) (σ : St) (K : VK) : Bool := jmpJ PP tbS c_save_each_string (x.E PP) [.r, .r, .d, .d, .r, .l, .d, .r] [m0] [t0, t1, t2, t6, t7] σ K
/-! consistory/save.each[consistory/api.Pair] -/
noncomputable def l_save_each_api_Pair_rrd (x : EV) (m : Nat) (t0 t1 t2 t6 t7 : Value) (σ : St) (K : VK) : Bool := jmpL PP tbS c_save_each_api_Pair (x.E PP) [.r, .r, .d] m [] [t0, t1, t2, t6, t7] σ K
noncomputable def j_save_each_api_Pair_rrddrldr (x : EV) (m0 : Nat) (t0 t1 t2 t6 t7 : Value) (σ : St) (K : VK) : Bool := jmpJ PP tbS c_save_each_api_Pair (x.E PP) [.r, .r, .d, .d, .r, .l, .d, .r] [m0] [t0, t1, t2, t6, t7] σ K
/-! consistory/save.pair -/
noncomputable def r_save_pair (x : EV) (a0 a1 : Value) (σ : St) (K : VK) : Bool :=
 rNil PP a1 fun v0 =>
 rFld 0 v0 fun v1 =>
 rNil PP (.func (.method "consistory/save.number") ⟨[a0]⟩ ⟨[]⟩) fun v2 =>
 rInv PP x.C a0 "consistory/save.number" [v1] σ fun v3 σ =>
 rNil PP a1 fun v4 =>
 rFld 1 v4 fun v5 =>
 rNil PP (.func (.method "consistory/save.number") ⟨[a0]⟩ ⟨[]⟩) fun v6 =>
 rInv PP x.C a0 "consistory/save.number" [v5] σ fun v7 σ =>
 K (.tuple ⟨[]⟩) σ
theorem f_save_pair (x : EV) (a0 a1 : Value) (σ : St) (K : VK) : fnX PP tbS c_save_pair (x.E PP) [a0, a1] σ K = r_save_pair x a0 a1 σ K := by kernel_rfl

/-! consistory/save.each[consistory/avss.State] -/
noncomputable def l_save_each_avss_State_rrd (x : EV) (m : Nat) (t0 t1 t2 t6 t7 : Value) (σ : St) (K : VK) : Bool := jmpL PP tbS c_save_each_avss_State (x.E PP) [.r, .r, .d] m [] [t0, t1, t2, t6, t7] σ K
noncomputable def j_save_each_avss_State_rrddrldr (x : EV) (m0 : Nat) (t0 t1 t2 t6 t7 : Value) (σ : St) (K : VK) : Bool := jmpJ PP tbS c_save_each_avss_State (x.E PP) [.r, .r, .d, .d, .r, .l, .d, .r] [m0] [t0, t1, t2, t6, t7] σ K
/-! consistory/save.dealing -/
noncomputable def r_save_dealing (x : EV) (a0 a1 : Value) (σ : St) (K : VK) : Bool :=
 rNil PP a1 fun v0 =>
 rFld 0 v0 fun v1 =>
 rNil PP a1 fun v2 =>
 rFld 1 v2 fun v3 =>
 bcase (rBuildS 146 2 [(.pointer none)] [(0, 1, v1), (1, 1, v3)] σ fun v4 σ =>
 true) (rBuildS 146 2 [(.pointer none)] [(0, 1, v1), (1, 1, v3)] σ fun v5 σ =>
 x.C c_save_whole [a0, v5] σ fun v6 σ =>
 rNil PP a1 fun v7 =>
 rFld 2 v7 fun v8 =>
 x.C c_save_each_list_uint64 [a0, v8, (.func (.func c_save_nums) #[] #[])] σ fun v9 σ =>
 rNil PP a1 fun v10 =>
 rFld 3 v10 fun v11 =>
 rNil PP (.func (.method "consistory/save.nums") ⟨[a0]⟩ ⟨[]⟩) fun v12 =>
 rInv PP x.C a0 "consistory/save.nums" [v11] σ fun v13 σ =>
 rNil PP a1 fun v14 =>
 rFld 4 v14 fun v15 =>
 x.C c_save_each_avss_Told [a0, v15, (.func (.func c_save_told) #[] #[])] σ fun v16 σ =>
 rNil PP a1 fun v17 =>
 rFld 5 v17 fun v18 =>
 x.C c_save_each_avss_Told [a0, v18, (.func (.func c_save_told) #[] #[])] σ fun v19 σ =>
 rNil PP a1 fun v20 =>
 rFld 6 v20 fun v21 =>
 rNil PP (.func (.method "consistory/save.nums") ⟨[a0]⟩ ⟨[]⟩) fun v22 =>
 rInv PP x.C a0 "consistory/save.nums" [v21] σ fun v23 σ =>
 rNil PP a1 fun v24 =>
 rFld 7 v24 fun v25 =>
 rNil PP (.func (.method "consistory/save.is") ⟨[a0]⟩ ⟨[]⟩) fun v26 =>
 rInv PP x.C a0 "consistory/save.is" [v25] σ fun v27 σ =>
 K (.tuple ⟨[]⟩) σ) false
theorem f_save_dealing (x : EV) (a0 a1 : Value) (σ : St) (K : VK) : fnX PP tbS c_save_dealing (x.E PP) [a0, a1] σ K = r_save_dealing x a0 a1 σ K := by kernel_rfl

/-! consistory/save.each[consistory/node.Done] -/
noncomputable def l_save_each_node_Done_rrd (x : EV) (m : Nat) (t0 t1 t2 t6 t7 : Value) (σ : St) (K : VK) : Bool := jmpL PP tbS c_save_each_node_Done (x.E PP) [.r, .r, .d] m [] [t0, t1, t2, t6, t7] σ K
noncomputable def j_save_each_node_Done_rrddrldr (x : EV) (m0 : Nat) (t0 t1 t2 t6 t7 : Value) (σ : St) (K : VK) : Bool := jmpJ PP tbS c_save_each_node_Done (x.E PP) [.r, .r, .d, .d, .r, .l, .d, .r] [m0] [t0, t1, t2, t6, t7] σ K
/-! consistory/save.done -/
noncomputable def r_save_done (x : EV) (a0 a1 : Value) (σ : St) (K : VK) : Bool :=
 rNil PP a1 fun v0 =>
 rFld 0 v0 fun v1 =>
 rNil PP a1 fun v2 =>
 rFld 1 v2 fun v3 =>
 bcase (rBuildS 146 2 [(.pointer none)] [(0, 1, v1), (1, 1, v3)] σ fun v4 σ =>
 true) (rBuildS 146 2 [(.pointer none)] [(0, 1, v1), (1, 1, v3)] σ fun v5 σ =>
 x.C c_save_whole [a0, v5] σ fun v6 σ =>
 rNil PP a1 fun v7 =>
 rFld 2 v7 fun v8 =>
 rNil PP (.func (.method "consistory/save.nums") ⟨[a0]⟩ ⟨[]⟩) fun v9 =>
 rInv PP x.C a0 "consistory/save.nums" [v8] σ fun v10 σ =>
 K (.tuple ⟨[]⟩) σ) false
theorem f_save_done (x : EV) (a0 a1 : Value) (σ : St) (K : VK) : fnX PP tbS c_save_done (x.E PP) [a0, a1] σ K = r_save_done x a0 a1 σ K := by kernel_rfl

/-! consistory/save.each[consistory/api.Msg] -/
noncomputable def l_save_each_api_Msg_rrd (x : EV) (m : Nat) (t0 t1 t2 t6 t7 : Value) (σ : St) (K : VK) : Bool := jmpL PP tbS c_save_each_api_Msg (x.E PP) [.r, .r, .d] m [] [t0, t1, t2, t6, t7] σ K
noncomputable def j_save_each_api_Msg_rrddrldr (x : EV) (m0 : Nat) (t0 t1 t2 t6 t7 : Value) (σ : St) (K : VK) : Bool := jmpJ PP tbS c_save_each_api_Msg (x.E PP) [.r, .r, .d, .d, .r, .l, .d, .r] [m0] [t0, t1, t2, t6, t7] σ K
/-! consistory/save.message -/
noncomputable def r_save_message (x : EV) (a0 a1 : Value) (σ : St) (K : VK) : Bool :=
 rNil PP a1 fun v0 =>
 rFld 0 v0 fun v1 =>
 rNil PP (.func (.method "consistory/save.kind") ⟨[a0]⟩ ⟨[]⟩) fun v2 =>
 rInv PP x.C a0 "consistory/save.kind" [v1] σ fun v3 σ =>
 rNil PP a1 fun v4 =>
 rFld 1 v4 fun v5 =>
 rNil PP a1 fun v6 =>
 rFld 2 v6 fun v7 =>
 rNil PP a1 fun v8 =>
 rFld 3 v8 fun v9 =>
 rNil PP a1 fun v10 =>
 rFld 4 v10 fun v11 =>
 rNil PP a1 fun v12 =>
 rFld 5 v12 fun v13 =>
 rNil PP a1 fun v14 =>
 rFld 6 v14 fun v15 =>
 rNil PP a1 fun v16 =>
 rFld 7 v16 fun v17 =>
 rNil PP a1 fun v18 =>
 rFld 8 v18 fun v19 =>
 bcase (rBuildS 146 8 [(.pointer none)] [(0, 1, v5), (1, 1, v7), (2, 1, v9), (3, 1, v11), (4, 1, v13), (5, 1, v15), (6, 1, v17), (7, 1, v19)] σ fun v20 σ =>
 true) (rBuildS 146 8 [(.pointer none)] [(0, 1, v5), (1, 1, v7), (2, 1, v9), (3, 1, v11), (4, 1, v13), (5, 1, v15), (6, 1, v17), (7, 1, v19)] σ fun v21 σ =>
 x.C c_save_whole [a0, v21] σ fun v22 σ =>
 rNil PP a1 fun v23 =>
 rFld 9 v23 fun v24 =>
 rNil PP (.func (.method "consistory/save.text") ⟨[a0]⟩ ⟨[]⟩) fun v25 =>
 rInv PP x.C a0 "consistory/save.text" [v24] σ fun v26 σ =>
 rNil PP a1 fun v27 =>
 rFld 10 v27 fun v28 =>
 rNil PP (.func (.method "consistory/save.nums") ⟨[a0]⟩ ⟨[]⟩) fun v29 =>
 rInv PP x.C a0 "consistory/save.nums" [v28] σ fun v30 σ =>
 K (.tuple ⟨[]⟩) σ) false
theorem f_save_message (x : EV) (a0 a1 : Value) (σ : St) (K : VK) : fnX PP tbS c_save_message (x.E PP) [a0, a1] σ K = r_save_message x a0 a1 σ K := by kernel_rfl

/-! consistory/save.voting -/
noncomputable def r_save_voting (x : EV) (a0 a1 : Value) (σ : St) (K : VK) : Bool :=
 rNil PP a1 fun v0 =>
 rFld 0 v0 fun v1 =>
 rNil PP a1 fun v2 =>
 rFld 1 v2 fun v3 =>
 rNil PP a1 fun v4 =>
 rFld 2 v4 fun v5 =>
 rNil PP a1 fun v6 =>
 rFld 3 v6 fun v7 =>
 rNil PP a1 fun v8 =>
 rFld 4 v8 fun v9 =>
 rNil PP a1 fun v10 =>
 rFld 5 v10 fun v11 =>
 rNil PP a1 fun v12 =>
 rFld 6 v12 fun v13 =>
 bcase (rBuildS 146 7 [(.pointer none)] [(0, 1, v1), (1, 1, v3), (2, 1, v5), (3, 1, v7), (4, 1, v9), (5, 1, v11), (6, 1, v13)] σ fun v14 σ =>
 true) (rBuildS 146 7 [(.pointer none)] [(0, 1, v1), (1, 1, v3), (2, 1, v5), (3, 1, v7), (4, 1, v9), (5, 1, v11), (6, 1, v13)] σ fun v15 σ =>
 x.C c_save_whole [a0, v15] σ fun v16 σ =>
 rNil PP a1 fun v17 =>
 rFld 7 v17 fun v18 =>
 rNil PP (.func (.method "consistory/save.text") ⟨[a0]⟩ ⟨[]⟩) fun v19 =>
 rInv PP x.C a0 "consistory/save.text" [v18] σ fun v20 σ =>
 rNil PP a1 fun v21 =>
 rFld 8 v21 fun v22 =>
 rNil PP (.func (.method "consistory/save.text") ⟨[a0]⟩ ⟨[]⟩) fun v23 =>
 rInv PP x.C a0 "consistory/save.text" [v22] σ fun v24 σ =>
 rNil PP a1 fun v25 =>
 rFld 9 v25 fun v26 =>
 rNil PP a1 fun v27 =>
 rFld 10 v27 fun v28 =>
 bcase (rBuildS 146 2 [(.pointer none)] [(0, 1, v26), (1, 1, v28)] σ fun v29 σ =>
 true) (rBuildS 146 2 [(.pointer none)] [(0, 1, v26), (1, 1, v28)] σ fun v30 σ =>
 x.C c_save_whole [a0, v30] σ fun v31 σ =>
 rNil PP a1 fun v32 =>
 rFld 11 v32 fun v33 =>
 rNil PP (.func (.method "consistory/save.is") ⟨[a0]⟩ ⟨[]⟩) fun v34 =>
 rInv PP x.C a0 "consistory/save.is" [v33] σ fun v35 σ =>
 rNil PP a1 fun v36 =>
 rFld 12 v36 fun v37 =>
 rNil PP (.func (.method "consistory/save.is") ⟨[a0]⟩ ⟨[]⟩) fun v38 =>
 rInv PP x.C a0 "consistory/save.is" [v37] σ fun v39 σ =>
 rNil PP a1 fun v40 =>
 rFld 13 v40 fun v41 =>
 rNil PP (.func (.method "consistory/save.text") ⟨[a0]⟩ ⟨[]⟩) fun v42 =>
 rInv PP x.C a0 "consistory/save.text" [v41] σ fun v43 σ =>
 rNil PP a1 fun v44 =>
 rFld 14 v44 fun v45 =>
 x.C c_save_each_tally_Vote [a0, v45, (.func (.func c_save_vote) #[] #[])] σ fun v46 σ =>
 K (.tuple ⟨[]⟩) σ) false) false
theorem f_save_voting (x : EV) (a0 a1 : Value) (σ : St) (K : VK) : fnX PP tbS c_save_voting (x.E PP) [a0, a1] σ K = r_save_voting x a0 a1 σ K := by kernel_rfl

/-! consistory/save.each[consistory/board.Told] -/
noncomputable def l_save_each_board_Told_rrd (x : EV) (m : Nat) (t0 t1 t2 t6 t7 : Value) (σ : St) (K : VK) : Bool := jmpL PP tbS c_save_each_board_Told (x.E PP) [.r, .r, .d] m [] [t0, t1, t2, t6, t7] σ K
noncomputable def j_save_each_board_Told_rrddrldr (x : EV) (m0 : Nat) (t0 t1 t2 t6 t7 : Value) (σ : St) (K : VK) : Bool := jmpJ PP tbS c_save_each_board_Told (x.E PP) [.r, .r, .d, .d, .r, .l, .d, .r] [m0] [t0, t1, t2, t6, t7] σ K
/-! consistory/save.said -/
noncomputable def r_save_said (x : EV) (a0 a1 : Value) (σ : St) (K : VK) : Bool :=
 rNil PP a1 fun v0 =>
 rFld 0 v0 fun v1 =>
 rBuildS 146 1 [(.pointer none)] [(0, 1, v1)] σ fun v2 σ =>
 x.C c_save_whole [a0, v2] σ fun v3 σ =>
 rNil PP a1 fun v4 =>
 rFld 1 v4 fun v5 =>
 rNil PP (.func (.method "consistory/save.text") ⟨[a0]⟩ ⟨[]⟩) fun v6 =>
 rInv PP x.C a0 "consistory/save.text" [v5] σ fun v7 σ =>
 K (.tuple ⟨[]⟩) σ
theorem f_save_said (x : EV) (a0 a1 : Value) (σ : St) (K : VK) : fnX PP tbS c_save_said (x.E PP) [a0, a1] σ K = r_save_said x a0 a1 σ K := by kernel_rfl

/-! consistory/save.each[[]uint64] -/
noncomputable def l_save_each_list_uint64_rrd (x : EV) (m : Nat) (t0 t1 t2 t6 t7 : Value) (σ : St) (K : VK) : Bool := jmpL PP tbS c_save_each_list_uint64 (x.E PP) [.r, .r, .d] m [] [t0, t1, t2, t6, t7] σ K
noncomputable def j_save_each_list_uint64_rrddrldr (x : EV) (m0 : Nat) (t0 t1 t2 t6 t7 : Value) (σ : St) (K : VK) : Bool := jmpJ PP tbS c_save_each_list_uint64 (x.E PP) [.r, .r, .d, .d, .r, .l, .d, .r] [m0] [t0, t1, t2, t6, t7] σ K
/-! consistory/save.nums -/
noncomputable def r_save_nums (x : EV) (a0 a1 : Value) (σ : St) (K : VK) : Bool :=
 rInv PP x.C a0 "consistory/save.nums" [a1] σ fun v0 σ =>
 K (.tuple ⟨[]⟩) σ
theorem f_save_nums (x : EV) (a0 a1 : Value) (σ : St) (K : VK) : fnX PP tbS c_save_nums (x.E PP) [a0, a1] σ K = r_save_nums x a0 a1 σ K := by kernel_rfl

/-! consistory/save.each[consistory/avss.Told] -/
noncomputable def l_save_each_avss_Told_rrd (x : EV) (m : Nat) (t0 t1 t2 t6 t7 : Value) (σ : St) (K : VK) : Bool := jmpL PP tbS c_save_each_avss_Told (x.E PP) [.r, .r, .d] m [] [t0, t1, t2, t6, t7] σ K
noncomputable def j_save_each_avss_Told_rrddrldr (x : EV) (m0 : Nat) (t0 t1 t2 t6 t7 : Value) (σ : St) (K : VK) : Bool := jmpJ PP tbS c_save_each_avss_Told (x.E PP) [.r, .r, .d, .d, .r, .l, .d, .r] [m0] [t0, t1, t2, t6, t7] σ K
/-! consistory/save.told -/
noncomputable def r_save_told (x : EV) (a0 a1 : Value) (σ : St) (K : VK) : Bool :=
 rNil PP a1 fun v0 =>
 rFld 0 v0 fun v1 =>
 rBuildS 146 1 [(.pointer none)] [(0, 1, v1)] σ fun v2 σ =>
 x.C c_save_whole [a0, v2] σ fun v3 σ =>
 rNil PP a1 fun v4 =>
 rFld 1 v4 fun v5 =>
 rNil PP (.func (.method "consistory/save.nums") ⟨[a0]⟩ ⟨[]⟩) fun v6 =>
 rInv PP x.C a0 "consistory/save.nums" [v5] σ fun v7 σ =>
 K (.tuple ⟨[]⟩) σ
theorem f_save_told (x : EV) (a0 a1 : Value) (σ : St) (K : VK) : fnX PP tbS c_save_told (x.E PP) [a0, a1] σ K = r_save_told x a0 a1 σ K := by kernel_rfl

/-! consistory/save.each[consistory/tally.Vote] -/
noncomputable def l_save_each_tally_Vote_rrd (x : EV) (m : Nat) (t0 t1 t2 t6 t7 : Value) (σ : St) (K : VK) : Bool := jmpL PP tbS c_save_each_tally_Vote (x.E PP) [.r, .r, .d] m [] [t0, t1, t2, t6, t7] σ K
noncomputable def j_save_each_tally_Vote_rrddrldr (x : EV) (m0 : Nat) (t0 t1 t2 t6 t7 : Value) (σ : St) (K : VK) : Bool := jmpJ PP tbS c_save_each_tally_Vote (x.E PP) [.r, .r, .d, .d, .r, .l, .d, .r] [m0] [t0, t1, t2, t6, t7] σ K
/-! consistory/save.vote -/
noncomputable def r_save_vote (x : EV) (a0 a1 : Value) (σ : St) (K : VK) : Bool :=
 rNil PP a1 fun v0 =>
 rFld 0 v0 fun v1 =>
 rNil PP a1 fun v2 =>
 rFld 1 v2 fun v3 =>
 bcase (rBuildS 146 2 [(.pointer none)] [(0, 1, v1), (1, 1, v3)] σ fun v4 σ =>
 true) (rBuildS 146 2 [(.pointer none)] [(0, 1, v1), (1, 1, v3)] σ fun v5 σ =>
 x.C c_save_whole [a0, v5] σ fun v6 σ =>
 rNil PP a1 fun v7 =>
 rFld 2 v7 fun v8 =>
 rNil PP (.func (.method "consistory/save.kind") ⟨[a0]⟩ ⟨[]⟩) fun v9 =>
 rInv PP x.C a0 "consistory/save.kind" [v8] σ fun v10 σ =>
 rNil PP a1 fun v11 =>
 rFld 3 v11 fun v12 =>
 rBuildS 146 1 [(.pointer none)] [(0, 1, v12)] σ fun v13 σ =>
 x.C c_save_whole [a0, v13] σ fun v14 σ =>
 rNil PP a1 fun v15 =>
 rFld 4 v15 fun v16 =>
 rNil PP (.func (.method "consistory/save.text") ⟨[a0]⟩ ⟨[]⟩) fun v17 =>
 rInv PP x.C a0 "consistory/save.text" [v16] σ fun v18 σ =>
 K (.tuple ⟨[]⟩) σ) false
theorem f_save_vote (x : EV) (a0 a1 : Value) (σ : St) (K : VK) : fnX PP tbS c_save_vote (x.E PP) [a0, a1] σ K = r_save_vote x a0 a1 σ K := by kernel_rfl

end Go.Am

set_option linter.unusedVariables false
set_option maxRecDepth 100000
namespace Go.Am

/-! (*consistory/save.pen).is -/
noncomputable def r_save_pen_is (x : EV) (a0 a1 : Value) (σ : St) (K : VK) : Bool :=
 rAlloc [(.int .u64 (.ofNat 0))] 57 σ fun v0 σ =>
 rSt 1 v0 (.int .u64 (.ofNat 0)) σ fun σ =>
 rNil PP a1 fun v1 =>
 rLd v1 σ fun v2 σ =>
 rIf v2 (rSt 1 v0 (.int .u64 (.ofNat 1)) σ fun σ =>
 x.C c_save_pen_number [a0, v0] σ fun v3 σ =>
 K (.tuple ⟨[]⟩) σ) (x.C c_save_pen_number [a0, v0] σ fun v4 σ =>
 K (.tuple ⟨[]⟩) σ)
theorem f_save_pen_is (x : EV) (a0 a1 : Value) (σ : St) (K : VK) : fnX PP tbS c_save_pen_is (x.E PP) [a0, a1] σ K = r_save_pen_is x a0 a1 σ K := by kernel_rfl

/-! (*consistory/save.pen).kind -/
noncomputable def r_save_pen_kind (x : EV) (a0 a1 : Value) (σ : St) (K : VK) : Bool :=
 rNil PP a0 fun v0 =>
 rFld 0 v0 fun v1 =>
 rNil PP a1 fun v2 =>
 rLd v2 σ fun v3 σ =>
 x.C c_wire_Byte [zS, v3] σ fun v4 σ =>
 x.C c_strings_Builder_WriteString [v1, v4] σ fun v5 σ =>
 K (.tuple ⟨[]⟩) σ
theorem f_save_pen_kind (x : EV) (a0 a1 : Value) (σ : St) (K : VK) : fnX PP tbS c_save_pen_kind (x.E PP) [a0, a1] σ K = r_save_pen_kind x a0 a1 σ K := by kernel_rfl

/-! (*consistory/save.pen).many -/
noncomputable def r_save_pen_many (x : EV) (a0 a1 : Value) (σ : St) (K : VK) : Bool :=
 rBin PP .gtr 3 a1 (.int .i64 (.ofNat 1048576)) fun v0 =>
 rIf v0 (x.C c_save_pen_put [a0, zS, (.int .i64 (.ofNat 40))] σ fun v1 σ =>
 K zI σ) (rNil PP a0 fun v2 =>
 rFld 0 v2 fun v3 =>
 rInt .u64 a1 fun v4 =>
 x.C c_wire_Num [zS, v4] σ fun v5 σ =>
 x.C c_strings_Builder_WriteString [v3, v5] σ fun v6 σ =>
 K a1 σ)
theorem f_save_pen_many (x : EV) (a0 a1 : Value) (σ : St) (K : VK) : fnX PP tbS c_save_pen_many (x.E PP) [a0, a1] σ K = r_save_pen_many x a0 a1 σ K := by kernel_rfl

/-! (*consistory/save.pen).number -/
noncomputable def r_save_pen_number (x : EV) (a0 a1 : Value) (σ : St) (K : VK) : Bool :=
 rNil PP a0 fun v0 =>
 rFld 0 v0 fun v1 =>
 rNil PP a1 fun v2 =>
 rLd v2 σ fun v3 σ =>
 x.C c_wire_Num [zS, v3] σ fun v4 σ =>
 x.C c_strings_Builder_WriteString [v1, v4] σ fun v5 σ =>
 K (.tuple ⟨[]⟩) σ
theorem f_save_pen_number (x : EV) (a0 a1 : Value) (σ : St) (K : VK) : fnX PP tbS c_save_pen_number (x.E PP) [a0, a1] σ K = r_save_pen_number x a0 a1 σ K := by kernel_rfl

/-! (*consistory/save.pen).nums -/
noncomputable def r_save_pen_nums (x : EV) (a0 a1 : Value) (σ : St) (K : VK) : Bool :=
 rNil PP a1 fun v0 =>
 rLd v0 σ fun v1 σ =>
 x.C c_wire_List [zS, v1] σ fun v2 σ =>
 rExt 0 v2 fun v3 =>
 rExt 1 v2 fun v4 =>
 x.C c_save_pen_put [a0, v3, v4] σ fun v5 σ =>
 K (.tuple ⟨[]⟩) σ
theorem f_save_pen_nums (x : EV) (a0 a1 : Value) (σ : St) (K : VK) : fnX PP tbS c_save_pen_nums (x.E PP) [a0, a1] σ K = r_save_pen_nums x a0 a1 σ K := by kernel_rfl

/-! (*consistory/save.pen).text -/
noncomputable def r_save_pen_text (x : EV) (a0 a1 : Value) (σ : St) (K : VK) : Bool :=
 rNil PP a1 fun v0 =>
 rLd v0 σ fun v1 σ =>
 x.C c_wire_Text [zS, v1] σ fun v2 σ =>
 rExt 0 v2 fun v3 =>
 rExt 1 v2 fun v4 =>
 x.C c_save_pen_put [a0, v3, v4] σ fun v5 σ =>
 K (.tuple ⟨[]⟩) σ
theorem f_save_pen_text (x : EV) (a0 a1 : Value) (σ : St) (K : VK) : fnX PP tbS c_save_pen_text (x.E PP) [a0, a1] σ K = r_save_pen_text x a0 a1 σ K := by kernel_rfl

/-! (*consistory/save.pen).wrong -/
noncomputable def r_save_pen_wrong (x : EV) (a0 : Value) (σ : St) (K : VK) : Bool :=
 rNil PP a0 fun v0 =>
 rFld 2 v0 fun v1 =>
 rLd v1 σ fun v2 σ =>
 K v2 σ
theorem f_save_pen_wrong (x : EV) (a0 : Value) (σ : St) (K : VK) : fnX PP tbS c_save_pen_wrong (x.E PP) [a0] σ K = r_save_pen_wrong x a0 σ K := by kernel_rfl

/-! (*strings.Builder).WriteString -/
noncomputable def r_strings_Builder_WriteString (x : EV) (a0 a1 : Value) (σ : St) (K : VK) : Bool :=
 x.C c_strings_Builder_copyCheck [a0] σ fun v0 σ =>
 rNil PP a0 fun v1 =>
 rFld 1 v1 fun v2 =>
 rLd v2 σ fun v3 σ =>
 rApp PP 5 1 1 v3 a1 σ fun v4 σ =>
 rNil PP a0 fun v5 =>
 rFld 1 v5 fun v6 =>
 rSt 1 v6 v4 σ fun σ =>
 rLenT a1 fun v7 =>
 K (.tuple ⟨[v7, .nilIface]⟩) σ
theorem f_strings_Builder_WriteString (x : EV) (a0 a1 : Value) (σ : St) (K : VK) : fnX PP tbS c_strings_Builder_WriteString (x.E PP) [a0, a1] σ K = r_strings_Builder_WriteString x a0 a1 σ K := by kernel_rfl

/-! consistory/wire.Byte -/
noncomputable def r_wire_Byte (x : EV) (a0 a1 : Value) (σ : St) (K : VK) : Bool :=
 rInt .u64 a1 fun v0 =>
 x.C c_wire_put [a0, v0, (.int .i64 (.ofNat 1))] σ fun v1 σ =>
 K v1 σ
theorem f_wire_Byte (x : EV) (a0 a1 : Value) (σ : St) (K : VK) : fnX PP tbS c_wire_Byte (x.E PP) [a0, a1] σ K = r_wire_Byte x a0 a1 σ K := by kernel_rfl

/-! (*consistory/save.pen).put -/
noncomputable def j_save_pen_put_r (x : EV) (t0 t1 : Value) (σ : St) (K : VK) : Bool := jmpJ PP tbS c_save_pen_put (x.E PP) [.r] [] [t0, t1] σ K
noncomputable def r_save_pen_put (x : EV) (a0 a1 a2 : Value) (σ : St) (K : VK) : Bool :=
 rNil PP a0 fun v0 =>
 rFld 2 v0 fun v1 =>
 rLd v1 σ fun v2 σ =>
 rBin PP .eql 37 v2 zI fun v3 =>
 rIf v3 (rNil PP a0 fun v4 =>
 rFld 2 v4 fun v5 =>
 rSt 1 v5 a2 σ fun σ =>
 j_save_pen_put_r x a0 a1 σ K) (j_save_pen_put_r x a0 a1 σ K)
theorem f_save_pen_put (x : EV) (a0 a1 a2 : Value) (σ : St) (K : VK) : fnX PP tbS c_save_pen_put (x.E PP) [a0, a1, a2] σ K = r_save_pen_put x a0 a1 a2 σ K := by kernel_rfl
noncomputable def j_save_pen_put_rB (x : EV) (t0 t1 : Value) (σ : St) (K : VK) : Bool :=
 rNil PP t0 fun v0 =>
 rFld 0 v0 fun v1 =>
 x.C c_strings_Builder_WriteString [v1, t1] σ fun v2 σ =>
 K (.tuple ⟨[]⟩) σ
theorem j_save_pen_put_rE0 (x : EV) (t0 t1 : Value) (σ : St) (K : VK) : jmp0 PP tbS c_save_pen_put (x.E PP) [.r] [] [t0, t1] σ K = j_save_pen_put_rB x t0 t1 σ K := by kernel_rfl
theorem j_save_pen_put_rE (x : EV) (hm : x.most ≠ 0) (t0 t1 : Value) (σ : St) (K : VK) : j_save_pen_put_r x t0 t1 σ K = j_save_pen_put_rB x t0 t1 σ K := (jmpJ_eq c_save_pen_put (x.E PP) [.r] [] [t0, t1] σ K hm).trans (j_save_pen_put_rE0 x t0 t1 σ K)

/-! consistory/wire.Num -/
noncomputable def r_wire_Num (x : EV) (a0 a1 : Value) (σ : St) (K : VK) : Bool :=
 x.C c_wire_put [a0, a1, (.int .i64 (.ofNat 8))] σ fun v0 σ =>
 K v0 σ
theorem f_wire_Num (x : EV) (a0 a1 : Value) (σ : St) (K : VK) : fnX PP tbS c_wire_Num (x.E PP) [a0, a1] σ K = r_wire_Num x a0 a1 σ K := by kernel_rfl

/-! consistory/wire.List -/
noncomputable def l_wire_List_rrrrlrd (x : EV) (m : Nat) (t6 t19 t20 t21 : Value) (σ : St) (K : VK) : Bool := jmpL PP tbS c_wire_List (x.E PP) [.r, .r, .r, .r, .l, .r, .d] m [] [t6, t19, t20, t21] σ K
noncomputable def r_wire_List (x : EV) (a0 a1 : Value) (σ : St) (K : VK) : Bool :=
 rLenS a1 fun v0 =>
 rBin PP .gtr 3 v0 (.int .i64 (.ofNat 1024)) fun v1 =>
 rIf v1 (K (.tuple ⟨[a0, (.int .i64 (.ofNat 40))]⟩) σ) (rAlloc [(.pointer none), zL] 94 σ fun v2 σ =>
 rLenS a1 fun v3 =>
 rInt .u64 v3 fun v4 =>
 x.C c_wire_put [a0, v4, (.int .i64 (.ofNat 2))] σ fun v5 σ =>
 x.C c_strings_Builder_WriteString [v2, v5] σ fun v6 σ =>
 rLenS a1 fun v7 =>
 l_wire_List_rrrrlrd x x.most v2 a1 v7 zI σ K)
theorem f_wire_List (x : EV) (a0 a1 : Value) (σ : St) (K : VK) : fnX PP tbS c_wire_List (x.E PP) [a0, a1] σ K = r_wire_List x a0 a1 σ K := by kernel_rfl
noncomputable def l_wire_List_rrrrlrdB (x : EV) (m0 : Nat) (t6 t19 t20 t21 : Value) (σ : St) (K : VK) : Bool :=
 rBin PP .lss 3 t21 t20 fun v0 =>
 rIf v0 (rIdx 1 t19 t21 fun v1 =>
 rLd v1 σ fun v2 σ =>
 x.C c_wire_put [zS, v2, (.int .i64 (.ofNat 8))] σ fun v3 σ =>
 x.C c_strings_Builder_WriteString [t6, v3] σ fun v4 σ =>
 rBin PP .add 3 t21 (.int .i64 (.ofNat 1)) fun v5 =>
 l_wire_List_rrrrlrd x m0 t6 t19 t20 v5 σ K) (x.C c_strings_Builder_String [t6] σ fun v6 σ =>
 K (.tuple ⟨[v6, zI]⟩) σ)
theorem l_wire_List_rrrrlrdE (x : EV) (m0 : Nat) (t6 t19 t20 t21 : Value) (σ : St) (K : VK) : l_wire_List_rrrrlrd x (m0 + 1) t6 t19 t20 t21 σ K = l_wire_List_rrrrlrdB x m0 t6 t19 t20 t21 σ K := by kernel_rfl

/-! consistory/wire.Text -/
noncomputable def r_wire_Text (x : EV) (a0 a1 : Value) (σ : St) (K : VK) : Bool :=
 rLenT a1 fun v0 =>
 rBin PP .gtr 3 v0 (.int .i64 (.ofNat 2048)) fun v1 =>
 rIf v1 (K (.tuple ⟨[a0, (.int .i64 (.ofNat 40))]⟩) σ) (rLenT a1 fun v2 =>
 rInt .u64 v2 fun v3 =>
 x.C c_wire_put [a0, v3, (.int .i64 (.ofNat 2))] σ fun v4 σ =>
 rBin PP .add 9 v4 a1 fun v5 =>
 K (.tuple ⟨[v5, zI]⟩) σ)
theorem f_wire_Text (x : EV) (a0 a1 : Value) (σ : St) (K : VK) : fnX PP tbS c_wire_Text (x.E PP) [a0, a1] σ K = r_wire_Text x a0 a1 σ K := by kernel_rfl

end Go.Am

set_option linter.unusedVariables false
set_option maxRecDepth 100000
namespace Go.Am

/-! (consistory/save.eye).is -/
noncomputable def r_save_eye_is (x : EV) (a0 a1 : Value) (σ : St) (K : VK) : Bool :=
 boxK 103 a0 σ fun v0 σ =>
 rFld 0 v0 fun v1 =>
 rLd v1 σ fun v2 σ =>
 x.C c_wire_Reader_Count [v2, (.int .i64 (.ofNat 1))] σ fun v3 σ =>
 rExt 0 v3 fun v4 =>
 rExt 1 v3 fun v5 =>
 rBin PP .eql 3 v4 (.int .i64 (.ofNat 1)) fun v6 =>
 rNil PP a1 fun v7 =>
 rSt 1 v7 v6 σ fun σ =>
 K (.tuple ⟨[]⟩) σ
theorem f_save_eye_is (x : EV) (a0 a1 : Value) (σ : St) (K : VK) : fnX PP tbS c_save_eye_is (x.E PP) [a0, a1] σ K = r_save_eye_is x a0 a1 σ K := by kernel_rfl

/-! (consistory/save.eye).kind -/
noncomputable def r_save_eye_kind (x : EV) (a0 a1 : Value) (σ : St) (K : VK) : Bool :=
 boxK 103 a0 σ fun v0 σ =>
 rFld 0 v0 fun v1 =>
 rLd v1 σ fun v2 σ =>
 x.C c_wire_Reader_Byte [v2] σ fun v3 σ =>
 rExt 0 v3 fun v4 =>
 rExt 1 v3 fun v5 =>
 rNil PP a1 fun v6 =>
 rSt 1 v6 v4 σ fun σ =>
 K (.tuple ⟨[]⟩) σ
theorem f_save_eye_kind (x : EV) (a0 a1 : Value) (σ : St) (K : VK) : fnX PP tbS c_save_eye_kind (x.E PP) [a0, a1] σ K = r_save_eye_kind x a0 a1 σ K := by kernel_rfl

/-! (consistory/save.eye).many -/
noncomputable def r_save_eye_many (x : EV) (a0 a1 : Value) (σ : St) (K : VK) : Bool :=
 boxK 103 a0 σ fun v0 σ =>
 rFld 0 v0 fun v1 =>
 rLd v1 σ fun v2 σ =>
 x.C c_wire_Reader_Count [v2, (.int .i64 (.ofNat 1048576))] σ fun v3 σ =>
 rExt 0 v3 fun v4 =>
 rExt 1 v3 fun v5 =>
 K v4 σ
theorem f_save_eye_many (x : EV) (a0 a1 : Value) (σ : St) (K : VK) : fnX PP tbS c_save_eye_many (x.E PP) [a0, a1] σ K = r_save_eye_many x a0 a1 σ K := by kernel_rfl

/-! (consistory/save.eye).number -/
noncomputable def r_save_eye_number (x : EV) (a0 a1 : Value) (σ : St) (K : VK) : Bool :=
 boxK 103 a0 σ fun v0 σ =>
 rFld 0 v0 fun v1 =>
 rLd v1 σ fun v2 σ =>
 x.C c_wire_Reader_Num [v2] σ fun v3 σ =>
 rExt 0 v3 fun v4 =>
 rExt 1 v3 fun v5 =>
 rNil PP a1 fun v6 =>
 rSt 1 v6 v4 σ fun σ =>
 K (.tuple ⟨[]⟩) σ
theorem f_save_eye_number (x : EV) (a0 a1 : Value) (σ : St) (K : VK) : fnX PP tbS c_save_eye_number (x.E PP) [a0, a1] σ K = r_save_eye_number x a0 a1 σ K := by kernel_rfl

/-! (consistory/save.eye).nums -/
noncomputable def r_save_eye_nums (x : EV) (a0 a1 : Value) (σ : St) (K : VK) : Bool :=
 boxK 103 a0 σ fun v0 σ =>
 rFld 0 v0 fun v1 =>
 rLd v1 σ fun v2 σ =>
 x.C c_wire_Reader_List [v2] σ fun v3 σ =>
 rExt 0 v3 fun v4 =>
 rExt 1 v3 fun v5 =>
 rNil PP a1 fun v6 =>
 rSt 1 v6 v4 σ fun σ =>
 K (.tuple ⟨[]⟩) σ
theorem f_save_eye_nums (x : EV) (a0 a1 : Value) (σ : St) (K : VK) : fnX PP tbS c_save_eye_nums (x.E PP) [a0, a1] σ K = r_save_eye_nums x a0 a1 σ K := by kernel_rfl

/-! (consistory/save.eye).text -/
noncomputable def r_save_eye_text (x : EV) (a0 a1 : Value) (σ : St) (K : VK) : Bool :=
 boxK 103 a0 σ fun v0 σ =>
 rFld 0 v0 fun v1 =>
 rLd v1 σ fun v2 σ =>
 x.C c_wire_Reader_Text [v2] σ fun v3 σ =>
 rExt 0 v3 fun v4 =>
 rExt 1 v3 fun v5 =>
 rNil PP a1 fun v6 =>
 rSt 1 v6 v4 σ fun σ =>
 K (.tuple ⟨[]⟩) σ
theorem f_save_eye_text (x : EV) (a0 a1 : Value) (σ : St) (K : VK) : fnX PP tbS c_save_eye_text (x.E PP) [a0, a1] σ K = r_save_eye_text x a0 a1 σ K := by kernel_rfl

/-! (consistory/save.eye).wrong -/
noncomputable def r_save_eye_wrong (x : EV) (a0 : Value) (σ : St) (K : VK) : Bool :=
 boxK 103 a0 σ fun v0 σ =>
 rFld 0 v0 fun v1 =>
 rLd v1 σ fun v2 σ =>
 x.C c_wire_Reader_Wrong [v2] σ fun v3 σ =>
 K v3 σ
theorem f_save_eye_wrong (x : EV) (a0 : Value) (σ : St) (K : VK) : fnX PP tbS c_save_eye_wrong (x.E PP) [a0] σ K = r_save_eye_wrong x a0 σ K := by kernel_rfl

/-! (*consistory/wire.Reader).Count -/
noncomputable def r_wire_Reader_Count (x : EV) (a0 a1 : Value) (σ : St) (K : VK) : Bool :=
 boxK 3 a1 σ fun v0 σ =>
 x.C c_wire_read_int [a0, (.func (.func 156) ⟨[]⟩ ⟨[v0]⟩)] σ fun v1 σ =>
 rExt 0 v1 fun v2 =>
 rExt 1 v1 fun v3 =>
 K (.tuple ⟨[v2, v3]⟩) σ
theorem f_wire_Reader_Count (x : EV) (a0 a1 : Value) (σ : St) (K : VK) : fnX PP tbS c_wire_Reader_Count (x.E PP) [a0, a1] σ K = r_wire_Reader_Count x a0 a1 σ K := by kernel_rfl

/-! (*consistory/wire.Reader).Byte -/
noncomputable def r_wire_Reader_Byte (x : EV) (a0 : Value) (σ : St) (K : VK) : Bool :=
 x.C c_wire_read_byte [a0, (.func (.func c_wire_Reader_Byte_1) #[] #[])] σ fun v0 σ =>
 rExt 0 v0 fun v1 =>
 rExt 1 v0 fun v2 =>
 K (.tuple ⟨[v1, v2]⟩) σ
theorem f_wire_Reader_Byte (x : EV) (a0 : Value) (σ : St) (K : VK) : fnX PP tbS c_wire_Reader_Byte (x.E PP) [a0] σ K = r_wire_Reader_Byte x a0 σ K := by kernel_rfl

/-! (*consistory/wire.Reader).Num -/
noncomputable def r_wire_Reader_Num (x : EV) (a0 : Value) (σ : St) (K : VK) : Bool :=
 x.C c_wire_read_uint64 [a0, (.func (.func c_wire_Reader_Num_1) #[] #[])] σ fun v0 σ =>
 rExt 0 v0 fun v1 =>
 rExt 1 v0 fun v2 =>
 K (.tuple ⟨[v1, v2]⟩) σ
theorem f_wire_Reader_Num (x : EV) (a0 : Value) (σ : St) (K : VK) : fnX PP tbS c_wire_Reader_Num (x.E PP) [a0] σ K = r_wire_Reader_Num x a0 σ K := by kernel_rfl

/-! (*consistory/wire.Reader).List -/
noncomputable def r_wire_Reader_List (x : EV) (a0 : Value) (σ : St) (K : VK) : Bool :=
 x.C c_wire_read_list_uint64 [a0, (.func (.func c_wire_Reader_List_1) #[] #[])] σ fun v0 σ =>
 rExt 0 v0 fun v1 =>
 rExt 1 v0 fun v2 =>
 K (.tuple ⟨[v1, v2]⟩) σ
theorem f_wire_Reader_List (x : EV) (a0 : Value) (σ : St) (K : VK) : fnX PP tbS c_wire_Reader_List (x.E PP) [a0] σ K = r_wire_Reader_List x a0 σ K := by kernel_rfl

/-! (*consistory/wire.Reader).Text -/
noncomputable def r_wire_Reader_Text (x : EV) (a0 : Value) (σ : St) (K : VK) : Bool :=
 x.C c_wire_read_string [a0, (.func (.func c_wire_Reader_Text_1) #[] #[])] σ fun v0 σ =>
 rExt 0 v0 fun v1 =>
 rExt 1 v0 fun v2 =>
 K (.tuple ⟨[v1, v2]⟩) σ
theorem f_wire_Reader_Text (x : EV) (a0 : Value) (σ : St) (K : VK) : fnX PP tbS c_wire_Reader_Text (x.E PP) [a0] σ K = r_wire_Reader_Text x a0 σ K := by kernel_rfl

/-! (*consistory/wire.Reader).Wrong -/
noncomputable def r_wire_Reader_Wrong (x : EV) (a0 : Value) (σ : St) (K : VK) : Bool :=
 rBin PP .eql 100 a0 (.pointer none) fun v0 =>
 rIf v0 (K (.int .i64 (.ofNat 2)) σ) (rNil PP a0 fun v1 =>
 rFld 1 v1 fun v2 =>
 rLd v2 σ fun v3 σ =>
 K v3 σ)
theorem f_wire_Reader_Wrong (x : EV) (a0 : Value) (σ : St) (K : VK) : fnX PP tbS c_wire_Reader_Wrong (x.E PP) [a0] σ K = r_wire_Reader_Wrong x a0 σ K := by kernel_rfl

/-! consistory/wire.Open -/
noncomputable def r_wire_Open (x : EV) (a0 : Value) (σ : St) (K : VK) : Bool :=
 rBuild [zS, zI] [(0, 1, a0)] fun v0 =>
 boxK 168 v0 σ fun v1 σ =>
 K v1 σ
theorem f_wire_Open (x : EV) (a0 : Value) (σ : St) (K : VK) : fnX PP tbS c_wire_Open (x.E PP) [a0] σ K = r_wire_Open x a0 σ K := by kernel_rfl

/-! (*consistory/wire.Reader).End -/
noncomputable def r_wire_Reader_End (x : EV) (a0 : Value) (σ : St) (K : VK) : Bool :=
 x.C c_wire_read_bool [a0, (.func (.func c_wire_Reader_End_1) #[] #[])] σ fun v0 σ =>
 rExt 0 v0 fun v1 =>
 rExt 1 v0 fun v2 =>
 K v2 σ
theorem f_wire_Reader_End (x : EV) (a0 : Value) (σ : St) (K : VK) : fnX PP tbS c_wire_Reader_End (x.E PP) [a0] σ K = r_wire_Reader_End x a0 σ K := by kernel_rfl

/-! consistory/save.Decode -/
noncomputable def r_save_Decode (x : EV) (a0 : Value) (σ : St) (K : VK) : Bool :=
 rAlloc [zI, zL, zI, zS, zF, zI, zI, zI, zI, zI, zI, zI, zS, zS, zI, zI, zF, zF, zS, zL, zL, zL, zL, zL, zL, zF, zL, zL, zL, zL] 34 σ fun v0 σ =>
 x.C c_wire_Open [a0] σ fun v1 σ =>
 rBuild [(.pointer none)] [(0, 1, v1)] fun v2 =>
 rAlloc [(.pointer none)] 103 σ fun v3 σ =>
 rSt 1 v3 v2 σ fun σ =>
 rAlloc [zI, zL, zI, zS, zF, zI, zI, zI, zI, zI, zI, zI, zS, zS, zI, zI, zF, zF, zS, zL, zL, zL, zL, zL, zL, zF, zL, zL, zL, zL] 34 σ fun v4 σ =>
 rLdN 1 v3 σ fun v5 σ =>
 x.C c_save_all [(.iface 103 v5), v4] σ fun v6 σ =>
 rFld 0 v3 fun v7 =>
 rLd v7 σ fun v8 σ =>
 x.C c_wire_Reader_End [v8] σ fun v9 σ =>
 rBin PP .neq 37 v9 zI fun v10 =>
 rIf v10 (rBuild [zI, zL, zI, zS, zF, zI, zI, zI, zI, zI, zI, zI, zS, zS, zI, zI, zF, zF, zS, zL, zL, zL, zL, zL, zL, zF, zL, zL, zL, zL] [] fun v11 =>
 rSt 30 v0 v11 σ fun σ =>
 rLdN 30 v0 σ fun v12 _ =>
 K (.tuple ⟨[v12, v9]⟩) σ) (rLdN 30 v4 σ fun v13 σ =>
 rSt 30 v0 v13 σ fun σ =>
 rLdN 30 v0 σ fun v14 _ =>
 K (.tuple ⟨[v14, zI]⟩) σ)
theorem f_save_Decode (x : EV) (a0 : Value) (σ : St) (K : VK) : fnX PP tbS c_save_Decode (x.E PP) [a0] σ K = r_save_Decode x a0 σ K := by kernel_rfl

end Go.Am

set_option linter.unusedVariables false
set_option maxRecDepth 100000
namespace Go.Am

/-! consistory/consistorylaw25.large -/
noncomputable def l_law25_large_rrlrd (x : EV) (m : Nat) (t1 t3 t4 : Value) (σ : St) (K : VK) : Bool := jmpL PP tbS c_law25_large (x.E PP) [.r, .r, .l, .r, .d] m [] [t1, t3, t4] σ K
noncomputable def l_law25_large_rrrrrlrd (x : EV) (m : Nat) (t1 t3 t5 t6 : Value) (σ : St) (K : VK) : Bool := jmpL PP tbS c_law25_large (x.E PP) [.r, .r, .r, .r, .r, .l, .r, .d] m [] [t1, t3, t5, t6] σ K
noncomputable def l_law25_large_rrrrrrlrd (x : EV) (m : Nat) (t1 t3 t7 : Value) (σ : St) (K : VK) : Bool := jmpL PP tbS c_law25_large (x.E PP) [.r, .r, .r, .r, .r, .r, .l, .r, .d] m [] [t1, t3, t7] σ K
noncomputable def r_law25_large (x : EV) (a0 : Value) (σ : St) (K : VK) : Bool :=
 boxK 34 a0 σ fun v0 σ =>
 rFld 1 v0 fun v1 =>
 rLd v1 σ fun v2 σ =>
 rFld 22 v0 fun v3 =>
 rLd v3 σ fun v4 σ =>
 rFld 23 v0 fun v5 =>
 rLd v5 σ fun v6 σ =>
 rLenS v6 fun v7 =>
 rBin PP .mul 3 (.int .i64 (.ofNat 2)) v7 fun v8 =>
 rFld 24 v0 fun v9 =>
 rLd v9 σ fun v10 σ =>
 rLenS v10 fun v11 =>
 rBin PP .mul 3 (.int .i64 (.ofNat 2)) v11 fun v12 =>
 rFld 26 v0 fun v13 =>
 rLd v13 σ fun v14 σ =>
 rFld 29 v0 fun v15 =>
 rLd v15 σ fun v16 σ =>
 rFld 28 v0 fun v17 =>
 rLd v17 σ fun v18 σ =>
 rFld 2 v0 fun v19 =>
 rFld 19 v19 fun v20 =>
 rLd v20 σ fun v21 σ =>
 x.C c_law25_sizeTexts [v2] σ fun v22 σ =>
 rLd v20 σ fun v23 σ =>
 rSame v23 v21 (rLd v17 σ fun v24 σ =>
 rSame v24 v18 (rLd v15 σ fun v25 σ =>
 rSame v25 v16 (rLd v13 σ fun v26 σ =>
 rSame v26 v14 (rLd v9 σ fun v27 σ =>
 rSame v27 v10 (rLd v5 σ fun v28 σ =>
 rSame v28 v6 (rLd v3 σ fun v29 σ =>
 rSame v29 v4 (x.C c_law25_sizeTexts [v4] σ fun v30 σ =>
 rLd v20 σ fun v31 σ =>
 rSame v31 v21 (rLd v17 σ fun v32 σ =>
 rSame v32 v18 (rLd v15 σ fun v33 σ =>
 rSame v33 v16 (rLd v13 σ fun v34 σ =>
 rSame v34 v14 (rLd v9 σ fun v35 σ =>
 rSame v35 v10 (rLd v5 σ fun v36 σ =>
 rSame v36 v6 (rBin PP .add 3 v22 v30 fun v37 =>
 rBin PP .add 3 v37 v8 fun v38 =>
 rBin PP .add 3 v38 v12 fun v39 =>
 x.C c_law25_sizeDealt [v14] σ fun v40 σ =>
 rLd v20 σ fun v41 σ =>
 rSame v41 v21 (rLd v17 σ fun v42 σ =>
 rSame v42 v18 (rLd v15 σ fun v43 σ =>
 rSame v43 v16 (rLd v9 σ fun v44 σ =>
 rSame v44 v10 (rLd v5 σ fun v45 σ =>
 rSame v45 v6 (rBin PP .add 3 v39 v40 fun v46 =>
 x.C c_law25_sizeDealt [v16] σ fun v47 σ =>
 rLd v20 σ fun v48 σ =>
 rSame v48 v21 (rLd v17 σ fun v49 σ =>
 rSame v49 v18 (rLd v9 σ fun v50 σ =>
 rSame v50 v10 (rLd v5 σ fun v51 σ =>
 rSame v51 v6 (rBin PP .add 3 v46 v47 fun v52 =>
 x.C c_law25_sizeMsgs [v18] σ fun v53 σ =>
 rLd v20 σ fun v54 σ =>
 rSame v54 v21 (rLd v9 σ fun v55 σ =>
 rSame v55 v10 (rLd v5 σ fun v56 σ =>
 rSame v56 v6 (rBin PP .add 3 v52 v53 fun v57 =>
 x.C c_law25_sizeMsgs [v21] σ fun v58 σ =>
 rLd v9 σ fun v59 σ =>
 rSame v59 v10 (rLd v5 σ fun v60 σ =>
 rSame v60 v6 (rBin PP .add 3 v57 v58 fun v61 =>
 l_law25_large_rrlrd x x.most v0 v61 zI σ K)))))))))))))))))))))))))))
theorem f_law25_large (x : EV) (a0 : Value) (σ : St) (K : VK) : fnX PP tbS c_law25_large (x.E PP) [a0] σ K = r_law25_large x a0 σ K := by kernel_rfl
noncomputable def l_law25_large_rrlrdB (x : EV) (m0 : Nat) (t1 t3 t4 : Value) (σ : St) (K : VK) : Bool :=
 rFld 27 t1 fun v0 =>
 rLd v0 σ fun v1 σ =>
 rLenS v1 fun v2 =>
 rBin PP .lss 3 t4 v2 fun v3 =>
 shut x.most (rGuard true v3 (fun k => k t3 σ) σ fun v4 σ =>
 shut x.most (rGuard true v3 (fun k => rBin PP .lss 3 v4 (.int .i64 (.ofNat 9000)) fun v5 =>
 k v5 σ) σ fun v6 σ =>
 shut x.most (rPick v3 v6 zF fun v7 =>
 rIf v7 (rBin PP .add 3 t3 (.int .i64 (.ofNat 3)) fun v8 =>
 rFld 27 t1 fun v9 =>
 rLd v9 σ fun v10 σ =>
 rIdx 3 v10 t4 fun v11 =>
 rFld 2 v11 fun v12 =>
 rLd v12 σ fun v13 σ =>
 rLenS v13 fun v14 =>
 rBin PP .add 3 v8 v14 fun v15 =>
 rBin PP .add 3 t4 (.int .i64 (.ofNat 1)) fun v16 =>
 l_law25_large_rrlrd x m0 t1 v15 v16 σ K) (rFld 2 t1 fun v17 =>
 rFld 3 v17 fun v18 =>
 rLdN 15 v18 σ fun v19 σ =>
 rAlloc [zI, zI, zI, zI, zI, zI, zI, zS, zS, zI, zI, zF, zF, zS, zL] 25 σ fun v20 σ =>
 rSt 15 v20 v19 σ fun σ =>
 rFld 2 t1 fun v21 =>
 rFld 1 v21 fun v22 =>
 rLd v22 σ fun v23 σ =>
 rLenT v23 fun v24 =>
 rFld 7 v20 fun v25 =>
 rLd v25 σ fun v26 σ =>
 rLenT v26 fun v27 =>
 rBin PP .add 3 v24 v27 fun v28 =>
 rFld 8 v20 fun v29 =>
 rLd v29 σ fun v30 σ =>
 rLenT v30 fun v31 =>
 rBin PP .add 3 v28 v31 fun v32 =>
 rFld 13 v20 fun v33 =>
 rLd v33 σ fun v34 σ =>
 rLenT v34 fun v35 =>
 rBin PP .add 3 v32 v35 fun v36 =>
 rBin PP .quo 3 v36 (.int .i64 (.ofNat 8)) fun v37 =>
 rBin PP .add 3 t3 v37 fun v38 =>
 l_law25_large_rrrrrlrd x x.most t1 v38 v20 zI σ K))))
theorem l_law25_large_rrlrdE (x : EV) (m0 : Nat) (t1 t3 t4 : Value) (σ : St) (K : VK) : l_law25_large_rrlrd x (m0 + 1) t1 t3 t4 σ K = l_law25_large_rrlrdB x m0 t1 t3 t4 σ K := by kernel_rfl
noncomputable def l_law25_large_rrrrrlrdB (x : EV) (m0 : Nat) (t1 t3 t5 t6 : Value) (σ : St) (K : VK) : Bool :=
 rFld 14 t5 fun v0 =>
 rLd v0 σ fun v1 σ =>
 rLenS v1 fun v2 =>
 rBin PP .lss 3 t6 v2 fun v3 =>
 shut x.most (rGuard true v3 (fun k => k t3 σ) σ fun v4 σ =>
 shut x.most (rGuard true v3 (fun k => rBin PP .lss 3 v4 (.int .i64 (.ofNat 9000)) fun v5 =>
 k v5 σ) σ fun v6 σ =>
 shut x.most (rPick v3 v6 zF fun v7 =>
 rIf v7 (rBin PP .add 3 t3 (.int .i64 (.ofNat 4)) fun v8 =>
 rFld 14 t5 fun v9 =>
 rLd v9 σ fun v10 σ =>
 rIdx 5 v10 t6 fun v11 =>
 rFld 4 v11 fun v12 =>
 rLd v12 σ fun v13 σ =>
 rLenT v13 fun v14 =>
 rBin PP .quo 3 v14 (.int .i64 (.ofNat 8)) fun v15 =>
 rBin PP .add 3 v8 v15 fun v16 =>
 rBin PP .add 3 t6 (.int .i64 (.ofNat 1)) fun v17 =>
 l_law25_large_rrrrrlrd x m0 t1 v16 t5 v17 σ K) (l_law25_large_rrrrrrlrd x x.most t1 t3 zI σ K))))
theorem l_law25_large_rrrrrlrdE (x : EV) (m0 : Nat) (t1 t3 t5 t6 : Value) (σ : St) (K : VK) : l_law25_large_rrrrrlrd x (m0 + 1) t1 t3 t5 t6 σ K = l_law25_large_rrrrrlrdB x m0 t1 t3 t5 t6 σ K := by kernel_rfl
noncomputable def l_law25_large_rrrrrrlrdB (x : EV) (m0 : Nat) (t1 t3 t7 : Value) (σ : St) (K : VK) : Bool :=
 rFld 2 t1 fun v0 =>
 rFld 18 v0 fun v1 =>
 rLd v1 σ fun v2 σ =>
 rLenS v2 fun v3 =>
 rBin PP .lss 3 t7 v3 fun v4 =>
 shut x.most (rGuard true v4 (fun k => k t3 σ) σ fun v5 σ =>
 shut x.most (rGuard true v4 (fun k => rBin PP .lss 3 v5 (.int .i64 (.ofNat 9000)) fun v6 =>
 k v6 σ) σ fun v7 σ =>
 shut x.most (rPick v4 v7 zF fun v8 =>
 rIf v8 (rBin PP .add 3 t3 (.int .i64 (.ofNat 2)) fun v9 =>
 rFld 2 t1 fun v10 =>
 rFld 18 v10 fun v11 =>
 rLd v11 σ fun v12 σ =>
 rIdx 2 v12 t7 fun v13 =>
 rFld 1 v13 fun v14 =>
 rLd v14 σ fun v15 σ =>
 rLenT v15 fun v16 =>
 rBin PP .quo 3 v16 (.int .i64 (.ofNat 8)) fun v17 =>
 rBin PP .add 3 v9 v17 fun v18 =>
 rBin PP .add 3 t7 (.int .i64 (.ofNat 1)) fun v19 =>
 l_law25_large_rrrrrrlrd x m0 t1 v18 v19 σ K) (rBin PP .geq 3 t3 (.int .i64 (.ofNat 9000)) fun v20 =>
 K v20 σ))))
theorem l_law25_large_rrrrrrlrdE (x : EV) (m0 : Nat) (t1 t3 t7 : Value) (σ : St) (K : VK) : l_law25_large_rrrrrrlrd x (m0 + 1) t1 t3 t7 σ K = l_law25_large_rrrrrrlrdB x m0 t1 t3 t7 σ K := by kernel_rfl

/-! consistory/consistorylaw25.sizeTexts -/
noncomputable def l_law25_sizeTexts_rrlrd (x : EV) (m : Nat) (t0 t3 t4 : Value) (σ : St) (K : VK) : Bool := jmpL PP tbS c_law25_sizeTexts (x.E PP) [.r, .r, .l, .r, .d] m [] [t0, t3, t4] σ K
noncomputable def r_law25_sizeTexts (x : EV) (a0 : Value) (σ : St) (K : VK) : Bool :=
 l_law25_sizeTexts_rrlrd x x.most a0 zI zI σ K
theorem f_law25_sizeTexts (x : EV) (a0 : Value) (σ : St) (K : VK) : fnX PP tbS c_law25_sizeTexts (x.E PP) [a0] σ K = r_law25_sizeTexts x a0 σ K := by kernel_rfl
noncomputable def l_law25_sizeTexts_rrlrdB (x : EV) (m0 : Nat) (t0 t3 t4 : Value) (σ : St) (K : VK) : Bool :=
 rLenS t0 fun v0 =>
 rBin PP .lss 3 t4 v0 fun v1 =>
 shut x.most (rGuard true v1 (fun k => k t3 σ) σ fun v2 σ =>
 shut x.most (rGuard true v1 (fun k => rBin PP .lss 3 v2 (.int .i64 (.ofNat 9000)) fun v3 =>
 k v3 σ) σ fun v4 σ =>
 shut x.most (rPick v1 v4 zF fun v5 =>
 rIf v5 (rBin PP .add 3 t3 (.int .i64 (.ofNat 1)) fun v6 =>
 rIdx 1 t0 t4 fun v7 =>
 rLd v7 σ fun v8 σ =>
 rLenT v8 fun v9 =>
 rBin PP .quo 3 v9 (.int .i64 (.ofNat 8)) fun v10 =>
 rBin PP .add 3 v6 v10 fun v11 =>
 rBin PP .add 3 t4 (.int .i64 (.ofNat 1)) fun v12 =>
 l_law25_sizeTexts_rrlrd x m0 t0 v11 v12 σ K) (K t3 σ))))
theorem l_law25_sizeTexts_rrlrdE (x : EV) (m0 : Nat) (t0 t3 t4 : Value) (σ : St) (K : VK) : l_law25_sizeTexts_rrlrd x (m0 + 1) t0 t3 t4 σ K = l_law25_sizeTexts_rrlrdB x m0 t0 t3 t4 σ K := by kernel_rfl

/-! consistory/consistorylaw25.sizeDealt -/
noncomputable def l_law25_sizeDealt_rrlrd (x : EV) (m : Nat) (t0 t3 t4 : Value) (σ : St) (K : VK) : Bool := jmpL PP tbS c_law25_sizeDealt (x.E PP) [.r, .r, .l, .r, .d] m [] [t0, t3, t4] σ K
noncomputable def l_law25_sizeDealt_rrlrddrldrrd (x : EV) (m : Nat) (m0 : Nat) (t0 t3 t4 t5 : Value) (σ : St) (K : VK) : Bool := jmpL PP tbS c_law25_sizeDealt (x.E PP) [.r, .r, .l, .r, .d, .d, .r, .l, .d, .r, .r, .d] m [m0] [t0, t3, t4, t5] σ K
noncomputable def r_law25_sizeDealt (x : EV) (a0 : Value) (σ : St) (K : VK) : Bool :=
 l_law25_sizeDealt_rrlrd x x.most a0 zI zI σ K
theorem f_law25_sizeDealt (x : EV) (a0 : Value) (σ : St) (K : VK) : fnX PP tbS c_law25_sizeDealt (x.E PP) [a0] σ K = r_law25_sizeDealt x a0 σ K := by kernel_rfl
noncomputable def l_law25_sizeDealt_rrlrdB (x : EV) (m0 : Nat) (t0 t3 t4 : Value) (σ : St) (K : VK) : Bool :=
 rLenS t0 fun v0 =>
 rBin PP .lss 3 t4 v0 fun v1 =>
 shut x.most (rGuard true v1 (fun k => k t3 σ) σ fun v2 σ =>
 shut x.most (rGuard true v1 (fun k => rBin PP .lss 3 v2 (.int .i64 (.ofNat 9000)) fun v3 =>
 k v3 σ) σ fun v4 σ =>
 shut x.most (rPick v1 v4 zF fun v5 =>
 rIf v5 (rBin PP .add 3 t3 (.int .i64 (.ofNat 9)) fun v6 =>
 rIdx 8 t0 t4 fun v7 =>
 rFld 3 v7 fun v8 =>
 rLd v8 σ fun v9 σ =>
 rLenS v9 fun v10 =>
 rBin PP .add 3 v6 v10 fun v11 =>
 rIdx 8 t0 t4 fun v12 =>
 rFld 6 v12 fun v13 =>
 rLd v13 σ fun v14 σ =>
 rLenS v14 fun v15 =>
 rBin PP .add 3 v11 v15 fun v16 =>
 rIdx 8 t0 t4 fun v17 =>
 rFld 4 v17 fun v18 =>
 rLd v18 σ fun v19 σ =>
 rIdx 8 t0 t4 fun v20 =>
 rFld 5 v20 fun v21 =>
 rLd v21 σ fun v22 σ =>
 x.C c_law25_sizeTold [v19] σ fun v23 σ =>
 rLd v21 σ fun v24 σ =>
 rSame v24 v22 (rLd v13 σ fun v25 σ =>
 rSame v25 v14 (rLd v8 σ fun v26 σ =>
 rSame v26 v9 (rBin PP .add 3 v16 v23 fun v27 =>
 x.C c_law25_sizeTold [v22] σ fun v28 σ =>
 rLd v13 σ fun v29 σ =>
 rSame v29 v14 (rLd v8 σ fun v30 σ =>
 rSame v30 v9 (rBin PP .add 3 v27 v28 fun v31 =>
 l_law25_sizeDealt_rrlrddrldrrd x x.most m0 t0 v31 t4 zI σ K)))))) (K t3 σ))))
theorem l_law25_sizeDealt_rrlrdE (x : EV) (m0 : Nat) (t0 t3 t4 : Value) (σ : St) (K : VK) : l_law25_sizeDealt_rrlrd x (m0 + 1) t0 t3 t4 σ K = l_law25_sizeDealt_rrlrdB x m0 t0 t3 t4 σ K := by kernel_rfl
noncomputable def l_law25_sizeDealt_rrlrddrldrrdB (x : EV) (m1 : Nat) (m0 : Nat) (t0 t3 t4 t5 : Value) (σ : St) (K : VK) : Bool :=
 rIdx 8 t0 t4 fun v0 =>
 rFld 2 v0 fun v1 =>
 rLd v1 σ fun v2 σ =>
 rLenS v2 fun v3 =>
 rBin PP .lss 3 t5 v3 fun v4 =>
 shut x.most (rGuard true v4 (fun k => k t3 σ) σ fun v5 σ =>
 shut x.most (rGuard true v4 (fun k => rBin PP .lss 3 v5 (.int .i64 (.ofNat 9000)) fun v6 =>
 k v6 σ) σ fun v7 σ =>
 shut x.most (rPick v4 v7 zF fun v8 =>
 rIf v8 (rBin PP .add 3 t3 (.int .i64 (.ofNat 1)) fun v9 =>
 rIdx 8 t0 t4 fun v10 =>
 rFld 2 v10 fun v11 =>
 rLd v11 σ fun v12 σ =>
 rIdx 1 v12 t5 fun v13 =>
 rLd v13 σ fun v14 σ =>
 rLenS v14 fun v15 =>
 rBin PP .add 3 v9 v15 fun v16 =>
 rBin PP .add 3 t5 (.int .i64 (.ofNat 1)) fun v17 =>
 l_law25_sizeDealt_rrlrddrldrrd x m1 m0 t0 v16 t4 v17 σ K) (rBin PP .add 3 t4 (.int .i64 (.ofNat 1)) fun v18 =>
 l_law25_sizeDealt_rrlrd x m0 t0 t3 v18 σ K))))
theorem l_law25_sizeDealt_rrlrddrldrrdE (x : EV) (m1 : Nat) (m0 : Nat) (t0 t3 t4 t5 : Value) (σ : St) (K : VK) : l_law25_sizeDealt_rrlrddrldrrd x (m1 + 1) m0 t0 t3 t4 t5 σ K = l_law25_sizeDealt_rrlrddrldrrdB x m1 m0 t0 t3 t4 t5 σ K := by kernel_rfl

/-! consistory/consistorylaw25.sizeMsgs -/
noncomputable def l_law25_sizeMsgs_rrlrd (x : EV) (m : Nat) (t0 t3 t4 : Value) (σ : St) (K : VK) : Bool := jmpL PP tbS c_law25_sizeMsgs (x.E PP) [.r, .r, .l, .r, .d] m [] [t0, t3, t4] σ K
noncomputable def r_law25_sizeMsgs (x : EV) (a0 : Value) (σ : St) (K : VK) : Bool :=
 l_law25_sizeMsgs_rrlrd x x.most a0 zI zI σ K
theorem f_law25_sizeMsgs (x : EV) (a0 : Value) (σ : St) (K : VK) : fnX PP tbS c_law25_sizeMsgs (x.E PP) [a0] σ K = r_law25_sizeMsgs x a0 σ K := by kernel_rfl
noncomputable def l_law25_sizeMsgs_rrlrdB (x : EV) (m0 : Nat) (t0 t3 t4 : Value) (σ : St) (K : VK) : Bool :=
 rLenS t0 fun v0 =>
 rBin PP .lss 3 t4 v0 fun v1 =>
 shut x.most (rGuard true v1 (fun k => k t3 σ) σ fun v2 σ =>
 shut x.most (rGuard true v1 (fun k => rBin PP .lss 3 v2 (.int .i64 (.ofNat 9000)) fun v3 =>
 k v3 σ) σ fun v4 σ =>
 shut x.most (rPick v1 v4 zF fun v5 =>
 rIf v5 (rBin PP .add 3 t3 (.int .i64 (.ofNat 10)) fun v6 =>
 rIdx 11 t0 t4 fun v7 =>
 rFld 10 v7 fun v8 =>
 rLd v8 σ fun v9 σ =>
 rLenS v9 fun v10 =>
 rBin PP .add 3 v6 v10 fun v11 =>
 rIdx 11 t0 t4 fun v12 =>
 rFld 9 v12 fun v13 =>
 rLd v13 σ fun v14 σ =>
 rLenT v14 fun v15 =>
 rBin PP .quo 3 v15 (.int .i64 (.ofNat 8)) fun v16 =>
 rBin PP .add 3 v11 v16 fun v17 =>
 rBin PP .add 3 t4 (.int .i64 (.ofNat 1)) fun v18 =>
 l_law25_sizeMsgs_rrlrd x m0 t0 v17 v18 σ K) (K t3 σ))))
theorem l_law25_sizeMsgs_rrlrdE (x : EV) (m0 : Nat) (t0 t3 t4 : Value) (σ : St) (K : VK) : l_law25_sizeMsgs_rrlrd x (m0 + 1) t0 t3 t4 σ K = l_law25_sizeMsgs_rrlrdB x m0 t0 t3 t4 σ K := by kernel_rfl

/-! consistory/consistorylaw25.sizeTold -/
noncomputable def l_law25_sizeTold_rrlrd (x : EV) (m : Nat) (t0 t3 t4 : Value) (σ : St) (K : VK) : Bool := jmpL PP tbS c_law25_sizeTold (x.E PP) [.r, .r, .l, .r, .d] m [] [t0, t3, t4] σ K
noncomputable def r_law25_sizeTold (x : EV) (a0 : Value) (σ : St) (K : VK) : Bool :=
 l_law25_sizeTold_rrlrd x x.most a0 zI zI σ K
theorem f_law25_sizeTold (x : EV) (a0 : Value) (σ : St) (K : VK) : fnX PP tbS c_law25_sizeTold (x.E PP) [a0] σ K = r_law25_sizeTold x a0 σ K := by kernel_rfl
noncomputable def l_law25_sizeTold_rrlrdB (x : EV) (m0 : Nat) (t0 t3 t4 : Value) (σ : St) (K : VK) : Bool :=
 rLenS t0 fun v0 =>
 rBin PP .lss 3 t4 v0 fun v1 =>
 shut x.most (rGuard true v1 (fun k => k t3 σ) σ fun v2 σ =>
 shut x.most (rGuard true v1 (fun k => rBin PP .lss 3 v2 (.int .i64 (.ofNat 9000)) fun v3 =>
 k v3 σ) σ fun v4 σ =>
 shut x.most (rPick v1 v4 zF fun v5 =>
 rIf v5 (rBin PP .add 3 t3 (.int .i64 (.ofNat 3)) fun v6 =>
 rIdx 2 t0 t4 fun v7 =>
 rFld 1 v7 fun v8 =>
 rLd v8 σ fun v9 σ =>
 rLenS v9 fun v10 =>
 rBin PP .add 3 v6 v10 fun v11 =>
 rBin PP .add 3 t4 (.int .i64 (.ofNat 1)) fun v12 =>
 l_law25_sizeTold_rrlrd x m0 t0 v11 v12 σ K) (K t3 σ))))
theorem l_law25_sizeTold_rrlrdE (x : EV) (m0 : Nat) (t0 t3 t4 : Value) (σ : St) (K : VK) : l_law25_sizeTold_rrlrd x (m0 + 1) t0 t3 t4 σ K = l_law25_sizeTold_rrlrdB x m0 t0 t3 t4 σ K := by kernel_rfl

end Go.Am



namespace Go.Proofs.Bld
open Go Go.RowKit Go.Proofs

theorem noEsc : ∀ (args : Array Value) (w : World), (callFunc 138 args).run Tryz.prog w = ((Extern.AbiNoEscape.same args).run Tryz.prog w).andThen fun v w' => .ok (.value v) w' :=
 fun args w => run_callFunc_extern Tryz.func138 (by kernel_rfl) (by kernel_rfl) (by kernel_rfl) (e := Extern.AbiNoEscape.same) (by kernel_rfl) args w
theorem infoB : ∃ j, Tryz.prog.info? 94 = some j ∧ j.size = 2 := by
 have h : (Tryz.prog.info? 94).map (·.size) = some 2 := by kernel_rfl
 obtain ⟨j, hj, hs⟩ := Option.map_eq_some_iff.1 h
 exact ⟨j, hj, hs⟩

set_option maxHeartbeats 1000000 in
set_option maxRecDepth 100000 in
theorem cc_used (b o : Nat) (w : World) (h0 : w.cell? ⟨b, o, none⟩ = some (.pointer (some ⟨b, o, none⟩))) :
 Calls Tryz.prog 136 #[.pointer (some ⟨b, o, none⟩)] w fun e w' => e = .returned (.tuple #[]) ∧ w' = w := by
 obtain ⟨j, hj, _⟩ := infoB
 go_enter Tryz.func136, Tryz.ntmps136
 go_wp2
 rw [Lib.run_neq_ptr_same w _ Tryz.underlying91 hj]
 go_wp2
 go_end0
 exact ⟨rfl, rfl⟩

set_option maxHeartbeats 1000000 in
set_option maxRecDepth 100000 in
theorem cc_fresh (b o : Nat) (T : TypeId) (cells : Nat) (w : World) (h0 : w.cell? ⟨b, o, none⟩ = some (.pointer none)) (hsh : w.shape? b = some (T, cells)) (hoff : o < cells)
 (hl : liesAt Tryz.prog Tryz.prog.depth T (cells / Tryz.prog.cellsOf T) o 94 1 = true) (hfz : w.frozen? ⟨b, o, none⟩ = false) :
 Calls Tryz.prog 136 #[.pointer (some ⟨b, o, none⟩)] w fun e w' => e = .returned (.tuple #[]) ∧ w' = w.setCell ⟨b, o, none⟩ (.pointer (some ⟨b, o, none⟩)) := by
 obtain ⟨j, hj, hjs⟩ := infoB
 go_enter Tryz.func136, Tryz.ntmps136
 go_wp2
 rw [Lib.run_to_unsafe w ⟨b, o, none⟩ Tryz.underlying91 Tryz.underlying255 hj (by rw [hjs]; decide) hsh hoff]
 simp only [Result.andThen]
 rw [Oper.upon_value]
 go_wp2
 rw [noEsc]
 rw [Lib.run_noEscape]
 simp only [Result.andThen]
 rw [Oper.upon_value]
 go_wp2
 rw [Lib.run_from_unsafe w ⟨b, o, none⟩ Tryz.underlying255 Tryz.underlying91 hj hsh hl]
 simp only [Result.andThen]
 rw [Oper.upon_value]
 go_wp2
 go_end0
 exact ⟨rfl, rfl⟩
end Go.Proofs.Bld

namespace Go.Proofs.Bld
open Go Go.RowKit Go.Proofs
theorem liesAt_bytes_off {P : Program} {e : TypeId} (hc : P.cellsOf e = 1) (count off n : Nat) (hn : off + n ≤ count) : liesAt P P.depth e count off e n = true := by
 have hd : P.depth = (2 * (P.types.size + Made.depth) + 1) + 1 := rfl
 rw [hd]
 simp only [liesAt, Bool.or_eq_true]
 left
 rw [hd]
 simp [rowAt, hc, hn, sameLayout, Nat.mod_one]
theorem run_unsafeString_off {P : Program} (w : World) (pt it ty e : TypeId) (hp : P.underlying pt = some (.pointer e)) (hc : P.cellsOf e = 1) (g o cells : Nat) (hsh : w.shape? g = some (e, cells)) (l : List UInt8) (h0 : l ≠ []) (hn : o + l.length ≤ cells) (h63 : l.length ≤ 9223372036854775807)
 (hcell : ∀ (j : Nat) (x : UInt8), l[j]? = some x → w.cell? ((⟨g, o, none⟩ : Addr).add j) = some (.int .u8 x.toNat)) :
 (Builtin.unsafeString_ #[pt, it] ty #[.pointer (some ⟨g, o, none⟩), .int .i64 l.length]).run P w = .ok (.string ⟨l.toArray⟩) (w.freeze ⟨g, o, none⟩ l.length) := by
 have hl : l.length ≠ 0 := by simpa using h0
 have hlb := Lib.run_loadBytes (P := P) w l ⟨g, o, none⟩ .empty hcell
 have hlies := liesAt_bytes_off (P := P) hc (cells / P.cellsOf e) o l.length (by rw [hc]; simpa using hn)
 have h63' : ¬ (9223372036854775807 : Int) < (l.length : Int) := by omega
 have hmax : IntKind.i64.max = 9223372036854775807 := rfl
 have hneg : ¬ ((l.length : Int) < 0) := by omega
 have he0 : ByteArray.empty.data = #[] := rfl
 rw [he0] at hlb
 change Sem.run P ((asInt (.int .i64 l.length)) >>= _) w = _
 simp [asInt, asIntOf, hmax, hneg, h63', h0, variablesAt, hsh, elemOf, run_underlying hp, hlies, hlb]

theorem mixed : Tryz.prog.follows .mixedOrders = true := by kernel_rfl
set_option maxHeartbeats 2000000 in
set_option maxRecDepth 100000 in
theorem str_some (b o g p cap cells : Nat) (l : List UInt8) (w : World) (h1 : w.cell? ⟨b, o + 1, none⟩ = some (.slice (some ⟨g, p, none⟩) l.length cap)) (h0 : l ≠ []) (hcap : cap ≠ 0) (hsh : w.shape? g = some (5, cells)) (hn : p + l.length ≤ cells) (h63 : l.length ≤ 9223372036854775807)
 (hcell : ∀ (j : Nat) (x : UInt8), l[j]? = some x → w.cell? ((⟨g, p, none⟩ : Addr).add j) = some (.int .u8 x.toNat)) :
 Calls Tryz.prog 30 #[.pointer (some ⟨b, o, none⟩)] w fun e w' => e = .returned (.string ⟨l.toArray⟩) ∧ w' = w.drew.freeze ⟨g, p, none⟩ l.length := by
 have c1 : w.drew.cell? ⟨b, o + 1, none⟩ = some (.slice (some ⟨g, p, none⟩) l.length cap) := h1
 have hSD : ∀ ts ty, (Builtin.unsafeSliceData_ ts ty #[.slice (some ⟨g, p, none⟩) l.length cap]).run Tryz.prog w.drew = .ok (.pointer (some ⟨g, p, none⟩)) w.drew := fun ts ty => Lib.run_unsafeSliceData_row _ _ _ _ _ _ hcap
 have hU8 : Tryz.prog.cellsOf 5 = 1 := by kernel_rfl
 have hUS : ∀ it ty, (Builtin.unsafeString_ #[166, it] ty #[.pointer (some ⟨g, p, none⟩), .int .i64 l.length]).run Tryz.prog w.drew = .ok (.string ⟨l.toArray⟩) (w.drew.freeze ⟨g, p, none⟩ l.length) := fun it ty =>
  run_unsafeString_off w.drew 166 it ty 5 Tryz.underlying166 hU8 g p cells hsh l h0 hn h63 hcell
 have mixed := mixed
 go_enter Tryz.func30, Tryz.ntmps30
 go_wp2
 go_region_o
 all_goals (go_wp2; go_ret; exact ⟨rfl, rfl⟩)
set_option maxHeartbeats 2000000 in
set_option maxRecDepth 100000 in
theorem str_nil (b o c : Nat) (w : World) (h1 : w.cell? ⟨b, o + 1, none⟩ = some (.slice none 0 c)) :
 Calls Tryz.prog 30 #[.pointer (some ⟨b, o, none⟩)] w fun e w' => e = .returned (.string ⟨#[]⟩) ∧ w' = w.drew := by
 have c1 : w.drew.cell? ⟨b, o + 1, none⟩ = some (.slice none 0 c) := h1
 have hSD : ∀ ts ty, (Builtin.unsafeSliceData_ ts ty #[.slice none 0 c]).run Tryz.prog w.drew = .ok (.pointer none) w.drew := fun ts ty => rfl
 have hUS : ∀ pt it ty, (Builtin.unsafeString_ #[pt, it] ty #[.pointer none, .int .i64 0]).run Tryz.prog w.drew = .ok (.string .empty) w.drew := fun pt it ty => Lib.run_unsafeString_none _ _ _ _ _
 have mixed := mixed
 go_enter Tryz.func30, Tryz.ntmps30
 go_wp2
 go_region_o
 all_goals (go_wp2; go_ret; exact ⟨rfl, rfl⟩)
end Go.Proofs.Bld

namespace Go.Am
open Go.RowKit Go.MapKept Go.Proofs Go.Proofs.Bld
noncomputable def ovCC (args : List Value) (σ : St) (K : VK) : Bool :=
 match args with
 | [.pointer (some ⟨i, o, none⟩)] => cellsK σ i fun vs e ck => nthK vs o fun v => match v with
  | .pointer none => match ck with
   | .exact => lenK vs fun m => match liesAt Tryz.prog Tryz.prog.depth e (Nat.div m (Tryz.prog.cellsOf e)) o 94 1 with
    | true => writeK σ i o [.pointer (some ⟨i, o, none⟩)] fun σ => K (.tuple ⟨[]⟩) σ
    | false => false
   | _ => false
  | .pointer (some ⟨j, p, none⟩) => match Nat.beq i j, Nat.beq o p with
   | true, true => K (.tuple ⟨[]⟩) σ
   | _, _ => false
  | _ => false
 | _ => false
noncomputable def bytes8K (l : List Value) (k : List UInt8 → Bool) : Bool :=
 lrec (β := (List UInt8 → Bool) → Bool) (fun k => k []) (fun v _ ih k => match v with
  | .int .u8 (.ofNat n) => match Nat.blt n 256 with
   | true => ih fun t => k (UInt8.ofNat n :: t)
   | false => false
  | _ => false) l k
theorem bytes8K_true : ∀ {l : List Value} {k : List UInt8 → Bool}, bytes8K l k = true → ∃ bs : List UInt8, k bs = true ∧ l = bs.map (fun b => .int .u8 (b.toNat : Int)) := by
 intro l
 induction l with
 | nil => intro k hk; exact ⟨[], hk, rfl⟩
 | cons v l ih =>
  intro k hk
  unfold bytes8K at hk
  rw [lrec_cons] at hk
  split at hk
  · rename_i n
    split at hk
    · rename_i hn
      have hn : n < 256 := Nat.le_of_ble_eq_true hn
      obtain ⟨bs, h1, h2⟩ := ih (k := fun t => k (UInt8.ofNat n :: t)) hk
      refine ⟨UInt8.ofNat n :: bs, h1, ?_⟩
      rw [List.map_cons, ← h2]
      have : (UInt8.ofNat n).toNat = n := by rw [UInt8.toNat_ofNat']; omega
      rw [this]; rfl
    · cases hk
  · cases hk
noncomputable def ovStr (args : List Value) (σ : St) (K : VK) : Bool :=
 match args with
 | [.pointer (some ⟨i, o, none⟩)] => cellsK σ i fun vs _ _ => nthK vs (Nat.succ o) fun v => match v with
  | .slice none 0 _ => K (.string ⟨⟨[]⟩⟩) σ
  | .slice (some ⟨j, p, some 0⟩) (n + 1) _ => getK σ.h j fun ob => match ob with
   | .cells ws e (.grown _) => match Nat.beq e 5, Nat.ble (n + 1) 9223372036854775807 with
    | true, true => dropK p ws fun l => takeK (Nat.succ n) l fun l => bytes8K l fun bs => setK σ j (.cells ws e .ro) fun σ => K (.string ⟨⟨bs⟩⟩) σ
    | _, _ => false
   | _ => false
  | _ => false
 | _ => false
section
variable {w0 : World} {ρ : Rn} {σ : St} {w : World}
theorem nthK_true' {l : List Value} {i : Nat} {k : Value → Bool} (h : nthK l i k = true) : ∃ v, l[i]? = some v ∧ k v = true := by
 rw [nthK_eq] at h
 split at h
 · rename_i v hv; exact ⟨v, hv, h⟩
 · cases h
theorem one_arg {a : Value} {args' : List Value} (h : VRs ρ [a] args') : ∃ a', args' = [a'] ∧ VR ρ a a' := by
 obtain ⟨a', t, rfl, h1, h2⟩ := h.inv_cons
 cases h2.inv_nil
 exact ⟨a', rfl, h1⟩
theorem sizeB1 : sizeT Tryz.prog 5 = some 1 := by kernel_rfl
theorem ovCC_ok : CallOk Tryz.prog w0 (fun f' args σ K => match Nat.beq f' 136 with | true => ovCC args σ K | false => false) := by
 intro f' args σ K ρ w args' hk h ha
 dsimp only at hk
 split at hk
 · rename_i hf'
   obtain rfl : f' = 136 := by simpa using hf'
   refine ⟨enters_of Tryz.func136 (by kernel_rfl) rfl ⟨args'⟩, ?_⟩
   unfold ovCC at hk
   split at hk
   · rename_i i o
     obtain ⟨a', rfl, hv⟩ := one_arg ha
     obtain ⟨_, L, hL, rfl⟩ := hv.ptr_inv
     obtain ⟨vs, e, ck, ho, hk⟩ := cellsK_true hk
     obtain ⟨v, hvo, hk⟩ := nthK_true' hk
     obtain ⟨cs, t, fz, hb, hcv, hkind⟩ := h.cells ho hL
     obtain ⟨v', hv', hvr⟩ := hcv o v hvo
     have hcell : w.cell? ⟨L.b, L.s + o, none⟩ = some v' := cell_of hb hv'
     split at hk
     · cases hvr.of_flat rfl
       split at hk
       · obtain ⟨g1, g2, g3, g4, g5⟩ := hkind
         rw [lenK_eq] at hk
         split at hk
         · rename_i hl
           obtain ⟨σ', w', hk, r1, r2, hrun⟩ := writeK_sound h hk hL (VRs.cons (VR.ptr (o := o) hL) (.nil ρ)) (by intro v hv; simp at hv; subst hv; rfl)
           have hsh : w.shape? L.b = some (e, cs.size) := by simp [World.shape?, hb, g5]
           have hoff : L.s + o < cs.size := (Array.getElem?_eq_some_iff.1 hv').1
           have hfz : w.frozen? ⟨L.b, L.s + o, none⟩ = false := by
            have := g4 (L.s + o) hoff
            simp only [World.frozen?, hb]
            simpa using this
           have hset : (storeCells ⟨L.b, L.s + o, none⟩ [.pointer (some ⟨L.b, L.s + o, none⟩)]).run Tryz.prog w = .ok () (w.setCell ⟨L.b, L.s + o, none⟩ (.pointer (some ⟨L.b, L.s + o, none⟩))) := by
            simp only [storeCells, add_none, Nat.add_zero]
            rw [Sem.run_bind, run_store Tryz.prog w _ _ .plain rfl, hcell, hfz]
            rfl
           rw [hset] at hrun
           injection hrun with _ hrun
           subst hrun
           refine callsIn_wide.2 ((cc_fresh L.b (L.s + o) e cs.size w hcell hsh hoff ?_ hfz).mono ?_)
           · rw [g2, Nat.zero_add, g3]; exact hl
           · rintro e w' ⟨rfl, rfl⟩
             exact ⟨_, rfl, ρ, .tuple ⟨[]⟩, σ', hk, .mk_tuple (.nil ρ), r1, r2⟩
         · cases hk
       · cases hk
     · rename_i j p
       split at hk
       · rename_i h1 h2
         have h1 := Nat.eq_of_beq_eq_true h1
         have h2 := Nat.eq_of_beq_eq_true h2
         subst h1 h2
         obtain ⟨_, M, hM, rfl⟩ := hvr.ptr_inv
         rw [hL] at hM; injection hM with hM; subst hM
         refine callsIn_wide.2 ((cc_used L.b (L.s + o) w hcell).mono ?_)
         rintro e w' ⟨rfl, rfl⟩
         exact ⟨_, rfl, ρ, .tuple ⟨[]⟩, σ, hk, .mk_tuple (.nil ρ), h, .refl ρ _⟩
       · cases hk
     · cases hk
   · cases hk
 · cases hk
theorem Rel.freeze {P : Program} (h : Rel P w0 ρ σ w) {j : Nat} {L : Loc} (hL : ρ j = some L) {ws : List Value} {e : TypeId} {olds : List Nat} (ho : σ.obj j = some (.cells ws e (.grown olds))) {cs : Array Value} {t : TypeId} {fz : Nat × Nat} (hb : w.heap[L.b]? = some (.cells cs t fz))
 {w' : World} {fz' : Nat × Nat} (hw' : w'.heap[L.b]? = some (.cells cs t fz')) (hsz : w'.heap.size = w.heap.size) (hother : ∀ c, c ≠ L.b → w'.heap[c]? = w.heap[c]?) (hos : w'.os = w.os) (htape : w'.tape = w.tape) (hout : w'.output = w.output) :
 Rel P w0 ρ (σ.set j (.cells ws e .ro)) w' ∧ Stp ρ w ρ w' := by
 obtain ⟨cs1, t1, fz1, hb1, hcv, hkind⟩ := h.cells ho hL
 rw [hb] at hb1; injection hb1 with hb1; injection hb1 with q1 q2 q3; subst q1 q2 q3
 obtain ⟨g1, g2, g3, g4, g5⟩ := hkind
 have hset : ∀ i x, (σ.set j (.cells ws e .ro)).obj i = some x → (i = j ∧ x = .cells ws e .ro) ∨ (i ≠ j ∧ σ.obj i = some x) := fun i x hx => by
  rw [obj_set] at hx
  split at hx
  · rename_i e1; injection hx with hx; exact .inl ⟨e1, hx.symm⟩
  · rename_i e1; exact .inr ⟨e1, hx⟩
 -- others of the same block are elder ones
 have others : ∀ i x M, i ≠ j → σ.obj i = some x → x.isDead = false → ρ i = some M → M.b = L.b → ∃ us u, x = .cells us u .stale := by
  intro i x M hij hx hd hM hMb
  rcases h.sep j i _ x L M (Ne.symm hij) ho hx rfl hd hL hM hMb.symm with ⟨k1, _⟩ | k1 | k1
  · cases k1
  · obtain ⟨_, k2⟩ := h.old j ws e olds ho i k1
    rcases k2 x hx with k3 | ⟨us, u, k3, _⟩
    · rw [k3] at hd; cases hd
    · exact ⟨us, u, k3⟩
  · cases x with
    | cells us u kk =>
     cases kk with
     | grown l =>
      obtain ⟨_, k2⟩ := h.old i us u l hx j k1
      rcases k2 _ ho with k3 | ⟨_, _, k3, _⟩
      · cases k3
      · injection k3 with _ _ k3; cases k3
     | _ => cases k1
    | _ => cases k1
 refine h.upd (b := L.b) g1 ⟨j, L, hL, rfl⟩ rfl hsz hother hos htape hout (fun i x hx => ?_) (fun i k x y M N hik hx hy hdx hdy hM hN hMN => ?_) (fun i us u l hi q hq => ?_)
 · rcases hset i x hx with ⟨rfl, rfl⟩ | ⟨hij, hx⟩
   · exact .inr (.inr ⟨h.lt _ _ ho, L, cs, t, fz', hL, hw', hcv, g4⟩)
   · cases hd : x.isDead with
     | true => exact .inl ⟨rfl, h.lt _ _ hx⟩
     | false =>
      obtain ⟨M, hM⟩ := (h.objs i x hx).loc hd
      by_cases hMb : M.b = L.b
      · obtain ⟨us, u, rfl⟩ := others i x M hij hx hd hM hMb
        obtain ⟨M', cs2, t2, fz2, k1, k2, k3, k4⟩ := h.objs i _ hx
        rw [hM] at k1; injection k1 with k1; subst k1
        rw [hMb, hb] at k2; injection k2 with k2; injection k2 with k2 k2a k2b; subst k2 k2a k2b
        exact .inr (.inr ⟨h.lt _ _ hx, M, cs, t, fz', hM, by rw [hMb]; exact hw', k3, k4⟩)
      · exact .inr (.inl ⟨hx, fun M' hM' => by rw [hM] at hM'; injection hM' with hM'; subst hM'; exact hMb⟩)
 · rcases hset i x hx with ⟨e1, e2⟩ | ⟨hij, hx1⟩ <;> rcases hset k y hy with ⟨f1, f2⟩ | ⟨hkj, hy1⟩
   · exact absurd (e1.trans f1.symm) hik
   · rw [e1, hL] at hM; injection hM with hM; subst hM
     obtain ⟨us, u, e3⟩ := others k y N hkj hy1 hdy hN hMN.symm
     rw [e2, e3]
     exact .inl ⟨rfl, rfl⟩
   · rw [f1, hL] at hN; injection hN with hN; subst hN
     obtain ⟨us, u, e3⟩ := others i x M hij hx1 hdx hM hMN
     rw [f2, e3]
     exact .inl ⟨rfl, rfl⟩
   · exact h.sep i k x y M N hik hx1 hy1 hdx hdy hM hN hMN
 · rcases hset i _ hi with ⟨_, k1⟩ | ⟨hij, hi⟩
   · injection k1 with _ _ k1; cases k1
   · obtain ⟨k1, k2⟩ := h.old i us u l hi q hq
     refine ⟨k1, fun x hx => ?_⟩
     rcases hset q x hx with ⟨rfl, rfl⟩ | ⟨_, hx⟩
     · rcases k2 _ ho with k3 | ⟨_, _, k3, _⟩
       · cases k3
       · injection k3 with _ _ k3; cases k3
     · exact k2 x hx
theorem ovStr_ok : CallOk Tryz.prog w0 (fun f' args σ K => match Nat.beq f' 30 with | true => ovStr args σ K | false => false) := by
 intro f' args σ K ρ w args' hk h ha
 dsimp only at hk
 split at hk
 · rename_i hf'
   obtain rfl : f' = 30 := by simpa using hf'
   refine ⟨enters_of Tryz.func30 (by kernel_rfl) rfl ⟨args'⟩, ?_⟩
   unfold ovStr at hk
   split at hk
   · rename_i i o
     obtain ⟨a', rfl, hv⟩ := one_arg ha
     obtain ⟨_, L, hL, rfl⟩ := hv.ptr_inv
     obtain ⟨vs, e, ck, ho, hk⟩ := cellsK_true hk
     obtain ⟨v, hvo, hk⟩ := nthK_true' hk
     obtain ⟨v', hv', hvr⟩ := h.readCell ho hL hvo
     have hv1 : w.cell? ⟨L.b, L.s + o + 1, none⟩ = some v' := hv'
     split at hk
     · cases hvr.of_flat rfl
       refine callsIn_wide.2 ((str_nil L.b (L.s + o) _ w hv1).mono ?_)
       rintro e w' ⟨rfl, rfl⟩
       exact ⟨_, rfl, ρ, _, σ, hk, .flat rfl, h.drew, Stp.drew ρ _⟩
     · rename_i j p n c
       obtain ⟨ob, hob, hk⟩ := getK_true hk
       split at hk
       · rename_i ws e2 olds
         split at hk
         · rename_i he hn63
           have he := Nat.eq_of_beq_eq_true he
           subst he
           have hn63 := Nat.le_of_ble_eq_true hn63
           rcases hvr.slice_inv with ⟨M, c', hM, rfl, ⟨hsp, _⟩ | ⟨_, hcc, hnc, hend, hmp⟩⟩ | ⟨⟨_, hsp⟩, _⟩
           · cases hsp
           · have hob' : σ.obj j = some (.cells ws 5 (.grown olds)) := hob
             rw [dropK_eq] at hk
             split at hk
             · rename_i hple
               rw [takeK_eq] at hk
               split at hk
               · rename_i htl
                 obtain ⟨bs, hk, hbs⟩ := bytes8K_true hk
                 rw [setK_eq] at hk
                 obtain ⟨l', hl', hlen, hc⟩ := h.readCells (off := p) (n := n + 1) hob' hM (by simp at htl; omega)
                 have e0 : List.take (n + 1) (List.drop p ws) = bs.map (fun b : UInt8 => Value.int .u8 (b.toNat : Int)) := hbs
                 rw [e0] at hl'
                 have hl'' := hl'.flat_eq (by simp [flat0])
                 obtain ⟨cs, t, fz, hb, hcv, g1, g2, g3, g4, g5⟩ := h.cells hob' hM
                 subst g5
                 have hM1 : M.m = 1 := by rw [sizeB1] at g4; injection g4 with g4; exact g4.symm
                 have hsh : w.shape? M.b = some (5, cs.size) := by simp [World.shape?, hb]
                 have hnl : bs.length = n + 1 := by
                  have := congrArg List.length e0
                  simp at this htl
                  omega
                 rw [hM1] at hend
                 have := str_some L.b (L.s + o) M.b (M.s + p) c' cs.size bs w (by rw [hnl]; exact hv1) (by intro h0; rw [h0] at hnl; simp at hnl) (by omega) hsh (by rw [hnl, ← g3, ← hend]; omega) (by rw [hnl]; exact hn63)
                  (fun q x hq => hc q _ (by rw [hl'']; simp [hq]))
                 refine callsIn_wide.2 (this.mono ?_)
                 rintro e w' ⟨rfl, rfl⟩
                 have hfr : (w.drew.freeze ⟨M.b, M.s + p, none⟩ bs.length).heap = w.heap.modify M.b fun
                  | .cells c elem (lo, hi) => .cells c elem (if lo == hi then (M.s + p, M.s + p + bs.length) else (min lo (M.s + p), max hi (M.s + p + bs.length)))
                  | o => o := by
                  unfold World.freeze
                  rw [if_neg (by omega)]
                  rfl
                 obtain ⟨r1, r2⟩ := h.freeze hM hob' hb (w' := w.drew.freeze ⟨M.b, M.s + p, none⟩ bs.length) (fz' := if fz.1 == fz.2 then (M.s + p, M.s + p + bs.length) else (min fz.1 (M.s + p), max fz.2 (M.s + p + bs.length)))
                  (by rw [hfr, Array.getElem?_modify, if_pos rfl, hb]; rfl) (by rw [hfr]; simp) (fun c hc => by rw [hfr, Array.getElem?_modify, if_neg (Ne.symm hc)])
                  (by unfold World.freeze; split <;> rfl) (by unfold World.freeze; split <;> rfl) (by unfold World.freeze; split <;> rfl)
                 exact ⟨_, rfl, ρ, _, _, hk, .flat rfl, r1, r2⟩
               · cases hk
             · cases hk
           · cases hsp
         · cases hk
       · cases hk
     · cases hk
   · cases hk
 · cases hk
end
end Go.Am

namespace Go.Proofs.Rdr
open Go Go.RowKit Go.Proofs
def lackE (e : Int) : PanicEntry := { v := .iface 219 (.agg #[.int .i64 e]), recovered := false }
theorem need_ok (e : Int) (w : World) : Calls Tryz.prog 72 #[.bool true, .int .i64 e] w fun r w' => r = .returned (.tuple #[]) ∧ w' = w := by
 go_enter Tryz.func72, Tryz.ntmps72
 go_wp2
 go_end0
 exact ⟨rfl, rfl⟩
theorem need_no (e : Int) (w : World) : Calls Tryz.prog 72 #[.bool false, .int .i64 e] w fun r w' => r = .panicked [lackE e] ∧ w' = w := by
 go_enter Tryz.func72, Tryz.ntmps72
 go_wp2
 exact ⟨rfl, rfl, rfl⟩
set_option maxHeartbeats 1000000 in
theorem take_ok (bp n : Nat) (s : ByteArray) (w : World) (hc : w.cell? ⟨bp, 0, none⟩ = some (.string s)) (hz : w.frozen? ⟨bp, 0, none⟩ = false) (hn : n ≤ s.size) (_hs : s.size < 9223372036854775808) :
 Calls Tryz.prog 167 #[.pointer (some ⟨bp, 0, none⟩), .int .i64 n] w fun r w' => r = .returned (.string (s.extract 0 n)) ∧ w' = w.setCell ⟨bp, 0, none⟩ (.string (s.extract n s.size)) := by
 go_enter Tryz.func167, Tryz.ntmps167
 go_wp2_with (go_at_call 72; refine (need_ok _ _).mono ?_; rintro e w' ⟨rfl, rfl⟩)
 go_ret
 exact ⟨rfl, rfl⟩
set_option maxHeartbeats 1000000 in
theorem take_short (bp n : Nat) (s : ByteArray) (w : World) (hc : w.cell? ⟨bp, 0, none⟩ = some (.string s)) (hn : s.size < n) (_hs : s.size < 9223372036854775808) :
 Calls Tryz.prog 167 #[.pointer (some ⟨bp, 0, none⟩), .int .i64 n] w fun r w' => r = .panicked [lackE 8] ∧ w' = w := by
 have hle : decide (n ≤ s.size) = false := by simp; omega
 go_enter Tryz.func167, Tryz.ntmps167
 go_wp2_with (go_at_call 72; refine (need_no _ _).mono ?_; rintro e w' ⟨rfl, rfl⟩)
 exact ⟨rfl, rfl, rfl⟩
end Go.Proofs.Rdr

namespace Go.Proofs.Rdr
open Go Go.RowKit Go.Proofs
def be (l : List UInt8) : Nat := l.foldl (fun a b => a * 256 + b.toNat) 0
theorem be_snoc (l : List UInt8) (b : UInt8) : be (l ++ [b]) = be l * 256 + b.toNat := by unfold be; rw [List.foldl_append]; rfl
theorem be_go : ∀ (l : List UInt8) (a n : Nat), a < 256 ^ n → l.foldl (fun a b => a * 256 + b.toNat) a < 256 ^ (n + l.length) := by
 intro l
 induction l with
 | nil => intro a n h; exact h
 | cons b l ih =>
  intro a n h
  have hb := b.toNat_lt
  have := ih (a * 256 + b.toNat) (n + 1) (by rw [Nat.pow_succ]; omega)
  rw [List.length_cons, show n + (l.length + 1) = n + 1 + l.length by omega]
  exact this
theorem be_lt (l : List UInt8) : be l < 256 ^ l.length := by
 have := be_go l 0 0 (by decide)
 rw [Nat.zero_add] at this
 exact this
theorem be_lt8 (l : List UInt8) (h : l.length ≤ 7) : be l < 72057594037927936 := Nat.lt_of_lt_of_le (be_lt l) (Nat.pow_le_pow_right (by decide) h : 256 ^ l.length ≤ 256 ^ 7)
theorem or_byte (a b : Nat) (hb : b < 256) : (a * 256) ||| b = a * 256 + b := by
 have := Nat.two_pow_add_eq_or_of_lt (i := 8) (b := b) hb a
 rw [Nat.mul_comm a 256]
 exact this.symm
theorem bytesRow_get (s : ByteArray) (cap k : Nat) (hk : k < s.size) : (bytesRow s cap)[k]? = some (.int .u8 (s[k].toNat : Int)) := by
 unfold bytesRow
 have hs : k < (s.data.map (fun b => Value.int .u8 (b.toNat : Int))).size := by simpa using hk
 rw [Array.getElem?_append_left hs]
 simp [Array.getElem?_map]
 exact ⟨s[k], by rw [Array.getElem?_eq_getElem (by simpa using hk)]; rfl, rfl⟩
def Num (bp : Nat) (v : Value) (x : Nat) (_rest : ByteArray) (w : World) (r : Ending) (w' : World) : Prop := r = .returned (.int .u64 x) ∧ Below w.heap.size (w.setCell ⟨bp, 0, none⟩ v) w'
theorem number_ok (bp n : Nat) (s : ByteArray) (w : World) (hc : w.cell? ⟨bp, 0, none⟩ = some (.string s)) (hz : w.frozen? ⟨bp, 0, none⟩ = false) (hn : n ≤ s.size) (hs : s.size < 9223372036854775808) (h8 : n ≤ 8) :
 Calls Tryz.prog 157 #[.pointer (some ⟨bp, 0, none⟩), .int .i64 n] w (Num bp (.string (s.extract n s.size)) (be (s.extract 0 n).data.toList) (s.extract n s.size) w) := by
 have hconv : ∀ (w : World) (s : ByteArray), (convert 9 92 (.string s)).run Tryz.prog w = .ok (.slice (some ⟨w.heap.size, 0, none⟩) s.size (grownCap w s.size 0 5))
  (w.drew.alloc (.cells (bytesRow s (grownCap w s.size 0 5)) 5 ((bytesRow s (grownCap w s.size 0 5)).size, (bytesRow s (grownCap w s.size 0 5)).size + 1))) := fun w s =>
  run_bytes_of_string w 9 92 5 s Tryz.underlying9 Tryz.underlying92 Tryz.underlying5
 generalize hx : s.extract 0 n = x
 have hxs : n = x.size := by rw [← hx, ByteArray.size_extract]; omega
 have T := take_ok bp n s w hc hz hn hs
 rw [hx] at T
 generalize hw1 : w.setCell ⟨bp, 0, none⟩ (.string (s.extract n s.size)) = w1 at T
 generalize s.extract n s.size = rest at *
 subst hxs
 have HW := Go.Lib.hid hw1
 clear hx hw1 hc hz hn hs
 go_enter Tryz.func157, Tryz.ntmps157
 go_wp2_with (go_at_call 167; refine T.mono ?_; rintro e w' ⟨rfl, hw'⟩; obtain rfl : w1 = w' := hw'.symm)
 generalize hrow : (Obj.cells (bytesRow x (grownCap _ x.size 0 5)) 5 ((bytesRow x (grownCap _ x.size 0 5)).size, (bytesRow x (grownCap _ x.size 0 5)).size + 1)) = row
 have HB : Hid (∀ k (hk : k < x.size), (w1.alloc row).drew.cell? ⟨w1.heap.size, k, none⟩ = some (.int .u8 (x[k].toNat : Int))) := Go.Lib.hid fun k hk => by
  have h1 : (w1.alloc row).drew.heap[w1.heap.size]? = some row := by
   show (w1.heap.push row)[w1.heap.size]? = _; simp
  rw [← hrow] at h1
  have h2 := bytesRow_get x (grownCap w1 x.size 0 5) k hk
  simp only [World.cell?, ← hrow, h1, h2]
  rfl
 clear hrow hconv
 go_loop [5, 13] (fun v i => ∃ k : Nat, k ≤ x.size ∧ i = .int .i64 k ∧ v = .int .u64 (be (x.data.toList.take k) : Nat)) (fun _ i => x.size - (intOf i).toNat)
 case atStart => exact ⟨0, Nat.zero_le _, rfl, rfl⟩
 case round =>
  obtain ⟨k, hk, rfl, rfl⟩ := hrel
  by_cases hlt : k < x.size
  · have hbk := HB.out k hlt
    have h7 : be (x.data.toList.take k) < 72057594037927936 := be_lt8 _ (by simp; omega)
    generalize hb : be (x.data.toList.take k) = a at *
    go_wp2
    refine ⟨⟨k + 1, by omega, by go_num, ?_⟩, by simp [intOf]; omega⟩
    have hb8 := x[k].toNat_lt
    have ht : List.take (k + 1) x.data.toList = List.take k x.data.toList ++ [x[k]] := by
     rw [List.take_succ_eq_append_getElem (by simpa using hlt)]; rfl
    have e1 : IntKind.u64.wrap ((x[k].toNat : Nat) : Int) = ((x[k].toNat : Nat) : Int) := by rw [IntKind.wrap_u64]; omega
    have e2 : ((a : Int) * 256) = ((a * 256 : Nat) : Int) := by omega
    rw [ht, be_snoc, hb, e1, e2, bits_or_u64_nat _ _ (by omega) (by omega), or_byte _ _ hb8]
  · go_wp2
    go_ret
    have hkk : k = x.size := by omega
    refine ⟨?_, ?_⟩
    · rw [hkk, List.take_of_length_le (by simp)]; rfl
    · have hw : w.setCell ⟨bp, 0, none⟩ (.string rest) = w1 := HW
      rw [hw]
      have hsz : w.heap.size ≤ w1.heap.size := by rw [← hw]; simp [World.setCell]
      exact ((Below.refl _ w1).alloc hsz row).drew
theorem number_short (bp n : Nat) (s : ByteArray) (w : World) (hc : w.cell? ⟨bp, 0, none⟩ = some (.string s)) (hn : s.size < n) (hs : s.size < 9223372036854775808) :
 Calls Tryz.prog 157 #[.pointer (some ⟨bp, 0, none⟩), .int .i64 n] w fun r w' => r = .panicked [lackE 8] ∧ w' = w := by
 have T := take_short bp n s w hc hn hs
 clear hc hn hs
 go_enter Tryz.func157, Tryz.ntmps157
 go_wp2_with (go_at_call 167; refine T.mono ?_; rintro e w' ⟨rfl, rfl⟩)
 exact ⟨rfl, rfl, rfl⟩
end Go.Proofs.Rdr

namespace Go.Proofs.Rdr
open Go Go.RowKit Go.Proofs
theorem mixed : Tryz.prog.follows .mixedOrders = true := by kernel_rfl
set_option maxHeartbeats 400000 in
theorem idle64 (pv rv xv ev pb rb ro : Nat) (s : ByteArray) (w : World) (h1 : w.cell? ⟨pv, 0, none⟩ = some (.pointer (some ⟨pb, 0, none⟩))) (h2 : w.cell? ⟨rv, 0, none⟩ = some (.pointer (some ⟨rb, ro, none⟩)))
 (h3 : w.cell? ⟨pb, 0, none⟩ = some (.string s)) (old : Value) (h4 : w.cell? ⟨rb, ro, none⟩ = some old) (h5 : w.frozen? ⟨rb, ro, none⟩ = false) :
 CallsD Tryz.prog 170 #[.pointer (some ⟨pv, 0, none⟩), .pointer (some ⟨rv, 0, none⟩), .pointer (some ⟨xv, 0, none⟩), .pointer (some ⟨ev, 0, none⟩)] .returning w fun e u' w' =>
  e = .returned (.tuple #[]) ∧ u' = .returning ∧ w' = w.drew.setCell ⟨rb, ro, none⟩ (.string s) := by
 have mixed := mixed
 refine callsD_of_wpS Tryz.func170 rfl fun c₀ cs hu => ?_
 apply wpS_seq
 apply wpS_region
 simp [wpOpsS, go_sem, recoverD, hu, Tryz.ntmps170, Exit.thenS]
 have hnil : ∀ w : World, (binOp BinOp.eql 20 .nilIface .nilIface).run Tryz.prog w = .ok (.bool true) w := fun _ => by kernel_rfl
 have g1 : w.drew.cell? ⟨pv, 0, none⟩ = some (.pointer (some ⟨pb, 0, none⟩)) := h1
 have g2 : w.drew.cell? ⟨rv, 0, none⟩ = some (.pointer (some ⟨rb, ro, none⟩)) := h2
 have g3 : w.drew.cell? ⟨pb, 0, none⟩ = some (.string s) := h3
 have g4 : w.drew.cell? ⟨rb, ro, none⟩ = some old := h4
 have g5 : w.drew.frozen? ⟨rb, ro, none⟩ = false := h5
 refine wpS_of_wp ?_
 have ht : (#[.pointer (some ⟨pv, 0, none⟩), .pointer (some ⟨rv, 0, none⟩), .pointer (some ⟨xv, 0, none⟩), .pointer (some ⟨ev, 0, none⟩)] ++ (Array.replicate 28 undef).setIfInBounds 4 Value.nilIface : Array Value) = #[.pointer (some ⟨pv, 0, none⟩), .pointer (some ⟨rv, 0, none⟩), .pointer (some ⟨xv, 0, none⟩), .pointer (some ⟨ev, 0, none⟩), undef, undef, undef, undef, .nilIface, undef, undef, undef, undef, undef, undef, undef, undef, undef, undef, undef, undef, undef, undef, undef, undef, undef, undef, undef, undef, undef, undef, undef] := by simp [Array.replicate, List.replicate]
 rw [ht]
 go_wp2
 go_region_o
 all_goals
  go_wp2
 cases c₀
 simp_all [bodyPostS, results, Tryz.results170]
set_option maxHeartbeats 2000000 in
theorem caught64 (pv rv xv ev rb ro : Nat) (er : Int) (w : World) (h2 : w.cell? ⟨rv, 0, none⟩ = some (.pointer (some ⟨rb, ro, none⟩)))
 (ox oe os or_ : Value) (h4 : w.cell? ⟨xv, 0, none⟩ = some ox) (h5 : w.frozen? ⟨xv, 0, none⟩ = false) (h6 : w.cell? ⟨ev, 0, none⟩ = some oe) (h7 : w.frozen? ⟨ev, 0, none⟩ = false)
 (h8 : w.cell? ⟨rb, ro, none⟩ = some os) (h9 : w.frozen? ⟨rb, ro, none⟩ = false) (h10 : w.cell? ⟨rb, ro + 1, none⟩ = some or_) (h11 : w.frozen? ⟨rb, ro + 1, none⟩ = false)
 (d1 : xv ≠ rv) (d2 : ev ≠ rv) (d3 : xv ≠ ev) (d4 : xv ≠ rb) (d5 : ev ≠ rb) (d6 : rb ≠ rv) (l1 : rv < w.heap.size) (l2 : xv < w.heap.size) (l3 : ev < w.heap.size) (l4 : rb < w.heap.size) :
 CallsD Tryz.prog 170 #[.pointer (some ⟨pv, 0, none⟩), .pointer (some ⟨rv, 0, none⟩), .pointer (some ⟨xv, 0, none⟩), .pointer (some ⟨ev, 0, none⟩)] (.panicking [{ lackE er with recovered := false }]) w fun e u' w' =>
  e = .returned (.tuple #[]) ∧ u' = .panicking [{ lackE er with recovered := true }] ∧
  w' = (((((w.alloc (.cells #[.int .i64 er] 219)).setCell ⟨xv, 0, none⟩ (.int .u64 0)).setCell ⟨ev, 0, none⟩ (.int .i64 er)).drew.setCell ⟨rb, ro, none⟩ (.string ⟨#[]⟩)).setCell ⟨rb, ro + 1, none⟩ (.int .i64 er)).drew := by
 have mixed := mixed
 unfold lackE
 refine callsD_of_wpS Tryz.func170 rfl fun c₀ cs hu => ?_
 apply wpS_seq
 apply wpS_region
 simp [wpOpsS, go_sem, recoverD, hu, Tryz.ntmps170, Exit.thenS]
 have hnil : ∀ w : World, (binOp BinOp.eql 20 (.iface 219 (.agg #[.int .i64 er])) .nilIface).run Tryz.prog w = .ok (.bool false) w := fun _ => by kernel_rfl
 have hta : ∀ w : World, (Instr.typeAssert (.iface 219 (.agg #[.int .i64 er])) 20 219 true).run Tryz.prog w = .ok (.tuple #[.agg #[.int .i64 er], .bool true]) w := fun _ => by kernel_rfl
 refine wpS_of_wp ?_
 have ht : (#[.pointer (some ⟨pv, 0, none⟩), .pointer (some ⟨rv, 0, none⟩), .pointer (some ⟨xv, 0, none⟩), .pointer (some ⟨ev, 0, none⟩)] ++ (Array.replicate 28 undef).setIfInBounds 4 (.iface 219 (.agg #[.int .i64 er])) : Array Value) = #[.pointer (some ⟨pv, 0, none⟩), .pointer (some ⟨rv, 0, none⟩), .pointer (some ⟨xv, 0, none⟩), .pointer (some ⟨ev, 0, none⟩), undef, undef, undef, undef, (.iface 219 (.agg #[.int .i64 er])), undef, undef, undef, undef, undef, undef, undef, undef, undef, undef, undef, undef, undef, undef, undef, undef, undef, undef, undef, undef, undef, undef, undef] := by simp [Array.replicate, List.replicate]
 rw [ht]
 have HB : Below w.heap.size w (w.alloc (.cells #[.int .i64 er] 219)) := (Below.refl _ w).alloc (Nat.le_refl _) _
 have hl : (w.alloc (.cells #[.int .i64 er] 219)).cell? ⟨w.heap.size, 0, none⟩ = some (.int .i64 er) := by simp [go_sem]
 have k2 := (HB.cell (p := ⟨rv, 0, none⟩) l1).trans h2
 have k4 := (HB.cell (p := ⟨xv, 0, none⟩) l2).trans h4
 have k5 := (HB.frozen (p := ⟨xv, 0, none⟩) l2).trans h5
 have k6 := (HB.cell (p := ⟨ev, 0, none⟩) l3).trans h6
 have k7 := (HB.frozen (p := ⟨ev, 0, none⟩) l3).trans h7
 have k8 := (HB.cell (p := ⟨rb, ro, none⟩) l4).trans h8
 have k9 := (HB.frozen (p := ⟨rb, ro, none⟩) l4).trans h9
 have k10 := (HB.cell (p := ⟨rb, ro + 1, none⟩) l4).trans h10
 have k11 := (HB.frozen (p := ⟨rb, ro + 1, none⟩) l4).trans h11
 have n1 : w.heap.size ≠ xv := by omega
 have n2 : w.heap.size ≠ ev := by omega
 have n3 : rb ≠ w.heap.size := by omega
 go_wp2
 clear HB h2 h4 h5 h6 h7 h8 h9 h10 h11 l1 l2 l3 l4
 generalize w.heap.size = lb at *
 generalize hw1 : w.alloc (.cells #[.int .i64 er] 219) = w1 at *
 have HW1 := Go.Lib.hid hw1
 clear hw1
 have q2 : (⟨xv, 0, none⟩ : Addr) ≠ ⟨rv, 0, none⟩ := fun e => d1 (congrArg Addr.block e)
 have q3 : (⟨ev, 0, none⟩ : Addr) ≠ ⟨rv, 0, none⟩ := fun e => d2 (congrArg Addr.block e)
 go_region_o
 all_goals go_wp2
 have f1 : ∀ (a : Addr) (v : Value), a.block ≠ xv → a.block ≠ ev → w1.cell? a = some v → (((w1.setCell ⟨xv, 0, none⟩ (.int .u64 0)).setCell ⟨ev, 0, none⟩ (.int .i64 er)).drew).cell? a = some v := by
  intro a v a1 a2 h
  have e1 : (⟨ev, 0, none⟩ : Addr) ≠ a := fun e => a2 (by rw [← e])
  have e2 : (⟨xv, 0, none⟩ : Addr) ≠ a := fun e => a1 (by rw [← e])
  show ((w1.setCell ⟨xv, 0, none⟩ (.int .u64 0)).setCell ⟨ev, 0, none⟩ (.int .i64 er)).cell? a = some v
  rw [World.cell?_setCell_other _ _ _ _ e1, World.cell?_setCell_other _ _ _ _ e2]; exact h
 have f2 : ∀ (a : Addr), w1.frozen? a = false → (((w1.setCell ⟨xv, 0, none⟩ (.int .u64 0)).setCell ⟨ev, 0, none⟩ (.int .i64 er)).drew).frozen? a = false := by
  intro a h
  show ((w1.setCell ⟨xv, 0, none⟩ (.int .u64 0)).setCell ⟨ev, 0, none⟩ (.int .i64 er)).frozen? a = false
  simp [go_sem, h]
 have z2 := f1 _ _ (Ne.symm d1) (Ne.symm d2) k2
 have z8 := f1 _ _ (Ne.symm d4) (Ne.symm d5) k8
 have z9 := f2 _ k9
 have z10 := f1 _ _ (Ne.symm d4) (Ne.symm d5) k10
 have z11 := f2 _ k11
 have zl := f1 _ _ n1 n2 hl
 clear f1 f2 k2 k4 k5 k6 k7 k8 k9 k10 k11 hl q2 q3
 generalize hw2 : ((w1.setCell ⟨xv, 0, none⟩ (.int .u64 0)).setCell ⟨ev, 0, none⟩ (.int .i64 er)).drew = w2 at *
 have HW2 := Go.Lib.hid hw2
 clear hw2
 have q4 : (⟨rb, ro, none⟩ : Addr) ≠ ⟨lb, 0, none⟩ := fun e => n3 (congrArg Addr.block e)
 have q5 : (⟨rb, ro, none⟩ : Addr) ≠ ⟨rv, 0, none⟩ := fun e => d6 (congrArg Addr.block e)
 go_region_o
 all_goals go_wp2
 have e1 : w.alloc (.cells #[.int .i64 er] 219) = w1 := HW1
 have e2 : ((w1.setCell ⟨xv, 0, none⟩ (.int .u64 0)).setCell ⟨ev, 0, none⟩ (.int .i64 er)).drew = w2 := HW2
 refine ⟨rfl, _, rfl, .tuple #[], ?_, rfl, rfl, ?_⟩
 · simp [results, Tryz.results170]
 · rw [e1, ← e2]; rfl
end Go.Proofs.Rdr

namespace Go.Proofs.Rdr
open Go Go.RowKit Go.Proofs
def HowOk (h : FuncId) (cap : Array Value) (s rest : ByteArray) (v : Value) (w0 : World) : Prop := ∀ (bp : Nat) (w : World), Below w0.heap.size w0 w → w0.heap.size ≤ bp → bp < w.heap.size → w.cell? ⟨bp, 0, none⟩ = some (.string s) → w.frozen? ⟨bp, 0, none⟩ = false →
 Calls Tryz.prog h (#[.pointer (some ⟨bp, 0, none⟩)] ++ cap) w fun r w' => r = .returned v ∧ Below w.heap.size (w.setCell ⟨bp, 0, none⟩ (.string rest)) w'
def ReadPost (rb ro : Nat) (rest : ByteArray) (v : Value) (w : World) (r : Ending) (w' : World) : Prop := r = .returned (.tuple #[v, .int .i64 0]) ∧ Below w.heap.size (w.setCell ⟨rb, ro, none⟩ (.string rest)) w'
def HowLack (h : FuncId) (cap : Array Value) (s : ByteArray) (er : Int) (w0 : World) : Prop := ∀ (bp : Nat) (w : World), Below w0.heap.size w0 w → w0.heap.size ≤ bp → bp < w.heap.size → w.cell? ⟨bp, 0, none⟩ = some (.string s) → w.frozen? ⟨bp, 0, none⟩ = false →
 Calls Tryz.prog h (#[.pointer (some ⟨bp, 0, none⟩)] ++ cap) w fun r w' => r = .panicked [lackE er] ∧ ∃ v, Below w.heap.size (w.setCell ⟨bp, 0, none⟩ v) w'
def LackPost (rb ro : Nat) (er : Int) (z : Value) (w : World) (r : Ending) (w' : World) : Prop := r = .returned (.tuple #[z, .int .i64 er]) ∧ Below w.heap.size ((w.setCell ⟨rb, ro, none⟩ (.string ⟨#[]⟩)).setCell ⟨rb, ro + 1, none⟩ (.int .i64 er)) w'
theorem alloc_get (w : World) (o : Obj) (k : Nat) : (w.alloc o).heap[k]? = if k = w.heap.size then some o else w.heap[k]? := by
 show (w.heap.push o)[k]? = _; rw [Array.getElem?_push]
theorem chain5 (w : World) (o0 o1 o2 o3 o4 : Obj) : ∀ W, ((((w.alloc o0).alloc o1).alloc o2).alloc o3).alloc o4 = W →
 W.heap[w.heap.size]? = some o0 ∧ W.heap[w.heap.size + 1]? = some o1 ∧ W.heap[w.heap.size + 1 + 1]? = some o2 ∧ W.heap[w.heap.size + 1 + 1 + 1]? = some o3 ∧ W.heap[w.heap.size + 1 + 1 + 1 + 1]? = some o4 ∧ W.heap.size = w.heap.size + 5 := by
 rintro W rfl
 refine ⟨?_, ?_, ?_, ?_, ?_, by simp⟩ <;> (simp only [alloc_get, World.size_alloc]; repeat rw [if_neg (by omega)]) <;> first | rw [if_pos rfl] | rfl
theorem below_both {N : Nat} {w a : World} (h : Below N w a) (p : Addr) (u : Value) : Below N (w.setCell p u) (a.setCell p u) := by
 refine ⟨h.os, h.tape, h.output, by simpa [World.setCell] using h.size, fun k hk => ?_⟩
 simp only [World.setCell, Array.getElem?_modify, h.block k hk]
theorem cell_blk {w w' : World} {a : Addr} {v : Value} (hb : w'.heap[a.block]? = w.heap[a.block]?) (h : w.cell? a = some v) : w'.cell? a = some v := by
 rw [← h]; exact World.cell?_of_block (w := w) hb
theorem froz_blk {w w' : World} {a : Addr} {v : Bool} (hb : w'.heap[a.block]? = w.heap[a.block]?) (h : w.frozen? a = v) : w'.frozen? a = v := by
 rw [← h]; exact World.frozen?_of_block (w := w) hb
theorem setCell_blk {w : World} {p : Addr} {u : Value} {k : Nat} (h : p.block ≠ k) : (w.setCell p u).heap[k]? = w.heap[k]? := by
 simp only [World.setCell, Array.getElem?_modify, if_neg h]
theorem blk_setCell {w : World} {b o : Nat} {u : Value} {cs : Array Value} {t : TypeId} {fz : Nat × Nat} (h : w.heap[b]? = some (.cells cs t fz)) : (w.setCell ⟨b, o, none⟩ u).heap[b]? = some (.cells (cs.setIfInBounds o u) t fz) := by
 simp only [World.setCell, Array.getElem?_modify, h]
 rfl
theorem cell_one {w : World} {b : Nat} {v : Value} {t : TypeId} {fz : Nat × Nat} (h : w.heap[b]? = some (.cells #[v] t fz)) : w.cell? ⟨b, 0, none⟩ = some v := by simp [World.cell?, h]
theorem froz_one {w : World} {b : Nat} {v : Value} {t : TypeId} (h : w.heap[b]? = some (.cells #[v] t (0, 0))) : w.frozen? ⟨b, 0, none⟩ = false := by simp [World.frozen?, h]
set_option maxHeartbeats 2000000 in
theorem read64_ok (rb ro : Nat) (h : FuncId) (cap : Array Value) (s rest : ByteArray) (x : Int) (w : World) (hr0 : rb < w.heap.size) (h1 : w.cell? ⟨rb, ro, none⟩ = some (.string s)) (h2 : w.cell? ⟨rb, ro + 1, none⟩ = some (.int .i64 0)) (h3 : w.frozen? ⟨rb, ro, none⟩ = false)
 (he : ∀ args w, (callFunc h args).run Tryz.prog w = .ok (.enter h args) w) (H : HowOk h cap s rest (.int .u64 x) w) :
 Calls Tryz.prog 160 #[.pointer (some ⟨rb, ro, none⟩), .func (.func h) #[] cap] w (ReadPost rb ro rest (.int .u64 x) w) := by
 have hmf : ∀ (fn : Fn) (first cap : Array Value) (w : World), (Instr.makeFunc fn first cap).run Tryz.prog w = .ok (.func fn first cap) w := fun _ _ _ _ => rfl
 have k1 : ∀ o1 o2 o3, (((w.alloc o1).alloc o2).alloc o3).cell? ⟨rb, ro, none⟩ = some (.string s) := fun o1 o2 o3 =>
  ((((Below.refl _ w).alloc (Nat.le_refl _) o1).alloc (by simp) o2).alloc (by simp; omega) o3).cell (p := ⟨rb, ro, none⟩) hr0 |>.trans h1
 have k2 : ∀ o1 o2 o3, (((w.alloc o1).alloc o2).alloc o3).cell? ⟨rb, ro + 1, none⟩ = some (.int .i64 0) := fun o1 o2 o3 =>
  ((((Below.refl _ w).alloc (Nat.le_refl _) o1).alloc (by simp) o2).alloc (by simp; omega) o3).cell (p := ⟨rb, ro + 1, none⟩) hr0 |>.trans h2
 have HH := Go.Lib.hid H
 have HR := Go.Lib.hid hr0
 clear H hr0
 go_enter_defers Tryz.func160, Tryz.ntmps160
 go_wp2
 generalize hW : ((((w.alloc (Obj.cells #[Value.pointer (some { block := rb, off := ro })] 100)).alloc (Obj.cells #[.int .u64 0] 57)).alloc (Obj.cells #[.int .i64 0] 37)).alloc (Obj.cells #[Value.string s] 174)).alloc (Obj.cells #[Value.pointer (some { block := w.heap.size + 1 + 1 + 1, off := 0 })] 171) = W
 have hr0 : rb < w.heap.size := HR
 obtain ⟨b0, b1, b2, b3, b4, hsz⟩ := chain5 w _ _ _ _ _ W hW
 have hBW : Below w.heap.size w W := by
  rw [← hW]
  exact (((((Below.refl _ w).alloc (Nat.le_refl _) _).alloc (by simp) _).alloc (by simp; omega) _).alloc (by simp; omega) _).alloc (by simp; omega) _
 clear hW k1 k2
 have c3 : W.cell? ⟨w.heap.size + 1 + 1 + 1, 0, none⟩ = some (.string s) := cell_one b3
 refine ((HH : HowOk h cap s rest (.int .u64 x) w) (w.heap.size + 1 + 1 + 1) W hBW (by omega) (by omega) c3 (froz_one b3)).mono ?_
 rintro r w1 ⟨rfl, hB⟩
 have hk : ∀ k, k < w.heap.size + 5 → k ≠ w.heap.size + 1 + 1 + 1 → w1.heap[k]? = W.heap[k]? := fun k h1 h2 => (hB.block k (by omega)).trans (setCell_blk (Ne.symm h2))
 have d0 : w1.heap[w.heap.size]? = _ := (hk _ (by omega) (by omega)).trans b0
 have d1 : w1.heap[w.heap.size + 1]? = _ := (hk _ (by omega) (by omega)).trans b1
 have d2 : w1.heap[w.heap.size + 1 + 1]? = _ := (hk _ (by omega) (by omega)).trans b2
 have d3 : w1.heap[w.heap.size + 1 + 1 + 1]? = some (Obj.cells #[Value.string rest] 174) := by
  rw [hB.block _ (by omega), blk_setCell b3]; rfl
 have d4 : w1.heap[w.heap.size + 1 + 1 + 1 + 1]? = _ := (hk _ (by omega) (by omega)).trans b4
 have hB1 : Below w.heap.size w w1 := (hBW.setCell (p := ⟨w.heap.size + 1 + 1 + 1, 0, none⟩) (by show _ ≤ w.heap.size + 1 + 1 + 1; omega) (.string rest)).trans (hB.mono (by omega))
 clear hk hB b0 b1 b2 b3 b4 c3 hBW
 have x1 : w1.cell? ⟨w.heap.size + 1, 0, none⟩ = some (.int .u64 0) := cell_one d1
 have x2 : w1.frozen? ⟨w.heap.size + 1, 0, none⟩ = false := froz_one d1
 have x3 : w1.cell? ⟨w.heap.size + 1 + 1, 0, none⟩ = some (.int .i64 0) := cell_one d2
 have x4 : w1.frozen? ⟨w.heap.size + 1 + 1, 0, none⟩ = false := froz_one d2
 have HD := Go.Lib.hid d0
 have HD1 := Go.Lib.hid d1
 have HD2 := Go.Lib.hid d2
 have HD3 := Go.Lib.hid d3
 have HD4 := Go.Lib.hid d4
 have HZ := Go.Lib.hid hsz
 have h1 := Go.Lib.hid h1
 have h3 := Go.Lib.hid h3
 clear d0 d1 d2 d3 d4 hsz h2 hr0
 go_wp2
 have hr0 : rb < w.heap.size := HR
 have g0 := (HD : w1.heap[w.heap.size]? = _)
 have g1 := (HD1 : w1.heap[w.heap.size + 1]? = _)
 have g2 := (HD2 : w1.heap[w.heap.size + 1 + 1]? = _)
 have g3 := (HD3 : w1.heap[w.heap.size + 1 + 1 + 1]? = _)
 have g4 := (HD4 : w1.heap[w.heap.size + 1 + 1 + 1 + 1]? = _)
 clear HD HD1 HD2 HD3 HD4 HZ HR HH x1 x2 x3 x4
 generalize hw2 : (w1.setCell { block := w.heap.size + 1, off := 0 } (.int .u64 x)).setCell { block := w.heap.size + 1 + 1, off := 0 } (Value.int IntKind.i64 0) = w2
 have ho : ∀ k, k ≠ w.heap.size + 1 → k ≠ w.heap.size + 1 + 1 → w2.heap[k]? = w1.heap[k]? := fun k a1 a2 => by rw [← hw2, setCell_blk (by exact Ne.symm a2), setCell_blk (by exact Ne.symm a1)]
 have e0 := (ho _ (by omega) (by omega)).trans g0
 have e3 := (ho _ (by omega) (by omega)).trans g3
 have e4 := (ho _ (by omega) (by omega)).trans g4
 have e1 : w2.heap[w.heap.size + 1]? = some (Obj.cells #[.int .u64 x] 57) := by rw [← hw2, setCell_blk (by show w.heap.size + 1 + 1 ≠ _; omega), blk_setCell g1]; rfl
 have e2 : w2.heap[w.heap.size + 1 + 1]? = some (Obj.cells #[.int .i64 0] 37) := by rw [← hw2, blk_setCell ((setCell_blk (by show w.heap.size + 1 ≠ _; omega)).trans g2)]; rfl
 have hB2 : Below w.heap.size w w2 := by rw [← hw2]; exact (hB1.setCell (by show _ ≤ w.heap.size + 1; omega) _).setCell (by show _ ≤ w.heap.size + 1 + 1; omega) _
 have er : w2.heap[rb]? = w.heap[rb]? := hB2.block rb hr0
 clear hw2 ho g0 g1 g2 g3 g4 hB1
 refine leaves_cons (f := 170) (args := #[.pointer (some ⟨w.heap.size + 1 + 1 + 1 + 1, 0, none⟩), .pointer (some ⟨w.heap.size, 0, none⟩), .pointer (some ⟨w.heap.size + 1, 0, none⟩), .pointer (some ⟨w.heap.size + 1 + 1, 0, none⟩)]) (by simp) (by simp [go_sem]) ?_
 refine (idle64 _ _ _ _ (w.heap.size + 1 + 1 + 1) rb ro rest w2 (cell_one e4) (cell_one e0) (cell_one e3) (.string s) (cell_blk (a := ⟨rb, ro, none⟩) er h1) (froz_blk (a := ⟨rb, ro, none⟩) er h3)).mono ?_
 rintro e u' w3 ⟨rfl, rfl, rfl⟩
 have y1 : (w2.drew.setCell ⟨rb, ro, none⟩ (.string rest)).cell? ⟨w.heap.size + 1, 0, none⟩ = some (.int .u64 x) := cell_blk (w := w2) (setCell_blk (by show rb ≠ w.heap.size + 1; omega)) (cell_one e1)
 have y2 : (w2.drew.setCell ⟨rb, ro, none⟩ (.string rest)).cell? ⟨w.heap.size + 1 + 1, 0, none⟩ = some (.int .i64 0) := cell_blk (w := w2) (setCell_blk (by show rb ≠ w.heap.size + 1 + 1; omega)) (cell_one e2)
 have hB3 : Below w.heap.size (w.setCell ⟨rb, ro, none⟩ (.string rest)) (w2.drew.setCell ⟨rb, ro, none⟩ (.string rest)) := below_both hB2.drew _ _
 generalize w2.drew.setCell ⟨rb, ro, none⟩ (.string rest) = w3 at *
 clear e0 e1 e2 e3 e4 er hB2
 simp [Leaves, settle, results, Tryz.results160, go_sem, y1, y2]
 exact ⟨rfl, hB3⟩
end Go.Proofs.Rdr

namespace Go.Proofs.Rdr
open Go Go.RowKit Go.Proofs
set_option maxHeartbeats 2000000 in
theorem read64_lack (rb ro : Nat) (h : FuncId) (cap : Array Value) (s : ByteArray) (er : Int) (w : World) (hr0 : rb < w.heap.size) (h1 : w.cell? ⟨rb, ro, none⟩ = some (.string s)) (h2 : w.cell? ⟨rb, ro + 1, none⟩ = some (.int .i64 0)) (h3 : w.frozen? ⟨rb, ro, none⟩ = false) (h4 : w.frozen? ⟨rb, ro + 1, none⟩ = false)
 (he : ∀ args w, (callFunc h args).run Tryz.prog w = .ok (.enter h args) w) (H : HowLack h cap s er w) :
 Calls Tryz.prog 160 #[.pointer (some ⟨rb, ro, none⟩), .func (.func h) #[] cap] w (LackPost rb ro er (.int .u64 0) w) := by
 have hmf : ∀ (fn : Fn) (first cap : Array Value) (w : World), (Instr.makeFunc fn first cap).run Tryz.prog w = .ok (.func fn first cap) w := fun _ _ _ _ => rfl
 have k1 : ∀ o1 o2 o3, (((w.alloc o1).alloc o2).alloc o3).cell? ⟨rb, ro, none⟩ = some (.string s) := fun o1 o2 o3 =>
  ((((Below.refl _ w).alloc (Nat.le_refl _) o1).alloc (by simp) o2).alloc (by simp; omega) o3).cell (p := ⟨rb, ro, none⟩) hr0 |>.trans h1
 have k2 : ∀ o1 o2 o3, (((w.alloc o1).alloc o2).alloc o3).cell? ⟨rb, ro + 1, none⟩ = some (.int .i64 0) := fun o1 o2 o3 =>
  ((((Below.refl _ w).alloc (Nat.le_refl _) o1).alloc (by simp) o2).alloc (by simp; omega) o3).cell (p := ⟨rb, ro + 1, none⟩) hr0 |>.trans h2
 have HH := Go.Lib.hid H
 have HR := Go.Lib.hid hr0
 clear H hr0
 go_enter_defers Tryz.func160, Tryz.ntmps160
 go_wp2
 generalize hW : ((((w.alloc (Obj.cells #[Value.pointer (some { block := rb, off := ro })] 100)).alloc (Obj.cells #[.int .u64 0] 57)).alloc (Obj.cells #[.int .i64 0] 37)).alloc (Obj.cells #[Value.string s] 174)).alloc (Obj.cells #[Value.pointer (some { block := w.heap.size + 1 + 1 + 1, off := 0 })] 171) = W
 have hr0 : rb < w.heap.size := HR
 obtain ⟨b0, b1, b2, b3, b4, hsz⟩ := chain5 w _ _ _ _ _ W hW
 have hBW : Below w.heap.size w W := by
  rw [← hW]
  exact (((((Below.refl _ w).alloc (Nat.le_refl _) _).alloc (by simp) _).alloc (by simp; omega) _).alloc (by simp; omega) _).alloc (by simp; omega) _
 clear hW k1 k2
 have c3 : W.cell? ⟨w.heap.size + 1 + 1 + 1, 0, none⟩ = some (.string s) := cell_one b3
 refine ((HH : HowLack h cap s er w) (w.heap.size + 1 + 1 + 1) W hBW (by omega) (by omega) c3 (froz_one b3)).mono ?_
 rintro r w2 ⟨rfl, pv, hB⟩
 have hk : ∀ k, k < w.heap.size + 5 → k ≠ w.heap.size + 1 + 1 + 1 → w2.heap[k]? = W.heap[k]? := fun k h1 h2 => (hB.block k (by omega)).trans (setCell_blk (Ne.symm h2))
 have e0 : w2.heap[w.heap.size]? = _ := (hk _ (by omega) (by omega)).trans b0
 have e1 : w2.heap[w.heap.size + 1]? = _ := (hk _ (by omega) (by omega)).trans b1
 have e2 : w2.heap[w.heap.size + 1 + 1]? = _ := (hk _ (by omega) (by omega)).trans b2
 have hB2 : Below w.heap.size w w2 := (hBW.setCell (p := ⟨w.heap.size + 1 + 1 + 1, 0, none⟩) (by show _ ≤ w.heap.size + 1 + 1 + 1; omega) pv).trans (hB.mono (by omega))
 have hz2 : W.heap.size ≤ w2.heap.size := by have := hB.size; simpa [World.setCell] using this
 clear hk hB b0 b1 b2 b3 b4 c3 hBW
 have er1 : w2.heap[rb]? = w.heap[rb]? := hB2.block rb hr0
 refine leaves_cons (f := 170) (args := #[.pointer (some ⟨w.heap.size + 1 + 1 + 1 + 1, 0, none⟩), .pointer (some ⟨w.heap.size, 0, none⟩), .pointer (some ⟨w.heap.size + 1, 0, none⟩), .pointer (some ⟨w.heap.size + 1 + 1, 0, none⟩)]) (by simp) (by simp [go_sem]) ?_
 refine (caught64 _ _ _ _ rb ro er w2 (cell_one e0) (.int .u64 0) (.int .i64 0) (.string s) (.int .i64 0) (cell_one e1) (froz_one e1) (cell_one e2) (froz_one e2)
  (cell_blk (a := ⟨rb, ro, none⟩) er1 h1) (froz_blk (a := ⟨rb, ro, none⟩) er1 h3) (cell_blk (a := ⟨rb, ro + 1, none⟩) er1 h2) (froz_blk (a := ⟨rb, ro + 1, none⟩) er1 h4)
  (by omega) (by omega) (by omega) (by omega) (by omega) (by omega) (by omega) (by omega) (by omega) (by omega)).mono ?_
 rintro e u' w3 ⟨rfl, rfl, hw3⟩
 have n1 : rb ≠ w.heap.size + 1 := by omega
 have n2 : rb ≠ w.heap.size + 1 + 1 := by omega
 have lt1 : w.heap.size + 1 < w2.heap.size := by omega
 have lt2 : w.heap.size + 1 + 1 < w2.heap.size := by omega
 have y1 : w3.cell? ⟨w.heap.size + 1, 0, none⟩ = some (.int .u64 0) := by
  have z : w3.heap[w.heap.size + 1]? = some (Obj.cells #[.int .u64 0] 57) := by
   rw [hw3]
   show ((((((w2.alloc _).setCell _ _).setCell _ _).setCell _ _).setCell _ _)).heap[_]? = _
   rw [setCell_blk (by exact n1), setCell_blk (by exact n1), setCell_blk (by show w.heap.size + 1 + 1 ≠ w.heap.size + 1; omega), blk_setCell (by rw [alloc_get, if_neg (by omega)]; exact e1)]
   rfl
  exact cell_one z
 have y2 : w3.cell? ⟨w.heap.size + 1 + 1, 0, none⟩ = some (.int .i64 er) := by
  have z : w3.heap[w.heap.size + 1 + 1]? = some (Obj.cells #[.int .i64 er] 37) := by
   rw [hw3]
   show ((((((w2.alloc _).setCell _ _).setCell _ _).setCell _ _).setCell _ _)).heap[_]? = _
   rw [setCell_blk (by exact n2), setCell_blk (by exact n2), blk_setCell ((setCell_blk (by show w.heap.size + 1 ≠ w.heap.size + 1 + 1; omega)).trans (by rw [alloc_get, if_neg (by omega)]; exact e2))]
   rfl
  exact cell_one z
 have hB3 : Below w.heap.size ((w.setCell ⟨rb, ro, none⟩ (.string ⟨#[]⟩)).setCell ⟨rb, ro + 1, none⟩ (.int .i64 er)) w3 := by
  rw [hw3]
  exact (below_both (below_both (((((hB2.alloc (by omega) _).setCell (by show w.heap.size ≤ w.heap.size + 1; omega) _).setCell (by show w.heap.size ≤ w.heap.size + 1 + 1; omega) _).drew)) _ _) _ _).drew
 clear hw3 e0 e1 e2 er1 hB2 hz2 lt1 lt2 n1 n2 h1 h2 h3 h4 hsz
 simp [Leaves, settle, results, Tryz.results160, go_sem, y1, y2]
 exact ⟨rfl, hB3⟩
set_option maxHeartbeats 2000000 in
theorem read64_wrong (rb ro : Nat) (how : Value) (er : Int) (w : World) (hr0 : rb < w.heap.size) (h2 : w.cell? ⟨rb, ro + 1, none⟩ = some (.int .i64 er)) (hne : er ≠ 0) :
 Calls Tryz.prog 160 #[.pointer (some ⟨rb, ro, none⟩), how] w fun r w' => r = .returned (.tuple #[.int .u64 0, .int .i64 er]) ∧ Below w.heap.size w w' := by
 have mixed := mixed
 have k2 : ∀ o1 o2 o3, (((w.alloc o1).alloc o2).alloc o3).cell? ⟨rb, ro + 1, none⟩ = some (.int .i64 er) := fun o1 o2 o3 =>
  ((((Below.refl _ w).alloc (Nat.le_refl _) o1).alloc (by simp) o2).alloc (by simp; omega) o3).cell (p := ⟨rb, ro + 1, none⟩) hr0 |>.trans h2
 have q1 : (⟨w.heap.size + 1, 0, none⟩ : Addr) ≠ ⟨rb, ro + 1, none⟩ := by intro e; have e := congrArg Addr.block e; simp at e; omega
 have hbne : (er != 0) = true := by simpa using hne
 clear h2 hr0 hne
 go_enter_defers Tryz.func160, Tryz.ntmps160
 go_wp2
 go_region_o
 all_goals go_wp2
 simp [bodyPostD, Leaves, results, Tryz.results160, go_sem]
 exact ((((Below.refl _ w).alloc (Nat.le_refl _) _).alloc (by simp) _).alloc (by simp; omega) _).drew
theorem read64_nil (how : Value) (w : World) :
 Calls Tryz.prog 160 #[.pointer none, how] w fun r w' => r = .returned (.tuple #[.int .u64 0, .int .i64 2]) ∧ Below w.heap.size w w' := by
 go_enter_defers Tryz.func160, Tryz.ntmps160
 go_wp2
 simp [bodyPostD, Leaves, results, Tryz.results160, go_sem]
 exact (((Below.refl _ w).alloc (Nat.le_refl _) _).alloc (by simp) _).alloc (by simp; omega) _
end Go.Proofs.Rdr

namespace Go.Proofs.Rdr
open Go Go.RowKit Go.Proofs
theorem setCell_same {w : World} {bp : Nat} {v : Value} (h : w.cell? ⟨bp, 0, none⟩ = some v) : ∃ u, Below w.heap.size (w.setCell ⟨bp, 0, none⟩ u) w := by
 refine ⟨v, rfl, rfl, rfl, by simp [World.setCell], fun k _ => ?_⟩
 by_cases e : bp = k
 · subst e
   cases hb : w.heap[bp]? with
   | none => simp [World.cell?, hb] at h
   | some o =>
    cases o with
    | cells c t f =>
     have hc : c[0]? = some v := by simpa [World.cell?, hb] using h
     rw [blk_setCell hb]
     have hlt : 0 < c.size := (Array.getElem?_eq_some_iff.1 hc).1
     have he : c[0] = v := (Array.getElem?_eq_some_iff.1 hc).2
     rw [← he]
     congr 2
     apply Array.toList_inj.1
     rw [Array.toList_setIfInBounds]
     exact (List.set_getElem_self hlt).symm
    | _ => simp [World.cell?, hb] at h
 · rw [setCell_blk (by exact e)]
theorem ext_take (s : ByteArray) (n : Nat) : (s.extract 0 n).data.toList = s.data.toList.take n := by simp
theorem how_num (s : ByteArray) (w0 : World) (hn : 8 ≤ s.size) (hs : s.size < 9223372036854775808) : HowOk 161 #[] s (s.extract 8 s.size) (.int .u64 (be (s.data.toList.take 8) : Nat)) w0 := by
 intro bp w _ _ _ hc hz
 have T := number_ok bp 8 s w hc hz hn hs (by omega)
 rw [ext_take] at T
 clear hc hz hn hs
 go_enter Tryz.func161, Tryz.ntmps161
 go_wp2_with (go_at_call 157; refine T.mono ?_; rintro e w' ⟨rfl, hb⟩)
 go_ret
 exact ⟨rfl, hb⟩
theorem how_num_no (s : ByteArray) (w0 : World) (hn : s.size < 8) : HowLack 161 #[] s 8 w0 := by
 intro bp w _ _ _ hc hz
 have T := number_short bp 8 s w hc (by omega) (by omega)
 have hp := setCell_same hc
 clear hc hz hn
 go_enter Tryz.func161, Tryz.ntmps161
 go_wp2_with (go_at_call 157; refine T.mono ?_; rintro e w' ⟨rfl, rfl⟩)
 exact ⟨rfl, rfl, hp⟩
theorem how_byte (s : ByteArray) (w0 : World) (hn : 1 ≤ s.size) (hs : s.size < 9223372036854775808) : HowOk 159 #[] s (s.extract 1 s.size) (.int .u8 (be (s.data.toList.take 1) : Nat)) w0 := by
 intro bp w _ _ _ hc hz
 have T := number_ok bp 1 s w hc hz hn hs (by omega)
 rw [ext_take] at T
 have hb : be (s.data.toList.take 1) < 256 := Nat.lt_of_lt_of_le (be_lt _) (Nat.pow_le_pow_right (by decide) (List.length_take_le _ _) : 256 ^ _ ≤ 256 ^ 1)
 clear hc hz hn hs
 generalize be (s.data.toList.take 1) = x at *
 have hw : IntKind.u8.wrap (x : Int) = x := by rw [IntKind.wrap_u8]; omega
 go_enter Tryz.func159, Tryz.ntmps159
 go_wp2_with (go_at_call 157; refine T.mono ?_; rintro e w' ⟨rfl, hb⟩)
 go_ret
 exact ⟨rfl, hb⟩
theorem how_byte_no (s : ByteArray) (w0 : World) (hn : s.size < 1) : HowLack 159 #[] s 8 w0 := by
 intro bp w _ _ _ hc hz
 have T := number_short bp 1 s w hc (by omega) (by omega)
 have hp := setCell_same hc
 clear hc hz hn
 go_enter Tryz.func159, Tryz.ntmps159
 go_wp2_with (go_at_call 157; refine T.mono ?_; rintro e w' ⟨rfl, rfl⟩)
 exact ⟨rfl, rfl, hp⟩
/-! ### a length -/
theorem length_ok (bp : Nat) (most : Nat) (s : ByteArray) (w : World) (hc : w.cell? ⟨bp, 0, none⟩ = some (.string s)) (hz : w.frozen? ⟨bp, 0, none⟩ = false) (hn : 2 ≤ s.size) (hs : s.size < 9223372036854775808) (hm : be (s.data.toList.take 2) ≤ most) :
 Calls Tryz.prog 164 #[.pointer (some ⟨bp, 0, none⟩), .int .i64 most] w fun r w' => r = .returned (.int .i64 (be (s.data.toList.take 2) : Nat)) ∧ Below w.heap.size (w.setCell ⟨bp, 0, none⟩ (.string (s.extract 2 s.size))) w' := by
 have T := number_ok bp 2 s w hc hz hn hs (by omega)
 rw [ext_take] at T
 have hb : be (s.data.toList.take 2) < 65536 := Nat.lt_of_lt_of_le (be_lt _) (Nat.pow_le_pow_right (by decide) (List.length_take_le _ _) : 256 ^ _ ≤ 256 ^ 2)
 clear hc hz hn hs
 generalize be (s.data.toList.take 2) = x at *
 have hw : IntKind.i64.wrap (x : Int) = x := by rw [IntKind.wrap_i64]; omega
 have hle : decide (x ≤ most) = true := by simpa using hm
 go_enter Tryz.func164, Tryz.ntmps164
 go_wp2_with (go_at_call 157; refine T.mono ?_; rintro e w' ⟨rfl, hb⟩)
 go_wp2_with (go_at_call 72; refine (need_ok _ _).mono ?_; rintro e w2 ⟨rfl, hw2⟩; obtain rfl : w' = w2 := hw2.symm)
 go_ret
 exact ⟨rfl, hb⟩
theorem length_short (bp : Nat) (most : Nat) (s : ByteArray) (w : World) (hc : w.cell? ⟨bp, 0, none⟩ = some (.string s)) (hn : s.size < 2) :
 Calls Tryz.prog 164 #[.pointer (some ⟨bp, 0, none⟩), .int .i64 most] w fun r w' => r = .panicked [lackE 8] ∧ w' = w := by
 have T := number_short bp 2 s w hc (by omega) (by omega)
 clear hc hn
 go_enter Tryz.func164, Tryz.ntmps164
 go_wp2_with (go_at_call 157; refine T.mono ?_; rintro e w' ⟨rfl, rfl⟩)
 exact ⟨rfl, rfl, rfl⟩
theorem length_large (bp : Nat) (most : Nat) (s : ByteArray) (w : World) (hc : w.cell? ⟨bp, 0, none⟩ = some (.string s)) (hz : w.frozen? ⟨bp, 0, none⟩ = false) (hn : 2 ≤ s.size) (hs : s.size < 9223372036854775808) (hm : most < be (s.data.toList.take 2)) :
 Calls Tryz.prog 164 #[.pointer (some ⟨bp, 0, none⟩), .int .i64 most] w fun r w' => r = .panicked [lackE 40] ∧ ∃ v, Below w.heap.size (w.setCell ⟨bp, 0, none⟩ v) w' := by
 have T := number_ok bp 2 s w hc hz hn hs (by omega)
 rw [ext_take] at T
 have hb : be (s.data.toList.take 2) < 65536 := Nat.lt_of_lt_of_le (be_lt _) (Nat.pow_le_pow_right (by decide) (List.length_take_le _ _) : 256 ^ _ ≤ 256 ^ 2)
 clear hc hz hn hs
 generalize be (s.data.toList.take 2) = x at *
 have hw : IntKind.i64.wrap (x : Int) = x := by rw [IntKind.wrap_i64]; omega
 have hle : decide (x ≤ most) = false := by simpa using hm
 go_enter Tryz.func164, Tryz.ntmps164
 go_wp2_with (go_at_call 157; refine T.mono ?_; rintro e w' ⟨rfl, hb⟩)
 go_wp2_with (go_at_call 72; refine (need_no _ _).mono ?_; rintro e w2 ⟨rfl, hw2⟩; obtain rfl : w' = w2 := hw2.symm)
 exact ⟨rfl, rfl, _, hb⟩
end Go.Proofs.Rdr

namespace Go.Proofs.Rdr
open Go Go.RowKit Go.Proofs
theorem cell_past {N bp : Nat} {u : Value} {w w' : World} (hb : Below N (w.setCell ⟨bp, 0, none⟩ u) w') {a : Addr} {v : Value} (hN : a.block < N) (hne : bp ≠ a.block) (h : w.cell? a = some v) : w'.cell? a = some v :=
 cell_blk ((hb.block _ hN).trans (setCell_blk (by exact hne))) h
theorem how_count (mb most : Nat) (s : ByteArray) (w0 : World) (hm : w0.cell? ⟨mb, 0, none⟩ = some (.int .i64 most)) (hmb : mb < w0.heap.size) (hmost : most < 9223372036854775808) (hn : 8 ≤ s.size) (hs : s.size < 9223372036854775808) (hle : be (s.data.toList.take 8) ≤ most) :
 HowOk 156 #[.pointer (some ⟨mb, 0, none⟩)] s (s.extract 8 s.size) (.int .i64 (be (s.data.toList.take 8) : Nat)) w0 := by
 intro bp w hB hbp hlt hc hz
 have T := number_ok bp 8 s w hc hz hn hs (by omega)
 rw [ext_take] at T
 have hmw : w.cell? ⟨mb, 0, none⟩ = some (.int .i64 most) := cell_blk (hB.block _ hmb) hm
 have hN : mb < w.heap.size := Nat.lt_of_lt_of_le hmb hB.size
 have hne : bp ≠ mb := by omega
 clear hc hz hn hs hB hm hbp hlt hmb
 generalize be (s.data.toList.take 8) = x at *
 have hw : IntKind.i64.wrap (x : Int) = x := by rw [IntKind.wrap_i64]; omega
 have hw2 : IntKind.u64.wrap (most : Int) = most := by rw [IntKind.wrap_u64]; omega
 have hle2 : decide (x ≤ most) = true := by simpa using hle
 clear hle hmost
 go_enter Tryz.func156, Tryz.ntmps156
 go_wp2_with (go_at_call 157; refine T.mono ?_; rintro e w' ⟨rfl, hb⟩; have hmw' := cell_past hb (a := ⟨mb, 0, none⟩) hN hne hmw)
 go_wp2_with (go_at_call 72; refine (need_ok _ _).mono ?_; rintro e w2 ⟨rfl, hw2⟩; obtain rfl : w' = w2 := hw2.symm)
 go_ret
 exact ⟨rfl, hb⟩
theorem how_count_no (mb : Nat) (s : ByteArray) (w0 : World) (hn : s.size < 8) : HowLack 156 #[.pointer (some ⟨mb, 0, none⟩)] s 8 w0 := by
 intro bp w _ _ _ hc hz
 have T := number_short bp 8 s w hc (by omega) (by omega)
 have hp := setCell_same hc
 clear hc hz hn
 go_enter Tryz.func156, Tryz.ntmps156
 go_wp2_with (go_at_call 157; refine T.mono ?_; rintro e w' ⟨rfl, rfl⟩)
 exact ⟨rfl, rfl, hp⟩
theorem how_count_large (mb most : Nat) (s : ByteArray) (w0 : World) (hm : w0.cell? ⟨mb, 0, none⟩ = some (.int .i64 most)) (hmb : mb < w0.heap.size) (hmost : most < 9223372036854775808) (hn : 8 ≤ s.size) (hs : s.size < 9223372036854775808) (hle : most < be (s.data.toList.take 8)) :
 HowLack 156 #[.pointer (some ⟨mb, 0, none⟩)] s 4 w0 := by
 intro bp w hB hbp hlt hc hz
 have T := number_ok bp 8 s w hc hz hn hs (by omega)
 rw [ext_take] at T
 have hmw : w.cell? ⟨mb, 0, none⟩ = some (.int .i64 most) := cell_blk (hB.block _ hmb) hm
 have hN : mb < w.heap.size := Nat.lt_of_lt_of_le hmb hB.size
 have hne : bp ≠ mb := by omega
 clear hc hz hn hs hB hm hbp hlt hmb
 generalize be (s.data.toList.take 8) = x at *
 have hw2 : IntKind.u64.wrap (most : Int) = most := by rw [IntKind.wrap_u64]; omega
 have hle2 : decide (x ≤ most) = false := by simpa using hle
 clear hle hmost
 go_enter Tryz.func156, Tryz.ntmps156
 go_wp2_with (go_at_call 157; refine T.mono ?_; rintro e w' ⟨rfl, hb⟩; have hmw' := cell_past hb (a := ⟨mb, 0, none⟩) hN hne hmw)
 go_wp2_with (go_at_call 72; refine (need_no _ _).mono ?_; rintro e w2 ⟨rfl, hw2⟩; obtain rfl : w' = w2 := hw2.symm)
 exact ⟨rfl, rfl, _, hb⟩
theorem how_end (w0 : World) : HowOk 71 #[] ⟨#[]⟩ ⟨#[]⟩ (.bool true) w0 := by
 intro bp w _ _ _ hc hz
 have hp : Below w.heap.size (w.setCell ⟨bp, 0, none⟩ (.string ⟨#[]⟩)) w := by
  refine ⟨rfl, rfl, rfl, by simp [World.setCell], fun k _ => ?_⟩
  by_cases e : bp = k
  · subst e
    cases hb : w.heap[bp]? with
    | none => simp [World.cell?, hb] at hc
    | some o =>
     cases o with
     | cells c t f =>
      have hcc : c[0]? = some (.string ⟨#[]⟩) := by simpa [World.cell?, hb] using hc
      rw [blk_setCell hb]
      have hlt : 0 < c.size := (Array.getElem?_eq_some_iff.1 hcc).1
      have he : c[0] = .string ⟨#[]⟩ := (Array.getElem?_eq_some_iff.1 hcc).2
      rw [← he]
      congr 2
      apply Array.toList_inj.1
      rw [Array.toList_setIfInBounds]
      exact (List.set_getElem_self hlt).symm
     | _ => simp [World.cell?, hb] at hc
  · rw [setCell_blk (by exact e)]
 go_enter Tryz.func71, Tryz.ntmps71
 go_wp2_with (go_at_call 72; refine (need_ok _ _).mono ?_; rintro e w2 ⟨rfl, hw2⟩; obtain rfl : w = w2 := hw2.symm)
 go_ret
 exact ⟨rfl, hp⟩
theorem how_end_no (s : ByteArray) (w0 : World) (hne : s.toList.isEmpty = false) : HowLack 71 #[] s 10 w0 := by
 intro bp w _ _ _ hc hz
 have hp := setCell_same hc
 go_enter Tryz.func71, Tryz.ntmps71
 go_wp2_with (go_at_call 72; refine (need_no _ _).mono ?_; rintro e w2 ⟨rfl, hw2⟩; obtain rfl : w = w2 := hw2.symm)
 exact ⟨rfl, rfl, hp⟩
/-! ### texts -/
theorem set_below {N : Nat} {w : World} {bp : Nat} {u v : Value} : Below N (w.setCell ⟨bp, 0, none⟩ v) ((w.setCell ⟨bp, 0, none⟩ u).setCell ⟨bp, 0, none⟩ v) := by
 refine ⟨rfl, rfl, rfl, by simp [World.setCell], fun k _ => ?_⟩
 by_cases e : bp = k
 · subst e
   cases hb : w.heap[bp]? with
   | none => simp [World.setCell, Array.getElem?_modify, hb]
   | some o =>
    cases o with
    | cells c t f => rw [blk_setCell (blk_setCell hb), blk_setCell hb]; simp
    | _ => simp [World.setCell, Array.getElem?_modify, hb]
 · rw [setCell_blk (by exact e), setCell_blk (by exact e), setCell_blk (by exact e)]
theorem cell_new {N bp : Nat} {u v : Value} {w w' : World} (hb : Below N (w.setCell ⟨bp, 0, none⟩ u) w') (hN : bp < N) (h : w.cell? ⟨bp, 0, none⟩ = some v) : w'.cell? ⟨bp, 0, none⟩ = some u :=
 cell_blk (w := w.setCell ⟨bp, 0, none⟩ u) (hb.block _ hN) (World.cell?_setCell_same _ _ _ h)
theorem froz_new {N bp : Nat} {u : Value} {w w' : World} (hb : Below N (w.setCell ⟨bp, 0, none⟩ u) w') (hN : bp < N) (h : w.frozen? ⟨bp, 0, none⟩ = false) : w'.frozen? ⟨bp, 0, none⟩ = false :=
 froz_blk (w := w.setCell ⟨bp, 0, none⟩ u) (hb.block _ hN) (by rw [World.frozen?_setCell]; exact h)
theorem how_text (s s1 : ByteArray) (n : Nat) (w0 : World) (h1 : s.extract 2 s.size = s1) (hn0 : be (s.data.toList.take 2) = n) (hn2 : n ≤ 2048) (hn : 2 ≤ s.size) (hs : s.size < 9223372036854775808) (hs1 : n ≤ s1.size) :
 HowOk 166 #[] s (s1.extract n s1.size) (.string (s1.extract 0 n)) w0 := by
 intro bp w _ _ hlt hc hz
 have T := length_ok bp 2048 s w hc hz hn hs (by omega)
 rw [h1, hn0] at T
 have hl1 : s1.size < 9223372036854775808 := by rw [← h1, ByteArray.size_extract]; omega
 have K : ∀ w', Below w.heap.size (w.setCell ⟨bp, 0, none⟩ (.string s1)) w' → Calls Tryz.prog 167 #[.pointer (some ⟨bp, 0, none⟩), .int .i64 n] w' fun r w2 => r = .returned (.string (s1.extract 0 n)) ∧ w2 = w'.setCell ⟨bp, 0, none⟩ (.string (s1.extract n s1.size)) := fun w' hb =>
  take_ok bp n s1 w' (cell_new hb hlt hc) (froz_new hb hlt hz) hs1 hl1
 have B : ∀ w', Below w.heap.size (w.setCell ⟨bp, 0, none⟩ (.string s1)) w' → Below w.heap.size (w.setCell ⟨bp, 0, none⟩ (.string (s1.extract n s1.size))) (w'.setCell ⟨bp, 0, none⟩ (.string (s1.extract n s1.size))) := fun w' hb => set_below.trans (below_both hb _ _)
 clear hc hz hn hs h1 hn0 hs1 hl1
 generalize s1.extract n s1.size = rest at *
 generalize s1.extract 0 n = out at *
 go_enter Tryz.func166, Tryz.ntmps166
 go_wp2_with (go_at_call 164; refine T.mono ?_; rintro e w' ⟨rfl, hb⟩; have K1 := K w' hb; have B1 := B w' hb; clear K B)
 go_wp2_with (go_at_call 167; refine K1.mono ?_; rintro e w2 ⟨rfl, hw2⟩; obtain rfl : w'.setCell ⟨bp, 0, none⟩ (.string rest) = w2 := hw2.symm)
 go_ret
 exact ⟨rfl, B1⟩
theorem how_text_short (s : ByteArray) (w0 : World) (hn : s.size < 2) : HowLack 166 #[] s 8 w0 := by
 intro bp w _ _ _ hc hz
 have T := length_short bp 2048 s w hc hn
 have hp := setCell_same hc
 clear hc hz hn
 go_enter Tryz.func166, Tryz.ntmps166
 go_wp2_with (go_at_call 164; refine T.mono ?_; rintro e w' ⟨rfl, rfl⟩)
 exact ⟨rfl, rfl, hp⟩
theorem how_text_large (s : ByteArray) (w0 : World) (hn : 2 ≤ s.size) (hs : s.size < 9223372036854775808) (hm : 2048 < be (s.data.toList.take 2)) : HowLack 166 #[] s 40 w0 := by
 intro bp w _ _ _ hc hz
 have T := length_large bp 2048 s w hc hz hn hs hm
 clear hc hz hn hs hm
 go_enter Tryz.func166, Tryz.ntmps166
 go_wp2_with (go_at_call 164; refine T.mono ?_; rintro e w' ⟨rfl, hb⟩)
 exact ⟨rfl, rfl, hb⟩
theorem how_text_cut (s s1 : ByteArray) (n : Nat) (w0 : World) (h1 : s.extract 2 s.size = s1) (hn0 : be (s.data.toList.take 2) = n) (hn2 : n ≤ 2048) (hn : 2 ≤ s.size) (hs : s.size < 9223372036854775808) (hs1 : s1.size < n) : HowLack 166 #[] s 8 w0 := by
 intro bp w _ _ hlt hc hz
 have T := length_ok bp 2048 s w hc hz hn hs (by omega)
 rw [h1, hn0] at T
 have hl1 : s1.size < 9223372036854775808 := by rw [← h1, ByteArray.size_extract]; omega
 have K : ∀ w', Below w.heap.size (w.setCell ⟨bp, 0, none⟩ (.string s1)) w' → Calls Tryz.prog 167 #[.pointer (some ⟨bp, 0, none⟩), .int .i64 n] w' fun r w2 => r = .panicked [lackE 8] ∧ w2 = w' := fun w' hb =>
  take_short bp n s1 w' (cell_new hb hlt hc) hs1 hl1
 clear hc hz hn hs h1 hn0 hs1 hl1
 go_enter Tryz.func166, Tryz.ntmps166
 go_wp2_with (go_at_call 164; refine T.mono ?_; rintro e w' ⟨rfl, hb⟩; have K1 := K w' hb; clear K)
 go_wp2_with (go_at_call 167; refine K1.mono ?_; rintro e w2 ⟨rfl, hw2⟩; obtain rfl : w' = w2 := hw2.symm)
 exact ⟨rfl, rfl, _, hb⟩
end Go.Proofs.Rdr

namespace Go.Proofs.Rdr
open Go Go.RowKit Go.Proofs
set_option maxHeartbeats 400000 in
theorem idle8 (pv rv xv ev pb rb ro : Nat) (s : ByteArray) (w : World) (h1 : w.cell? ⟨pv, 0, none⟩ = some (.pointer (some ⟨pb, 0, none⟩))) (h2 : w.cell? ⟨rv, 0, none⟩ = some (.pointer (some ⟨rb, ro, none⟩)))
 (h3 : w.cell? ⟨pb, 0, none⟩ = some (.string s)) (old : Value) (h4 : w.cell? ⟨rb, ro, none⟩ = some old) (h5 : w.frozen? ⟨rb, ro, none⟩ = false) :
 CallsD Tryz.prog 169 #[.pointer (some ⟨pv, 0, none⟩), .pointer (some ⟨rv, 0, none⟩), .pointer (some ⟨xv, 0, none⟩), .pointer (some ⟨ev, 0, none⟩)] .returning w fun e u' w' =>
  e = .returned (.tuple #[]) ∧ u' = .returning ∧ w' = w.drew.setCell ⟨rb, ro, none⟩ (.string s) := by
 have mixed := mixed
 refine callsD_of_wpS Tryz.func169 rfl fun c₀ cs hu => ?_
 apply wpS_seq
 apply wpS_region
 simp [wpOpsS, go_sem, recoverD, hu, Tryz.ntmps169, Exit.thenS]
 have hnil : ∀ w : World, (binOp BinOp.eql 20 .nilIface .nilIface).run Tryz.prog w = .ok (.bool true) w := fun _ => by kernel_rfl
 have g1 : w.drew.cell? ⟨pv, 0, none⟩ = some (.pointer (some ⟨pb, 0, none⟩)) := h1
 have g2 : w.drew.cell? ⟨rv, 0, none⟩ = some (.pointer (some ⟨rb, ro, none⟩)) := h2
 have g3 : w.drew.cell? ⟨pb, 0, none⟩ = some (.string s) := h3
 have g4 : w.drew.cell? ⟨rb, ro, none⟩ = some old := h4
 have g5 : w.drew.frozen? ⟨rb, ro, none⟩ = false := h5
 refine wpS_of_wp ?_
 have ht : (#[.pointer (some ⟨pv, 0, none⟩), .pointer (some ⟨rv, 0, none⟩), .pointer (some ⟨xv, 0, none⟩), .pointer (some ⟨ev, 0, none⟩)] ++ (Array.replicate 28 undef).setIfInBounds 4 Value.nilIface : Array Value) = #[.pointer (some ⟨pv, 0, none⟩), .pointer (some ⟨rv, 0, none⟩), .pointer (some ⟨xv, 0, none⟩), .pointer (some ⟨ev, 0, none⟩), undef, undef, undef, undef, .nilIface, undef, undef, undef, undef, undef, undef, undef, undef, undef, undef, undef, undef, undef, undef, undef, undef, undef, undef, undef, undef, undef, undef, undef] := by simp [Array.replicate, List.replicate]
 rw [ht]
 go_wp2
 go_region_o
 all_goals
  go_wp2
 cases c₀
 simp_all [bodyPostS, results, Tryz.results169]
set_option maxHeartbeats 2000000 in
theorem caught8 (pv rv xv ev rb ro : Nat) (er : Int) (w : World) (h2 : w.cell? ⟨rv, 0, none⟩ = some (.pointer (some ⟨rb, ro, none⟩)))
 (ox oe os or_ : Value) (h4 : w.cell? ⟨xv, 0, none⟩ = some ox) (h5 : w.frozen? ⟨xv, 0, none⟩ = false) (h6 : w.cell? ⟨ev, 0, none⟩ = some oe) (h7 : w.frozen? ⟨ev, 0, none⟩ = false)
 (h8 : w.cell? ⟨rb, ro, none⟩ = some os) (h9 : w.frozen? ⟨rb, ro, none⟩ = false) (h10 : w.cell? ⟨rb, ro + 1, none⟩ = some or_) (h11 : w.frozen? ⟨rb, ro + 1, none⟩ = false)
 (d1 : xv ≠ rv) (d2 : ev ≠ rv) (d3 : xv ≠ ev) (d4 : xv ≠ rb) (d5 : ev ≠ rb) (d6 : rb ≠ rv) (l1 : rv < w.heap.size) (l2 : xv < w.heap.size) (l3 : ev < w.heap.size) (l4 : rb < w.heap.size) :
 CallsD Tryz.prog 169 #[.pointer (some ⟨pv, 0, none⟩), .pointer (some ⟨rv, 0, none⟩), .pointer (some ⟨xv, 0, none⟩), .pointer (some ⟨ev, 0, none⟩)] (.panicking [{ lackE er with recovered := false }]) w fun e u' w' =>
  e = .returned (.tuple #[]) ∧ u' = .panicking [{ lackE er with recovered := true }] ∧
  w' = (((((w.alloc (.cells #[.int .i64 er] 219)).setCell ⟨xv, 0, none⟩ (.int .u8 0)).setCell ⟨ev, 0, none⟩ (.int .i64 er)).drew.setCell ⟨rb, ro, none⟩ (.string ⟨#[]⟩)).setCell ⟨rb, ro + 1, none⟩ (.int .i64 er)).drew := by
 have mixed := mixed
 unfold lackE
 refine callsD_of_wpS Tryz.func169 rfl fun c₀ cs hu => ?_
 apply wpS_seq
 apply wpS_region
 simp [wpOpsS, go_sem, recoverD, hu, Tryz.ntmps169, Exit.thenS]
 have hnil : ∀ w : World, (binOp BinOp.eql 20 (.iface 219 (.agg #[.int .i64 er])) .nilIface).run Tryz.prog w = .ok (.bool false) w := fun _ => by kernel_rfl
 have hta : ∀ w : World, (Instr.typeAssert (.iface 219 (.agg #[.int .i64 er])) 20 219 true).run Tryz.prog w = .ok (.tuple #[.agg #[.int .i64 er], .bool true]) w := fun _ => by kernel_rfl
 refine wpS_of_wp ?_
 have ht : (#[.pointer (some ⟨pv, 0, none⟩), .pointer (some ⟨rv, 0, none⟩), .pointer (some ⟨xv, 0, none⟩), .pointer (some ⟨ev, 0, none⟩)] ++ (Array.replicate 28 undef).setIfInBounds 4 (.iface 219 (.agg #[.int .i64 er])) : Array Value) = #[.pointer (some ⟨pv, 0, none⟩), .pointer (some ⟨rv, 0, none⟩), .pointer (some ⟨xv, 0, none⟩), .pointer (some ⟨ev, 0, none⟩), undef, undef, undef, undef, (.iface 219 (.agg #[.int .i64 er])), undef, undef, undef, undef, undef, undef, undef, undef, undef, undef, undef, undef, undef, undef, undef, undef, undef, undef, undef, undef, undef, undef, undef] := by simp [Array.replicate, List.replicate]
 rw [ht]
 have HB : Below w.heap.size w (w.alloc (.cells #[.int .i64 er] 219)) := (Below.refl _ w).alloc (Nat.le_refl _) _
 have hl : (w.alloc (.cells #[.int .i64 er] 219)).cell? ⟨w.heap.size, 0, none⟩ = some (.int .i64 er) := by simp [go_sem]
 have k2 := (HB.cell (p := ⟨rv, 0, none⟩) l1).trans h2
 have k4 := (HB.cell (p := ⟨xv, 0, none⟩) l2).trans h4
 have k5 := (HB.frozen (p := ⟨xv, 0, none⟩) l2).trans h5
 have k6 := (HB.cell (p := ⟨ev, 0, none⟩) l3).trans h6
 have k7 := (HB.frozen (p := ⟨ev, 0, none⟩) l3).trans h7
 have k8 := (HB.cell (p := ⟨rb, ro, none⟩) l4).trans h8
 have k9 := (HB.frozen (p := ⟨rb, ro, none⟩) l4).trans h9
 have k10 := (HB.cell (p := ⟨rb, ro + 1, none⟩) l4).trans h10
 have k11 := (HB.frozen (p := ⟨rb, ro + 1, none⟩) l4).trans h11
 have n1 : w.heap.size ≠ xv := by omega
 have n2 : w.heap.size ≠ ev := by omega
 have n3 : rb ≠ w.heap.size := by omega
 go_wp2
 clear HB h2 h4 h5 h6 h7 h8 h9 h10 h11 l1 l2 l3 l4
 generalize w.heap.size = lb at *
 generalize hw1 : w.alloc (.cells #[.int .i64 er] 219) = w1 at *
 have HW1 := Go.Lib.hid hw1
 clear hw1
 have q2 : (⟨xv, 0, none⟩ : Addr) ≠ ⟨rv, 0, none⟩ := fun e => d1 (congrArg Addr.block e)
 have q3 : (⟨ev, 0, none⟩ : Addr) ≠ ⟨rv, 0, none⟩ := fun e => d2 (congrArg Addr.block e)
 go_region_o
 all_goals go_wp2
 have f1 : ∀ (a : Addr) (v : Value), a.block ≠ xv → a.block ≠ ev → w1.cell? a = some v → (((w1.setCell ⟨xv, 0, none⟩ (.int .u8 0)).setCell ⟨ev, 0, none⟩ (.int .i64 er)).drew).cell? a = some v := by
  intro a v a1 a2 h
  have e1 : (⟨ev, 0, none⟩ : Addr) ≠ a := fun e => a2 (by rw [← e])
  have e2 : (⟨xv, 0, none⟩ : Addr) ≠ a := fun e => a1 (by rw [← e])
  show ((w1.setCell ⟨xv, 0, none⟩ (.int .u8 0)).setCell ⟨ev, 0, none⟩ (.int .i64 er)).cell? a = some v
  rw [World.cell?_setCell_other _ _ _ _ e1, World.cell?_setCell_other _ _ _ _ e2]; exact h
 have f2 : ∀ (a : Addr), w1.frozen? a = false → (((w1.setCell ⟨xv, 0, none⟩ (.int .u8 0)).setCell ⟨ev, 0, none⟩ (.int .i64 er)).drew).frozen? a = false := by
  intro a h
  show ((w1.setCell ⟨xv, 0, none⟩ (.int .u8 0)).setCell ⟨ev, 0, none⟩ (.int .i64 er)).frozen? a = false
  simp [go_sem, h]
 have z2 := f1 _ _ (Ne.symm d1) (Ne.symm d2) k2
 have z8 := f1 _ _ (Ne.symm d4) (Ne.symm d5) k8
 have z9 := f2 _ k9
 have z10 := f1 _ _ (Ne.symm d4) (Ne.symm d5) k10
 have z11 := f2 _ k11
 have zl := f1 _ _ n1 n2 hl
 clear f1 f2 k2 k4 k5 k6 k7 k8 k9 k10 k11 hl q2 q3
 generalize hw2 : ((w1.setCell ⟨xv, 0, none⟩ (.int .u8 0)).setCell ⟨ev, 0, none⟩ (.int .i64 er)).drew = w2 at *
 have HW2 := Go.Lib.hid hw2
 clear hw2
 have q4 : (⟨rb, ro, none⟩ : Addr) ≠ ⟨lb, 0, none⟩ := fun e => n3 (congrArg Addr.block e)
 have q5 : (⟨rb, ro, none⟩ : Addr) ≠ ⟨rv, 0, none⟩ := fun e => d6 (congrArg Addr.block e)
 go_region_o
 all_goals go_wp2
 have e1 : w.alloc (.cells #[.int .i64 er] 219) = w1 := HW1
 have e2 : ((w1.setCell ⟨xv, 0, none⟩ (.int .u8 0)).setCell ⟨ev, 0, none⟩ (.int .i64 er)).drew = w2 := HW2
 refine ⟨rfl, _, rfl, .tuple #[], ?_, rfl, rfl, ?_⟩
 · simp [results, Tryz.results169]
 · rw [e1, ← e2]; rfl
set_option maxHeartbeats 2000000 in
theorem read8_ok (rb ro : Nat) (h : FuncId) (cap : Array Value) (s rest : ByteArray) (x : Int) (w : World) (hr0 : rb < w.heap.size) (h1 : w.cell? ⟨rb, ro, none⟩ = some (.string s)) (h2 : w.cell? ⟨rb, ro + 1, none⟩ = some (.int .i64 0)) (h3 : w.frozen? ⟨rb, ro, none⟩ = false)
 (he : ∀ args w, (callFunc h args).run Tryz.prog w = .ok (.enter h args) w) (H : HowOk h cap s rest (.int .u8 x) w) :
 Calls Tryz.prog 158 #[.pointer (some ⟨rb, ro, none⟩), .func (.func h) #[] cap] w (ReadPost rb ro rest (.int .u8 x) w) := by
 have hmf : ∀ (fn : Fn) (first cap : Array Value) (w : World), (Instr.makeFunc fn first cap).run Tryz.prog w = .ok (.func fn first cap) w := fun _ _ _ _ => rfl
 have k1 : ∀ o1 o2 o3, (((w.alloc o1).alloc o2).alloc o3).cell? ⟨rb, ro, none⟩ = some (.string s) := fun o1 o2 o3 =>
  ((((Below.refl _ w).alloc (Nat.le_refl _) o1).alloc (by simp) o2).alloc (by simp; omega) o3).cell (p := ⟨rb, ro, none⟩) hr0 |>.trans h1
 have k2 : ∀ o1 o2 o3, (((w.alloc o1).alloc o2).alloc o3).cell? ⟨rb, ro + 1, none⟩ = some (.int .i64 0) := fun o1 o2 o3 =>
  ((((Below.refl _ w).alloc (Nat.le_refl _) o1).alloc (by simp) o2).alloc (by simp; omega) o3).cell (p := ⟨rb, ro + 1, none⟩) hr0 |>.trans h2
 have HH := Go.Lib.hid H
 have HR := Go.Lib.hid hr0
 clear H hr0
 go_enter_defers Tryz.func158, Tryz.ntmps158
 go_wp2
 generalize hW : ((((w.alloc (Obj.cells #[Value.pointer (some { block := rb, off := ro })] 100)).alloc (Obj.cells #[(.int .u8 0)] 5)).alloc (Obj.cells #[.int .i64 0] 37)).alloc (Obj.cells #[Value.string s] 174)).alloc (Obj.cells #[Value.pointer (some { block := w.heap.size + 1 + 1 + 1, off := 0 })] 171) = W
 have hr0 : rb < w.heap.size := HR
 obtain ⟨b0, b1, b2, b3, b4, hsz⟩ := chain5 w _ _ _ _ _ W hW
 have hBW : Below w.heap.size w W := by
  rw [← hW]
  exact (((((Below.refl _ w).alloc (Nat.le_refl _) _).alloc (by simp) _).alloc (by simp; omega) _).alloc (by simp; omega) _).alloc (by simp; omega) _
 clear hW k1 k2
 have c3 : W.cell? ⟨w.heap.size + 1 + 1 + 1, 0, none⟩ = some (.string s) := cell_one b3
 refine ((HH : HowOk h cap s rest (.int .u8 x) w) (w.heap.size + 1 + 1 + 1) W hBW (by omega) (by omega) c3 (froz_one b3)).mono ?_
 rintro r w1 ⟨rfl, hB⟩
 have hk : ∀ k, k < w.heap.size + 5 → k ≠ w.heap.size + 1 + 1 + 1 → w1.heap[k]? = W.heap[k]? := fun k h1 h2 => (hB.block k (by omega)).trans (setCell_blk (Ne.symm h2))
 have d0 : w1.heap[w.heap.size]? = _ := (hk _ (by omega) (by omega)).trans b0
 have d1 : w1.heap[w.heap.size + 1]? = _ := (hk _ (by omega) (by omega)).trans b1
 have d2 : w1.heap[w.heap.size + 1 + 1]? = _ := (hk _ (by omega) (by omega)).trans b2
 have d3 : w1.heap[w.heap.size + 1 + 1 + 1]? = some (Obj.cells #[Value.string rest] 174) := by
  rw [hB.block _ (by omega), blk_setCell b3]; rfl
 have d4 : w1.heap[w.heap.size + 1 + 1 + 1 + 1]? = _ := (hk _ (by omega) (by omega)).trans b4
 have hB1 : Below w.heap.size w w1 := (hBW.setCell (p := ⟨w.heap.size + 1 + 1 + 1, 0, none⟩) (by show _ ≤ w.heap.size + 1 + 1 + 1; omega) (.string rest)).trans (hB.mono (by omega))
 clear hk hB b0 b1 b2 b3 b4 c3 hBW
 have x1 : w1.cell? ⟨w.heap.size + 1, 0, none⟩ = some (.int .u8 0) := cell_one d1
 have x2 : w1.frozen? ⟨w.heap.size + 1, 0, none⟩ = false := froz_one d1
 have x3 : w1.cell? ⟨w.heap.size + 1 + 1, 0, none⟩ = some (.int .i64 0) := cell_one d2
 have x4 : w1.frozen? ⟨w.heap.size + 1 + 1, 0, none⟩ = false := froz_one d2
 have HD := Go.Lib.hid d0
 have HD1 := Go.Lib.hid d1
 have HD2 := Go.Lib.hid d2
 have HD3 := Go.Lib.hid d3
 have HD4 := Go.Lib.hid d4
 have HZ := Go.Lib.hid hsz
 have h1 := Go.Lib.hid h1
 have h3 := Go.Lib.hid h3
 clear d0 d1 d2 d3 d4 hsz h2 hr0
 go_wp2
 have hr0 : rb < w.heap.size := HR
 have g0 := (HD : w1.heap[w.heap.size]? = _)
 have g1 := (HD1 : w1.heap[w.heap.size + 1]? = _)
 have g2 := (HD2 : w1.heap[w.heap.size + 1 + 1]? = _)
 have g3 := (HD3 : w1.heap[w.heap.size + 1 + 1 + 1]? = _)
 have g4 := (HD4 : w1.heap[w.heap.size + 1 + 1 + 1 + 1]? = _)
 clear HD HD1 HD2 HD3 HD4 HZ HR HH x1 x2 x3 x4
 generalize hw2 : (w1.setCell { block := w.heap.size + 1, off := 0 } (.int .u8 x)).setCell { block := w.heap.size + 1 + 1, off := 0 } (Value.int IntKind.i64 0) = w2
 have ho : ∀ k, k ≠ w.heap.size + 1 → k ≠ w.heap.size + 1 + 1 → w2.heap[k]? = w1.heap[k]? := fun k a1 a2 => by rw [← hw2, setCell_blk (by exact Ne.symm a2), setCell_blk (by exact Ne.symm a1)]
 have e0 := (ho _ (by omega) (by omega)).trans g0
 have e3 := (ho _ (by omega) (by omega)).trans g3
 have e4 := (ho _ (by omega) (by omega)).trans g4
 have e1 : w2.heap[w.heap.size + 1]? = some (Obj.cells #[(.int .u8 x)] 5) := by rw [← hw2, setCell_blk (by show w.heap.size + 1 + 1 ≠ _; omega), blk_setCell g1]; rfl
 have e2 : w2.heap[w.heap.size + 1 + 1]? = some (Obj.cells #[.int .i64 0] 37) := by rw [← hw2, blk_setCell ((setCell_blk (by show w.heap.size + 1 ≠ _; omega)).trans g2)]; rfl
 have hB2 : Below w.heap.size w w2 := by rw [← hw2]; exact (hB1.setCell (by show _ ≤ w.heap.size + 1; omega) _).setCell (by show _ ≤ w.heap.size + 1 + 1; omega) _
 have er : w2.heap[rb]? = w.heap[rb]? := hB2.block rb hr0
 clear hw2 ho g0 g1 g2 g3 g4 hB1
 refine leaves_cons (f := 169) (args := #[.pointer (some ⟨w.heap.size + 1 + 1 + 1 + 1, 0, none⟩), .pointer (some ⟨w.heap.size, 0, none⟩), .pointer (some ⟨w.heap.size + 1, 0, none⟩), .pointer (some ⟨w.heap.size + 1 + 1, 0, none⟩)]) (by simp) (by simp [go_sem]) ?_
 refine (idle8 _ _ _ _ (w.heap.size + 1 + 1 + 1) rb ro rest w2 (cell_one e4) (cell_one e0) (cell_one e3) (.string s) (cell_blk (a := ⟨rb, ro, none⟩) er h1) (froz_blk (a := ⟨rb, ro, none⟩) er h3)).mono ?_
 rintro e u' w3 ⟨rfl, rfl, rfl⟩
 have y1 : (w2.drew.setCell ⟨rb, ro, none⟩ (.string rest)).cell? ⟨w.heap.size + 1, 0, none⟩ = some (.int .u8 x) := cell_blk (w := w2) (setCell_blk (by show rb ≠ w.heap.size + 1; omega)) (cell_one e1)
 have y2 : (w2.drew.setCell ⟨rb, ro, none⟩ (.string rest)).cell? ⟨w.heap.size + 1 + 1, 0, none⟩ = some (.int .i64 0) := cell_blk (w := w2) (setCell_blk (by show rb ≠ w.heap.size + 1 + 1; omega)) (cell_one e2)
 have hB3 : Below w.heap.size (w.setCell ⟨rb, ro, none⟩ (.string rest)) (w2.drew.setCell ⟨rb, ro, none⟩ (.string rest)) := below_both hB2.drew _ _
 generalize w2.drew.setCell ⟨rb, ro, none⟩ (.string rest) = w3 at *
 clear e0 e1 e2 e3 e4 er hB2
 simp [Leaves, settle, results, Tryz.results158, go_sem, y1, y2]
 exact ⟨rfl, hB3⟩
set_option maxHeartbeats 2000000 in
theorem read8_lack (rb ro : Nat) (h : FuncId) (cap : Array Value) (s : ByteArray) (er : Int) (w : World) (hr0 : rb < w.heap.size) (h1 : w.cell? ⟨rb, ro, none⟩ = some (.string s)) (h2 : w.cell? ⟨rb, ro + 1, none⟩ = some (.int .i64 0)) (h3 : w.frozen? ⟨rb, ro, none⟩ = false) (h4 : w.frozen? ⟨rb, ro + 1, none⟩ = false)
 (he : ∀ args w, (callFunc h args).run Tryz.prog w = .ok (.enter h args) w) (H : HowLack h cap s er w) :
 Calls Tryz.prog 158 #[.pointer (some ⟨rb, ro, none⟩), .func (.func h) #[] cap] w (LackPost rb ro er (.int .u8 0) w) := by
 have hmf : ∀ (fn : Fn) (first cap : Array Value) (w : World), (Instr.makeFunc fn first cap).run Tryz.prog w = .ok (.func fn first cap) w := fun _ _ _ _ => rfl
 have k1 : ∀ o1 o2 o3, (((w.alloc o1).alloc o2).alloc o3).cell? ⟨rb, ro, none⟩ = some (.string s) := fun o1 o2 o3 =>
  ((((Below.refl _ w).alloc (Nat.le_refl _) o1).alloc (by simp) o2).alloc (by simp; omega) o3).cell (p := ⟨rb, ro, none⟩) hr0 |>.trans h1
 have k2 : ∀ o1 o2 o3, (((w.alloc o1).alloc o2).alloc o3).cell? ⟨rb, ro + 1, none⟩ = some (.int .i64 0) := fun o1 o2 o3 =>
  ((((Below.refl _ w).alloc (Nat.le_refl _) o1).alloc (by simp) o2).alloc (by simp; omega) o3).cell (p := ⟨rb, ro + 1, none⟩) hr0 |>.trans h2
 have HH := Go.Lib.hid H
 have HR := Go.Lib.hid hr0
 clear H hr0
 go_enter_defers Tryz.func158, Tryz.ntmps158
 go_wp2
 generalize hW : ((((w.alloc (Obj.cells #[Value.pointer (some { block := rb, off := ro })] 100)).alloc (Obj.cells #[(.int .u8 0)] 5)).alloc (Obj.cells #[.int .i64 0] 37)).alloc (Obj.cells #[Value.string s] 174)).alloc (Obj.cells #[Value.pointer (some { block := w.heap.size + 1 + 1 + 1, off := 0 })] 171) = W
 have hr0 : rb < w.heap.size := HR
 obtain ⟨b0, b1, b2, b3, b4, hsz⟩ := chain5 w _ _ _ _ _ W hW
 have hBW : Below w.heap.size w W := by
  rw [← hW]
  exact (((((Below.refl _ w).alloc (Nat.le_refl _) _).alloc (by simp) _).alloc (by simp; omega) _).alloc (by simp; omega) _).alloc (by simp; omega) _
 clear hW k1 k2
 have c3 : W.cell? ⟨w.heap.size + 1 + 1 + 1, 0, none⟩ = some (.string s) := cell_one b3
 refine ((HH : HowLack h cap s er w) (w.heap.size + 1 + 1 + 1) W hBW (by omega) (by omega) c3 (froz_one b3)).mono ?_
 rintro r w2 ⟨rfl, pv, hB⟩
 have hk : ∀ k, k < w.heap.size + 5 → k ≠ w.heap.size + 1 + 1 + 1 → w2.heap[k]? = W.heap[k]? := fun k h1 h2 => (hB.block k (by omega)).trans (setCell_blk (Ne.symm h2))
 have e0 : w2.heap[w.heap.size]? = _ := (hk _ (by omega) (by omega)).trans b0
 have e1 : w2.heap[w.heap.size + 1]? = _ := (hk _ (by omega) (by omega)).trans b1
 have e2 : w2.heap[w.heap.size + 1 + 1]? = _ := (hk _ (by omega) (by omega)).trans b2
 have hB2 : Below w.heap.size w w2 := (hBW.setCell (p := ⟨w.heap.size + 1 + 1 + 1, 0, none⟩) (by show _ ≤ w.heap.size + 1 + 1 + 1; omega) pv).trans (hB.mono (by omega))
 have hz2 : W.heap.size ≤ w2.heap.size := by have := hB.size; simpa [World.setCell] using this
 clear hk hB b0 b1 b2 b3 b4 c3 hBW
 have er1 : w2.heap[rb]? = w.heap[rb]? := hB2.block rb hr0
 refine leaves_cons (f := 169) (args := #[.pointer (some ⟨w.heap.size + 1 + 1 + 1 + 1, 0, none⟩), .pointer (some ⟨w.heap.size, 0, none⟩), .pointer (some ⟨w.heap.size + 1, 0, none⟩), .pointer (some ⟨w.heap.size + 1 + 1, 0, none⟩)]) (by simp) (by simp [go_sem]) ?_
 refine (caught8 _ _ _ _ rb ro er w2 (cell_one e0) (.int .u8 0) (.int .i64 0) (.string s) (.int .i64 0) (cell_one e1) (froz_one e1) (cell_one e2) (froz_one e2)
  (cell_blk (a := ⟨rb, ro, none⟩) er1 h1) (froz_blk (a := ⟨rb, ro, none⟩) er1 h3) (cell_blk (a := ⟨rb, ro + 1, none⟩) er1 h2) (froz_blk (a := ⟨rb, ro + 1, none⟩) er1 h4)
  (by omega) (by omega) (by omega) (by omega) (by omega) (by omega) (by omega) (by omega) (by omega) (by omega)).mono ?_
 rintro e u' w3 ⟨rfl, rfl, hw3⟩
 have n1 : rb ≠ w.heap.size + 1 := by omega
 have n2 : rb ≠ w.heap.size + 1 + 1 := by omega
 have lt1 : w.heap.size + 1 < w2.heap.size := by omega
 have lt2 : w.heap.size + 1 + 1 < w2.heap.size := by omega
 have y1 : w3.cell? ⟨w.heap.size + 1, 0, none⟩ = some (.int .u8 0) := by
  have z : w3.heap[w.heap.size + 1]? = some (Obj.cells #[(.int .u8 0)] 5) := by
   rw [hw3]
   show ((((((w2.alloc _).setCell _ _).setCell _ _).setCell _ _).setCell _ _)).heap[_]? = _
   rw [setCell_blk (by exact n1), setCell_blk (by exact n1), setCell_blk (by show w.heap.size + 1 + 1 ≠ w.heap.size + 1; omega), blk_setCell (by rw [alloc_get, if_neg (by omega)]; exact e1)]
   rfl
  exact cell_one z
 have y2 : w3.cell? ⟨w.heap.size + 1 + 1, 0, none⟩ = some (.int .i64 er) := by
  have z : w3.heap[w.heap.size + 1 + 1]? = some (Obj.cells #[.int .i64 er] 37) := by
   rw [hw3]
   show ((((((w2.alloc _).setCell _ _).setCell _ _).setCell _ _).setCell _ _)).heap[_]? = _
   rw [setCell_blk (by exact n2), setCell_blk (by exact n2), blk_setCell ((setCell_blk (by show w.heap.size + 1 ≠ w.heap.size + 1 + 1; omega)).trans (by rw [alloc_get, if_neg (by omega)]; exact e2))]
   rfl
  exact cell_one z
 have hB3 : Below w.heap.size ((w.setCell ⟨rb, ro, none⟩ (.string ⟨#[]⟩)).setCell ⟨rb, ro + 1, none⟩ (.int .i64 er)) w3 := by
  rw [hw3]
  exact (below_both (below_both (((((hB2.alloc (by omega) _).setCell (by show w.heap.size ≤ w.heap.size + 1; omega) _).setCell (by show w.heap.size ≤ w.heap.size + 1 + 1; omega) _).drew)) _ _) _ _).drew
 clear hw3 e0 e1 e2 er1 hB2 hz2 lt1 lt2 n1 n2 h1 h2 h3 h4 hsz
 simp [Leaves, settle, results, Tryz.results158, go_sem, y1, y2]
 exact ⟨rfl, hB3⟩
set_option maxHeartbeats 2000000 in
theorem read8_wrong (rb ro : Nat) (how : Value) (er : Int) (w : World) (hr0 : rb < w.heap.size) (h2 : w.cell? ⟨rb, ro + 1, none⟩ = some (.int .i64 er)) (hne : er ≠ 0) :
 Calls Tryz.prog 158 #[.pointer (some ⟨rb, ro, none⟩), how] w fun r w' => r = .returned (.tuple #[(.int .u8 0), .int .i64 er]) ∧ Below w.heap.size w w' := by
 have mixed := mixed
 have k2 : ∀ o1 o2 o3, (((w.alloc o1).alloc o2).alloc o3).cell? ⟨rb, ro + 1, none⟩ = some (.int .i64 er) := fun o1 o2 o3 =>
  ((((Below.refl _ w).alloc (Nat.le_refl _) o1).alloc (by simp) o2).alloc (by simp; omega) o3).cell (p := ⟨rb, ro + 1, none⟩) hr0 |>.trans h2
 have q1 : (⟨w.heap.size + 1, 0, none⟩ : Addr) ≠ ⟨rb, ro + 1, none⟩ := by intro e; have e := congrArg Addr.block e; simp at e; omega
 have hbne : (er != 0) = true := by simpa using hne
 clear h2 hr0 hne
 go_enter_defers Tryz.func158, Tryz.ntmps158
 go_wp2
 go_region_o
 all_goals go_wp2
 simp [bodyPostD, Leaves, results, Tryz.results158, go_sem]
 exact ((((Below.refl _ w).alloc (Nat.le_refl _) _).alloc (by simp) _).alloc (by simp; omega) _).drew
theorem read8_nil (how : Value) (w : World) :
 Calls Tryz.prog 158 #[.pointer none, how] w fun r w' => r = .returned (.tuple #[(.int .u8 0), .int .i64 2]) ∧ Below w.heap.size w w' := by
 go_enter_defers Tryz.func158, Tryz.ntmps158
 go_wp2
 simp [bodyPostD, Leaves, results, Tryz.results158, go_sem]
 exact (((Below.refl _ w).alloc (Nat.le_refl _) _).alloc (by simp) _).alloc (by simp; omega) _
end Go.Proofs.Rdr

namespace Go.Proofs.Rdr
open Go Go.RowKit Go.Proofs
set_option maxHeartbeats 400000 in
theorem idleN (pv rv xv ev pb rb ro : Nat) (s : ByteArray) (w : World) (h1 : w.cell? ⟨pv, 0, none⟩ = some (.pointer (some ⟨pb, 0, none⟩))) (h2 : w.cell? ⟨rv, 0, none⟩ = some (.pointer (some ⟨rb, ro, none⟩)))
 (h3 : w.cell? ⟨pb, 0, none⟩ = some (.string s)) (old : Value) (h4 : w.cell? ⟨rb, ro, none⟩ = some old) (h5 : w.frozen? ⟨rb, ro, none⟩ = false) :
 CallsD Tryz.prog 168 #[.pointer (some ⟨pv, 0, none⟩), .pointer (some ⟨rv, 0, none⟩), .pointer (some ⟨xv, 0, none⟩), .pointer (some ⟨ev, 0, none⟩)] .returning w fun e u' w' =>
  e = .returned (.tuple #[]) ∧ u' = .returning ∧ w' = w.drew.setCell ⟨rb, ro, none⟩ (.string s) := by
 have mixed := mixed
 refine callsD_of_wpS Tryz.func168 rfl fun c₀ cs hu => ?_
 apply wpS_seq
 apply wpS_region
 simp [wpOpsS, go_sem, recoverD, hu, Tryz.ntmps168, Exit.thenS]
 have hnil : ∀ w : World, (binOp BinOp.eql 20 .nilIface .nilIface).run Tryz.prog w = .ok (.bool true) w := fun _ => by kernel_rfl
 have g1 : w.drew.cell? ⟨pv, 0, none⟩ = some (.pointer (some ⟨pb, 0, none⟩)) := h1
 have g2 : w.drew.cell? ⟨rv, 0, none⟩ = some (.pointer (some ⟨rb, ro, none⟩)) := h2
 have g3 : w.drew.cell? ⟨pb, 0, none⟩ = some (.string s) := h3
 have g4 : w.drew.cell? ⟨rb, ro, none⟩ = some old := h4
 have g5 : w.drew.frozen? ⟨rb, ro, none⟩ = false := h5
 refine wpS_of_wp ?_
 have ht : (#[.pointer (some ⟨pv, 0, none⟩), .pointer (some ⟨rv, 0, none⟩), .pointer (some ⟨xv, 0, none⟩), .pointer (some ⟨ev, 0, none⟩)] ++ (Array.replicate 28 undef).setIfInBounds 4 Value.nilIface : Array Value) = #[.pointer (some ⟨pv, 0, none⟩), .pointer (some ⟨rv, 0, none⟩), .pointer (some ⟨xv, 0, none⟩), .pointer (some ⟨ev, 0, none⟩), undef, undef, undef, undef, .nilIface, undef, undef, undef, undef, undef, undef, undef, undef, undef, undef, undef, undef, undef, undef, undef, undef, undef, undef, undef, undef, undef, undef, undef] := by simp [Array.replicate, List.replicate]
 rw [ht]
 go_wp2
 go_region_o
 all_goals
  go_wp2
 cases c₀
 simp_all [bodyPostS, results, Tryz.results168]
set_option maxHeartbeats 2000000 in
theorem caughtN (pv rv xv ev rb ro : Nat) (er : Int) (w : World) (h2 : w.cell? ⟨rv, 0, none⟩ = some (.pointer (some ⟨rb, ro, none⟩)))
 (ox oe os or_ : Value) (h4 : w.cell? ⟨xv, 0, none⟩ = some ox) (h5 : w.frozen? ⟨xv, 0, none⟩ = false) (h6 : w.cell? ⟨ev, 0, none⟩ = some oe) (h7 : w.frozen? ⟨ev, 0, none⟩ = false)
 (h8 : w.cell? ⟨rb, ro, none⟩ = some os) (h9 : w.frozen? ⟨rb, ro, none⟩ = false) (h10 : w.cell? ⟨rb, ro + 1, none⟩ = some or_) (h11 : w.frozen? ⟨rb, ro + 1, none⟩ = false)
 (d1 : xv ≠ rv) (d2 : ev ≠ rv) (d3 : xv ≠ ev) (d4 : xv ≠ rb) (d5 : ev ≠ rb) (d6 : rb ≠ rv) (l1 : rv < w.heap.size) (l2 : xv < w.heap.size) (l3 : ev < w.heap.size) (l4 : rb < w.heap.size) :
 CallsD Tryz.prog 168 #[.pointer (some ⟨pv, 0, none⟩), .pointer (some ⟨rv, 0, none⟩), .pointer (some ⟨xv, 0, none⟩), .pointer (some ⟨ev, 0, none⟩)] (.panicking [{ lackE er with recovered := false }]) w fun e u' w' =>
  e = .returned (.tuple #[]) ∧ u' = .panicking [{ lackE er with recovered := true }] ∧
  w' = (((((w.alloc (.cells #[.int .i64 er] 219)).setCell ⟨xv, 0, none⟩ (.int .i64 0)).setCell ⟨ev, 0, none⟩ (.int .i64 er)).drew.setCell ⟨rb, ro, none⟩ (.string ⟨#[]⟩)).setCell ⟨rb, ro + 1, none⟩ (.int .i64 er)).drew := by
 have mixed := mixed
 unfold lackE
 refine callsD_of_wpS Tryz.func168 rfl fun c₀ cs hu => ?_
 apply wpS_seq
 apply wpS_region
 simp [wpOpsS, go_sem, recoverD, hu, Tryz.ntmps168, Exit.thenS]
 have hnil : ∀ w : World, (binOp BinOp.eql 20 (.iface 219 (.agg #[.int .i64 er])) .nilIface).run Tryz.prog w = .ok (.bool false) w := fun _ => by kernel_rfl
 have hta : ∀ w : World, (Instr.typeAssert (.iface 219 (.agg #[.int .i64 er])) 20 219 true).run Tryz.prog w = .ok (.tuple #[.agg #[.int .i64 er], .bool true]) w := fun _ => by kernel_rfl
 refine wpS_of_wp ?_
 have ht : (#[.pointer (some ⟨pv, 0, none⟩), .pointer (some ⟨rv, 0, none⟩), .pointer (some ⟨xv, 0, none⟩), .pointer (some ⟨ev, 0, none⟩)] ++ (Array.replicate 28 undef).setIfInBounds 4 (.iface 219 (.agg #[.int .i64 er])) : Array Value) = #[.pointer (some ⟨pv, 0, none⟩), .pointer (some ⟨rv, 0, none⟩), .pointer (some ⟨xv, 0, none⟩), .pointer (some ⟨ev, 0, none⟩), undef, undef, undef, undef, (.iface 219 (.agg #[.int .i64 er])), undef, undef, undef, undef, undef, undef, undef, undef, undef, undef, undef, undef, undef, undef, undef, undef, undef, undef, undef, undef, undef, undef, undef] := by simp [Array.replicate, List.replicate]
 rw [ht]
 have HB : Below w.heap.size w (w.alloc (.cells #[.int .i64 er] 219)) := (Below.refl _ w).alloc (Nat.le_refl _) _
 have hl : (w.alloc (.cells #[.int .i64 er] 219)).cell? ⟨w.heap.size, 0, none⟩ = some (.int .i64 er) := by simp [go_sem]
 have k2 := (HB.cell (p := ⟨rv, 0, none⟩) l1).trans h2
 have k4 := (HB.cell (p := ⟨xv, 0, none⟩) l2).trans h4
 have k5 := (HB.frozen (p := ⟨xv, 0, none⟩) l2).trans h5
 have k6 := (HB.cell (p := ⟨ev, 0, none⟩) l3).trans h6
 have k7 := (HB.frozen (p := ⟨ev, 0, none⟩) l3).trans h7
 have k8 := (HB.cell (p := ⟨rb, ro, none⟩) l4).trans h8
 have k9 := (HB.frozen (p := ⟨rb, ro, none⟩) l4).trans h9
 have k10 := (HB.cell (p := ⟨rb, ro + 1, none⟩) l4).trans h10
 have k11 := (HB.frozen (p := ⟨rb, ro + 1, none⟩) l4).trans h11
 have n1 : w.heap.size ≠ xv := by omega
 have n2 : w.heap.size ≠ ev := by omega
 have n3 : rb ≠ w.heap.size := by omega
 go_wp2
 clear HB h2 h4 h5 h6 h7 h8 h9 h10 h11 l1 l2 l3 l4
 generalize w.heap.size = lb at *
 generalize hw1 : w.alloc (.cells #[.int .i64 er] 219) = w1 at *
 have HW1 := Go.Lib.hid hw1
 clear hw1
 have q2 : (⟨xv, 0, none⟩ : Addr) ≠ ⟨rv, 0, none⟩ := fun e => d1 (congrArg Addr.block e)
 have q3 : (⟨ev, 0, none⟩ : Addr) ≠ ⟨rv, 0, none⟩ := fun e => d2 (congrArg Addr.block e)
 go_region_o
 all_goals go_wp2
 have f1 : ∀ (a : Addr) (v : Value), a.block ≠ xv → a.block ≠ ev → w1.cell? a = some v → (((w1.setCell ⟨xv, 0, none⟩ (.int .i64 0)).setCell ⟨ev, 0, none⟩ (.int .i64 er)).drew).cell? a = some v := by
  intro a v a1 a2 h
  have e1 : (⟨ev, 0, none⟩ : Addr) ≠ a := fun e => a2 (by rw [← e])
  have e2 : (⟨xv, 0, none⟩ : Addr) ≠ a := fun e => a1 (by rw [← e])
  show ((w1.setCell ⟨xv, 0, none⟩ (.int .i64 0)).setCell ⟨ev, 0, none⟩ (.int .i64 er)).cell? a = some v
  rw [World.cell?_setCell_other _ _ _ _ e1, World.cell?_setCell_other _ _ _ _ e2]; exact h
 have f2 : ∀ (a : Addr), w1.frozen? a = false → (((w1.setCell ⟨xv, 0, none⟩ (.int .i64 0)).setCell ⟨ev, 0, none⟩ (.int .i64 er)).drew).frozen? a = false := by
  intro a h
  show ((w1.setCell ⟨xv, 0, none⟩ (.int .i64 0)).setCell ⟨ev, 0, none⟩ (.int .i64 er)).frozen? a = false
  simp [go_sem, h]
 have z2 := f1 _ _ (Ne.symm d1) (Ne.symm d2) k2
 have z8 := f1 _ _ (Ne.symm d4) (Ne.symm d5) k8
 have z9 := f2 _ k9
 have z10 := f1 _ _ (Ne.symm d4) (Ne.symm d5) k10
 have z11 := f2 _ k11
 have zl := f1 _ _ n1 n2 hl
 clear f1 f2 k2 k4 k5 k6 k7 k8 k9 k10 k11 hl q2 q3
 generalize hw2 : ((w1.setCell ⟨xv, 0, none⟩ (.int .i64 0)).setCell ⟨ev, 0, none⟩ (.int .i64 er)).drew = w2 at *
 have HW2 := Go.Lib.hid hw2
 clear hw2
 have q4 : (⟨rb, ro, none⟩ : Addr) ≠ ⟨lb, 0, none⟩ := fun e => n3 (congrArg Addr.block e)
 have q5 : (⟨rb, ro, none⟩ : Addr) ≠ ⟨rv, 0, none⟩ := fun e => d6 (congrArg Addr.block e)
 go_region_o
 all_goals go_wp2
 have e1 : w.alloc (.cells #[.int .i64 er] 219) = w1 := HW1
 have e2 : ((w1.setCell ⟨xv, 0, none⟩ (.int .i64 0)).setCell ⟨ev, 0, none⟩ (.int .i64 er)).drew = w2 := HW2
 refine ⟨rfl, _, rfl, .tuple #[], ?_, rfl, rfl, ?_⟩
 · simp [results, Tryz.results168]
 · rw [e1, ← e2]; rfl
set_option maxHeartbeats 2000000 in
theorem readN_ok (rb ro : Nat) (h : FuncId) (cap : Array Value) (s rest : ByteArray) (x : Int) (w : World) (hr0 : rb < w.heap.size) (h1 : w.cell? ⟨rb, ro, none⟩ = some (.string s)) (h2 : w.cell? ⟨rb, ro + 1, none⟩ = some (.int .i64 0)) (h3 : w.frozen? ⟨rb, ro, none⟩ = false)
 (he : ∀ args w, (callFunc h args).run Tryz.prog w = .ok (.enter h args) w) (H : HowOk h cap s rest (.int .i64 x) w) :
 Calls Tryz.prog 155 #[.pointer (some ⟨rb, ro, none⟩), .func (.func h) #[] cap] w (ReadPost rb ro rest (.int .i64 x) w) := by
 have hmf : ∀ (fn : Fn) (first cap : Array Value) (w : World), (Instr.makeFunc fn first cap).run Tryz.prog w = .ok (.func fn first cap) w := fun _ _ _ _ => rfl
 have k1 : ∀ o1 o2 o3, (((w.alloc o1).alloc o2).alloc o3).cell? ⟨rb, ro, none⟩ = some (.string s) := fun o1 o2 o3 =>
  ((((Below.refl _ w).alloc (Nat.le_refl _) o1).alloc (by simp) o2).alloc (by simp; omega) o3).cell (p := ⟨rb, ro, none⟩) hr0 |>.trans h1
 have k2 : ∀ o1 o2 o3, (((w.alloc o1).alloc o2).alloc o3).cell? ⟨rb, ro + 1, none⟩ = some (.int .i64 0) := fun o1 o2 o3 =>
  ((((Below.refl _ w).alloc (Nat.le_refl _) o1).alloc (by simp) o2).alloc (by simp; omega) o3).cell (p := ⟨rb, ro + 1, none⟩) hr0 |>.trans h2
 have HH := Go.Lib.hid H
 have HR := Go.Lib.hid hr0
 clear H hr0
 go_enter_defers Tryz.func155, Tryz.ntmps155
 go_wp2
 generalize hW : ((((w.alloc (Obj.cells #[Value.pointer (some { block := rb, off := ro })] 100)).alloc (Obj.cells #[(.int .i64 0)] 3)).alloc (Obj.cells #[.int .i64 0] 37)).alloc (Obj.cells #[Value.string s] 174)).alloc (Obj.cells #[Value.pointer (some { block := w.heap.size + 1 + 1 + 1, off := 0 })] 171) = W
 have hr0 : rb < w.heap.size := HR
 obtain ⟨b0, b1, b2, b3, b4, hsz⟩ := chain5 w _ _ _ _ _ W hW
 have hBW : Below w.heap.size w W := by
  rw [← hW]
  exact (((((Below.refl _ w).alloc (Nat.le_refl _) _).alloc (by simp) _).alloc (by simp; omega) _).alloc (by simp; omega) _).alloc (by simp; omega) _
 clear hW k1 k2
 have c3 : W.cell? ⟨w.heap.size + 1 + 1 + 1, 0, none⟩ = some (.string s) := cell_one b3
 refine ((HH : HowOk h cap s rest (.int .i64 x) w) (w.heap.size + 1 + 1 + 1) W hBW (by omega) (by omega) c3 (froz_one b3)).mono ?_
 rintro r w1 ⟨rfl, hB⟩
 have hk : ∀ k, k < w.heap.size + 5 → k ≠ w.heap.size + 1 + 1 + 1 → w1.heap[k]? = W.heap[k]? := fun k h1 h2 => (hB.block k (by omega)).trans (setCell_blk (Ne.symm h2))
 have d0 : w1.heap[w.heap.size]? = _ := (hk _ (by omega) (by omega)).trans b0
 have d1 : w1.heap[w.heap.size + 1]? = _ := (hk _ (by omega) (by omega)).trans b1
 have d2 : w1.heap[w.heap.size + 1 + 1]? = _ := (hk _ (by omega) (by omega)).trans b2
 have d3 : w1.heap[w.heap.size + 1 + 1 + 1]? = some (Obj.cells #[Value.string rest] 174) := by
  rw [hB.block _ (by omega), blk_setCell b3]; rfl
 have d4 : w1.heap[w.heap.size + 1 + 1 + 1 + 1]? = _ := (hk _ (by omega) (by omega)).trans b4
 have hB1 : Below w.heap.size w w1 := (hBW.setCell (p := ⟨w.heap.size + 1 + 1 + 1, 0, none⟩) (by show _ ≤ w.heap.size + 1 + 1 + 1; omega) (.string rest)).trans (hB.mono (by omega))
 clear hk hB b0 b1 b2 b3 b4 c3 hBW
 have x1 : w1.cell? ⟨w.heap.size + 1, 0, none⟩ = some (.int .i64 0) := cell_one d1
 have x2 : w1.frozen? ⟨w.heap.size + 1, 0, none⟩ = false := froz_one d1
 have x3 : w1.cell? ⟨w.heap.size + 1 + 1, 0, none⟩ = some (.int .i64 0) := cell_one d2
 have x4 : w1.frozen? ⟨w.heap.size + 1 + 1, 0, none⟩ = false := froz_one d2
 have HD := Go.Lib.hid d0
 have HD1 := Go.Lib.hid d1
 have HD2 := Go.Lib.hid d2
 have HD3 := Go.Lib.hid d3
 have HD4 := Go.Lib.hid d4
 have HZ := Go.Lib.hid hsz
 have h1 := Go.Lib.hid h1
 have h3 := Go.Lib.hid h3
 clear d0 d1 d2 d3 d4 hsz h2 hr0
 go_wp2
 have hr0 : rb < w.heap.size := HR
 have g0 := (HD : w1.heap[w.heap.size]? = _)
 have g1 := (HD1 : w1.heap[w.heap.size + 1]? = _)
 have g2 := (HD2 : w1.heap[w.heap.size + 1 + 1]? = _)
 have g3 := (HD3 : w1.heap[w.heap.size + 1 + 1 + 1]? = _)
 have g4 := (HD4 : w1.heap[w.heap.size + 1 + 1 + 1 + 1]? = _)
 clear HD HD1 HD2 HD3 HD4 HZ HR HH x1 x2 x3 x4
 generalize hw2 : (w1.setCell { block := w.heap.size + 1, off := 0 } (.int .i64 x)).setCell { block := w.heap.size + 1 + 1, off := 0 } (Value.int IntKind.i64 0) = w2
 have ho : ∀ k, k ≠ w.heap.size + 1 → k ≠ w.heap.size + 1 + 1 → w2.heap[k]? = w1.heap[k]? := fun k a1 a2 => by rw [← hw2, setCell_blk (by exact Ne.symm a2), setCell_blk (by exact Ne.symm a1)]
 have e0 := (ho _ (by omega) (by omega)).trans g0
 have e3 := (ho _ (by omega) (by omega)).trans g3
 have e4 := (ho _ (by omega) (by omega)).trans g4
 have e1 : w2.heap[w.heap.size + 1]? = some (Obj.cells #[(.int .i64 x)] 3) := by rw [← hw2, setCell_blk (by show w.heap.size + 1 + 1 ≠ _; omega), blk_setCell g1]; rfl
 have e2 : w2.heap[w.heap.size + 1 + 1]? = some (Obj.cells #[.int .i64 0] 37) := by rw [← hw2, blk_setCell ((setCell_blk (by show w.heap.size + 1 ≠ _; omega)).trans g2)]; rfl
 have hB2 : Below w.heap.size w w2 := by rw [← hw2]; exact (hB1.setCell (by show _ ≤ w.heap.size + 1; omega) _).setCell (by show _ ≤ w.heap.size + 1 + 1; omega) _
 have er : w2.heap[rb]? = w.heap[rb]? := hB2.block rb hr0
 clear hw2 ho g0 g1 g2 g3 g4 hB1
 refine leaves_cons (f := 168) (args := #[.pointer (some ⟨w.heap.size + 1 + 1 + 1 + 1, 0, none⟩), .pointer (some ⟨w.heap.size, 0, none⟩), .pointer (some ⟨w.heap.size + 1, 0, none⟩), .pointer (some ⟨w.heap.size + 1 + 1, 0, none⟩)]) (by simp) (by simp [go_sem]) ?_
 refine (idleN _ _ _ _ (w.heap.size + 1 + 1 + 1) rb ro rest w2 (cell_one e4) (cell_one e0) (cell_one e3) (.string s) (cell_blk (a := ⟨rb, ro, none⟩) er h1) (froz_blk (a := ⟨rb, ro, none⟩) er h3)).mono ?_
 rintro e u' w3 ⟨rfl, rfl, rfl⟩
 have y1 : (w2.drew.setCell ⟨rb, ro, none⟩ (.string rest)).cell? ⟨w.heap.size + 1, 0, none⟩ = some (.int .i64 x) := cell_blk (w := w2) (setCell_blk (by show rb ≠ w.heap.size + 1; omega)) (cell_one e1)
 have y2 : (w2.drew.setCell ⟨rb, ro, none⟩ (.string rest)).cell? ⟨w.heap.size + 1 + 1, 0, none⟩ = some (.int .i64 0) := cell_blk (w := w2) (setCell_blk (by show rb ≠ w.heap.size + 1 + 1; omega)) (cell_one e2)
 have hB3 : Below w.heap.size (w.setCell ⟨rb, ro, none⟩ (.string rest)) (w2.drew.setCell ⟨rb, ro, none⟩ (.string rest)) := below_both hB2.drew _ _
 generalize w2.drew.setCell ⟨rb, ro, none⟩ (.string rest) = w3 at *
 clear e0 e1 e2 e3 e4 er hB2
 simp [Leaves, settle, results, Tryz.results155, go_sem, y1, y2]
 exact ⟨rfl, hB3⟩
set_option maxHeartbeats 2000000 in
theorem readN_lack (rb ro : Nat) (h : FuncId) (cap : Array Value) (s : ByteArray) (er : Int) (w : World) (hr0 : rb < w.heap.size) (h1 : w.cell? ⟨rb, ro, none⟩ = some (.string s)) (h2 : w.cell? ⟨rb, ro + 1, none⟩ = some (.int .i64 0)) (h3 : w.frozen? ⟨rb, ro, none⟩ = false) (h4 : w.frozen? ⟨rb, ro + 1, none⟩ = false)
 (he : ∀ args w, (callFunc h args).run Tryz.prog w = .ok (.enter h args) w) (H : HowLack h cap s er w) :
 Calls Tryz.prog 155 #[.pointer (some ⟨rb, ro, none⟩), .func (.func h) #[] cap] w (LackPost rb ro er (.int .i64 0) w) := by
 have hmf : ∀ (fn : Fn) (first cap : Array Value) (w : World), (Instr.makeFunc fn first cap).run Tryz.prog w = .ok (.func fn first cap) w := fun _ _ _ _ => rfl
 have k1 : ∀ o1 o2 o3, (((w.alloc o1).alloc o2).alloc o3).cell? ⟨rb, ro, none⟩ = some (.string s) := fun o1 o2 o3 =>
  ((((Below.refl _ w).alloc (Nat.le_refl _) o1).alloc (by simp) o2).alloc (by simp; omega) o3).cell (p := ⟨rb, ro, none⟩) hr0 |>.trans h1
 have k2 : ∀ o1 o2 o3, (((w.alloc o1).alloc o2).alloc o3).cell? ⟨rb, ro + 1, none⟩ = some (.int .i64 0) := fun o1 o2 o3 =>
  ((((Below.refl _ w).alloc (Nat.le_refl _) o1).alloc (by simp) o2).alloc (by simp; omega) o3).cell (p := ⟨rb, ro + 1, none⟩) hr0 |>.trans h2
 have HH := Go.Lib.hid H
 have HR := Go.Lib.hid hr0
 clear H hr0
 go_enter_defers Tryz.func155, Tryz.ntmps155
 go_wp2
 generalize hW : ((((w.alloc (Obj.cells #[Value.pointer (some { block := rb, off := ro })] 100)).alloc (Obj.cells #[(.int .i64 0)] 3)).alloc (Obj.cells #[.int .i64 0] 37)).alloc (Obj.cells #[Value.string s] 174)).alloc (Obj.cells #[Value.pointer (some { block := w.heap.size + 1 + 1 + 1, off := 0 })] 171) = W
 have hr0 : rb < w.heap.size := HR
 obtain ⟨b0, b1, b2, b3, b4, hsz⟩ := chain5 w _ _ _ _ _ W hW
 have hBW : Below w.heap.size w W := by
  rw [← hW]
  exact (((((Below.refl _ w).alloc (Nat.le_refl _) _).alloc (by simp) _).alloc (by simp; omega) _).alloc (by simp; omega) _).alloc (by simp; omega) _
 clear hW k1 k2
 have c3 : W.cell? ⟨w.heap.size + 1 + 1 + 1, 0, none⟩ = some (.string s) := cell_one b3
 refine ((HH : HowLack h cap s er w) (w.heap.size + 1 + 1 + 1) W hBW (by omega) (by omega) c3 (froz_one b3)).mono ?_
 rintro r w2 ⟨rfl, pv, hB⟩
 have hk : ∀ k, k < w.heap.size + 5 → k ≠ w.heap.size + 1 + 1 + 1 → w2.heap[k]? = W.heap[k]? := fun k h1 h2 => (hB.block k (by omega)).trans (setCell_blk (Ne.symm h2))
 have e0 : w2.heap[w.heap.size]? = _ := (hk _ (by omega) (by omega)).trans b0
 have e1 : w2.heap[w.heap.size + 1]? = _ := (hk _ (by omega) (by omega)).trans b1
 have e2 : w2.heap[w.heap.size + 1 + 1]? = _ := (hk _ (by omega) (by omega)).trans b2
 have hB2 : Below w.heap.size w w2 := (hBW.setCell (p := ⟨w.heap.size + 1 + 1 + 1, 0, none⟩) (by show _ ≤ w.heap.size + 1 + 1 + 1; omega) pv).trans (hB.mono (by omega))
 have hz2 : W.heap.size ≤ w2.heap.size := by have := hB.size; simpa [World.setCell] using this
 clear hk hB b0 b1 b2 b3 b4 c3 hBW
 have er1 : w2.heap[rb]? = w.heap[rb]? := hB2.block rb hr0
 refine leaves_cons (f := 168) (args := #[.pointer (some ⟨w.heap.size + 1 + 1 + 1 + 1, 0, none⟩), .pointer (some ⟨w.heap.size, 0, none⟩), .pointer (some ⟨w.heap.size + 1, 0, none⟩), .pointer (some ⟨w.heap.size + 1 + 1, 0, none⟩)]) (by simp) (by simp [go_sem]) ?_
 refine (caughtN _ _ _ _ rb ro er w2 (cell_one e0) (.int .i64 0) (.int .i64 0) (.string s) (.int .i64 0) (cell_one e1) (froz_one e1) (cell_one e2) (froz_one e2)
  (cell_blk (a := ⟨rb, ro, none⟩) er1 h1) (froz_blk (a := ⟨rb, ro, none⟩) er1 h3) (cell_blk (a := ⟨rb, ro + 1, none⟩) er1 h2) (froz_blk (a := ⟨rb, ro + 1, none⟩) er1 h4)
  (by omega) (by omega) (by omega) (by omega) (by omega) (by omega) (by omega) (by omega) (by omega) (by omega)).mono ?_
 rintro e u' w3 ⟨rfl, rfl, hw3⟩
 have n1 : rb ≠ w.heap.size + 1 := by omega
 have n2 : rb ≠ w.heap.size + 1 + 1 := by omega
 have lt1 : w.heap.size + 1 < w2.heap.size := by omega
 have lt2 : w.heap.size + 1 + 1 < w2.heap.size := by omega
 have y1 : w3.cell? ⟨w.heap.size + 1, 0, none⟩ = some (.int .i64 0) := by
  have z : w3.heap[w.heap.size + 1]? = some (Obj.cells #[(.int .i64 0)] 3) := by
   rw [hw3]
   show ((((((w2.alloc _).setCell _ _).setCell _ _).setCell _ _).setCell _ _)).heap[_]? = _
   rw [setCell_blk (by exact n1), setCell_blk (by exact n1), setCell_blk (by show w.heap.size + 1 + 1 ≠ w.heap.size + 1; omega), blk_setCell (by rw [alloc_get, if_neg (by omega)]; exact e1)]
   rfl
  exact cell_one z
 have y2 : w3.cell? ⟨w.heap.size + 1 + 1, 0, none⟩ = some (.int .i64 er) := by
  have z : w3.heap[w.heap.size + 1 + 1]? = some (Obj.cells #[.int .i64 er] 37) := by
   rw [hw3]
   show ((((((w2.alloc _).setCell _ _).setCell _ _).setCell _ _).setCell _ _)).heap[_]? = _
   rw [setCell_blk (by exact n2), setCell_blk (by exact n2), blk_setCell ((setCell_blk (by show w.heap.size + 1 ≠ w.heap.size + 1 + 1; omega)).trans (by rw [alloc_get, if_neg (by omega)]; exact e2))]
   rfl
  exact cell_one z
 have hB3 : Below w.heap.size ((w.setCell ⟨rb, ro, none⟩ (.string ⟨#[]⟩)).setCell ⟨rb, ro + 1, none⟩ (.int .i64 er)) w3 := by
  rw [hw3]
  exact (below_both (below_both (((((hB2.alloc (by omega) _).setCell (by show w.heap.size ≤ w.heap.size + 1; omega) _).setCell (by show w.heap.size ≤ w.heap.size + 1 + 1; omega) _).drew)) _ _) _ _).drew
 clear hw3 e0 e1 e2 er1 hB2 hz2 lt1 lt2 n1 n2 h1 h2 h3 h4 hsz
 simp [Leaves, settle, results, Tryz.results155, go_sem, y1, y2]
 exact ⟨rfl, hB3⟩
set_option maxHeartbeats 2000000 in
theorem readN_wrong (rb ro : Nat) (how : Value) (er : Int) (w : World) (hr0 : rb < w.heap.size) (h2 : w.cell? ⟨rb, ro + 1, none⟩ = some (.int .i64 er)) (hne : er ≠ 0) :
 Calls Tryz.prog 155 #[.pointer (some ⟨rb, ro, none⟩), how] w fun r w' => r = .returned (.tuple #[(.int .i64 0), .int .i64 er]) ∧ Below w.heap.size w w' := by
 have mixed := mixed
 have k2 : ∀ o1 o2 o3, (((w.alloc o1).alloc o2).alloc o3).cell? ⟨rb, ro + 1, none⟩ = some (.int .i64 er) := fun o1 o2 o3 =>
  ((((Below.refl _ w).alloc (Nat.le_refl _) o1).alloc (by simp) o2).alloc (by simp; omega) o3).cell (p := ⟨rb, ro + 1, none⟩) hr0 |>.trans h2
 have q1 : (⟨w.heap.size + 1, 0, none⟩ : Addr) ≠ ⟨rb, ro + 1, none⟩ := by intro e; have e := congrArg Addr.block e; simp at e; omega
 have hbne : (er != 0) = true := by simpa using hne
 clear h2 hr0 hne
 go_enter_defers Tryz.func155, Tryz.ntmps155
 go_wp2
 go_region_o
 all_goals go_wp2
 simp [bodyPostD, Leaves, results, Tryz.results155, go_sem]
 exact ((((Below.refl _ w).alloc (Nat.le_refl _) _).alloc (by simp) _).alloc (by simp; omega) _).drew
theorem readN_nil (how : Value) (w : World) :
 Calls Tryz.prog 155 #[.pointer none, how] w fun r w' => r = .returned (.tuple #[(.int .i64 0), .int .i64 2]) ∧ Below w.heap.size w w' := by
 go_enter_defers Tryz.func155, Tryz.ntmps155
 go_wp2
 simp [bodyPostD, Leaves, results, Tryz.results155, go_sem]
 exact (((Below.refl _ w).alloc (Nat.le_refl _) _).alloc (by simp) _).alloc (by simp; omega) _
end Go.Proofs.Rdr

namespace Go.Proofs.Rdr
open Go Go.RowKit Go.Proofs
set_option maxHeartbeats 400000 in
theorem idleS (pv rv xv ev pb rb ro : Nat) (s : ByteArray) (w : World) (h1 : w.cell? ⟨pv, 0, none⟩ = some (.pointer (some ⟨pb, 0, none⟩))) (h2 : w.cell? ⟨rv, 0, none⟩ = some (.pointer (some ⟨rb, ro, none⟩)))
 (h3 : w.cell? ⟨pb, 0, none⟩ = some (.string s)) (old : Value) (h4 : w.cell? ⟨rb, ro, none⟩ = some old) (h5 : w.frozen? ⟨rb, ro, none⟩ = false) :
 CallsD Tryz.prog 172 #[.pointer (some ⟨pv, 0, none⟩), .pointer (some ⟨rv, 0, none⟩), .pointer (some ⟨xv, 0, none⟩), .pointer (some ⟨ev, 0, none⟩)] .returning w fun e u' w' =>
  e = .returned (.tuple #[]) ∧ u' = .returning ∧ w' = w.drew.setCell ⟨rb, ro, none⟩ (.string s) := by
 have mixed := mixed
 refine callsD_of_wpS Tryz.func172 rfl fun c₀ cs hu => ?_
 apply wpS_seq
 apply wpS_region
 simp [wpOpsS, go_sem, recoverD, hu, Tryz.ntmps172, Exit.thenS]
 have hnil : ∀ w : World, (binOp BinOp.eql 20 .nilIface .nilIface).run Tryz.prog w = .ok (.bool true) w := fun _ => by kernel_rfl
 have g1 : w.drew.cell? ⟨pv, 0, none⟩ = some (.pointer (some ⟨pb, 0, none⟩)) := h1
 have g2 : w.drew.cell? ⟨rv, 0, none⟩ = some (.pointer (some ⟨rb, ro, none⟩)) := h2
 have g3 : w.drew.cell? ⟨pb, 0, none⟩ = some (.string s) := h3
 have g4 : w.drew.cell? ⟨rb, ro, none⟩ = some old := h4
 have g5 : w.drew.frozen? ⟨rb, ro, none⟩ = false := h5
 refine wpS_of_wp ?_
 have ht : (#[.pointer (some ⟨pv, 0, none⟩), .pointer (some ⟨rv, 0, none⟩), .pointer (some ⟨xv, 0, none⟩), .pointer (some ⟨ev, 0, none⟩)] ++ (Array.replicate 28 undef).setIfInBounds 4 Value.nilIface : Array Value) = #[.pointer (some ⟨pv, 0, none⟩), .pointer (some ⟨rv, 0, none⟩), .pointer (some ⟨xv, 0, none⟩), .pointer (some ⟨ev, 0, none⟩), undef, undef, undef, undef, .nilIface, undef, undef, undef, undef, undef, undef, undef, undef, undef, undef, undef, undef, undef, undef, undef, undef, undef, undef, undef, undef, undef, undef, undef] := by simp [Array.replicate, List.replicate]
 rw [ht]
 go_wp2
 go_region_o
 all_goals
  go_wp2
 cases c₀
 simp_all [bodyPostS, results, Tryz.results172]
set_option maxHeartbeats 2000000 in
theorem caughtS (pv rv xv ev rb ro : Nat) (er : Int) (w : World) (h2 : w.cell? ⟨rv, 0, none⟩ = some (.pointer (some ⟨rb, ro, none⟩)))
 (ox oe os or_ : Value) (h4 : w.cell? ⟨xv, 0, none⟩ = some ox) (h5 : w.frozen? ⟨xv, 0, none⟩ = false) (h6 : w.cell? ⟨ev, 0, none⟩ = some oe) (h7 : w.frozen? ⟨ev, 0, none⟩ = false)
 (h8 : w.cell? ⟨rb, ro, none⟩ = some os) (h9 : w.frozen? ⟨rb, ro, none⟩ = false) (h10 : w.cell? ⟨rb, ro + 1, none⟩ = some or_) (h11 : w.frozen? ⟨rb, ro + 1, none⟩ = false)
 (d1 : xv ≠ rv) (d2 : ev ≠ rv) (d3 : xv ≠ ev) (d4 : xv ≠ rb) (d5 : ev ≠ rb) (d6 : rb ≠ rv) (l1 : rv < w.heap.size) (l2 : xv < w.heap.size) (l3 : ev < w.heap.size) (l4 : rb < w.heap.size) :
 CallsD Tryz.prog 172 #[.pointer (some ⟨pv, 0, none⟩), .pointer (some ⟨rv, 0, none⟩), .pointer (some ⟨xv, 0, none⟩), .pointer (some ⟨ev, 0, none⟩)] (.panicking [{ lackE er with recovered := false }]) w fun e u' w' =>
  e = .returned (.tuple #[]) ∧ u' = .panicking [{ lackE er with recovered := true }] ∧
  w' = (((((w.alloc (.cells #[.int .i64 er] 219)).setCell ⟨xv, 0, none⟩ (.string ⟨#[]⟩)).setCell ⟨ev, 0, none⟩ (.int .i64 er)).drew.setCell ⟨rb, ro, none⟩ (.string ⟨#[]⟩)).setCell ⟨rb, ro + 1, none⟩ (.int .i64 er)).drew := by
 have mixed := mixed
 unfold lackE
 refine callsD_of_wpS Tryz.func172 rfl fun c₀ cs hu => ?_
 apply wpS_seq
 apply wpS_region
 simp [wpOpsS, go_sem, recoverD, hu, Tryz.ntmps172, Exit.thenS]
 have hnil : ∀ w : World, (binOp BinOp.eql 20 (.iface 219 (.agg #[.int .i64 er])) .nilIface).run Tryz.prog w = .ok (.bool false) w := fun _ => by kernel_rfl
 have hta : ∀ w : World, (Instr.typeAssert (.iface 219 (.agg #[.int .i64 er])) 20 219 true).run Tryz.prog w = .ok (.tuple #[.agg #[.int .i64 er], .bool true]) w := fun _ => by kernel_rfl
 refine wpS_of_wp ?_
 have ht : (#[.pointer (some ⟨pv, 0, none⟩), .pointer (some ⟨rv, 0, none⟩), .pointer (some ⟨xv, 0, none⟩), .pointer (some ⟨ev, 0, none⟩)] ++ (Array.replicate 28 undef).setIfInBounds 4 (.iface 219 (.agg #[.int .i64 er])) : Array Value) = #[.pointer (some ⟨pv, 0, none⟩), .pointer (some ⟨rv, 0, none⟩), .pointer (some ⟨xv, 0, none⟩), .pointer (some ⟨ev, 0, none⟩), undef, undef, undef, undef, (.iface 219 (.agg #[.int .i64 er])), undef, undef, undef, undef, undef, undef, undef, undef, undef, undef, undef, undef, undef, undef, undef, undef, undef, undef, undef, undef, undef, undef, undef] := by simp [Array.replicate, List.replicate]
 rw [ht]
 have HB : Below w.heap.size w (w.alloc (.cells #[.int .i64 er] 219)) := (Below.refl _ w).alloc (Nat.le_refl _) _
 have hl : (w.alloc (.cells #[.int .i64 er] 219)).cell? ⟨w.heap.size, 0, none⟩ = some (.int .i64 er) := by simp [go_sem]
 have k2 := (HB.cell (p := ⟨rv, 0, none⟩) l1).trans h2
 have k4 := (HB.cell (p := ⟨xv, 0, none⟩) l2).trans h4
 have k5 := (HB.frozen (p := ⟨xv, 0, none⟩) l2).trans h5
 have k6 := (HB.cell (p := ⟨ev, 0, none⟩) l3).trans h6
 have k7 := (HB.frozen (p := ⟨ev, 0, none⟩) l3).trans h7
 have k8 := (HB.cell (p := ⟨rb, ro, none⟩) l4).trans h8
 have k9 := (HB.frozen (p := ⟨rb, ro, none⟩) l4).trans h9
 have k10 := (HB.cell (p := ⟨rb, ro + 1, none⟩) l4).trans h10
 have k11 := (HB.frozen (p := ⟨rb, ro + 1, none⟩) l4).trans h11
 have n1 : w.heap.size ≠ xv := by omega
 have n2 : w.heap.size ≠ ev := by omega
 have n3 : rb ≠ w.heap.size := by omega
 go_wp2
 clear HB h2 h4 h5 h6 h7 h8 h9 h10 h11 l1 l2 l3 l4
 generalize w.heap.size = lb at *
 generalize hw1 : w.alloc (.cells #[.int .i64 er] 219) = w1 at *
 have HW1 := Go.Lib.hid hw1
 clear hw1
 have q2 : (⟨xv, 0, none⟩ : Addr) ≠ ⟨rv, 0, none⟩ := fun e => d1 (congrArg Addr.block e)
 have q3 : (⟨ev, 0, none⟩ : Addr) ≠ ⟨rv, 0, none⟩ := fun e => d2 (congrArg Addr.block e)
 go_region_o
 all_goals go_wp2
 have f1 : ∀ (a : Addr) (v : Value), a.block ≠ xv → a.block ≠ ev → w1.cell? a = some v → (((w1.setCell ⟨xv, 0, none⟩ (.string ⟨#[]⟩)).setCell ⟨ev, 0, none⟩ (.int .i64 er)).drew).cell? a = some v := by
  intro a v a1 a2 h
  have e1 : (⟨ev, 0, none⟩ : Addr) ≠ a := fun e => a2 (by rw [← e])
  have e2 : (⟨xv, 0, none⟩ : Addr) ≠ a := fun e => a1 (by rw [← e])
  show ((w1.setCell ⟨xv, 0, none⟩ (.string ⟨#[]⟩)).setCell ⟨ev, 0, none⟩ (.int .i64 er)).cell? a = some v
  rw [World.cell?_setCell_other _ _ _ _ e1, World.cell?_setCell_other _ _ _ _ e2]; exact h
 have f2 : ∀ (a : Addr), w1.frozen? a = false → (((w1.setCell ⟨xv, 0, none⟩ (.string ⟨#[]⟩)).setCell ⟨ev, 0, none⟩ (.int .i64 er)).drew).frozen? a = false := by
  intro a h
  show ((w1.setCell ⟨xv, 0, none⟩ (.string ⟨#[]⟩)).setCell ⟨ev, 0, none⟩ (.int .i64 er)).frozen? a = false
  simp [go_sem, h]
 have z2 := f1 _ _ (Ne.symm d1) (Ne.symm d2) k2
 have z8 := f1 _ _ (Ne.symm d4) (Ne.symm d5) k8
 have z9 := f2 _ k9
 have z10 := f1 _ _ (Ne.symm d4) (Ne.symm d5) k10
 have z11 := f2 _ k11
 have zl := f1 _ _ n1 n2 hl
 clear f1 f2 k2 k4 k5 k6 k7 k8 k9 k10 k11 hl q2 q3
 generalize hw2 : ((w1.setCell ⟨xv, 0, none⟩ (.string ⟨#[]⟩)).setCell ⟨ev, 0, none⟩ (.int .i64 er)).drew = w2 at *
 have HW2 := Go.Lib.hid hw2
 clear hw2
 have q4 : (⟨rb, ro, none⟩ : Addr) ≠ ⟨lb, 0, none⟩ := fun e => n3 (congrArg Addr.block e)
 have q5 : (⟨rb, ro, none⟩ : Addr) ≠ ⟨rv, 0, none⟩ := fun e => d6 (congrArg Addr.block e)
 go_region_o
 all_goals go_wp2
 have e1 : w.alloc (.cells #[.int .i64 er] 219) = w1 := HW1
 have e2 : ((w1.setCell ⟨xv, 0, none⟩ (.string ⟨#[]⟩)).setCell ⟨ev, 0, none⟩ (.int .i64 er)).drew = w2 := HW2
 refine ⟨rfl, _, rfl, .tuple #[], ?_, rfl, rfl, ?_⟩
 · simp [results, Tryz.results172]
 · rw [e1, ← e2]; rfl
set_option maxHeartbeats 2000000 in
theorem readS_ok (rb ro : Nat) (h : FuncId) (cap : Array Value) (s rest : ByteArray) (x : ByteArray) (w : World) (hr0 : rb < w.heap.size) (h1 : w.cell? ⟨rb, ro, none⟩ = some (.string s)) (h2 : w.cell? ⟨rb, ro + 1, none⟩ = some (.int .i64 0)) (h3 : w.frozen? ⟨rb, ro, none⟩ = false)
 (he : ∀ args w, (callFunc h args).run Tryz.prog w = .ok (.enter h args) w) (H : HowOk h cap s rest (.string x) w) :
 Calls Tryz.prog 165 #[.pointer (some ⟨rb, ro, none⟩), .func (.func h) #[] cap] w (ReadPost rb ro rest (.string x) w) := by
 have hmf : ∀ (fn : Fn) (first cap : Array Value) (w : World), (Instr.makeFunc fn first cap).run Tryz.prog w = .ok (.func fn first cap) w := fun _ _ _ _ => rfl
 have k1 : ∀ o1 o2 o3, (((w.alloc o1).alloc o2).alloc o3).cell? ⟨rb, ro, none⟩ = some (.string s) := fun o1 o2 o3 =>
  ((((Below.refl _ w).alloc (Nat.le_refl _) o1).alloc (by simp) o2).alloc (by simp; omega) o3).cell (p := ⟨rb, ro, none⟩) hr0 |>.trans h1
 have k2 : ∀ o1 o2 o3, (((w.alloc o1).alloc o2).alloc o3).cell? ⟨rb, ro + 1, none⟩ = some (.int .i64 0) := fun o1 o2 o3 =>
  ((((Below.refl _ w).alloc (Nat.le_refl _) o1).alloc (by simp) o2).alloc (by simp; omega) o3).cell (p := ⟨rb, ro + 1, none⟩) hr0 |>.trans h2
 have HH := Go.Lib.hid H
 have HR := Go.Lib.hid hr0
 clear H hr0
 go_enter_defers Tryz.func165, Tryz.ntmps165
 go_wp2
 generalize hW : ((((w.alloc (Obj.cells #[Value.pointer (some { block := rb, off := ro })] 100)).alloc (Obj.cells #[(.string ⟨#[]⟩)] 9)).alloc (Obj.cells #[.int .i64 0] 37)).alloc (Obj.cells #[Value.string s] 174)).alloc (Obj.cells #[Value.pointer (some { block := w.heap.size + 1 + 1 + 1, off := 0 })] 171) = W
 have hr0 : rb < w.heap.size := HR
 obtain ⟨b0, b1, b2, b3, b4, hsz⟩ := chain5 w _ _ _ _ _ W hW
 have hBW : Below w.heap.size w W := by
  rw [← hW]
  exact (((((Below.refl _ w).alloc (Nat.le_refl _) _).alloc (by simp) _).alloc (by simp; omega) _).alloc (by simp; omega) _).alloc (by simp; omega) _
 clear hW k1 k2
 have c3 : W.cell? ⟨w.heap.size + 1 + 1 + 1, 0, none⟩ = some (.string s) := cell_one b3
 refine ((HH : HowOk h cap s rest (.string x) w) (w.heap.size + 1 + 1 + 1) W hBW (by omega) (by omega) c3 (froz_one b3)).mono ?_
 rintro r w1 ⟨rfl, hB⟩
 have hk : ∀ k, k < w.heap.size + 5 → k ≠ w.heap.size + 1 + 1 + 1 → w1.heap[k]? = W.heap[k]? := fun k h1 h2 => (hB.block k (by omega)).trans (setCell_blk (Ne.symm h2))
 have d0 : w1.heap[w.heap.size]? = _ := (hk _ (by omega) (by omega)).trans b0
 have d1 : w1.heap[w.heap.size + 1]? = _ := (hk _ (by omega) (by omega)).trans b1
 have d2 : w1.heap[w.heap.size + 1 + 1]? = _ := (hk _ (by omega) (by omega)).trans b2
 have d3 : w1.heap[w.heap.size + 1 + 1 + 1]? = some (Obj.cells #[Value.string rest] 174) := by
  rw [hB.block _ (by omega), blk_setCell b3]; rfl
 have d4 : w1.heap[w.heap.size + 1 + 1 + 1 + 1]? = _ := (hk _ (by omega) (by omega)).trans b4
 have hB1 : Below w.heap.size w w1 := (hBW.setCell (p := ⟨w.heap.size + 1 + 1 + 1, 0, none⟩) (by show _ ≤ w.heap.size + 1 + 1 + 1; omega) (.string rest)).trans (hB.mono (by omega))
 clear hk hB b0 b1 b2 b3 b4 c3 hBW
 have x1 : w1.cell? ⟨w.heap.size + 1, 0, none⟩ = some (.string ⟨#[]⟩) := cell_one d1
 have x2 : w1.frozen? ⟨w.heap.size + 1, 0, none⟩ = false := froz_one d1
 have x3 : w1.cell? ⟨w.heap.size + 1 + 1, 0, none⟩ = some (.int .i64 0) := cell_one d2
 have x4 : w1.frozen? ⟨w.heap.size + 1 + 1, 0, none⟩ = false := froz_one d2
 have HD := Go.Lib.hid d0
 have HD1 := Go.Lib.hid d1
 have HD2 := Go.Lib.hid d2
 have HD3 := Go.Lib.hid d3
 have HD4 := Go.Lib.hid d4
 have HZ := Go.Lib.hid hsz
 have h1 := Go.Lib.hid h1
 have h3 := Go.Lib.hid h3
 clear d0 d1 d2 d3 d4 hsz h2 hr0
 go_wp2
 have hr0 : rb < w.heap.size := HR
 have g0 := (HD : w1.heap[w.heap.size]? = _)
 have g1 := (HD1 : w1.heap[w.heap.size + 1]? = _)
 have g2 := (HD2 : w1.heap[w.heap.size + 1 + 1]? = _)
 have g3 := (HD3 : w1.heap[w.heap.size + 1 + 1 + 1]? = _)
 have g4 := (HD4 : w1.heap[w.heap.size + 1 + 1 + 1 + 1]? = _)
 clear HD HD1 HD2 HD3 HD4 HZ HR HH x1 x2 x3 x4
 generalize hw2 : (w1.setCell { block := w.heap.size + 1, off := 0 } (.string x)).setCell { block := w.heap.size + 1 + 1, off := 0 } (Value.int IntKind.i64 0) = w2
 have ho : ∀ k, k ≠ w.heap.size + 1 → k ≠ w.heap.size + 1 + 1 → w2.heap[k]? = w1.heap[k]? := fun k a1 a2 => by rw [← hw2, setCell_blk (by exact Ne.symm a2), setCell_blk (by exact Ne.symm a1)]
 have e0 := (ho _ (by omega) (by omega)).trans g0
 have e3 := (ho _ (by omega) (by omega)).trans g3
 have e4 := (ho _ (by omega) (by omega)).trans g4
 have e1 : w2.heap[w.heap.size + 1]? = some (Obj.cells #[(.string x)] 9) := by rw [← hw2, setCell_blk (by show w.heap.size + 1 + 1 ≠ _; omega), blk_setCell g1]; rfl
 have e2 : w2.heap[w.heap.size + 1 + 1]? = some (Obj.cells #[.int .i64 0] 37) := by rw [← hw2, blk_setCell ((setCell_blk (by show w.heap.size + 1 ≠ _; omega)).trans g2)]; rfl
 have hB2 : Below w.heap.size w w2 := by rw [← hw2]; exact (hB1.setCell (by show _ ≤ w.heap.size + 1; omega) _).setCell (by show _ ≤ w.heap.size + 1 + 1; omega) _
 have er : w2.heap[rb]? = w.heap[rb]? := hB2.block rb hr0
 clear hw2 ho g0 g1 g2 g3 g4 hB1
 refine leaves_cons (f := 172) (args := #[.pointer (some ⟨w.heap.size + 1 + 1 + 1 + 1, 0, none⟩), .pointer (some ⟨w.heap.size, 0, none⟩), .pointer (some ⟨w.heap.size + 1, 0, none⟩), .pointer (some ⟨w.heap.size + 1 + 1, 0, none⟩)]) (by simp) (by simp [go_sem]) ?_
 refine (idleS _ _ _ _ (w.heap.size + 1 + 1 + 1) rb ro rest w2 (cell_one e4) (cell_one e0) (cell_one e3) (.string s) (cell_blk (a := ⟨rb, ro, none⟩) er h1) (froz_blk (a := ⟨rb, ro, none⟩) er h3)).mono ?_
 rintro e u' w3 ⟨rfl, rfl, rfl⟩
 have y1 : (w2.drew.setCell ⟨rb, ro, none⟩ (.string rest)).cell? ⟨w.heap.size + 1, 0, none⟩ = some (.string x) := cell_blk (w := w2) (setCell_blk (by show rb ≠ w.heap.size + 1; omega)) (cell_one e1)
 have y2 : (w2.drew.setCell ⟨rb, ro, none⟩ (.string rest)).cell? ⟨w.heap.size + 1 + 1, 0, none⟩ = some (.int .i64 0) := cell_blk (w := w2) (setCell_blk (by show rb ≠ w.heap.size + 1 + 1; omega)) (cell_one e2)
 have hB3 : Below w.heap.size (w.setCell ⟨rb, ro, none⟩ (.string rest)) (w2.drew.setCell ⟨rb, ro, none⟩ (.string rest)) := below_both hB2.drew _ _
 generalize w2.drew.setCell ⟨rb, ro, none⟩ (.string rest) = w3 at *
 clear e0 e1 e2 e3 e4 er hB2
 simp [Leaves, settle, results, Tryz.results165, go_sem, y1, y2]
 exact ⟨rfl, hB3⟩
set_option maxHeartbeats 2000000 in
theorem readS_lack (rb ro : Nat) (h : FuncId) (cap : Array Value) (s : ByteArray) (er : Int) (w : World) (hr0 : rb < w.heap.size) (h1 : w.cell? ⟨rb, ro, none⟩ = some (.string s)) (h2 : w.cell? ⟨rb, ro + 1, none⟩ = some (.int .i64 0)) (h3 : w.frozen? ⟨rb, ro, none⟩ = false) (h4 : w.frozen? ⟨rb, ro + 1, none⟩ = false)
 (he : ∀ args w, (callFunc h args).run Tryz.prog w = .ok (.enter h args) w) (H : HowLack h cap s er w) :
 Calls Tryz.prog 165 #[.pointer (some ⟨rb, ro, none⟩), .func (.func h) #[] cap] w (LackPost rb ro er (.string ⟨#[]⟩) w) := by
 have hmf : ∀ (fn : Fn) (first cap : Array Value) (w : World), (Instr.makeFunc fn first cap).run Tryz.prog w = .ok (.func fn first cap) w := fun _ _ _ _ => rfl
 have k1 : ∀ o1 o2 o3, (((w.alloc o1).alloc o2).alloc o3).cell? ⟨rb, ro, none⟩ = some (.string s) := fun o1 o2 o3 =>
  ((((Below.refl _ w).alloc (Nat.le_refl _) o1).alloc (by simp) o2).alloc (by simp; omega) o3).cell (p := ⟨rb, ro, none⟩) hr0 |>.trans h1
 have k2 : ∀ o1 o2 o3, (((w.alloc o1).alloc o2).alloc o3).cell? ⟨rb, ro + 1, none⟩ = some (.int .i64 0) := fun o1 o2 o3 =>
  ((((Below.refl _ w).alloc (Nat.le_refl _) o1).alloc (by simp) o2).alloc (by simp; omega) o3).cell (p := ⟨rb, ro + 1, none⟩) hr0 |>.trans h2
 have HH := Go.Lib.hid H
 have HR := Go.Lib.hid hr0
 clear H hr0
 go_enter_defers Tryz.func165, Tryz.ntmps165
 go_wp2
 generalize hW : ((((w.alloc (Obj.cells #[Value.pointer (some { block := rb, off := ro })] 100)).alloc (Obj.cells #[(.string ⟨#[]⟩)] 9)).alloc (Obj.cells #[.int .i64 0] 37)).alloc (Obj.cells #[Value.string s] 174)).alloc (Obj.cells #[Value.pointer (some { block := w.heap.size + 1 + 1 + 1, off := 0 })] 171) = W
 have hr0 : rb < w.heap.size := HR
 obtain ⟨b0, b1, b2, b3, b4, hsz⟩ := chain5 w _ _ _ _ _ W hW
 have hBW : Below w.heap.size w W := by
  rw [← hW]
  exact (((((Below.refl _ w).alloc (Nat.le_refl _) _).alloc (by simp) _).alloc (by simp; omega) _).alloc (by simp; omega) _).alloc (by simp; omega) _
 clear hW k1 k2
 have c3 : W.cell? ⟨w.heap.size + 1 + 1 + 1, 0, none⟩ = some (.string s) := cell_one b3
 refine ((HH : HowLack h cap s er w) (w.heap.size + 1 + 1 + 1) W hBW (by omega) (by omega) c3 (froz_one b3)).mono ?_
 rintro r w2 ⟨rfl, pv, hB⟩
 have hk : ∀ k, k < w.heap.size + 5 → k ≠ w.heap.size + 1 + 1 + 1 → w2.heap[k]? = W.heap[k]? := fun k h1 h2 => (hB.block k (by omega)).trans (setCell_blk (Ne.symm h2))
 have e0 : w2.heap[w.heap.size]? = _ := (hk _ (by omega) (by omega)).trans b0
 have e1 : w2.heap[w.heap.size + 1]? = _ := (hk _ (by omega) (by omega)).trans b1
 have e2 : w2.heap[w.heap.size + 1 + 1]? = _ := (hk _ (by omega) (by omega)).trans b2
 have hB2 : Below w.heap.size w w2 := (hBW.setCell (p := ⟨w.heap.size + 1 + 1 + 1, 0, none⟩) (by show _ ≤ w.heap.size + 1 + 1 + 1; omega) pv).trans (hB.mono (by omega))
 have hz2 : W.heap.size ≤ w2.heap.size := by have := hB.size; simpa [World.setCell] using this
 clear hk hB b0 b1 b2 b3 b4 c3 hBW
 have er1 : w2.heap[rb]? = w.heap[rb]? := hB2.block rb hr0
 refine leaves_cons (f := 172) (args := #[.pointer (some ⟨w.heap.size + 1 + 1 + 1 + 1, 0, none⟩), .pointer (some ⟨w.heap.size, 0, none⟩), .pointer (some ⟨w.heap.size + 1, 0, none⟩), .pointer (some ⟨w.heap.size + 1 + 1, 0, none⟩)]) (by simp) (by simp [go_sem]) ?_
 refine (caughtS _ _ _ _ rb ro er w2 (cell_one e0) (.string ⟨#[]⟩) (.int .i64 0) (.string s) (.int .i64 0) (cell_one e1) (froz_one e1) (cell_one e2) (froz_one e2)
  (cell_blk (a := ⟨rb, ro, none⟩) er1 h1) (froz_blk (a := ⟨rb, ro, none⟩) er1 h3) (cell_blk (a := ⟨rb, ro + 1, none⟩) er1 h2) (froz_blk (a := ⟨rb, ro + 1, none⟩) er1 h4)
  (by omega) (by omega) (by omega) (by omega) (by omega) (by omega) (by omega) (by omega) (by omega) (by omega)).mono ?_
 rintro e u' w3 ⟨rfl, rfl, hw3⟩
 have n1 : rb ≠ w.heap.size + 1 := by omega
 have n2 : rb ≠ w.heap.size + 1 + 1 := by omega
 have lt1 : w.heap.size + 1 < w2.heap.size := by omega
 have lt2 : w.heap.size + 1 + 1 < w2.heap.size := by omega
 have y1 : w3.cell? ⟨w.heap.size + 1, 0, none⟩ = some (.string ⟨#[]⟩) := by
  have z : w3.heap[w.heap.size + 1]? = some (Obj.cells #[(.string ⟨#[]⟩)] 9) := by
   rw [hw3]
   show ((((((w2.alloc _).setCell _ _).setCell _ _).setCell _ _).setCell _ _)).heap[_]? = _
   rw [setCell_blk (by exact n1), setCell_blk (by exact n1), setCell_blk (by show w.heap.size + 1 + 1 ≠ w.heap.size + 1; omega), blk_setCell (by rw [alloc_get, if_neg (by omega)]; exact e1)]
   rfl
  exact cell_one z
 have y2 : w3.cell? ⟨w.heap.size + 1 + 1, 0, none⟩ = some (.int .i64 er) := by
  have z : w3.heap[w.heap.size + 1 + 1]? = some (Obj.cells #[.int .i64 er] 37) := by
   rw [hw3]
   show ((((((w2.alloc _).setCell _ _).setCell _ _).setCell _ _).setCell _ _)).heap[_]? = _
   rw [setCell_blk (by exact n2), setCell_blk (by exact n2), blk_setCell ((setCell_blk (by show w.heap.size + 1 ≠ w.heap.size + 1 + 1; omega)).trans (by rw [alloc_get, if_neg (by omega)]; exact e2))]
   rfl
  exact cell_one z
 have hB3 : Below w.heap.size ((w.setCell ⟨rb, ro, none⟩ (.string ⟨#[]⟩)).setCell ⟨rb, ro + 1, none⟩ (.int .i64 er)) w3 := by
  rw [hw3]
  exact (below_both (below_both (((((hB2.alloc (by omega) _).setCell (by show w.heap.size ≤ w.heap.size + 1; omega) _).setCell (by show w.heap.size ≤ w.heap.size + 1 + 1; omega) _).drew)) _ _) _ _).drew
 clear hw3 e0 e1 e2 er1 hB2 hz2 lt1 lt2 n1 n2 h1 h2 h3 h4 hsz
 simp [Leaves, settle, results, Tryz.results165, go_sem, y1, y2]
 exact ⟨rfl, hB3⟩
set_option maxHeartbeats 2000000 in
theorem readS_wrong (rb ro : Nat) (how : Value) (er : Int) (w : World) (hr0 : rb < w.heap.size) (h2 : w.cell? ⟨rb, ro + 1, none⟩ = some (.int .i64 er)) (hne : er ≠ 0) :
 Calls Tryz.prog 165 #[.pointer (some ⟨rb, ro, none⟩), how] w fun r w' => r = .returned (.tuple #[(.string ⟨#[]⟩), .int .i64 er]) ∧ Below w.heap.size w w' := by
 have mixed := mixed
 have k2 : ∀ o1 o2 o3, (((w.alloc o1).alloc o2).alloc o3).cell? ⟨rb, ro + 1, none⟩ = some (.int .i64 er) := fun o1 o2 o3 =>
  ((((Below.refl _ w).alloc (Nat.le_refl _) o1).alloc (by simp) o2).alloc (by simp; omega) o3).cell (p := ⟨rb, ro + 1, none⟩) hr0 |>.trans h2
 have q1 : (⟨w.heap.size + 1, 0, none⟩ : Addr) ≠ ⟨rb, ro + 1, none⟩ := by intro e; have e := congrArg Addr.block e; simp at e; omega
 have hbne : (er != 0) = true := by simpa using hne
 clear h2 hr0 hne
 go_enter_defers Tryz.func165, Tryz.ntmps165
 go_wp2
 go_region_o
 all_goals go_wp2
 simp [bodyPostD, Leaves, results, Tryz.results165, go_sem]
 exact ((((Below.refl _ w).alloc (Nat.le_refl _) _).alloc (by simp) _).alloc (by simp; omega) _).drew
theorem readS_nil (how : Value) (w : World) :
 Calls Tryz.prog 165 #[.pointer none, how] w fun r w' => r = .returned (.tuple #[(.string ⟨#[]⟩), .int .i64 2]) ∧ Below w.heap.size w w' := by
 go_enter_defers Tryz.func165, Tryz.ntmps165
 go_wp2
 simp [bodyPostD, Leaves, results, Tryz.results165, go_sem]
 exact (((Below.refl _ w).alloc (Nat.le_refl _) _).alloc (by simp) _).alloc (by simp; omega) _
end Go.Proofs.Rdr

namespace Go.Proofs.Rdr
open Go Go.RowKit Go.Proofs
set_option maxHeartbeats 400000 in
theorem idleB (pv rv xv ev pb rb ro : Nat) (s : ByteArray) (w : World) (h1 : w.cell? ⟨pv, 0, none⟩ = some (.pointer (some ⟨pb, 0, none⟩))) (h2 : w.cell? ⟨rv, 0, none⟩ = some (.pointer (some ⟨rb, ro, none⟩)))
 (h3 : w.cell? ⟨pb, 0, none⟩ = some (.string s)) (old : Value) (h4 : w.cell? ⟨rb, ro, none⟩ = some old) (h5 : w.frozen? ⟨rb, ro, none⟩ = false) :
 CallsD Tryz.prog 95 #[.pointer (some ⟨pv, 0, none⟩), .pointer (some ⟨rv, 0, none⟩), .pointer (some ⟨xv, 0, none⟩), .pointer (some ⟨ev, 0, none⟩)] .returning w fun e u' w' =>
  e = .returned (.tuple #[]) ∧ u' = .returning ∧ w' = w.drew.setCell ⟨rb, ro, none⟩ (.string s) := by
 have mixed := mixed
 refine callsD_of_wpS Tryz.func95 rfl fun c₀ cs hu => ?_
 apply wpS_seq
 apply wpS_region
 simp [wpOpsS, go_sem, recoverD, hu, Tryz.ntmps95, Exit.thenS]
 have hnil : ∀ w : World, (binOp BinOp.eql 20 .nilIface .nilIface).run Tryz.prog w = .ok (.bool true) w := fun _ => by kernel_rfl
 have g1 : w.drew.cell? ⟨pv, 0, none⟩ = some (.pointer (some ⟨pb, 0, none⟩)) := h1
 have g2 : w.drew.cell? ⟨rv, 0, none⟩ = some (.pointer (some ⟨rb, ro, none⟩)) := h2
 have g3 : w.drew.cell? ⟨pb, 0, none⟩ = some (.string s) := h3
 have g4 : w.drew.cell? ⟨rb, ro, none⟩ = some old := h4
 have g5 : w.drew.frozen? ⟨rb, ro, none⟩ = false := h5
 refine wpS_of_wp ?_
 have ht : (#[.pointer (some ⟨pv, 0, none⟩), .pointer (some ⟨rv, 0, none⟩), .pointer (some ⟨xv, 0, none⟩), .pointer (some ⟨ev, 0, none⟩)] ++ (Array.replicate 28 undef).setIfInBounds 4 Value.nilIface : Array Value) = #[.pointer (some ⟨pv, 0, none⟩), .pointer (some ⟨rv, 0, none⟩), .pointer (some ⟨xv, 0, none⟩), .pointer (some ⟨ev, 0, none⟩), undef, undef, undef, undef, .nilIface, undef, undef, undef, undef, undef, undef, undef, undef, undef, undef, undef, undef, undef, undef, undef, undef, undef, undef, undef, undef, undef, undef, undef] := by simp [Array.replicate, List.replicate]
 rw [ht]
 go_wp2
 go_region_o
 all_goals
  go_wp2
 cases c₀
 simp_all [bodyPostS, results, Tryz.results95]
set_option maxHeartbeats 2000000 in
theorem caughtB (pv rv xv ev rb ro : Nat) (er : Int) (w : World) (h2 : w.cell? ⟨rv, 0, none⟩ = some (.pointer (some ⟨rb, ro, none⟩)))
 (ox oe os or_ : Value) (h4 : w.cell? ⟨xv, 0, none⟩ = some ox) (h5 : w.frozen? ⟨xv, 0, none⟩ = false) (h6 : w.cell? ⟨ev, 0, none⟩ = some oe) (h7 : w.frozen? ⟨ev, 0, none⟩ = false)
 (h8 : w.cell? ⟨rb, ro, none⟩ = some os) (h9 : w.frozen? ⟨rb, ro, none⟩ = false) (h10 : w.cell? ⟨rb, ro + 1, none⟩ = some or_) (h11 : w.frozen? ⟨rb, ro + 1, none⟩ = false)
 (d1 : xv ≠ rv) (d2 : ev ≠ rv) (d3 : xv ≠ ev) (d4 : xv ≠ rb) (d5 : ev ≠ rb) (d6 : rb ≠ rv) (l1 : rv < w.heap.size) (l2 : xv < w.heap.size) (l3 : ev < w.heap.size) (l4 : rb < w.heap.size) :
 CallsD Tryz.prog 95 #[.pointer (some ⟨pv, 0, none⟩), .pointer (some ⟨rv, 0, none⟩), .pointer (some ⟨xv, 0, none⟩), .pointer (some ⟨ev, 0, none⟩)] (.panicking [{ lackE er with recovered := false }]) w fun e u' w' =>
  e = .returned (.tuple #[]) ∧ u' = .panicking [{ lackE er with recovered := true }] ∧
  w' = (((((w.alloc (.cells #[.int .i64 er] 219)).setCell ⟨xv, 0, none⟩ (.bool false)).setCell ⟨ev, 0, none⟩ (.int .i64 er)).drew.setCell ⟨rb, ro, none⟩ (.string ⟨#[]⟩)).setCell ⟨rb, ro + 1, none⟩ (.int .i64 er)).drew := by
 have mixed := mixed
 unfold lackE
 refine callsD_of_wpS Tryz.func95 rfl fun c₀ cs hu => ?_
 apply wpS_seq
 apply wpS_region
 simp [wpOpsS, go_sem, recoverD, hu, Tryz.ntmps95, Exit.thenS]
 have hnil : ∀ w : World, (binOp BinOp.eql 20 (.iface 219 (.agg #[.int .i64 er])) .nilIface).run Tryz.prog w = .ok (.bool false) w := fun _ => by kernel_rfl
 have hta : ∀ w : World, (Instr.typeAssert (.iface 219 (.agg #[.int .i64 er])) 20 219 true).run Tryz.prog w = .ok (.tuple #[.agg #[.int .i64 er], .bool true]) w := fun _ => by kernel_rfl
 refine wpS_of_wp ?_
 have ht : (#[.pointer (some ⟨pv, 0, none⟩), .pointer (some ⟨rv, 0, none⟩), .pointer (some ⟨xv, 0, none⟩), .pointer (some ⟨ev, 0, none⟩)] ++ (Array.replicate 28 undef).setIfInBounds 4 (.iface 219 (.agg #[.int .i64 er])) : Array Value) = #[.pointer (some ⟨pv, 0, none⟩), .pointer (some ⟨rv, 0, none⟩), .pointer (some ⟨xv, 0, none⟩), .pointer (some ⟨ev, 0, none⟩), undef, undef, undef, undef, (.iface 219 (.agg #[.int .i64 er])), undef, undef, undef, undef, undef, undef, undef, undef, undef, undef, undef, undef, undef, undef, undef, undef, undef, undef, undef, undef, undef, undef, undef] := by simp [Array.replicate, List.replicate]
 rw [ht]
 have HB : Below w.heap.size w (w.alloc (.cells #[.int .i64 er] 219)) := (Below.refl _ w).alloc (Nat.le_refl _) _
 have hl : (w.alloc (.cells #[.int .i64 er] 219)).cell? ⟨w.heap.size, 0, none⟩ = some (.int .i64 er) := by simp [go_sem]
 have k2 := (HB.cell (p := ⟨rv, 0, none⟩) l1).trans h2
 have k4 := (HB.cell (p := ⟨xv, 0, none⟩) l2).trans h4
 have k5 := (HB.frozen (p := ⟨xv, 0, none⟩) l2).trans h5
 have k6 := (HB.cell (p := ⟨ev, 0, none⟩) l3).trans h6
 have k7 := (HB.frozen (p := ⟨ev, 0, none⟩) l3).trans h7
 have k8 := (HB.cell (p := ⟨rb, ro, none⟩) l4).trans h8
 have k9 := (HB.frozen (p := ⟨rb, ro, none⟩) l4).trans h9
 have k10 := (HB.cell (p := ⟨rb, ro + 1, none⟩) l4).trans h10
 have k11 := (HB.frozen (p := ⟨rb, ro + 1, none⟩) l4).trans h11
 have n1 : w.heap.size ≠ xv := by omega
 have n2 : w.heap.size ≠ ev := by omega
 have n3 : rb ≠ w.heap.size := by omega
 go_wp2
 clear HB h2 h4 h5 h6 h7 h8 h9 h10 h11 l1 l2 l3 l4
 generalize w.heap.size = lb at *
 generalize hw1 : w.alloc (.cells #[.int .i64 er] 219) = w1 at *
 have HW1 := Go.Lib.hid hw1
 clear hw1
 have q2 : (⟨xv, 0, none⟩ : Addr) ≠ ⟨rv, 0, none⟩ := fun e => d1 (congrArg Addr.block e)
 have q3 : (⟨ev, 0, none⟩ : Addr) ≠ ⟨rv, 0, none⟩ := fun e => d2 (congrArg Addr.block e)
 go_region_o
 all_goals go_wp2
 have f1 : ∀ (a : Addr) (v : Value), a.block ≠ xv → a.block ≠ ev → w1.cell? a = some v → (((w1.setCell ⟨xv, 0, none⟩ (.bool false)).setCell ⟨ev, 0, none⟩ (.int .i64 er)).drew).cell? a = some v := by
  intro a v a1 a2 h
  have e1 : (⟨ev, 0, none⟩ : Addr) ≠ a := fun e => a2 (by rw [← e])
  have e2 : (⟨xv, 0, none⟩ : Addr) ≠ a := fun e => a1 (by rw [← e])
  show ((w1.setCell ⟨xv, 0, none⟩ (.bool false)).setCell ⟨ev, 0, none⟩ (.int .i64 er)).cell? a = some v
  rw [World.cell?_setCell_other _ _ _ _ e1, World.cell?_setCell_other _ _ _ _ e2]; exact h
 have f2 : ∀ (a : Addr), w1.frozen? a = false → (((w1.setCell ⟨xv, 0, none⟩ (.bool false)).setCell ⟨ev, 0, none⟩ (.int .i64 er)).drew).frozen? a = false := by
  intro a h
  show ((w1.setCell ⟨xv, 0, none⟩ (.bool false)).setCell ⟨ev, 0, none⟩ (.int .i64 er)).frozen? a = false
  simp [go_sem, h]
 have z2 := f1 _ _ (Ne.symm d1) (Ne.symm d2) k2
 have z8 := f1 _ _ (Ne.symm d4) (Ne.symm d5) k8
 have z9 := f2 _ k9
 have z10 := f1 _ _ (Ne.symm d4) (Ne.symm d5) k10
 have z11 := f2 _ k11
 have zl := f1 _ _ n1 n2 hl
 clear f1 f2 k2 k4 k5 k6 k7 k8 k9 k10 k11 hl q2 q3
 generalize hw2 : ((w1.setCell ⟨xv, 0, none⟩ (.bool false)).setCell ⟨ev, 0, none⟩ (.int .i64 er)).drew = w2 at *
 have HW2 := Go.Lib.hid hw2
 clear hw2
 have q4 : (⟨rb, ro, none⟩ : Addr) ≠ ⟨lb, 0, none⟩ := fun e => n3 (congrArg Addr.block e)
 have q5 : (⟨rb, ro, none⟩ : Addr) ≠ ⟨rv, 0, none⟩ := fun e => d6 (congrArg Addr.block e)
 go_region_o
 all_goals go_wp2
 have e1 : w.alloc (.cells #[.int .i64 er] 219) = w1 := HW1
 have e2 : ((w1.setCell ⟨xv, 0, none⟩ (.bool false)).setCell ⟨ev, 0, none⟩ (.int .i64 er)).drew = w2 := HW2
 refine ⟨rfl, _, rfl, .tuple #[], ?_, rfl, rfl, ?_⟩
 · simp [results, Tryz.results95]
 · rw [e1, ← e2]; rfl
set_option maxHeartbeats 2000000 in
theorem readB_ok (rb ro : Nat) (h : FuncId) (cap : Array Value) (s rest : ByteArray) (x : Bool) (w : World) (hr0 : rb < w.heap.size) (h1 : w.cell? ⟨rb, ro, none⟩ = some (.string s)) (h2 : w.cell? ⟨rb, ro + 1, none⟩ = some (.int .i64 0)) (h3 : w.frozen? ⟨rb, ro, none⟩ = false)
 (he : ∀ args w, (callFunc h args).run Tryz.prog w = .ok (.enter h args) w) (H : HowOk h cap s rest (.bool x) w) :
 Calls Tryz.prog 70 #[.pointer (some ⟨rb, ro, none⟩), .func (.func h) #[] cap] w (ReadPost rb ro rest (.bool x) w) := by
 have hmf : ∀ (fn : Fn) (first cap : Array Value) (w : World), (Instr.makeFunc fn first cap).run Tryz.prog w = .ok (.func fn first cap) w := fun _ _ _ _ => rfl
 have k1 : ∀ o1 o2 o3, (((w.alloc o1).alloc o2).alloc o3).cell? ⟨rb, ro, none⟩ = some (.string s) := fun o1 o2 o3 =>
  ((((Below.refl _ w).alloc (Nat.le_refl _) o1).alloc (by simp) o2).alloc (by simp; omega) o3).cell (p := ⟨rb, ro, none⟩) hr0 |>.trans h1
 have k2 : ∀ o1 o2 o3, (((w.alloc o1).alloc o2).alloc o3).cell? ⟨rb, ro + 1, none⟩ = some (.int .i64 0) := fun o1 o2 o3 =>
  ((((Below.refl _ w).alloc (Nat.le_refl _) o1).alloc (by simp) o2).alloc (by simp; omega) o3).cell (p := ⟨rb, ro + 1, none⟩) hr0 |>.trans h2
 have HH := Go.Lib.hid H
 have HR := Go.Lib.hid hr0
 clear H hr0
 go_enter_defers Tryz.func70, Tryz.ntmps70
 go_wp2
 generalize hW : ((((w.alloc (Obj.cells #[Value.pointer (some { block := rb, off := ro })] 100)).alloc (Obj.cells #[(.bool false)] 4)).alloc (Obj.cells #[.int .i64 0] 37)).alloc (Obj.cells #[Value.string s] 174)).alloc (Obj.cells #[Value.pointer (some { block := w.heap.size + 1 + 1 + 1, off := 0 })] 171) = W
 have hr0 : rb < w.heap.size := HR
 obtain ⟨b0, b1, b2, b3, b4, hsz⟩ := chain5 w _ _ _ _ _ W hW
 have hBW : Below w.heap.size w W := by
  rw [← hW]
  exact (((((Below.refl _ w).alloc (Nat.le_refl _) _).alloc (by simp) _).alloc (by simp; omega) _).alloc (by simp; omega) _).alloc (by simp; omega) _
 clear hW k1 k2
 have c3 : W.cell? ⟨w.heap.size + 1 + 1 + 1, 0, none⟩ = some (.string s) := cell_one b3
 refine ((HH : HowOk h cap s rest (.bool x) w) (w.heap.size + 1 + 1 + 1) W hBW (by omega) (by omega) c3 (froz_one b3)).mono ?_
 rintro r w1 ⟨rfl, hB⟩
 have hk : ∀ k, k < w.heap.size + 5 → k ≠ w.heap.size + 1 + 1 + 1 → w1.heap[k]? = W.heap[k]? := fun k h1 h2 => (hB.block k (by omega)).trans (setCell_blk (Ne.symm h2))
 have d0 : w1.heap[w.heap.size]? = _ := (hk _ (by omega) (by omega)).trans b0
 have d1 : w1.heap[w.heap.size + 1]? = _ := (hk _ (by omega) (by omega)).trans b1
 have d2 : w1.heap[w.heap.size + 1 + 1]? = _ := (hk _ (by omega) (by omega)).trans b2
 have d3 : w1.heap[w.heap.size + 1 + 1 + 1]? = some (Obj.cells #[Value.string rest] 174) := by
  rw [hB.block _ (by omega), blk_setCell b3]; rfl
 have d4 : w1.heap[w.heap.size + 1 + 1 + 1 + 1]? = _ := (hk _ (by omega) (by omega)).trans b4
 have hB1 : Below w.heap.size w w1 := (hBW.setCell (p := ⟨w.heap.size + 1 + 1 + 1, 0, none⟩) (by show _ ≤ w.heap.size + 1 + 1 + 1; omega) (.string rest)).trans (hB.mono (by omega))
 clear hk hB b0 b1 b2 b3 b4 c3 hBW
 have x1 : w1.cell? ⟨w.heap.size + 1, 0, none⟩ = some (.bool false) := cell_one d1
 have x2 : w1.frozen? ⟨w.heap.size + 1, 0, none⟩ = false := froz_one d1
 have x3 : w1.cell? ⟨w.heap.size + 1 + 1, 0, none⟩ = some (.int .i64 0) := cell_one d2
 have x4 : w1.frozen? ⟨w.heap.size + 1 + 1, 0, none⟩ = false := froz_one d2
 have HD := Go.Lib.hid d0
 have HD1 := Go.Lib.hid d1
 have HD2 := Go.Lib.hid d2
 have HD3 := Go.Lib.hid d3
 have HD4 := Go.Lib.hid d4
 have HZ := Go.Lib.hid hsz
 have h1 := Go.Lib.hid h1
 have h3 := Go.Lib.hid h3
 clear d0 d1 d2 d3 d4 hsz h2 hr0
 go_wp2
 have hr0 : rb < w.heap.size := HR
 have g0 := (HD : w1.heap[w.heap.size]? = _)
 have g1 := (HD1 : w1.heap[w.heap.size + 1]? = _)
 have g2 := (HD2 : w1.heap[w.heap.size + 1 + 1]? = _)
 have g3 := (HD3 : w1.heap[w.heap.size + 1 + 1 + 1]? = _)
 have g4 := (HD4 : w1.heap[w.heap.size + 1 + 1 + 1 + 1]? = _)
 clear HD HD1 HD2 HD3 HD4 HZ HR HH x1 x2 x3 x4
 generalize hw2 : (w1.setCell { block := w.heap.size + 1, off := 0 } (.bool x)).setCell { block := w.heap.size + 1 + 1, off := 0 } (Value.int IntKind.i64 0) = w2
 have ho : ∀ k, k ≠ w.heap.size + 1 → k ≠ w.heap.size + 1 + 1 → w2.heap[k]? = w1.heap[k]? := fun k a1 a2 => by rw [← hw2, setCell_blk (by exact Ne.symm a2), setCell_blk (by exact Ne.symm a1)]
 have e0 := (ho _ (by omega) (by omega)).trans g0
 have e3 := (ho _ (by omega) (by omega)).trans g3
 have e4 := (ho _ (by omega) (by omega)).trans g4
 have e1 : w2.heap[w.heap.size + 1]? = some (Obj.cells #[(.bool x)] 4) := by rw [← hw2, setCell_blk (by show w.heap.size + 1 + 1 ≠ _; omega), blk_setCell g1]; rfl
 have e2 : w2.heap[w.heap.size + 1 + 1]? = some (Obj.cells #[.int .i64 0] 37) := by rw [← hw2, blk_setCell ((setCell_blk (by show w.heap.size + 1 ≠ _; omega)).trans g2)]; rfl
 have hB2 : Below w.heap.size w w2 := by rw [← hw2]; exact (hB1.setCell (by show _ ≤ w.heap.size + 1; omega) _).setCell (by show _ ≤ w.heap.size + 1 + 1; omega) _
 have er : w2.heap[rb]? = w.heap[rb]? := hB2.block rb hr0
 clear hw2 ho g0 g1 g2 g3 g4 hB1
 refine leaves_cons (f := 95) (args := #[.pointer (some ⟨w.heap.size + 1 + 1 + 1 + 1, 0, none⟩), .pointer (some ⟨w.heap.size, 0, none⟩), .pointer (some ⟨w.heap.size + 1, 0, none⟩), .pointer (some ⟨w.heap.size + 1 + 1, 0, none⟩)]) (by simp) (by simp [go_sem]) ?_
 refine (idleB _ _ _ _ (w.heap.size + 1 + 1 + 1) rb ro rest w2 (cell_one e4) (cell_one e0) (cell_one e3) (.string s) (cell_blk (a := ⟨rb, ro, none⟩) er h1) (froz_blk (a := ⟨rb, ro, none⟩) er h3)).mono ?_
 rintro e u' w3 ⟨rfl, rfl, rfl⟩
 have y1 : (w2.drew.setCell ⟨rb, ro, none⟩ (.string rest)).cell? ⟨w.heap.size + 1, 0, none⟩ = some (.bool x) := cell_blk (w := w2) (setCell_blk (by show rb ≠ w.heap.size + 1; omega)) (cell_one e1)
 have y2 : (w2.drew.setCell ⟨rb, ro, none⟩ (.string rest)).cell? ⟨w.heap.size + 1 + 1, 0, none⟩ = some (.int .i64 0) := cell_blk (w := w2) (setCell_blk (by show rb ≠ w.heap.size + 1 + 1; omega)) (cell_one e2)
 have hB3 : Below w.heap.size (w.setCell ⟨rb, ro, none⟩ (.string rest)) (w2.drew.setCell ⟨rb, ro, none⟩ (.string rest)) := below_both hB2.drew _ _
 generalize w2.drew.setCell ⟨rb, ro, none⟩ (.string rest) = w3 at *
 clear e0 e1 e2 e3 e4 er hB2
 simp [Leaves, settle, results, Tryz.results70, go_sem, y1, y2]
 exact ⟨rfl, hB3⟩
set_option maxHeartbeats 2000000 in
theorem readB_lack (rb ro : Nat) (h : FuncId) (cap : Array Value) (s : ByteArray) (er : Int) (w : World) (hr0 : rb < w.heap.size) (h1 : w.cell? ⟨rb, ro, none⟩ = some (.string s)) (h2 : w.cell? ⟨rb, ro + 1, none⟩ = some (.int .i64 0)) (h3 : w.frozen? ⟨rb, ro, none⟩ = false) (h4 : w.frozen? ⟨rb, ro + 1, none⟩ = false)
 (he : ∀ args w, (callFunc h args).run Tryz.prog w = .ok (.enter h args) w) (H : HowLack h cap s er w) :
 Calls Tryz.prog 70 #[.pointer (some ⟨rb, ro, none⟩), .func (.func h) #[] cap] w (LackPost rb ro er (.bool false) w) := by
 have hmf : ∀ (fn : Fn) (first cap : Array Value) (w : World), (Instr.makeFunc fn first cap).run Tryz.prog w = .ok (.func fn first cap) w := fun _ _ _ _ => rfl
 have k1 : ∀ o1 o2 o3, (((w.alloc o1).alloc o2).alloc o3).cell? ⟨rb, ro, none⟩ = some (.string s) := fun o1 o2 o3 =>
  ((((Below.refl _ w).alloc (Nat.le_refl _) o1).alloc (by simp) o2).alloc (by simp; omega) o3).cell (p := ⟨rb, ro, none⟩) hr0 |>.trans h1
 have k2 : ∀ o1 o2 o3, (((w.alloc o1).alloc o2).alloc o3).cell? ⟨rb, ro + 1, none⟩ = some (.int .i64 0) := fun o1 o2 o3 =>
  ((((Below.refl _ w).alloc (Nat.le_refl _) o1).alloc (by simp) o2).alloc (by simp; omega) o3).cell (p := ⟨rb, ro + 1, none⟩) hr0 |>.trans h2
 have HH := Go.Lib.hid H
 have HR := Go.Lib.hid hr0
 clear H hr0
 go_enter_defers Tryz.func70, Tryz.ntmps70
 go_wp2
 generalize hW : ((((w.alloc (Obj.cells #[Value.pointer (some { block := rb, off := ro })] 100)).alloc (Obj.cells #[(.bool false)] 4)).alloc (Obj.cells #[.int .i64 0] 37)).alloc (Obj.cells #[Value.string s] 174)).alloc (Obj.cells #[Value.pointer (some { block := w.heap.size + 1 + 1 + 1, off := 0 })] 171) = W
 have hr0 : rb < w.heap.size := HR
 obtain ⟨b0, b1, b2, b3, b4, hsz⟩ := chain5 w _ _ _ _ _ W hW
 have hBW : Below w.heap.size w W := by
  rw [← hW]
  exact (((((Below.refl _ w).alloc (Nat.le_refl _) _).alloc (by simp) _).alloc (by simp; omega) _).alloc (by simp; omega) _).alloc (by simp; omega) _
 clear hW k1 k2
 have c3 : W.cell? ⟨w.heap.size + 1 + 1 + 1, 0, none⟩ = some (.string s) := cell_one b3
 refine ((HH : HowLack h cap s er w) (w.heap.size + 1 + 1 + 1) W hBW (by omega) (by omega) c3 (froz_one b3)).mono ?_
 rintro r w2 ⟨rfl, pv, hB⟩
 have hk : ∀ k, k < w.heap.size + 5 → k ≠ w.heap.size + 1 + 1 + 1 → w2.heap[k]? = W.heap[k]? := fun k h1 h2 => (hB.block k (by omega)).trans (setCell_blk (Ne.symm h2))
 have e0 : w2.heap[w.heap.size]? = _ := (hk _ (by omega) (by omega)).trans b0
 have e1 : w2.heap[w.heap.size + 1]? = _ := (hk _ (by omega) (by omega)).trans b1
 have e2 : w2.heap[w.heap.size + 1 + 1]? = _ := (hk _ (by omega) (by omega)).trans b2
 have hB2 : Below w.heap.size w w2 := (hBW.setCell (p := ⟨w.heap.size + 1 + 1 + 1, 0, none⟩) (by show _ ≤ w.heap.size + 1 + 1 + 1; omega) pv).trans (hB.mono (by omega))
 have hz2 : W.heap.size ≤ w2.heap.size := by have := hB.size; simpa [World.setCell] using this
 clear hk hB b0 b1 b2 b3 b4 c3 hBW
 have er1 : w2.heap[rb]? = w.heap[rb]? := hB2.block rb hr0
 refine leaves_cons (f := 95) (args := #[.pointer (some ⟨w.heap.size + 1 + 1 + 1 + 1, 0, none⟩), .pointer (some ⟨w.heap.size, 0, none⟩), .pointer (some ⟨w.heap.size + 1, 0, none⟩), .pointer (some ⟨w.heap.size + 1 + 1, 0, none⟩)]) (by simp) (by simp [go_sem]) ?_
 refine (caughtB _ _ _ _ rb ro er w2 (cell_one e0) (.bool false) (.int .i64 0) (.string s) (.int .i64 0) (cell_one e1) (froz_one e1) (cell_one e2) (froz_one e2)
  (cell_blk (a := ⟨rb, ro, none⟩) er1 h1) (froz_blk (a := ⟨rb, ro, none⟩) er1 h3) (cell_blk (a := ⟨rb, ro + 1, none⟩) er1 h2) (froz_blk (a := ⟨rb, ro + 1, none⟩) er1 h4)
  (by omega) (by omega) (by omega) (by omega) (by omega) (by omega) (by omega) (by omega) (by omega) (by omega)).mono ?_
 rintro e u' w3 ⟨rfl, rfl, hw3⟩
 have n1 : rb ≠ w.heap.size + 1 := by omega
 have n2 : rb ≠ w.heap.size + 1 + 1 := by omega
 have lt1 : w.heap.size + 1 < w2.heap.size := by omega
 have lt2 : w.heap.size + 1 + 1 < w2.heap.size := by omega
 have y1 : w3.cell? ⟨w.heap.size + 1, 0, none⟩ = some (.bool false) := by
  have z : w3.heap[w.heap.size + 1]? = some (Obj.cells #[(.bool false)] 4) := by
   rw [hw3]
   show ((((((w2.alloc _).setCell _ _).setCell _ _).setCell _ _).setCell _ _)).heap[_]? = _
   rw [setCell_blk (by exact n1), setCell_blk (by exact n1), setCell_blk (by show w.heap.size + 1 + 1 ≠ w.heap.size + 1; omega), blk_setCell (by rw [alloc_get, if_neg (by omega)]; exact e1)]
   rfl
  exact cell_one z
 have y2 : w3.cell? ⟨w.heap.size + 1 + 1, 0, none⟩ = some (.int .i64 er) := by
  have z : w3.heap[w.heap.size + 1 + 1]? = some (Obj.cells #[.int .i64 er] 37) := by
   rw [hw3]
   show ((((((w2.alloc _).setCell _ _).setCell _ _).setCell _ _).setCell _ _)).heap[_]? = _
   rw [setCell_blk (by exact n2), setCell_blk (by exact n2), blk_setCell ((setCell_blk (by show w.heap.size + 1 ≠ w.heap.size + 1 + 1; omega)).trans (by rw [alloc_get, if_neg (by omega)]; exact e2))]
   rfl
  exact cell_one z
 have hB3 : Below w.heap.size ((w.setCell ⟨rb, ro, none⟩ (.string ⟨#[]⟩)).setCell ⟨rb, ro + 1, none⟩ (.int .i64 er)) w3 := by
  rw [hw3]
  exact (below_both (below_both (((((hB2.alloc (by omega) _).setCell (by show w.heap.size ≤ w.heap.size + 1; omega) _).setCell (by show w.heap.size ≤ w.heap.size + 1 + 1; omega) _).drew)) _ _) _ _).drew
 clear hw3 e0 e1 e2 er1 hB2 hz2 lt1 lt2 n1 n2 h1 h2 h3 h4 hsz
 simp [Leaves, settle, results, Tryz.results70, go_sem, y1, y2]
 exact ⟨rfl, hB3⟩
set_option maxHeartbeats 2000000 in
theorem readB_wrong (rb ro : Nat) (how : Value) (er : Int) (w : World) (hr0 : rb < w.heap.size) (h2 : w.cell? ⟨rb, ro + 1, none⟩ = some (.int .i64 er)) (hne : er ≠ 0) :
 Calls Tryz.prog 70 #[.pointer (some ⟨rb, ro, none⟩), how] w fun r w' => r = .returned (.tuple #[(.bool false), .int .i64 er]) ∧ Below w.heap.size w w' := by
 have mixed := mixed
 have k2 : ∀ o1 o2 o3, (((w.alloc o1).alloc o2).alloc o3).cell? ⟨rb, ro + 1, none⟩ = some (.int .i64 er) := fun o1 o2 o3 =>
  ((((Below.refl _ w).alloc (Nat.le_refl _) o1).alloc (by simp) o2).alloc (by simp; omega) o3).cell (p := ⟨rb, ro + 1, none⟩) hr0 |>.trans h2
 have q1 : (⟨w.heap.size + 1, 0, none⟩ : Addr) ≠ ⟨rb, ro + 1, none⟩ := by intro e; have e := congrArg Addr.block e; simp at e; omega
 have hbne : (er != 0) = true := by simpa using hne
 clear h2 hr0 hne
 go_enter_defers Tryz.func70, Tryz.ntmps70
 go_wp2
 go_region_o
 all_goals go_wp2
 simp [bodyPostD, Leaves, results, Tryz.results70, go_sem]
 exact ((((Below.refl _ w).alloc (Nat.le_refl _) _).alloc (by simp) _).alloc (by simp; omega) _).drew
theorem readB_nil (how : Value) (w : World) :
 Calls Tryz.prog 70 #[.pointer none, how] w fun r w' => r = .returned (.tuple #[(.bool false), .int .i64 2]) ∧ Below w.heap.size w w' := by
 go_enter_defers Tryz.func70, Tryz.ntmps70
 go_wp2
 simp [bodyPostD, Leaves, results, Tryz.results70, go_sem]
 exact (((Below.refl _ w).alloc (Nat.le_refl _) _).alloc (by simp) _).alloc (by simp; omega) _
end Go.Proofs.Rdr
