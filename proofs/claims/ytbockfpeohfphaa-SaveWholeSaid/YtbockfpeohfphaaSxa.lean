/- The program, and tables of its functions' live temporaries (written by a program). -/
import Derived.Test.YtbockfpeohfphaaAmd
import Derived.Test.YtbockfpeohfphaaChecked

set_option linter.unusedVariables false
set_option maxRecDepth 100000
namespace Go.Am
noncomputable abbrev PP : Program := Go.Proofs.Try.prog
abbrev c_law25_SaveWhole : FuncId := 3
abbrev c_law25_large : FuncId := 5
abbrev c_law25_awake : FuncId := 6
abbrev c_save_Encode : FuncId := 7
abbrev c_save_Decode : FuncId := 8
abbrev c_law25_sizeTexts : FuncId := 10
abbrev c_law25_sizeDealt : FuncId := 11
abbrev c_law25_sizeMsgs : FuncId := 12
abbrev c_save_all : FuncId := 14
abbrev c_strings_Builder_String : FuncId := 15
abbrev c_wire_Open : FuncId := 16
abbrev c_wire_Reader_End : FuncId := 17
abbrev c_law25_sizeTold : FuncId := 19
abbrev c_save_whole : FuncId := 20
abbrev c_save_each_string : FuncId := 21
abbrev c_save_text : FuncId := 22
abbrev c_save_rows : FuncId := 23
abbrev c_save_each_api_Pair : FuncId := 24
abbrev c_save_pair : FuncId := 25
abbrev c_save_each_avss_State : FuncId := 26
abbrev c_save_dealing : FuncId := 27
abbrev c_save_each_node_Done : FuncId := 28
abbrev c_save_done : FuncId := 29
abbrev c_save_each_api_Msg : FuncId := 30
abbrev c_save_message : FuncId := 31
abbrev c_wire_read_bool : FuncId := 32
abbrev c_wire_Reader_End_1 : FuncId := 33
abbrev c_save_voting : FuncId := 35
abbrev c_save_each_board_Told : FuncId := 36
abbrev c_save_said : FuncId := 37
abbrev c_save_each_list_uint64 : FuncId := 38
abbrev c_save_nums : FuncId := 39
abbrev c_save_each_avss_Told : FuncId := 40
abbrev c_save_told : FuncId := 41
abbrev c_save_each_tally_Vote : FuncId := 43
abbrev c_save_vote : FuncId := 44
abbrev c_save_pen_is : FuncId := 62
abbrev c_save_pen_kind : FuncId := 63
abbrev c_save_pen_many : FuncId := 64
abbrev c_save_pen_number : FuncId := 65
abbrev c_save_pen_nums : FuncId := 66
abbrev c_save_pen_text : FuncId := 67
abbrev c_save_pen_wrong : FuncId := 68
abbrev c_strings_Builder_WriteString : FuncId := 69
abbrev c_wire_Byte : FuncId := 70
abbrev c_save_pen_put : FuncId := 71
abbrev c_wire_Num : FuncId := 72
abbrev c_wire_List : FuncId := 73
abbrev c_wire_Text : FuncId := 74
abbrev c_strings_Builder_copyCheck : FuncId := 75
abbrev c_wire_put : FuncId := 76
abbrev c_save_eye_is : FuncId := 81
abbrev c_save_eye_kind : FuncId := 82
abbrev c_save_eye_many : FuncId := 83
abbrev c_save_eye_number : FuncId := 84
abbrev c_save_eye_nums : FuncId := 85
abbrev c_save_eye_text : FuncId := 86
abbrev c_save_eye_wrong : FuncId := 87
abbrev c_wire_Reader_Count : FuncId := 88
abbrev c_wire_Reader_Byte : FuncId := 89
abbrev c_wire_Reader_Num : FuncId := 90
abbrev c_wire_Reader_List : FuncId := 91
abbrev c_wire_Reader_Text : FuncId := 92
abbrev c_wire_Reader_Wrong : FuncId := 93
abbrev c_wire_read_int : FuncId := 94
abbrev c_wire_read_byte : FuncId := 97
abbrev c_wire_Reader_Byte_1 : FuncId := 98
abbrev c_wire_read_uint64 : FuncId := 99
abbrev c_wire_Reader_Num_1 : FuncId := 100
abbrev c_wire_read_list_uint64 : FuncId := 101
abbrev c_wire_Reader_List_1 : FuncId := 102
abbrev c_wire_read_string : FuncId := 104
abbrev c_wire_Reader_Text_1 : FuncId := 105
noncomputable def tbS : FuncId → LiveT := lookF [(5, ⟨lookL [(13, [1, 3, 7], [3], []), (9, [1, 3, 5, 6], [1, 3], []), (3, [1, 3, 4], [1, 3], [])], lookJ []⟩),
  (9, ⟨lookL [(15, [3, 4, 6, 11, 12], [3, 6, 11], []), (9, [3, 4, 6, 9, 10], [3, 4, 6, 9], [])], lookJ []⟩),
  (10, ⟨lookL [(3, [0, 3, 4], [3], [])], lookJ []⟩),
  (11, ⟨lookL [(7, [0, 3, 4, 5], [0, 3, 4], []), (3, [0, 3, 4], [3], [])], lookJ []⟩),
  (12, ⟨lookL [(3, [0, 3, 4], [3], [])], lookJ []⟩),
  (18, ⟨lookL [(3, [0, 1, 4, 5], [4], [])], lookJ []⟩),
  (19, ⟨lookL [(3, [0, 3, 4], [3], [])], lookJ []⟩),
  (20, ⟨lookL [(1, [0, 7, 8, 9], [], [])], lookJ []⟩),
  (21, ⟨lookL [(2, [0, 1, 2, 6, 7], [], [])], lookJ [(7, [0, 1, 2, 6, 7])]⟩),
  (24, ⟨lookL [(2, [0, 1, 2, 6, 7], [], [])], lookJ [(7, [0, 1, 2, 6, 7])]⟩),
  (26, ⟨lookL [(2, [0, 1, 2, 6, 7], [], [])], lookJ [(7, [0, 1, 2, 6, 7])]⟩),
  (28, ⟨lookL [(2, [0, 1, 2, 6, 7], [], [])], lookJ [(7, [0, 1, 2, 6, 7])]⟩),
  (30, ⟨lookL [(2, [0, 1, 2, 6, 7], [], [])], lookJ [(7, [0, 1, 2, 6, 7])]⟩),
  (36, ⟨lookL [(2, [0, 1, 2, 6, 7], [], [])], lookJ [(7, [0, 1, 2, 6, 7])]⟩),
  (38, ⟨lookL [(2, [0, 1, 2, 6, 7], [], [])], lookJ [(7, [0, 1, 2, 6, 7])]⟩),
  (40, ⟨lookL [(2, [0, 1, 2, 6, 7], [], [])], lookJ [(7, [0, 1, 2, 6, 7])]⟩),
  (43, ⟨lookL [(2, [0, 1, 2, 6, 7], [], [])], lookJ [(7, [0, 1, 2, 6, 7])]⟩),
  (71, ⟨lookL [], lookJ [(2, [0, 1])]⟩),
  (73, ⟨lookL [(6, [6, 19, 20, 21], [6], [])], lookJ []⟩),
  (76, ⟨lookL [(3, [1, 2, 7], [7], [])], lookJ []⟩),
  (96, ⟨lookL [(3, [5, 11, 12, 13], [5], [])], lookJ []⟩),
  (102, ⟨lookL [(4, [0, 2, 15, 16], [2], [])], lookJ []⟩)]
end Go.Am

set_option linter.unusedVariables false
set_option maxRecDepth 100000
namespace Go.Am

/-! consistory/save.Encode -/
noncomputable def r_save_Encode (x : EV) (a0 : Value) (σ : St) (K : VK) : Bool :=
  boxK 34 a0 σ fun v0 σ =>
  rBuild [(.pointer none), (.slice none 0 0), (.int .i64 (.ofNat 0))] [] fun v1 =>
  boxK 66 v1 σ fun v2 σ =>
  x.C c_save_all [(.iface 60 v2), v0] σ fun v3 σ =>
  rNil PP v2 fun v4 =>
  rFld 2 v4 fun v5 =>
  rLd v5 σ fun v6 σ =>
  rBin PP .neq 37 v6 (.int .i64 (.ofNat 0)) fun v7 =>
  rIf v7 (rNil PP v2 fun v8 =>
  rFld 2 v8 fun v9 =>
  rLd v9 σ fun v10 σ =>
  K (.tuple ⟨[(.string ⟨⟨[]⟩⟩), v10]⟩) σ) (rNil PP v2 fun v11 =>
  rFld 0 v11 fun v12 =>
  x.C c_strings_Builder_String [v12] σ fun v13 σ =>
  K (.tuple ⟨[v13, (.int .i64 (.ofNat 0))]⟩) σ)
theorem f_save_Encode (x : EV) (a0 : Value) (σ : St) (K : VK) : fnX PP tbS c_save_Encode (x.E PP) [a0] σ K = r_save_Encode x a0 σ K := by kernel_rfl

/-! consistory/save.all -/
noncomputable def r_save_all (x : EV) (a0 a1 : Value) (σ : St) (K : VK) : Bool :=
  rNil PP a1 fun v0 =>
  rFld 0 v0 fun v1 =>
  rBuildS 87 1 [(.pointer none)] [(0, 1, v1)] σ fun v2 σ =>
  x.C c_save_whole [a0, v2] σ fun v3 σ =>
  rNil PP a1 fun v4 =>
  rFld 1 v4 fun v5 =>
  x.C c_save_each_string [a0, v5, (.func (.func c_save_text) #[] #[])] σ fun v6 σ =>
  rNil PP a1 fun v7 =>
  rFld 2 v7 fun v8 =>
  x.C c_save_rows [a0, v8] σ fun v9 σ =>
  rNil PP a1 fun v10 =>
  rFld 22 v10 fun v11 =>
  x.C c_save_each_string [a0, v11, (.func (.func c_save_text) #[] #[])] σ fun v12 σ =>
  rNil PP a1 fun v13 =>
  rFld 23 v13 fun v14 =>
  x.C c_save_each_api_Pair [a0, v14, (.func (.func c_save_pair) #[] #[])] σ fun v15 σ =>
  rNil PP a1 fun v16 =>
  rFld 24 v16 fun v17 =>
  x.C c_save_each_api_Pair [a0, v17, (.func (.func c_save_pair) #[] #[])] σ fun v18 σ =>
  rNil PP a1 fun v19 =>
  rFld 25 v19 fun v20 =>
  rNil PP (.func (.method "consistory/save.is") ⟨[a0]⟩ ⟨[]⟩) fun v21 =>
  rInv PP x.C a0 "consistory/save.is" [v20] σ fun v22 σ =>
  rNil PP a1 fun v23 =>
  rFld 26 v23 fun v24 =>
  x.C c_save_each_avss_State [a0, v24, (.func (.func c_save_dealing) #[] #[])] σ fun v25 σ =>
  rNil PP a1 fun v26 =>
  rFld 27 v26 fun v27 =>
  x.C c_save_each_node_Done [a0, v27, (.func (.func c_save_done) #[] #[])] σ fun v28 σ =>
  rNil PP a1 fun v29 =>
  rFld 28 v29 fun v30 =>
  x.C c_save_each_api_Msg [a0, v30, (.func (.func c_save_message) #[] #[])] σ fun v31 σ =>
  rNil PP a1 fun v32 =>
  rFld 29 v32 fun v33 =>
  x.C c_save_each_avss_State [a0, v33, (.func (.func c_save_dealing) #[] #[])] σ fun v34 σ =>
  K (.tuple ⟨[]⟩) σ
theorem f_save_all (x : EV) (a0 a1 : Value) (σ : St) (K : VK) : fnX PP tbS c_save_all (x.E PP) [a0, a1] σ K = r_save_all x a0 a1 σ K := by kernel_rfl

/-! consistory/save.whole -/
noncomputable def l_save_whole_rd (x : EV) (m : Nat) (t0 t7 t8 t9 : Value) (σ : St) (K : VK) : Bool := jmpL PP tbS c_save_whole (x.E PP) [.r, .d] m [] [t0, t7, t8, t9] σ K
noncomputable def r_save_whole (x : EV) (a0 a1 : Value) (σ : St) (K : VK) : Bool :=
  rLenS a1 fun v0 =>
  l_save_whole_rd x x.most a0 a1 v0 (.int .i64 (.ofNat 0)) σ K
theorem f_save_whole (x : EV) (a0 a1 : Value) (σ : St) (K : VK) : fnX PP tbS c_save_whole (x.E PP) [a0, a1] σ K = r_save_whole x a0 a1 σ K := by kernel_rfl
noncomputable def l_save_whole_rdB (x : EV) (m0 : Nat) (t0 t7 t8 t9 : Value) (σ : St) (K : VK) : Bool :=
  rBin PP .lss 3 t9 t8 fun v0 =>
  rIf v0 (rIdx 1 t7 t9 fun v1 =>
  rLd v1 σ fun v2 σ =>
  rNil PP v2 fun v3 =>
  rLd v3 σ fun v4 σ =>
  rInt .u64 v4 fun v5 =>
  rAlloc [(.int .u64 (.ofNat 0))] 56 σ fun v6 σ =>
  rSt 1 v6 v5 σ fun σ =>
  rInv PP x.C t0 "consistory/save.number" [v6] σ fun v7 σ =>
  rLd v6 σ fun v8 σ =>
  rInt .i64 v8 fun v9 =>
  rNil PP v2 fun v10 =>
  rSt 1 v10 v9 σ fun σ =>
  rBin PP .add 3 t9 (.int .i64 (.ofNat 1)) fun v11 =>
  l_save_whole_rd x m0 t0 t7 t8 v11 σ K) (K (.tuple ⟨[]⟩) σ)
theorem l_save_whole_rdE (x : EV) (m0 : Nat) (t0 t7 t8 t9 : Value) (σ : St) (K : VK) : l_save_whole_rd x (m0 + 1) t0 t7 t8 t9 σ K = l_save_whole_rdB x m0 t0 t7 t8 t9 σ K := by kernel_rfl

/-! consistory/save.rows -/
noncomputable def r_save_rows (x : EV) (a0 a1 : Value) (σ : St) (K : VK) : Bool :=
  rNil PP a1 fun v0 =>
  rFld 0 v0 fun v1 =>
  rBuildS 87 1 [(.pointer none)] [(0, 1, v1)] σ fun v2 σ =>
  x.C c_save_whole [a0, v2] σ fun v3 σ =>
  rNil PP a1 fun v4 =>
  rFld 1 v4 fun v5 =>
  rNil PP (.func (.method "consistory/save.text") ⟨[a0]⟩ ⟨[]⟩) fun v6 =>
  rInv PP x.C a0 "consistory/save.text" [v5] σ fun v7 σ =>
  rNil PP a1 fun v8 =>
  rFld 2 v8 fun v9 =>
  rNil PP (.func (.method "consistory/save.is") ⟨[a0]⟩ ⟨[]⟩) fun v10 =>
  rInv PP x.C a0 "consistory/save.is" [v9] σ fun v11 σ =>
  rNil PP a1 fun v12 =>
  rFld 3 v12 fun v13 =>
  x.C c_save_voting [a0, v13] σ fun v14 σ =>
  rNil PP a1 fun v15 =>
  rFld 18 v15 fun v16 =>
  x.C c_save_each_board_Told [a0, v16, (.func (.func c_save_said) #[] #[])] σ fun v17 σ =>
  rNil PP a1 fun v18 =>
  rFld 19 v18 fun v19 =>
  x.C c_save_each_api_Msg [a0, v19, (.func (.func c_save_message) #[] #[])] σ fun v20 σ =>
  K (.tuple ⟨[]⟩) σ
theorem f_save_rows (x : EV) (a0 a1 : Value) (σ : St) (K : VK) : fnX PP tbS c_save_rows (x.E PP) [a0, a1] σ K = r_save_rows x a0 a1 σ K := by kernel_rfl

/-! consistory/save.text -/
noncomputable def r_save_text (x : EV) (a0 a1 : Value) (σ : St) (K : VK) : Bool :=
  rInv PP x.C a0 "consistory/save.text" [a1] σ fun v0 σ =>
  K (.tuple ⟨[]⟩) σ
theorem f_save_text (x : EV) (a0 a1 : Value) (σ : St) (K : VK) : fnX PP tbS c_save_text (x.E PP) [a0, a1] σ K = r_save_text x a0 a1 σ K := by kernel_rfl

/-! consistory/save.each[string] -/
noncomputable def l_save_each_string_rrd (x : EV) (m : Nat) (t0 t1 t2 t6 t7 : Value) (σ : St) (K : VK) : Bool := jmpL PP tbS c_save_each_string (x.E PP) [.r, .r, .d] m [] [t0, t1, t2, t6, t7] σ K
noncomputable def j_save_each_string_rrddrldr (x : EV) (m0 : Nat) (t0 t1 t2 t6 t7 : Value) (σ : St) (K : VK) : Bool := jmpJ PP tbS c_save_each_string (x.E PP) [.r, .r, .d, .d, .r, .l, .d, .r] [m0] [t0, t1, t2, t6, t7] σ K
noncomputable def r_save_each_string (x : EV) (a0 a1 a2 : Value) (σ : St) (K : VK) : Bool :=
  rNil PP a1 fun v0 =>
  rLd v0 σ fun v1 σ =>
  rLenS v1 fun v2 =>
  rNil PP (.func (.method "consistory/save.many") ⟨[a0]⟩ ⟨[]⟩) fun v3 =>
  rInv PP x.C a0 "consistory/save.many" [v2] σ fun v4 σ =>
  rLd v0 σ fun v5 σ =>
  rSame v5 v1 (l_save_each_string_rrd x x.most a0 a1 a2 v4 (.int .i64 (.ofNat 0)) σ K)
theorem f_save_each_string (x : EV) (a0 a1 a2 : Value) (σ : St) (K : VK) : fnX PP tbS c_save_each_string (x.E PP) [a0, a1, a2] σ K = r_save_each_string x a0 a1 a2 σ K := by kernel_rfl
noncomputable def l_save_each_string_rrdB (x : EV) (m0 : Nat) (t0 t1 t2 t6 t7 : Value) (σ : St) (K : VK) : Bool :=
  rBin PP .lss 3 t7 t6 fun v0 =>
  rGuard true v0 (fun k => k t0 σ) σ fun v1 σ =>
  rGuard true v0 (fun k => rInv PP x.C v1 "consistory/save.wrong" [] σ fun v2 σ =>
  k v2 σ) σ fun v3 σ =>
  rGuard true v0 (fun k => rBin PP .eql 37 v3 (.int .i64 (.ofNat 0)) fun v4 =>
  k v4 σ) σ fun v5 σ =>
  rPick v0 v5 (.bool false) fun v6 =>
  rIf v6 (rNil PP t1 fun v7 =>
  rLd v7 σ fun v8 σ =>
  rLenS v8 fun v9 =>
  rBin PP .eql 3 t7 v9 fun v10 =>
  rIf v10 (rNil PP t1 fun v11 =>
  rLd v11 σ fun v12 σ =>
  rBuildS 9 1 [(.string ⟨⟨[]⟩⟩)] [(0, 1, (.string ⟨⟨[]⟩⟩))] σ fun v13 σ =>
  rApp PP 9 1 16 v12 v13 σ fun v14 σ =>
  rNil PP t1 fun v15 =>
  rSt 1 v15 v14 σ fun σ =>
  j_save_each_string_rrddrldr x m0 t0 t1 t2 t6 t7 σ K) (j_save_each_string_rrddrldr x m0 t0 t1 t2 t6 t7 σ K)) (K (.tuple ⟨[]⟩) σ)
theorem l_save_each_string_rrdE (x : EV) (m0 : Nat) (t0 t1 t2 t6 t7 : Value) (σ : St) (K : VK) : l_save_each_string_rrd x (m0 + 1) t0 t1 t2 t6 t7 σ K = l_save_each_string_rrdB x m0 t0 t1 t2 t6 t7 σ K := by kernel_rfl
noncomputable def j_save_each_string_rrddrldrB (x : EV) (m0 : Nat) (t0 t1 t2 t6 t7 : Value) (σ : St) (K : VK) : Bool :=
  rNil PP t1 fun v0 =>
  rLd v0 σ fun v1 σ =>
  rIdx 1 v1 t7 fun v2 =>
  rCallV x.C x.R t2 [t0, v2] σ fun v3 σ =>
  rBin PP .add 3 t7 (.int .i64 (.ofNat 1)) fun v4 =>
  l_save_each_string_rrd x m0 t0 t1 t2 t6 v4 σ K
theorem j_save_each_string_rrddrldrE0 (x : EV) (m0 : Nat) (t0 t1 t2 t6 t7 : Value) (σ : St) (K : VK) : jmp0 PP tbS c_save_each_string (x.E PP) [.r, .r, .d, .d, .r, .l, .d, .r] [m0] [t0, t1, t2, t6, t7] σ K = j_save_each_string_rrddrldrB x m0 t0 t1 t2 t6 t7 σ K := by kernel_rfl
theorem j_save_each_string_rrddrldrE (x : EV) (hm : x.most ≠ 0) (m0 : Nat) (t0 t1 t2 t6 t7 : Value) (σ : St) (K : VK) : j_save_each_string_rrddrldr x m0 t0 t1 t2 t6 t7 σ K = j_save_each_string_rrddrldrB x m0 t0 t1 t2 t6 t7 σ K := (jmpJ_eq c_save_each_string (x.E PP) [.r, .r, .d, .d, .r, .l, .d, .r] [m0] [t0, t1, t2, t6, t7] σ K hm).trans (j_save_each_string_rrddrldrE0 x m0 t0 t1 t2 t6 t7 σ K)

/-! consistory/save.each[consistory/api.Pair] -/
noncomputable def l_save_each_api_Pair_rrd (x : EV) (m : Nat) (t0 t1 t2 t6 t7 : Value) (σ : St) (K : VK) : Bool := jmpL PP tbS c_save_each_api_Pair (x.E PP) [.r, .r, .d] m [] [t0, t1, t2, t6, t7] σ K
noncomputable def j_save_each_api_Pair_rrddrldr (x : EV) (m0 : Nat) (t0 t1 t2 t6 t7 : Value) (σ : St) (K : VK) : Bool := jmpJ PP tbS c_save_each_api_Pair (x.E PP) [.r, .r, .d, .d, .r, .l, .d, .r] [m0] [t0, t1, t2, t6, t7] σ K
noncomputable def r_save_each_api_Pair (x : EV) (a0 a1 a2 : Value) (σ : St) (K : VK) : Bool :=
  rNil PP a1 fun v0 =>
  rLd v0 σ fun v1 σ =>
  rLenS v1 fun v2 =>
  rNil PP (.func (.method "consistory/save.many") ⟨[a0]⟩ ⟨[]⟩) fun v3 =>
  rInv PP x.C a0 "consistory/save.many" [v2] σ fun v4 σ =>
  rLd v0 σ fun v5 σ =>
  rSame v5 v1 (l_save_each_api_Pair_rrd x x.most a0 a1 a2 v4 (.int .i64 (.ofNat 0)) σ K)
theorem f_save_each_api_Pair (x : EV) (a0 a1 a2 : Value) (σ : St) (K : VK) : fnX PP tbS c_save_each_api_Pair (x.E PP) [a0, a1, a2] σ K = r_save_each_api_Pair x a0 a1 a2 σ K := by kernel_rfl
noncomputable def l_save_each_api_Pair_rrdB (x : EV) (m0 : Nat) (t0 t1 t2 t6 t7 : Value) (σ : St) (K : VK) : Bool :=
  rBin PP .lss 3 t7 t6 fun v0 =>
  rGuard true v0 (fun k => k t0 σ) σ fun v1 σ =>
  rGuard true v0 (fun k => rInv PP x.C v1 "consistory/save.wrong" [] σ fun v2 σ =>
  k v2 σ) σ fun v3 σ =>
  rGuard true v0 (fun k => rBin PP .eql 37 v3 (.int .i64 (.ofNat 0)) fun v4 =>
  k v4 σ) σ fun v5 σ =>
  rPick v0 v5 (.bool false) fun v6 =>
  rIf v6 (rNil PP t1 fun v7 =>
  rLd v7 σ fun v8 σ =>
  rLenS v8 fun v9 =>
  rBin PP .eql 3 t7 v9 fun v10 =>
  rIf v10 (rAlloc [(.int .u64 (.ofNat 0)), (.int .u64 (.ofNat 0))] 58 σ fun v11 σ =>
  rNil PP t1 fun v12 =>
  rLd v12 σ fun v13 σ =>
  rLdN 2 v11 σ fun v14 σ =>
  rLdN 2 v11 σ fun v15 σ =>
  rSame v15 v14 (rLd v12 σ fun v16 σ =>
  rSame v16 v13 (bcase (rBuildS 58 1 [(.int .u64 (.ofNat 0)), (.int .u64 (.ofNat 0))] [(0, 2, v14)] σ fun v17 σ =>
  true) (rBuildS 58 1 [(.int .u64 (.ofNat 0)), (.int .u64 (.ofNat 0))] [(0, 2, v14)] σ fun v18 σ =>
  rApp PP 58 2 16 v13 v18 σ fun v19 σ =>
  rNil PP t1 fun v20 =>
  rSt 1 v20 v19 σ fun σ =>
  j_save_each_api_Pair_rrddrldr x m0 t0 t1 t2 t6 t7 σ K) false))) (j_save_each_api_Pair_rrddrldr x m0 t0 t1 t2 t6 t7 σ K)) (K (.tuple ⟨[]⟩) σ)
theorem l_save_each_api_Pair_rrdE (x : EV) (m0 : Nat) (t0 t1 t2 t6 t7 : Value) (σ : St) (K : VK) : l_save_each_api_Pair_rrd x (m0 + 1) t0 t1 t2 t6 t7 σ K = l_save_each_api_Pair_rrdB x m0 t0 t1 t2 t6 t7 σ K := by kernel_rfl
noncomputable def j_save_each_api_Pair_rrddrldrB (x : EV) (m0 : Nat) (t0 t1 t2 t6 t7 : Value) (σ : St) (K : VK) : Bool :=
  rNil PP t1 fun v0 =>
  rLd v0 σ fun v1 σ =>
  rIdx 2 v1 t7 fun v2 =>
  rCallV x.C x.R t2 [t0, v2] σ fun v3 σ =>
  rBin PP .add 3 t7 (.int .i64 (.ofNat 1)) fun v4 =>
  l_save_each_api_Pair_rrd x m0 t0 t1 t2 t6 v4 σ K
theorem j_save_each_api_Pair_rrddrldrE0 (x : EV) (m0 : Nat) (t0 t1 t2 t6 t7 : Value) (σ : St) (K : VK) : jmp0 PP tbS c_save_each_api_Pair (x.E PP) [.r, .r, .d, .d, .r, .l, .d, .r] [m0] [t0, t1, t2, t6, t7] σ K = j_save_each_api_Pair_rrddrldrB x m0 t0 t1 t2 t6 t7 σ K := by kernel_rfl
theorem j_save_each_api_Pair_rrddrldrE (x : EV) (hm : x.most ≠ 0) (m0 : Nat) (t0 t1 t2 t6 t7 : Value) (σ : St) (K : VK) : j_save_each_api_Pair_rrddrldr x m0 t0 t1 t2 t6 t7 σ K = j_save_each_api_Pair_rrddrldrB x m0 t0 t1 t2 t6 t7 σ K := (jmpJ_eq c_save_each_api_Pair (x.E PP) [.r, .r, .d, .d, .r, .l, .d, .r] [m0] [t0, t1, t2, t6, t7] σ K hm).trans (j_save_each_api_Pair_rrddrldrE0 x m0 t0 t1 t2 t6 t7 σ K)

/-! consistory/save.pair -/
noncomputable def r_save_pair (x : EV) (a0 a1 : Value) (σ : St) (K : VK) : Bool :=
  rNil PP a1 fun v0 =>
  rFld 0 v0 fun v1 =>
  rNil PP (.func (.method "consistory/save.number") ⟨[a0]⟩ ⟨[]⟩) fun v2 =>
  rInv PP x.C a0 "consistory/save.number" [v1] σ fun v3 σ =>
  rNil PP a1 fun v4 =>
  rFld 1 v4 fun v5 =>
  rNil PP (.func (.method "consistory/save.number") ⟨[a0]⟩ ⟨[]⟩) fun v6 =>
  rInv PP x.C a0 "consistory/save.number" [v5] σ fun v7 σ =>
  K (.tuple ⟨[]⟩) σ
theorem f_save_pair (x : EV) (a0 a1 : Value) (σ : St) (K : VK) : fnX PP tbS c_save_pair (x.E PP) [a0, a1] σ K = r_save_pair x a0 a1 σ K := by kernel_rfl

/-! consistory/save.each[consistory/avss.State] -/
noncomputable def l_save_each_avss_State_rrd (x : EV) (m : Nat) (t0 t1 t2 t6 t7 : Value) (σ : St) (K : VK) : Bool := jmpL PP tbS c_save_each_avss_State (x.E PP) [.r, .r, .d] m [] [t0, t1, t2, t6, t7] σ K
noncomputable def j_save_each_avss_State_rrddrldr (x : EV) (m0 : Nat) (t0 t1 t2 t6 t7 : Value) (σ : St) (K : VK) : Bool := jmpJ PP tbS c_save_each_avss_State (x.E PP) [.r, .r, .d, .d, .r, .l, .d, .r] [m0] [t0, t1, t2, t6, t7] σ K
noncomputable def r_save_each_avss_State (x : EV) (a0 a1 a2 : Value) (σ : St) (K : VK) : Bool :=
  rNil PP a1 fun v0 =>
  rLd v0 σ fun v1 σ =>
  rLenS v1 fun v2 =>
  rNil PP (.func (.method "consistory/save.many") ⟨[a0]⟩ ⟨[]⟩) fun v3 =>
  rInv PP x.C a0 "consistory/save.many" [v2] σ fun v4 σ =>
  rLd v0 σ fun v5 σ =>
  rSame v5 v1 (l_save_each_avss_State_rrd x x.most a0 a1 a2 v4 (.int .i64 (.ofNat 0)) σ K)
theorem f_save_each_avss_State (x : EV) (a0 a1 a2 : Value) (σ : St) (K : VK) : fnX PP tbS c_save_each_avss_State (x.E PP) [a0, a1, a2] σ K = r_save_each_avss_State x a0 a1 a2 σ K := by kernel_rfl
noncomputable def l_save_each_avss_State_rrdB (x : EV) (m0 : Nat) (t0 t1 t2 t6 t7 : Value) (σ : St) (K : VK) : Bool :=
  rBin PP .lss 3 t7 t6 fun v0 =>
  rGuard true v0 (fun k => k t0 σ) σ fun v1 σ =>
  rGuard true v0 (fun k => rInv PP x.C v1 "consistory/save.wrong" [] σ fun v2 σ =>
  k v2 σ) σ fun v3 σ =>
  rGuard true v0 (fun k => rBin PP .eql 37 v3 (.int .i64 (.ofNat 0)) fun v4 =>
  k v4 σ) σ fun v5 σ =>
  rPick v0 v5 (.bool false) fun v6 =>
  rIf v6 (rNil PP t1 fun v7 =>
  rLd v7 σ fun v8 σ =>
  rLenS v8 fun v9 =>
  rBin PP .eql 3 t7 v9 fun v10 =>
  rIf v10 (rAlloc [(.int .i64 (.ofNat 0)), (.int .i64 (.ofNat 0)), (.slice none 0 0), (.slice none 0 0), (.slice none 0 0), (.slice none 0 0), (.slice none 0 0), (.bool false)] 82 σ fun v11 σ =>
  rNil PP t1 fun v12 =>
  rLd v12 σ fun v13 σ =>
  rLdN 8 v11 σ fun v14 σ =>
  rLdN 8 v11 σ fun v15 σ =>
  rSame v15 v14 (rLd v12 σ fun v16 σ =>
  rSame v16 v13 (bcase (rBuildS 82 1 [(.int .i64 (.ofNat 0)), (.int .i64 (.ofNat 0)), (.slice none 0 0), (.slice none 0 0), (.slice none 0 0), (.slice none 0 0), (.slice none 0 0), (.bool false)] [(0, 8, v14)] σ fun v17 σ =>
  true) (rBuildS 82 1 [(.int .i64 (.ofNat 0)), (.int .i64 (.ofNat 0)), (.slice none 0 0), (.slice none 0 0), (.slice none 0 0), (.slice none 0 0), (.slice none 0 0), (.bool false)] [(0, 8, v14)] σ fun v18 σ =>
  rApp PP 82 8 144 v13 v18 σ fun v19 σ =>
  rNil PP t1 fun v20 =>
  rSt 1 v20 v19 σ fun σ =>
  j_save_each_avss_State_rrddrldr x m0 t0 t1 t2 t6 t7 σ K) false))) (j_save_each_avss_State_rrddrldr x m0 t0 t1 t2 t6 t7 σ K)) (K (.tuple ⟨[]⟩) σ)
theorem l_save_each_avss_State_rrdE (x : EV) (m0 : Nat) (t0 t1 t2 t6 t7 : Value) (σ : St) (K : VK) : l_save_each_avss_State_rrd x (m0 + 1) t0 t1 t2 t6 t7 σ K = l_save_each_avss_State_rrdB x m0 t0 t1 t2 t6 t7 σ K := by kernel_rfl
noncomputable def j_save_each_avss_State_rrddrldrB (x : EV) (m0 : Nat) (t0 t1 t2 t6 t7 : Value) (σ : St) (K : VK) : Bool :=
  rNil PP t1 fun v0 =>
  rLd v0 σ fun v1 σ =>
  rIdx 8 v1 t7 fun v2 =>
  rCallV x.C x.R t2 [t0, v2] σ fun v3 σ =>
  rBin PP .add 3 t7 (.int .i64 (.ofNat 1)) fun v4 =>
  l_save_each_avss_State_rrd x m0 t0 t1 t2 t6 v4 σ K
theorem j_save_each_avss_State_rrddrldrE0 (x : EV) (m0 : Nat) (t0 t1 t2 t6 t7 : Value) (σ : St) (K : VK) : jmp0 PP tbS c_save_each_avss_State (x.E PP) [.r, .r, .d, .d, .r, .l, .d, .r] [m0] [t0, t1, t2, t6, t7] σ K = j_save_each_avss_State_rrddrldrB x m0 t0 t1 t2 t6 t7 σ K := by kernel_rfl
theorem j_save_each_avss_State_rrddrldrE (x : EV) (hm : x.most ≠ 0) (m0 : Nat) (t0 t1 t2 t6 t7 : Value) (σ : St) (K : VK) : j_save_each_avss_State_rrddrldr x m0 t0 t1 t2 t6 t7 σ K = j_save_each_avss_State_rrddrldrB x m0 t0 t1 t2 t6 t7 σ K := (jmpJ_eq c_save_each_avss_State (x.E PP) [.r, .r, .d, .d, .r, .l, .d, .r] [m0] [t0, t1, t2, t6, t7] σ K hm).trans (j_save_each_avss_State_rrddrldrE0 x m0 t0 t1 t2 t6 t7 σ K)

/-! consistory/save.dealing -/
noncomputable def r_save_dealing (x : EV) (a0 a1 : Value) (σ : St) (K : VK) : Bool :=
  rNil PP a1 fun v0 =>
  rFld 0 v0 fun v1 =>
  rNil PP a1 fun v2 =>
  rFld 1 v2 fun v3 =>
  bcase (rBuildS 87 2 [(.pointer none)] [(0, 1, v1), (1, 1, v3)] σ fun v4 σ =>
  true) (rBuildS 87 2 [(.pointer none)] [(0, 1, v1), (1, 1, v3)] σ fun v5 σ =>
  x.C c_save_whole [a0, v5] σ fun v6 σ =>
  rNil PP a1 fun v7 =>
  rFld 2 v7 fun v8 =>
  x.C c_save_each_list_uint64 [a0, v8, (.func (.func c_save_nums) #[] #[])] σ fun v9 σ =>
  rNil PP a1 fun v10 =>
  rFld 3 v10 fun v11 =>
  rNil PP (.func (.method "consistory/save.nums") ⟨[a0]⟩ ⟨[]⟩) fun v12 =>
  rInv PP x.C a0 "consistory/save.nums" [v11] σ fun v13 σ =>
  rNil PP a1 fun v14 =>
  rFld 4 v14 fun v15 =>
  x.C c_save_each_avss_Told [a0, v15, (.func (.func c_save_told) #[] #[])] σ fun v16 σ =>
  rNil PP a1 fun v17 =>
  rFld 5 v17 fun v18 =>
  x.C c_save_each_avss_Told [a0, v18, (.func (.func c_save_told) #[] #[])] σ fun v19 σ =>
  rNil PP a1 fun v20 =>
  rFld 6 v20 fun v21 =>
  rNil PP (.func (.method "consistory/save.nums") ⟨[a0]⟩ ⟨[]⟩) fun v22 =>
  rInv PP x.C a0 "consistory/save.nums" [v21] σ fun v23 σ =>
  rNil PP a1 fun v24 =>
  rFld 7 v24 fun v25 =>
  rNil PP (.func (.method "consistory/save.is") ⟨[a0]⟩ ⟨[]⟩) fun v26 =>
  rInv PP x.C a0 "consistory/save.is" [v25] σ fun v27 σ =>
  K (.tuple ⟨[]⟩) σ) false
theorem f_save_dealing (x : EV) (a0 a1 : Value) (σ : St) (K : VK) : fnX PP tbS c_save_dealing (x.E PP) [a0, a1] σ K = r_save_dealing x a0 a1 σ K := by kernel_rfl

/-! consistory/save.each[consistory/node.Done] -/
noncomputable def l_save_each_node_Done_rrd (x : EV) (m : Nat) (t0 t1 t2 t6 t7 : Value) (σ : St) (K : VK) : Bool := jmpL PP tbS c_save_each_node_Done (x.E PP) [.r, .r, .d] m [] [t0, t1, t2, t6, t7] σ K
noncomputable def j_save_each_node_Done_rrddrldr (x : EV) (m0 : Nat) (t0 t1 t2 t6 t7 : Value) (σ : St) (K : VK) : Bool := jmpJ PP tbS c_save_each_node_Done (x.E PP) [.r, .r, .d, .d, .r, .l, .d, .r] [m0] [t0, t1, t2, t6, t7] σ K
noncomputable def r_save_each_node_Done (x : EV) (a0 a1 a2 : Value) (σ : St) (K : VK) : Bool :=
  rNil PP a1 fun v0 =>
  rLd v0 σ fun v1 σ =>
  rLenS v1 fun v2 =>
  rNil PP (.func (.method "consistory/save.many") ⟨[a0]⟩ ⟨[]⟩) fun v3 =>
  rInv PP x.C a0 "consistory/save.many" [v2] σ fun v4 σ =>
  rLd v0 σ fun v5 σ =>
  rSame v5 v1 (l_save_each_node_Done_rrd x x.most a0 a1 a2 v4 (.int .i64 (.ofNat 0)) σ K)
theorem f_save_each_node_Done (x : EV) (a0 a1 a2 : Value) (σ : St) (K : VK) : fnX PP tbS c_save_each_node_Done (x.E PP) [a0, a1, a2] σ K = r_save_each_node_Done x a0 a1 a2 σ K := by kernel_rfl
noncomputable def l_save_each_node_Done_rrdB (x : EV) (m0 : Nat) (t0 t1 t2 t6 t7 : Value) (σ : St) (K : VK) : Bool :=
  rBin PP .lss 3 t7 t6 fun v0 =>
  rGuard true v0 (fun k => k t0 σ) σ fun v1 σ =>
  rGuard true v0 (fun k => rInv PP x.C v1 "consistory/save.wrong" [] σ fun v2 σ =>
  k v2 σ) σ fun v3 σ =>
  rGuard true v0 (fun k => rBin PP .eql 37 v3 (.int .i64 (.ofNat 0)) fun v4 =>
  k v4 σ) σ fun v5 σ =>
  rPick v0 v5 (.bool false) fun v6 =>
  rIf v6 (rNil PP t1 fun v7 =>
  rLd v7 σ fun v8 σ =>
  rLenS v8 fun v9 =>
  rBin PP .eql 3 t7 v9 fun v10 =>
  rIf v10 (rAlloc [(.int .i64 (.ofNat 0)), (.int .i64 (.ofNat 0)), (.slice none 0 0)] 51 σ fun v11 σ =>
  rNil PP t1 fun v12 =>
  rLd v12 σ fun v13 σ =>
  rLdN 3 v11 σ fun v14 σ =>
  rLdN 3 v11 σ fun v15 σ =>
  rSame v15 v14 (rLd v12 σ fun v16 σ =>
  rSame v16 v13 (bcase (rBuildS 51 1 [(.int .i64 (.ofNat 0)), (.int .i64 (.ofNat 0)), (.slice none 0 0)] [(0, 3, v14)] σ fun v17 σ =>
  true) (rBuildS 51 1 [(.int .i64 (.ofNat 0)), (.int .i64 (.ofNat 0)), (.slice none 0 0)] [(0, 3, v14)] σ fun v18 σ =>
  rApp PP 51 3 40 v13 v18 σ fun v19 σ =>
  rNil PP t1 fun v20 =>
  rSt 1 v20 v19 σ fun σ =>
  j_save_each_node_Done_rrddrldr x m0 t0 t1 t2 t6 t7 σ K) false))) (j_save_each_node_Done_rrddrldr x m0 t0 t1 t2 t6 t7 σ K)) (K (.tuple ⟨[]⟩) σ)
theorem l_save_each_node_Done_rrdE (x : EV) (m0 : Nat) (t0 t1 t2 t6 t7 : Value) (σ : St) (K : VK) : l_save_each_node_Done_rrd x (m0 + 1) t0 t1 t2 t6 t7 σ K = l_save_each_node_Done_rrdB x m0 t0 t1 t2 t6 t7 σ K := by kernel_rfl
noncomputable def j_save_each_node_Done_rrddrldrB (x : EV) (m0 : Nat) (t0 t1 t2 t6 t7 : Value) (σ : St) (K : VK) : Bool :=
  rNil PP t1 fun v0 =>
  rLd v0 σ fun v1 σ =>
  rIdx 3 v1 t7 fun v2 =>
  rCallV x.C x.R t2 [t0, v2] σ fun v3 σ =>
  rBin PP .add 3 t7 (.int .i64 (.ofNat 1)) fun v4 =>
  l_save_each_node_Done_rrd x m0 t0 t1 t2 t6 v4 σ K
theorem j_save_each_node_Done_rrddrldrE0 (x : EV) (m0 : Nat) (t0 t1 t2 t6 t7 : Value) (σ : St) (K : VK) : jmp0 PP tbS c_save_each_node_Done (x.E PP) [.r, .r, .d, .d, .r, .l, .d, .r] [m0] [t0, t1, t2, t6, t7] σ K = j_save_each_node_Done_rrddrldrB x m0 t0 t1 t2 t6 t7 σ K := by kernel_rfl
theorem j_save_each_node_Done_rrddrldrE (x : EV) (hm : x.most ≠ 0) (m0 : Nat) (t0 t1 t2 t6 t7 : Value) (σ : St) (K : VK) : j_save_each_node_Done_rrddrldr x m0 t0 t1 t2 t6 t7 σ K = j_save_each_node_Done_rrddrldrB x m0 t0 t1 t2 t6 t7 σ K := (jmpJ_eq c_save_each_node_Done (x.E PP) [.r, .r, .d, .d, .r, .l, .d, .r] [m0] [t0, t1, t2, t6, t7] σ K hm).trans (j_save_each_node_Done_rrddrldrE0 x m0 t0 t1 t2 t6 t7 σ K)

/-! consistory/save.done -/
noncomputable def r_save_done (x : EV) (a0 a1 : Value) (σ : St) (K : VK) : Bool :=
  rNil PP a1 fun v0 =>
  rFld 0 v0 fun v1 =>
  rNil PP a1 fun v2 =>
  rFld 1 v2 fun v3 =>
  bcase (rBuildS 87 2 [(.pointer none)] [(0, 1, v1), (1, 1, v3)] σ fun v4 σ =>
  true) (rBuildS 87 2 [(.pointer none)] [(0, 1, v1), (1, 1, v3)] σ fun v5 σ =>
  x.C c_save_whole [a0, v5] σ fun v6 σ =>
  rNil PP a1 fun v7 =>
  rFld 2 v7 fun v8 =>
  rNil PP (.func (.method "consistory/save.nums") ⟨[a0]⟩ ⟨[]⟩) fun v9 =>
  rInv PP x.C a0 "consistory/save.nums" [v8] σ fun v10 σ =>
  K (.tuple ⟨[]⟩) σ) false
theorem f_save_done (x : EV) (a0 a1 : Value) (σ : St) (K : VK) : fnX PP tbS c_save_done (x.E PP) [a0, a1] σ K = r_save_done x a0 a1 σ K := by kernel_rfl

/-! consistory/save.each[consistory/api.Msg] -/
noncomputable def l_save_each_api_Msg_rrd (x : EV) (m : Nat) (t0 t1 t2 t6 t7 : Value) (σ : St) (K : VK) : Bool := jmpL PP tbS c_save_each_api_Msg (x.E PP) [.r, .r, .d] m [] [t0, t1, t2, t6, t7] σ K
noncomputable def j_save_each_api_Msg_rrddrldr (x : EV) (m0 : Nat) (t0 t1 t2 t6 t7 : Value) (σ : St) (K : VK) : Bool := jmpJ PP tbS c_save_each_api_Msg (x.E PP) [.r, .r, .d, .d, .r, .l, .d, .r] [m0] [t0, t1, t2, t6, t7] σ K
noncomputable def r_save_each_api_Msg (x : EV) (a0 a1 a2 : Value) (σ : St) (K : VK) : Bool :=
  rNil PP a1 fun v0 =>
  rLd v0 σ fun v1 σ =>
  rLenS v1 fun v2 =>
  rNil PP (.func (.method "consistory/save.many") ⟨[a0]⟩ ⟨[]⟩) fun v3 =>
  rInv PP x.C a0 "consistory/save.many" [v2] σ fun v4 σ =>
  rLd v0 σ fun v5 σ =>
  rSame v5 v1 (l_save_each_api_Msg_rrd x x.most a0 a1 a2 v4 (.int .i64 (.ofNat 0)) σ K)
theorem f_save_each_api_Msg (x : EV) (a0 a1 a2 : Value) (σ : St) (K : VK) : fnX PP tbS c_save_each_api_Msg (x.E PP) [a0, a1, a2] σ K = r_save_each_api_Msg x a0 a1 a2 σ K := by kernel_rfl
noncomputable def l_save_each_api_Msg_rrdB (x : EV) (m0 : Nat) (t0 t1 t2 t6 t7 : Value) (σ : St) (K : VK) : Bool :=
  rBin PP .lss 3 t7 t6 fun v0 =>
  rGuard true v0 (fun k => k t0 σ) σ fun v1 σ =>
  rGuard true v0 (fun k => rInv PP x.C v1 "consistory/save.wrong" [] σ fun v2 σ =>
  k v2 σ) σ fun v3 σ =>
  rGuard true v0 (fun k => rBin PP .eql 37 v3 (.int .i64 (.ofNat 0)) fun v4 =>
  k v4 σ) σ fun v5 σ =>
  rPick v0 v5 (.bool false) fun v6 =>
  rIf v6 (rNil PP t1 fun v7 =>
  rLd v7 σ fun v8 σ =>
  rLenS v8 fun v9 =>
  rBin PP .eql 3 t7 v9 fun v10 =>
  rIf v10 (rAlloc [(.int .u8 (.ofNat 0)), (.int .i64 (.ofNat 0)), (.int .i64 (.ofNat 0)), (.int .i64 (.ofNat 0)), (.int .i64 (.ofNat 0)), (.int .i64 (.ofNat 0)), (.int .i64 (.ofNat 0)), (.int .i64 (.ofNat 0)), (.int .i64 (.ofNat 0)), (.string ⟨⟨[]⟩⟩), (.slice none 0 0)] 78 σ fun v11 σ =>
  rNil PP t1 fun v12 =>
  rLd v12 σ fun v13 σ =>
  rLdN 11 v11 σ fun v14 σ =>
  rLdN 11 v11 σ fun v15 σ =>
  rSame v15 v14 (rLd v12 σ fun v16 σ =>
  rSame v16 v13 (bcase (rBuildS 78 1 [(.int .u8 (.ofNat 0)), (.int .i64 (.ofNat 0)), (.int .i64 (.ofNat 0)), (.int .i64 (.ofNat 0)), (.int .i64 (.ofNat 0)), (.int .i64 (.ofNat 0)), (.int .i64 (.ofNat 0)), (.int .i64 (.ofNat 0)), (.int .i64 (.ofNat 0)), (.string ⟨⟨[]⟩⟩), (.slice none 0 0)] [(0, 11, v14)] σ fun v17 σ =>
  true) (rBuildS 78 1 [(.int .u8 (.ofNat 0)), (.int .i64 (.ofNat 0)), (.int .i64 (.ofNat 0)), (.int .i64 (.ofNat 0)), (.int .i64 (.ofNat 0)), (.int .i64 (.ofNat 0)), (.int .i64 (.ofNat 0)), (.int .i64 (.ofNat 0)), (.int .i64 (.ofNat 0)), (.string ⟨⟨[]⟩⟩), (.slice none 0 0)] [(0, 11, v14)] σ fun v18 σ =>
  rApp PP 78 11 112 v13 v18 σ fun v19 σ =>
  rNil PP t1 fun v20 =>
  rSt 1 v20 v19 σ fun σ =>
  j_save_each_api_Msg_rrddrldr x m0 t0 t1 t2 t6 t7 σ K) false))) (j_save_each_api_Msg_rrddrldr x m0 t0 t1 t2 t6 t7 σ K)) (K (.tuple ⟨[]⟩) σ)
theorem l_save_each_api_Msg_rrdE (x : EV) (m0 : Nat) (t0 t1 t2 t6 t7 : Value) (σ : St) (K : VK) : l_save_each_api_Msg_rrd x (m0 + 1) t0 t1 t2 t6 t7 σ K = l_save_each_api_Msg_rrdB x m0 t0 t1 t2 t6 t7 σ K := by kernel_rfl
noncomputable def j_save_each_api_Msg_rrddrldrB (x : EV) (m0 : Nat) (t0 t1 t2 t6 t7 : Value) (σ : St) (K : VK) : Bool :=
  rNil PP t1 fun v0 =>
  rLd v0 σ fun v1 σ =>
  rIdx 11 v1 t7 fun v2 =>
  rCallV x.C x.R t2 [t0, v2] σ fun v3 σ =>
  rBin PP .add 3 t7 (.int .i64 (.ofNat 1)) fun v4 =>
  l_save_each_api_Msg_rrd x m0 t0 t1 t2 t6 v4 σ K
theorem j_save_each_api_Msg_rrddrldrE0 (x : EV) (m0 : Nat) (t0 t1 t2 t6 t7 : Value) (σ : St) (K : VK) : jmp0 PP tbS c_save_each_api_Msg (x.E PP) [.r, .r, .d, .d, .r, .l, .d, .r] [m0] [t0, t1, t2, t6, t7] σ K = j_save_each_api_Msg_rrddrldrB x m0 t0 t1 t2 t6 t7 σ K := by kernel_rfl
theorem j_save_each_api_Msg_rrddrldrE (x : EV) (hm : x.most ≠ 0) (m0 : Nat) (t0 t1 t2 t6 t7 : Value) (σ : St) (K : VK) : j_save_each_api_Msg_rrddrldr x m0 t0 t1 t2 t6 t7 σ K = j_save_each_api_Msg_rrddrldrB x m0 t0 t1 t2 t6 t7 σ K := (jmpJ_eq c_save_each_api_Msg (x.E PP) [.r, .r, .d, .d, .r, .l, .d, .r] [m0] [t0, t1, t2, t6, t7] σ K hm).trans (j_save_each_api_Msg_rrddrldrE0 x m0 t0 t1 t2 t6 t7 σ K)

/-! consistory/save.message -/
noncomputable def r_save_message (x : EV) (a0 a1 : Value) (σ : St) (K : VK) : Bool :=
  rNil PP a1 fun v0 =>
  rFld 0 v0 fun v1 =>
  rNil PP (.func (.method "consistory/save.kind") ⟨[a0]⟩ ⟨[]⟩) fun v2 =>
  rInv PP x.C a0 "consistory/save.kind" [v1] σ fun v3 σ =>
  rNil PP a1 fun v4 =>
  rFld 1 v4 fun v5 =>
  rNil PP a1 fun v6 =>
  rFld 2 v6 fun v7 =>
  rNil PP a1 fun v8 =>
  rFld 3 v8 fun v9 =>
  rNil PP a1 fun v10 =>
  rFld 4 v10 fun v11 =>
  rNil PP a1 fun v12 =>
  rFld 5 v12 fun v13 =>
  rNil PP a1 fun v14 =>
  rFld 6 v14 fun v15 =>
  rNil PP a1 fun v16 =>
  rFld 7 v16 fun v17 =>
  rNil PP a1 fun v18 =>
  rFld 8 v18 fun v19 =>
  bcase (rBuildS 87 8 [(.pointer none)] [(0, 1, v5), (1, 1, v7), (2, 1, v9), (3, 1, v11), (4, 1, v13), (5, 1, v15), (6, 1, v17), (7, 1, v19)] σ fun v20 σ =>
  true) (rBuildS 87 8 [(.pointer none)] [(0, 1, v5), (1, 1, v7), (2, 1, v9), (3, 1, v11), (4, 1, v13), (5, 1, v15), (6, 1, v17), (7, 1, v19)] σ fun v21 σ =>
  x.C c_save_whole [a0, v21] σ fun v22 σ =>
  rNil PP a1 fun v23 =>
  rFld 9 v23 fun v24 =>
  rNil PP (.func (.method "consistory/save.text") ⟨[a0]⟩ ⟨[]⟩) fun v25 =>
  rInv PP x.C a0 "consistory/save.text" [v24] σ fun v26 σ =>
  rNil PP a1 fun v27 =>
  rFld 10 v27 fun v28 =>
  rNil PP (.func (.method "consistory/save.nums") ⟨[a0]⟩ ⟨[]⟩) fun v29 =>
  rInv PP x.C a0 "consistory/save.nums" [v28] σ fun v30 σ =>
  K (.tuple ⟨[]⟩) σ) false
theorem f_save_message (x : EV) (a0 a1 : Value) (σ : St) (K : VK) : fnX PP tbS c_save_message (x.E PP) [a0, a1] σ K = r_save_message x a0 a1 σ K := by kernel_rfl

/-! consistory/save.voting -/
noncomputable def r_save_voting (x : EV) (a0 a1 : Value) (σ : St) (K : VK) : Bool :=
  rNil PP a1 fun v0 =>
  rFld 0 v0 fun v1 =>
  rNil PP a1 fun v2 =>
  rFld 1 v2 fun v3 =>
  rNil PP a1 fun v4 =>
  rFld 2 v4 fun v5 =>
  rNil PP a1 fun v6 =>
  rFld 3 v6 fun v7 =>
  rNil PP a1 fun v8 =>
  rFld 4 v8 fun v9 =>
  rNil PP a1 fun v10 =>
  rFld 5 v10 fun v11 =>
  rNil PP a1 fun v12 =>
  rFld 6 v12 fun v13 =>
  bcase (rBuildS 87 7 [(.pointer none)] [(0, 1, v1), (1, 1, v3), (2, 1, v5), (3, 1, v7), (4, 1, v9), (5, 1, v11), (6, 1, v13)] σ fun v14 σ =>
  true) (rBuildS 87 7 [(.pointer none)] [(0, 1, v1), (1, 1, v3), (2, 1, v5), (3, 1, v7), (4, 1, v9), (5, 1, v11), (6, 1, v13)] σ fun v15 σ =>
  x.C c_save_whole [a0, v15] σ fun v16 σ =>
  rNil PP a1 fun v17 =>
  rFld 7 v17 fun v18 =>
  rNil PP (.func (.method "consistory/save.text") ⟨[a0]⟩ ⟨[]⟩) fun v19 =>
  rInv PP x.C a0 "consistory/save.text" [v18] σ fun v20 σ =>
  rNil PP a1 fun v21 =>
  rFld 8 v21 fun v22 =>
  rNil PP (.func (.method "consistory/save.text") ⟨[a0]⟩ ⟨[]⟩) fun v23 =>
  rInv PP x.C a0 "consistory/save.text" [v22] σ fun v24 σ =>
  rNil PP a1 fun v25 =>
  rFld 9 v25 fun v26 =>
  rNil PP a1 fun v27 =>
  rFld 10 v27 fun v28 =>
  bcase (rBuildS 87 2 [(.pointer none)] [(0, 1, v26), (1, 1, v28)] σ fun v29 σ =>
  true) (rBuildS 87 2 [(.pointer none)] [(0, 1, v26), (1, 1, v28)] σ fun v30 σ =>
  x.C c_save_whole [a0, v30] σ fun v31 σ =>
  rNil PP a1 fun v32 =>
  rFld 11 v32 fun v33 =>
  rNil PP (.func (.method "consistory/save.is") ⟨[a0]⟩ ⟨[]⟩) fun v34 =>
  rInv PP x.C a0 "consistory/save.is" [v33] σ fun v35 σ =>
  rNil PP a1 fun v36 =>
  rFld 12 v36 fun v37 =>
  rNil PP (.func (.method "consistory/save.is") ⟨[a0]⟩ ⟨[]⟩) fun v38 =>
  rInv PP x.C a0 "consistory/save.is" [v37] σ fun v39 σ =>
  rNil PP a1 fun v40 =>
  rFld 13 v40 fun v41 =>
  rNil PP (.func (.method "consistory/save.text") ⟨[a0]⟩ ⟨[]⟩) fun v42 =>
  rInv PP x.C a0 "consistory/save.text" [v41] σ fun v43 σ =>
  rNil PP a1 fun v44 =>
  rFld 14 v44 fun v45 =>
  x.C c_save_each_tally_Vote [a0, v45, (.func (.func c_save_vote) #[] #[])] σ fun v46 σ =>
  K (.tuple ⟨[]⟩) σ) false) false
theorem f_save_voting (x : EV) (a0 a1 : Value) (σ : St) (K : VK) : fnX PP tbS c_save_voting (x.E PP) [a0, a1] σ K = r_save_voting x a0 a1 σ K := by kernel_rfl

/-! consistory/save.each[consistory/board.Told] -/
noncomputable def l_save_each_board_Told_rrd (x : EV) (m : Nat) (t0 t1 t2 t6 t7 : Value) (σ : St) (K : VK) : Bool := jmpL PP tbS c_save_each_board_Told (x.E PP) [.r, .r, .d] m [] [t0, t1, t2, t6, t7] σ K
noncomputable def j_save_each_board_Told_rrddrldr (x : EV) (m0 : Nat) (t0 t1 t2 t6 t7 : Value) (σ : St) (K : VK) : Bool := jmpJ PP tbS c_save_each_board_Told (x.E PP) [.r, .r, .d, .d, .r, .l, .d, .r] [m0] [t0, t1, t2, t6, t7] σ K
noncomputable def r_save_each_board_Told (x : EV) (a0 a1 a2 : Value) (σ : St) (K : VK) : Bool :=
  rNil PP a1 fun v0 =>
  rLd v0 σ fun v1 σ =>
  rLenS v1 fun v2 =>
  rNil PP (.func (.method "consistory/save.many") ⟨[a0]⟩ ⟨[]⟩) fun v3 =>
  rInv PP x.C a0 "consistory/save.many" [v2] σ fun v4 σ =>
  rLd v0 σ fun v5 σ =>
  rSame v5 v1 (l_save_each_board_Told_rrd x x.most a0 a1 a2 v4 (.int .i64 (.ofNat 0)) σ K)
theorem f_save_each_board_Told (x : EV) (a0 a1 a2 : Value) (σ : St) (K : VK) : fnX PP tbS c_save_each_board_Told (x.E PP) [a0, a1, a2] σ K = r_save_each_board_Told x a0 a1 a2 σ K := by kernel_rfl
noncomputable def l_save_each_board_Told_rrdB (x : EV) (m0 : Nat) (t0 t1 t2 t6 t7 : Value) (σ : St) (K : VK) : Bool :=
  rBin PP .lss 3 t7 t6 fun v0 =>
  rGuard true v0 (fun k => k t0 σ) σ fun v1 σ =>
  rGuard true v0 (fun k => rInv PP x.C v1 "consistory/save.wrong" [] σ fun v2 σ =>
  k v2 σ) σ fun v3 σ =>
  rGuard true v0 (fun k => rBin PP .eql 37 v3 (.int .i64 (.ofNat 0)) fun v4 =>
  k v4 σ) σ fun v5 σ =>
  rPick v0 v5 (.bool false) fun v6 =>
  rIf v6 (rNil PP t1 fun v7 =>
  rLd v7 σ fun v8 σ =>
  rLenS v8 fun v9 =>
  rBin PP .eql 3 t7 v9 fun v10 =>
  rIf v10 (rAlloc [(.int .i64 (.ofNat 0)), (.string ⟨⟨[]⟩⟩)] 55 σ fun v11 σ =>
  rNil PP t1 fun v12 =>
  rLd v12 σ fun v13 σ =>
  rLdN 2 v11 σ fun v14 σ =>
  rLdN 2 v11 σ fun v15 σ =>
  rSame v15 v14 (rLd v12 σ fun v16 σ =>
  rSame v16 v13 (bcase (rBuildS 55 1 [(.int .i64 (.ofNat 0)), (.string ⟨⟨[]⟩⟩)] [(0, 2, v14)] σ fun v17 σ =>
  true) (rBuildS 55 1 [(.int .i64 (.ofNat 0)), (.string ⟨⟨[]⟩⟩)] [(0, 2, v14)] σ fun v18 σ =>
  rApp PP 55 2 24 v13 v18 σ fun v19 σ =>
  rNil PP t1 fun v20 =>
  rSt 1 v20 v19 σ fun σ =>
  j_save_each_board_Told_rrddrldr x m0 t0 t1 t2 t6 t7 σ K) false))) (j_save_each_board_Told_rrddrldr x m0 t0 t1 t2 t6 t7 σ K)) (K (.tuple ⟨[]⟩) σ)
theorem l_save_each_board_Told_rrdE (x : EV) (m0 : Nat) (t0 t1 t2 t6 t7 : Value) (σ : St) (K : VK) : l_save_each_board_Told_rrd x (m0 + 1) t0 t1 t2 t6 t7 σ K = l_save_each_board_Told_rrdB x m0 t0 t1 t2 t6 t7 σ K := by kernel_rfl
noncomputable def j_save_each_board_Told_rrddrldrB (x : EV) (m0 : Nat) (t0 t1 t2 t6 t7 : Value) (σ : St) (K : VK) : Bool :=
  rNil PP t1 fun v0 =>
  rLd v0 σ fun v1 σ =>
  rIdx 2 v1 t7 fun v2 =>
  rCallV x.C x.R t2 [t0, v2] σ fun v3 σ =>
  rBin PP .add 3 t7 (.int .i64 (.ofNat 1)) fun v4 =>
  l_save_each_board_Told_rrd x m0 t0 t1 t2 t6 v4 σ K
theorem j_save_each_board_Told_rrddrldrE0 (x : EV) (m0 : Nat) (t0 t1 t2 t6 t7 : Value) (σ : St) (K : VK) : jmp0 PP tbS c_save_each_board_Told (x.E PP) [.r, .r, .d, .d, .r, .l, .d, .r] [m0] [t0, t1, t2, t6, t7] σ K = j_save_each_board_Told_rrddrldrB x m0 t0 t1 t2 t6 t7 σ K := by kernel_rfl
theorem j_save_each_board_Told_rrddrldrE (x : EV) (hm : x.most ≠ 0) (m0 : Nat) (t0 t1 t2 t6 t7 : Value) (σ : St) (K : VK) : j_save_each_board_Told_rrddrldr x m0 t0 t1 t2 t6 t7 σ K = j_save_each_board_Told_rrddrldrB x m0 t0 t1 t2 t6 t7 σ K := (jmpJ_eq c_save_each_board_Told (x.E PP) [.r, .r, .d, .d, .r, .l, .d, .r] [m0] [t0, t1, t2, t6, t7] σ K hm).trans (j_save_each_board_Told_rrddrldrE0 x m0 t0 t1 t2 t6 t7 σ K)

/-! consistory/save.said -/
noncomputable def r_save_said (x : EV) (a0 a1 : Value) (σ : St) (K : VK) : Bool :=
  rNil PP a1 fun v0 =>
  rFld 0 v0 fun v1 =>
  rBuildS 87 1 [(.pointer none)] [(0, 1, v1)] σ fun v2 σ =>
  x.C c_save_whole [a0, v2] σ fun v3 σ =>
  rNil PP a1 fun v4 =>
  rFld 1 v4 fun v5 =>
  rNil PP (.func (.method "consistory/save.text") ⟨[a0]⟩ ⟨[]⟩) fun v6 =>
  rInv PP x.C a0 "consistory/save.text" [v5] σ fun v7 σ =>
  K (.tuple ⟨[]⟩) σ
theorem f_save_said (x : EV) (a0 a1 : Value) (σ : St) (K : VK) : fnX PP tbS c_save_said (x.E PP) [a0, a1] σ K = r_save_said x a0 a1 σ K := by kernel_rfl

/-! consistory/save.each[[]uint64] -/
noncomputable def l_save_each_list_uint64_rrd (x : EV) (m : Nat) (t0 t1 t2 t6 t7 : Value) (σ : St) (K : VK) : Bool := jmpL PP tbS c_save_each_list_uint64 (x.E PP) [.r, .r, .d] m [] [t0, t1, t2, t6, t7] σ K
noncomputable def j_save_each_list_uint64_rrddrldr (x : EV) (m0 : Nat) (t0 t1 t2 t6 t7 : Value) (σ : St) (K : VK) : Bool := jmpJ PP tbS c_save_each_list_uint64 (x.E PP) [.r, .r, .d, .d, .r, .l, .d, .r] [m0] [t0, t1, t2, t6, t7] σ K
noncomputable def r_save_each_list_uint64 (x : EV) (a0 a1 a2 : Value) (σ : St) (K : VK) : Bool :=
  rNil PP a1 fun v0 =>
  rLd v0 σ fun v1 σ =>
  rLenS v1 fun v2 =>
  rNil PP (.func (.method "consistory/save.many") ⟨[a0]⟩ ⟨[]⟩) fun v3 =>
  rInv PP x.C a0 "consistory/save.many" [v2] σ fun v4 σ =>
  rLd v0 σ fun v5 σ =>
  rSame v5 v1 (l_save_each_list_uint64_rrd x x.most a0 a1 a2 v4 (.int .i64 (.ofNat 0)) σ K)
theorem f_save_each_list_uint64 (x : EV) (a0 a1 a2 : Value) (σ : St) (K : VK) : fnX PP tbS c_save_each_list_uint64 (x.E PP) [a0, a1, a2] σ K = r_save_each_list_uint64 x a0 a1 a2 σ K := by kernel_rfl
noncomputable def l_save_each_list_uint64_rrdB (x : EV) (m0 : Nat) (t0 t1 t2 t6 t7 : Value) (σ : St) (K : VK) : Bool :=
  rBin PP .lss 3 t7 t6 fun v0 =>
  rGuard true v0 (fun k => k t0 σ) σ fun v1 σ =>
  rGuard true v0 (fun k => rInv PP x.C v1 "consistory/save.wrong" [] σ fun v2 σ =>
  k v2 σ) σ fun v3 σ =>
  rGuard true v0 (fun k => rBin PP .eql 37 v3 (.int .i64 (.ofNat 0)) fun v4 =>
  k v4 σ) σ fun v5 σ =>
  rPick v0 v5 (.bool false) fun v6 =>
  rIf v6 (rNil PP t1 fun v7 =>
  rLd v7 σ fun v8 σ =>
  rLenS v8 fun v9 =>
  rBin PP .eql 3 t7 v9 fun v10 =>
  rIf v10 (rNil PP t1 fun v11 =>
  rLd v11 σ fun v12 σ =>
  rBuildS 49 1 [(.slice none 0 0)] [(0, 1, (.slice none 0 0))] σ fun v13 σ =>
  rApp PP 49 1 24 v12 v13 σ fun v14 σ =>
  rNil PP t1 fun v15 =>
  rSt 1 v15 v14 σ fun σ =>
  j_save_each_list_uint64_rrddrldr x m0 t0 t1 t2 t6 t7 σ K) (j_save_each_list_uint64_rrddrldr x m0 t0 t1 t2 t6 t7 σ K)) (K (.tuple ⟨[]⟩) σ)
theorem l_save_each_list_uint64_rrdE (x : EV) (m0 : Nat) (t0 t1 t2 t6 t7 : Value) (σ : St) (K : VK) : l_save_each_list_uint64_rrd x (m0 + 1) t0 t1 t2 t6 t7 σ K = l_save_each_list_uint64_rrdB x m0 t0 t1 t2 t6 t7 σ K := by kernel_rfl
noncomputable def j_save_each_list_uint64_rrddrldrB (x : EV) (m0 : Nat) (t0 t1 t2 t6 t7 : Value) (σ : St) (K : VK) : Bool :=
  rNil PP t1 fun v0 =>
  rLd v0 σ fun v1 σ =>
  rIdx 1 v1 t7 fun v2 =>
  rCallV x.C x.R t2 [t0, v2] σ fun v3 σ =>
  rBin PP .add 3 t7 (.int .i64 (.ofNat 1)) fun v4 =>
  l_save_each_list_uint64_rrd x m0 t0 t1 t2 t6 v4 σ K
theorem j_save_each_list_uint64_rrddrldrE0 (x : EV) (m0 : Nat) (t0 t1 t2 t6 t7 : Value) (σ : St) (K : VK) : jmp0 PP tbS c_save_each_list_uint64 (x.E PP) [.r, .r, .d, .d, .r, .l, .d, .r] [m0] [t0, t1, t2, t6, t7] σ K = j_save_each_list_uint64_rrddrldrB x m0 t0 t1 t2 t6 t7 σ K := by kernel_rfl
theorem j_save_each_list_uint64_rrddrldrE (x : EV) (hm : x.most ≠ 0) (m0 : Nat) (t0 t1 t2 t6 t7 : Value) (σ : St) (K : VK) : j_save_each_list_uint64_rrddrldr x m0 t0 t1 t2 t6 t7 σ K = j_save_each_list_uint64_rrddrldrB x m0 t0 t1 t2 t6 t7 σ K := (jmpJ_eq c_save_each_list_uint64 (x.E PP) [.r, .r, .d, .d, .r, .l, .d, .r] [m0] [t0, t1, t2, t6, t7] σ K hm).trans (j_save_each_list_uint64_rrddrldrE0 x m0 t0 t1 t2 t6 t7 σ K)

/-! consistory/save.nums -/
noncomputable def r_save_nums (x : EV) (a0 a1 : Value) (σ : St) (K : VK) : Bool :=
  rInv PP x.C a0 "consistory/save.nums" [a1] σ fun v0 σ =>
  K (.tuple ⟨[]⟩) σ
theorem f_save_nums (x : EV) (a0 a1 : Value) (σ : St) (K : VK) : fnX PP tbS c_save_nums (x.E PP) [a0, a1] σ K = r_save_nums x a0 a1 σ K := by kernel_rfl

/-! consistory/save.each[consistory/avss.Told] -/
noncomputable def l_save_each_avss_Told_rrd (x : EV) (m : Nat) (t0 t1 t2 t6 t7 : Value) (σ : St) (K : VK) : Bool := jmpL PP tbS c_save_each_avss_Told (x.E PP) [.r, .r, .d] m [] [t0, t1, t2, t6, t7] σ K
noncomputable def j_save_each_avss_Told_rrddrldr (x : EV) (m0 : Nat) (t0 t1 t2 t6 t7 : Value) (σ : St) (K : VK) : Bool := jmpJ PP tbS c_save_each_avss_Told (x.E PP) [.r, .r, .d, .d, .r, .l, .d, .r] [m0] [t0, t1, t2, t6, t7] σ K
noncomputable def r_save_each_avss_Told (x : EV) (a0 a1 a2 : Value) (σ : St) (K : VK) : Bool :=
  rNil PP a1 fun v0 =>
  rLd v0 σ fun v1 σ =>
  rLenS v1 fun v2 =>
  rNil PP (.func (.method "consistory/save.many") ⟨[a0]⟩ ⟨[]⟩) fun v3 =>
  rInv PP x.C a0 "consistory/save.many" [v2] σ fun v4 σ =>
  rLd v0 σ fun v5 σ =>
  rSame v5 v1 (l_save_each_avss_Told_rrd x x.most a0 a1 a2 v4 (.int .i64 (.ofNat 0)) σ K)
theorem f_save_each_avss_Told (x : EV) (a0 a1 a2 : Value) (σ : St) (K : VK) : fnX PP tbS c_save_each_avss_Told (x.E PP) [a0, a1, a2] σ K = r_save_each_avss_Told x a0 a1 a2 σ K := by kernel_rfl
noncomputable def l_save_each_avss_Told_rrdB (x : EV) (m0 : Nat) (t0 t1 t2 t6 t7 : Value) (σ : St) (K : VK) : Bool :=
  rBin PP .lss 3 t7 t6 fun v0 =>
  rGuard true v0 (fun k => k t0 σ) σ fun v1 σ =>
  rGuard true v0 (fun k => rInv PP x.C v1 "consistory/save.wrong" [] σ fun v2 σ =>
  k v2 σ) σ fun v3 σ =>
  rGuard true v0 (fun k => rBin PP .eql 37 v3 (.int .i64 (.ofNat 0)) fun v4 =>
  k v4 σ) σ fun v5 σ =>
  rPick v0 v5 (.bool false) fun v6 =>
  rIf v6 (rNil PP t1 fun v7 =>
  rLd v7 σ fun v8 σ =>
  rLenS v8 fun v9 =>
  rBin PP .eql 3 t7 v9 fun v10 =>
  rIf v10 (rAlloc [(.int .i64 (.ofNat 0)), (.slice none 0 0)] 118 σ fun v11 σ =>
  rNil PP t1 fun v12 =>
  rLd v12 σ fun v13 σ =>
  rLdN 2 v11 σ fun v14 σ =>
  rLdN 2 v11 σ fun v15 σ =>
  rSame v15 v14 (rLd v12 σ fun v16 σ =>
  rSame v16 v13 (bcase (rBuildS 118 1 [(.int .i64 (.ofNat 0)), (.slice none 0 0)] [(0, 2, v14)] σ fun v17 σ =>
  true) (rBuildS 118 1 [(.int .i64 (.ofNat 0)), (.slice none 0 0)] [(0, 2, v14)] σ fun v18 σ =>
  rApp PP 118 2 32 v13 v18 σ fun v19 σ =>
  rNil PP t1 fun v20 =>
  rSt 1 v20 v19 σ fun σ =>
  j_save_each_avss_Told_rrddrldr x m0 t0 t1 t2 t6 t7 σ K) false))) (j_save_each_avss_Told_rrddrldr x m0 t0 t1 t2 t6 t7 σ K)) (K (.tuple ⟨[]⟩) σ)
theorem l_save_each_avss_Told_rrdE (x : EV) (m0 : Nat) (t0 t1 t2 t6 t7 : Value) (σ : St) (K : VK) : l_save_each_avss_Told_rrd x (m0 + 1) t0 t1 t2 t6 t7 σ K = l_save_each_avss_Told_rrdB x m0 t0 t1 t2 t6 t7 σ K := by kernel_rfl
noncomputable def j_save_each_avss_Told_rrddrldrB (x : EV) (m0 : Nat) (t0 t1 t2 t6 t7 : Value) (σ : St) (K : VK) : Bool :=
  rNil PP t1 fun v0 =>
  rLd v0 σ fun v1 σ =>
  rIdx 2 v1 t7 fun v2 =>
  rCallV x.C x.R t2 [t0, v2] σ fun v3 σ =>
  rBin PP .add 3 t7 (.int .i64 (.ofNat 1)) fun v4 =>
  l_save_each_avss_Told_rrd x m0 t0 t1 t2 t6 v4 σ K
theorem j_save_each_avss_Told_rrddrldrE0 (x : EV) (m0 : Nat) (t0 t1 t2 t6 t7 : Value) (σ : St) (K : VK) : jmp0 PP tbS c_save_each_avss_Told (x.E PP) [.r, .r, .d, .d, .r, .l, .d, .r] [m0] [t0, t1, t2, t6, t7] σ K = j_save_each_avss_Told_rrddrldrB x m0 t0 t1 t2 t6 t7 σ K := by kernel_rfl
theorem j_save_each_avss_Told_rrddrldrE (x : EV) (hm : x.most ≠ 0) (m0 : Nat) (t0 t1 t2 t6 t7 : Value) (σ : St) (K : VK) : j_save_each_avss_Told_rrddrldr x m0 t0 t1 t2 t6 t7 σ K = j_save_each_avss_Told_rrddrldrB x m0 t0 t1 t2 t6 t7 σ K := (jmpJ_eq c_save_each_avss_Told (x.E PP) [.r, .r, .d, .d, .r, .l, .d, .r] [m0] [t0, t1, t2, t6, t7] σ K hm).trans (j_save_each_avss_Told_rrddrldrE0 x m0 t0 t1 t2 t6 t7 σ K)

/-! consistory/save.told -/
noncomputable def r_save_told (x : EV) (a0 a1 : Value) (σ : St) (K : VK) : Bool :=
  rNil PP a1 fun v0 =>
  rFld 0 v0 fun v1 =>
  rBuildS 87 1 [(.pointer none)] [(0, 1, v1)] σ fun v2 σ =>
  x.C c_save_whole [a0, v2] σ fun v3 σ =>
  rNil PP a1 fun v4 =>
  rFld 1 v4 fun v5 =>
  rNil PP (.func (.method "consistory/save.nums") ⟨[a0]⟩ ⟨[]⟩) fun v6 =>
  rInv PP x.C a0 "consistory/save.nums" [v5] σ fun v7 σ =>
  K (.tuple ⟨[]⟩) σ
theorem f_save_told (x : EV) (a0 a1 : Value) (σ : St) (K : VK) : fnX PP tbS c_save_told (x.E PP) [a0, a1] σ K = r_save_told x a0 a1 σ K := by kernel_rfl

/-! consistory/save.each[consistory/tally.Vote] -/
noncomputable def l_save_each_tally_Vote_rrd (x : EV) (m : Nat) (t0 t1 t2 t6 t7 : Value) (σ : St) (K : VK) : Bool := jmpL PP tbS c_save_each_tally_Vote (x.E PP) [.r, .r, .d] m [] [t0, t1, t2, t6, t7] σ K
noncomputable def j_save_each_tally_Vote_rrddrldr (x : EV) (m0 : Nat) (t0 t1 t2 t6 t7 : Value) (σ : St) (K : VK) : Bool := jmpJ PP tbS c_save_each_tally_Vote (x.E PP) [.r, .r, .d, .d, .r, .l, .d, .r] [m0] [t0, t1, t2, t6, t7] σ K
noncomputable def r_save_each_tally_Vote (x : EV) (a0 a1 a2 : Value) (σ : St) (K : VK) : Bool :=
  rNil PP a1 fun v0 =>
  rLd v0 σ fun v1 σ =>
  rLenS v1 fun v2 =>
  rNil PP (.func (.method "consistory/save.many") ⟨[a0]⟩ ⟨[]⟩) fun v3 =>
  rInv PP x.C a0 "consistory/save.many" [v2] σ fun v4 σ =>
  rLd v0 σ fun v5 σ =>
  rSame v5 v1 (l_save_each_tally_Vote_rrd x x.most a0 a1 a2 v4 (.int .i64 (.ofNat 0)) σ K)
theorem f_save_each_tally_Vote (x : EV) (a0 a1 a2 : Value) (σ : St) (K : VK) : fnX PP tbS c_save_each_tally_Vote (x.E PP) [a0, a1, a2] σ K = r_save_each_tally_Vote x a0 a1 a2 σ K := by kernel_rfl
noncomputable def l_save_each_tally_Vote_rrdB (x : EV) (m0 : Nat) (t0 t1 t2 t6 t7 : Value) (σ : St) (K : VK) : Bool :=
  rBin PP .lss 3 t7 t6 fun v0 =>
  rGuard true v0 (fun k => k t0 σ) σ fun v1 σ =>
  rGuard true v0 (fun k => rInv PP x.C v1 "consistory/save.wrong" [] σ fun v2 σ =>
  k v2 σ) σ fun v3 σ =>
  rGuard true v0 (fun k => rBin PP .eql 37 v3 (.int .i64 (.ofNat 0)) fun v4 =>
  k v4 σ) σ fun v5 σ =>
  rPick v0 v5 (.bool false) fun v6 =>
  rIf v6 (rNil PP t1 fun v7 =>
  rLd v7 σ fun v8 σ =>
  rLenS v8 fun v9 =>
  rBin PP .eql 3 t7 v9 fun v10 =>
  rIf v10 (rAlloc [(.int .i64 (.ofNat 0)), (.int .i64 (.ofNat 0)), (.int .u8 (.ofNat 0)), (.int .i64 (.ofNat 0)), (.string ⟨⟨[]⟩⟩)] 53 σ fun v11 σ =>
  rNil PP t1 fun v12 =>
  rLd v12 σ fun v13 σ =>
  rLdN 5 v11 σ fun v14 σ =>
  rLdN 5 v11 σ fun v15 σ =>
  rSame v15 v14 (rLd v12 σ fun v16 σ =>
  rSame v16 v13 (bcase (rBuildS 53 1 [(.int .i64 (.ofNat 0)), (.int .i64 (.ofNat 0)), (.int .u8 (.ofNat 0)), (.int .i64 (.ofNat 0)), (.string ⟨⟨[]⟩⟩)] [(0, 5, v14)] σ fun v17 σ =>
  true) (rBuildS 53 1 [(.int .i64 (.ofNat 0)), (.int .i64 (.ofNat 0)), (.int .u8 (.ofNat 0)), (.int .i64 (.ofNat 0)), (.string ⟨⟨[]⟩⟩)] [(0, 5, v14)] σ fun v18 σ =>
  rApp PP 53 5 48 v13 v18 σ fun v19 σ =>
  rNil PP t1 fun v20 =>
  rSt 1 v20 v19 σ fun σ =>
  j_save_each_tally_Vote_rrddrldr x m0 t0 t1 t2 t6 t7 σ K) false))) (j_save_each_tally_Vote_rrddrldr x m0 t0 t1 t2 t6 t7 σ K)) (K (.tuple ⟨[]⟩) σ)
theorem l_save_each_tally_Vote_rrdE (x : EV) (m0 : Nat) (t0 t1 t2 t6 t7 : Value) (σ : St) (K : VK) : l_save_each_tally_Vote_rrd x (m0 + 1) t0 t1 t2 t6 t7 σ K = l_save_each_tally_Vote_rrdB x m0 t0 t1 t2 t6 t7 σ K := by kernel_rfl
noncomputable def j_save_each_tally_Vote_rrddrldrB (x : EV) (m0 : Nat) (t0 t1 t2 t6 t7 : Value) (σ : St) (K : VK) : Bool :=
  rNil PP t1 fun v0 =>
  rLd v0 σ fun v1 σ =>
  rIdx 5 v1 t7 fun v2 =>
  rCallV x.C x.R t2 [t0, v2] σ fun v3 σ =>
  rBin PP .add 3 t7 (.int .i64 (.ofNat 1)) fun v4 =>
  l_save_each_tally_Vote_rrd x m0 t0 t1 t2 t6 v4 σ K
theorem j_save_each_tally_Vote_rrddrldrE0 (x : EV) (m0 : Nat) (t0 t1 t2 t6 t7 : Value) (σ : St) (K : VK) : jmp0 PP tbS c_save_each_tally_Vote (x.E PP) [.r, .r, .d, .d, .r, .l, .d, .r] [m0] [t0, t1, t2, t6, t7] σ K = j_save_each_tally_Vote_rrddrldrB x m0 t0 t1 t2 t6 t7 σ K := by kernel_rfl
theorem j_save_each_tally_Vote_rrddrldrE (x : EV) (hm : x.most ≠ 0) (m0 : Nat) (t0 t1 t2 t6 t7 : Value) (σ : St) (K : VK) : j_save_each_tally_Vote_rrddrldr x m0 t0 t1 t2 t6 t7 σ K = j_save_each_tally_Vote_rrddrldrB x m0 t0 t1 t2 t6 t7 σ K := (jmpJ_eq c_save_each_tally_Vote (x.E PP) [.r, .r, .d, .d, .r, .l, .d, .r] [m0] [t0, t1, t2, t6, t7] σ K hm).trans (j_save_each_tally_Vote_rrddrldrE0 x m0 t0 t1 t2 t6 t7 σ K)

/-! consistory/save.vote -/
noncomputable def r_save_vote (x : EV) (a0 a1 : Value) (σ : St) (K : VK) : Bool :=
  rNil PP a1 fun v0 =>
  rFld 0 v0 fun v1 =>
  rNil PP a1 fun v2 =>
  rFld 1 v2 fun v3 =>
  bcase (rBuildS 87 2 [(.pointer none)] [(0, 1, v1), (1, 1, v3)] σ fun v4 σ =>
  true) (rBuildS 87 2 [(.pointer none)] [(0, 1, v1), (1, 1, v3)] σ fun v5 σ =>
  x.C c_save_whole [a0, v5] σ fun v6 σ =>
  rNil PP a1 fun v7 =>
  rFld 2 v7 fun v8 =>
  rNil PP (.func (.method "consistory/save.kind") ⟨[a0]⟩ ⟨[]⟩) fun v9 =>
  rInv PP x.C a0 "consistory/save.kind" [v8] σ fun v10 σ =>
  rNil PP a1 fun v11 =>
  rFld 3 v11 fun v12 =>
  rBuildS 87 1 [(.pointer none)] [(0, 1, v12)] σ fun v13 σ =>
  x.C c_save_whole [a0, v13] σ fun v14 σ =>
  rNil PP a1 fun v15 =>
  rFld 4 v15 fun v16 =>
  rNil PP (.func (.method "consistory/save.text") ⟨[a0]⟩ ⟨[]⟩) fun v17 =>
  rInv PP x.C a0 "consistory/save.text" [v16] σ fun v18 σ =>
  K (.tuple ⟨[]⟩) σ) false
theorem f_save_vote (x : EV) (a0 a1 : Value) (σ : St) (K : VK) : fnX PP tbS c_save_vote (x.E PP) [a0, a1] σ K = r_save_vote x a0 a1 σ K := by kernel_rfl

end Go.Am

set_option linter.unusedVariables false
set_option maxRecDepth 100000
namespace Go.Am

/-! (*consistory/save.pen).is -/
noncomputable def r_save_pen_is (x : EV) (a0 a1 : Value) (σ : St) (K : VK) : Bool :=
  rAlloc [(.int .u64 (.ofNat 0))] 56 σ fun v0 σ =>
  rSt 1 v0 (.int .u64 (.ofNat 0)) σ fun σ =>
  rNil PP a1 fun v1 =>
  rLd v1 σ fun v2 σ =>
  rIf v2 (rSt 1 v0 (.int .u64 (.ofNat 1)) σ fun σ =>
  x.C c_save_pen_number [a0, v0] σ fun v3 σ =>
  K (.tuple ⟨[]⟩) σ) (x.C c_save_pen_number [a0, v0] σ fun v4 σ =>
  K (.tuple ⟨[]⟩) σ)
theorem f_save_pen_is (x : EV) (a0 a1 : Value) (σ : St) (K : VK) : fnX PP tbS c_save_pen_is (x.E PP) [a0, a1] σ K = r_save_pen_is x a0 a1 σ K := by kernel_rfl

/-! (*consistory/save.pen).kind -/
noncomputable def r_save_pen_kind (x : EV) (a0 a1 : Value) (σ : St) (K : VK) : Bool :=
  rNil PP a0 fun v0 =>
  rFld 0 v0 fun v1 =>
  rNil PP a1 fun v2 =>
  rLd v2 σ fun v3 σ =>
  x.C c_wire_Byte [(.string ⟨⟨[]⟩⟩), v3] σ fun v4 σ =>
  x.C c_strings_Builder_WriteString [v1, v4] σ fun v5 σ =>
  K (.tuple ⟨[]⟩) σ
theorem f_save_pen_kind (x : EV) (a0 a1 : Value) (σ : St) (K : VK) : fnX PP tbS c_save_pen_kind (x.E PP) [a0, a1] σ K = r_save_pen_kind x a0 a1 σ K := by kernel_rfl

/-! (*consistory/save.pen).many -/
noncomputable def r_save_pen_many (x : EV) (a0 a1 : Value) (σ : St) (K : VK) : Bool :=
  rBin PP .gtr 3 a1 (.int .i64 (.ofNat 1048576)) fun v0 =>
  rIf v0 (x.C c_save_pen_put [a0, (.string ⟨⟨[]⟩⟩), (.int .i64 (.ofNat 40))] σ fun v1 σ =>
  K (.int .i64 (.ofNat 0)) σ) (rNil PP a0 fun v2 =>
  rFld 0 v2 fun v3 =>
  rInt .u64 a1 fun v4 =>
  x.C c_wire_Num [(.string ⟨⟨[]⟩⟩), v4] σ fun v5 σ =>
  x.C c_strings_Builder_WriteString [v3, v5] σ fun v6 σ =>
  K a1 σ)
theorem f_save_pen_many (x : EV) (a0 a1 : Value) (σ : St) (K : VK) : fnX PP tbS c_save_pen_many (x.E PP) [a0, a1] σ K = r_save_pen_many x a0 a1 σ K := by kernel_rfl

/-! (*consistory/save.pen).number -/
noncomputable def r_save_pen_number (x : EV) (a0 a1 : Value) (σ : St) (K : VK) : Bool :=
  rNil PP a0 fun v0 =>
  rFld 0 v0 fun v1 =>
  rNil PP a1 fun v2 =>
  rLd v2 σ fun v3 σ =>
  x.C c_wire_Num [(.string ⟨⟨[]⟩⟩), v3] σ fun v4 σ =>
  x.C c_strings_Builder_WriteString [v1, v4] σ fun v5 σ =>
  K (.tuple ⟨[]⟩) σ
theorem f_save_pen_number (x : EV) (a0 a1 : Value) (σ : St) (K : VK) : fnX PP tbS c_save_pen_number (x.E PP) [a0, a1] σ K = r_save_pen_number x a0 a1 σ K := by kernel_rfl

/-! (*consistory/save.pen).nums -/
noncomputable def r_save_pen_nums (x : EV) (a0 a1 : Value) (σ : St) (K : VK) : Bool :=
  rNil PP a1 fun v0 =>
  rLd v0 σ fun v1 σ =>
  x.C c_wire_List [(.string ⟨⟨[]⟩⟩), v1] σ fun v2 σ =>
  rExt 0 v2 fun v3 =>
  rExt 1 v2 fun v4 =>
  x.C c_save_pen_put [a0, v3, v4] σ fun v5 σ =>
  K (.tuple ⟨[]⟩) σ
theorem f_save_pen_nums (x : EV) (a0 a1 : Value) (σ : St) (K : VK) : fnX PP tbS c_save_pen_nums (x.E PP) [a0, a1] σ K = r_save_pen_nums x a0 a1 σ K := by kernel_rfl

/-! (*consistory/save.pen).text -/
noncomputable def r_save_pen_text (x : EV) (a0 a1 : Value) (σ : St) (K : VK) : Bool :=
  rNil PP a1 fun v0 =>
  rLd v0 σ fun v1 σ =>
  x.C c_wire_Text [(.string ⟨⟨[]⟩⟩), v1] σ fun v2 σ =>
  rExt 0 v2 fun v3 =>
  rExt 1 v2 fun v4 =>
  x.C c_save_pen_put [a0, v3, v4] σ fun v5 σ =>
  K (.tuple ⟨[]⟩) σ
theorem f_save_pen_text (x : EV) (a0 a1 : Value) (σ : St) (K : VK) : fnX PP tbS c_save_pen_text (x.E PP) [a0, a1] σ K = r_save_pen_text x a0 a1 σ K := by kernel_rfl

/-! (*consistory/save.pen).wrong -/
noncomputable def r_save_pen_wrong (x : EV) (a0 : Value) (σ : St) (K : VK) : Bool :=
  rNil PP a0 fun v0 =>
  rFld 2 v0 fun v1 =>
  rLd v1 σ fun v2 σ =>
  K v2 σ
theorem f_save_pen_wrong (x : EV) (a0 : Value) (σ : St) (K : VK) : fnX PP tbS c_save_pen_wrong (x.E PP) [a0] σ K = r_save_pen_wrong x a0 σ K := by kernel_rfl

/-! (*strings.Builder).WriteString -/
noncomputable def r_strings_Builder_WriteString (x : EV) (a0 a1 : Value) (σ : St) (K : VK) : Bool :=
  x.C c_strings_Builder_copyCheck [a0] σ fun v0 σ =>
  rNil PP a0 fun v1 =>
  rFld 1 v1 fun v2 =>
  rLd v2 σ fun v3 σ =>
  rApp PP 5 1 1 v3 a1 σ fun v4 σ =>
  rNil PP a0 fun v5 =>
  rFld 1 v5 fun v6 =>
  rSt 1 v6 v4 σ fun σ =>
  rLenT a1 fun v7 =>
  K (.tuple ⟨[v7, .nilIface]⟩) σ
theorem f_strings_Builder_WriteString (x : EV) (a0 a1 : Value) (σ : St) (K : VK) : fnX PP tbS c_strings_Builder_WriteString (x.E PP) [a0, a1] σ K = r_strings_Builder_WriteString x a0 a1 σ K := by kernel_rfl

/-! consistory/wire.Byte -/
noncomputable def r_wire_Byte (x : EV) (a0 a1 : Value) (σ : St) (K : VK) : Bool :=
  rInt .u64 a1 fun v0 =>
  x.C c_wire_put [a0, v0, (.int .i64 (.ofNat 1))] σ fun v1 σ =>
  K v1 σ
theorem f_wire_Byte (x : EV) (a0 a1 : Value) (σ : St) (K : VK) : fnX PP tbS c_wire_Byte (x.E PP) [a0, a1] σ K = r_wire_Byte x a0 a1 σ K := by kernel_rfl

/-! (*consistory/save.pen).put -/
noncomputable def j_save_pen_put_r (x : EV) (t0 t1 : Value) (σ : St) (K : VK) : Bool := jmpJ PP tbS c_save_pen_put (x.E PP) [.r] [] [t0, t1] σ K
noncomputable def r_save_pen_put (x : EV) (a0 a1 a2 : Value) (σ : St) (K : VK) : Bool :=
  rNil PP a0 fun v0 =>
  rFld 2 v0 fun v1 =>
  rLd v1 σ fun v2 σ =>
  rBin PP .eql 37 v2 (.int .i64 (.ofNat 0)) fun v3 =>
  rIf v3 (rNil PP a0 fun v4 =>
  rFld 2 v4 fun v5 =>
  rSt 1 v5 a2 σ fun σ =>
  j_save_pen_put_r x a0 a1 σ K) (j_save_pen_put_r x a0 a1 σ K)
theorem f_save_pen_put (x : EV) (a0 a1 a2 : Value) (σ : St) (K : VK) : fnX PP tbS c_save_pen_put (x.E PP) [a0, a1, a2] σ K = r_save_pen_put x a0 a1 a2 σ K := by kernel_rfl
noncomputable def j_save_pen_put_rB (x : EV) (t0 t1 : Value) (σ : St) (K : VK) : Bool :=
  rNil PP t0 fun v0 =>
  rFld 0 v0 fun v1 =>
  x.C c_strings_Builder_WriteString [v1, t1] σ fun v2 σ =>
  K (.tuple ⟨[]⟩) σ
theorem j_save_pen_put_rE0 (x : EV) (t0 t1 : Value) (σ : St) (K : VK) : jmp0 PP tbS c_save_pen_put (x.E PP) [.r] [] [t0, t1] σ K = j_save_pen_put_rB x t0 t1 σ K := by kernel_rfl
theorem j_save_pen_put_rE (x : EV) (hm : x.most ≠ 0) (t0 t1 : Value) (σ : St) (K : VK) : j_save_pen_put_r x t0 t1 σ K = j_save_pen_put_rB x t0 t1 σ K := (jmpJ_eq c_save_pen_put (x.E PP) [.r] [] [t0, t1] σ K hm).trans (j_save_pen_put_rE0 x t0 t1 σ K)

/-! consistory/wire.Num -/
noncomputable def r_wire_Num (x : EV) (a0 a1 : Value) (σ : St) (K : VK) : Bool :=
  x.C c_wire_put [a0, a1, (.int .i64 (.ofNat 8))] σ fun v0 σ =>
  K v0 σ
theorem f_wire_Num (x : EV) (a0 a1 : Value) (σ : St) (K : VK) : fnX PP tbS c_wire_Num (x.E PP) [a0, a1] σ K = r_wire_Num x a0 a1 σ K := by kernel_rfl

/-! consistory/wire.List -/
noncomputable def l_wire_List_rrrrlrd (x : EV) (m : Nat) (t6 t19 t20 t21 : Value) (σ : St) (K : VK) : Bool := jmpL PP tbS c_wire_List (x.E PP) [.r, .r, .r, .r, .l, .r, .d] m [] [t6, t19, t20, t21] σ K
noncomputable def r_wire_List (x : EV) (a0 a1 : Value) (σ : St) (K : VK) : Bool :=
  rLenS a1 fun v0 =>
  rBin PP .gtr 3 v0 (.int .i64 (.ofNat 1024)) fun v1 =>
  rIf v1 (K (.tuple ⟨[a0, (.int .i64 (.ofNat 40))]⟩) σ) (rAlloc [(.pointer none), (.slice none 0 0)] 64 σ fun v2 σ =>
  rLenS a1 fun v3 =>
  rInt .u64 v3 fun v4 =>
  x.C c_wire_put [a0, v4, (.int .i64 (.ofNat 2))] σ fun v5 σ =>
  x.C c_strings_Builder_WriteString [v2, v5] σ fun v6 σ =>
  rLenS a1 fun v7 =>
  l_wire_List_rrrrlrd x x.most v2 a1 v7 (.int .i64 (.ofNat 0)) σ K)
theorem f_wire_List (x : EV) (a0 a1 : Value) (σ : St) (K : VK) : fnX PP tbS c_wire_List (x.E PP) [a0, a1] σ K = r_wire_List x a0 a1 σ K := by kernel_rfl
noncomputable def l_wire_List_rrrrlrdB (x : EV) (m0 : Nat) (t6 t19 t20 t21 : Value) (σ : St) (K : VK) : Bool :=
  rBin PP .lss 3 t21 t20 fun v0 =>
  rIf v0 (rIdx 1 t19 t21 fun v1 =>
  rLd v1 σ fun v2 σ =>
  x.C c_wire_put [(.string ⟨⟨[]⟩⟩), v2, (.int .i64 (.ofNat 8))] σ fun v3 σ =>
  x.C c_strings_Builder_WriteString [t6, v3] σ fun v4 σ =>
  rBin PP .add 3 t21 (.int .i64 (.ofNat 1)) fun v5 =>
  l_wire_List_rrrrlrd x m0 t6 t19 t20 v5 σ K) (x.C c_strings_Builder_String [t6] σ fun v6 σ =>
  K (.tuple ⟨[v6, (.int .i64 (.ofNat 0))]⟩) σ)
theorem l_wire_List_rrrrlrdE (x : EV) (m0 : Nat) (t6 t19 t20 t21 : Value) (σ : St) (K : VK) : l_wire_List_rrrrlrd x (m0 + 1) t6 t19 t20 t21 σ K = l_wire_List_rrrrlrdB x m0 t6 t19 t20 t21 σ K := by kernel_rfl

/-! consistory/wire.Text -/
noncomputable def r_wire_Text (x : EV) (a0 a1 : Value) (σ : St) (K : VK) : Bool :=
  rLenT a1 fun v0 =>
  rBin PP .gtr 3 v0 (.int .i64 (.ofNat 2048)) fun v1 =>
  rIf v1 (K (.tuple ⟨[a0, (.int .i64 (.ofNat 40))]⟩) σ) (rLenT a1 fun v2 =>
  rInt .u64 v2 fun v3 =>
  x.C c_wire_put [a0, v3, (.int .i64 (.ofNat 2))] σ fun v4 σ =>
  rBin PP .add 9 v4 a1 fun v5 =>
  K (.tuple ⟨[v5, (.int .i64 (.ofNat 0))]⟩) σ)
theorem f_wire_Text (x : EV) (a0 a1 : Value) (σ : St) (K : VK) : fnX PP tbS c_wire_Text (x.E PP) [a0, a1] σ K = r_wire_Text x a0 a1 σ K := by kernel_rfl

end Go.Am

set_option linter.unusedVariables false
set_option maxRecDepth 100000
namespace Go.Am

/-! (consistory/save.eye).is -/
noncomputable def r_save_eye_is (x : EV) (a0 a1 : Value) (σ : St) (K : VK) : Bool :=
  boxK 73 a0 σ fun v0 σ =>
  rFld 0 v0 fun v1 =>
  rLd v1 σ fun v2 σ =>
  x.C c_wire_Reader_Count [v2, (.int .i64 (.ofNat 1))] σ fun v3 σ =>
  rExt 0 v3 fun v4 =>
  rExt 1 v3 fun v5 =>
  rBin PP .eql 3 v4 (.int .i64 (.ofNat 1)) fun v6 =>
  rNil PP a1 fun v7 =>
  rSt 1 v7 v6 σ fun σ =>
  K (.tuple ⟨[]⟩) σ
theorem f_save_eye_is (x : EV) (a0 a1 : Value) (σ : St) (K : VK) : fnX PP tbS c_save_eye_is (x.E PP) [a0, a1] σ K = r_save_eye_is x a0 a1 σ K := by kernel_rfl

/-! (consistory/save.eye).kind -/
noncomputable def r_save_eye_kind (x : EV) (a0 a1 : Value) (σ : St) (K : VK) : Bool :=
  boxK 73 a0 σ fun v0 σ =>
  rFld 0 v0 fun v1 =>
  rLd v1 σ fun v2 σ =>
  x.C c_wire_Reader_Byte [v2] σ fun v3 σ =>
  rExt 0 v3 fun v4 =>
  rExt 1 v3 fun v5 =>
  rNil PP a1 fun v6 =>
  rSt 1 v6 v4 σ fun σ =>
  K (.tuple ⟨[]⟩) σ
theorem f_save_eye_kind (x : EV) (a0 a1 : Value) (σ : St) (K : VK) : fnX PP tbS c_save_eye_kind (x.E PP) [a0, a1] σ K = r_save_eye_kind x a0 a1 σ K := by kernel_rfl

/-! (consistory/save.eye).many -/
noncomputable def r_save_eye_many (x : EV) (a0 a1 : Value) (σ : St) (K : VK) : Bool :=
  boxK 73 a0 σ fun v0 σ =>
  rFld 0 v0 fun v1 =>
  rLd v1 σ fun v2 σ =>
  x.C c_wire_Reader_Count [v2, (.int .i64 (.ofNat 1048576))] σ fun v3 σ =>
  rExt 0 v3 fun v4 =>
  rExt 1 v3 fun v5 =>
  K v4 σ
theorem f_save_eye_many (x : EV) (a0 a1 : Value) (σ : St) (K : VK) : fnX PP tbS c_save_eye_many (x.E PP) [a0, a1] σ K = r_save_eye_many x a0 a1 σ K := by kernel_rfl

/-! (consistory/save.eye).number -/
noncomputable def r_save_eye_number (x : EV) (a0 a1 : Value) (σ : St) (K : VK) : Bool :=
  boxK 73 a0 σ fun v0 σ =>
  rFld 0 v0 fun v1 =>
  rLd v1 σ fun v2 σ =>
  x.C c_wire_Reader_Num [v2] σ fun v3 σ =>
  rExt 0 v3 fun v4 =>
  rExt 1 v3 fun v5 =>
  rNil PP a1 fun v6 =>
  rSt 1 v6 v4 σ fun σ =>
  K (.tuple ⟨[]⟩) σ
theorem f_save_eye_number (x : EV) (a0 a1 : Value) (σ : St) (K : VK) : fnX PP tbS c_save_eye_number (x.E PP) [a0, a1] σ K = r_save_eye_number x a0 a1 σ K := by kernel_rfl

/-! (consistory/save.eye).nums -/
noncomputable def r_save_eye_nums (x : EV) (a0 a1 : Value) (σ : St) (K : VK) : Bool :=
  boxK 73 a0 σ fun v0 σ =>
  rFld 0 v0 fun v1 =>
  rLd v1 σ fun v2 σ =>
  x.C c_wire_Reader_List [v2] σ fun v3 σ =>
  rExt 0 v3 fun v4 =>
  rExt 1 v3 fun v5 =>
  rNil PP a1 fun v6 =>
  rSt 1 v6 v4 σ fun σ =>
  K (.tuple ⟨[]⟩) σ
theorem f_save_eye_nums (x : EV) (a0 a1 : Value) (σ : St) (K : VK) : fnX PP tbS c_save_eye_nums (x.E PP) [a0, a1] σ K = r_save_eye_nums x a0 a1 σ K := by kernel_rfl

/-! (consistory/save.eye).text -/
noncomputable def r_save_eye_text (x : EV) (a0 a1 : Value) (σ : St) (K : VK) : Bool :=
  boxK 73 a0 σ fun v0 σ =>
  rFld 0 v0 fun v1 =>
  rLd v1 σ fun v2 σ =>
  x.C c_wire_Reader_Text [v2] σ fun v3 σ =>
  rExt 0 v3 fun v4 =>
  rExt 1 v3 fun v5 =>
  rNil PP a1 fun v6 =>
  rSt 1 v6 v4 σ fun σ =>
  K (.tuple ⟨[]⟩) σ
theorem f_save_eye_text (x : EV) (a0 a1 : Value) (σ : St) (K : VK) : fnX PP tbS c_save_eye_text (x.E PP) [a0, a1] σ K = r_save_eye_text x a0 a1 σ K := by kernel_rfl

/-! (consistory/save.eye).wrong -/
noncomputable def r_save_eye_wrong (x : EV) (a0 : Value) (σ : St) (K : VK) : Bool :=
  boxK 73 a0 σ fun v0 σ =>
  rFld 0 v0 fun v1 =>
  rLd v1 σ fun v2 σ =>
  x.C c_wire_Reader_Wrong [v2] σ fun v3 σ =>
  K v3 σ
theorem f_save_eye_wrong (x : EV) (a0 : Value) (σ : St) (K : VK) : fnX PP tbS c_save_eye_wrong (x.E PP) [a0] σ K = r_save_eye_wrong x a0 σ K := by kernel_rfl

/-! (*consistory/wire.Reader).Count -/
noncomputable def r_wire_Reader_Count (x : EV) (a0 a1 : Value) (σ : St) (K : VK) : Bool :=
  boxK 3 a1 σ fun v0 σ =>
  x.C c_wire_read_int [a0, (.func (.func 95) ⟨[]⟩ ⟨[v0]⟩)] σ fun v1 σ =>
  rExt 0 v1 fun v2 =>
  rExt 1 v1 fun v3 =>
  K (.tuple ⟨[v2, v3]⟩) σ
theorem f_wire_Reader_Count (x : EV) (a0 a1 : Value) (σ : St) (K : VK) : fnX PP tbS c_wire_Reader_Count (x.E PP) [a0, a1] σ K = r_wire_Reader_Count x a0 a1 σ K := by kernel_rfl

/-! (*consistory/wire.Reader).Byte -/
noncomputable def r_wire_Reader_Byte (x : EV) (a0 : Value) (σ : St) (K : VK) : Bool :=
  x.C c_wire_read_byte [a0, (.func (.func c_wire_Reader_Byte_1) #[] #[])] σ fun v0 σ =>
  rExt 0 v0 fun v1 =>
  rExt 1 v0 fun v2 =>
  K (.tuple ⟨[v1, v2]⟩) σ
theorem f_wire_Reader_Byte (x : EV) (a0 : Value) (σ : St) (K : VK) : fnX PP tbS c_wire_Reader_Byte (x.E PP) [a0] σ K = r_wire_Reader_Byte x a0 σ K := by kernel_rfl

/-! (*consistory/wire.Reader).Num -/
noncomputable def r_wire_Reader_Num (x : EV) (a0 : Value) (σ : St) (K : VK) : Bool :=
  x.C c_wire_read_uint64 [a0, (.func (.func c_wire_Reader_Num_1) #[] #[])] σ fun v0 σ =>
  rExt 0 v0 fun v1 =>
  rExt 1 v0 fun v2 =>
  K (.tuple ⟨[v1, v2]⟩) σ
theorem f_wire_Reader_Num (x : EV) (a0 : Value) (σ : St) (K : VK) : fnX PP tbS c_wire_Reader_Num (x.E PP) [a0] σ K = r_wire_Reader_Num x a0 σ K := by kernel_rfl

/-! (*consistory/wire.Reader).List -/
noncomputable def r_wire_Reader_List (x : EV) (a0 : Value) (σ : St) (K : VK) : Bool :=
  x.C c_wire_read_list_uint64 [a0, (.func (.func c_wire_Reader_List_1) #[] #[])] σ fun v0 σ =>
  rExt 0 v0 fun v1 =>
  rExt 1 v0 fun v2 =>
  K (.tuple ⟨[v1, v2]⟩) σ
theorem f_wire_Reader_List (x : EV) (a0 : Value) (σ : St) (K : VK) : fnX PP tbS c_wire_Reader_List (x.E PP) [a0] σ K = r_wire_Reader_List x a0 σ K := by kernel_rfl

/-! (*consistory/wire.Reader).Text -/
noncomputable def r_wire_Reader_Text (x : EV) (a0 : Value) (σ : St) (K : VK) : Bool :=
  x.C c_wire_read_string [a0, (.func (.func c_wire_Reader_Text_1) #[] #[])] σ fun v0 σ =>
  rExt 0 v0 fun v1 =>
  rExt 1 v0 fun v2 =>
  K (.tuple ⟨[v1, v2]⟩) σ
theorem f_wire_Reader_Text (x : EV) (a0 : Value) (σ : St) (K : VK) : fnX PP tbS c_wire_Reader_Text (x.E PP) [a0] σ K = r_wire_Reader_Text x a0 σ K := by kernel_rfl

/-! (*consistory/wire.Reader).Wrong -/
noncomputable def r_wire_Reader_Wrong (x : EV) (a0 : Value) (σ : St) (K : VK) : Bool :=
  rBin PP .eql 70 a0 (.pointer none) fun v0 =>
  rIf v0 (K (.int .i64 (.ofNat 2)) σ) (rNil PP a0 fun v1 =>
  rFld 1 v1 fun v2 =>
  rLd v2 σ fun v3 σ =>
  K v3 σ)
theorem f_wire_Reader_Wrong (x : EV) (a0 : Value) (σ : St) (K : VK) : fnX PP tbS c_wire_Reader_Wrong (x.E PP) [a0] σ K = r_wire_Reader_Wrong x a0 σ K := by kernel_rfl

/-! consistory/wire.Open -/
noncomputable def r_wire_Open (x : EV) (a0 : Value) (σ : St) (K : VK) : Bool :=
  rBuild [(.string ⟨⟨[]⟩⟩), (.int .i64 (.ofNat 0))] [(0, 1, a0)] fun v0 =>
  boxK 109 v0 σ fun v1 σ =>
  K v1 σ
theorem f_wire_Open (x : EV) (a0 : Value) (σ : St) (K : VK) : fnX PP tbS c_wire_Open (x.E PP) [a0] σ K = r_wire_Open x a0 σ K := by kernel_rfl

/-! (*consistory/wire.Reader).End -/
noncomputable def r_wire_Reader_End (x : EV) (a0 : Value) (σ : St) (K : VK) : Bool :=
  x.C c_wire_read_bool [a0, (.func (.func c_wire_Reader_End_1) #[] #[])] σ fun v0 σ =>
  rExt 0 v0 fun v1 =>
  rExt 1 v0 fun v2 =>
  K v2 σ
theorem f_wire_Reader_End (x : EV) (a0 : Value) (σ : St) (K : VK) : fnX PP tbS c_wire_Reader_End (x.E PP) [a0] σ K = r_wire_Reader_End x a0 σ K := by kernel_rfl

/-! consistory/save.Decode -/
noncomputable def r_save_Decode (x : EV) (a0 : Value) (σ : St) (K : VK) : Bool :=
  rAlloc [(.int .i64 (.ofNat 0)), (.slice none 0 0), (.int .i64 (.ofNat 0)), (.string ⟨⟨[]⟩⟩), (.bool false), (.int .i64 (.ofNat 0)), (.int .i64 (.ofNat 0)), (.int .i64 (.ofNat 0)), (.int .i64 (.ofNat 0)), (.int .i64 (.ofNat 0)), (.int .i64 (.ofNat 0)), (.int .i64 (.ofNat 0)), (.string ⟨⟨[]⟩⟩), (.string ⟨⟨[]⟩⟩), (.int .i64 (.ofNat 0)), (.int .i64 (.ofNat 0)), (.bool false), (.bool false), (.string ⟨⟨[]⟩⟩), (.slice none 0 0), (.slice none 0 0), (.slice none 0 0), (.slice none 0 0), (.slice none 0 0), (.slice none 0 0), (.bool false), (.slice none 0 0), (.slice none 0 0), (.slice none 0 0), (.slice none 0 0)] 34 σ fun v0 σ =>
  x.C c_wire_Open [a0] σ fun v1 σ =>
  rBuild [(.pointer none)] [(0, 1, v1)] fun v2 =>
  rAlloc [(.pointer none)] 73 σ fun v3 σ =>
  rSt 1 v3 v2 σ fun σ =>
  rAlloc [(.int .i64 (.ofNat 0)), (.slice none 0 0), (.int .i64 (.ofNat 0)), (.string ⟨⟨[]⟩⟩), (.bool false), (.int .i64 (.ofNat 0)), (.int .i64 (.ofNat 0)), (.int .i64 (.ofNat 0)), (.int .i64 (.ofNat 0)), (.int .i64 (.ofNat 0)), (.int .i64 (.ofNat 0)), (.int .i64 (.ofNat 0)), (.string ⟨⟨[]⟩⟩), (.string ⟨⟨[]⟩⟩), (.int .i64 (.ofNat 0)), (.int .i64 (.ofNat 0)), (.bool false), (.bool false), (.string ⟨⟨[]⟩⟩), (.slice none 0 0), (.slice none 0 0), (.slice none 0 0), (.slice none 0 0), (.slice none 0 0), (.slice none 0 0), (.bool false), (.slice none 0 0), (.slice none 0 0), (.slice none 0 0), (.slice none 0 0)] 34 σ fun v4 σ =>
  rLdN 1 v3 σ fun v5 σ =>
  x.C c_save_all [(.iface 73 v5), v4] σ fun v6 σ =>
  rFld 0 v3 fun v7 =>
  rLd v7 σ fun v8 σ =>
  x.C c_wire_Reader_End [v8] σ fun v9 σ =>
  rBin PP .neq 37 v9 (.int .i64 (.ofNat 0)) fun v10 =>
  rIf v10 (rBuild [(.int .i64 (.ofNat 0)), (.slice none 0 0), (.int .i64 (.ofNat 0)), (.string ⟨⟨[]⟩⟩), (.bool false), (.int .i64 (.ofNat 0)), (.int .i64 (.ofNat 0)), (.int .i64 (.ofNat 0)), (.int .i64 (.ofNat 0)), (.int .i64 (.ofNat 0)), (.int .i64 (.ofNat 0)), (.int .i64 (.ofNat 0)), (.string ⟨⟨[]⟩⟩), (.string ⟨⟨[]⟩⟩), (.int .i64 (.ofNat 0)), (.int .i64 (.ofNat 0)), (.bool false), (.bool false), (.string ⟨⟨[]⟩⟩), (.slice none 0 0), (.slice none 0 0), (.slice none 0 0), (.slice none 0 0), (.slice none 0 0), (.slice none 0 0), (.bool false), (.slice none 0 0), (.slice none 0 0), (.slice none 0 0), (.slice none 0 0)] [] fun v11 =>
  rSt 30 v0 v11 σ fun σ =>
  rLdN 30 v0 σ fun v12 _ =>
  K (.tuple ⟨[v12, v9]⟩) σ) (rLdN 30 v4 σ fun v13 σ =>
  rSt 30 v0 v13 σ fun σ =>
  rLdN 30 v0 σ fun v14 _ =>
  K (.tuple ⟨[v14, (.int .i64 (.ofNat 0))]⟩) σ)
theorem f_save_Decode (x : EV) (a0 : Value) (σ : St) (K : VK) : fnX PP tbS c_save_Decode (x.E PP) [a0] σ K = r_save_Decode x a0 σ K := by kernel_rfl

end Go.Am

set_option linter.unusedVariables false
set_option maxRecDepth 100000
namespace Go.Am

/-! consistory/consistorylaw25.large -/
noncomputable def l_law25_large_rrlrd (x : EV) (m : Nat) (t1 t3 t4 : Value) (σ : St) (K : VK) : Bool := jmpL PP tbS c_law25_large (x.E PP) [.r, .r, .l, .r, .d] m [] [t1, t3, t4] σ K
noncomputable def l_law25_large_rrrrrlrd (x : EV) (m : Nat) (t1 t3 t5 t6 : Value) (σ : St) (K : VK) : Bool := jmpL PP tbS c_law25_large (x.E PP) [.r, .r, .r, .r, .r, .l, .r, .d] m [] [t1, t3, t5, t6] σ K
noncomputable def l_law25_large_rrrrrrlrd (x : EV) (m : Nat) (t1 t3 t7 : Value) (σ : St) (K : VK) : Bool := jmpL PP tbS c_law25_large (x.E PP) [.r, .r, .r, .r, .r, .r, .l, .r, .d] m [] [t1, t3, t7] σ K
noncomputable def r_law25_large (x : EV) (a0 : Value) (σ : St) (K : VK) : Bool :=
  boxK 34 a0 σ fun v0 σ =>
  rFld 1 v0 fun v1 =>
  rLd v1 σ fun v2 σ =>
  rFld 22 v0 fun v3 =>
  rLd v3 σ fun v4 σ =>
  rFld 23 v0 fun v5 =>
  rLd v5 σ fun v6 σ =>
  rLenS v6 fun v7 =>
  rBin PP .mul 3 (.int .i64 (.ofNat 2)) v7 fun v8 =>
  rFld 24 v0 fun v9 =>
  rLd v9 σ fun v10 σ =>
  rLenS v10 fun v11 =>
  rBin PP .mul 3 (.int .i64 (.ofNat 2)) v11 fun v12 =>
  rFld 26 v0 fun v13 =>
  rLd v13 σ fun v14 σ =>
  rFld 29 v0 fun v15 =>
  rLd v15 σ fun v16 σ =>
  rFld 28 v0 fun v17 =>
  rLd v17 σ fun v18 σ =>
  rFld 2 v0 fun v19 =>
  rFld 19 v19 fun v20 =>
  rLd v20 σ fun v21 σ =>
  x.C c_law25_sizeTexts [v2] σ fun v22 σ =>
  rLd v20 σ fun v23 σ =>
  rSame v23 v21 (rLd v17 σ fun v24 σ =>
  rSame v24 v18 (rLd v15 σ fun v25 σ =>
  rSame v25 v16 (rLd v13 σ fun v26 σ =>
  rSame v26 v14 (rLd v9 σ fun v27 σ =>
  rSame v27 v10 (rLd v5 σ fun v28 σ =>
  rSame v28 v6 (rLd v3 σ fun v29 σ =>
  rSame v29 v4 (x.C c_law25_sizeTexts [v4] σ fun v30 σ =>
  rLd v20 σ fun v31 σ =>
  rSame v31 v21 (rLd v17 σ fun v32 σ =>
  rSame v32 v18 (rLd v15 σ fun v33 σ =>
  rSame v33 v16 (rLd v13 σ fun v34 σ =>
  rSame v34 v14 (rLd v9 σ fun v35 σ =>
  rSame v35 v10 (rLd v5 σ fun v36 σ =>
  rSame v36 v6 (rBin PP .add 3 v22 v30 fun v37 =>
  rBin PP .add 3 v37 v8 fun v38 =>
  rBin PP .add 3 v38 v12 fun v39 =>
  x.C c_law25_sizeDealt [v14] σ fun v40 σ =>
  rLd v20 σ fun v41 σ =>
  rSame v41 v21 (rLd v17 σ fun v42 σ =>
  rSame v42 v18 (rLd v15 σ fun v43 σ =>
  rSame v43 v16 (rLd v9 σ fun v44 σ =>
  rSame v44 v10 (rLd v5 σ fun v45 σ =>
  rSame v45 v6 (rBin PP .add 3 v39 v40 fun v46 =>
  x.C c_law25_sizeDealt [v16] σ fun v47 σ =>
  rLd v20 σ fun v48 σ =>
  rSame v48 v21 (rLd v17 σ fun v49 σ =>
  rSame v49 v18 (rLd v9 σ fun v50 σ =>
  rSame v50 v10 (rLd v5 σ fun v51 σ =>
  rSame v51 v6 (rBin PP .add 3 v46 v47 fun v52 =>
  x.C c_law25_sizeMsgs [v18] σ fun v53 σ =>
  rLd v20 σ fun v54 σ =>
  rSame v54 v21 (rLd v9 σ fun v55 σ =>
  rSame v55 v10 (rLd v5 σ fun v56 σ =>
  rSame v56 v6 (rBin PP .add 3 v52 v53 fun v57 =>
  x.C c_law25_sizeMsgs [v21] σ fun v58 σ =>
  rLd v9 σ fun v59 σ =>
  rSame v59 v10 (rLd v5 σ fun v60 σ =>
  rSame v60 v6 (rBin PP .add 3 v57 v58 fun v61 =>
  l_law25_large_rrlrd x x.most v0 v61 (.int .i64 (.ofNat 0)) σ K)))))))))))))))))))))))))))
theorem f_law25_large (x : EV) (a0 : Value) (σ : St) (K : VK) : fnX PP tbS c_law25_large (x.E PP) [a0] σ K = r_law25_large x a0 σ K := by kernel_rfl
noncomputable def l_law25_large_rrlrdB (x : EV) (m0 : Nat) (t1 t3 t4 : Value) (σ : St) (K : VK) : Bool :=
  rFld 27 t1 fun v0 =>
  rLd v0 σ fun v1 σ =>
  rLenS v1 fun v2 =>
  rBin PP .lss 3 t4 v2 fun v3 =>
  rGuard true v3 (fun k => k t3 σ) σ fun v4 σ =>
  rGuard true v3 (fun k => rBin PP .lss 3 v4 (.int .i64 (.ofNat 9000)) fun v5 =>
  k v5 σ) σ fun v6 σ =>
  rPick v3 v6 (.bool false) fun v7 =>
  rIf v7 (rBin PP .add 3 t3 (.int .i64 (.ofNat 3)) fun v8 =>
  rFld 27 t1 fun v9 =>
  rLd v9 σ fun v10 σ =>
  rIdx 3 v10 t4 fun v11 =>
  rFld 2 v11 fun v12 =>
  rLd v12 σ fun v13 σ =>
  rLenS v13 fun v14 =>
  rBin PP .add 3 v8 v14 fun v15 =>
  rBin PP .add 3 t4 (.int .i64 (.ofNat 1)) fun v16 =>
  l_law25_large_rrlrd x m0 t1 v15 v16 σ K) (rFld 2 t1 fun v17 =>
  rFld 3 v17 fun v18 =>
  rLdN 15 v18 σ fun v19 σ =>
  rAlloc [(.int .i64 (.ofNat 0)), (.int .i64 (.ofNat 0)), (.int .i64 (.ofNat 0)), (.int .i64 (.ofNat 0)), (.int .i64 (.ofNat 0)), (.int .i64 (.ofNat 0)), (.int .i64 (.ofNat 0)), (.string ⟨⟨[]⟩⟩), (.string ⟨⟨[]⟩⟩), (.int .i64 (.ofNat 0)), (.int .i64 (.ofNat 0)), (.bool false), (.bool false), (.string ⟨⟨[]⟩⟩), (.slice none 0 0)] 25 σ fun v20 σ =>
  rSt 15 v20 v19 σ fun σ =>
  rFld 2 t1 fun v21 =>
  rFld 1 v21 fun v22 =>
  rLd v22 σ fun v23 σ =>
  rLenT v23 fun v24 =>
  rFld 7 v20 fun v25 =>
  rLd v25 σ fun v26 σ =>
  rLenT v26 fun v27 =>
  rBin PP .add 3 v24 v27 fun v28 =>
  rFld 8 v20 fun v29 =>
  rLd v29 σ fun v30 σ =>
  rLenT v30 fun v31 =>
  rBin PP .add 3 v28 v31 fun v32 =>
  rFld 13 v20 fun v33 =>
  rLd v33 σ fun v34 σ =>
  rLenT v34 fun v35 =>
  rBin PP .add 3 v32 v35 fun v36 =>
  rBin PP .quo 3 v36 (.int .i64 (.ofNat 8)) fun v37 =>
  rBin PP .add 3 t3 v37 fun v38 =>
  l_law25_large_rrrrrlrd x x.most t1 v38 v20 (.int .i64 (.ofNat 0)) σ K)
theorem l_law25_large_rrlrdE (x : EV) (m0 : Nat) (t1 t3 t4 : Value) (σ : St) (K : VK) : l_law25_large_rrlrd x (m0 + 1) t1 t3 t4 σ K = l_law25_large_rrlrdB x m0 t1 t3 t4 σ K := by kernel_rfl
noncomputable def l_law25_large_rrrrrlrdB (x : EV) (m0 : Nat) (t1 t3 t5 t6 : Value) (σ : St) (K : VK) : Bool :=
  rFld 14 t5 fun v0 =>
  rLd v0 σ fun v1 σ =>
  rLenS v1 fun v2 =>
  rBin PP .lss 3 t6 v2 fun v3 =>
  rGuard true v3 (fun k => k t3 σ) σ fun v4 σ =>
  rGuard true v3 (fun k => rBin PP .lss 3 v4 (.int .i64 (.ofNat 9000)) fun v5 =>
  k v5 σ) σ fun v6 σ =>
  rPick v3 v6 (.bool false) fun v7 =>
  rIf v7 (rBin PP .add 3 t3 (.int .i64 (.ofNat 4)) fun v8 =>
  rFld 14 t5 fun v9 =>
  rLd v9 σ fun v10 σ =>
  rIdx 5 v10 t6 fun v11 =>
  rFld 4 v11 fun v12 =>
  rLd v12 σ fun v13 σ =>
  rLenT v13 fun v14 =>
  rBin PP .quo 3 v14 (.int .i64 (.ofNat 8)) fun v15 =>
  rBin PP .add 3 v8 v15 fun v16 =>
  rBin PP .add 3 t6 (.int .i64 (.ofNat 1)) fun v17 =>
  l_law25_large_rrrrrlrd x m0 t1 v16 t5 v17 σ K) (l_law25_large_rrrrrrlrd x x.most t1 t3 (.int .i64 (.ofNat 0)) σ K)
theorem l_law25_large_rrrrrlrdE (x : EV) (m0 : Nat) (t1 t3 t5 t6 : Value) (σ : St) (K : VK) : l_law25_large_rrrrrlrd x (m0 + 1) t1 t3 t5 t6 σ K = l_law25_large_rrrrrlrdB x m0 t1 t3 t5 t6 σ K := by kernel_rfl
noncomputable def l_law25_large_rrrrrrlrdB (x : EV) (m0 : Nat) (t1 t3 t7 : Value) (σ : St) (K : VK) : Bool :=
  rFld 2 t1 fun v0 =>
  rFld 18 v0 fun v1 =>
  rLd v1 σ fun v2 σ =>
  rLenS v2 fun v3 =>
  rBin PP .lss 3 t7 v3 fun v4 =>
  rGuard true v4 (fun k => k t3 σ) σ fun v5 σ =>
  rGuard true v4 (fun k => rBin PP .lss 3 v5 (.int .i64 (.ofNat 9000)) fun v6 =>
  k v6 σ) σ fun v7 σ =>
  rPick v4 v7 (.bool false) fun v8 =>
  rIf v8 (rBin PP .add 3 t3 (.int .i64 (.ofNat 2)) fun v9 =>
  rFld 2 t1 fun v10 =>
  rFld 18 v10 fun v11 =>
  rLd v11 σ fun v12 σ =>
  rIdx 2 v12 t7 fun v13 =>
  rFld 1 v13 fun v14 =>
  rLd v14 σ fun v15 σ =>
  rLenT v15 fun v16 =>
  rBin PP .quo 3 v16 (.int .i64 (.ofNat 8)) fun v17 =>
  rBin PP .add 3 v9 v17 fun v18 =>
  rBin PP .add 3 t7 (.int .i64 (.ofNat 1)) fun v19 =>
  l_law25_large_rrrrrrlrd x m0 t1 v18 v19 σ K) (rBin PP .geq 3 t3 (.int .i64 (.ofNat 9000)) fun v20 =>
  K v20 σ)
theorem l_law25_large_rrrrrrlrdE (x : EV) (m0 : Nat) (t1 t3 t7 : Value) (σ : St) (K : VK) : l_law25_large_rrrrrrlrd x (m0 + 1) t1 t3 t7 σ K = l_law25_large_rrrrrrlrdB x m0 t1 t3 t7 σ K := by kernel_rfl

/-! consistory/consistorylaw25.sizeTexts -/
noncomputable def l_law25_sizeTexts_rrlrd (x : EV) (m : Nat) (t0 t3 t4 : Value) (σ : St) (K : VK) : Bool := jmpL PP tbS c_law25_sizeTexts (x.E PP) [.r, .r, .l, .r, .d] m [] [t0, t3, t4] σ K
noncomputable def r_law25_sizeTexts (x : EV) (a0 : Value) (σ : St) (K : VK) : Bool :=
  l_law25_sizeTexts_rrlrd x x.most a0 (.int .i64 (.ofNat 0)) (.int .i64 (.ofNat 0)) σ K
theorem f_law25_sizeTexts (x : EV) (a0 : Value) (σ : St) (K : VK) : fnX PP tbS c_law25_sizeTexts (x.E PP) [a0] σ K = r_law25_sizeTexts x a0 σ K := by kernel_rfl
noncomputable def l_law25_sizeTexts_rrlrdB (x : EV) (m0 : Nat) (t0 t3 t4 : Value) (σ : St) (K : VK) : Bool :=
  rLenS t0 fun v0 =>
  rBin PP .lss 3 t4 v0 fun v1 =>
  rGuard true v1 (fun k => k t3 σ) σ fun v2 σ =>
  rGuard true v1 (fun k => rBin PP .lss 3 v2 (.int .i64 (.ofNat 9000)) fun v3 =>
  k v3 σ) σ fun v4 σ =>
  rPick v1 v4 (.bool false) fun v5 =>
  rIf v5 (rBin PP .add 3 t3 (.int .i64 (.ofNat 1)) fun v6 =>
  rIdx 1 t0 t4 fun v7 =>
  rLd v7 σ fun v8 σ =>
  rLenT v8 fun v9 =>
  rBin PP .quo 3 v9 (.int .i64 (.ofNat 8)) fun v10 =>
  rBin PP .add 3 v6 v10 fun v11 =>
  rBin PP .add 3 t4 (.int .i64 (.ofNat 1)) fun v12 =>
  l_law25_sizeTexts_rrlrd x m0 t0 v11 v12 σ K) (K t3 σ)
theorem l_law25_sizeTexts_rrlrdE (x : EV) (m0 : Nat) (t0 t3 t4 : Value) (σ : St) (K : VK) : l_law25_sizeTexts_rrlrd x (m0 + 1) t0 t3 t4 σ K = l_law25_sizeTexts_rrlrdB x m0 t0 t3 t4 σ K := by kernel_rfl

/-! consistory/consistorylaw25.sizeDealt -/
noncomputable def l_law25_sizeDealt_rrlrd (x : EV) (m : Nat) (t0 t3 t4 : Value) (σ : St) (K : VK) : Bool := jmpL PP tbS c_law25_sizeDealt (x.E PP) [.r, .r, .l, .r, .d] m [] [t0, t3, t4] σ K
noncomputable def l_law25_sizeDealt_rrlrddrldrrd (x : EV) (m : Nat) (m0 : Nat) (t0 t3 t4 t5 : Value) (σ : St) (K : VK) : Bool := jmpL PP tbS c_law25_sizeDealt (x.E PP) [.r, .r, .l, .r, .d, .d, .r, .l, .d, .r, .r, .d] m [m0] [t0, t3, t4, t5] σ K
noncomputable def r_law25_sizeDealt (x : EV) (a0 : Value) (σ : St) (K : VK) : Bool :=
  l_law25_sizeDealt_rrlrd x x.most a0 (.int .i64 (.ofNat 0)) (.int .i64 (.ofNat 0)) σ K
theorem f_law25_sizeDealt (x : EV) (a0 : Value) (σ : St) (K : VK) : fnX PP tbS c_law25_sizeDealt (x.E PP) [a0] σ K = r_law25_sizeDealt x a0 σ K := by kernel_rfl
noncomputable def l_law25_sizeDealt_rrlrdB (x : EV) (m0 : Nat) (t0 t3 t4 : Value) (σ : St) (K : VK) : Bool :=
  rLenS t0 fun v0 =>
  rBin PP .lss 3 t4 v0 fun v1 =>
  rGuard true v1 (fun k => k t3 σ) σ fun v2 σ =>
  rGuard true v1 (fun k => rBin PP .lss 3 v2 (.int .i64 (.ofNat 9000)) fun v3 =>
  k v3 σ) σ fun v4 σ =>
  rPick v1 v4 (.bool false) fun v5 =>
  rIf v5 (rBin PP .add 3 t3 (.int .i64 (.ofNat 9)) fun v6 =>
  rIdx 8 t0 t4 fun v7 =>
  rFld 3 v7 fun v8 =>
  rLd v8 σ fun v9 σ =>
  rLenS v9 fun v10 =>
  rBin PP .add 3 v6 v10 fun v11 =>
  rIdx 8 t0 t4 fun v12 =>
  rFld 6 v12 fun v13 =>
  rLd v13 σ fun v14 σ =>
  rLenS v14 fun v15 =>
  rBin PP .add 3 v11 v15 fun v16 =>
  rIdx 8 t0 t4 fun v17 =>
  rFld 4 v17 fun v18 =>
  rLd v18 σ fun v19 σ =>
  rIdx 8 t0 t4 fun v20 =>
  rFld 5 v20 fun v21 =>
  rLd v21 σ fun v22 σ =>
  x.C c_law25_sizeTold [v19] σ fun v23 σ =>
  rLd v21 σ fun v24 σ =>
  rSame v24 v22 (rLd v13 σ fun v25 σ =>
  rSame v25 v14 (rLd v8 σ fun v26 σ =>
  rSame v26 v9 (rBin PP .add 3 v16 v23 fun v27 =>
  x.C c_law25_sizeTold [v22] σ fun v28 σ =>
  rLd v13 σ fun v29 σ =>
  rSame v29 v14 (rLd v8 σ fun v30 σ =>
  rSame v30 v9 (rBin PP .add 3 v27 v28 fun v31 =>
  l_law25_sizeDealt_rrlrddrldrrd x x.most m0 t0 v31 t4 (.int .i64 (.ofNat 0)) σ K)))))) (K t3 σ)
theorem l_law25_sizeDealt_rrlrdE (x : EV) (m0 : Nat) (t0 t3 t4 : Value) (σ : St) (K : VK) : l_law25_sizeDealt_rrlrd x (m0 + 1) t0 t3 t4 σ K = l_law25_sizeDealt_rrlrdB x m0 t0 t3 t4 σ K := by kernel_rfl
noncomputable def l_law25_sizeDealt_rrlrddrldrrdB (x : EV) (m1 : Nat) (m0 : Nat) (t0 t3 t4 t5 : Value) (σ : St) (K : VK) : Bool :=
  rIdx 8 t0 t4 fun v0 =>
  rFld 2 v0 fun v1 =>
  rLd v1 σ fun v2 σ =>
  rLenS v2 fun v3 =>
  rBin PP .lss 3 t5 v3 fun v4 =>
  rGuard true v4 (fun k => k t3 σ) σ fun v5 σ =>
  rGuard true v4 (fun k => rBin PP .lss 3 v5 (.int .i64 (.ofNat 9000)) fun v6 =>
  k v6 σ) σ fun v7 σ =>
  rPick v4 v7 (.bool false) fun v8 =>
  rIf v8 (rBin PP .add 3 t3 (.int .i64 (.ofNat 1)) fun v9 =>
  rIdx 8 t0 t4 fun v10 =>
  rFld 2 v10 fun v11 =>
  rLd v11 σ fun v12 σ =>
  rIdx 1 v12 t5 fun v13 =>
  rLd v13 σ fun v14 σ =>
  rLenS v14 fun v15 =>
  rBin PP .add 3 v9 v15 fun v16 =>
  rBin PP .add 3 t5 (.int .i64 (.ofNat 1)) fun v17 =>
  l_law25_sizeDealt_rrlrddrldrrd x m1 m0 t0 v16 t4 v17 σ K) (rBin PP .add 3 t4 (.int .i64 (.ofNat 1)) fun v18 =>
  l_law25_sizeDealt_rrlrd x m0 t0 t3 v18 σ K)
theorem l_law25_sizeDealt_rrlrddrldrrdE (x : EV) (m1 : Nat) (m0 : Nat) (t0 t3 t4 t5 : Value) (σ : St) (K : VK) : l_law25_sizeDealt_rrlrddrldrrd x (m1 + 1) m0 t0 t3 t4 t5 σ K = l_law25_sizeDealt_rrlrddrldrrdB x m1 m0 t0 t3 t4 t5 σ K := by kernel_rfl

/-! consistory/consistorylaw25.sizeMsgs -/
noncomputable def l_law25_sizeMsgs_rrlrd (x : EV) (m : Nat) (t0 t3 t4 : Value) (σ : St) (K : VK) : Bool := jmpL PP tbS c_law25_sizeMsgs (x.E PP) [.r, .r, .l, .r, .d] m [] [t0, t3, t4] σ K
noncomputable def r_law25_sizeMsgs (x : EV) (a0 : Value) (σ : St) (K : VK) : Bool :=
  l_law25_sizeMsgs_rrlrd x x.most a0 (.int .i64 (.ofNat 0)) (.int .i64 (.ofNat 0)) σ K
theorem f_law25_sizeMsgs (x : EV) (a0 : Value) (σ : St) (K : VK) : fnX PP tbS c_law25_sizeMsgs (x.E PP) [a0] σ K = r_law25_sizeMsgs x a0 σ K := by kernel_rfl
noncomputable def l_law25_sizeMsgs_rrlrdB (x : EV) (m0 : Nat) (t0 t3 t4 : Value) (σ : St) (K : VK) : Bool :=
  rLenS t0 fun v0 =>
  rBin PP .lss 3 t4 v0 fun v1 =>
  rGuard true v1 (fun k => k t3 σ) σ fun v2 σ =>
  rGuard true v1 (fun k => rBin PP .lss 3 v2 (.int .i64 (.ofNat 9000)) fun v3 =>
  k v3 σ) σ fun v4 σ =>
  rPick v1 v4 (.bool false) fun v5 =>
  rIf v5 (rBin PP .add 3 t3 (.int .i64 (.ofNat 10)) fun v6 =>
  rIdx 11 t0 t4 fun v7 =>
  rFld 10 v7 fun v8 =>
  rLd v8 σ fun v9 σ =>
  rLenS v9 fun v10 =>
  rBin PP .add 3 v6 v10 fun v11 =>
  rIdx 11 t0 t4 fun v12 =>
  rFld 9 v12 fun v13 =>
  rLd v13 σ fun v14 σ =>
  rLenT v14 fun v15 =>
  rBin PP .quo 3 v15 (.int .i64 (.ofNat 8)) fun v16 =>
  rBin PP .add 3 v11 v16 fun v17 =>
  rBin PP .add 3 t4 (.int .i64 (.ofNat 1)) fun v18 =>
  l_law25_sizeMsgs_rrlrd x m0 t0 v17 v18 σ K) (K t3 σ)
theorem l_law25_sizeMsgs_rrlrdE (x : EV) (m0 : Nat) (t0 t3 t4 : Value) (σ : St) (K : VK) : l_law25_sizeMsgs_rrlrd x (m0 + 1) t0 t3 t4 σ K = l_law25_sizeMsgs_rrlrdB x m0 t0 t3 t4 σ K := by kernel_rfl

/-! consistory/consistorylaw25.sizeTold -/
noncomputable def l_law25_sizeTold_rrlrd (x : EV) (m : Nat) (t0 t3 t4 : Value) (σ : St) (K : VK) : Bool := jmpL PP tbS c_law25_sizeTold (x.E PP) [.r, .r, .l, .r, .d] m [] [t0, t3, t4] σ K
noncomputable def r_law25_sizeTold (x : EV) (a0 : Value) (σ : St) (K : VK) : Bool :=
  l_law25_sizeTold_rrlrd x x.most a0 (.int .i64 (.ofNat 0)) (.int .i64 (.ofNat 0)) σ K
theorem f_law25_sizeTold (x : EV) (a0 : Value) (σ : St) (K : VK) : fnX PP tbS c_law25_sizeTold (x.E PP) [a0] σ K = r_law25_sizeTold x a0 σ K := by kernel_rfl
noncomputable def l_law25_sizeTold_rrlrdB (x : EV) (m0 : Nat) (t0 t3 t4 : Value) (σ : St) (K : VK) : Bool :=
  rLenS t0 fun v0 =>
  rBin PP .lss 3 t4 v0 fun v1 =>
  rGuard true v1 (fun k => k t3 σ) σ fun v2 σ =>
  rGuard true v1 (fun k => rBin PP .lss 3 v2 (.int .i64 (.ofNat 9000)) fun v3 =>
  k v3 σ) σ fun v4 σ =>
  rPick v1 v4 (.bool false) fun v5 =>
  rIf v5 (rBin PP .add 3 t3 (.int .i64 (.ofNat 3)) fun v6 =>
  rIdx 2 t0 t4 fun v7 =>
  rFld 1 v7 fun v8 =>
  rLd v8 σ fun v9 σ =>
  rLenS v9 fun v10 =>
  rBin PP .add 3 v6 v10 fun v11 =>
  rBin PP .add 3 t4 (.int .i64 (.ofNat 1)) fun v12 =>
  l_law25_sizeTold_rrlrd x m0 t0 v11 v12 σ K) (K t3 σ)
theorem l_law25_sizeTold_rrlrdE (x : EV) (m0 : Nat) (t0 t3 t4 : Value) (σ : St) (K : VK) : l_law25_sizeTold_rrlrd x (m0 + 1) t0 t3 t4 σ K = l_law25_sizeTold_rrlrdB x m0 t0 t3 t4 σ K := by kernel_rfl

end Go.Am

set_option linter.unusedVariables false
set_option maxRecDepth 100000
namespace Go.Am

/-! consistory/consistorylaw25.SaveWhole -/
noncomputable def r_law25_SaveWhole (x : EV) (a0 a1 a2 : Value) (σ : St) (K : VK) : Bool :=
  boxK 34 a0 σ fun v0 σ =>
  rLdN 30 v0 σ fun v1 σ =>
  x.C c_law25_large [v1] σ fun v2 σ =>
  rGuard false v2 (fun k => k a2 σ) σ fun v3 σ =>
  rGuard false v2 (fun k => rLenT v3 fun v4 =>
  k v4 σ) σ fun v5 σ =>
  rGuard false v2 (fun k => rBin PP .gtr 3 v5 (.int .i64 (.ofNat 3000)) fun v6 =>
  k v6 σ) σ fun v7 σ =>
  rPick v2 (.bool true) v7 fun v8 =>
  rGuard false v8 (fun k => x.C c_law25_awake [] σ fun v9 σ =>
  k v9 σ) σ fun v10 σ =>
  rGuard false v8 (fun k => unK .not v10 fun v11 =>
  k v11 σ) σ fun v12 σ =>
  rPick v8 (.bool true) v12 fun v13 =>
  rIf v13 (x.C c_law25_awake [] σ fun v14 σ =>
  K v14 σ) (rLdN 30 v0 σ fun v15 σ =>
  x.C c_save_Encode [v15] σ fun v16 σ =>
  rExt 0 v16 fun v17 =>
  rExt 1 v16 fun v18 =>
  rBin PP .neq 37 v18 (.int .i64 (.ofNat 0)) fun v19 =>
  rIf v19 (K (.bool true) σ) (rInt .u64 a1 fun v20 =>
  rLenT v17 fun v21 =>
  rInt .u64 v21 fun v22 =>
  rBin PP .rem 42 v20 v22 fun v23 =>
  rInt .i64 v23 fun v24 =>
  sliceK PP 9 v17 none (some v24) none σ fun v25 =>
  x.C c_save_Decode [v25] σ fun v26 σ =>
  rExt 0 v26 fun v27 =>
  rExt 1 v26 fun v28 =>
  rAlloc [(.int .i64 (.ofNat 0)), (.slice none 0 0), (.int .i64 (.ofNat 0)), (.string ⟨⟨[]⟩⟩), (.bool false), (.int .i64 (.ofNat 0)), (.int .i64 (.ofNat 0)), (.int .i64 (.ofNat 0)), (.int .i64 (.ofNat 0)), (.int .i64 (.ofNat 0)), (.int .i64 (.ofNat 0)), (.int .i64 (.ofNat 0)), (.string ⟨⟨[]⟩⟩), (.string ⟨⟨[]⟩⟩), (.int .i64 (.ofNat 0)), (.int .i64 (.ofNat 0)), (.bool false), (.bool false), (.string ⟨⟨[]⟩⟩), (.slice none 0 0), (.slice none 0 0), (.slice none 0 0), (.slice none 0 0), (.slice none 0 0), (.slice none 0 0), (.bool false), (.slice none 0 0), (.slice none 0 0), (.slice none 0 0), (.slice none 0 0)] 34 σ fun v29 σ =>
  rSt 30 v29 v27 σ fun σ =>
  rBin PP .add 9 v17 a2 fun v30 =>
  x.C c_save_Decode [v30] σ fun v31 σ =>
  rExt 0 v31 fun v32 =>
  rExt 1 v31 fun v33 =>
  rAlloc [(.int .i64 (.ofNat 0)), (.slice none 0 0), (.int .i64 (.ofNat 0)), (.string ⟨⟨[]⟩⟩), (.bool false), (.int .i64 (.ofNat 0)), (.int .i64 (.ofNat 0)), (.int .i64 (.ofNat 0)), (.int .i64 (.ofNat 0)), (.int .i64 (.ofNat 0)), (.int .i64 (.ofNat 0)), (.int .i64 (.ofNat 0)), (.string ⟨⟨[]⟩⟩), (.string ⟨⟨[]⟩⟩), (.int .i64 (.ofNat 0)), (.int .i64 (.ofNat 0)), (.bool false), (.bool false), (.string ⟨⟨[]⟩⟩), (.slice none 0 0), (.slice none 0 0), (.slice none 0 0), (.slice none 0 0), (.slice none 0 0), (.slice none 0 0), (.bool false), (.slice none 0 0), (.slice none 0 0), (.slice none 0 0), (.slice none 0 0)] 34 σ fun v34 σ =>
  rSt 30 v34 v32 σ fun σ =>
  rBin PP .eql 37 v28 (.int .i64 (.ofNat 8)) fun v35 =>
  rGuard true v35 (fun k => k a2 σ) σ fun v36 σ =>
  rGuard true v35 (fun k => rBin PP .eql 9 v36 (.string ⟨⟨[]⟩⟩) fun v37 =>
  k v37 σ) σ fun v38 σ =>
  rGuard true v35 (fun k => k v38 σ) σ fun v39 σ =>
  rGuard true v39 (fun k => k v33 σ) σ fun v40 σ =>
  rGuard true v39 (fun k => rBin PP .eql 37 v40 (.int .i64 (.ofNat 0)) fun v41 =>
  k v41 σ) σ fun v42 σ =>
  rGuard true v35 (fun k => rPick v39 v42 (.bool false) fun v43 =>
  k v43 σ) σ fun v44 σ =>
  rGuard true v35 (fun k => k v44 σ) σ fun v45 σ =>
  rGuard false v45 (fun k => k a2 σ) σ fun v46 σ =>
  rGuard false v45 (fun k => rBin PP .neq 9 v46 (.string ⟨⟨[]⟩⟩) fun v47 =>
  k v47 σ) σ fun v48 σ =>
  rGuard false v45 (fun k => k v48 σ) σ fun v49 σ =>
  rGuard true v49 (fun k => k v33 σ) σ fun v50 σ =>
  rGuard true v49 (fun k => rBin PP .eql 37 v50 (.int .i64 (.ofNat 10)) fun v51 =>
  k v51 σ) σ fun v52 σ =>
  rGuard false v45 (fun k => rPick v49 v52 (.bool false) fun v53 =>
  k v53 σ) σ fun v54 σ =>
  rGuard true v35 (fun k => rPick v45 (.bool true) v54 fun v55 =>
  k v55 σ) σ fun v56 σ =>
  rPick v35 v56 (.bool false) fun v57 =>
  K v57 σ))
theorem f_law25_SaveWhole (x : EV) (a0 a1 a2 : Value) (σ : St) (K : VK) : fnX PP tbS c_law25_SaveWhole (x.E PP) [a0, a1, a2] σ K = r_law25_SaveWhole x a0 a1 a2 σ K := by kernel_rfl

end Go.Am


