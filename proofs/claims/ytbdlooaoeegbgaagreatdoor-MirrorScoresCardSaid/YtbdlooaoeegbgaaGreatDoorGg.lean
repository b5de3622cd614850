/- Functions' codes, written out (by a program), each seen to be so by the kernel. -/
import Derived.Test.YtbdlooaoeegbgaaGreatDoorGf
import Derived.Test.YtbdlooaoeegbgaaGreatDoorGe

set_option linter.unusedVariables false
set_option maxRecDepth 100000
namespace Go.Am

/-! consistory/mirror.Line -/
noncomputable def l_mirror_Line_rrrrrrlrd (x : VE) (m : Nat) (t2 t6 t7 t44 t45 t46 : V) (σ : Hp) (K : KV) : Prop := vjmpL PP tbS c_mirror_Line x [.r, .r, .r, .r, .r, .r, .l, .r, .d] m [] [t2, t6, t7, t44, t45, t46] σ K
noncomputable def r_mirror_Line (x : VE) (a0 a1 : V) (σ : Hp) (K : KV) : Prop :=
 vBox 25 a0 σ fun v0 σ =>
 x.call c_slices_Clone_list_int_int [a1] σ fun v1 σ =>
 x.call c_slices_Sort_list_int_int [v1] σ fun v2 σ =>
 vLdN 12 v0 σ fun v3 σ =>
 x.call c_group_May [v3] σ fun v4 σ =>
 vUn .not v4 fun v5 =>
 shutP x.most (vGuard false v5 (fun k => k a1 σ) σ fun v6 σ =>
 shutP x.most (vGuard false v5 (fun k => vLenS v6 fun v7 =>
 k v7 σ) σ fun v8 σ =>
 shutP x.most (vGuard false v5 (fun k => vFld 6 v0 fun v9 =>
 k v9 σ) σ fun v10 σ =>
 shutP x.most (vGuard false v5 (fun k => vLd v10 σ fun v11 σ =>
 k v11 σ) σ fun v12 σ =>
 shutP x.most (vGuard false v5 (fun k => vBin PP .gtr 3 v8 v12 fun v13 =>
 k v13 σ) σ fun v14 σ =>
 shutP x.most (vPick v5 (.bool true) v14 fun v15 =>
 shutP x.most (vGuard false v15 (fun k => k v1 σ) σ fun v16 σ =>
 shutP x.most (vGuard false v15 (fun k => x.call c_slices_Compact_list_int_int [v16] σ fun v17 σ =>
 k v17 σ) σ fun v18 σ =>
 shutP x.most (vGuard false v15 (fun k => vLenS v18 fun v19 =>
 k v19 σ) σ fun v20 σ =>
 shutP x.most (vGuard false v15 (fun k => k a1 σ) σ fun v21 σ =>
 shutP x.most (vGuard false v15 (fun k => vLenS v21 fun v22 =>
 k v22 σ) σ fun v23 σ =>
 shutP x.most (vGuard false v15 (fun k => vBin PP .neq 3 v20 v23 fun v24 =>
 k v24 σ) σ fun v25 σ =>
 shutP x.most (vPick v15 (.bool true) v25 fun v26 =>
 shutP x.most (vGuard false v26 (fun k => k a1 σ) σ fun v27 σ =>
 shutP x.most (vGuard false v26 (fun k => k (.func c_mirror_Line_1 [] [v0]) σ) σ fun v28 σ =>
 shutP x.most (vGuard false v26 (fun k => x.call c_slices_ContainsFunc_list_int_int [v27, v28] σ fun v29 σ =>
 k v29 σ) σ fun v30 σ =>
 shutP x.most (vPick v26 (.bool true) v30 fun v31 =>
 vIf v31 (vRet .nil σ K) (vFld 6 v0 fun v32 =>
 vLd v32 σ fun v33 σ =>
 vBin PP .add 3 v33 (.int .i64 (.ofNat 1)) fun v34 =>
 vMk 22 8 [(.int .u64 (.ofNat 0))] v34 v34 σ fun v35 σ =>
 vBuildS 22 1 [(.int .u64 (.ofNat 0))] [(0, 1, (.int .u64 (.ofNat 1)))] σ fun v36 σ =>
 vLenS a1 fun v37 =>
 l_mirror_Line_rrrrrrlrd x x.most v0 v35 v36 a1 v37 (.int .i64 (.ofNat 0)) σ K))))))))))))))))))
theorem f_mirror_Line (x : VE) (a0 a1 : V) (σ : Hp) (K : KV) : fnV PP tbS c_mirror_Line x [a0, a1] σ K = r_mirror_Line x a0 a1 σ K := by kernel_rfl
noncomputable def l_mirror_Line_rrrrrrlrdB (x : VE) (m0 : Nat) (t2 t6 t7 t44 t45 t46 : V) (σ : Hp) (K : KV) : Prop :=
 vDrop σ fun σ =>
 vBin PP .lss 3 t46 t45 fun v0 =>
 vIf v0 (vIdx 1 t44 t46 fun v1 =>
 vLd v1 σ fun v2 σ =>
 vInt .u64 v2 fun v3 =>
 vFld 1 t2 fun v4 =>
 vLd v4 σ fun v5 σ =>
 x.call c_mod_Inv [v3, v5] σ fun v6 σ =>
 vExt 0 v6 fun v7 =>
 vExt 1 v6 fun v8 =>
 vFld 1 t2 fun v9 =>
 vLd v9 σ fun v10 σ =>
 vFld 1 t2 fun v11 =>
 vLd v11 σ fun v12 σ =>
 x.call c_mod_Sub [(.int .u64 (.ofNat 0)), v7, v10] σ fun v13 σ =>
 vLd v11 σ fun v14 _ =>
 vSame v14 v12 (vLd v11 σ fun v15 _ =>
 vSame v15 v12 ((vBuildS 22 2 [(.int .u64 (.ofNat 0))] [(0, 1, (.int .u64 (.ofNat 1))), (1, 1, v13)] σ fun v16 σ =>
 True) ∧ (vBuildS 22 2 [(.int .u64 (.ofNat 0))] [(0, 1, (.int .u64 (.ofNat 1))), (1, 1, v13)] σ fun v17 σ =>
 x.call c_poly_Times [t7, v17, v12] σ fun v18 σ =>
 vBin PP .add 3 t46 (.int .i64 (.ofNat 1)) fun v19 =>
 l_mirror_Line_rrrrrrlrd x m0 t2 t6 v18 t44 t45 v19 σ K)))) (vCopy 1 t6 t7 σ fun v20 σ =>
 vRet t6 σ K)
theorem l_mirror_Line_rrrrrrlrdE (x : VE) (m0 : Nat) (t2 t6 t7 t44 t45 t46 : V) (σ : Hp) (K : KV) : l_mirror_Line_rrrrrrlrd x (m0 + 1) t2 t6 t7 t44 t45 t46 σ K = l_mirror_Line_rrrrrrlrdB x m0 t2 t6 t7 t44 t45 t46 σ K := by kernel_rfl

/-! consistory/mirror.Line$1 -/
noncomputable def r_mirror_Line_1 (x : VE) (a0 a1 : V) (σ : Hp) (K : KV) : Prop :=
 vBin PP .lss 3 a0 (.int .i64 (.ofNat 1)) fun v0 =>
 shutP x.most (vGuard false v0 (fun k => k a0 σ) σ fun v1 σ =>
 shutP x.most (vGuard false v0 (fun k => vFld 5 a1 fun v2 =>
 k v2 σ) σ fun v3 σ =>
 shutP x.most (vGuard false v0 (fun k => vLd v3 σ fun v4 σ =>
 k v4 σ) σ fun v5 σ =>
 shutP x.most (vGuard false v0 (fun k => vBin PP .gtr 3 v1 v5 fun v6 =>
 k v6 σ) σ fun v7 σ =>
 shutP x.most (vPick v0 (.bool true) v7 fun v8 =>
 vRet v8 σ K)))))
theorem f_mirror_Line_1 (x : VE) (a0 a1 : V) (σ : Hp) (K : KV) : fnV PP tbS c_mirror_Line_1 x [a0, a1] σ K = r_mirror_Line_1 x a0 a1 σ K := by kernel_rfl

/-! consistory/mirror.Load -/
noncomputable def r_mirror_Load (x : VE) (a0 a1 a2 a3 a4 : V) (σ : Hp) (K : KV) : Prop :=
 vBox 25 a0 σ fun v0 σ =>
 vLdN 12 v0 σ fun v1 σ =>
 x.call c_mirror_of [v1, a1, a2] σ fun v2 σ =>
 vExt 0 v2 fun v3 =>
 vExt 1 v2 fun v4 =>
 vAlloc [(.int .u64 (.ofNat 0)), (.int .u64 (.ofNat 0)), (.slice none 0 0)] 86 σ fun v5 σ =>
 vSt 3 v5 v3 σ fun σ =>
 vUn .not v4 fun v6 =>
 shutP x.most (vGuard false v6 (fun k => k a3 σ) σ fun v7 σ =>
 shutP x.most (vGuard false v6 (fun k => vLenS v7 fun v8 =>
 k v8 σ) σ fun v9 σ =>
 shutP x.most (vGuard false v6 (fun k => vFld 6 v0 fun v10 =>
 k v10 σ) σ fun v11 σ =>
 shutP x.most (vGuard false v6 (fun k => vLd v11 σ fun v12 σ =>
 k v12 σ) σ fun v13 σ =>
 shutP x.most (vGuard false v6 (fun k => vBin PP .add 3 v13 (.int .i64 (.ofNat 1)) fun v14 =>
 k v14 σ) σ fun v15 σ =>
 shutP x.most (vGuard false v6 (fun k => vBin PP .neq 3 v9 v15 fun v16 =>
 k v16 σ) σ fun v17 σ =>
 shutP x.most (vPick v6 (.bool true) v17 fun v18 =>
 shutP x.most (vGuard false v18 (fun k => k a4 σ) σ fun v19 σ =>
 shutP x.most (vGuard false v18 (fun k => vLenS v19 fun v20 =>
 k v20 σ) σ fun v21 σ =>
 shutP x.most (vGuard false v18 (fun k => k a2 σ) σ fun v22 σ =>
 shutP x.most (vGuard false v18 (fun k => vLenS v22 fun v23 =>
 k v23 σ) σ fun v24 σ =>
 shutP x.most (vGuard false v18 (fun k => vFld 6 v0 fun v25 =>
 k v25 σ) σ fun v26 σ =>
 shutP x.most (vGuard false v18 (fun k => vLd v26 σ fun v27 σ =>
 k v27 σ) σ fun v28 σ =>
 shutP x.most (vGuard false v18 (fun k => vBin PP .mul 3 (.int .i64 (.ofNat 2)) v28 fun v29 =>
 k v29 σ) σ fun v30 σ =>
 shutP x.most (vGuard false v18 (fun k => vBin PP .add 3 v30 (.int .i64 (.ofNat 1)) fun v31 =>
 k v31 σ) σ fun v32 σ =>
 shutP x.most (vGuard false v18 (fun k => vBin PP .mul 3 v24 v32 fun v33 =>
 k v33 σ) σ fun v34 σ =>
 shutP x.most (vGuard false v18 (fun k => vBin PP .neq 3 v21 v34 fun v35 =>
 k v35 σ) σ fun v36 σ =>
 shutP x.most (vPick v18 (.bool true) v36 fun v37 =>
 vIf v37 (x.call c_slices_Clone_list_uint64_uint64 [a4] σ fun v38 σ =>
 vRet v38 σ K) (vLdN 3 v5 σ fun v39 σ =>
 vLdN 3 v5 σ fun v40 σ =>
 x.call c_mirror_change_onto [v40, a3, (.int .i64 (.ofNat 1)), (.int .i64 (.ofNat 0))] σ fun v41 σ =>
 vLdN 3 v5 σ fun v42 _ =>
 vSame v42 v39 (x.call c_mirror_change_put [v39, a4, v41] σ fun v43 σ =>
 vRet v43 σ K))))))))))))))))))))
theorem f_mirror_Load (x : VE) (a0 a1 a2 a3 a4 : V) (σ : Hp) (K : KV) : fnV PP tbS c_mirror_Load x [a0, a1, a2, a3, a4] σ K = r_mirror_Load x a0 a1 a2 a3 a4 σ K := by kernel_rfl

/-! consistory/mirror.of -/
noncomputable def r_mirror_of (x : VE) (a0 a1 a2 : V) (σ : Hp) (K : KV) : Prop :=
 vBox 25 a0 σ fun v0 σ =>
 vAlloc [(.int .u64 (.ofNat 0)), (.int .u64 (.ofNat 0)), (.slice none 0 0)] 86 σ fun v1 σ =>
 vFld 1 v0 fun v2 =>
 vLd v2 σ fun v3 σ =>
 x.call c_mod_Inv [a1, v3] σ fun v4 σ =>
 vExt 0 v4 fun v5 =>
 vExt 1 v4 fun v6 =>
 vFld 1 v0 fun v7 =>
 vLd v7 σ fun v8 σ =>
 vBuild [(.int .u64 (.ofNat 0)), (.int .u64 (.ofNat 0)), (.slice none 0 0)] [(0, 1, v8), (1, 1, v5), (2, 1, a2)] fun v9 =>
 vLdN 12 v0 σ fun v10 σ =>
 x.call c_group_May [v10] σ fun v11 σ =>
 vLd v7 σ fun v12 _ =>
 vSame v12 v8 (shutP x.most (vGuard true v11 (fun k => k v6 σ) σ fun v13 σ =>
 shutP x.most (vGuard true v11 (fun k => vBin PP .eql 61 v13 (.int .i64 (.ofNat 0)) fun v14 =>
 k v14 σ) σ fun v15 σ =>
 shutP x.most (vPick v11 v15 (.bool false) fun v16 =>
 shutP x.most (vGuard true v16 (fun k => k a2 σ) σ fun v17 σ =>
 shutP x.most (vGuard true v16 (fun k => vLenS v17 fun v18 =>
 k v18 σ) σ fun v19 σ =>
 shutP x.most (vGuard true v16 (fun k => vFld 7 v0 fun v20 =>
 k v20 σ) σ fun v21 σ =>
 shutP x.most (vGuard true v16 (fun k => vLd v21 σ fun v22 σ =>
 k v22 σ) σ fun v23 σ =>
 shutP x.most (vGuard true v16 (fun k => vFld 8 v0 fun v24 =>
 k v24 σ) σ fun v25 σ =>
 shutP x.most (vGuard true v16 (fun k => vLd v25 σ fun v26 σ =>
 k v26 σ) σ fun v27 σ =>
 shutP x.most (vGuard true v16 (fun k => vBin PP .add 3 v27 (.int .i64 (.ofNat 1)) fun v28 =>
 k v28 σ) σ fun v29 σ =>
 shutP x.most (vGuard true v16 (fun k => vBin PP .mul 3 v23 v29 fun v30 =>
 k v30 σ) σ fun v31 σ =>
 shutP x.most (vGuard true v16 (fun k => vBin PP .eql 3 v19 v31 fun v32 =>
 k v32 σ) σ fun v33 σ =>
 shutP x.most (vPick v16 v33 (.bool false) fun v34 =>
 vSt 3 v1 v9 σ fun σ =>
 shutP x.most (vGuardC true v16 v27 (fun k => vLd v25 σ fun v35 _ =>
 vSame v35 v27 k) (shutP x.most (vGuardC true v16 v23 (fun k => vLd v21 σ fun v36 _ =>
 vSame v36 v23 k) (vLdN 3 v1 σ fun v37 _ =>
 vRet (.tuple [v37, v34]) σ K))))))))))))))))))
theorem f_mirror_of (x : VE) (a0 a1 a2 : V) (σ : Hp) (K : KV) : fnV PP tbS c_mirror_of x [a0, a1, a2] σ K = r_mirror_of x a0 a1 a2 σ K := by kernel_rfl

/-! (consistory/mirror.change).put -/
noncomputable def r_mirror_change_put (x : VE) (a0 a1 a2 : V) (σ : Hp) (K : KV) : Prop :=
 vBox 86 a0 σ fun v0 σ =>
 x.call c_slices_Clone_list_uint64_uint64 [a1] σ fun v1 σ =>
 vAlloc [(.slice none 0 0)] 32 σ fun v2 σ =>
 vSt 1 v2 v1 σ fun σ =>
 vAlloc [(.int .i64 (.ofNat 0))] 3 σ fun v3 σ =>
 vSt 1 v3 (.int .i64 (.ofNat 0)) σ fun σ =>
 vRange x a2 [3, 7, 8] [v0, v2, v3] 28 (rgPs PP c_mirror_change_put [.r, .r, .r, .l, .r, .d]) (rgAs PP c_mirror_change_put [.r, .r, .r, .l, .r, .d]) (rgBo PP c_mirror_change_put [.r, .r, .r, .l, .r, .d]) σ fun pe σ =>
 vPend pe (vLd v2 σ fun v5 σ =>
 vRet v5 σ K) (vRet .nil σ K) (fun v4 => vExit v4 0 (vLd v2 σ fun v6 σ =>
 vRet v6 σ K) (False))
theorem f_mirror_change_put (x : VE) (a0 a1 a2 : V) (σ : Hp) (K : KV) : fnV PP tbS c_mirror_change_put x [a0, a1, a2] σ K = r_mirror_change_put x a0 a1 a2 σ K := by kernel_rfl
noncomputable def rd_mirror_change_put_rrrlrd (x : VE) (l : Nat) (t3 t7 t8 a0 : V) (σ : Hp) (K : KV) : Prop :=
 vBusy l σ fun σ =>
 vLd t7 σ fun v0 σ =>
 vLd t8 σ fun v1 σ =>
 vLd t7 σ fun v2 σ =>
 vLd t8 σ fun v3 σ =>
 vIdx 1 v2 v3 fun v4 =>
 vLd v4 σ fun v5 σ =>
 vFld 0 t3 fun v6 =>
 vLd v6 σ fun v7 σ =>
 x.call c_mod_Add [v5, a0, v7] σ fun v8 σ =>
 vLd t8 σ fun v9 _ =>
 vSame v9 v3 (vLd t7 σ fun v10 _ =>
 vSame v10 v2 (vLd t8 σ fun v11 _ =>
 vSame v11 v1 (vLd t7 σ fun v12 _ =>
 vSame v12 v0 (vIdx 1 v0 v1 fun v13 =>
 vSt 1 v13 v8 σ fun σ =>
 vLd t8 σ fun v14 σ =>
 vBin PP .add 3 v14 (.int .i64 (.ofNat 1)) fun v15 =>
 vSt 1 t8 v15 σ fun σ =>
 vOver l .ready none true σ K))))
theorem g_mirror_change_put_rrrlrd (x : VE) (l : Nat) (t3 t7 t8 a0 : V) (σ : Hp) (K : KV) : roundC PP tbS x 28 (rgPs PP c_mirror_change_put [.r, .r, .r, .l, .r, .d]) (rgAs PP c_mirror_change_put [.r, .r, .r, .l, .r, .d]) (rgBo PP c_mirror_change_put [.r, .r, .r, .l, .r, .d]) l [t3, t7, t8] [a0] σ K = rd_mirror_change_put_rrrlrd x l t3 t7 t8 a0 σ K := by kernel_rfl
theorem h_mirror_change_put_rrrlrd : [3, 7, 8] = rlive tbS 28 (rgBo PP c_mirror_change_put [.r, .r, .r, .l, .r, .d]) := by kernel_rfl

/-! (consistory/mirror.change).onto -/
noncomputable def r_mirror_change_onto (x : VE) (a0 a1 a2 a3 : V) (σ : Hp) (K : KV) : Prop :=
 vBox 86 a0 σ fun v0 σ =>
 vBox 32 a1 σ fun v1 σ =>
 vBox 3 a2 σ fun v2 σ =>
 vBox 3 a3 σ fun v3 σ =>
 vRet (.func c_mirror_change_onto_1 [] [v0, v1, v2, v3]) σ K
theorem f_mirror_change_onto (x : VE) (a0 a1 a2 a3 : V) (σ : Hp) (K : KV) : fnV PP tbS c_mirror_change_onto x [a0, a1, a2, a3] σ K = r_mirror_change_onto x a0 a1 a2 a3 σ K := by kernel_rfl

/-! (consistory/mirror.change).onto$1 -/
noncomputable def l_mirror_change_onto_1_rd (x : VE) (m : Nat) (t0 t1 t2 t3 t4 t13 t14 t15 : V) (σ : Hp) (K : KV) : Prop := vjmpL PP tbS c_mirror_change_onto_1 x [.r, .d] m [] [t0, t1, t2, t3, t4, t13, t14, t15] σ K
noncomputable def l_mirror_change_onto_1_rddrrldrlrd (x : VE) (m : Nat) (m0 : Nat) (t0 t1 t2 t3 t4 t7 t13 t14 t15 t21 t22 t23 : V) (σ : Hp) (K : KV) : Prop := vjmpL PP tbS c_mirror_change_onto_1 x [.r, .d, .d, .r, .r, .l, .d, .r, .l, .r, .d] m [m0] [t0, t1, t2, t3, t4, t7, t13, t14, t15, t21, t22, t23] σ K
noncomputable def l_mirror_change_onto_1_rddrrldrrrd (x : VE) (m : Nat) (m0 : Nat) (t0 t1 t2 t3 t4 t7 t13 t14 t15 t38 t39 t40 : V) (σ : Hp) (K : KV) : Prop := vjmpL PP tbS c_mirror_change_onto_1 x [.r, .d, .d, .r, .r, .l, .d, .r, .r, .r, .d] m [m0] [t0, t1, t2, t3, t4, t7, t13, t14, t15, t38, t39, t40] σ K
noncomputable def r_mirror_change_onto_1 (x : VE) (a0 a1 a2 a3 a4 : V) (σ : Hp) (K : KV) : Prop :=
 vFld 2 a1 fun v0 =>
 vLd v0 σ fun v1 σ =>
 vLenS v1 fun v2 =>
 l_mirror_change_onto_1_rd x x.most a0 a1 a2 a3 a4 v1 v2 (.int .i64 (.ofNat 0)) σ K
theorem f_mirror_change_onto_1 (x : VE) (a0 a1 a2 a3 a4 : V) (σ : Hp) (K : KV) : fnV PP tbS c_mirror_change_onto_1 x [a0, a1, a2, a3, a4] σ K = r_mirror_change_onto_1 x a0 a1 a2 a3 a4 σ K := by kernel_rfl
noncomputable def l_mirror_change_onto_1_rdB (x : VE) (m0 : Nat) (t0 t1 t2 t3 t4 t13 t14 t15 : V) (σ : Hp) (K : KV) : Prop :=
 vDrop σ fun σ =>
 vBin PP .lss 3 t15 t14 fun v0 =>
 vIf v0 (vIdx 1 t13 t15 fun v1 =>
 vLd v1 σ fun v2 σ =>
 vLd t2 σ fun v3 σ =>
 vLd t3 σ fun v4 σ =>
 vSlS 22 1 v3 (some v4) none none σ fun v5 =>
 vLenS v5 fun v6 =>
 l_mirror_change_onto_1_rddrrldrlrd x x.most m0 t0 t1 t2 t3 t4 v2 t13 t14 t15 v5 v6 (.int .i64 (.ofNat 0)) σ K) (vRet (.tuple []) σ K)
theorem l_mirror_change_onto_1_rdE (x : VE) (m0 : Nat) (t0 t1 t2 t3 t4 t13 t14 t15 : V) (σ : Hp) (K : KV) : l_mirror_change_onto_1_rd x (m0 + 1) t0 t1 t2 t3 t4 t13 t14 t15 σ K = l_mirror_change_onto_1_rdB x m0 t0 t1 t2 t3 t4 t13 t14 t15 σ K := by kernel_rfl
noncomputable def l_mirror_change_onto_1_rddrrldrlrdB (x : VE) (m1 : Nat) (m0 : Nat) (t0 t1 t2 t3 t4 t7 t13 t14 t15 t21 t22 t23 : V) (σ : Hp) (K : KV) : Prop :=
 vDrop σ fun σ =>
 vBin PP .lss 3 t23 t22 fun v0 =>
 vIf v0 (vIdx 1 t21 t23 fun v1 =>
 vLd v1 σ fun v2 σ =>
 vFld 0 t1 fun v3 =>
 vLd v3 σ fun v4 σ =>
 x.call c_mod_Mul [t7, v2, v4] σ fun v5 σ =>
 vCallV x t0 [v5] σ fun v6 σ =>
 vUn .not v6 fun v7 =>
 vIf v7 (vRet (.tuple []) σ K) (vBin PP .add 3 t23 (.int .i64 (.ofNat 1)) fun v8 =>
 l_mirror_change_onto_1_rddrrldrlrd x m1 m0 t0 t1 t2 t3 t4 t7 t13 t14 t15 t21 t22 v8 σ K)) (vLd t2 σ fun v9 σ =>
 vLd t4 σ fun v10 σ =>
 vSlS 22 1 v9 (some v10) none none σ fun v11 =>
 vLenS v11 fun v12 =>
 l_mirror_change_onto_1_rddrrldrrrd x x.most m0 t0 t1 t2 t3 t4 t7 t13 t14 t15 v11 v12 (.int .i64 (.ofNat 0)) σ K)
theorem l_mirror_change_onto_1_rddrrldrlrdE (x : VE) (m1 : Nat) (m0 : Nat) (t0 t1 t2 t3 t4 t7 t13 t14 t15 t21 t22 t23 : V) (σ : Hp) (K : KV) : l_mirror_change_onto_1_rddrrldrlrd x (m1 + 1) m0 t0 t1 t2 t3 t4 t7 t13 t14 t15 t21 t22 t23 σ K = l_mirror_change_onto_1_rddrrldrlrdB x m1 m0 t0 t1 t2 t3 t4 t7 t13 t14 t15 t21 t22 t23 σ K := by kernel_rfl
noncomputable def l_mirror_change_onto_1_rddrrldrrrdB (x : VE) (m1 : Nat) (m0 : Nat) (t0 t1 t2 t3 t4 t7 t13 t14 t15 t38 t39 t40 : V) (σ : Hp) (K : KV) : Prop :=
 vDrop σ fun σ =>
 vBin PP .lss 3 t40 t39 fun v0 =>
 vIf v0 (vIdx 1 t38 t40 fun v1 =>
 vLd v1 σ fun v2 σ =>
 vFld 0 t1 fun v3 =>
 vLd v3 σ fun v4 σ =>
 vFld 1 t1 fun v5 =>
 vLd v5 σ fun v6 σ =>
 vFld 0 t1 fun v7 =>
 vLd v7 σ fun v8 σ =>
 vFld 0 t1 fun v9 =>
 vLd v9 σ fun v10 σ =>
 x.call c_mod_Mul [t7, v2, v4] σ fun v11 σ =>
 vLd v9 σ fun v12 _ =>
 vSame v12 v10 (vLd v7 σ fun v13 _ =>
 vSame v13 v8 (vLd v5 σ fun v14 _ =>
 vSame v14 v6 (x.call c_mod_Mul [v11, v6, v8] σ fun v15 σ =>
 vLd v9 σ fun v16 _ =>
 vSame v16 v10 (x.call c_mod_Sub [(.int .u64 (.ofNat 0)), v15, v10] σ fun v17 σ =>
 vCallV x t0 [v17] σ fun v18 σ =>
 vUn .not v18 fun v19 =>
 vIf v19 (vRet (.tuple []) σ K) (vBin PP .add 3 t40 (.int .i64 (.ofNat 1)) fun v20 =>
 l_mirror_change_onto_1_rddrrldrrrd x m1 m0 t0 t1 t2 t3 t4 t7 t13 t14 t15 t38 t39 v20 σ K)))))) (vBin PP .add 3 t15 (.int .i64 (.ofNat 1)) fun v21 =>
 l_mirror_change_onto_1_rd x m0 t0 t1 t2 t3 t4 t13 t14 v21 σ K)
theorem l_mirror_change_onto_1_rddrrldrrrdE (x : VE) (m1 : Nat) (m0 : Nat) (t0 t1 t2 t3 t4 t7 t13 t14 t15 t38 t39 t40 : V) (σ : Hp) (K : KV) : l_mirror_change_onto_1_rddrrldrrrd x (m1 + 1) m0 t0 t1 t2 t3 t4 t7 t13 t14 t15 t38 t39 t40 σ K = l_mirror_change_onto_1_rddrrldrrrdB x m1 m0 t0 t1 t2 t3 t4 t7 t13 t14 t15 t38 t39 t40 σ K := by kernel_rfl

end Go.Am

set_option linter.unusedVariables false
set_option maxRecDepth 100000
namespace Go.Am

/-! slices.Sort[[]int,int] -/
noncomputable def r_slices_Sort_list_int_int (x : VE) (a0 : V) (σ : Hp) (K : KV) : Prop :=
 vLenS a0 fun v0 =>
 vInt .u64 v0 fun v1 =>
 x.call c_math_bits_Len [v1] σ fun v2 σ =>
 x.call c_slices_pdqsortOrdered_int [a0, (.int .i64 (.ofNat 0)), v0, v2] σ fun v3 σ =>
 vRet (.tuple []) σ K
theorem f_slices_Sort_list_int_int (x : VE) (a0 : V) (σ : Hp) (K : KV) : fnV PP tbS c_slices_Sort_list_int_int x [a0] σ K = r_slices_Sort_list_int_int x a0 σ K := by kernel_rfl

/-! slices.pdqsortOrdered[int] -/
noncomputable def l_slices_pdqsortOrdered_int_rrd (x : VE) (m : Nat) (t0 t1 t2 t3 t8 t9 : V) (σ : Hp) (K : KV) : Prop := vjmpL PP tbS c_slices_pdqsortOrdered_int x [.r, .r, .d] m [] [t0, t1, t2, t3, t8, t9] σ K
noncomputable def j_slices_pdqsortOrdered_int_rrdddrrrr (x : VE) (m0 : Nat) (t0 t1 t2 t3 t8 t9 t10 : V) (σ : Hp) (K : KV) : Prop := vjmpJ PP tbS c_slices_pdqsortOrdered_int x [.r, .r, .d, .d, .d, .r, .r, .r, .r] [m0] [t0, t1, t2, t3, t8, t9, t10] σ K
noncomputable def r_slices_pdqsortOrdered_int (x : VE) (a0 a1 a2 a3 : V) (σ : Hp) (K : KV) : Prop :=
 l_slices_pdqsortOrdered_int_rrd x x.most a0 a1 a2 a3 (.bool true) (.bool true) σ K
theorem f_slices_pdqsortOrdered_int (x : VE) (a0 a1 a2 a3 : V) (σ : Hp) (K : KV) : fnV PP tbS c_slices_pdqsortOrdered_int x [a0, a1, a2, a3] σ K = r_slices_pdqsortOrdered_int x a0 a1 a2 a3 σ K := by kernel_rfl
noncomputable def l_slices_pdqsortOrdered_int_rrdB (x : VE) (m0 : Nat) (t0 t1 t2 t3 t8 t9 : V) (σ : Hp) (K : KV) : Prop :=
 vDrop σ fun σ =>
 vBin PP .sub 3 t2 t1 fun v0 =>
 vBin PP .leq 3 v0 (.int .i64 (.ofNat 12)) fun v1 =>
 vIf v1 (x.call c_slices_insertionSortOrdered_int [t0, t1, t2] σ fun v2 σ =>
 vRet (.tuple []) σ K) (vBin PP .eql 3 t3 (.int .i64 (.ofNat 0)) fun v3 =>
 vIf v3 (x.call c_slices_heapSortOrdered_int [t0, t1, t2] σ fun v4 σ =>
 vRet (.tuple []) σ K) (vUn .not t8 fun v5 =>
 vIf v5 (x.call c_slices_breakPatternsOrdered_int [t0, t1, t2] σ fun v6 σ =>
 vBin PP .sub 3 t3 (.int .i64 (.ofNat 1)) fun v7 =>
 j_slices_pdqsortOrdered_int_rrdddrrrr x m0 t0 t1 t2 v7 t8 t9 v0 σ K) (j_slices_pdqsortOrdered_int_rrdddrrrr x m0 t0 t1 t2 t3 t8 t9 v0 σ K)))
theorem l_slices_pdqsortOrdered_int_rrdE (x : VE) (m0 : Nat) (t0 t1 t2 t3 t8 t9 : V) (σ : Hp) (K : KV) : l_slices_pdqsortOrdered_int_rrd x (m0 + 1) t0 t1 t2 t3 t8 t9 σ K = l_slices_pdqsortOrdered_int_rrdB x m0 t0 t1 t2 t3 t8 t9 σ K := by kernel_rfl
/-! slices.insertionSortOrdered[int] -/
noncomputable def l_slices_insertionSortOrdered_int_rd (x : VE) (m : Nat) (t0 t1 t2 t6 : V) (σ : Hp) (K : KV) : Prop := vjmpL PP tbS c_slices_insertionSortOrdered_int x [.r, .d] m [] [t0, t1, t2, t6] σ K
noncomputable def l_slices_insertionSortOrdered_int_rddrldrd (x : VE) (m : Nat) (m0 : Nat) (t0 t1 t2 t6 t7 : V) (σ : Hp) (K : KV) : Prop := vjmpL PP tbS c_slices_insertionSortOrdered_int x [.r, .d, .d, .r, .l, .d, .r, .d] m [m0] [t0, t1, t2, t6, t7] σ K
noncomputable def r_slices_insertionSortOrdered_int (x : VE) (a0 a1 a2 : V) (σ : Hp) (K : KV) : Prop :=
 vBin PP .add 3 a1 (.int .i64 (.ofNat 1)) fun v0 =>
 l_slices_insertionSortOrdered_int_rd x x.most a0 a1 a2 v0 σ K
theorem f_slices_insertionSortOrdered_int (x : VE) (a0 a1 a2 : V) (σ : Hp) (K : KV) : fnV PP tbS c_slices_insertionSortOrdered_int x [a0, a1, a2] σ K = r_slices_insertionSortOrdered_int x a0 a1 a2 σ K := by kernel_rfl
noncomputable def l_slices_insertionSortOrdered_int_rdB (x : VE) (m0 : Nat) (t0 t1 t2 t6 : V) (σ : Hp) (K : KV) : Prop :=
 vDrop σ fun σ =>
 vBin PP .lss 3 t6 t2 fun v0 =>
 vIf v0 (l_slices_insertionSortOrdered_int_rddrldrd x x.most m0 t0 t1 t2 t6 t6 σ K) (vRet (.tuple []) σ K)
theorem l_slices_insertionSortOrdered_int_rdE (x : VE) (m0 : Nat) (t0 t1 t2 t6 : V) (σ : Hp) (K : KV) : l_slices_insertionSortOrdered_int_rd x (m0 + 1) t0 t1 t2 t6 σ K = l_slices_insertionSortOrdered_int_rdB x m0 t0 t1 t2 t6 σ K := by kernel_rfl
noncomputable def l_slices_insertionSortOrdered_int_rddrldrdB (x : VE) (m1 : Nat) (m0 : Nat) (t0 t1 t2 t6 t7 : V) (σ : Hp) (K : KV) : Prop :=
 vDrop σ fun σ =>
 vBin PP .gtr 3 t7 t1 fun v0 =>
 shutP x.most (vGuard true v0 (fun k => k t0 σ) σ fun v1 σ =>
 shutP x.most (vGuard true v0 (fun k => k t7 σ) σ fun v2 σ =>
 shutP x.most (vGuard true v0 (fun k => vIdx 1 v1 v2 fun v3 =>
 k v3 σ) σ fun v4 σ =>
 shutP x.most (vGuard true v0 (fun k => vLd v4 σ fun v5 σ =>
 k v5 σ) σ fun v6 σ =>
 shutP x.most (vGuard true v0 (fun k => k t0 σ) σ fun v7 σ =>
 shutP x.most (vGuard true v0 (fun k => k t7 σ) σ fun v8 σ =>
 shutP x.most (vGuard true v0 (fun k => vBin PP .sub 3 v8 (.int .i64 (.ofNat 1)) fun v9 =>
 k v9 σ) σ fun v10 σ =>
 shutP x.most (vGuard true v0 (fun k => vIdx 1 v7 v10 fun v11 =>
 k v11 σ) σ fun v12 σ =>
 shutP x.most (vGuard true v0 (fun k => vLd v12 σ fun v13 σ =>
 k v13 σ) σ fun v14 σ =>
 shutP x.most (vGuard true v0 (fun k => x.call c_cmp_Less_int [v6, v14] σ fun v15 σ =>
 k v15 σ) σ fun v16 σ =>
 shutP x.most (vPick v0 v16 (.bool false) fun v17 =>
 vIf v17 (vBin PP .sub 3 t7 (.int .i64 (.ofNat 1)) fun v18 =>
 vBin PP .sub 3 t7 (.int .i64 (.ofNat 1)) fun v19 =>
 vIdx 1 t0 v19 fun v20 =>
 vLd v20 σ fun v21 σ =>
 vIdx 1 t0 t7 fun v22 =>
 vLd v22 σ fun v23 σ =>
 vIdx 1 t0 t7 fun v24 =>
 vSt 1 v24 v21 σ fun σ =>
 vIdx 1 t0 v18 fun v25 =>
 vSt 1 v25 v23 σ fun σ =>
 vBin PP .sub 3 t7 (.int .i64 (.ofNat 1)) fun v26 =>
 l_slices_insertionSortOrdered_int_rddrldrd x m1 m0 t0 t1 t2 t6 v26 σ K) (vBin PP .add 3 t6 (.int .i64 (.ofNat 1)) fun v27 =>
 l_slices_insertionSortOrdered_int_rd x m0 t0 t1 t2 v27 σ K))))))))))))
theorem l_slices_insertionSortOrdered_int_rddrldrdE (x : VE) (m1 : Nat) (m0 : Nat) (t0 t1 t2 t6 t7 : V) (σ : Hp) (K : KV) : l_slices_insertionSortOrdered_int_rddrldrd x (m1 + 1) m0 t0 t1 t2 t6 t7 σ K = l_slices_insertionSortOrdered_int_rddrldrdB x m1 m0 t0 t1 t2 t6 t7 σ K := by kernel_rfl

/-! cmp.Less[int] -/
noncomputable def r_cmp_Less_int (x : VE) (a0 a1 : V) (σ : Hp) (K : KV) : Prop :=
 x.call c_cmp_isNaN_int [a0] σ fun v0 σ =>
 shutP x.most (vGuard true v0 (fun k => k a1 σ) σ fun v1 σ =>
 shutP x.most (vGuard true v0 (fun k => x.call c_cmp_isNaN_int [v1] σ fun v2 σ =>
 k v2 σ) σ fun v3 σ =>
 shutP x.most (vGuard true v0 (fun k => vUn .not v3 fun v4 =>
 k v4 σ) σ fun v5 σ =>
 shutP x.most (vPick v0 v5 (.bool false) fun v6 =>
 shutP x.most (vGuard false v6 (fun k => k a0 σ) σ fun v7 σ =>
 shutP x.most (vGuard false v6 (fun k => k a1 σ) σ fun v8 σ =>
 shutP x.most (vGuard false v6 (fun k => vBin PP .lss 3 v7 v8 fun v9 =>
 k v9 σ) σ fun v10 σ =>
 shutP x.most (vPick v6 (.bool true) v10 fun v11 =>
 vRet v11 σ K))))))))
theorem f_cmp_Less_int (x : VE) (a0 a1 : V) (σ : Hp) (K : KV) : fnV PP tbS c_cmp_Less_int x [a0, a1] σ K = r_cmp_Less_int x a0 a1 σ K := by kernel_rfl

/-! cmp.isNaN[int] -/
noncomputable def r_cmp_isNaN_int (x : VE) (a0 : V) (σ : Hp) (K : KV) : Prop :=
 vBin PP .neq 3 a0 a0 fun v0 =>
 vRet v0 σ K
theorem f_cmp_isNaN_int (x : VE) (a0 : V) (σ : Hp) (K : KV) : fnV PP tbS c_cmp_isNaN_int x [a0] σ K = r_cmp_isNaN_int x a0 σ K := by kernel_rfl

/-! math/bits.Len -/
noncomputable def r_math_bits_Len (x : VE) (a0 : V) (σ : Hp) (K : KV) : Prop :=
 vIf (.bool false) (vInt .u32 a0 fun v0 =>
 x.call c_math_bits_Len32 [v0] σ fun v1 σ =>
 vRet v1 σ K) (x.call c_math_bits_Len64 [a0] σ fun v2 σ =>
 vRet v2 σ K)
theorem f_math_bits_Len (x : VE) (a0 : V) (σ : Hp) (K : KV) : fnV PP tbS c_math_bits_Len x [a0] σ K = r_math_bits_Len x a0 σ K := by kernel_rfl

end Go.Am

set_option linter.unusedVariables false
set_option maxRecDepth 100000
namespace Go.Am

/-! math/bits.Len64 -/
noncomputable def j_math_bits_Len64_rr (x : VE) (t0 t2 : V) (σ : Hp) (K : KV) : Prop := vjmpJ PP tbS c_math_bits_Len64 x [.r, .r] [] [t0, t2] σ K
noncomputable def j_math_bits_Len64_rrr (x : VE) (t0 t2 : V) (σ : Hp) (K : KV) : Prop := vjmpJ PP tbS c_math_bits_Len64 x [.r, .r, .r] [] [t0, t2] σ K
noncomputable def j_math_bits_Len64_rrrr (x : VE) (t0 t2 : V) (σ : Hp) (K : KV) : Prop := vjmpJ PP tbS c_math_bits_Len64 x [.r, .r, .r, .r] [] [t0, t2] σ K
noncomputable def r_math_bits_Len64 (x : VE) (a0 : V) (σ : Hp) (K : KV) : Prop :=
 vBin PP .geq 22 a0 (.int .u64 (.ofNat 4294967296)) fun v0 =>
 vIf v0 (vBin PP .shr 22 a0 (.int .u64 (.ofNat 32)) fun v1 =>
 j_math_bits_Len64_rr x v1 (.int .i64 (.ofNat 32)) σ K) (j_math_bits_Len64_rr x a0 (.int .i64 (.ofNat 0)) σ K)
theorem f_math_bits_Len64 (x : VE) (a0 : V) (σ : Hp) (K : KV) : fnV PP tbS c_math_bits_Len64 x [a0] σ K = r_math_bits_Len64 x a0 σ K := by kernel_rfl
noncomputable def j_math_bits_Len64_rrB (x : VE) (t0 t2 : V) (σ : Hp) (K : KV) : Prop :=
 vDrop σ fun σ =>
 vBin PP .geq 22 t0 (.int .u64 (.ofNat 65536)) fun v0 =>
 vIf v0 (vBin PP .shr 22 t0 (.int .u64 (.ofNat 16)) fun v1 =>
 vBin PP .add 3 t2 (.int .i64 (.ofNat 16)) fun v2 =>
 j_math_bits_Len64_rrr x v1 v2 σ K) (j_math_bits_Len64_rrr x t0 t2 σ K)
theorem j_math_bits_Len64_rrE0 (x : VE) (t0 t2 : V) (σ : Hp) (K : KV) : vjmp0 PP tbS c_math_bits_Len64 x [.r, .r] [] [t0, t2] σ K = j_math_bits_Len64_rrB x t0 t2 σ K := by kernel_rfl
theorem j_math_bits_Len64_rrE (x : VE) (hm : x.most ≠ 0) (t0 t2 : V) (σ : Hp) (K : KV) : j_math_bits_Len64_rr x t0 t2 σ K = j_math_bits_Len64_rrB x t0 t2 σ K := (vjmpJ_eq (hm := hm) ..).trans (j_math_bits_Len64_rrE0 x t0 t2 σ K)
noncomputable def j_math_bits_Len64_rrrB (x : VE) (t0 t2 : V) (σ : Hp) (K : KV) : Prop :=
 vDrop σ fun σ =>
 vBin PP .geq 22 t0 (.int .u64 (.ofNat 256)) fun v0 =>
 vIf v0 (vBin PP .shr 22 t0 (.int .u64 (.ofNat 8)) fun v1 =>
 vBin PP .add 3 t2 (.int .i64 (.ofNat 8)) fun v2 =>
 j_math_bits_Len64_rrrr x v1 v2 σ K) (j_math_bits_Len64_rrrr x t0 t2 σ K)
theorem j_math_bits_Len64_rrrE0 (x : VE) (t0 t2 : V) (σ : Hp) (K : KV) : vjmp0 PP tbS c_math_bits_Len64 x [.r, .r, .r] [] [t0, t2] σ K = j_math_bits_Len64_rrrB x t0 t2 σ K := by kernel_rfl
theorem j_math_bits_Len64_rrrE (x : VE) (hm : x.most ≠ 0) (t0 t2 : V) (σ : Hp) (K : KV) : j_math_bits_Len64_rrr x t0 t2 σ K = j_math_bits_Len64_rrrB x t0 t2 σ K := (vjmpJ_eq (hm := hm) ..).trans (j_math_bits_Len64_rrrE0 x t0 t2 σ K)
noncomputable def j_math_bits_Len64_rrrrB (x : VE) (t0 t2 : V) (σ : Hp) (K : KV) : Prop :=
 vDrop σ fun σ =>
 vInt .u8 t0 fun v0 =>
 vStrAt (.str [0, 1, 2, 2, 3, 3, 3, 3, 4, 4, 4, 4, 4, 4, 4, 4, 5, 5, 5, 5, 5, 5, 5, 5, 5, 5, 5, 5, 5, 5, 5, 5, 6, 6, 6, 6, 6, 6, 6, 6, 6, 6, 6, 6, 6, 6, 6, 6, 6, 6, 6, 6, 6, 6, 6, 6, 6, 6, 6, 6, 6, 6, 6, 6, 7, 7, 7, 7, 7, 7, 7, 7, 7, 7, 7, 7, 7, 7, 7, 7, 7, 7, 7, 7, 7, 7, 7, 7, 7, 7, 7, 7, 7, 7, 7, 7, 7, 7, 7, 7, 7, 7, 7, 7, 7, 7, 7, 7, 7, 7, 7, 7, 7, 7, 7, 7, 7, 7, 7, 7, 7, 7, 7, 7, 7, 7, 7, 7, 8, 8, 8, 8, 8, 8, 8, 8, 8, 8, 8, 8, 8, 8, 8, 8, 8, 8, 8, 8, 8, 8, 8, 8, 8, 8, 8, 8, 8, 8, 8, 8, 8, 8, 8, 8, 8, 8, 8, 8, 8, 8, 8, 8, 8, 8, 8, 8, 8, 8, 8, 8, 8, 8, 8, 8, 8, 8, 8, 8, 8, 8, 8, 8, 8, 8, 8, 8, 8, 8, 8, 8, 8, 8, 8, 8, 8, 8, 8, 8, 8, 8, 8, 8, 8, 8, 8, 8, 8, 8, 8, 8, 8, 8, 8, 8, 8, 8, 8, 8, 8, 8, 8, 8, 8, 8, 8, 8, 8, 8, 8, 8, 8, 8, 8, 8, 8, 8, 8, 8, 8, 8, 8, 8, 8, 8, 8, 8]) v0 fun v1 =>
 vInt .i64 v1 fun v2 =>
 vBin PP .add 3 t2 v2 fun v3 =>
 vRet v3 σ K
theorem j_math_bits_Len64_rrrrE0 (x : VE) (t0 t2 : V) (σ : Hp) (K : KV) : vjmp0 PP tbS c_math_bits_Len64 x [.r, .r, .r, .r] [] [t0, t2] σ K = j_math_bits_Len64_rrrrB x t0 t2 σ K := by kernel_rfl
theorem j_math_bits_Len64_rrrrE (x : VE) (hm : x.most ≠ 0) (t0 t2 : V) (σ : Hp) (K : KV) : j_math_bits_Len64_rrrr x t0 t2 σ K = j_math_bits_Len64_rrrrB x t0 t2 σ K := (vjmpJ_eq (hm := hm) ..).trans (j_math_bits_Len64_rrrrE0 x t0 t2 σ K)

end Go.Am

set_option linter.unusedVariables false
set_option maxRecDepth 4000
namespace Go.Am
def ivs (l : List Nat) : List V := l.map ni
theorem ivs_len (l : List Nat) : (ivs l).length = l.length := List.length_map _
theorem ivs_at {l : List Nat} {i n : Nat} (h : l[i]? = some n) : (ivs l)[i]? = some (ni n) := by unfold ivs; rw [List.getElem?_map, h]; rfl
theorem ivs_one (l : List Nat) : (ivs l).all oneV = true := by rw [List.all_eq_true]; intro v hv; obtain ⟨n, _, rfl⟩ := List.mem_map.1 hv; rfl
inductive IN (σ : Hp) : V → List Nat → Prop
 | nil : IN σ .nil []
 | acc {i : Nat} {l : List Nat} (h0 : 0 < l.length) (h : σ i = some (.gro (ivs l) 3 l.length)) : IN σ (.acc i l.length) l
section
variable {σ σ' : Hp} {v : V} {l : List Nat}
theorem IN.len (h : IN σ v l) {K : V → Prop} : vLenS v K = K (ni l.length) := by cases h <;> rfl
theorem IN.at (h : IN σ v l) {i n : Nat} (hi : l[i]? = some n) : ∃ p, (∀ (K : V → Prop), vIdx 1 v (ni i) K = K p) ∧ (∀ σ', Hle σ σ' → ∀ K : KV, vLd p σ' K = K (ni n) σ') := by
 have hlt : i < l.length := (List.getElem?_eq_some_iff.1 hi).1
 cases h with
 | nil => cases hi
 | @acc b _ h0 h =>
  refine ⟨.gptr b l.length (i * 1), fun K => vIdx_acc hlt, fun σ' hle K => ?_⟩
  rw [Nat.mul_one]
  unfold vLd
  simp only [hle _ _ h, vNth_some (ivs_at hi), true_and]
end
inductive IV (σ : Hp) : V → List Nat → Prop
 | nil : IV σ .nil []
 | acc {i : Nat} {l : List Nat} (h0 : 0 < l.length) (h : σ i = some (.gro (ivs l) 3 l.length)) : IV σ (.acc i l.length) l
 | own {i : Nat} {l : List Nat} (h0 : 0 < l.length) (h : σ i = some (.row (ivs l) 3)) : IV σ (.own i 0 l.length l.length) l
section
variable {σ σ' : Hp} {v : V} {l : List Nat}
theorem IV.len (h : IV σ v l) {K : V → Prop} : vLenS v K = K (ni l.length) := by cases h <;> rfl
theorem IV.up (h : IV σ v l) (hle : Hle σ σ') : IV σ' v l := by
 cases h with
 | nil => exact .nil
 | acc h0 h => exact .acc h0 (hle _ _ h)
 | own h0 h => exact .own h0 (hle _ _ h)
theorem IV.at (h : IV σ v l) {i n : Nat} (hi : l[i]? = some n) : ∃ p, (∀ (K : V → Prop), vIdx 1 v (ni i) K = K p) ∧ (∀ σ', Hle σ σ' → ∀ K : KV, vLd p σ' K = K (ni n) σ') := by
 have hlt : i < l.length := (List.getElem?_eq_some_iff.1 hi).1
 cases h with
 | nil => cases hi
 | @acc b _ h0 h => exact (IN.acc h0 h).at hi
 | @own b _ h0 h =>
  refine ⟨.ptr b (0 + i * 1), fun K => by simp [vIdx, hlt], fun σ' hle K => ?_⟩
  rw [Nat.mul_one, Nat.zero_add]
  unfold vLd
  simp only [hle _ _ h, vNth_some (ivs_at hi)]
end
section
variable {M n : Nat} {x : VE} {σ : Hp} {K : KV} {v : V} {l : List Nat}
theorem o_len : gM c_math_bits_Len = none := rfl
theorem o_len64 : gM c_math_bits_Len64 = none := rfl
theorem o_sort : gM c_slices_Sort_list_int_int = none := rfl
theorem o_pdq : gM c_slices_pdqsortOrdered_int = none := rfl
theorem o_ins : gM c_slices_insertionSortOrdered_int = none := rfl
theorem o_less : gM c_cmp_Less_int = none := rfl
theorem o_nan : gM c_cmp_isNaN_int = none := rfl
theorem o_cloneI : gM c_slices_Clone_list_int_int = none := rfl
theorem o_compI : gM c_slices_Compact_list_int_int = none := rfl
theorem o_contI : gM c_slices_ContainsFunc_list_int_int = none := rfl
theorem o_idxI : gM c_slices_IndexFunc_list_int_int = none := rfl
theorem o_line : gM c_mirror_Line = none := rfl
theorem o_line1 : gM c_mirror_Line_1 = none := rfl
theorem slice28 : kindT PP 28 = some .slice := by kernel_rfl
theorem vStrAt_n {l : List UInt8} {i : Nat} {b : UInt8} {j : IntKind} (h : l[i]? = some b) {k : V → Prop} : vStrAt (.str l) (.int j (.ofNat i)) k = k (.int .u8 (.ofNat b.toNat)) := by
 show vNth l i _ = _
 rw [vNth_some h]
theorem vInt_u8 {a : Nat} (h : a ≤ 2) {k : V → Prop} : vInt .u8 (nu a) k = k (.int .u8 (.ofNat a)) := by
 have h3 : a = 0 ∨ a = 1 ∨ a = 2 := by omega
 rcases h3 with rfl | rfl | rfl <;> rfl
theorem vInt_i64 {a : Nat} (h : a ≤ 2) {j : IntKind} {k : V → Prop} : vInt .i64 (.int j (.ofNat a)) k = k (ni a) := by
 have h3 : a = 0 ∨ a = 1 ∨ a = 2 := by omega
 rcases h3 with rfl | rfl | rfl <;> rfl
theorem len64_s (hM : 2 < M) (hx : Deep PP tbS gM M (n + 1) x) {a : Nat} (ha : a ≤ 2) (hK : K (ni a) σ) : x.call c_math_bits_Len64 [nu a] σ K := by
 refine hx.call o_len64 fun y hy => ?_
 have hm : y.most ≠ 0 := by rw [hy.most]; omega
 rw [f_math_bits_Len64]
 unfold r_math_bits_Len64
 rw [vGeqU, decide_eq_false (by omega), vIf_f, j_math_bits_Len64_rrE y hm]
 unfold j_math_bits_Len64_rrB
 refine vDrop_here ?_
 rw [vGeqU, decide_eq_false (by omega), vIf_f, j_math_bits_Len64_rrrE y hm]
 unfold j_math_bits_Len64_rrrB
 refine vDrop_here ?_
 rw [vGeqU, decide_eq_false (by omega), vIf_f, j_math_bits_Len64_rrrrE y hm]
 unfold j_math_bits_Len64_rrrrB
 refine vDrop_here ?_
 rw [vInt_u8 ha]
 have h3 : a = 0 ∨ a = 1 ∨ a = 2 := by omega
 rcases h3 with rfl | rfl | rfl
 · rw [vStrAt_n (b := 0) rfl, show UInt8.toNat 0 = 0 from rfl, vInt_i64 (by decide), vAdd_n (by decide)]
   exact vRet_here hK
 · rw [vStrAt_n (b := 1) rfl, show UInt8.toNat 1 = 1 from rfl, vInt_i64 (by decide), vAdd_n (by decide)]
   exact vRet_here hK
 · rw [vStrAt_n (b := 2) rfl, show UInt8.toNat 2 = 2 from rfl, vInt_i64 (by decide), vAdd_n (by decide)]
   exact vRet_here hK
theorem len_s (hM : 2 < M) (hx : Deep PP tbS gM M (n + 2) x) {a : Nat} (ha : a ≤ 2) (hK : K (ni a) σ) : x.call c_math_bits_Len [nu a] σ K := by
 refine hx.call o_len fun y hy => ?_
 rw [f_math_bits_Len]
 unfold r_math_bits_Len
 rw [vIf_f]
 exact len64_s hM hy ha (vRet_here hK)
theorem nan_s (hx : Deep PP tbS gM M (n + 1) x) {a : Nat} (hK : K (.bool false) σ) : x.call c_cmp_isNaN_int [ni a] σ K := by
 refine hx.call o_nan fun y hy => ?_
 rw [f_cmp_isNaN_int]
 unfold r_cmp_isNaN_int
 rw [vNeq_n, decide_eq_true rfl]
 exact vRet_here hK
theorem less_s (hx : Deep PP tbS gM M (n + 2) x) {a b : Nat} (hK : K (.bool (decide (a < b))) σ) : x.call c_cmp_Less_int [ni a, ni b] σ K := by
 refine hx.call o_less fun y hy => ?_
 rw [f_cmp_Less_int]
 unfold r_cmp_Less_int
 refine nan_s hy ?_
 simp only [shutP_eq, vGuard_tf, vPick_f, vGuard_t]
 rw [vLss_n]
 exact vRet_here hK
theorem gidx {i c k : Nat} (h : k < c) {K : V → Prop} : vIdx 1 (.acc i c) (ni k) K = K (.gptr i c k) := by rw [vIdx_acc h, Nat.mul_one]
theorem gld {i c k : Nat} {vs : List V} {v : V} {t : TypeId} (h : σ i = some (.gro vs t c)) (hv : vs[k]? = some v) {K : KV} : vLd (.gptr i c k) σ K = K v σ := by
 unfold vLd
 simp only [h, vNth_some hv, true_and]
theorem ins_s (hM : 10 < M) (hx : Deep PP tbS gM M (n + 3) x) (h : IN σ v l) (hl : l.length ≤ 2) (hK : ∀ l', (l' = l ∨ l' = l.reverse) → (l = [] → K (.tuple []) σ) ∧ (∀ i, v = .acc i l.length → K (.tuple []) (upd σ i (.gro (ivs l') 3 l.length)))) : x.call c_slices_insertionSortOrdered_int [v, ni 0, ni l.length] σ K := by
 refine hx.call o_ins fun y hy => ?_
 rw [f_slices_insertionSortOrdered_int]
 unfold r_slices_insertionSortOrdered_int
 obtain ⟨m, hm⟩ : ∃ m, M = m + 4 := ⟨M - 4, by omega⟩
 rw [vAdd_n (by decide), hy.most, hm, l_slices_insertionSortOrdered_int_rdE]
 unfold l_slices_insertionSortOrdered_int_rdB
 refine vDrop_here ?_
 rw [vLss_n]
 cases h with
 | nil => rw [show decide (0 + 1 < ([] : List Nat).length) = false from rfl, vIf_f]; exact vRet_here ((hK [] (.inl rfl)).1 rfl)
 | @acc i _ h0 h =>
  match l, hl, h0, h, hK with
  | [a], _, _, h, hK =>
   rw [show decide (0 + 1 < [a].length) = false from rfl, vIf_f]
   have := (hK [a] (.inl rfl)).2 i rfl
   rw [upd_self h] at this
   exact vRet_here this
  | [a, b], _, _, h, hK =>
   show vIf (.bool true) (l_slices_insertionSortOrdered_int_rddrldrd y y.most (m + 3) (.acc i 2) (ni 0) (ni 2) (ni 1) (ni 1) σ K) _
   rw [vIf_t, hy.most, hm, l_slices_insertionSortOrdered_int_rddrldrdE]
   unfold l_slices_insertionSortOrdered_int_rddrldrdB
   refine vDrop_here ?_
   have h : σ i = some (.gro (ivs [a, b]) 3 2) := h
   have g1 : (ivs [a, b])[1]? = some (ni b) := rfl
   have g0 : (ivs [a, b])[0]? = some (ni a) := rfl
   rw [vGtr_n, decide_eq_true (by decide)]
   simp only [shutP_eq, vGuard_t]
   rw [gidx (by decide), gld h g1, vSub_n (by decide) (by decide), gidx (by decide), gld h g0]
   refine less_s hy ?_
   simp only [vPick_t]
   by_cases c : b < a
   · have h1 : upd σ i (.gro [ni a, ni a] 3 2) i = some (.gro [ni a, ni a] 3 2) := upd_same
     rw [decide_eq_true c, vIf_t, vSub_n (by decide) (by decide), vSub_n (by decide) (by decide), gidx (by decide), gld h g0, gidx (by decide), gld h g1, gidx (by decide)]
     refine vSt_g h rfl (Nat.lt_succ_self 1) ?_
     show vIdx 1 (.acc i 2) (ni 0) (fun v25 => vSt 1 v25 (ni b) (upd σ i (.gro [ni a, ni a] 3 2)) _)
     rw [gidx (by decide)]
     refine vSt_g h1 rfl (Nat.zero_lt_succ 1) ?_
     rw [upd_upd]
     show vBin PP .sub 3 (ni 1) (ni 1) (fun v26 => l_slices_insertionSortOrdered_int_rddrldrd y (m + 3) (m + 3) (.acc i 2) (ni 0) (ni 2) (ni 1) v26 (upd σ i (.gro [ni b, ni a] 3 2)) K)
     rw [vSub_n (by decide) (by decide), l_slices_insertionSortOrdered_int_rddrldrdE]
     unfold l_slices_insertionSortOrdered_int_rddrldrdB
     refine vDrop_here ?_
     rw [vGtr_n, decide_eq_false (by decide)]
     simp only [shutP_eq, vGuard_tf, vPick_f]
     rw [vIf_f, vAdd_n (by decide), l_slices_insertionSortOrdered_int_rdE]
     unfold l_slices_insertionSortOrdered_int_rdB
     refine vDrop_here ?_
     rw [vLss_n, decide_eq_false (by decide), vIf_f]
     exact vRet_here ((hK [b, a] (.inr rfl)).2 i rfl)
   · rw [decide_eq_false c, vIf_f, vAdd_n (by decide), l_slices_insertionSortOrdered_int_rdE]
     unfold l_slices_insertionSortOrdered_int_rdB
     refine vDrop_here ?_
     rw [vLss_n, decide_eq_false (by decide), vIf_f]
     have := (hK [a, b] (.inl rfl)).2 i rfl
     rw [show upd σ i (.gro (ivs [a, b]) 3 [a, b].length) = σ from upd_self h] at this
     exact vRet_here this
theorem sort_s (hM : 10 < M) (hx : Deep PP tbS gM M (n + 5) x) (h : IN σ v l) (hl : l.length ≤ 2) (hK : ∀ l', (l' = l ∨ l' = l.reverse) → (l = [] → K (.tuple []) σ) ∧ (∀ i, v = .acc i l.length → K (.tuple []) (upd σ i (.gro (ivs l') 3 l.length)))) : x.call c_slices_Sort_list_int_int [v] σ K := by
 refine hx.call o_sort fun y hy => ?_
 rw [f_slices_Sort_list_int_int]
 unfold r_slices_Sort_list_int_int
 rw [h.len, vInt_u (by omega)]
 refine len_s (n := n + 2) (by omega) hy hl ?_
 refine hy.call o_pdq fun z hz => ?_
 rw [f_slices_pdqsortOrdered_int]
 unfold r_slices_pdqsortOrdered_int
 obtain ⟨m, hm⟩ : ∃ m, M = m + 1 := ⟨M - 1, by omega⟩
 rw [hz.most, hm, l_slices_pdqsortOrdered_int_rrdE]
 unfold l_slices_pdqsortOrdered_int_rrdB
 refine vDrop_here ?_
 rw [vSub_n (Nat.zero_le _) (by omega), vBinI_leq, decide_eq_true (by simp; omega), vIf_t]
 refine ins_s (n := n) hM hz h hl fun l' hl' => ⟨fun e => vRet_here (vRet_here ((hK l' hl').1 e)), fun i e => vRet_here (vRet_here ((hK l' hl').2 i e))⟩
theorem cloneI_s (hx : Deep PP tbS gM M (n + 1) x) (h : IV σ v l) (hl : l.length < 1000) (hK : ∀ w σ', Hle σ σ' → IN σ' w l → (∀ i, w = .acc i l.length → σ i = none) → K w σ') : x.call c_slices_Clone_list_int_int [v] σ K := by
 refine hx.call o_cloneI fun y hy => ?_
 rw [f_slices_Clone_list_int_int]
 unfold r_slices_Clone_list_int_int
 cases h with
 | nil => exact ⟨rfl, slice28, .inl rfl, (fun _ _ e => by cases e), vRet_here (hK _ _ (.refl σ) .nil (fun i e => by cases e))⟩
 | @own i _ h0 h =>
  refine ⟨rfl, slice28, .inr rfl, (fun e => by cases e), ?_⟩
  intro j hj
  have hle : Hle σ (upd σ j (.row [] 3)) := .upd_new hj
  show vApp 3 1 8 (.own j 0 0 0) (.own i 0 l.length l.length) (upd σ j (.row [] 3)) _
  refine vSrc_own (m := l.length) (hle _ _ h) (by rw [ivs_len]; omega) ?_
  cases hl0 : l.length with
  | zero => omega
  | succ q =>
   refine ⟨ivs_one l, ?_⟩
   simp only [upd_same]
   refine ⟨by omega, by simp, fun c => absurd c (by omega), fun _ i hi => ?_⟩
   have e2 : (List.take (0 * 1) (List.drop 0 ([] : List V))) ++ ivs l = ivs l := by simp
   rw [e2, show 0 + (q + 1) = l.length by omega]
   exact vRet_here (hK _ _ (hle.trans (.upd_new hi)) (.acc h0 upd_same) (fun k e => by injection e with e; subst e; exact hle.none hi))
 | @acc i _ h0 h =>
  refine ⟨rfl, slice28, .inr rfl, (fun e => by cases e), ?_⟩
  intro j hj
  have hle : Hle σ (upd σ j (.row [] 3)) := .upd_new hj
  show vApp 3 1 8 (.own j 0 0 0) (.acc i l.length) (upd σ j (.row [] 3)) _
  unfold vApp vSrc
  simp only [hle _ _ h]
  refine ⟨trivial, by rw [ivs_len]; omega, ?_⟩
  cases hl0 : l.length with
  | zero => omega
  | succ q =>
   refine ⟨ivs_one l, ?_⟩
   simp only [upd_same]
   refine ⟨by omega, by simp, fun c => absurd c (by omega), fun _ i hi => ?_⟩
   have e2 : (List.take (0 * 1) (List.drop 0 ([] : List V))) ++ ivs l = ivs l := by simp
   rw [e2, show 0 + (q + 1) = l.length by omega]
   exact vRet_here (hK _ _ (hle.trans (.upd_new hi)) (.acc h0 upd_same) (fun k e => by injection e with e; subst e; exact hle.none hi))
theorem comp_s (hM : 10 < M) (hx : Deep PP tbS gM M (n + 1) x) (h : IN σ v l) (hl : l.length ≤ 2) (hd : ∀ a b, l = [a, b] → a ≠ b) (hK : K v σ) : x.call c_slices_Compact_list_int_int [v] σ K := by
 refine hx.call o_compI fun y hy => ?_
 rw [f_slices_Compact_list_int_int]
 unfold r_slices_Compact_list_int_int
 rw [h.len, vLss_n]
 cases h with
 | nil => exact vRet_here hK
 | @acc i _ h0 h =>
  match l, hl, h0, h, hd, hK with
  | [a], _, _, h, _, hK => exact vRet_here hK
  | [a, b], _, _, h, hd, hK =>
   obtain ⟨m, hm⟩ : ∃ m, M = m + 4 := ⟨M - 4, by omega⟩
   show vIf (.bool false) _ (l_slices_Compact_list_int_int_rrlrd y y.most (.acc i 2) (ni 1) σ K)
   rw [vIf_f, hy.most, hm, l_slices_Compact_list_int_int_rrlrdE]
   unfold l_slices_Compact_list_int_int_rrlrdB
   refine vDrop_here ?_
   have h : σ i = some (.gro (ivs [a, b]) 3 2) := h
   have g1 : (ivs [a, b])[1]? = some (ni b) := rfl
   have g0 : (ivs [a, b])[0]? = some (ni a) := rfl
   show vBin PP .lss 3 (ni 1) (ni 2) _
   rw [vLss_n, decide_eq_true (by decide), vIf_t, gidx (by decide), gld h g1, vSub_n (by decide) (by decide), gidx (by decide), gld h g0, vEql_n, decide_eq_false (Ne.symm (hd a b rfl)), vIf_f, vAdd_n (by decide), l_slices_Compact_list_int_int_rrlrdE]
   unfold l_slices_Compact_list_int_int_rrlrdB
   refine vDrop_here ?_
   show vBin PP .lss 3 (ni 2) (ni 2) _
   rw [vLss_n, decide_eq_false (by decide), vIf_f]
   exact vRet_here hK
theorem idx_go (hx : Deep PP tbS gM M (n + 1) x) (h : IV σ v l) {p : Nat} {two : Bool} (hp : σ p = some (.row (pv two) 25)) (hr : ∀ c ∈ l, 1 ≤ c ∧ c ≤ tN two) (hl : l.length < 1000) (hK : K (.int .i64 (.negSucc 0)) σ) : ∀ (r i m : Nat), i + r = l.length → r < m → l_slices_IndexFunc_list_int_int_rlrd x m v (.func c_mirror_Line_1 [] [.ptr p 0]) (ni l.length) (ni i) σ K := by
 intro r
 induction r with
 | zero =>
  intro i m hi hm
  obtain ⟨m, rfl⟩ := Nat.exists_eq_succ_of_ne_zero (show m ≠ 0 by omega)
  rw [l_slices_IndexFunc_list_int_int_rlrdE]
  unfold l_slices_IndexFunc_list_int_int_rlrdB
  refine vDrop_here ?_
  rw [vLss_n, dnlt (by omega), vIf_f]
  exact vRet_here hK
 | succ r ih =>
  intro i m hi hm
  obtain ⟨m, rfl⟩ := Nat.exists_eq_succ_of_ne_zero (show m ≠ 0 by omega)
  rw [l_slices_IndexFunc_list_int_int_rlrdE]
  unfold l_slices_IndexFunc_list_int_int_rlrdB
  refine vDrop_here ?_
  have hlt : i < l.length := by omega
  obtain ⟨q, hq, hld⟩ := h.at (i := i) (List.getElem?_eq_getElem hlt)
  obtain ⟨r1, r2⟩ := hr _ (List.getElem_mem hlt)
  rw [vLss_n, dlt hlt, vIf_t, hq, hld σ (.refl σ)]
  show x.call c_mirror_Line_1 [ni l[i], .ptr p 0] σ _
  refine hx.call o_line1 fun y hy => ?_
  rw [f_mirror_Line_1]
  unfold r_mirror_Line_1
  have e5 : (pv two)[5]? = some (ni (tN two)) := rfl
  rw [vLss_n, decide_eq_false (by omega)]
  simp only [shutP_eq, vGuard_t, vPick_f]
  rw [vFld_z, ldp hp e5, vGtr_n, decide_eq_false (by omega)]
  refine vRet_here ?_
  rw [vIf_f, vAdd_n (by omega)]
  exact ih (i + 1) m (by omega) (by omega)
theorem cont_s (hM : 10000 < M) (hx : Deep PP tbS gM M (n + 3) x) (h : IV σ v l) {p : Nat} {two : Bool} (hp : σ p = some (.row (pv two) 25)) (hr : ∀ c ∈ l, 1 ≤ c ∧ c ≤ tN two) (hl : l.length < 1000) (hK : K (.bool false) σ) : x.call c_slices_ContainsFunc_list_int_int [v, .func c_mirror_Line_1 [] [.ptr p 0]] σ K := by
 refine hx.call o_contI fun y hy => ?_
 rw [f_slices_ContainsFunc_list_int_int]
 unfold r_slices_ContainsFunc_list_int_int
 refine hy.call o_idxI fun z hz => ?_
 rw [f_slices_IndexFunc_list_int_int]
 unfold r_slices_IndexFunc_list_int_int
 rw [h.len, hz.most]
 refine idx_go hz h hp hr hl ?_ l.length 0 M (by omega) (by omega)
 rw [vBinI_geq]
 exact vRet_here hK
end
end Go.Am

set_option linter.unusedVariables false
set_option maxRecDepth 4000
namespace Go.Am
open Go.Proofs.Mdl
def invN (c : Nat) : Nat := (invF (c % 23 + 1) 23 (c % 23) 0 (1 % 23) 23).2
theorem invN_ok {c : Nat} (h1 : 1 ≤ c) (h2 : c ≤ 22) : (invF (c % 23 + 1) 23 (c % 23) 0 (1 % 23) 23).1 = 1 := by
 have : ∀ c : Fin 23, 1 ≤ c.val → (invF (c.val % 23 + 1) 23 (c.val % 23) 0 (1 % 23) 23).1 = 1 := by decide
 exact this ⟨c, by omega⟩ h1
theorem invN_lt {c : Nat} (h1 : 1 ≤ c) (h2 : c ≤ 22) : invN c < 23 := by
 have : ∀ c : Fin 23, 1 ≤ c.val → invN c.val < 23 := by decide
 exact this ⟨c, by omega⟩ h1
theorem vExt_at {i : Nat} {vs : List V} {v : V} (h : vs[i]? = some v) {k : V → Prop} : vExt i (.tuple vs) k = k v := vNth_some h
def lineS (l : List Nat) (c : Nat) : List Nat := times 23 l [1, subN 0 (invN c) 23]
def lineP (l : List Nat) : List Nat := l.foldl lineS [1]
def padL (T : Nat) (l : List Nat) : List Nat := l ++ List.replicate (T + 1 - l.length) 0
def lineL (two : Bool) (l : List Nat) : List Nat := padL (tT two) (lineP l)
theorem times_len {q : Nat} {a b : List Nat} : (times q a b).length = a.length + b.length - 1 := by unfold times; rw [tRows_len]; simp
theorem lineS_len (l : List Nat) (c : Nat) : (lineS l c).length = l.length + 1 := by unfold lineS; rw [times_len]; rfl
theorem times_64 {a b : List Nat} : L64 (times 23 a b) := tRows_64 q23 _ _ _ (fun c hc => by rw [(List.mem_replicate.1 hc).2]; show 0 < 18446744073709551616; decide)
theorem foldS_len (l m : List Nat) : (l.foldl lineS m).length = m.length + l.length := by
 induction l generalizing m with
 | nil => rfl
 | cons a l ih => show (l.foldl lineS (lineS m a)).length = _; rw [ih, lineS_len, List.length_cons]; omega
section
variable {M n : Nat} {x : VE} {σ : Hp} {K : KV} {v : V} {l : List Nat} {two : Bool}
theorem sort_s' (hM : 10 < M) (hx : Deep PP tbS gM M (n + 5) x) (h : IN σ v l) (hl : l.length ≤ 2) (hK : ∀ σ' l', (l' = l ∨ l' = l.reverse) → (∀ j o, σ j = some o → (∀ m, v ≠ .acc j m) → σ' j = some o) → IN σ' v l' → K (.tuple []) σ') : x.call c_slices_Sort_list_int_int [v] σ K := by
 refine sort_s hM hx h hl fun l' hl' => ⟨fun e => hK σ l (.inl rfl) (fun j o e _ => e) h, fun i e => ?_⟩
 have h0 : 0 < l.length := by
  cases h with
  | nil => cases e
  | acc h0 h => exact h0
 have el : l'.length = l.length := by rcases hl' with rfl | rfl; rfl; exact List.length_reverse
 subst e
 refine hK _ l' hl' (fun j o e hne => by rw [upd_other (fun c => by subst c; exact hne _ rfl)]; exact e) ?_
 rw [← el]
 exact .acc (by omega) upd_same
theorem line_go (hM : 1000000 < M) (hx : Deep PP tbS gM M (n + 3) x) {σ0 : Hp} {bp o C : Nat} (h : IV σ0 v l) (hp : σ0 bp = some (.row (pv two) 25)) (hr : ∀ c ∈ l, 1 ≤ c ∧ c ≤ 22) (hl : l.length < 1000)
 (hK : ∀ σ' i, Hle σ0 σ' → σ' i = some (.row (nvs (lineP l)) 22) → (vCopy 1 (.own o 0 C C) (.own i 0 (lineP l).length (lineP l).length) σ' fun v20 σ => vRet (.own o 0 C C) σ K)) :
 ∀ (r i m : Nat) (σ : Hp) (j : Nat) (cur : List Nat), i + r = l.length → r < m → Hle σ0 σ → σ j = some (.row (nvs cur) 22) → L64 cur → cur.length = i + 1 → (l.drop i).foldl lineS cur = lineP l →
  l_mirror_Line_rrrrrrlrd x m (.ptr bp 0) (.own o 0 C C) (.own j 0 cur.length cur.length) v (ni l.length) (ni i) σ K := by
 intro r
 induction r with
 | zero =>
  intro i m σ j cur hi hm hle hj h64 hc he
  obtain ⟨m, rfl⟩ := Nat.exists_eq_succ_of_ne_zero (show m ≠ 0 by omega)
  rw [l_mirror_Line_rrrrrrlrdE]
  unfold l_mirror_Line_rrrrrrlrdB
  refine vDrop_here ?_
  rw [vLss_n, dnlt (by omega), vIf_f]
  rw [List.drop_eq_nil_of_le (by omega)] at he
  have e : cur = lineP l := he
  subst e
  exact hK σ j hle hj
 | succ r ih =>
  intro i m σ j cur hi hm hle hj h64 hc he
  obtain ⟨m, rfl⟩ := Nat.exists_eq_succ_of_ne_zero (show m ≠ 0 by omega)
  rw [l_mirror_Line_rrrrrrlrdE]
  unfold l_mirror_Line_rrrrrrlrdB
  refine vDrop_here ?_
  have hlt : i < l.length := by omega
  obtain ⟨p, hp1, hld⟩ := h.at (i := i) (List.getElem?_eq_getElem hlt)
  obtain ⟨r1, r2⟩ := hr _ (List.getElem_mem hlt)
  have e1 : (pv two)[1]? = some (nu 23) := rfl
  have hb := hle _ _ hp
  rw [vLss_n, dlt hlt, vIf_t, hp1, hld σ hle, vInt_u (by omega), vFld_z, ldp hb e1]
  refine inv_c hx (show l[i] < 18446744073709551616 by omega) q23 (invN_ok r1 r2) ?_
  rw [vExt_at (v := nu (invN l[i])) rfl, vExt_at (v := ni 0) rfl]
  rw [vFld_z, ldp hb e1, vFld_z, ldp hb e1]
  have hv := invN_lt r1 r2
  refine sub_c hx (show 0 < 18446744073709551616 by decide) (show invN l[i] < 18446744073709551616 by omega) q23 ?_
  rw [ldp hb e1, vSame_i, ldp hb e1, vSame_i]
  refine ⟨build2 fun _ _ => trivial, build2 fun j2 hj2 => ?_⟩
  have le2 : Hle σ (upd σ j2 (.row (nvs [1, subN 0 (invN l[i]) 23]) 22)) := .upd_new hj2
  have h2 : upd σ j2 (.row (nvs [1, subN 0 (invN l[i]) 23]) 22) j2 = some (.row (nvs [1, subN 0 (invN l[i]) 23]) 22) := upd_same
  have sub64 : subN 0 (invN l[i]) 23 < 23 := Nat.mod_lt _ (by decide)
  refine times_s (n := n + 1) (a := cur) (b := [1, subN 0 (invN l[i]) 23]) hM hx (.own (o := 0) (c := cur.length) (le2 _ _ hj) (fun k n hk => by rw [Nat.zero_add]; exact nvs_at hk) (by rw [nvs_len]; omega)) h64 (by omega) (by omega) (.own (o := 0) (c := 2) (l := [1, subN 0 (invN l[i]) 23]) h2 (fun k n hk => by rw [Nat.zero_add]; exact nvs_at hk) (by rw [nvs_len]; simp)) ?_ (by simp) (by simp) q23 fun o2 ho2 => ?_
  · intro c hc
    rcases List.mem_cons.1 hc with rfl | hc
    · show 1 < 18446744073709551616; decide
    · rcases List.mem_cons.1 hc with rfl | hc
      · show _ < 18446744073709551616; omega
      · cases hc
  · have el : cur.length + [1, subN 0 (invN l[i]) 23].length - 1 = (lineS cur l[i]).length := by unfold lineS; rw [times_len]
    rw [el, vAdd_n (by omega)]
    have ed : l.drop i = l[i] :: l.drop (i + 1) := List.drop_eq_getElem_cons hlt
    rw [ed] at he
    exact ih (i + 1) m _ o2 (lineS cur l[i]) (by omega) (by omega) ((hle.trans le2).trans (.upd_new ho2)) upd_same times_64 (by rw [lineS_len]; omega) he
theorem line_s (hM : 1000000 < M) (hx : Deep PP tbS gM M (n + 6) x) (h : IV σ v l) (hl : l.length ≤ tT two) (hr : ∀ c ∈ l, 1 ≤ c ∧ c ≤ tN two) (hd : ∀ a b, l = [a, b] → a ≠ b)
 (hK : ∀ o σ', σ o = none → Hle σ σ' → σ' o = some (.row (nvs (lineL two l)) 22) → K (.own o 0 (tT two + 1) (tT two + 1)) σ') : x.call c_mirror_Line [.agg (pv two), v] σ K := by
 have hT : tT two ≤ 2 := by cases two <;> decide
 have hN : tN two ≤ 7 := by cases two <;> decide
 refine hx.call o_line fun y hy => ?_
 rw [f_mirror_Line]
 unfold r_mirror_Line
 refine vBox_agg pv_one fun bp hbp => ?_
 have le1 : Hle σ (upd σ bp (.row (pv two) 25)) := .upd_new hbp
 have rp : upd σ bp (.row (pv two) 25) bp = some (.row (pv two) 25) := upd_same
 generalize upd σ bp (.row (pv two) 25) = σ1 at le1 rp
 have h1 := h.up le1
 refine cloneI_s (n := n + 4) hy h1 (by omega) fun w σ2 le2 hw hnew => ?_
 refine sort_s' (n := n) (by omega) hy hw (by omega) fun σ3 l' hl' k3 hw3 => ?_
 have el : l'.length = l.length := by rcases hl' with rfl | rfl; rfl; exact List.length_reverse
 have le3 : Hle σ1 σ3 := fun j o e => k3 j o (le2 j o e) fun m c => by
  cases hw with
  | nil => cases c
  | acc h0 hh => injection c with c1 c2; subst c1; rw [hnew _ rfl] at e; cases e
 have rp3 := le3 _ _ rp
 have h3 := h1.up le3
 have e6 : (pv two)[6]? = some (ni (tT two)) := rfl
 rw [vLdN_p rp3, vPart_ok (by rw [pv_len]; omega), List.drop_zero, List.take_of_length_le (by rw [pv_len]; omega)]
 refine may_c hy ?_
 simp only [shutP_eq, vNot_b, Bool.not_true, vGuard_t, h3.len]
 rw [vFld_z, ldp rp3 e6, vGtr_n, decide_eq_false (by omega), vPick_f]
 simp only [vGuard_t]
 refine comp_s (n := n + 4) (by omega) hy hw3 (by omega) (fun a b e => ?_) ?_
 · rcases hl' with rfl | rfl
   · exact hd a b e
   · have : l = [b, a] := by have := congrArg List.reverse e; simpa using this
     exact Ne.symm (hd b a this)
 rw [hw3.len, h3.len, vNeq_n, decide_eq_true el, Bool.not_true, vPick_f]
 simp only [vGuard_t]
 refine cont_s (n := n + 2) (by omega) hy h3 rp3 hr (by omega) ?_
 rw [vPick_f, vIf_f, vFld_z, ldp rp3 e6, vAdd_n (by omega)]
 refine ⟨Nat.le_refl _, by omega, by omega, ?_⟩
 have hz : ofVs [(.int .u64 (.ofNat 0))] = some [nu 0] := rfl
 unfold vZero
 rw [hz]
 intro o ho
 have e : (List.replicate (tT two + 1) [nu 0]).flatten = nvs (List.replicate (tT two + 1) 0) := by
  unfold nvs
  rw [List.map_replicate]
  generalize tT two + 1 = k
  induction k with
  | zero => rfl
  | succ k ih => rw [List.replicate_succ, List.flatten_cons, ih, List.replicate_succ]; rfl
 rw [e]
 have le4 : Hle σ3 (upd σ3 o (.row (nvs (List.replicate (tT two + 1) 0)) 22)) := .upd_new ho
 have ro : upd σ3 o (.row (nvs (List.replicate (tT two + 1) 0)) 22) o = some (.row (nvs (List.replicate (tT two + 1) 0)) 22) := upd_same
 show vBuildS 22 1 [(.int .u64 (.ofNat 0))] [(0, 1, nu 1)] (upd σ3 o (.row (nvs (List.replicate (tT two + 1) 0)) 22)) (fun v36 σ => l_mirror_Line_rrrrrrlrd y y.most (.ptr bp 0) (.own o 0 (tT two + 1) (tT two + 1)) v36 v (ni l.length) (ni 0) σ K)
 generalize upd σ3 o (.row (nvs (List.replicate (tT two + 1) 0)) 22) = σ4 at le4 ro
 refine ⟨rfl, by simp, fun j hj => ?_⟩
 show l_mirror_Line_rrrrrrlrd y y.most (.ptr bp 0) (.own o 0 (tT two + 1) (tT two + 1)) (.own j 0 [1].length [1].length) v (ni l.length) (ni 0) (upd σ4 j (.row (nvs [1]) 22)) K
 have le5 : Hle σ4 (upd σ4 j (.row (nvs [1]) 22)) := .upd_new hj
 have h5 := (h3.up le4).up le5
 rw [hy.most]
 refine line_go (n := n + 2) (two := two) hM hy h5 (le5 _ _ (le4 _ _ rp3)) (fun c hc => ⟨(hr c hc).1, by have := (hr c hc).2; omega⟩) (by omega) (fun σ6 i le6 hi => ?_) l.length 0 M _ j [1] (by omega) (by omega) (.refl _) upd_same (fun c hc => by rw [List.mem_singleton.1 hc]; show 1 < 18446744073709551616; decide) rfl rfl
 have ro6 := le6 _ _ (le5 _ _ ro)
 have hpl : (lineP l).length = l.length + 1 := by unfold lineP; rw [foldS_len]; simp; omega
 refine vSrc_own (m := (lineP l).length) hi (by rw [nvs_len]; omega) ?_
 refine ⟨by omega, ?_⟩
 have hleA : Hle σ σ6 := (((le1.trans le3).trans le4).trans le5).trans le6
 have ho' : σ o = none := (le1.trans le3).none ho
 generalize hq : (lineP l).length = q at hpl
 cases q with
 | zero => omega
 | succ q =>
  refine ⟨nvs_one _, ?_⟩
  simp only [ro6]
  have esp : splice 0 (nvs (lineP l)) (nvs (List.replicate (tT two + 1) 0)) = nvs (lineL two l) := by
   unfold splice lineL padL
   rw [nvs_app, nvs_len, hq, Nat.zero_add, List.take_zero, List.nil_append]
   congr 1
   unfold nvs
   rw [List.map_replicate, List.map_replicate, List.drop_replicate]
  refine ⟨by rw [nvs_len, nvs_len, hq]; simp; omega, ?_⟩
  rw [esp]
  exact vRet_here (hK o _ ho' (fun k p e => by rw [upd_other (fun c => by subst c; rw [ho'] at e; cases e)]; exact hleA k p e) upd_same)
end
end Go.Am

set_option linter.unusedVariables false
set_option maxRecDepth 4000
namespace Go.Am
open Go.Proofs.Mdl
def ontoA (d : Nat) (l : Nat) : Nat := d * l % 23
def ontoB (back d : Nat) (l : Nat) : Nat := subN 0 (d * l % 23 * back % 23) 23
def ontoL (line : List Nat) (back : Nat) : List Nat → List Nat
 | [] => []
 | d :: l => (line.drop 1).map (ontoA d) ++ (line.map (ontoB back d) ++ ontoL line back l)
theorem sub_lt (a b : Nat) : subN a b 23 < 23 := Nat.mod_lt _ (by decide)
section
variable {M n : Nat} {x : VE} {σ : Hp} {K : KV} {two : Bool}
theorem o_of' : gM c_mirror_of = none := rfl
theorem o_onto : gM c_mirror_change_onto = none := rfl
theorem o_onto1 : gM c_mirror_change_onto_1 = none := rfl
theorem o_put : gM c_mirror_change_put = none := rfl
theorem o_load : gM c_mirror_Load = none := rfl
structure OnV (b0 b1 b2 b3 lo : Nat) (vd : V) (diff line : List Nat) (back : Nat) (σ : Hp) : Prop where
 r0 : σ b0 = some (.row [nu 23, nu back, vd] 86)
 r1 : σ b1 = some (.row [.own lo 0 line.length line.length] 32)
 r2 : σ b2 = some (.row [ni 1] 3)
 r3 : σ b3 = some (.row [ni 0] 3)
 d : NV σ vd diff
 l : σ lo = some (.row (nvs line) 22)
theorem drop_of {α : Type} {xs rest : List α} {z : α} {k : Nat} (h : xs.drop k = z :: rest) : xs.drop (k + 1) = rest := by
 rw [← List.drop_drop, h]; rfl
theorem onto1_s (hM : 1000000 < M) (hx : Deep PP tbS gM M (n + 3) x) {l b0 b1 b2 b3 lo : Nat} {vd : V} {diff line : List Nat} {back : Nat} (hd64 : L64 diff) (hl64 : L64 line) (hb : b64 back) (hl0 : 0 < line.length) (hll : line.length < 1000) (hdl : diff.length < 1000) {Inv : Nat → Hp → Prop}
 (hI : ∀ k σ, Inv k σ → OnV b0 b1 b2 b3 lo vd diff line back σ)
 (step : ∀ (y : VE), Deep PP tbS gM M (n + 2) y → ∀ (k : Nat) (σ : Hp) (z : Nat) (rest : List Nat) (K : KV), (ontoL line back diff).drop k = z :: rest → Inv k σ → (∀ σ', Inv (k + 1) σ' → K (.bool true) σ') → y.R l [nu z] σ K) (h0 : Inv 0 σ)
 (hK : ∀ k σ, (ontoL line back diff).drop k = [] → Inv k σ → K (.tuple []) σ) : x.call c_mirror_change_onto_1 [.yield l, .ptr b0 0, .ptr b1 0, .ptr b2 0, .ptr b3 0] σ K := by
 refine hx.call o_onto1 fun y hy => ?_
 rw [f_mirror_change_onto_1]
 unfold r_mirror_change_onto_1
 have q0 := hI 0 σ h0
 rw [vFld_z, ldp q0.r0 rfl, q0.d.len, hy.most]
 -- the second of the inner loops
 have two_ : ∀ (d i m0 : Nat) (KK : Hp → Prop), b64 d → (∀ k σ, Inv k σ → (ontoL line back diff).drop k = ontoL line back (diff.drop (i + 1)) → l_mirror_change_onto_1_rd y m0 (.yield l) (.ptr b0 0) (.ptr b1 0) (.ptr b2 0) (.ptr b3 0) vd (ni diff.length) (ni (i + 1)) σ K) → i < 1000 →
  ∀ (r j m k : Nat) (σ : Hp), j + r = line.length → r < m → Inv k σ → (ontoL line back diff).drop k = (line.drop j).map (ontoB back d) ++ ontoL line back (diff.drop (i + 1)) →
   l_mirror_change_onto_1_rddrrldrrrd y m m0 (.yield l) (.ptr b0 0) (.ptr b1 0) (.ptr b2 0) (.ptr b3 0) (nu d) vd (ni diff.length) (ni i) (.own lo 0 line.length line.length) (ni line.length) (ni j) σ K := by
  intro d i m0 _ hd hk hi r
  induction r with
  | zero =>
   intro j m k σ hj hm h he
   obtain ⟨m, rfl⟩ := Nat.exists_eq_succ_of_ne_zero (show m ≠ 0 by omega)
   rw [l_mirror_change_onto_1_rddrrldrrrdE]
   unfold l_mirror_change_onto_1_rddrrldrrrdB
   refine vDrop_here ?_
   rw [vLss_n, dnlt (by omega), vIf_f, vAdd_n (by omega)]
   rw [List.drop_eq_nil_of_le (show line.length ≤ j by omega)] at he
   exact hk k σ h he
  | succ r ih =>
   intro j m k σ hj hm h he
   obtain ⟨m, rfl⟩ := Nat.exists_eq_succ_of_ne_zero (show m ≠ 0 by omega)
   rw [l_mirror_change_onto_1_rddrrldrrrdE]
   unfold l_mirror_change_onto_1_rddrrldrrrdB
   refine vDrop_here ?_
   have hlt : j < line.length := by omega
   have q := hI k σ h
   have nv : NV σ (.own lo 0 line.length line.length) line := .own q.l (fun k n hk => by rw [Nat.zero_add]; exact nvs_at hk) (by rw [nvs_len]; omega)
   obtain ⟨p, hp, hld⟩ := nv.at (i := j) (List.getElem?_eq_getElem hlt)
   have hz := hl64 _ (List.getElem_mem hlt)
   rw [vLss_n, dlt hlt, vIf_t, hp, hld σ (.refl σ), vFld_z, ldp q.r0 rfl, vFld_z, ldp (o := 1) q.r0 rfl, vFld_z, ldp q.r0 rfl, vFld_z, ldp q.r0 rfl]
   refine mul_c hy hd hz q23 ?_
   rw [ldp q.r0 rfl, vSame_i, ldp q.r0 rfl, vSame_i, ldp (o := 1) q.r0 rfl, vSame_i]
   refine mul_c hy (b64_mod q23) hb q23 ?_
   rw [ldp q.r0 rfl, vSame_i]
   refine sub_c hy (show 0 < 18446744073709551616 by decide) (b64_mod q23) q23 ?_
   rw [vCallV_y]
   have ed : line.drop j = line[j] :: line.drop (j + 1) := List.drop_eq_getElem_cons hlt
   rw [ed, List.map_cons, List.cons_append] at he
   refine step y hy k σ _ _ _ he h fun σ' h' => ?_
   rw [vNot_b, Bool.not_true, vIf_f, vAdd_n (by omega)]
   exact ih (j + 1) m (k + 1) σ' (by omega) (by omega) h' (drop_of he)
 have one_ : ∀ (d i m0 : Nat), b64 d → (∀ k σ, Inv k σ → (ontoL line back diff).drop k = ontoL line back (diff.drop (i + 1)) → l_mirror_change_onto_1_rd y m0 (.yield l) (.ptr b0 0) (.ptr b1 0) (.ptr b2 0) (.ptr b3 0) vd (ni diff.length) (ni (i + 1)) σ K) → i < 1000 →
  ∀ (o c r j m k : Nat) (σ : Hp), (o = 1 ∨ line.length = 1) → j + r = line.length - 1 → r < m → Inv k σ → (ontoL line back diff).drop k = ((line.drop 1).drop j).map (ontoA d) ++ (line.map (ontoB back d) ++ ontoL line back (diff.drop (i + 1))) →
   l_mirror_change_onto_1_rddrrldrlrd y m m0 (.yield l) (.ptr b0 0) (.ptr b1 0) (.ptr b2 0) (.ptr b3 0) (nu d) vd (ni diff.length) (ni i) (.own lo o (line.length - 1) c) (ni (line.length - 1)) (ni j) σ K := by
  intro d i m0 hd hk hi o c r
  induction r with
  | zero =>
   intro j m k σ ho hj hm h he
   obtain ⟨m, rfl⟩ := Nat.exists_eq_succ_of_ne_zero (show m ≠ 0 by omega)
   rw [l_mirror_change_onto_1_rddrrldrlrdE]
   unfold l_mirror_change_onto_1_rddrrldrlrdB
   refine vDrop_here ?_
   have q := hI k σ h
   rw [vLss_n, dnlt (by omega), vIf_f, ldp q.r1 rfl, ldp q.r3 rfl]
   rw [List.drop_eq_nil_of_le (show (line.drop 1).length ≤ j by rw [List.length_drop]; omega)] at he
   refine ⟨Nat.zero_le _, Nat.le_refl _, Nat.le_refl _, ?_⟩
   have e0 : (if line.length = 0 then 0 else 0 + 0 * 1) = 0 := by rw [if_neg (by omega)]
   show l_mirror_change_onto_1_rddrrldrrrd y y.most m0 (.yield l) (.ptr b0 0) (.ptr b1 0) (.ptr b2 0) (.ptr b3 0) (nu d) vd (ni diff.length) (ni i) (.own lo (if line.length = 0 then 0 else 0 + 0 * 1) line.length line.length) (ni line.length) (ni 0) σ K
   rw [e0, hy.most]
   exact two_ d i m0 (fun _ => True) hd hk hi line.length 0 M k σ (by omega) (by omega) h he
  | succ r ih =>
   intro j m k σ ho hj hm h he
   obtain ⟨m, rfl⟩ := Nat.exists_eq_succ_of_ne_zero (show m ≠ 0 by omega)
   rw [l_mirror_change_onto_1_rddrrldrlrdE]
   unfold l_mirror_change_onto_1_rddrrldrlrdB
   refine vDrop_here ?_
   have ho1 : o = 1 := by rcases ho with h | h <;> omega
   subst ho1
   have hlt : j < (line.drop 1).length := by rw [List.length_drop]; omega
   have q := hI k σ h
   have nv : NV σ (.own lo 1 (line.drop 1).length c) (line.drop 1) := .own q.l (fun k n hk => by rw [List.getElem?_drop] at hk; exact nvs_at hk) (by rw [nvs_len, List.length_drop]; omega)
   rw [List.length_drop] at nv
   obtain ⟨p, hp, hld⟩ := nv.at (i := j) (List.getElem?_eq_getElem hlt)
   have hz := hl64 _ (List.mem_of_mem_drop (List.getElem_mem hlt))
   rw [vLss_n, dlt (by rw [List.length_drop] at hlt; exact hlt), vIf_t, hp, hld σ (.refl σ), vFld_z, ldp q.r0 rfl]
   refine mul_c hy hd hz q23 ?_
   rw [vCallV_y]
   have ed : (line.drop 1).drop j = (line.drop 1)[j] :: (line.drop 1).drop (j + 1) := List.drop_eq_getElem_cons hlt
   rw [ed, List.map_cons, List.cons_append] at he
   refine step y hy k σ _ _ _ he h fun σ' h' => ?_
   rw [vNot_b, Bool.not_true, vIf_f, vAdd_n (by omega)]
   exact ih (j + 1) m (k + 1) σ' ho (by omega) (by omega) h' (drop_of he)
 have all : ∀ (r i m k : Nat) (σ : Hp), i + r = diff.length → r < m → Inv k σ → (ontoL line back diff).drop k = ontoL line back (diff.drop i) → l_mirror_change_onto_1_rd y m (.yield l) (.ptr b0 0) (.ptr b1 0) (.ptr b2 0) (.ptr b3 0) vd (ni diff.length) (ni i) σ K := by
  intro r
  induction r with
  | zero =>
   intro i m k σ hi hm h he
   obtain ⟨m, rfl⟩ := Nat.exists_eq_succ_of_ne_zero (show m ≠ 0 by omega)
   rw [l_mirror_change_onto_1_rdE]
   unfold l_mirror_change_onto_1_rdB
   refine vDrop_here ?_
   rw [vLss_n, dnlt (by omega), vIf_f]
   rw [List.drop_eq_nil_of_le (show diff.length ≤ i by omega)] at he
   exact vRet_here (hK k σ he h)
  | succ r ih =>
   intro i m k σ hi hm h he
   obtain ⟨m, rfl⟩ := Nat.exists_eq_succ_of_ne_zero (show m ≠ 0 by omega)
   rw [l_mirror_change_onto_1_rdE]
   unfold l_mirror_change_onto_1_rdB
   refine vDrop_here ?_
   have hlt : i < diff.length := by omega
   have q := hI k σ h
   obtain ⟨p, hp, hld⟩ := q.d.at (i := i) (List.getElem?_eq_getElem hlt)
   rw [vLss_n, dlt hlt, vIf_t, hp, hld σ (.refl σ), ldp q.r1 rfl, ldp q.r2 rfl]
   refine ⟨by omega, Nat.le_refl _, Nat.le_refl _, ?_⟩
   show l_mirror_change_onto_1_rddrrldrlrd y y.most m (.yield l) (.ptr b0 0) (.ptr b1 0) (.ptr b2 0) (.ptr b3 0) (nu diff[i]) vd (ni diff.length) (ni i) (.own lo (if line.length = 1 then 0 else 0 + 1 * 1) (line.length - 1) (line.length - 1)) (ni (line.length - 1)) (ni 0) σ K
   rw [hy.most]
   have ed : diff.drop i = diff[i] :: diff.drop (i + 1) := List.drop_eq_getElem_cons hlt
   rw [ed] at he
   refine one_ diff[i] i m (hd64 _ (List.getElem_mem hlt)) (fun k σ h he => ih (i + 1) m k σ (by omega) (by omega) h he) (by omega) _ _ (line.length - 1) 0 M k σ ?_ (by omega) (by omega) h he
   by_cases c : line.length = 1
   · exact .inr c
   · rw [if_neg c]; exact .inl rfl
 exact all diff.length 0 M 0 σ (by omega) (by omega) h0 rfl
end
end Go.Am

set_option linter.unusedVariables false
set_option maxRecDepth 4000
namespace Go.Am
open Go.Proofs.Mdl
def addq (a b : Nat) : Nat := (a % 23 + b % 23) % 23
def putQ (draws xs : List Nat) (k : Nat) : List Nat := (List.zipWith addq draws xs).take k ++ draws.drop k
theorem putQ_at {draws xs : List Nat} {k : Nat} (hl : xs.length = draws.length) (hk : k < draws.length) : (putQ draws xs k)[k]? = some draws[k] := by
 unfold putQ
 rw [List.getElem?_append_right (by rw [List.length_take, List.length_zipWith]; omega), List.getElem?_drop, List.length_take, List.length_zipWith, show k + (k - min k (min draws.length xs.length)) = k by omega, List.getElem?_eq_getElem hk]
theorem putQ_len {draws xs : List Nat} {k : Nat} (hl : xs.length = draws.length) (hk : k ≤ draws.length) : (putQ draws xs k).length = draws.length := by
 unfold putQ; rw [List.length_append, List.length_take, List.length_drop, List.length_zipWith]; omega
theorem putQ_set {draws xs : List Nat} {k : Nat} (hl : xs.length = draws.length) (hk : k < draws.length) (hk2 : k < xs.length) : (putQ draws xs k).set k (addq draws[k] xs[k]) = putQ draws xs (k + 1) := by
 apply List.ext_getElem?; intro j
 have hz : (List.zipWith addq draws xs).length = draws.length := by rw [List.length_zipWith]; omega
 rcases Nat.lt_trichotomy j k with c | c | c
 · rw [List.getElem?_set_ne (by omega)]
   unfold putQ
   rw [List.getElem?_append_left (by rw [List.length_take]; omega), List.getElem?_append_left (by rw [List.length_take]; omega), List.getElem?_take, List.getElem?_take, if_pos c, if_pos (by omega)]
 · subst c
   rw [List.getElem?_set_self (by rw [putQ_len hl (by omega)]; omega)]
   unfold putQ
   rw [List.getElem?_append_left (by rw [List.length_take]; omega), List.getElem?_take, if_pos (by omega), List.getElem?_eq_getElem (by omega), List.getElem_zipWith]
 · rw [List.getElem?_set_ne (by omega)]
   unfold putQ
   rw [List.getElem?_append_right (by rw [List.length_take]; omega), List.getElem?_append_right (by rw [List.length_take]; omega), List.getElem?_drop, List.getElem?_drop, List.length_take, List.length_take]
   congr 1
   omega
section
variable {M n : Nat} {x : VE} {σ : Hp} {K : KV} {two : Bool}
noncomputable def loP (bp o7 o8 : Nat) (st : LoopState) : Ob := .loop [3, 7, 8] [.ptr bp 0, .ptr o7 0, .ptr o8 0] 28 (rgPs PP c_mirror_change_put [.r, .r, .r, .l, .r, .d]) (rgAs PP c_mirror_change_put [.r, .r, .r, .l, .r, .d]) (rgBo PP c_mirror_change_put [.r, .r, .r, .l, .r, .d]) st none
structure InvP (σA : Hp) (bp o7 o8 oi l : Nat) (vd : V) (back : Nat) (draws xs : List Nat) (k : Nat) (σ : Hp) : Prop where
 le : Hle σA σ
 nbp : σA bp = none
 n7 : σA o7 = none
 n8 : σA o8 = none
 noi : σA oi = none
 nol : σA l = none
 rp : σ bp = some (.row [nu 23, nu back, vd] 86)
 r7 : σ o7 = some (.row [.acc oi draws.length] 32)
 r8 : σ o8 = some (.row [ni k] 3)
 ri : σ oi = some (.gro (nvs (putQ draws xs k)) 22 draws.length)
 lo : σ l = some (loP bp o7 o8 .ready)
theorem put_step (hM : 1000000 < M) (hx : Deep PP tbS gM M (n + 2) x) {σA : Hp} {bp o7 o8 oi l : Nat} {vd : V} {back : Nat} {draws xs rest : List Nat} {k z : Nat} (h64 : L64 draws) (x64 : L64 xs) (hl : xs.length = draws.length) (hll : draws.length < 1000) (hz : xs.drop k = z :: rest) (h : InvP σA bp o7 o8 oi l vd back draws xs k σ)
 (hK : ∀ σ', InvP σA bp o7 o8 oi l vd back draws xs (k + 1) σ' → K (.bool true) σ') : x.R l [nu z] σ K := by
 refine hx.round fun y hy => ?_
 refine roundV_at (st := .ready) (pe := none) h.lo h_mirror_change_put_rrrlrd ?_
 rw [g_mirror_change_put_rrrlrd]
 unfold rd_mirror_change_put_rrrlrd
 refine vBusy_at h.lo ?_
 have hbz : upd σ l (.loop [3, 7, 8] [.ptr bp 0, .ptr o7 0, .ptr o8 0] 28 (rgPs PP c_mirror_change_put [.r, .r, .r, .l, .r, .d]) (rgAs PP c_mirror_change_put [.r, .r, .r, .l, .r, .d]) (rgBo PP c_mirror_change_put [.r, .r, .r, .l, .r, .d]) .busy none) = upd σ l (loP bp o7 o8 .busy) := rfl
 rw [hbz]
 have ne : ∀ {i : Nat} {o : Ob}, σ i = some o → o ≠ loP bp o7 o8 .ready → i ≠ l := fun e hne c => by rw [c, h.lo] at e; injection e with e; exact hne e.symm
 have nl7 : o7 ≠ l := ne h.r7 (fun e => by cases e)
 have nl8 : o8 ≠ l := ne h.r8 (fun e => by cases e)
 have nli : oi ≠ l := ne h.ri (fun e => by cases e)
 have nlp : bp ≠ l := ne h.rp (fun e => by cases e)
 have n78 : o7 ≠ o8 := fun c => by have := h.r7; rw [c, h.r8] at this; injection this with e; injection e with _ e; cases e
 have n7i : o7 ≠ oi := fun c => by have := h.r7; rw [c, h.ri] at this; cases this
 have n8i : o8 ≠ oi := fun c => by have := h.r8; rw [c, h.ri] at this; cases this
 have np7 : bp ≠ o7 := fun c => by have := h.rp; rw [c, h.r7] at this; injection this with e; injection e with _ e; cases e
 have np8 : bp ≠ o8 := fun c => by have := h.rp; rw [c, h.r8] at this; injection this with e; injection e with _ e; cases e
 have npi : bp ≠ oi := fun c => by have := h.rp; rw [c, h.ri] at this; cases this
 have k1 : Hle σA (upd σ l (loP bp o7 o8 .busy)) := setLe h.le h.nol
 have kl : upd σ l (loP bp o7 o8 .busy) l = some (loP bp o7 o8 .busy) := upd_same
 have kp : upd σ l (loP bp o7 o8 .busy) bp = some (.row [nu 23, nu back, vd] 86) := by rw [upd_other nlp]; exact h.rp
 have k7 : upd σ l (loP bp o7 o8 .busy) o7 = some (.row [.acc oi draws.length] 32) := by rw [upd_other nl7]; exact h.r7
 have k8 : upd σ l (loP bp o7 o8 .busy) o8 = some (.row [ni k] 3) := by rw [upd_other nl8]; exact h.r8
 have ki : upd σ l (loP bp o7 o8 .busy) oi = some (.gro (nvs (putQ draws xs k)) 22 draws.length) := by rw [upd_other nli]; exact h.ri
 generalize upd σ l (loP bp o7 o8 .busy) = σ2 at k1 kl kp k7 k8 ki
 have hkx : k < xs.length := by
  rcases Nat.lt_or_ge k xs.length with c | c
  · exact c
  · rw [List.drop_eq_nil_of_le c] at hz; cases hz
 have hkd : k < draws.length := by omega
 have ez : xs[k] = z := by
  have := List.drop_eq_getElem_cons hkx
  rw [hz] at this; injection this with e _; exact e.symm
 subst ez
 have l7 : ∀ {K : KV}, vLd (.ptr o7 0) σ2 K = K (.acc oi draws.length) σ2 := ldp k7 rfl
 have l8 : ∀ {K : KV}, vLd (.ptr o8 0) σ2 K = K (ni k) σ2 := ldp k8 rfl
 have li : ∀ {K : KV}, vLd (.gptr oi draws.length k) σ2 K = K (nu draws[k]) σ2 := gld ki (nvs_at (putQ_at hl hkd))
 rw [l7, l8, l7, l8, gidx hkd, li, vFld_z, ldp kp rfl]
 refine add_c hy (h64 _ (List.getElem_mem hkd)) (x64 _ (List.getElem_mem hkx)) q23 ?_
 rw [l8, vSame_i, l7, vSame_ok rfl, l8, vSame_i, l7, vSame_ok rfl, gidx hkd]
 have hpl := putQ_len hl (k := k) (by omega)
 refine vSt_g ki rfl (by rw [nvs_len]; omega) ?_
 rw [splice_one (by rw [nvs_len]; omega), nvs_set, show (draws[k] % 23 + xs[k] % 23) % 23 = addq draws[k] xs[k] from rfl, putQ_set hl hkd hkx]
 have m8 : upd σ2 oi (.gro (nvs (putQ draws xs (k + 1))) 22 draws.length) o8 = some (.row [ni k] 3) := by rw [upd_other n8i]; exact k8
 rw [ldp m8 rfl, vAdd_n (by omega), stp_ m8 (by simp) rfl]
 have l4 : upd (upd σ2 oi (.gro (nvs (putQ draws xs (k + 1))) 22 draws.length)) o8 (.row ([ni k].set 0 (ni (k + 1))) 3) l = some (loP bp o7 o8 .busy) := by rw [upd_other (Ne.symm nl8), upd_other (Ne.symm nli)]; exact kl
 refine vOver_at l4 (hK _ ⟨setLe (setLe (setLe k1 h.noi) h.n8) h.nol, h.nbp, h.n7, h.n8, h.noi, h.nol, ?_, ?_, ?_, ?_, upd_same⟩)
 · rw [upd_other nlp, upd_other np8, upd_other npi]; exact kp
 · rw [upd_other nl7, upd_other n78, upd_other n7i]; exact k7
 · rw [upd_other nl8]; exact upd_same
 · rw [upd_other nli, upd_other (Ne.symm n8i)]; exact upd_same
theorem OnV.up {b0 b1 b2 b3 lo : Nat} {vd : V} {diff line : List Nat} {back : Nat} {σ σ' : Hp} (h : OnV b0 b1 b2 b3 lo vd diff line back σ) (hle : Hle σ σ') : OnV b0 b1 b2 b3 lo vd diff line back σ' :=
 ⟨hle _ _ h.r0, hle _ _ h.r1, hle _ _ h.r2, hle _ _ h.r3, h.d.up hle, hle _ _ h.l⟩
theorem ontoL_64 (line : List Nat) (back : Nat) : ∀ diff, L64 (ontoL line back diff) := by
 intro diff
 induction diff with
 | nil => intro c hc; cases hc
 | cons d l ih =>
  intro c hc
  rcases List.mem_append.1 hc with hc | hc
  · obtain ⟨a, _, rfl⟩ := List.mem_map.1 hc; exact b64_mod q23
  · rcases List.mem_append.1 hc with hc | hc
    · obtain ⟨a, _, rfl⟩ := List.mem_map.1 hc; exact Nat.lt_trans (sub_lt _ _) (by decide)
    · exact ih c hc
theorem ontoL_len (line : List Nat) (back : Nat) : ∀ diff, (ontoL line back diff).length = diff.length * (line.length - 1 + line.length) := by
 intro diff
 induction diff with
 | nil => simp [ontoL]
 | cons d l ih => simp only [ontoL, List.length_append, List.length_map, List.length_drop, ih, List.length_cons, Nat.succ_mul]; omega
theorem MN.acc_of {σ0 σ : Hp} {w : V} {l : List Nat} (h : MN σ0 σ w l) (a : Ah σ w l) (hl : 0 < l.length) : ∃ i, w = .acc i l.length ∧ σ0 i = none ∧ σ i = some (.gro (nvs l) 22 l.length) := by
 cases h with
 | nil => simp at hl
 | acc h0 h => exact ⟨_, rfl, h0, h⟩
 | @own i _ h0 h =>
  exfalso
  generalize hv : V.own i 0 l.length l.length = v at a
  cases a with
  | own0 => simp at hl
  | nil => cases hv
  | emp => cases hv
  | acc => cases hv
  | asl => cases hv
theorem put_s (hM : 1000000 < M) (hx : Deep PP tbS gM M (n + 5) x) {σ0 σA : Hp} {b0 b1 b2 b3 lo : Nat} {vd va : V} {diff line draws : List Nat} {back : Nat} (hon : OnV b0 b1 b2 b3 lo vd diff line back σA) (hv1 : oneV vd = true) (hd64 : L64 diff) (hl64 : L64 line) (hb : b64 back) (hl0 : 0 < line.length) (hll : line.length < 1000) (hdl : diff.length < 1000)
 (ma : MN σ0 σA va draws) (h64 : L64 draws) (hlen : (ontoL line back diff).length = draws.length) (hdr : draws.length < 1000) (hdr0 : 0 < draws.length) (hK : ∀ w σ', Hle σA σ' → MN σA σ' w (List.zipWith addq draws (ontoL line back diff)) → K w σ') : x.call c_mirror_change_put [.agg [nu 23, nu back, vd], va, .func c_mirror_change_onto_1 [] [.ptr b0 0, .ptr b1 0, .ptr b2 0, .ptr b3 0]] σA K := by
 refine hx.call o_put fun y hy => ?_
 rw [f_mirror_change_put]
 unfold r_mirror_change_put
 refine vBox_agg (by simp only [List.all_cons, List.all_nil, hv1]; rfl) fun bp hbp => ?_
 have le1 : Hle σA (upd σA bp (.row [nu 23, nu back, vd] 86)) := .upd_new hbp
 have rp : upd σA bp (.row [nu 23, nu back, vd] 86) bp = some (.row [nu 23, nu back, vd] 86) := upd_same
 generalize upd σA bp (.row [nu 23, nu back, vd] 86) = σ1 at le1 rp
 refine clone_s (n := n + 3) hy (ma.up le1) (by omega) fun w σ2 le2 mw aw => ?_
 obtain ⟨oi, rfl, n1, ri⟩ := mw.acc_of aw hdr0
 have rp := le2 _ _ rp
 refine vAlloc_to rfl fun o7 h7 => ?_
 have r7 : upd σ2 o7 (.row [.nil] 32) o7 = some (.row [.nil] 32) := upd_same
 rw [stp_ r7 (by simp) rfl, upd_upd]
 show vAlloc [(.int .i64 (.ofNat 0))] 3 (upd σ2 o7 (.row [.acc oi draws.length] 32)) _
 have le3 : Hle σ2 (upd σ2 o7 (.row [.acc oi draws.length] 32)) := .upd_new h7
 have r7 : upd σ2 o7 (.row [.acc oi draws.length] 32) o7 = some (.row [.acc oi draws.length] 32) := upd_same
 generalize upd σ2 o7 (.row [.acc oi draws.length] 32) = σ3 at le3 r7
 refine vAlloc_to rfl fun o8 h8 => ?_
 have r8 : upd σ3 o8 (.row [ni 0] 3) o8 = some (.row [ni 0] 3) := upd_same
 have le4 : Hle σ3 (upd σ3 o8 (.row [ni 0] 3)) := .upd_new h8
 refine Eq.mpr (stp_ r8 (by simp) rfl) ?_
 rw [upd_upd]
 show vRange y _ [3, 7, 8] _ 28 _ _ _ (upd σ3 o8 (.row [ni 0] 3)) _
 generalize upd σ3 o8 (.row [ni 0] 3) = σ4 at le4 r8
 refine vRange_to fun l hl => ?_
 have hlo : upd σ4 l (.loop [3, 7, 8] [.ptr bp 0, .ptr o7 0, .ptr o8 0] 28 (rgPs PP c_mirror_change_put [.r, .r, .r, .l, .r, .d]) (rgAs PP c_mirror_change_put [.r, .r, .r, .l, .r, .d]) (rgBo PP c_mirror_change_put [.r, .r, .r, .l, .r, .d]) .ready none) = upd σ4 l (loP bp o7 o8 .ready) := rfl
 rw [hlo]
 have le5 : Hle σ4 (upd σ4 l (loP bp o7 o8 .ready)) := .upd_new hl
 have le12 := le1.trans le2
 have le13 := le12.trans le3
 have le14 := le13.trans le4
 have q0 : InvP σA bp o7 o8 oi l vd back draws (ontoL line back diff) 0 (upd σ4 l (loP bp o7 o8 .ready)) :=
  ⟨le14.trans le5, hbp, le12.none h7, le13.none h8, le1.none n1, le14.none hl, le5 _ _ (le4 _ _ (le3 _ _ rp)), le5 _ _ (le4 _ _ r7), le5 _ _ r8, by
   have e : putQ draws (ontoL line back diff) 0 = draws := rfl
   rw [e]; exact le5 _ _ (le4 _ _ (le3 _ _ ri)), upd_same⟩
 show y.call c_mirror_change_onto_1 [.yield l, .ptr b0 0, .ptr b1 0, .ptr b2 0, .ptr b3 0] _ _
 refine onto1_s (n := n + 1) (Inv := InvP σA bp o7 o8 oi l vd back draws (ontoL line back diff)) hM hy hd64 hl64 hb hl0 hll hdl (fun k σ h => hon.up h.le) (fun z hz k σ a rest K hr h hk => put_step (n := n + 1) hM hz h64 (ontoL_64 _ _ _) hlen hdr hr h hk) q0 fun k σ5 hk q5 => ?_
 refine vLeft_at q5.lo (by simp) ?_
 rw [vPend_n]
 obtain ⟨ob, hex⟩ : ∃ ob, upd σ5 l (.loop [3, 7, 8] [.ptr bp 0, .ptr o7 0, .ptr o8 0] 28 (rgPs PP c_mirror_change_put [.r, .r, .r, .l, .r, .d]) (rgAs PP c_mirror_change_put [.r, .r, .r, .l, .r, .d]) (rgBo PP c_mirror_change_put [.r, .r, .r, .l, .r, .d]) .exhausted none) = upd σ5 l ob := ⟨_, rfl⟩
 rw [hex]
 have n7l : o7 ≠ l := fun c => by have := q5.r7; rw [c, q5.lo] at this; injection this with e; cases e
 have nil : oi ≠ l := fun c => by have := q5.ri; rw [c, q5.lo] at this; injection this with e; cases e
 rw [ldp (by rw [upd_other n7l]; exact q5.r7) rfl]
 have hkl : (ontoL line back diff).length ≤ k := List.drop_eq_nil_iff.1 hk
 have e : putQ draws (ontoL line back diff) k = List.zipWith addq draws (ontoL line back diff) := by
  unfold putQ
  rw [List.take_of_length_le (by rw [List.length_zipWith]; omega), List.drop_eq_nil_of_le (by omega), List.append_nil]
 have el : (List.zipWith addq draws (ontoL line back diff)).length = draws.length := by rw [List.length_zipWith]; omega
 refine vRet_here (hK _ _ (setLe q5.le q5.nol) ?_)
 have := q5.ri
 rw [e] at this
 have hm : MN σA (upd σ5 l ob) (.acc oi (List.zipWith addq draws (ontoL line back diff)).length) (List.zipWith addq draws (ontoL line back diff)) := .acc q5.noi (by rw [upd_other nil, el]; exact this)
 rw [el] at hm
 exact hm
theorem onto_s (hx : Deep PP tbS gM M (n + 1) x) {σ : Hp} {lo : Nat} {vd : V} {diff line : List Nat} {back : Nat} (hv1 : oneV vd = true) (hd : NV σ vd diff) (hl : σ lo = some (.row (nvs line) 22))
 (hK : ∀ b0 b1 b2 b3 σ', Hle σ σ' → OnV b0 b1 b2 b3 lo vd diff line back σ' → K (.func c_mirror_change_onto_1 [] [.ptr b0 0, .ptr b1 0, .ptr b2 0, .ptr b3 0]) σ') : x.call c_mirror_change_onto [.agg [nu 23, nu back, vd], .own lo 0 line.length line.length, ni 1, ni 0] σ K := by
 refine hx.call o_onto fun y hy => ?_
 rw [f_mirror_change_onto]
 unfold r_mirror_change_onto
 refine vBox_agg (by simp only [List.all_cons, List.all_nil, hv1]; rfl) fun b0 h0 => ?_
 have le0 : Hle σ (upd σ b0 (.row [nu 23, nu back, vd] 86)) := .upd_new h0
 have r0 : upd σ b0 (.row [nu 23, nu back, vd] 86) b0 = some (.row [nu 23, nu back, vd] 86) := upd_same
 generalize upd σ b0 (.row [nu 23, nu back, vd] 86) = σ1 at le0 r0
 refine box1 rfl fun b1 h1 => ?_
 have le1 : Hle σ1 (upd σ1 b1 (.row [.own lo 0 line.length line.length] 32)) := .upd_new h1
 have r1 : upd σ1 b1 (.row [.own lo 0 line.length line.length] 32) b1 = some (.row [.own lo 0 line.length line.length] 32) := upd_same
 generalize upd σ1 b1 (.row [.own lo 0 line.length line.length] 32) = σ2 at le1 r1
 refine box1 rfl fun b2 h2 => ?_
 have le2 : Hle σ2 (upd σ2 b2 (.row [ni 1] 3)) := .upd_new h2
 have r2 : upd σ2 b2 (.row [ni 1] 3) b2 = some (.row [ni 1] 3) := upd_same
 generalize upd σ2 b2 (.row [ni 1] 3) = σ3 at le2 r2
 refine box1 rfl fun b3 h3 => ?_
 have le3 : Hle σ3 (upd σ3 b3 (.row [ni 0] 3)) := .upd_new h3
 have r3 : upd σ3 b3 (.row [ni 0] 3) b3 = some (.row [ni 0] 3) := upd_same
 generalize upd σ3 b3 (.row [ni 0] 3) = σ4 at le3 r3
 have leA := ((le0.trans le1).trans le2).trans le3
 exact vRet_here (hK _ _ _ _ _ leA ⟨le3 _ _ (le2 _ _ (le1 _ _ r0)), le3 _ _ (le2 _ _ r1), le3 _ _ r2, r3, hd.up leA, leA _ _ hl⟩)
theorem of'_s (hx : Deep PP tbS gM M (n + 2) x) {σ : Hp} {vd : V} {diff : List Nat} (hv1 : oneV vd = true) (hd : NV σ vd diff) (hl : diff.length = 2) {w : Nat} (hw1 : 1 ≤ w) (hw2 : w ≤ 22) (hK : ∀ σ', Hle σ σ' → K (.tuple [.agg [nu 23, nu (invN w), vd], .bool true]) σ') : x.call c_mirror_of [.agg (pv two), nu w, vd] σ K := by
 refine hx.call o_of' fun y hy => ?_
 rw [f_mirror_of]
 unfold r_mirror_of
 refine vBox_agg pv_one fun bp hbp => ?_
 have le1 : Hle σ (upd σ bp (.row (pv two) 25)) := .upd_new hbp
 have rp : upd σ bp (.row (pv two) 25) bp = some (.row (pv two) 25) := upd_same
 generalize upd σ bp (.row (pv two) 25) = σ1 at le1 rp
 refine vAlloc_to (l := [nu 0, nu 0, .nil]) rfl fun o ho => ?_
 have le2 : Hle σ1 (upd σ1 o (.row [nu 0, nu 0, .nil] 86)) := .upd_new ho
 have ro : upd σ1 o (.row [nu 0, nu 0, .nil] 86) o = some (.row [nu 0, nu 0, .nil] 86) := upd_same
 generalize upd σ1 o (.row [nu 0, nu 0, .nil] 86) = σ2 at le2 ro
 have rp2 := le2 _ _ rp
 have hd2 := hd.up (le1.trans le2)
 have e1 : (pv two)[1]? = some (nu 23) := rfl
 have e7 : (pv two)[7]? = some (ni 1) := rfl
 have e8 : (pv two)[8]? = some (ni 1) := rfl
 rw [vFld_z, ldp rp2 e1]
 refine inv_c hy (show w < 18446744073709551616 by omega) q23 (invN_ok hw1 hw2) ?_
 rw [vExt_at (v := nu (invN w)) rfl, vExt_at (v := ni 0) rfl, vFld_z, ldp rp2 e1]
 have hb : ∀ {k : V → Prop}, vBuild [(.int .u64 (.ofNat 0)), (.int .u64 (.ofNat 0)), (.slice none 0 0)] [(0, 1, nu 23), (1, 1, nu (invN w)), (2, 1, vd)] k = k (.agg [nu 23, nu (invN w), vd]) := fun {k} => by
  have hc : ∀ {p : List V → Prop}, vCells vd p = p [vd] := fun {p} => by cases vd <;> first | rfl | cases hv1
  apply propext
  unfold vBuild vZero
  show vFill _ [nu 0, nu 0, .nil] _ ↔ _
  unfold vFill
  show (_ ∧ _ ∧ vFill [(1, 1, nu (invN w)), (2, 1, vd)] [nu 23, nu 0, .nil] _) ↔ _
  unfold vFill
  show (_ ∧ _ ∧ _ ∧ _ ∧ vFill [(2, 1, vd)] [nu 23, nu (invN w), .nil] _) ↔ _
  unfold vFill
  rw [hc]
  constructor
  · intro h; exact h.2.2.2.2.2.2
  · intro h; exact ⟨rfl, by simp, rfl, by simp, rfl, by simp, h⟩
 rw [hb, vLdN_p rp2, vPart_ok (by rw [pv_len]; omega), List.drop_zero, List.take_of_length_le (by rw [pv_len]; omega)]
 refine may_c hy ?_
 have eE : ∀ {k : V → Prop}, vBin PP .eql 61 (ni 0) (.int .i64 (.ofNat 0)) k = k (.bool true) := fun {k} => by rw [vEql_n]; rfl
 simp only [shutP_eq, vGuard_t, vPick_t, eE, hd2.len, ldp rp2 e1, vSame_i]
 rw [vFld_z, ldp rp2 e7, vFld_z, ldp rp2 e8, vAdd_n (by decide), vMul_n (by decide), vEql_n, decide_eq_true hl]
 have hall : [nu 23, nu (invN w), vd].all oneV = true := by simp only [List.all_cons, List.all_nil, hv1]; rfl
 refine vSt_all (n := 3) (cs := [nu 23, nu (invN w), vd]) ro hall rfl rfl ?_
 have hbo : bp ≠ o := fun c => by rw [c] at rp2; rw [ro] at rp2; injection rp2 with e; injection e with _ e; cases e
 have rp3 : upd σ2 o (.row [nu 23, nu (invN w), vd] 86) bp = some (.row (pv two) 25) := by rw [upd_other hbo]; exact rp2
 have ro3 : upd σ2 o (.row [nu 23, nu (invN w), vd] 86) o = some (.row [nu 23, nu (invN w), vd] 86) := upd_same
 rw [vGuardC_t, ldp rp3 e8, vSame_i, vGuardC_t, ldp rp3 e7, vSame_i, vLdN_p ro3, vPart_ok (by simp)]
 exact vRet_here (hK _ (fun k p e => by
  have hk : k ≠ o := fun c => by subst c; rw [le1.none ho] at e; cases e
  rw [upd_other hk]; exact (le1.trans le2) k p e))
def loadL (two : Bool) (line diff draws : List Nat) : List Nat := List.zipWith addq draws (ontoL line (invN 19) diff)
theorem load_s (hM : 1000000 < M) (hx : Deep PP tbS gM M (n + 6) x) {σ0 σ : Hp} {lo : Nat} {vd va : V} {diff line draws : List Nat} (hv1 : oneV vd = true) (hv2 : sameOk1 vd = true) (hd : NV σ vd diff) (hdl : diff.length = 2) (hd64 : L64 diff) (hl : σ lo = some (.row (nvs line) 22)) (hll : line.length = tT two + 1) (hl64 : L64 line)
 (ma : MN σ0 σ va draws) (h64 : L64 draws) (hdr : draws.length = 2 * (2 * tT two + 1)) (hK : ∀ w σ', Hle σ σ' → MN σ σ' w (loadL two line diff draws) → K w σ') : x.call c_mirror_Load [.agg (pv two), nu 19, vd, .own lo 0 line.length line.length, va] σ K := by
 have hT : tT two ≤ 2 := by cases two <;> decide
 refine hx.call o_load fun y hy => ?_
 rw [f_mirror_Load]
 unfold r_mirror_Load
 refine vBox_agg pv_one fun bp hbp => ?_
 have le1 : Hle σ (upd σ bp (.row (pv two) 25)) := .upd_new hbp
 have rp : upd σ bp (.row (pv two) 25) bp = some (.row (pv two) 25) := upd_same
 generalize upd σ bp (.row (pv two) 25) = σ1 at le1 rp
 rw [vLdN_p rp, vPart_ok (by rw [pv_len]; omega), List.drop_zero, List.take_of_length_le (by rw [pv_len]; omega)]
 refine of'_s (n := n + 3) hy hv1 (hd.up le1) hdl (by decide) (by decide) fun σ2 le2 => ?_
 rw [vExt_at (v := .agg [nu 23, nu (invN 19), vd]) rfl, vExt_at (v := .bool true) rfl]
 refine vAlloc_to (l := [nu 0, nu 0, .nil]) rfl fun o ho => ?_
 have ro : upd σ2 o (.row [nu 0, nu 0, .nil] 86) o = some (.row [nu 0, nu 0, .nil] 86) := upd_same
 have hall : [nu 23, nu (invN 19), vd].all oneV = true := by simp only [List.all_cons, List.all_nil, hv1]; rfl
 refine vSt_all (n := 3) (cs := [nu 23, nu (invN 19), vd]) ro hall rfl rfl ?_
 rw [upd_upd]
 have le3 : Hle σ2 (upd σ2 o (.row [nu 23, nu (invN 19), vd] 86)) := .upd_new ho
 have ro : upd σ2 o (.row [nu 23, nu (invN 19), vd] 86) o = some (.row [nu 23, nu (invN 19), vd] 86) := upd_same
 generalize upd σ2 o (.row [nu 23, nu (invN 19), vd] 86) = σ3 at le3 ro
 have le13 := (le1.trans le2).trans le3
 have rp3 := le3 _ _ (le2 _ _ rp)
 have e6 : (pv two)[6]? = some (ni (tT two)) := rfl
 have hlen : ∀ {k : V → Prop}, vLenS (.own lo 0 line.length line.length) k = k (ni line.length) := rfl
 have ld3 : ∀ {K : KV}, vLdN 3 (.ptr o 0) σ3 K = K (.agg [nu 23, nu (invN 19), vd]) σ3 := fun {K} => by
  rw [vLdN_p ro, vPart_ok (by simp)]; rfl
 simp only [shutP_eq, vNot_b, Bool.not_true, vGuard_t, hlen]
 rw [vFld_z, ldp rp3 e6, vAdd_n (by omega), vNeq_n, decide_eq_true hll, Bool.not_true, vPick_f]
 simp only [vGuard_t]
 rw [(ma.up le13).nv.len, (hd.up le13).len, vFld_z, ldp rp3 e6, vMul_n (by omega), vAdd_n (by omega), vMul_n (by rw [hdl]; omega), vNeq_n, decide_eq_true (by rw [hdl]; omega), Bool.not_true, vPick_f, vIf_f, ld3, ld3]
 refine onto_s (n := n + 4) hy hv1 (hd.up le13) (le13 _ _ hl) fun b0 b1 b2 b3 σ4 le4 hon => ?_
 have ro4 := le4 _ _ ro
 have hsm : sameOk (.agg [nu 23, nu (invN 19), vd]) = true := by
  show (sameOk1 (nu 23) && (sameOk1 (nu (invN 19)) && (sameOk1 vd && true))) = true
  rw [hv2]; rfl
 rw [vLdN_p ro4, vPart_ok (by simp)]
 show vSame (.agg [nu 23, nu (invN 19), vd]) (.agg [nu 23, nu (invN 19), vd]) _
 rw [vSame_ok hsm]
 have hol : (ontoL line (invN 19) diff).length = draws.length := by rw [ontoL_len, hdl, hll, hdr]; omega
 refine put_s (n := n) hM hy hon hv1 hd64 hl64 (by have := invN_lt (c := 19) (by decide) (by decide); exact Nat.lt_trans this (by decide)) (by omega) (by omega) (by omega) ((ma.up le13).up le4) h64 hol (by omega) (by omega) fun w σ5 le5 mw => ?_
 exact vRet_here (hK w σ5 ((le13.trans le4).trans le5) (mw.base (le13.trans le4)))
end
end Go.Am

set_option linter.unusedVariables false
set_option maxRecDepth 100000
namespace Go.Am

/-! consistory/fixed.Secrets -/
noncomputable def l_fixed_Secrets_rrrlrd (x : VE) (m : Nat) (t2 t3 t5 t13 t14 t15 : V) (σ : Hp) (K : KV) : Prop := vjmpL PP tbS c_fixed_Secrets x [.r, .r, .r, .l, .r, .d] m [] [t2, t3, t5, t13, t14, t15] σ K
noncomputable def r_fixed_Secrets (x : VE) (a0 a1 : V) (σ : Hp) (K : KV) : Prop :=
 vBox 25 a0 σ fun v0 σ =>
 vBox 38 a1 σ fun v1 σ =>
 vLdN 12 v0 σ fun v2 σ =>
 vLdN 2 v1 σ fun v3 σ =>
 x.call c_fixed_May [v2, v3] σ fun v4 σ =>
 vUn .not v4 fun v5 =>
 vIf v5 (vRet .nil σ K) (vFld 0 v1 fun v6 =>
 vLd v6 σ fun v7 σ =>
 vLenS v7 fun v8 =>
 l_fixed_Secrets_rrrlrd x x.most v0 v1 .nil v7 v8 (.int .i64 (.ofNat 0)) σ K)
theorem f_fixed_Secrets (x : VE) (a0 a1 : V) (σ : Hp) (K : KV) : fnV PP tbS c_fixed_Secrets x [a0, a1] σ K = r_fixed_Secrets x a0 a1 σ K := by kernel_rfl
noncomputable def l_fixed_Secrets_rrrlrdB (x : VE) (m0 : Nat) (t2 t3 t5 t13 t14 t15 : V) (σ : Hp) (K : KV) : Prop :=
 vDrop σ fun σ =>
 vBin PP .lss 3 t15 t14 fun v0 =>
 vIf v0 (vIdx 1 t13 t15 fun v1 =>
 vLd v1 σ fun v2 σ =>
 vFld 1 t2 fun v3 =>
 vLd v3 σ fun v4 σ =>
 vFld 1 t3 fun v5 =>
 vLd v5 σ fun v6 σ =>
 vIdx 1 v6 t15 fun v7 =>
 vLd v7 σ fun v8 σ =>
 vFld 1 t2 fun v9 =>
 vLd v9 σ fun v10 σ =>
 x.call c_fixed_numbers [v4, v2] σ fun v11 σ =>
 vLd v9 σ fun v12 _ =>
 vSame v12 v10 (vLd v7 σ fun v13 _ =>
 vSame v13 v8 (vLd v5 σ fun v14 _ =>
 vSame v14 v6 (vApp 22 1 8 t5 v11 σ fun v15 σ =>
 vLd v9 σ fun v16 _ =>
 vSame v16 v10 (vLd v7 σ fun v17 _ =>
 vSame v17 v8 (vLd v5 σ fun v18 _ =>
 vSame v18 v6 (x.call c_fixed_Num [v8, v10] σ fun v19 σ =>
 vLd v5 σ fun v20 _ =>
 vSame v20 v6 (vLd v5 σ fun v21 _ =>
 vSame v21 v6 ((vBuildS 22 1 [(.int .u64 (.ofNat 0))] [(0, 1, v19)] σ fun v22 σ =>
 True) ∧ (vBuildS 22 1 [(.int .u64 (.ofNat 0))] [(0, 1, v19)] σ fun v23 σ =>
 vApp 22 1 8 v15 v23 σ fun v24 σ =>
 vLd v5 σ fun v25 _ =>
 vSame v25 v6 (vBin PP .add 3 t15 (.int .i64 (.ofNat 1)) fun v26 =>
 l_fixed_Secrets_rrrlrd x m0 t2 t3 v24 t13 t14 v26 σ K))))))))))) (vRet t5 σ K)
theorem l_fixed_Secrets_rrrlrdE (x : VE) (m0 : Nat) (t2 t3 t5 t13 t14 t15 : V) (σ : Hp) (K : KV) : l_fixed_Secrets_rrrlrd x (m0 + 1) t2 t3 t5 t13 t14 t15 σ K = l_fixed_Secrets_rrrlrdB x m0 t2 t3 t5 t13 t14 t15 σ K := by kernel_rfl

/-! consistory/fixed.May -/
noncomputable def r_fixed_May (x : VE) (a0 a1 : V) (σ : Hp) (K : KV) : Prop :=
 vBox 25 a0 σ fun v0 σ =>
 vBox 38 a1 σ fun v1 σ =>
 vLdN 12 v0 σ fun v2 σ =>
 x.call c_fixed_fit [v2] σ fun v3 σ =>
 vUn .not v3 fun v4 =>
 shutP x.most (vGuard false v4 (fun k => vFld 0 v1 fun v5 =>
 k v5 σ) σ fun v6 σ =>
 shutP x.most (vGuard false v4 (fun k => vLd v6 σ fun v7 σ =>
 k v7 σ) σ fun v8 σ =>
 shutP x.most (vGuard false v4 (fun k => vLenS v8 fun v9 =>
 k v9 σ) σ fun v10 σ =>
 shutP x.most (vGuard false v4 (fun k => vFld 7 v0 fun v11 =>
 k v11 σ) σ fun v12 σ =>
 shutP x.most (vGuard false v4 (fun k => vLd v12 σ fun v13 σ =>
 k v13 σ) σ fun v14 σ =>
 shutP x.most (vGuard false v4 (fun k => vBin PP .neq 3 v10 v14 fun v15 =>
 k v15 σ) σ fun v16 σ =>
 shutP x.most (vPick v4 (.bool true) v16 fun v17 =>
 shutP x.most (vGuard false v17 (fun k => vFld 1 v1 fun v18 =>
 k v18 σ) σ fun v19 σ =>
 shutP x.most (vGuard false v17 (fun k => vLd v19 σ fun v20 σ =>
 k v20 σ) σ fun v21 σ =>
 shutP x.most (vGuard false v17 (fun k => vLenS v21 fun v22 =>
 k v22 σ) σ fun v23 σ =>
 shutP x.most (vGuard false v17 (fun k => vFld 7 v0 fun v24 =>
 k v24 σ) σ fun v25 σ =>
 shutP x.most (vGuard false v17 (fun k => vLd v25 σ fun v26 σ =>
 k v26 σ) σ fun v27 σ =>
 shutP x.most (vGuard false v17 (fun k => vBin PP .neq 3 v23 v27 fun v28 =>
 k v28 σ) σ fun v29 σ =>
 shutP x.most (vPick v17 (.bool true) v29 fun v30 =>
 shutP x.most (vGuard false v30 (fun k => vFld 0 v1 fun v31 =>
 k v31 σ) σ fun v32 σ =>
 shutP x.most (vGuard false v30 (fun k => vLd v32 σ fun v33 σ =>
 k v33 σ) σ fun v34 σ =>
 shutP x.most (vGuard false v30 (fun k => k (.func c_fixed_May_1 [] [v0]) σ) σ fun v35 σ =>
 shutP x.most (vGuard false v30 (fun k => x.call c_slices_ContainsFunc_list_list_int64_list_int64 [v34, v35] σ fun v36 σ =>
 k v36 σ) σ fun v37 σ =>
 shutP x.most (vPick v30 (.bool true) v37 fun v38 =>
 vIf v38 (vRet (.bool false) σ K) (vFld 10 v0 fun v39 =>
 vLd v39 σ fun v40 σ =>
 vFld 0 v1 fun v41 =>
 vLd v41 σ fun v42 σ =>
 x.call c_fixed_within [v40, v42] σ fun v43 σ =>
 shutP x.most (vGuard true v43 (fun k => vFld 10 v0 fun v44 =>
 k v44 σ) σ fun v45 σ =>
 shutP x.most (vGuard true v43 (fun k => vLd v45 σ fun v46 σ =>
 k v46 σ) σ fun v47 σ =>
 shutP x.most (vGuard true v43 (fun k => vFld 1 v1 fun v48 =>
 k v48 σ) σ fun v49 σ =>
 shutP x.most (vGuard true v43 (fun k => vLd v49 σ fun v50 σ =>
 k v50 σ) σ fun v51 σ =>
 shutP x.most (vGuard true v43 (fun k => vBuildS 36 1 [(.slice none 0 0)] [(0, 1, v51)] σ fun v52 σ =>
 k v52 σ) σ fun v53 σ =>
 shutP x.most (vGuard true v43 (fun k => x.call c_fixed_within [v47, v53] σ fun v54 σ =>
 k v54 σ) σ fun v55 σ =>
 shutP x.most (vPick v43 v55 (.bool false) fun v56 =>
 vRet v56 σ K)))))))))))))))))))))))))))
theorem f_fixed_May (x : VE) (a0 a1 : V) (σ : Hp) (K : KV) : fnV PP tbS c_fixed_May x [a0, a1] σ K = r_fixed_May x a0 a1 σ K := by kernel_rfl

/-! consistory/fixed.fit -/
noncomputable def r_fixed_fit (x : VE) (a0 : V) (σ : Hp) (K : KV) : Prop :=
 vBox 25 a0 σ fun v0 σ =>
 vFld 7 v0 fun v1 =>
 vLd v1 σ fun v2 σ =>
 vBin PP .geq 3 v2 (.int .i64 (.ofNat 0)) fun v3 =>
 shutP x.most (vGuard true v3 (fun k => vFld 7 v0 fun v4 =>
 k v4 σ) σ fun v5 σ =>
 shutP x.most (vGuard true v3 (fun k => vLd v5 σ fun v6 σ =>
 k v6 σ) σ fun v7 σ =>
 shutP x.most (vGuard true v3 (fun k => vBin PP .leq 3 v7 (.int .i64 (.ofNat 2)) fun v8 =>
 k v8 σ) σ fun v9 σ =>
 shutP x.most (vPick v3 v9 (.bool false) fun v10 =>
 shutP x.most (vGuard true v10 (fun k => vFld 8 v0 fun v11 =>
 k v11 σ) σ fun v12 σ =>
 shutP x.most (vGuard true v10 (fun k => vLd v12 σ fun v13 σ =>
 k v13 σ) σ fun v14 σ =>
 shutP x.most (vGuard true v10 (fun k => vBin PP .geq 3 v14 (.int .i64 (.ofNat 0)) fun v15 =>
 k v15 σ) σ fun v16 σ =>
 shutP x.most (vPick v10 v16 (.bool false) fun v17 =>
 shutP x.most (vGuard true v17 (fun k => vFld 8 v0 fun v18 =>
 k v18 σ) σ fun v19 σ =>
 shutP x.most (vGuard true v17 (fun k => vLd v19 σ fun v20 σ =>
 k v20 σ) σ fun v21 σ =>
 shutP x.most (vGuard true v17 (fun k => vBin PP .leq 3 v21 (.int .i64 (.ofNat 4)) fun v22 =>
 k v22 σ) σ fun v23 σ =>
 shutP x.most (vPick v17 v23 (.bool false) fun v24 =>
 shutP x.most (vGuard true v24 (fun k => vFld 10 v0 fun v25 =>
 k v25 σ) σ fun v26 σ =>
 shutP x.most (vGuard true v24 (fun k => vLd v26 σ fun v27 σ =>
 k v27 σ) σ fun v28 σ =>
 shutP x.most (vGuard true v24 (fun k => vBin PP .geq 2 v28 (.int .i64 (.ofNat 0)) fun v29 =>
 k v29 σ) σ fun v30 σ =>
 shutP x.most (vPick v24 v30 (.bool false) fun v31 =>
 shutP x.most (vGuard true v31 (fun k => vFld 10 v0 fun v32 =>
 k v32 σ) σ fun v33 σ =>
 shutP x.most (vGuard true v31 (fun k => vLd v33 σ fun v34 σ =>
 k v34 σ) σ fun v35 σ =>
 shutP x.most (vGuard true v31 (fun k => vBin PP .leq 2 v35 (.int .i64 (.ofNat 1048576)) fun v36 =>
 k v36 σ) σ fun v37 σ =>
 shutP x.most (vPick v31 v37 (.bool false) fun v38 =>
 shutP x.most (vGuard true v38 (fun k => vFld 11 v0 fun v39 =>
 k v39 σ) σ fun v40 σ =>
 shutP x.most (vGuard true v38 (fun k => vLd v40 σ fun v41 σ =>
 k v41 σ) σ fun v42 σ =>
 shutP x.most (vGuard true v38 (fun k => vBin PP .geq 2 v42 (.int .i64 (.ofNat 0)) fun v43 =>
 k v43 σ) σ fun v44 σ =>
 shutP x.most (vPick v38 v44 (.bool false) fun v45 =>
 shutP x.most (vGuard true v45 (fun k => vFld 11 v0 fun v46 =>
 k v46 σ) σ fun v47 σ =>
 shutP x.most (vGuard true v45 (fun k => vLd v47 σ fun v48 σ =>
 k v48 σ) σ fun v49 σ =>
 shutP x.most (vGuard true v45 (fun k => vBin PP .leq 2 v49 (.int .i64 (.ofNat 1048576)) fun v50 =>
 k v50 σ) σ fun v51 σ =>
 shutP x.most (vPick v45 v51 (.bool false) fun v52 =>
 vRet v52 σ K))))))))))))))))))))))))))))
theorem f_fixed_fit (x : VE) (a0 : V) (σ : Hp) (K : KV) : fnV PP tbS c_fixed_fit x [a0] σ K = r_fixed_fit x a0 σ K := by kernel_rfl

/-! consistory/fixed.May$1 -/
noncomputable def r_fixed_May_1 (x : VE) (a0 a1 : V) (σ : Hp) (K : KV) : Prop :=
 vLenS a0 fun v0 =>
 vFld 8 a1 fun v1 =>
 vLd v1 σ fun v2 σ =>
 vBin PP .neq 3 v0 v2 fun v3 =>
 vRet v3 σ K
theorem f_fixed_May_1 (x : VE) (a0 a1 : V) (σ : Hp) (K : KV) : fnV PP tbS c_fixed_May_1 x [a0, a1] σ K = r_fixed_May_1 x a0 a1 σ K := by kernel_rfl

/-! consistory/fixed.within -/
noncomputable def l_fixed_within_rlrd (x : VE) (m : Nat) (t2 t7 t8 t9 : V) (σ : Hp) (K : KV) : Prop := vjmpL PP tbS c_fixed_within x [.r, .l, .r, .d] m [] [t2, t7, t8, t9] σ K
noncomputable def r_fixed_within (x : VE) (a0 a1 : V) (σ : Hp) (K : KV) : Prop :=
 vBox 2 a0 σ fun v0 σ =>
 vLenS a1 fun v1 =>
 l_fixed_within_rlrd x x.most v0 a1 v1 (.int .i64 (.ofNat 0)) σ K
theorem f_fixed_within (x : VE) (a0 a1 : V) (σ : Hp) (K : KV) : fnV PP tbS c_fixed_within x [a0, a1] σ K = r_fixed_within x a0 a1 σ K := by kernel_rfl
noncomputable def l_fixed_within_rlrdB (x : VE) (m0 : Nat) (t2 t7 t8 t9 : V) (σ : Hp) (K : KV) : Prop :=
 vDrop σ fun σ =>
 vBin PP .lss 3 t9 t8 fun v0 =>
 vIf v0 (vIdx 1 t7 t9 fun v1 =>
 vLd v1 σ fun v2 σ =>
 x.call c_slices_ContainsFunc_list_int64_int64 [v2, (.func c_fixed_within_1 [] [t2])] σ fun v3 σ =>
 vIf v3 (vRet (.bool false) σ K) (vBin PP .add 3 t9 (.int .i64 (.ofNat 1)) fun v4 =>
 l_fixed_within_rlrd x m0 t2 t7 t8 v4 σ K)) (vRet (.bool true) σ K)
theorem l_fixed_within_rlrdE (x : VE) (m0 : Nat) (t2 t7 t8 t9 : V) (σ : Hp) (K : KV) : l_fixed_within_rlrd x (m0 + 1) t2 t7 t8 t9 σ K = l_fixed_within_rlrdB x m0 t2 t7 t8 t9 σ K := by kernel_rfl

/-! consistory/fixed.within$1 -/
noncomputable def r_fixed_within_1 (x : VE) (a0 a1 : V) (σ : Hp) (K : KV) : Prop :=
 vLd a1 σ fun v0 σ =>
 vUn .neg v0 fun v1 =>
 vBin PP .lss 2 a0 v1 fun v2 =>
 shutP x.most (vGuard false v2 (fun k => k a0 σ) σ fun v3 σ =>
 shutP x.most (vGuard false v2 (fun k => vLd a1 σ fun v4 σ =>
 k v4 σ) σ fun v5 σ =>
 shutP x.most (vGuard false v2 (fun k => vBin PP .gtr 2 v3 v5 fun v6 =>
 k v6 σ) σ fun v7 σ =>
 shutP x.most (vPick v2 (.bool true) v7 fun v8 =>
 vRet v8 σ K))))
theorem f_fixed_within_1 (x : VE) (a0 a1 : V) (σ : Hp) (K : KV) : fnV PP tbS c_fixed_within_1 x [a0, a1] σ K = r_fixed_within_1 x a0 a1 σ K := by kernel_rfl

/-! consistory/fixed.numbers -/
noncomputable def l_fixed_numbers_rrlrd (x : VE) (m : Nat) (t0 t5 t8 t9 t10 : V) (σ : Hp) (K : KV) : Prop := vjmpL PP tbS c_fixed_numbers x [.r, .r, .l, .r, .d] m [] [t0, t5, t8, t9, t10] σ K
noncomputable def r_fixed_numbers (x : VE) (a0 a1 : V) (σ : Hp) (K : KV) : Prop :=
 vLenS a1 fun v0 =>
 l_fixed_numbers_rrlrd x x.most a0 .nil a1 v0 (.int .i64 (.ofNat 0)) σ K
theorem f_fixed_numbers (x : VE) (a0 a1 : V) (σ : Hp) (K : KV) : fnV PP tbS c_fixed_numbers x [a0, a1] σ K = r_fixed_numbers x a0 a1 σ K := by kernel_rfl
noncomputable def l_fixed_numbers_rrlrdB (x : VE) (m0 : Nat) (t0 t5 t8 t9 t10 : V) (σ : Hp) (K : KV) : Prop :=
 vDrop σ fun σ =>
 vBin PP .lss 3 t10 t9 fun v0 =>
 vIf v0 (vIdx 1 t8 t10 fun v1 =>
 vLd v1 σ fun v2 σ =>
 x.call c_fixed_Num [v2, t0] σ fun v3 σ =>
 vBuildS 22 1 [(.int .u64 (.ofNat 0))] [(0, 1, v3)] σ fun v4 σ =>
 vApp 22 1 8 t5 v4 σ fun v5 σ =>
 vBin PP .add 3 t10 (.int .i64 (.ofNat 1)) fun v6 =>
 l_fixed_numbers_rrlrd x m0 t0 v5 t8 t9 v6 σ K) (vRet t5 σ K)
theorem l_fixed_numbers_rrlrdE (x : VE) (m0 : Nat) (t0 t5 t8 t9 t10 : V) (σ : Hp) (K : KV) : l_fixed_numbers_rrlrd x (m0 + 1) t0 t5 t8 t9 t10 σ K = l_fixed_numbers_rrlrdB x m0 t0 t5 t8 t9 t10 σ K := by kernel_rfl

/-! consistory/fixed.Num -/
noncomputable def r_fixed_Num (x : VE) (a0 a1 : V) (σ : Hp) (K : KV) : Prop :=
 vBin PP .lss 2 a0 (.int .i64 (.ofNat 0)) fun v0 =>
 vIf v0 (vInt .u64 a0 fun v1 =>
 vUn .neg v1 fun v2 =>
 x.call c_mod_Sub [(.int .u64 (.ofNat 0)), v2, a1] σ fun v3 σ =>
 vRet v3 σ K) (vInt .u64 a0 fun v4 =>
 x.call c_mod_Add [v4, (.int .u64 (.ofNat 0)), a1] σ fun v5 σ =>
 vRet v5 σ K)
theorem f_fixed_Num (x : VE) (a0 a1 : V) (σ : Hp) (K : KV) : fnV PP tbS c_fixed_Num x [a0, a1] σ K = r_fixed_Num x a0 a1 σ K := by kernel_rfl

end Go.Am

set_option linter.unusedVariables false
set_option maxRecDepth 4000
namespace Go.Am
open Go.Proofs.Mdl
abbrev iz (z : Int) : V := .int .i64 z
def numZ (z : Int) : Nat := if z < 0 then subN 0 (-z).toNat 23 else addq z.toNat 0
theorem numZ_lt (z : Int) : numZ z < 23 := by unfold numZ; split; exact Nat.mod_lt _ (by decide); exact Nat.mod_lt _ (by decide)
abbrev w1 (τ : Tag) (z : Int) : V := .list τ [.int .i64 z] 1
abbrev w2 (τ : Tag) (z : Int) : V := .list τ [.list [.int .i64 z] 1] 1
def mdl (τ1 τ2 : Tag) (a b : Int) : V := .agg [w2 τ1 a, w1 τ2 b]
def okZ (z : Int) : Prop := -2 ≤ z ∧ z ≤ 2
theorem okZ_5 {z : Int} (h : okZ z) : z = -2 ∨ z = -1 ∨ z = 0 ∨ z = 1 ∨ z = 2 := by unfold okZ at h; omega
section
variable {M n : Nat} {x : VE} {σ : Hp} {K : KV} {two : Bool}
theorem o_num : gM c_fixed_Num = none := rfl
theorem o_nums : gM c_fixed_numbers = none := rfl
theorem o_within : gM c_fixed_within = none := rfl
theorem o_within1 : gM c_fixed_within_1 = none := rfl
theorem o_fit : gM c_fixed_fit = none := rfl
theorem o_fmay : gM c_fixed_May = none := rfl
theorem o_fmay1 : gM c_fixed_May_1 = none := rfl
theorem o_secr : gM c_fixed_Secrets = none := rfl
theorem o_cl : gM c_slices_ContainsFunc_list_list_int64_list_int64 = none := rfl
theorem o_il : gM c_slices_IndexFunc_list_list_int64_list_int64 = none := rfl
theorem o_c6 : gM c_slices_ContainsFunc_list_int64_int64 = none := rfl
theorem o_i6 : gM c_slices_IndexFunc_list_int64_int64 = none := rfl
theorem num_s (hx : Deep PP tbS gM M (n + 2) x) {z : Int} (hz : okZ z) (hK : K (nu (numZ z)) σ) : x.call c_fixed_Num [iz z, nu 23] σ K := by
 refine hx.call o_num fun y hy => ?_
 rw [f_fixed_Num]
 unfold r_fixed_Num
 rw [vBinI_lss]
 rcases okZ_5 hz with rfl | rfl | rfl | rfl | rfl
 · show y.call c_mod_Sub [nu 0, nu 2, nu 23] σ _
   exact sub_c hy (by decide) (by decide) q23 (vRet_here hK)
 · show y.call c_mod_Sub [nu 0, nu 1, nu 23] σ _
   exact sub_c hy (by decide) (by decide) q23 (vRet_here hK)
 · show y.call c_mod_Add [nu 0, nu 0, nu 23] σ _
   exact add_c hy (by decide) (by decide) q23 (vRet_here hK)
 · show y.call c_mod_Add [nu 1, nu 0, nu 23] σ _
   exact add_c hy (by decide) (by decide) q23 (vRet_here hK)
 · show y.call c_mod_Add [nu 2, nu 0, nu 23] σ _
   exact add_c hy (by decide) (by decide) q23 (vRet_here hK)
theorem lv {τ : Tag} {z : Int} {K : V → Prop} : vLenS (w1 τ z) K = K (ni 1) := rfl
theorem within1_s (hx : Deep PP tbS gM M (n + 1) x) {z : Int} (hz : okZ z) {b : Nat} (hb : σ b = some (.row [ni 2] 2)) (hK : K (.bool false) σ) : x.call c_fixed_within_1 [iz z, .ptr b 0] σ K := by
 refine hx.call o_within1 fun y hy => ?_
 rw [f_fixed_within_1]
 unfold r_fixed_within_1
 rw [ldp hb rfl]
 show vBin PP .lss 2 (iz z) (iz (-2)) _
 have h1 : decide (z < -2) = false := decide_eq_false (by have := hz.1; omega)
 have h2 : decide ((2 : Int) < z) = false := decide_eq_false (by have := hz.2; omega)
 rw [vBinI_lss, h1]
 simp only [shutP_eq, vGuard_t, vPick_f]
 rw [ldp hb rfl, vBinI_gtr, show decide (Int.ofNat 2 < z) = false from h2]
 exact vRet_here hK
theorem cont6_s (hM : 10 < M) (hx : Deep PP tbS gM M (n + 3) x) {τ : Tag} {z : Int} (hz : okZ z) {b : Nat} (hb : σ b = some (.row [ni 2] 2)) (hK : K (.bool false) σ) : x.call c_slices_ContainsFunc_list_int64_int64 [w1 τ z, .func c_fixed_within_1 [] [.ptr b 0]] σ K := by
 refine hx.call o_c6 fun y hy => ?_
 rw [f_slices_ContainsFunc_list_int64_int64]
 unfold r_slices_ContainsFunc_list_int64_int64
 refine hy.call o_i6 fun u hu => ?_
 rw [f_slices_IndexFunc_list_int64_int64]
 unfold r_slices_IndexFunc_list_int64_int64
 obtain ⟨m, hm⟩ : ∃ m, M = m + 2 := ⟨M - 2, by omega⟩
 rw [lv, hu.most, hm, l_slices_IndexFunc_list_int64_int64_rlrdE]
 unfold l_slices_IndexFunc_list_int64_int64_rlrdB
 refine vDrop_here ?_
 rw [vLss_n, dlt (by decide), vIf_t, vIdx_l (by decide)]
 show u.call c_fixed_within_1 [iz z, .ptr b 0] σ _
 refine within1_s hu hz hb ?_
 rw [vIf_f, vAdd_n (by decide), l_slices_IndexFunc_list_int64_int64_rlrdE]
 unfold l_slices_IndexFunc_list_int64_int64_rlrdB
 refine vDrop_here ?_
 rw [vLss_n, dnlt (by decide), vIf_f]
 refine vRet_here ?_
 rw [vBinI_geq]
 exact vRet_here hK
def One (σ : Hp) (v : V) (z : Int) : Prop := ∃ p τ, (∀ K : V → Prop, vLenS v K = K (ni 1)) ∧ (∀ K : V → Prop, vIdx 1 v (ni 0) K = K p) ∧ ∀ σ', Hle σ σ' → ∀ K : KV, vLd p σ' K = K (w1 τ z) σ'
theorem One.val {τ : Tag} {z : Int} : One σ (w2 τ z) z := ⟨.lptr τ [.list [.int .i64 z] 1] (0 * 1), .sub τ (0 * 1), fun _ => rfl, fun _ => vIdx_l (by decide), fun σ' _ K => by rw [Nat.zero_mul, vLd_l]; rfl⟩
theorem within_s (hM : 10 < M) (hx : Deep PP tbS gM M (n + 4) x) {v : V} {z : Int} (hz : okZ z) (ho : One σ v z) (hK : K (.bool true) σ) : x.call c_fixed_within [ni 2, v] σ K := by
 refine hx.call o_within fun y hy => ?_
 rw [f_fixed_within]
 unfold r_fixed_within
 refine box1 rfl fun b hb => ?_
 have rb : upd σ b (.row [ni 2] 2) b = some (.row [ni 2] 2) := upd_same
 have le : Hle σ (upd σ b (.row [ni 2] 2)) := .upd_new hb
 obtain ⟨p, τ, h1, h2, h3⟩ := ho
 obtain ⟨m, hm⟩ : ∃ m, M = m + 2 := ⟨M - 2, by omega⟩
 rw [h1, hy.most, hm, l_fixed_within_rlrdE]
 unfold l_fixed_within_rlrdB
 refine vDrop_here ?_
 rw [vLss_n, dlt (by decide), vIf_t, h2, h3 _ le]
 refine cont6_s (n := n) hM hy hz rb ?_
 rw [vIf_f, vAdd_n (by decide), l_fixed_within_rlrdE]
 unfold l_fixed_within_rlrdB
 refine vDrop_here ?_
 rw [vLss_n, dnlt (by decide), vIf_f]
 exact vRet_drop le hK
theorem fit_s (hx : Deep PP tbS gM M (n + 1) x) (hK : K (.bool true) σ) : x.call c_fixed_fit [.agg (pv two)] σ K := by
 refine hx.call o_fit fun y hy => ?_
 rw [f_fixed_fit]
 unfold r_fixed_fit
 refine vBox_agg pv_one fun b hb => ?_
 have rb : upd σ b (.row (pv two) 25) b = some (.row (pv two) 25) := upd_same
 have e7 : (pv two)[7]? = some (ni 1) := rfl
 have e8 : (pv two)[8]? = some (ni 1) := rfl
 have e10 : (pv two)[10]? = some (ni 2) := rfl
 have e11 : (pv two)[11]? = some (ni 2) := rfl
 have hg : ∀ {a b : Nat} {t : TypeId} {k : V → Prop}, vBin PP .leq t (ni a) (ni b) k = k (.bool (decide (a ≤ b))) := fun {a b t k} => by rw [vBinI_leq]; congr 2; simp
 simp only [shutP_eq]
 rw [vFld_z, ldp rb e7, vGeq_n, decide_eq_true (by decide)]
 simp only [vGuard_t]
 rw [vFld_z, ldp rb e7, hg, decide_eq_true (by decide), vPick_t]
 simp only [vGuard_t]
 rw [vFld_z, ldp rb e8, vGeq_n, decide_eq_true (by decide), vPick_t]
 simp only [vGuard_t]
 rw [vFld_z, ldp rb e8, hg, decide_eq_true (by decide), vPick_t]
 simp only [vGuard_t]
 rw [vFld_z, ldp rb e10, vGeq_n, decide_eq_true (by decide), vPick_t]
 simp only [vGuard_t]
 rw [vFld_z, ldp rb e10, hg, decide_eq_true (by decide), vPick_t]
 simp only [vGuard_t]
 rw [vFld_z, ldp rb e11, vGeq_n, decide_eq_true (by decide), vPick_t]
 simp only [vGuard_t]
 rw [vFld_z, ldp rb e11, hg, decide_eq_true (by decide), vPick_t]
 exact vRet_drop (.upd_new hb) hK
theorem contL_s (hM : 10 < M) (hx : Deep PP tbS gM M (n + 3) x) {v : V} {z : Int} (ho : One σ v z) {b : Nat} (hb : σ b = some (.row (pv two) 25)) (hK : K (.bool false) σ) : x.call c_slices_ContainsFunc_list_list_int64_list_int64 [v, .func c_fixed_May_1 [] [.ptr b 0]] σ K := by
 refine hx.call o_cl fun y hy => ?_
 rw [f_slices_ContainsFunc_list_list_int64_list_int64]
 unfold r_slices_ContainsFunc_list_list_int64_list_int64
 refine hy.call o_il fun u hu => ?_
 rw [f_slices_IndexFunc_list_list_int64_list_int64]
 unfold r_slices_IndexFunc_list_list_int64_list_int64
 obtain ⟨p, τ, h1, h2, h3⟩ := ho
 obtain ⟨m, hm⟩ : ∃ m, M = m + 2 := ⟨M - 2, by omega⟩
 rw [h1, hu.most, hm, l_slices_IndexFunc_list_list_int64_list_int64_rlrdE]
 unfold l_slices_IndexFunc_list_list_int64_list_int64_rlrdB
 refine vDrop_here ?_
 rw [vLss_n, dlt (by decide), vIf_t, h2, h3 _ (.refl _)]
 show u.call c_fixed_May_1 [w1 τ z, .ptr b 0] σ _
 refine hu.call o_fmay1 fun w hw => ?_
 rw [f_fixed_May_1]
 unfold r_fixed_May_1
 have e8 : (pv two)[8]? = some (ni 1) := rfl
 rw [lv, vFld_z, ldp hb e8, vNeq_n]
 refine vRet_here ?_
 show vIf (.bool false) _ _
 rw [vIf_f, vAdd_n (by decide), l_slices_IndexFunc_list_list_int64_list_int64_rlrdE]
 unfold l_slices_IndexFunc_list_list_int64_list_int64_rlrdB
 refine vDrop_here ?_
 rw [vLss_n, dnlt (by decide), vIf_f]
 refine vRet_here ?_
 rw [vBinI_geq]
 exact vRet_here hK
theorem fmay_s (hM : 10 < M) (hx : Deep PP tbS gM M (n + 5) x) {τ1 τ2 : Tag} {a b : Int} (ha : okZ a) (hb : okZ b) (hK : K (.bool true) σ) : x.call c_fixed_May [.agg (pv two), mdl τ1 τ2 a b] σ K := by
 refine hx.call o_fmay fun y hy => ?_
 rw [f_fixed_May]
 unfold r_fixed_May
 refine vBox_agg pv_one fun p hp => ?_
 have le1 : Hle σ (upd σ p (.row (pv two) 25)) := .upd_new hp
 have rp : upd σ p (.row (pv two) 25) p = some (.row (pv two) 25) := upd_same
 generalize upd σ p (.row (pv two) 25) = σ1 at le1 rp
 refine vBox_agg rfl fun q hq => ?_
 have le2 : Hle σ1 (upd σ1 q (.row [w2 τ1 a, w1 τ2 b] 38)) := .upd_new hq
 have rq : upd σ1 q (.row [w2 τ1 a, w1 τ2 b] 38) q = some (.row [w2 τ1 a, w1 τ2 b] 38) := upd_same
 generalize upd σ1 q (.row [w2 τ1 a, w1 τ2 b] 38) = σ2 at le2 rq
 have rp := le2 _ _ rp
 have e7 : (pv two)[7]? = some (ni 1) := rfl
 have e10 : (pv two)[10]? = some (ni 2) := rfl
 rw [vLdN_p rp, vPart_ok (by rw [pv_len]; omega), List.drop_zero, List.take_of_length_le (by rw [pv_len]; omega)]
 refine fit_s (n := n + 3) hy ?_
 have l2 : ∀ {τ : Tag} {z : Int} {k : V → Prop}, vLenS (w2 τ z) k = k (ni 1) := rfl
 simp only [shutP_eq, vNot_b, Bool.not_true, vGuard_t]
 rw [vFld_z, ldp rq rfl, l2, vFld_z, ldp rp e7, vNeq_n, decide_eq_true rfl, Bool.not_true, vPick_f]
 simp only [vGuard_t]
 rw [vFld_z, ldp (o := 1) rq rfl, lv, vFld_z, ldp rp e7, vNeq_n, decide_eq_true rfl, Bool.not_true, vPick_f]
 simp only [vGuard_t]
 rw [vFld_z, ldp rq rfl]
 refine contL_s (n := n + 1) hM hy .val rp ?_
 rw [vPick_f, vIf_f, vFld_z, ldp rp e10, vFld_z, ldp rq rfl]
 refine within_s (n := n) hM hy ha .val ?_
 simp only [vGuard_t]
 rw [vFld_z, ldp rp e10, vFld_z, ldp (o := 1) rq rfl]
 refine ⟨rfl, by simp, fun j hj => ?_⟩
 have le3 : Hle σ2 (upd σ2 j (.row [w1 τ2 b] 36)) := .upd_new hj
 show y.call c_fixed_within [ni 2, .own j 0 1 1] (upd σ2 j (.row [w1 τ2 b] 36)) _
 have rj : upd σ2 j (.row [w1 τ2 b] 36) j = some (.row [w1 τ2 b] 36) := upd_same
 refine within_s (n := n) hM hy hb ⟨.ptr j 0, τ2, fun _ => rfl, fun _ => ?_, fun σ' hle K => ldp (hle _ _ rj) rfl⟩ ?_
 · show (0 < 1 ∧ _) = _
   simp
 · rw [vPick_t]
   exact vRet_drop ((le1.trans le2).trans le3) hK
theorem nums_s (hM : 10 < M) (hx : Deep PP tbS gM M (n + 3) x) {τ : Tag} {z : Int} (hz : okZ z) (hK : ∀ w σ', Hle σ σ' → MN σ σ' w [numZ z] → K w σ') : x.call c_fixed_numbers [nu 23, w1 τ z] σ K := by
 refine hx.call o_nums fun y hy => ?_
 rw [f_fixed_numbers]
 unfold r_fixed_numbers
 obtain ⟨m, hm⟩ : ∃ m, M = m + 2 := ⟨M - 2, by omega⟩
 rw [lv, hy.most, hm, l_fixed_numbers_rrlrdE]
 unfold l_fixed_numbers_rrlrdB
 refine vDrop_here ?_
 rw [vLss_n, dlt (by decide), vIf_t, vIdx_l (by decide)]
 show y.call c_fixed_Num [iz z, nu 23] σ _
 refine num_s hy hz ?_
 refine (MN.nil (σ0 := σ)).app (.refl _) (by simp) fun w σ1 le1 k1 m1 => ?_
 rw [vAdd_n (by decide), l_fixed_numbers_rrlrdE]
 unfold l_fixed_numbers_rrlrdB
 refine vDrop_here ?_
 rw [vLss_n, dnlt (by decide), vIf_f]
 exact vRet_here (hK w σ1 le1 m1)
def secL (a b : Int) : List Nat := [numZ a, numZ b]
theorem MN.app1 {σ0 σ : Hp} {v : V} {n : Nat} {K : KV} (h : NV σ v [n]) (hs : Hle σ0 σ) (hk : ∀ w σ', Hle σ σ' → MN σ0 σ' w [n] → K w σ') : vApp 22 1 8 .nil v σ K := by
 refine h.src ?_
 refine ⟨nvs_one [n], ⟨by decide, fun i hi => ?_⟩⟩
 exact hk _ _ (.upd_new hi) (.acc (l := [n]) (hs.none hi) upd_same)
theorem secrets'_s (hM : 10 < M) (hx : Deep PP tbS gM M (n + 6) x) {τ1 τ2 : Tag} {a b : Int} (ha : okZ a) (hb : okZ b) (hK : ∀ w σ', Hle σ σ' → MN σ σ' w (secL a b) → K w σ') : x.call c_fixed_Secrets [.agg (pv two), mdl τ1 τ2 a b] σ K := by
 refine hx.call o_secr fun y hy => ?_
 rw [f_fixed_Secrets]
 unfold r_fixed_Secrets
 refine vBox_agg pv_one fun p hp => ?_
 have le1 : Hle σ (upd σ p (.row (pv two) 25)) := .upd_new hp
 have rp : upd σ p (.row (pv two) 25) p = some (.row (pv two) 25) := upd_same
 generalize upd σ p (.row (pv two) 25) = σ1 at le1 rp
 refine vBox_agg rfl fun q hq => ?_
 have le2 : Hle σ1 (upd σ1 q (.row [w2 τ1 a, w1 τ2 b] 38)) := .upd_new hq
 have rq : upd σ1 q (.row [w2 τ1 a, w1 τ2 b] 38) q = some (.row [w2 τ1 a, w1 τ2 b] 38) := upd_same
 generalize upd σ1 q (.row [w2 τ1 a, w1 τ2 b] 38) = σ2 at le2 rq
 have rp := le2 _ _ rp
 have e1 : (pv two)[1]? = some (nu 23) := rfl
 have l2 : ∀ {τ : Tag} {z : Int} {k : V → Prop}, vLenS (w2 τ z) k = k (ni 1) := rfl
 rw [vLdN_p rp, vPart_ok (by rw [pv_len]; omega), List.drop_zero, List.take_of_length_le (by rw [pv_len]; omega), vLdN_p rq, vPart_ok (by simp)]
 show y.call c_fixed_May [.agg (pv two), mdl τ1 τ2 a b] σ2 _
 refine fmay_s (n := n) hM hy ha hb ?_
 obtain ⟨m, hm⟩ : ∃ m, M = m + 2 := ⟨M - 2, by omega⟩
 rw [vNot_b, Bool.not_true, vIf_f, vFld_z, ldp rq rfl, l2, hy.most, hm, l_fixed_Secrets_rrrlrdE]
 unfold l_fixed_Secrets_rrrlrdB
 refine vDrop_here ?_
 rw [vLss_n, dlt (by decide), vIf_t, vIdx_l (by decide), vLd_l, vNth_some (a := .list [.int .i64 a] 1) rfl, vFld_z, ldp rp e1, vFld_z, ldp (o := 1) rq rfl, vIdx_l (by decide), vLd_l, vNth_some (a := .int .i64 b) rfl, vFld_z, ldp rp e1]
 show y.call c_fixed_numbers [nu 23, w1 _ a] σ2 _
 refine nums_s (n := n + 2) hM hy ha fun w σ3 le3 mw => ?_
 have rp3 := le3 _ _ rp
 have rq3 := le3 _ _ rq
 rw [ldp rp3 e1, vSame_i, vLd_l, vNth_some (a := .int .i64 b) rfl]
 show vSame (iz b) (iz b) _
 rw [vSame_i, ldp (o := 1) rq3 rfl]
 show vSame (w1 τ2 b) (w1 τ2 b) _
 rw [vSame_ok rfl]
 refine MN.app1 (σ0 := σ) mw.nv ((le1.trans le2).trans le3) fun u σ4 le4 mu => ?_
 have rp4 := le4 _ _ rp3
 have rq4 := le4 _ _ rq3
 rw [ldp rp4 e1, vSame_i, vLd_l, vNth_some (a := .int .i64 b) rfl]
 show vSame (iz b) (iz b) _
 rw [vSame_i, ldp (o := 1) rq4 rfl]
 show vSame (w1 τ2 b) (w1 τ2 b) _
 rw [vSame_ok rfl]
 show y.call c_fixed_Num [iz b, nu 23] σ4 _
 refine num_s (n := n + 3) hy hb ?_
 rw [ldp (o := 1) rq4 rfl]
 show vSame (w1 τ2 b) (w1 τ2 b) _
 rw [vSame_ok rfl, ldp (o := 1) rq4 rfl]
 show vSame (w1 τ2 b) (w1 τ2 b) _
 rw [vSame_ok rfl]
 have le14 := ((le1.trans le2).trans le3).trans le4
 refine ⟨⟨rfl, by simp, fun j hj => trivial⟩, ?_⟩
 refine mu.app le14 (by simp) fun u5 σ5 le5 k5 m5 => ?_
 have rq5 := k5 _ _ rq4 (fun vs m e => by cases e)
 rw [ldp (o := 1) rq5 rfl]
 show vSame (w1 τ2 b) (w1 τ2 b) _
 rw [vSame_ok rfl, vAdd_n (by decide), l_fixed_Secrets_rrrlrdE]
 unfold l_fixed_Secrets_rrrlrdB
 refine vDrop_here ?_
 rw [vLss_n, dnlt (by decide), vIf_f]
 exact vRet_here (hK u5 σ5 le5 m5)
end
end Go.Am

set_option linter.unusedVariables false
set_option maxRecDepth 100000
namespace Go.Am

/-! consistory/consistorylaw31.MirrorLoad -/
/-! consistory/consistorylaw31.some -/
noncomputable def r_law31_some (x : VE) (a0 : V) (σ : Hp) (K : KV) : Prop :=
 vAlloc [(.int .u64 (.ofNat 0)), (.int .u64 (.ofNat 0)), (.int .u64 (.ofNat 0)), (.int .u64 (.ofNat 0)), (.int .i64 (.ofNat 0)), (.int .i64 (.ofNat 0)), (.int .i64 (.ofNat 0)), (.int .i64 (.ofNat 0)), (.int .i64 (.ofNat 0)), (.int .i64 (.ofNat 0)), (.int .i64 (.ofNat 0)), (.int .i64 (.ofNat 0))] 25 σ fun v0 σ =>
 vBuild [(.int .u64 (.ofNat 0)), (.int .u64 (.ofNat 0)), (.int .u64 (.ofNat 0)), (.int .u64 (.ofNat 0)), (.int .i64 (.ofNat 0)), (.int .i64 (.ofNat 0)), (.int .i64 (.ofNat 0)), (.int .i64 (.ofNat 0)), (.int .i64 (.ofNat 0)), (.int .i64 (.ofNat 0)), (.int .i64 (.ofNat 0)), (.int .i64 (.ofNat 0))] [(0, 1, (.int .u64 (.ofNat 47))), (1, 1, (.int .u64 (.ofNat 23))), (2, 1, (.int .u64 (.ofNat 2))), (3, 1, (.int .u64 (.ofNat 3))), (4, 1, (.int .i64 (.ofNat 5))), (5, 1, (.int .i64 (.ofNat 4))), (6, 1, (.int .i64 (.ofNat 1))), (7, 1, (.int .i64 (.ofNat 1))), (8, 1, (.int .i64 (.ofNat 1))), (9, 1, (.int .i64 (.ofNat 1))), (10, 1, (.int .i64 (.ofNat 2))), (11, 1, (.int .i64 (.ofNat 2)))] fun v1 =>
 vAlloc [(.int .u64 (.ofNat 0)), (.int .u64 (.ofNat 0)), (.int .u64 (.ofNat 0)), (.int .u64 (.ofNat 0)), (.int .i64 (.ofNat 0)), (.int .i64 (.ofNat 0)), (.int .i64 (.ofNat 0)), (.int .i64 (.ofNat 0)), (.int .i64 (.ofNat 0)), (.int .i64 (.ofNat 0)), (.int .i64 (.ofNat 0)), (.int .i64 (.ofNat 0))] 25 σ fun v2 σ =>
 vSt 12 v2 v1 σ fun σ =>
 vIf a0 (vFld 4 v2 fun v3 =>
 vSt 1 v3 (.int .i64 (.ofNat 7)) σ fun σ =>
 vFld 5 v2 fun v4 =>
 vSt 1 v4 (.int .i64 (.ofNat 7)) σ fun σ =>
 vFld 6 v2 fun v5 =>
 vSt 1 v5 (.int .i64 (.ofNat 2)) σ fun σ =>
 vLdN 12 v2 σ fun v6 σ =>
 vSt 12 v0 v6 σ fun σ =>
 vLdN 12 v0 σ fun v7 _ =>
 vRet v7 σ K) (vLdN 12 v2 σ fun v8 σ =>
 vSt 12 v0 v8 σ fun σ =>
 vLdN 12 v0 σ fun v9 _ =>
 vRet v9 σ K)
theorem f_law31_some (x : VE) (a0 : V) (σ : Hp) (K : KV) : fnV PP tbS c_law31_some x [a0] σ K = r_law31_some x a0 σ K := by kernel_rfl

/-! consistory/consistorylaw31.few -/
noncomputable def l_law31_few_rrlrd (x : VE) (m : Nat) (t1 t2 t5 t6 : V) (σ : Hp) (K : KV) : Prop := vjmpL PP tbS c_law31_few x [.r, .r, .l, .r, .d] m [] [t1, t2, t5, t6] σ K
noncomputable def l_law31_few_rrlrddrldrrlrd (x : VE) (m : Nat) (m0 : Nat) (t1 t2 t5 t6 t7 t8 t9 : V) (σ : Hp) (K : KV) : Prop := vjmpL PP tbS c_law31_few x [.r, .r, .l, .r, .d, .d, .r, .l, .d, .r, .r, .l, .r, .d] m [m0] [t1, t2, t5, t6, t7, t8, t9] σ K
noncomputable def j_law31_few_rrlrddrr (x : VE) (m0 : Nat) (t1 t2 t5 t6 : V) (σ : Hp) (K : KV) : Prop := vjmpJ PP tbS c_law31_few x [.r, .r, .l, .r, .d, .d, .r, .r] [m0] [t1, t2, t5, t6] σ K
noncomputable def r_law31_few (x : VE) (a0 a1 : V) (σ : Hp) (K : KV) : Prop :=
 vBox 25 a0 σ fun v0 σ =>
 l_law31_few_rrlrd x x.most a1 v0 .nil (.int .i64 (.ofNat 0)) σ K
theorem f_law31_few (x : VE) (a0 a1 : V) (σ : Hp) (K : KV) : fnV PP tbS c_law31_few x [a0, a1] σ K = r_law31_few x a0 a1 σ K := by kernel_rfl
noncomputable def l_law31_few_rrlrdB (x : VE) (m0 : Nat) (t1 t2 t5 t6 : V) (σ : Hp) (K : KV) : Prop :=
 vDrop σ fun σ =>
 vLenS t1 fun v0 =>
 vBin PP .lss 3 t6 v0 fun v1 =>
 shutP x.most (vGuard true v1 (fun k => k t5 σ) σ fun v2 σ =>
 shutP x.most (vGuard true v1 (fun k => vLenS v2 fun v3 =>
 k v3 σ) σ fun v4 σ =>
 shutP x.most (vGuard true v1 (fun k => vFld 6 t2 fun v5 =>
 k v5 σ) σ fun v6 σ =>
 shutP x.most (vGuard true v1 (fun k => vLd v6 σ fun v7 σ =>
 k v7 σ) σ fun v8 σ =>
 shutP x.most (vGuard true v1 (fun k => vBin PP .lss 3 v4 v8 fun v9 =>
 k v9 σ) σ fun v10 σ =>
 shutP x.most (vPick v1 v10 (.bool false) fun v11 =>
 vIf v11 (vIdx 1 t1 t6 fun v12 =>
 vLd v12 σ fun v13 σ =>
 vInt .i64 v13 fun v14 =>
 vFld 5 t2 fun v15 =>
 vLd v15 σ fun v16 σ =>
 vBin PP .rem 3 v14 v16 fun v17 =>
 vBin PP .add 3 (.int .i64 (.ofNat 1)) v17 fun v18 =>
 l_law31_few_rrlrddrldrrlrd x x.most m0 t1 t2 t5 t6 v18 (.bool true) (.int .i64 (.ofNat 0)) σ K) (vRet t5 σ K)))))))
theorem l_law31_few_rrlrdE (x : VE) (m0 : Nat) (t1 t2 t5 t6 : V) (σ : Hp) (K : KV) : l_law31_few_rrlrd x (m0 + 1) t1 t2 t5 t6 σ K = l_law31_few_rrlrdB x m0 t1 t2 t5 t6 σ K := by kernel_rfl
noncomputable def l_law31_few_rrlrddrldrrlrdB (x : VE) (m1 : Nat) (m0 : Nat) (t1 t2 t5 t6 t7 t8 t9 : V) (σ : Hp) (K : KV) : Prop :=
 vDrop σ fun σ =>
 vLenS t5 fun v0 =>
 vBin PP .lss 3 t9 v0 fun v1 =>
 vIf v1 (shutP x.most (vGuard true t8 (fun k => k t5 σ) σ fun v2 σ =>
 shutP x.most (vGuard true t8 (fun k => k t9 σ) σ fun v3 σ =>
 shutP x.most (vGuard true t8 (fun k => vIdx 1 v2 v3 fun v4 =>
 k v4 σ) σ fun v5 σ =>
 shutP x.most (vGuard true t8 (fun k => vLd v5 σ fun v6 σ =>
 k v6 σ) σ fun v7 σ =>
 shutP x.most (vGuard true t8 (fun k => k t7 σ) σ fun v8 σ =>
 shutP x.most (vGuard true t8 (fun k => vBin PP .neq 3 v7 v8 fun v9 =>
 k v9 σ) σ fun v10 σ =>
 shutP x.most (vPick t8 v10 (.bool false) fun v11 =>
 vBin PP .add 3 t9 (.int .i64 (.ofNat 1)) fun v12 =>
 l_law31_few_rrlrddrldrrlrd x m1 m0 t1 t2 t5 t6 t7 v11 v12 σ K)))))))) (vIf t8 (vBuildS 3 1 [(.int .i64 (.ofNat 0))] [(0, 1, t7)] σ fun v13 σ =>
 vApp 3 1 8 t5 v13 σ fun v14 σ =>
 j_law31_few_rrlrddrr x m0 t1 t2 v14 t6 σ K) (j_law31_few_rrlrddrr x m0 t1 t2 t5 t6 σ K))
theorem l_law31_few_rrlrddrldrrlrdE (x : VE) (m1 : Nat) (m0 : Nat) (t1 t2 t5 t6 t7 t8 t9 : V) (σ : Hp) (K : KV) : l_law31_few_rrlrddrldrrlrd x (m1 + 1) m0 t1 t2 t5 t6 t7 t8 t9 σ K = l_law31_few_rrlrddrldrrlrdB x m1 m0 t1 t2 t5 t6 t7 t8 t9 σ K := by kernel_rfl
noncomputable def j_law31_few_rrlrddrrB (x : VE) (m0 : Nat) (t1 t2 t5 t6 : V) (σ : Hp) (K : KV) : Prop :=
 vDrop σ fun σ =>
 vBin PP .add 3 t6 (.int .i64 (.ofNat 1)) fun v0 =>
 l_law31_few_rrlrd x m0 t1 t2 t5 v0 σ K
theorem j_law31_few_rrlrddrrE0 (x : VE) (m0 : Nat) (t1 t2 t5 t6 : V) (σ : Hp) (K : KV) : vjmp0 PP tbS c_law31_few x [.r, .r, .l, .r, .d, .d, .r, .r] [m0] [t1, t2, t5, t6] σ K = j_law31_few_rrlrddrrB x m0 t1 t2 t5 t6 σ K := by kernel_rfl
theorem j_law31_few_rrlrddrrE (x : VE) (hm : x.most ≠ 0) (m0 : Nat) (t1 t2 t5 t6 : V) (σ : Hp) (K : KV) : j_law31_few_rrlrddrr x m0 t1 t2 t5 t6 σ K = j_law31_few_rrlrddrrB x m0 t1 t2 t5 t6 σ K := (vjmpJ_eq (hm := hm) ..).trans (j_law31_few_rrlrddrrE0 x m0 t1 t2 t5 t6 σ K)

/-! consistory/consistorylaw31.loads -/
noncomputable def r_law31_loads (x : VE) (a0 a1 a2 a3 a4 : V) (σ : Hp) (K : KV) : Prop :=
 vBox 25 a0 σ fun v0 σ =>
 vBox 38 a1 σ fun v1 σ =>
 vBox 38 a2 σ fun v2 σ =>
 vLdN 12 v0 σ fun v3 σ =>
 x.call c_mirror_Line [v3, a4] σ fun v4 σ =>
 vLdN 12 v0 σ fun v5 σ =>
 vLdN 2 v1 σ fun v6 σ =>
 vFld 6 v0 fun v7 =>
 vLd v7 σ fun v8 σ =>
 vBin PP .mul 3 (.int .i64 (.ofNat 2)) v8 fun v9 =>
 vBin PP .add 3 v9 (.int .i64 (.ofNat 1)) fun v10 =>
 vFld 1 v0 fun v11 =>
 vLd v11 σ fun v12 σ =>
 x.call c_tape_New [a3] σ fun v13 σ =>
 vLd v11 σ fun v14 _ =>
 vSame v14 v12 (vLd v7 σ fun v15 _ =>
 vSame v15 v8 (vLdN 2 v1 σ fun v16 _ =>
 vSame v16 v6 (vLdN 12 v0 σ fun v17 _ =>
 vSame v17 v5 (x.call c_fixed_Secrets [v5, v6] σ fun v18 σ =>
 vLd v11 σ fun v19 _ =>
 vSame v19 v12 (vLd v7 σ fun v20 _ =>
 vSame v20 v8 (vLenS v18 fun v21 =>
 vBin PP .mul 3 v21 v10 fun v22 =>
 x.call c_tape_Tape_Draws [v13, v22, v12] σ fun v23 σ =>
 vLd v7 σ fun v24 _ =>
 vSame v24 v8 (vLdN 12 v0 σ fun v25 σ =>
 vLdN 12 v0 σ fun v26 σ =>
 vLdN 2 v1 σ fun v27 σ =>
 x.call c_fixed_Secrets [v26, v27] σ fun v28 σ =>
 vLdN 12 v0 σ fun v29 _ =>
 vSame v29 v25 (x.call c_tape_New [a3] σ fun v30 σ =>
 vLdN 12 v0 σ fun v31 _ =>
 vSame v31 v25 (x.call c_deal_Model [v25, v28, v30] σ fun v32 σ =>
 vExt 0 v32 fun v33 =>
 vExt 1 v32 fun v34 =>
 vExt 2 v32 fun v35 =>
 vLdN 12 v0 σ fun v36 σ =>
 vLdN 12 v0 σ fun v37 σ =>
 vLdN 2 v2 σ fun v38 σ =>
 vLdN 12 v0 σ fun v39 σ =>
 vLdN 12 v0 σ fun v40 σ =>
 vLdN 2 v1 σ fun v41 σ =>
 vLdN 2 v2 σ fun v42 σ =>
 x.call c_fixed_Secrets [v37, v38] σ fun v43 σ =>
 vLdN 2 v2 σ fun v44 _ =>
 vSame v44 v42 (vLdN 2 v1 σ fun v45 _ =>
 vSame v45 v41 (vLdN 12 v0 σ fun v46 _ =>
 vSame v46 v40 (vLdN 12 v0 σ fun v47 _ =>
 vSame v47 v39 (vLdN 12 v0 σ fun v48 _ =>
 vSame v48 v36 (x.call c_law31_differs [v40, v41, v42] σ fun v49 σ =>
 vLdN 12 v0 σ fun v50 _ =>
 vSame v50 v39 (vLdN 12 v0 σ fun v51 _ =>
 vSame v51 v36 (x.call c_mirror_Load [v39, (.int .u64 (.ofNat 19)), v49, v4, v23] σ fun v52 σ =>
 vLdN 12 v0 σ fun v53 _ =>
 vSame v53 v36 (x.call c_tape_Of [v52, (.int .u64 (.ofNat 0))] σ fun v54 σ =>
 vLdN 12 v0 σ fun v55 _ =>
 vSame v55 v36 (x.call c_deal_Model [v36, v43, v54] σ fun v56 σ =>
 vExt 0 v56 fun v57 =>
 vExt 1 v56 fun v58 =>
 vExt 2 v56 fun v59 =>
 vBin PP .eql 61 v35 (.int .i64 (.ofNat 0)) fun v60 =>
 shutP x.most (vGuard true v60 (fun k => k v59 σ) σ fun v61 σ =>
 shutP x.most (vGuard true v60 (fun k => vBin PP .eql 61 v61 (.int .i64 (.ofNat 0)) fun v62 =>
 k v62 σ) σ fun v63 σ =>
 shutP x.most (vPick v60 v63 (.bool false) fun v64 =>
 shutP x.most (vGuard true v64 (fun k => k v4 σ) σ fun v65 σ =>
 shutP x.most (vGuard true v64 (fun k => vLenS v65 fun v66 =>
 k v66 σ) σ fun v67 σ =>
 shutP x.most (vGuard true v64 (fun k => vFld 6 v0 fun v68 =>
 k v68 σ) σ fun v69 σ =>
 shutP x.most (vGuard true v64 (fun k => vLd v69 σ fun v70 σ =>
 k v70 σ) σ fun v71 σ =>
 shutP x.most (vGuard true v64 (fun k => vBin PP .add 3 v71 (.int .i64 (.ofNat 1)) fun v72 =>
 k v72 σ) σ fun v73 σ =>
 shutP x.most (vGuard true v64 (fun k => vBin PP .eql 3 v67 v73 fun v74 =>
 k v74 σ) σ fun v75 σ =>
 shutP x.most (vPick v64 v75 (.bool false) fun v76 =>
 shutP x.most (vGuard true v76 (fun k => k v33 σ) σ fun v77 σ =>
 shutP x.most (vGuard true v76 (fun k => vLenS v77 fun v78 =>
 k v78 σ) σ fun v79 σ =>
 shutP x.most (vGuard true v76 (fun k => vFld 5 v0 fun v80 =>
 k v80 σ) σ fun v81 σ =>
 shutP x.most (vGuard true v76 (fun k => vLd v81 σ fun v82 σ =>
 k v82 σ) σ fun v83 σ =>
 shutP x.most (vGuard true v76 (fun k => vBin PP .eql 3 v79 v83 fun v84 =>
 k v84 σ) σ fun v85 σ =>
 shutP x.most (vPick v76 v85 (.bool false) fun v86 =>
 shutP x.most (vGuard true v86 (fun k => k v57 σ) σ fun v87 σ =>
 shutP x.most (vGuard true v86 (fun k => vLenS v87 fun v88 =>
 k v88 σ) σ fun v89 σ =>
 shutP x.most (vGuard true v86 (fun k => vFld 5 v0 fun v90 =>
 k v90 σ) σ fun v91 σ =>
 shutP x.most (vGuard true v86 (fun k => vLd v91 σ fun v92 σ =>
 k v92 σ) σ fun v93 σ =>
 shutP x.most (vGuard true v86 (fun k => vBin PP .eql 3 v89 v93 fun v94 =>
 k v94 σ) σ fun v95 σ =>
 shutP x.most (vPick v86 v95 (.bool false) fun v96 =>
 shutP x.most (vGuardC true v86 v93 (fun k => vLd v91 σ fun v97 _ =>
 vSame v97 v93 k) (shutP x.most (vGuardC true v76 v83 (fun k => vLd v81 σ fun v98 _ =>
 vSame v98 v83 k) (shutP x.most (vGuardC true v64 v71 (fun k => vLd v69 σ fun v99 _ =>
 vSame v99 v71 k) (shutP x.most (vGuardC true v86 v93 (fun k => vLd v91 σ fun v100 _ =>
 vSame v100 v93 k) (shutP x.most (vGuardC true v76 v83 (fun k => vLd v81 σ fun v101 _ =>
 vSame v101 v83 k) (shutP x.most (vGuardC true v64 v71 (fun k => vLd v69 σ fun v102 _ =>
 vSame v102 v71 k) (shutP x.most (vGuardC true v86 v93 (fun k => vLd v91 σ fun v103 _ =>
 vSame v103 v93 k) (shutP x.most (vGuardC true v76 v83 (fun k => vLd v81 σ fun v104 _ =>
 vSame v104 v83 k) (shutP x.most (vGuardC true v64 v71 (fun k => vLd v69 σ fun v105 _ =>
 vSame v105 v71 k) (shutP x.most (vGuardC true v86 v93 (fun k => vLd v91 σ fun v106 _ =>
 vSame v106 v93 k) (shutP x.most (vGuardC true v76 v83 (fun k => vLd v81 σ fun v107 _ =>
 vSame v107 v83 k) (shutP x.most (vGuardC true v64 v71 (fun k => vLd v69 σ fun v108 _ =>
 vSame v108 v71 k) (shutP x.most (vGuardC true v86 v93 (fun k => vLd v91 σ fun v109 _ =>
 vSame v109 v93 k) (shutP x.most (vGuardC true v76 v83 (fun k => vLd v81 σ fun v110 _ =>
 vSame v110 v83 k) (shutP x.most (vGuardC true v64 v71 (fun k => vLd v69 σ fun v111 _ =>
 vSame v111 v71 k) (vRet (.tuple [v33, v57, v34, v58, v4, v96]) σ K))))))))))))))))))))))))))))))))))))))))))))))))))))))))))))))))))))))
theorem f_law31_loads (x : VE) (a0 a1 a2 a3 a4 : V) (σ : Hp) (K : KV) : fnV PP tbS c_law31_loads x [a0, a1, a2, a3, a4] σ K = r_law31_loads x a0 a1 a2 a3 a4 σ K := by kernel_rfl

/-! consistory/consistorylaw31.model -/
noncomputable def r_law31_model (x : VE) (a0 a1 : V) (σ : Hp) (K : KV) : Prop :=
 vAlloc [(.slice none 0 0), (.slice none 0 0)] 38 σ fun v0 σ =>
 vBin PP .rem 2 a0 (.int .i64 (.ofNat 3)) fun v1 =>
 vBuildS 2 1 [(.int .i64 (.ofNat 0))] [(0, 1, v1)] σ fun v2 σ =>
 vBuildS 36 1 [(.slice none 0 0)] [(0, 1, v2)] σ fun v3 σ =>
 vBin PP .rem 2 a1 (.int .i64 (.ofNat 3)) fun v4 =>
 vBuildS 2 1 [(.int .i64 (.ofNat 0))] [(0, 1, v4)] σ fun v5 σ =>
 vBuild [(.slice none 0 0), (.slice none 0 0)] [(0, 1, v3), (1, 1, v5)] fun v6 =>
 vSt 2 v0 v6 σ fun σ =>
 vLdN 2 v0 σ fun v7 _ =>
 vRet v7 σ K
theorem f_law31_model (x : VE) (a0 a1 : V) (σ : Hp) (K : KV) : fnV PP tbS c_law31_model x [a0, a1] σ K = r_law31_model x a0 a1 σ K := by kernel_rfl

/-! consistory/consistorylaw31.differs -/
noncomputable def l_law31_differs_rrrlrd (x : VE) (m : Nat) (t3 t7 t8 t9 t10 : V) (σ : Hp) (K : KV) : Prop := vjmpL PP tbS c_law31_differs x [.r, .r, .r, .l, .r, .d] m [] [t3, t7, t8, t9, t10] σ K
noncomputable def r_law31_differs (x : VE) (a0 a1 a2 : V) (σ : Hp) (K : KV) : Prop :=
 vBox 25 a0 σ fun v0 σ =>
 vBox 38 a1 σ fun v1 σ =>
 vBox 38 a2 σ fun v2 σ =>
 vLdN 12 v0 σ fun v3 σ =>
 vLdN 2 v1 σ fun v4 σ =>
 vLdN 12 v0 σ fun v5 σ =>
 vLdN 2 v2 σ fun v6 σ =>
 x.call c_fixed_Secrets [v3, v4] σ fun v7 σ =>
 vLdN 2 v2 σ fun v8 _ =>
 vSame v8 v6 (vLdN 12 v0 σ fun v9 _ =>
 vSame v9 v5 (x.call c_fixed_Secrets [v5, v6] σ fun v10 σ =>
 l_law31_differs_rrrlrd x x.most v0 v7 v10 .nil (.int .i64 (.ofNat 0)) σ K))
theorem f_law31_differs (x : VE) (a0 a1 a2 : V) (σ : Hp) (K : KV) : fnV PP tbS c_law31_differs x [a0, a1, a2] σ K = r_law31_differs x a0 a1 a2 σ K := by kernel_rfl
noncomputable def l_law31_differs_rrrlrdB (x : VE) (m0 : Nat) (t3 t7 t8 t9 t10 : V) (σ : Hp) (K : KV) : Prop :=
 vDrop σ fun σ =>
 vLenS t7 fun v0 =>
 vBin PP .lss 3 t10 v0 fun v1 =>
 shutP x.most (vGuard true v1 (fun k => k t10 σ) σ fun v2 σ =>
 shutP x.most (vGuard true v1 (fun k => k t8 σ) σ fun v3 σ =>
 shutP x.most (vGuard true v1 (fun k => vLenS v3 fun v4 =>
 k v4 σ) σ fun v5 σ =>
 shutP x.most (vGuard true v1 (fun k => vBin PP .lss 3 v2 v5 fun v6 =>
 k v6 σ) σ fun v7 σ =>
 shutP x.most (vPick v1 v7 (.bool false) fun v8 =>
 vIf v8 (vIdx 1 t8 t10 fun v9 =>
 vLd v9 σ fun v10 σ =>
 vIdx 1 t7 t10 fun v11 =>
 vLd v11 σ fun v12 σ =>
 vFld 1 t3 fun v13 =>
 vLd v13 σ fun v14 σ =>
 x.call c_mod_Sub [v10, v12, v14] σ fun v15 σ =>
 (vBuildS 22 1 [(.int .u64 (.ofNat 0))] [(0, 1, v15)] σ fun v16 σ =>
 True) ∧ (vBuildS 22 1 [(.int .u64 (.ofNat 0))] [(0, 1, v15)] σ fun v17 σ =>
 vApp 22 1 8 t9 v17 σ fun v18 σ =>
 vBin PP .add 3 t10 (.int .i64 (.ofNat 1)) fun v19 =>
 l_law31_differs_rrrlrd x m0 t3 t7 t8 v18 v19 σ K)) (vRet t9 σ K))))))
theorem l_law31_differs_rrrlrdE (x : VE) (m0 : Nat) (t3 t7 t8 t9 t10 : V) (σ : Hp) (K : KV) : l_law31_differs_rrrlrd x (m0 + 1) t3 t7 t8 t9 t10 σ K = l_law31_differs_rrrlrdB x m0 t3 t7 t8 t9 t10 σ K := by kernel_rfl

/-! consistory/consistorylaw31.has -/
noncomputable def l_law31_has_rlrd (x : VE) (m : Nat) (t0 t1 t5 : V) (σ : Hp) (K : KV) : Prop := vjmpL PP tbS c_law31_has x [.r, .l, .r, .d] m [] [t0, t1, t5] σ K
noncomputable def r_law31_has (x : VE) (a0 a1 : V) (σ : Hp) (K : KV) : Prop :=
 l_law31_has_rlrd x x.most a0 a1 (.int .i64 (.ofNat 0)) σ K
theorem f_law31_has (x : VE) (a0 a1 : V) (σ : Hp) (K : KV) : fnV PP tbS c_law31_has x [a0, a1] σ K = r_law31_has x a0 a1 σ K := by kernel_rfl
noncomputable def l_law31_has_rlrdB (x : VE) (m0 : Nat) (t0 t1 t5 : V) (σ : Hp) (K : KV) : Prop :=
 vDrop σ fun σ =>
 vLenS t0 fun v0 =>
 vBin PP .lss 3 t5 v0 fun v1 =>
 vIf v1 (vIdx 1 t0 t5 fun v2 =>
 vLd v2 σ fun v3 σ =>
 vBin PP .eql 3 v3 t1 fun v4 =>
 vIf v4 (vRet (.bool true) σ K) (vBin PP .add 3 t5 (.int .i64 (.ofNat 1)) fun v5 =>
 l_law31_has_rlrd x m0 t0 t1 v5 σ K)) (vRet (.bool false) σ K)
theorem l_law31_has_rlrdE (x : VE) (m0 : Nat) (t0 t1 t5 : V) (σ : Hp) (K : KV) : l_law31_has_rlrd x (m0 + 1) t0 t1 t5 σ K = l_law31_has_rlrdB x m0 t0 t1 t5 σ K := by kernel_rfl

/-! consistory/consistorylaw31.pairs -/
/-! consistory/consistorylaw31.moved -/
/-! consistory/consistoryref08.Lists -/
/-! consistory/consistoryref08.Nums -/
/-! consistory/consistoryref03.Numbers -/
noncomputable def l_ref03_Numbers_rrlrd (x : VE) (m : Nat) (t0 t1 t5 : V) (σ : Hp) (K : KV) : Prop := vjmpL PP tbS c_ref03_Numbers x [.r, .r, .l, .r, .d] m [] [t0, t1, t5] σ K
noncomputable def r_ref03_Numbers (x : VE) (a0 a1 : V) (σ : Hp) (K : KV) : Prop :=
 vLenS a0 fun v0 =>
 vLenS a1 fun v1 =>
 vBin PP .neq 3 v0 v1 fun v2 =>
 vIf v2 (vRet (.bool false) σ K) (l_ref03_Numbers_rrlrd x x.most a0 a1 (.int .i64 (.ofNat 0)) σ K)
theorem f_ref03_Numbers (x : VE) (a0 a1 : V) (σ : Hp) (K : KV) : fnV PP tbS c_ref03_Numbers x [a0, a1] σ K = r_ref03_Numbers x a0 a1 σ K := by kernel_rfl
noncomputable def l_ref03_Numbers_rrlrdB (x : VE) (m0 : Nat) (t0 t1 t5 : V) (σ : Hp) (K : KV) : Prop :=
 vDrop σ fun σ =>
 vLenS t0 fun v0 =>
 vBin PP .lss 3 t5 v0 fun v1 =>
 vIf v1 (vIdx 1 t0 t5 fun v2 =>
 vLd v2 σ fun v3 σ =>
 vIdx 1 t1 t5 fun v4 =>
 vLd v4 σ fun v5 σ =>
 vBin PP .neq 22 v3 v5 fun v6 =>
 vIf v6 (vRet (.bool false) σ K) (vBin PP .add 3 t5 (.int .i64 (.ofNat 1)) fun v7 =>
 l_ref03_Numbers_rrlrd x m0 t0 t1 v7 σ K)) (vRet (.bool true) σ K)
theorem l_ref03_Numbers_rrlrdE (x : VE) (m0 : Nat) (t0 t1 t5 : V) (σ : Hp) (K : KV) : l_ref03_Numbers_rrlrd x (m0 + 1) t0 t1 t5 σ K = l_ref03_Numbers_rrlrdB x m0 t0 t1 t5 σ K := by kernel_rfl

end Go.Am

set_option linter.unusedVariables false
set_option maxRecDepth 100000
namespace Go.Am

/-! consistory/consistorylaw31.awake -/
noncomputable def r_law31_awake (x : VE) (σ : Hp) (K : KV) : Prop :=
 x.call c_law31_some [(.bool false)] σ fun v0 σ =>
 vAlloc [(.int .u64 (.ofNat 0)), (.int .u64 (.ofNat 0)), (.int .u64 (.ofNat 0)), (.int .u64 (.ofNat 0)), (.int .i64 (.ofNat 0)), (.int .i64 (.ofNat 0)), (.int .i64 (.ofNat 0)), (.int .i64 (.ofNat 0)), (.int .i64 (.ofNat 0)), (.int .i64 (.ofNat 0)), (.int .i64 (.ofNat 0)), (.int .i64 (.ofNat 0))] 25 σ fun v1 σ =>
 vSt 12 v1 v0 σ fun σ =>
 vLdN 12 v1 σ fun v2 σ =>
 vLdN 12 v1 σ fun v3 _ =>
 vSame v3 v2 ((vBuildS 3 1 [(.int .i64 (.ofNat 0))] [(0, 1, (.int .i64 (.ofNat 2)))] σ fun v4 σ =>
 True) ∧ ((vBuildS 22 2 [(.int .u64 (.ofNat 0))] [(0, 1, (.int .u64 (.ofNat 1))), (1, 1, (.int .u64 (.ofNat 11)))] σ fun v5 σ =>
 True) ∧ (vBuildS 3 1 [(.int .i64 (.ofNat 0))] [(0, 1, (.int .i64 (.ofNat 2)))] σ fun v6 σ =>
 x.call c_mirror_Line [v2, v6] σ fun v7 σ =>
 (vBuildS 22 2 [(.int .u64 (.ofNat 0))] [(0, 1, (.int .u64 (.ofNat 1))), (1, 1, (.int .u64 (.ofNat 11)))] σ fun v8 σ =>
 True) ∧ (vBuildS 22 2 [(.int .u64 (.ofNat 0))] [(0, 1, (.int .u64 (.ofNat 1))), (1, 1, (.int .u64 (.ofNat 11)))] σ fun v9 σ =>
 x.call c_ref03_Numbers [v7, v9] σ fun v10 σ =>
 shutP x.most (vGuard true v10 (fun k => vLdN 12 v1 σ fun v11 σ =>
 k v11 σ) σ fun v12 σ =>
 vGate true v10 (vLdN 12 v1 σ fun v13 _ =>
 vSame v13 v12 ((vBuildS 22 2 [(.int .u64 (.ofNat 0))] [(0, 1, (.int .u64 (.ofNat 1))), (1, 1, (.int .u64 (.ofNat 0)))] σ fun v14 σ =>
 True) ∧ (x.call c_mirror_Line [v12, .nil] σ fun v15 σ =>
 (vBuildS 22 2 [(.int .u64 (.ofNat 0))] [(0, 1, (.int .u64 (.ofNat 1))), (1, 1, (.int .u64 (.ofNat 0)))] σ fun v16 σ =>
 True) ∧ (vBuildS 22 2 [(.int .u64 (.ofNat 0))] [(0, 1, (.int .u64 (.ofNat 1))), (1, 1, (.int .u64 (.ofNat 0)))] σ fun v17 σ =>
 x.call c_ref03_Numbers [v15, v17] σ fun v18 σ =>
 shutP x.most (vPick v10 v18 (.bool false) fun v19 =>
 shutP x.most (vGuard true v19 (fun k => vLdN 12 v1 σ fun v20 σ =>
 k v20 σ) σ fun v21 σ =>
 vGate true v19 (vLdN 12 v1 σ fun v22 _ =>
 vSame v22 v21 ((vBuildS 22 2 [(.int .u64 (.ofNat 0))] [(0, 1, (.int .u64 (.ofNat 1))), (1, 1, (.int .u64 (.ofNat 22)))] σ fun v23 σ =>
 True) ∧ ((vBuildS 22 2 [(.int .u64 (.ofNat 0))] [(0, 1, (.int .u64 (.ofNat 1))), (1, 1, (.int .u64 (.ofNat 11)))] σ fun v24 σ =>
 True) ∧ ((vMk 22 8 [(.int .u64 (.ofNat 0))] (.int .i64 (.ofNat 6)) (.int .i64 (.ofNat 6)) σ fun v25 σ =>
 True) ∧ ((vBuildS 22 6 [(.int .u64 (.ofNat 0))] [(0, 1, (.int .u64 (.ofNat 11))), (1, 1, (.int .u64 (.ofNat 6))), (2, 1, (.int .u64 (.ofNat 20))), (3, 1, (.int .u64 (.ofNat 12))), (4, 1, (.int .u64 (.ofNat 17))), (5, 1, (.int .u64 (.ofNat 3)))] σ fun v26 σ =>
 True) ∧ (vBuildS 22 2 [(.int .u64 (.ofNat 0))] [(0, 1, (.int .u64 (.ofNat 1))), (1, 1, (.int .u64 (.ofNat 22)))] σ fun v27 σ =>
 vBuildS 22 2 [(.int .u64 (.ofNat 0))] [(0, 1, (.int .u64 (.ofNat 1))), (1, 1, (.int .u64 (.ofNat 11)))] σ fun v28 σ =>
 vMk 22 8 [(.int .u64 (.ofNat 0))] (.int .i64 (.ofNat 6)) (.int .i64 (.ofNat 6)) σ fun v29 σ =>
 x.call c_mirror_Load [v21, (.int .u64 (.ofNat 19)), v27, v28, v29] σ fun v30 σ =>
 (vBuildS 22 6 [(.int .u64 (.ofNat 0))] [(0, 1, (.int .u64 (.ofNat 11))), (1, 1, (.int .u64 (.ofNat 6))), (2, 1, (.int .u64 (.ofNat 20))), (3, 1, (.int .u64 (.ofNat 12))), (4, 1, (.int .u64 (.ofNat 17))), (5, 1, (.int .u64 (.ofNat 3)))] σ fun v31 σ =>
 True) ∧ (vBuildS 22 6 [(.int .u64 (.ofNat 0))] [(0, 1, (.int .u64 (.ofNat 11))), (1, 1, (.int .u64 (.ofNat 6))), (2, 1, (.int .u64 (.ofNat 20))), (3, 1, (.int .u64 (.ofNat 12))), (4, 1, (.int .u64 (.ofNat 17))), (5, 1, (.int .u64 (.ofNat 3)))] σ fun v32 σ =>
 x.call c_ref03_Numbers [v30, v32] σ fun v33 σ =>
 shutP x.most (vPick v19 v33 (.bool false) fun v34 =>
 vRet v34 σ K)))))))))))))))))))
theorem f_law31_awake (x : VE) (σ : Hp) (K : KV) : fnV PP tbS c_law31_awake x [] σ K = r_law31_awake x σ K := by kernel_rfl

end Go.Am

set_option linter.unusedVariables false
set_option maxRecDepth 4000
namespace Go.Am
open Go.Proofs.Mdl
section
variable {M n : Nat} {x : VE} {σ : Hp} {K : KV} {two : Bool}
theorem o_some : gM c_law31_some = none := rfl
theorem o_lmodel : gM c_law31_model = none := rfl
theorem o_differs : gM c_law31_differs = none := rfl
theorem o_has : gM c_law31_has = none := rfl
theorem o_numbers : gM c_ref03_Numbers = none := rfl
theorem o_awake : gM c_law31_awake = none := rfl
theorem o_few : gM c_law31_few = none := rfl
theorem o_loads : gM c_law31_loads = none := rfl
abbrev pz : List V := [nu 0, nu 0, nu 0, nu 0, ni 0, ni 0, ni 0, ni 0, ni 0, ni 0, ni 0, ni 0]
theorem some_s (hx : Deep PP tbS gM M (n + 1) x) (hK : K (.agg (pv two)) σ) : x.call c_law31_some [.bool two] σ K := by
 refine hx.call o_some fun y hy => ?_
 rw [f_law31_some]
 unfold r_law31_some
 refine vAlloc_to (l := pz) rfl fun o ho => ?_
 have le1 : Hle σ (upd σ o (.row pz 25)) := .upd_new ho
 have ro : upd σ o (.row pz 25) o = some (.row pz 25) := upd_same
 generalize upd σ o (.row pz 25) = σ1 at le1 ro
 have hb : ∀ {k : V → Prop}, vBuild [(.int .u64 (.ofNat 0)), (.int .u64 (.ofNat 0)), (.int .u64 (.ofNat 0)), (.int .u64 (.ofNat 0)), (.int .i64 (.ofNat 0)), (.int .i64 (.ofNat 0)), (.int .i64 (.ofNat 0)), (.int .i64 (.ofNat 0)), (.int .i64 (.ofNat 0)), (.int .i64 (.ofNat 0)), (.int .i64 (.ofNat 0)), (.int .i64 (.ofNat 0))] [(0, 1, (.int .u64 (.ofNat 47))), (1, 1, (.int .u64 (.ofNat 23))), (2, 1, (.int .u64 (.ofNat 2))), (3, 1, (.int .u64 (.ofNat 3))), (4, 1, (.int .i64 (.ofNat 5))), (5, 1, (.int .i64 (.ofNat 4))), (6, 1, (.int .i64 (.ofNat 1))), (7, 1, (.int .i64 (.ofNat 1))), (8, 1, (.int .i64 (.ofNat 1))), (9, 1, (.int .i64 (.ofNat 1))), (10, 1, (.int .i64 (.ofNat 2))), (11, 1, (.int .i64 (.ofNat 2)))] k → k (.agg (pv false)) := fun {k} h => by
  unfold vBuild vZero at h
  exact h.2.2.2.2.2.2.2.2.2.2.2.2.2.2.2.2.2.2.2.2.2.2.2.2
 have hb2 : ∀ {k : V → Prop}, k (.agg (pv false)) → vBuild [(.int .u64 (.ofNat 0)), (.int .u64 (.ofNat 0)), (.int .u64 (.ofNat 0)), (.int .u64 (.ofNat 0)), (.int .i64 (.ofNat 0)), (.int .i64 (.ofNat 0)), (.int .i64 (.ofNat 0)), (.int .i64 (.ofNat 0)), (.int .i64 (.ofNat 0)), (.int .i64 (.ofNat 0)), (.int .i64 (.ofNat 0)), (.int .i64 (.ofNat 0))] [(0, 1, (.int .u64 (.ofNat 47))), (1, 1, (.int .u64 (.ofNat 23))), (2, 1, (.int .u64 (.ofNat 2))), (3, 1, (.int .u64 (.ofNat 3))), (4, 1, (.int .i64 (.ofNat 5))), (5, 1, (.int .i64 (.ofNat 4))), (6, 1, (.int .i64 (.ofNat 1))), (7, 1, (.int .i64 (.ofNat 1))), (8, 1, (.int .i64 (.ofNat 1))), (9, 1, (.int .i64 (.ofNat 1))), (10, 1, (.int .i64 (.ofNat 2))), (11, 1, (.int .i64 (.ofNat 2)))] k := fun {k} h => by
  have l1 : ∀ a b c d e f g h i j k l : V, a = a → 0 + 1 ≤ [a, b, c, d, e, f, g, h, i, j, k, l].length := fun _ _ _ _ _ _ _ _ _ _ _ _ _ => by simp
  exact ⟨rfl, Nat.le_of_ble_eq_true rfl, rfl, Nat.le_of_ble_eq_true rfl, rfl, Nat.le_of_ble_eq_true rfl, rfl, Nat.le_of_ble_eq_true rfl, rfl, Nat.le_of_ble_eq_true rfl, rfl, Nat.le_of_ble_eq_true rfl, rfl, Nat.le_of_ble_eq_true rfl, rfl, Nat.le_of_ble_eq_true rfl, rfl, Nat.le_of_ble_eq_true rfl, rfl, Nat.le_of_ble_eq_true rfl, rfl, Nat.le_of_ble_eq_true rfl, rfl, Nat.le_of_ble_eq_true rfl, h⟩
 refine hb2 ?_
 refine vAlloc_to (l := pz) rfl fun q hq => ?_
 have hqo : o ≠ q := Ne.symm (ne_of hq ro)
 have rq : upd σ1 q (.row pz 25) q = some (.row pz 25) := upd_same
 refine vSt_all (n := 12) rq pv_one rfl rfl ?_
 rw [upd_upd]
 have rq : upd σ1 q (.row (pv false) 25) q = some (.row (pv false) 25) := upd_same
 have le2 : Hle σ1 (upd σ1 q (.row (pv false) 25)) := .upd_new hq
 have fin : ∀ {l : List V}, l.all oneV = true → l.length = 12 → K (.agg l) σ → (vLdN 12 (.ptr q 0) (upd σ1 q (.row l 25)) fun v6 σ => vSt 12 (.ptr o 0) v6 σ fun σ => vLdN 12 (.ptr o 0) σ fun v7 _ => vRet v7 σ K) := fun {l} h1 h2 hk => by
  have rq : upd σ1 q (.row l 25) q = some (.row l 25) := upd_same
  rw [vLdN_p rq, vPart_ok (by omega), List.drop_zero, List.take_of_length_le (by omega)]
  have ro2 : upd σ1 q (.row l 25) o = some (.row pz 25) := by rw [upd_other hqo]; exact ro
  refine vSt_all (n := 12) ro2 h1 h2 rfl ?_
  have ro3 : upd (upd σ1 q (.row l 25)) o (.row l 25) o = some (.row l 25) := upd_same
  rw [vLdN_p ro3, vPart_ok (by omega), List.drop_zero, List.take_of_length_le (by omega)]
  refine vRet_drop (fun k p e => ?_) hk
  have hko : k ≠ o := fun c => by rw [c, ho] at e; cases e
  have hkq : k ≠ q := fun c => by rw [c] at e; have := le1 _ _ e; rw [hq] at this; cases this
  rw [upd_other hko, upd_other hkq]; exact le1 _ _ e
 cases two with
 | false =>
  rw [vIf_f]
  exact fin pv_one rfl hK
 | true =>
  rw [vIf_t, vFld_z, stp_ rq (by simp [pv]) rfl, upd_upd, vFld_z, stp_ upd_same (by simp [pv]) rfl, upd_upd, vFld_z, stp_ upd_same (by simp [pv]) rfl, upd_upd]
  exact fin (l := pv true) pv_one rfl hK
theorem okZ_mod (a : Int) : okZ (a.tmod 3) := by
 have h := Int.natAbs_tmod (a := a) (b := 3)
 have h3 : (3 : Int).natAbs = 3 := rfl
 rw [h3] at h
 have h2 : a.natAbs % 3 < 3 := Nat.mod_lt _ (by decide)
 unfold okZ; omega
theorem model'_s (hx : Deep PP tbS gM M (n + 1) x) {a b : Int} (hK : ∀ τ1 τ2, K (mdl τ1 τ2 (a.tmod 3) (b.tmod 3)) σ) : x.call c_law31_model [iz a, iz b] σ K := by
 refine hx.call o_lmodel fun y hy => ?_
 rw [f_law31_model]
 unfold r_law31_model
 refine vAlloc_to (l := [.nil, .nil]) rfl fun o ho => ?_
 have le1 : Hle σ (upd σ o (.row [.nil, .nil] 38)) := .upd_new ho
 have ro : upd σ o (.row [.nil, .nil] 38) o = some (.row [.nil, .nil] 38) := upd_same
 generalize upd σ o (.row [.nil, .nil] 38) = σ1 at le1 ro
 have e1 : vBin PP .rem 2 (iz a) (.int .i64 (.ofNat 3)) = fun k : V → Prop => vBin PP .rem 2 (iz a) (.int .i64 (.ofNat 3)) k := rfl
 rw [vBinI_rem (by decide)]
 refine ⟨rfl, by simp, fun i1 h1 => ?_⟩
 have le2 : Hle σ1 (upd σ1 i1 (.row [iz (a.tmod 3)] 2)) := .upd_new h1
 have r1 : upd σ1 i1 (.row [iz (a.tmod 3)] 2) i1 = some (.row [iz (a.tmod 3)] 2) := upd_same
 show vBuildS 36 1 [(.slice none 0 0)] [(0, 1, .own i1 0 1 1)] (upd σ1 i1 (.row [iz (a.tmod 3)] 2)) _
 generalize upd σ1 i1 (.row [iz (a.tmod 3)] 2) = σ2 at le2 r1
 refine ⟨rfl, by simp, fun i2 h2 => ?_⟩
 have le3 : Hle σ2 (upd σ2 i2 (.row [.own i1 0 1 1] 36)) := .upd_new h2
 have r2 : upd σ2 i2 (.row [.own i1 0 1 1] 36) i2 = some (.row [.own i1 0 1 1] 36) := upd_same
 show vBin PP .rem 2 (iz b) (.int .i64 (.ofNat 3)) fun v4 => vBuildS 2 1 [(.int .i64 (.ofNat 0))] [(0, 1, v4)] (upd σ2 i2 (.row [.own i1 0 1 1] 36)) fun v5 σ => vBuild [(.slice none 0 0), (.slice none 0 0)] [(0, 1, .own i2 0 1 1), (1, 1, v5)] fun v6 => vSt 2 (.ptr o 0) v6 σ fun σ => vLdN 2 (.ptr o 0) σ fun v7 _ => vRet v7 σ K
 generalize upd σ2 i2 (.row [.own i1 0 1 1] 36) = σ3 at le3 r2
 rw [vBinI_rem (by decide)]
 refine ⟨rfl, by simp, fun i3 h3 => ?_⟩
 have le4 : Hle σ3 (upd σ3 i3 (.row [iz (b.tmod 3)] 2)) := .upd_new h3
 have r3 : upd σ3 i3 (.row [iz (b.tmod 3)] 2) i3 = some (.row [iz (b.tmod 3)] 2) := upd_same
 show vBuild [(.slice none 0 0), (.slice none 0 0)] [(0, 1, .own i2 0 1 1), (1, 1, .own i3 0 1 1)] fun v6 => vSt 2 (.ptr o 0) v6 (upd σ3 i3 (.row [iz (b.tmod 3)] 2)) fun σ => vLdN 2 (.ptr o 0) σ fun v7 _ => vRet v7 σ K
 generalize upd σ3 i3 (.row [iz (b.tmod 3)] 2) = σ4 at le4 r3
 refine ⟨rfl, by simp, rfl, by simp [splice], ?_⟩
 unfold vFill
 show vSt 2 (.ptr o 0) (.agg [.own i2 0 1 1, .own i3 0 1 1]) σ4 _
 have ro4 := le4 _ _ (le3 _ _ (le2 _ _ ro))
 refine vSt_all (n := 2) ro4 rfl rfl rfl ?_
 have ro5 : upd σ4 o (.row [.own i2 0 1 1, .own i3 0 1 1] 38) o = some (.row [.own i2 0 1 1, .own i3 0 1 1] 38) := upd_same
 rw [vLdN_p ro5, vPart_ok (by simp)]
 show vRet (.agg [.own i2 0 1 1, .own i3 0 1 1]) _ K
 have hle : Hle σ σ4 := ((le1.trans le2).trans le3).trans le4
 have n1 : σ i1 = none := le1.none h1
 have n2 : σ i2 = none := (le1.trans le2).none h2
 have n3 : σ i3 = none := ((le1.trans le2).trans le3).none h3
 have nr : ∀ {i : Nat} {vs : List V} {t : TypeId}, σ4 i = some (.row vs t) → t ≠ 38 → upd σ4 o (.row [.own i2 0 1 1, .own i3 0 1 1] 38) i = some (.row vs t) := fun {i vs t} e h => by
  rw [upd_other (fun c => by rw [c, ro4] at e; injection e with e; injection e with _ e; exact h e.symm)]; exact e
 have q1 := nr (le4 _ _ (le3 _ _ r1)) (by decide)
 have q2 := nr (le4 _ _ r2) (by decide)
 have q3 := nr r3 (by decide)
 have f1 : Frz σ (upd σ4 o (.row [.own i2 0 1 1, .own i3 0 1 1] 38)) (.own i1 0 1 1) (.list [.int .i64 (a.tmod 3)] 1) := .own q1 n1 (Nat.le_refl _) (by simp) fun j v d x1 x2 => by
  match j with
  | 0 => injection x1 with x1; injection x2 with x2; subst x1 x2; exact .int
  | j + 1 => simp at x2
 have f2 : Frz σ (upd σ4 o (.row [.own i2 0 1 1, .own i3 0 1 1] 38)) (.own i2 0 1 1) (.list [.list [.int .i64 (a.tmod 3)] 1] 1) := .own q2 n2 (Nat.le_refl _) (by simp) fun j v d x1 x2 => by
  match j with
  | 0 => injection x1 with x1; injection x2 with x2; subst x1 x2; exact f1
  | j + 1 => simp at x2
 have f3 : Frz σ (upd σ4 o (.row [.own i2 0 1 1, .own i3 0 1 1] 38)) (.own i3 0 1 1) (.list [.int .i64 (b.tmod 3)] 1) := .own q3 n3 (Nat.le_refl _) (by simp) fun j v d x1 x2 => by
  match j with
  | 0 => injection x1 with x1; injection x2 with x2; subst x1 x2; exact .int
  | j + 1 => simp at x2
 refine ⟨σ, fun τ => mdl (τ 0) (τ 1) (a.tmod 3) (b.tmod 3), fun k p e => by rw [upd_other (fun c => by rw [c, ho] at e; cases e)]; exact hle k p e, fun τ => .agg ⟨rfl, fun j v u x1 x2 => ?_⟩, fun τ => hK _ _⟩
 match j with
 | 0 => injection x1 with x1; injection x2 with x2; subst x1 x2; exact .dat f2
 | 1 => injection x1 with x1; injection x2 with x2; subst x1 x2; exact .dat f3
 | j + 2 => simp at x1
theorem numbers_go (hx : Deep PP tbS gM M (n + 1) x) {v w : V} {l : List Nat} (hv : NV σ v l) (hw : NV σ w l) (hl : l.length < 100000) (hK : K (.bool true) σ) : ∀ (r i m : Nat), i + r = l.length → r < m → l_ref03_Numbers_rrlrd x m v w (ni i) σ K := by
 intro r
 induction r with
 | zero =>
  intro i m hi hm
  obtain ⟨m, rfl⟩ := Nat.exists_eq_succ_of_ne_zero (show m ≠ 0 by omega)
  rw [l_ref03_Numbers_rrlrdE]
  unfold l_ref03_Numbers_rrlrdB
  refine vDrop_here ?_
  rw [hv.len, vLss_n, dnlt (by omega), vIf_f]
  exact vRet_here hK
 | succ r ih =>
  intro i m hi hm
  obtain ⟨m, rfl⟩ := Nat.exists_eq_succ_of_ne_zero (show m ≠ 0 by omega)
  rw [l_ref03_Numbers_rrlrdE]
  unfold l_ref03_Numbers_rrlrdB
  refine vDrop_here ?_
  have hlt : i < l.length := by omega
  obtain ⟨p, hp, hld⟩ := hv.at (i := i) (List.getElem?_eq_getElem hlt)
  obtain ⟨q, hq, hld2⟩ := hw.at (i := i) (List.getElem?_eq_getElem hlt)
  rw [hv.len, vLss_n, dlt hlt, vIf_t, hp, hld σ (.refl σ), hq, hld2 σ (.refl σ), vNeqU, decide_eq_true rfl, Bool.not_true, vIf_f, vAdd_n (by omega)]
  exact ih (i + 1) m (by omega) (by omega)
theorem numbers_s (hM : 1000000 < M) (hx : Deep PP tbS gM M (n + 2) x) {v w : V} {l : List Nat} (hv : NV σ v l) (hw : NV σ w l) (hl : l.length < 100000) (hK : K (.bool true) σ) : x.call c_ref03_Numbers [v, w] σ K := by
 refine hx.call o_numbers fun y hy => ?_
 rw [f_ref03_Numbers]
 unfold r_ref03_Numbers
 rw [hv.len, hw.len, vNeq_n, decide_eq_true rfl, Bool.not_true, vIf_f, hy.most]
 exact numbers_go hy hv hw hl hK l.length 0 M (by omega) (by omega)
theorem vGate_t {p : Prop} : vGate true (.bool true) p = p := rfl
theorem build1I {a : Nat} {K : KV} (hk : ∀ j, σ j = none → K (.own j 0 1 1) (upd σ j (.row (ivs [a]) 3))) : vBuildS 3 1 [(.int .i64 (.ofNat 0))] [(0, 1, ni a)] σ K := ⟨rfl, by simp, fun j hj => hk j hj⟩
theorem build6 {a b c d e f : Nat} {K : KV} (hk : ∀ j, σ j = none → K (.own j 0 6 6) (upd σ j (.row (nvs [a, b, c, d, e, f]) 22))) : vBuildS 22 6 [(.int .u64 (.ofNat 0))] [(0, 1, nu a), (1, 1, nu b), (2, 1, nu c), (3, 1, nu d), (4, 1, nu e), (5, 1, nu f)] σ K := ⟨rfl, by simp, rfl, by simp [splice], rfl, by simp [splice], rfl, by simp [splice], rfl, by simp [splice], rfl, by simp [splice], fun j hj => hk j hj⟩
theorem mk6 {K : KV} (hk : ∀ j, σ j = none → K (.own j 0 6 6) (upd σ j (.row (nvs [0, 0, 0, 0, 0, 0]) 22))) : vMk 22 8 [(.int .u64 (.ofNat 0))] (.int .i64 (.ofNat 6)) (.int .i64 (.ofNat 6)) σ K := ⟨by decide, by decide, by decide, fun j hj => hk j hj⟩
theorem nvRow {i : Nat} {l : List Nat} {σ : Hp} (h : σ i = some (.row (nvs l) 22)) : NV σ (.own i 0 l.length l.length) l := .own h (fun k n hk => by rw [Nat.zero_add]; exact nvs_at hk) (by rw [nvs_len]; omega)
theorem awake_line1 : lineL false [2] = [1, 11] := by decide
theorem awake_line2 : lineL false [] = [1, 0] := by decide
theorem awake_load : loadL false [1, 11] [1, 22] [0, 0, 0, 0, 0, 0] = [11, 6, 20, 12, 17, 3] := by decide
theorem awake_s (hM : 1000000 < M) (hx : Deep PP tbS gM M (n + 8) x) (hK : K (.bool true) σ) : x.call c_law31_awake [] σ K := by
 refine hx.call o_awake fun y hy => ?_
 rw [f_law31_awake]
 unfold r_law31_awake
 refine some_s (two := false) hy ?_
 refine vAlloc_to (l := pz) rfl fun p hp => ?_
 have rp : upd σ p (.row pz 25) p = some (.row pz 25) := upd_same
 refine vSt_all (n := 12) rp pv_one rfl rfl ?_
 rw [upd_upd]
 have le1 : Hle σ (upd σ p (.row (pv false) 25)) := .upd_new hp
 have rp : upd σ p (.row (pv false) 25) p = some (.row (pv false) 25) := upd_same
 generalize upd σ p (.row (pv false) 25) = σ1 at le1 rp
 have ld : ∀ {σ2 : Hp} {K : KV}, Hle σ1 σ2 → vLdN 12 (.ptr p 0) σ2 K = K (.agg (pv false)) σ2 := fun {σ2 K} hle => by
  rw [vLdN_p (hle _ _ rp), vPart_ok (by rw [pv_len]; omega), List.drop_zero, List.take_of_length_le (by rw [pv_len]; omega)]
 have sm : ∀ {q : Prop}, vSame (.agg (pv false)) (.agg (pv false)) q = q := fun {q} => vSame_ok rfl
 rw [ld (.refl _), ld (.refl _), sm]
 refine ⟨build1I fun _ _ => trivial, build2 fun _ _ => trivial, build1I fun j hj => ?_⟩
 have le2 : Hle σ1 (upd σ1 j (.row (ivs [2]) 3)) := .upd_new hj
 have r2 : upd σ1 j (.row (ivs [2]) 3) j = some (.row (ivs [2]) 3) := upd_same
 generalize upd σ1 j (.row (ivs [2]) 3) = σ2 at le2 r2
 refine line_s (n := n + 1) (two := false) (l := [2]) hM hy (.own (l := [2]) (by decide) r2) (by decide) (fun c hc => by rw [List.mem_singleton.1 hc]; decide) (fun a b e => by cases e) fun o σ3 ho le3 ro => ?_
 rw [awake_line1] at ro
 refine ⟨build2 fun _ _ => trivial, build2 fun j2 hj2 => ?_⟩
 have le4 : Hle σ3 (upd σ3 j2 (.row (nvs [1, 11]) 22)) := .upd_new hj2
 have r4 : upd σ3 j2 (.row (nvs [1, 11]) 22) j2 = some (.row (nvs [1, 11]) 22) := upd_same
 generalize upd σ3 j2 (.row (nvs [1, 11]) 22) = σ4 at le4 r4
 refine numbers_s (n := n + 5) hM hy (nvRow (l := [1, 11]) (le4 _ _ ro)) (nvRow (l := [1, 11]) r4) (by decide) ?_
 have le14 := (le2.trans le3).trans le4
 simp only [shutP_eq, vGuard_t]
 rw [ld le14, vGate_t, ld le14, sm]
 refine ⟨build2 fun _ _ => trivial, ?_⟩
 refine line_s (n := n + 1) (two := false) (l := []) hM hy .nil (by decide) (fun c hc => by cases hc) (fun a b e => by cases e) fun o2 σ5 ho2 le5 ro2 => ?_
 rw [awake_line2] at ro2
 refine ⟨build2 fun _ _ => trivial, build2 fun j3 hj3 => ?_⟩
 have le6 : Hle σ5 (upd σ5 j3 (.row (nvs [1, 0]) 22)) := .upd_new hj3
 have r6 : upd σ5 j3 (.row (nvs [1, 0]) 22) j3 = some (.row (nvs [1, 0]) 22) := upd_same
 generalize upd σ5 j3 (.row (nvs [1, 0]) 22) = σ6 at le6 r6
 refine numbers_s (n := n + 5) hM hy (nvRow (l := [1, 0]) (le6 _ _ ro2)) (nvRow (l := [1, 0]) r6) (by decide) ?_
 have le16 := (le14.trans le5).trans le6
 rw [vPick_t]
 simp only [vGuard_t]
 rw [ld le16, vGate_t, ld le16, sm]
 refine ⟨build2 fun _ _ => trivial, build2 fun _ _ => trivial, mk6 fun _ _ => trivial, build6 fun _ _ => trivial, build2 fun d hd => ?_⟩
 have le7 : Hle σ6 (upd σ6 d (.row (nvs [1, 22]) 22)) := .upd_new hd
 have r7 : upd σ6 d (.row (nvs [1, 22]) 22) d = some (.row (nvs [1, 22]) 22) := upd_same
 generalize upd σ6 d (.row (nvs [1, 22]) 22) = σ7 at le7 r7
 refine build2 fun li hli => ?_
 have le8 : Hle σ7 (upd σ7 li (.row (nvs [1, 11]) 22)) := .upd_new hli
 have r8 : upd σ7 li (.row (nvs [1, 11]) 22) li = some (.row (nvs [1, 11]) 22) := upd_same
 generalize upd σ7 li (.row (nvs [1, 11]) 22) = σ8 at le8 r8
 refine mk6 fun dr hdr => ?_
 have le9 : Hle σ8 (upd σ8 dr (.row (nvs [0, 0, 0, 0, 0, 0]) 22)) := .upd_new hdr
 have r9 : upd σ8 dr (.row (nvs [0, 0, 0, 0, 0, 0]) 22) dr = some (.row (nvs [0, 0, 0, 0, 0, 0]) 22) := upd_same
 generalize upd σ8 dr (.row (nvs [0, 0, 0, 0, 0, 0]) 22) = σ9 at le9 r9
 have s64 : ∀ l : List Nat, (∀ c ∈ l, c < 100) → L64 l := fun l h c hc => Nat.lt_trans (h c hc) (by decide)
 refine load_s (n := n + 1) (two := false) (σ0 := σ8) (vd := .own d 0 2 2) (diff := [1, 22]) (line := [1, 11]) (draws := [0, 0, 0, 0, 0, 0]) hM hy rfl rfl (nvRow (l := [1, 22]) (le9 _ _ (le8 _ _ r7))) rfl (s64 _ (by decide)) (le9 _ _ r8) rfl (s64 _ (by decide)) (.own (l := [0, 0, 0, 0, 0, 0]) hdr r9) (s64 _ (by decide)) rfl fun w σ10 le10 mw => ?_
 rw [awake_load] at mw
 refine ⟨build6 fun _ _ => trivial, build6 fun j4 hj4 => ?_⟩
 have le11 : Hle σ10 (upd σ10 j4 (.row (nvs [11, 6, 20, 12, 17, 3]) 22)) := .upd_new hj4
 have r11 : upd σ10 j4 (.row (nvs [11, 6, 20, 12, 17, 3]) 22) j4 = some (.row (nvs [11, 6, 20, 12, 17, 3]) 22) := upd_same
 generalize upd σ10 j4 (.row (nvs [11, 6, 20, 12, 17, 3]) 22) = σ11 at le11 r11
 refine numbers_s (n := n + 5) hM hy (mw.nv.up le11) (nvRow (l := [11, 6, 20, 12, 17, 3]) r11) (by decide) ?_
 rw [vPick_t]
 exact vRet_drop (((((((le1.trans le16).trans le7).trans le8).trans le9).trans le10).trans le11)) hK
end
end Go.Am

set_option linter.unusedVariables false
set_option maxRecDepth 4000
namespace Go.Am
open Go.Proofs.Mdl
def difL (a b c d : Int) : List Nat := [subN (numZ c) (numZ a) 23, subN (numZ d) (numZ b) 23]
section
variable {M n : Nat} {x : VE} {σ : Hp} {K : KV} {two : Bool}
theorem differs_s (hM : 10 < M) (hx : Deep PP tbS gM M (n + 7) x) {τ1 τ2 τ3 τ4 : Tag} {a b c d : Int} (ha : okZ a) (hb : okZ b) (hc : okZ c) (hd : okZ d) (hK : ∀ w σ', Hle σ σ' → MN σ σ' w (difL a b c d) → K w σ') : x.call c_law31_differs [.agg (pv two), mdl τ1 τ2 a b, mdl τ3 τ4 c d] σ K := by
 refine hx.call o_differs fun y hy => ?_
 rw [f_law31_differs]
 unfold r_law31_differs
 refine vBox_agg pv_one fun p hp => ?_
 have le1 : Hle σ (upd σ p (.row (pv two) 25)) := .upd_new hp
 have rp : upd σ p (.row (pv two) 25) p = some (.row (pv two) 25) := upd_same
 generalize upd σ p (.row (pv two) 25) = σ1 at le1 rp
 refine vBox_agg rfl fun q hq => ?_
 have le2 : Hle σ1 (upd σ1 q (.row [w2 τ1 a, w1 τ2 b] 38)) := .upd_new hq
 have rq : upd σ1 q (.row [w2 τ1 a, w1 τ2 b] 38) q = some (.row [w2 τ1 a, w1 τ2 b] 38) := upd_same
 generalize upd σ1 q (.row [w2 τ1 a, w1 τ2 b] 38) = σ2 at le2 rq
 refine vBox_agg rfl fun r hr => ?_
 have le3 : Hle σ2 (upd σ2 r (.row [w2 τ3 c, w1 τ4 d] 38)) := .upd_new hr
 have rr : upd σ2 r (.row [w2 τ3 c, w1 τ4 d] 38) r = some (.row [w2 τ3 c, w1 τ4 d] 38) := upd_same
 generalize upd σ2 r (.row [w2 τ3 c, w1 τ4 d] 38) = σ3 at le3 rr
 have rp3 := le3 _ _ (le2 _ _ rp)
 have rq3 := le3 _ _ rq
 have e1 : (pv two)[1]? = some (nu 23) := rfl
 have lp : ∀ {σ' : Hp} {K : KV}, Hle σ3 σ' → vLdN 12 (.ptr p 0) σ' K = K (.agg (pv two)) σ' := fun {σ' K} hle => by
  rw [vLdN_p (hle _ _ rp3), vPart_ok (by rw [pv_len]; omega), List.drop_zero, List.take_of_length_le (by rw [pv_len]; omega)]
 have lq : ∀ {σ' : Hp} {K : KV}, Hle σ3 σ' → vLdN 2 (.ptr q 0) σ' K = K (mdl τ1 τ2 a b) σ' := fun {σ' K} hle => by
  rw [vLdN_p (hle _ _ rq3), vPart_ok (by simp)]; rfl
 have lr : ∀ {σ' : Hp} {K : KV}, Hle σ3 σ' → vLdN 2 (.ptr r 0) σ' K = K (mdl τ3 τ4 c d) σ' := fun {σ' K} hle => by
  rw [vLdN_p (hle _ _ rr), vPart_ok (by simp)]; rfl
 have sm : ∀ {q : Prop}, vSame (.agg (pv two)) (.agg (pv two)) q = q := fun {q} => vSame_ok rfl
 have sm2 : ∀ {q : Prop}, vSame (mdl τ3 τ4 c d) (mdl τ3 τ4 c d) q = q := fun {q} => vSame_ok rfl
 rw [lp (.refl _), lq (.refl _), lp (.refl _), lr (.refl _)]
 refine secrets'_s (n := n) hM hy ha hb fun u σ4 le4 mu => ?_
 rw [lr le4, sm2, lp le4, sm]
 refine secrets'_s (n := n) hM hy hc hd fun w σ5 le5 mw => ?_
 have hu := (mu.up le5).nv
 have hw := mw.nv
 obtain ⟨m, hm⟩ : ∃ m, M = m + 3 := ⟨M - 3, by omega⟩
 have leA : Hle σ σ5 := (((le1.trans le2).trans le3).trans le4).trans le5
 have go : ∀ (i m : Nat) (σ6 : Hp) (t : V) (l : List Nat), i < 2 → Hle σ5 σ6 → MN σ5 σ6 t l → l.length ≤ 2 →
  (∀ σ7 t', Hle σ5 σ7 → MN σ5 σ7 t' (l ++ [subN ((secL c d).getD i 0) ((secL a b).getD i 0) 23]) → l_law31_differs_rrrlrd y m (.ptr p 0) u w t' (ni (i + 1)) σ7 K) →
  l_law31_differs_rrrlrd y (m + 1) (.ptr p 0) u w t (ni i) σ6 K := by
  intro i m σ6 t l hi le6 mt hl hk
  rw [l_law31_differs_rrrlrdE]
  unfold l_law31_differs_rrrlrdB
  refine vDrop_here ?_
  have h1 : (secL a b)[i]? = some ((secL a b).getD i 0) := by match i, hi with | 0, _ => rfl | 1, _ => rfl
  have h2 : (secL c d)[i]? = some ((secL c d).getD i 0) := by match i, hi with | 0, _ => rfl | 1, _ => rfl
  have l1 : (secL a b).getD i 0 < 23 := by match i, hi with | 0, _ => exact numZ_lt _ | 1, _ => exact numZ_lt _
  have l2 : (secL c d).getD i 0 < 23 := by match i, hi with | 0, _ => exact numZ_lt _ | 1, _ => exact numZ_lt _
  obtain ⟨p1, hp1, hld1⟩ := (hu.up le6).at h1
  obtain ⟨p2, hp2, hld2⟩ := (hw.up le6).at h2
  have hlu : (secL a b).length = 2 := rfl
  have hlw : (secL c d).length = 2 := rfl
  rw [hu.len, vLss_n, dlt (by rw [hlu]; exact hi)]
  simp only [shutP_eq, vGuard_t, hw.len]
  rw [vLss_n, dlt (by rw [hlw]; exact hi), vPick_t, vIf_t, hp2, hld2 _ (.refl _), hp1, hld1 _ (.refl _), vFld_z, ldp (le6 _ _ (le5 _ _ (le4 _ _ rp3))) e1]
  refine sub_c (n := n + 5) hy (show _ < 18446744073709551616 by omega) (show _ < 18446744073709551616 by omega) q23 ?_
  refine ⟨⟨rfl, by simp, fun j hj => trivial⟩, ?_⟩
  refine mt.app le6 (by omega) fun t' σ7 le7 k7 mt' => ?_
  rw [vAdd_n (by omega)]
  exact hk σ7 t' le7 mt'
 rw [hy.most, hm]
 refine go 0 (m + 2) σ5 .nil [] (by decide) (.refl _) .nil (by decide) fun σ6 t1 le6 m1 => ?_
 refine go 1 (m + 1) σ6 t1 _ (by decide) le6 m1 (by simp) fun σ7 t2 le7 m2 => ?_
 rw [l_law31_differs_rrrlrdE]
 unfold l_law31_differs_rrrlrdB
 refine vDrop_here ?_
 have hlu : (secL a b).length = 2 := rfl
 rw [hu.len, vLss_n, dnlt (by rw [hlu]; decide)]
 simp only [shutP_eq, vGuard_tf, vPick_f]
 rw [vIf_f]
 exact vRet_here (hK t2 σ7 (leA.trans le7) (m2.base leA))
theorem has_s (hM : 1000000 < M) (hx : Deep PP tbS gM M (n + 1) x) {v : V} {l : List Nat} (h : IV σ v l) (hl : l.length < 1000) {c : Nat} (hK : K (.bool (decide (c ∈ l))) σ) : x.call c_law31_has [v, ni c] σ K := by
 refine hx.call o_has fun y hy => ?_
 rw [f_law31_has]
 unfold r_law31_has
 rw [hy.most]
 have go : ∀ (r i m : Nat), i + r = l.length → r < m → (∀ j, j < i → l[j]? ≠ some c) → l_law31_has_rlrd y m v (ni c) (ni i) σ K := by
  intro r
  induction r with
  | zero =>
   intro i m hi hm hn
   obtain ⟨m, rfl⟩ := Nat.exists_eq_succ_of_ne_zero (show m ≠ 0 by omega)
   rw [l_law31_has_rlrdE]
   unfold l_law31_has_rlrdB
   refine vDrop_here ?_
   rw [h.len, vLss_n, dnlt (by omega), vIf_f]
   have : ¬ c ∈ l := fun hc => by
    obtain ⟨j, hj⟩ := List.getElem?_of_mem hc
    have hlt := (List.getElem?_eq_some_iff.1 hj).1
    exact hn j (by omega) hj
   rw [decide_eq_false this] at hK
   exact vRet_here hK
  | succ r ih =>
   intro i m hi hm hn
   obtain ⟨m, rfl⟩ := Nat.exists_eq_succ_of_ne_zero (show m ≠ 0 by omega)
   rw [l_law31_has_rlrdE]
   unfold l_law31_has_rlrdB
   refine vDrop_here ?_
   have hlt : i < l.length := by omega
   obtain ⟨p, hp, hld⟩ := h.at (i := i) (List.getElem?_eq_getElem hlt)
   rw [h.len, vLss_n, dlt hlt, vIf_t, hp, hld σ (.refl σ), vEql_n]
   by_cases e : l[i] = c
   · rw [decide_eq_true e, vIf_t]
     have : c ∈ l := by rw [← e]; exact List.getElem_mem hlt
     rw [decide_eq_true this] at hK
     exact vRet_here hK
   · rw [decide_eq_false e, vIf_f, vAdd_n (by omega)]
     refine ih (i + 1) m (by omega) (by omega) fun j hj => ?_
     by_cases hji : j = i
     · subst hji; rw [List.getElem?_eq_getElem hlt]; intro hh; injection hh with hh; exact e hh
     · exact hn j (by omega)
 exact go l.length 0 M (by omega) (by omega) fun j hj => absurd hj (by omega)
end
end Go.Am

set_option linter.unusedVariables false
set_option maxRecDepth 4000
namespace Go.Am
open Go.Proofs.Mdl
theorem pds_at {l : List (Nat × Nat)} : ∀ {i : Nat} {a b : Nat}, l[i]? = some (a, b) → (pds l)[i * 2]? = some (nd a) ∧ (pds l)[i * 2 + 1]? = some (nd b) := by
 induction l with
 | nil => intro i a b h; cases h
 | cons p l ih =>
  intro i a b h
  match i with
  | 0 => injection h with h; subst h; exact ⟨rfl, rfl⟩
  | i + 1 =>
   have := ih (i := i) (a := a) (b := b) h
   rw [show (i + 1) * 2 = i * 2 + 2 by omega]
   exact this
theorem two_of {α : Type} {l : List α} {o : Nat} {a b : α} (h1 : l[o]? = some a) (h2 : l[o + 1]? = some b) : o + 2 ≤ l.length ∧ (l.drop o).take 2 = [a, b] := by
 have hl := (List.getElem?_eq_some_iff.1 h2).1
 refine ⟨by omega, ?_⟩
 rw [List.drop_eq_getElem_cons (show o < l.length by omega), List.take_succ_cons, List.drop_eq_getElem_cons hl, List.take_succ_cons, List.take_zero]
 have e1 := List.getElem?_eq_getElem (show o < l.length by omega)
 have e2 := List.getElem?_eq_getElem hl
 rw [h1] at e1; rw [h2] at e2
 injection e1 with e1; injection e2 with e2
 rw [← e1, ← e2]
section
variable {σ σ' : Hp} {v : V} {l : List (Nat × Nat)}
end
def movL (back k : Nat) : List (Nat × Nat) → List Nat → List (Nat × Nat)
 | p :: ps, d :: ds => (addq p.1 (d * k % 23), subN p.2 (d * k % 23 * back % 23) 23) :: movL back k ps ds
 | _, _ => []
section
variable {M n : Nat} {x : VE} {σ : Hp} {K : KV} {two : Bool}
end
end Go.Am

set_option linter.unusedVariables false
set_option maxRecDepth 4000
namespace Go.Am
open Go.Proofs.Mdl
def fewGo (N T : Nat) : List Nat → List Nat → List Nat
 | [], out => out
 | b :: l, out => if out.length < T then fewGo N T l (if 1 + b % N ∈ out then out else out ++ [1 + b % N]) else out
def fewL (two : Bool) (l : List Nat) : List Nat := fewGo (tN two) (tT two) l []
theorem fewGo_ok {N T : Nat} (hN : 0 < N) : ∀ (l out : List Nat), out.length ≤ T → (∀ c ∈ out, 1 ≤ c ∧ c ≤ N) → out.Nodup → (fewGo N T l out).length ≤ T ∧ (∀ c ∈ fewGo N T l out, 1 ≤ c ∧ c ≤ N) ∧ (fewGo N T l out).Nodup := by
 intro l
 induction l with
 | nil => intro out h1 h2 h3; exact ⟨h1, h2, h3⟩
 | cons b l ih =>
  intro out h1 h2 h3
  unfold fewGo
  split
  · rename_i hlt
    split
    · exact ih out h1 h2 h3
    · rename_i hn
      refine ih _ (by simp; omega) (fun c hc => ?_) ?_
      · rcases List.mem_append.1 hc with hc | hc
        · exact h2 c hc
        · rw [List.mem_singleton.1 hc]
          have := Nat.mod_lt b hN
          omega
      · rw [List.nodup_append]
        exact ⟨h3, by simp, fun a ha c hc e => hn (by rw [← List.mem_singleton.1 hc, ← e]; exact ha)⟩
  · exact ⟨h1, h2, h3⟩
def u8s (l : List Nat) : List Dt := l.map fun b => .int .u8 (.ofNat b)
inductive IB (σ0 σ : Hp) : V → List Nat → Prop
 | nil : IB σ0 σ .nil []
 | acc {i : Nat} {l : List Nat} (h0 : 0 < l.length) (hn : σ0 i = none) (h : σ i = some (.gro (ivs l) 3 l.length)) : IB σ0 σ (.acc i l.length) l
theorem ivs_app (l m : List Nat) : ivs (l ++ m) = ivs l ++ ivs m := List.map_append
section
variable {σ0 σ σ' : Hp} {v : V} {l : List Nat}
theorem IB.iv (h : IB σ0 σ v l) : IV σ v l := by cases h with | nil => exact .nil | acc h0 hn h => exact .acc h0 h
theorem IB.app (h : IB σ0 σ v l) (hs : Hle σ0 σ) (hl : l.length ≤ 1000000) {n : Nat} {K : KV} (hk : ∀ w σ', Hle σ0 σ' → IB σ0 σ' w (l ++ [n]) → K w σ') : vBuildS 3 1 [(.int .i64 (.ofNat 0))] [(0, 1, ni n)] σ fun v2 σ => vApp 3 1 8 v v2 σ K := by
 refine build1I fun j hj => ?_
 have hs1 : Hle σ0 (upd σ j (.row (ivs [n]) 3)) := hs.trans (.upd_new hj)
 refine vSrc_own (m := 1) upd_same rfl ?_
 refine ⟨rfl, ?_⟩
 cases h with
 | nil =>
  refine ⟨by decide, fun i hi => hk _ _ (hs1.trans (.upd_new hi)) ?_⟩
  exact .acc (l := [n]) (by simp) (hs1.none hi) upd_same
 | @acc i _ h0 hn h =>
  have hne : j ≠ i := fun e => by rw [e, h] at hj; cases hj
  have h' : upd σ j (.row (ivs [n]) 3) i = some (.gro (ivs l) 3 l.length) := by rw [upd_other (Ne.symm hne)]; exact h
  simp only [h']
  refine ⟨trivial, trivial, by rw [ivs_len]; omega, by omega, ?_⟩
  have el : l.length + (0 + 1) = (l ++ [n]).length := by simp
  rw [el]
  exact hk _ _ (setLe hs1 hn) (.acc (by simp) hn (by rw [ivs_app]; exact upd_same))
end
section
variable {M n : Nat} {x : VE} {σ0 : Hp} {K : KV} {two : Bool}
theorem vRem_n {a b : Nat} {t : TypeId} {k : V → Prop} (h : 0 < b) : vBin PP .rem t (ni a) (ni b) k = k (ni (a % b)) := by
 rw [vBinI_rem (by simp only [Int.ofNat_eq_natCast]; omega)]
 congr 2
theorem few_s (hM : 1000000 < M) (hx : Deep PP tbS gM M (n + 1) x) {τ : Tag} {l : List Nat} (hl8 : ∀ b ∈ l, b < 256) (hl : l.length < 1000) (hK : ∀ w σ', Hle σ0 σ' → IV σ' w (fewL two l) → K w σ') : x.call c_law31_few [.agg (pv two), .list τ (u8s l) l.length] σ0 K := by
 have hN : 0 < tN two := by cases two <;> decide
 have hN7 : tN two ≤ 7 := by cases two <;> decide
 have hT : tT two ≤ 2 := by cases two <;> decide
 refine hx.call o_few fun y hy => ?_
 rw [f_law31_few]
 unfold r_law31_few
 refine vBox_agg pv_one fun bp hbp => ?_
 have le1 : Hle σ0 (upd σ0 bp (.row (pv two) 25)) := .upd_new hbp
 have rp : upd σ0 bp (.row (pv two) 25) bp = some (.row (pv two) 25) := upd_same
 generalize upd σ0 bp (.row (pv two) 25) = σ1 at le1 rp
 have e5 : (pv two)[5]? = some (ni (tN two)) := rfl
 have e6 : (pv two)[6]? = some (ni (tT two)) := rfl
 have hm0 : y.most ≠ 0 := by rw [hy.most]; omega
 have ucell : ∀ {i : Nat} (h : i < l.length) {σ : Hp} {K : KV}, vLd (.lptr τ (u8s l) i) σ K = K (.int .u8 (.ofNat l[i])) σ := fun {i} h {σ K} => by
  rw [vLd_l]
  have : (u8s l)[i]? = some (.int .u8 (.ofNat l[i])) := by unfold u8s; rw [List.getElem?_map, List.getElem?_eq_getElem h]; rfl
  rw [vNth_some this]; rfl
 have i64 : ∀ {b : Nat} {k : V → Prop}, b < 256 → vInt .i64 (.int .u8 (.ofNat b)) k = k (ni b) := fun {b k} hb => by
  show k (.int .i64 (wrapI .i64 (.ofNat b))) = _
  have : wrapI .i64 (.ofNat b) = .ofNat b := wrap_small (by simp only [Int.ofNat_eq_natCast]; omega) (by simp only [Int.ofNat_eq_natCast]; omega)
  rw [this]
 -- is it there yet?
 have inner : ∀ (m0 i c : Nat) (σ : Hp) (t : V) (out : List Nat), IB σ1 σ t out → out.length < 1000 →
  ((c ∈ out → j_law31_few_rrlrddrr y m0 (.list τ (u8s l) l.length) (.ptr bp 0) t (ni i) σ K) ∧ (¬ c ∈ out → vBuildS 3 1 [(.int .i64 (.ofNat 0))] [(0, 1, ni c)] σ fun v13 σ => vApp 3 1 8 t v13 σ fun v14 σ => j_law31_few_rrlrddrr y m0 (.list τ (u8s l) l.length) (.ptr bp 0) v14 (ni i) σ K)) →
  ∀ (r k m : Nat) (b : Bool), k + r = out.length → r < m → (b = true ↔ ∀ j, j < k → out[j]? ≠ some c) →
   l_law31_few_rrlrddrldrrlrd y m m0 (.list τ (u8s l) l.length) (.ptr bp 0) t (ni i) (ni c) (.bool b) (ni k) σ K := by
  intro m0 i c σ t out ht hlo hk r
  induction r with
  | zero =>
   intro k m b hkr hm hb
   obtain ⟨m, rfl⟩ := Nat.exists_eq_succ_of_ne_zero (show m ≠ 0 by omega)
   rw [l_law31_few_rrlrddrldrrlrdE]
   unfold l_law31_few_rrlrddrldrrlrdB
   refine vDrop_here ?_
   rw [ht.iv.len, vLss_n, dnlt (by omega), vIf_f]
   cases b with
   | true =>
    rw [vIf_t]
    refine hk.2 fun hc => ?_
    obtain ⟨j, hj⟩ := List.getElem?_of_mem hc
    have := (List.getElem?_eq_some_iff.1 hj).1
    exact hb.1 rfl j (by omega) hj
   | false =>
    rw [vIf_f]
    refine hk.1 (Classical.byContradiction fun hc => ?_)
    have : false = true := hb.2 fun j _ hj => hc (List.mem_of_getElem? hj)
    cases this
  | succ r ih =>
   intro k m b hkr hm hb
   obtain ⟨m, rfl⟩ := Nat.exists_eq_succ_of_ne_zero (show m ≠ 0 by omega)
   rw [l_law31_few_rrlrddrldrrlrdE]
   unfold l_law31_few_rrlrddrldrrlrdB
   refine vDrop_here ?_
   have hlt : k < out.length := by omega
   obtain ⟨p, hp, hld⟩ := ht.iv.at (i := k) (List.getElem?_eq_getElem hlt)
   rw [ht.iv.len, vLss_n, dlt hlt, vIf_t]
   cases b with
   | true =>
    simp only [shutP_eq, vGuard_t]
    rw [hp, hld σ (.refl σ), vNeq_n, vPick_t, vAdd_n (by omega)]
    refine ih (k + 1) m _ (by omega) (by omega) ⟨fun h j hj => ?_, fun h => ?_⟩
    · by_cases hjk : j = k
      · subst hjk
        rw [List.getElem?_eq_getElem hlt]
        intro hh; injection hh with hh
        simp [hh] at h
      · exact hb.1 rfl j (by omega)
    · have := h k (by omega)
      rw [List.getElem?_eq_getElem hlt] at this
      have : ¬ out[k] = c := fun e => this (by rw [e])
      simp [this]
   | false =>
    simp only [shutP_eq, vGuard_tf, vPick_f]
    rw [vAdd_n (by omega)]
    refine ih (k + 1) m _ (by omega) (by omega) ⟨(fun h => by cases h), fun h => ?_⟩
    exact hb.2 fun j hj => h j (by omega)
 have outer : ∀ (r i m : Nat) (σ : Hp) (t : V) (out : List Nat), i + r = l.length → r < m → Hle σ1 σ → IB σ1 σ t out → out.length ≤ 2 → fewGo (tN two) (tT two) (l.drop i) out = fewL two l → l_law31_few_rrlrd y m (.list τ (u8s l) l.length) (.ptr bp 0) t (ni i) σ K := by
  intro r
  induction r with
  | zero =>
   intro i m σ t out hi hm hle ht hlo he
   obtain ⟨m, rfl⟩ := Nat.exists_eq_succ_of_ne_zero (show m ≠ 0 by omega)
   rw [l_law31_few_rrlrdE]
   unfold l_law31_few_rrlrdB
   refine vDrop_here ?_
   rw [vLenS_l, vLss_n, dnlt (by omega)]
   simp only [shutP_eq, vGuard_tf, vPick_f]
   rw [vIf_f]
   rw [List.drop_eq_nil_of_le (by omega)] at he
   unfold fewGo at he
   rw [← he] at hK
   exact vRet_here (hK t σ (le1.trans hle) ht.iv)
  | succ r ih =>
   intro i m σ t out hi hm hle ht hlo he
   obtain ⟨m, rfl⟩ := Nat.exists_eq_succ_of_ne_zero (show m ≠ 0 by omega)
   rw [l_law31_few_rrlrdE]
   unfold l_law31_few_rrlrdB
   refine vDrop_here ?_
   have hlt : i < l.length := by omega
   have rp2 := hle _ _ rp
   have ed : l.drop i = l[i] :: l.drop (i + 1) := List.drop_eq_getElem_cons hlt
   rw [ed] at he
   unfold fewGo at he
   rw [vLenS_l, vLss_n, dlt hlt]
   simp only [shutP_eq, vGuard_t, ht.iv.len]
   rw [vFld_z, ldp rp2 e6, vLss_n, vPick_t]
   by_cases c : out.length < tT two
   · rw [decide_eq_true c, vIf_t, vIdx_l hlt, Nat.mul_one, ucell hlt, i64 (hl8 _ (List.getElem_mem hlt)), vFld_z, ldp rp2 e5, vRem_n hN, vAdd_n (by have := Nat.mod_lt l[i] hN; omega), hy.most]
     rw [if_pos c] at he
     have jn : ∀ (σ' : Hp) (t' : V) (out' : List Nat), Hle σ1 σ' → IB σ1 σ' t' out' → out'.length ≤ 2 → fewGo (tN two) (tT two) (l.drop (i + 1)) out' = fewL two l → j_law31_few_rrlrddrr y m (.list τ (u8s l) l.length) (.ptr bp 0) t' (ni i) σ' K := fun σ' t' out' h1 h2 h3 h4 => by
      rw [j_law31_few_rrlrddrrE y hm0]
      unfold j_law31_few_rrlrddrrB
      refine vDrop_here ?_
      rw [vAdd_n (by omega)]
      exact ih (i + 1) m σ' t' out' (by omega) (by omega) h1 h2 h3 h4
     refine inner m i (1 + l[i] % tN two) σ t out ht (by omega) ⟨fun hc => ?_, fun hc => ?_⟩ out.length 0 M true (by omega) (by omega) ⟨fun _ j hj => absurd hj (by omega), fun _ => rfl⟩
     · rw [if_pos hc] at he
       exact jn σ t out hle ht hlo he
     · rw [if_neg hc] at he
       refine ht.app hle (by omega) fun w σ' le' hw => ?_
       exact jn σ' w _ le' hw (by simp; omega) he
   · rw [decide_eq_false c, vIf_f]
     rw [if_neg c] at he
     rw [← he] at hK
     exact vRet_here (hK t σ (le1.trans hle) ht.iv)
 rw [hy.most]
 exact outer l.length 0 M σ1 .nil [] (by omega) (by omega) (.refl _) .nil (by simp) rfl
end
end Go.Am

set_option linter.unusedVariables false
set_option maxRecDepth 4000
namespace Go.Am
open Go.Proofs.Mdl
theorem del_up {σ1 σ2 : Hp} {t : Nat} (h : Hle σ1 σ2) (ht : σ1 t = none) : Hle σ1 (del σ2 t) := fun j o e => by
 have hj : j ≠ t := fun c => by rw [c, ht] at e; cases e
 rw [del_ne hj]; exact h j o e
def drw (two : Bool) (ah : List Nat) (s : BitVec 64) : List Nat := drawn ((tT two + (1 + tT two)) * 2) ah s
theorem numz64 {a b : Int} : L64 (secL a b) := fun c hc => by
 rcases List.mem_cons.1 hc with rfl | hc
 · exact Nat.lt_trans (numZ_lt _) (by decide)
 · rw [List.mem_singleton.1 hc]; exact Nat.lt_trans (numZ_lt _) (by decide)
theorem dif64 {a b c d : Int} : L64 (difL a b c d) := fun e he => by
 rcases List.mem_cons.1 he with rfl | he
 · exact Nat.lt_trans (sub_lt _ _) (by decide)
 · rw [List.mem_singleton.1 he]; exact Nat.lt_trans (sub_lt _ _) (by decide)
section
variable {M n : Nat} {x : VE} {σ : Hp} {K : KV} {two : Bool}
theorem lineP_64 (l : List Nat) : ∀ c ∈ lineP l, c < 18446744073709551616 := by
 have : ∀ (l m : List Nat), L64 m → L64 (l.foldl lineS m) := by
  intro l
  induction l with
  | nil => intro m h; exact h
  | cons a l ih => intro m h; exact ih _ times_64
 exact this l [1] (fun c hc => by rw [List.mem_singleton.1 hc]; show 1 < 18446744073709551616; decide)
theorem lineL_64 (l : List Nat) : L64 (lineL two l) := fun c hc => by
 unfold lineL padL at hc
 rcases List.mem_append.1 hc with hc | hc
 · exact lineP_64 l c hc
 · rw [(List.mem_replicate.1 hc).2]; show 0 < 18446744073709551616; decide
theorem lineL_len {l : List Nat} (h : l.length ≤ tT two) : (lineL two l).length = tT two + 1 := by
 unfold lineL padL lineP
 rw [List.length_append, List.length_replicate, foldS_len]
 simp only [List.length_cons, List.length_nil]
 omega
theorem loads_s (hM : 1000000 < M) (hx : Deep PP tbS gM M (n + 17) x) {τ1 τ2 τ3 τ4 : Tag} {a b c d : Int} (ha : okZ a) (hb : okZ b) (hc : okZ c) (hd : okZ d) {S : Nat} (hS : b64 S) {v : V} {tk : List Nat} (hv : IV σ v tk) (h1 : tk.length ≤ tT two) (h2 : ∀ c ∈ tk, 1 ≤ c ∧ c ≤ tN two) (h3 : ∀ a b, tk = [a, b] → a ≠ b)
 (hK : ∀ σ' o f r f2 r2, Hle σ σ' → σ' o = some (.row (nvs (lineL two tk)) 22) → f = fsR (tT two) (secL a b) (drw two [] (BitVec.ofNat 64 S)) → r = rsR (tT two) 2 (drw two [] (BitVec.ofNat 64 S)) →
  f2 = fsR (tT two) (secL c d) (drw two (loadL two (lineL two tk) (difL a b c d) (drawn (2 * (2 * tT two + 1)) [] (BitVec.ofNat 64 S))) 0) → r2 = rsR (tT two) 2 (drw two (loadL two (lineL two tk) (difL a b c d) (drawn (2 * (2 * tT two + 1)) [] (BitVec.ofNat 64 S))) 0) →
  ∀ τ1 τ2 τ3 τ4, K (.tuple [.list τ1 (shD f r (tN two)) (tN two), .list τ2 (shD f2 r2 (tN two)) (tN two), .list τ3 (lsD (comsL f r)) (comsL f r).length, .list τ4 (lsD (comsL f2 r2)) (comsL f2 r2).length, .own o 0 (tT two + 1) (tT two + 1), .bool true]) σ') :
 x.call c_law31_loads [.agg (pv two), mdl τ1 τ2 a b, mdl τ3 τ4 c d, nu S, v] σ K := by
 have hT : tT two ≤ 2 := by cases two <;> decide
 have hT1 : 1 ≤ tT two := by cases two <;> decide
 refine hx.call o_loads fun y hy => ?_
 rw [f_law31_loads]
 unfold r_law31_loads
 refine vBox_agg pv_one fun p hp => ?_
 have le1 : Hle σ (upd σ p (.row (pv two) 25)) := .upd_new hp
 have rp : upd σ p (.row (pv two) 25) p = some (.row (pv two) 25) := upd_same
 generalize upd σ p (.row (pv two) 25) = σ1 at le1 rp
 refine vBox_agg rfl fun q hq => ?_
 have le2 : Hle σ1 (upd σ1 q (.row [w2 τ1 a, w1 τ2 b] 38)) := .upd_new hq
 have rq : upd σ1 q (.row [w2 τ1 a, w1 τ2 b] 38) q = some (.row [w2 τ1 a, w1 τ2 b] 38) := upd_same
 generalize upd σ1 q (.row [w2 τ1 a, w1 τ2 b] 38) = σ2 at le2 rq
 refine vBox_agg rfl fun r hr => ?_
 have le3 : Hle σ2 (upd σ2 r (.row [w2 τ3 c, w1 τ4 d] 38)) := .upd_new hr
 have rr : upd σ2 r (.row [w2 τ3 c, w1 τ4 d] 38) r = some (.row [w2 τ3 c, w1 τ4 d] 38) := upd_same
 generalize upd σ2 r (.row [w2 τ3 c, w1 τ4 d] 38) = σ3 at le3 rr
 have rp3 := le3 _ _ (le2 _ _ rp)
 have rq3 := le3 _ _ rq
 have leS := (le1.trans le2).trans le3
 have e1 : (pv two)[1]? = some (nu 23) := rfl
 have e5 : (pv two)[5]? = some (ni (tN two)) := rfl
 have e6 : (pv two)[6]? = some (ni (tT two)) := rfl
 have lp : ∀ {σ' : Hp} {K : KV}, Hle σ3 σ' → vLdN 12 (.ptr p 0) σ' K = K (.agg (pv two)) σ' := fun {σ' K} hle => by
  rw [vLdN_p (hle _ _ rp3), vPart_ok (by rw [pv_len]; omega), List.drop_zero, List.take_of_length_le (by rw [pv_len]; omega)]
 have lq : ∀ {σ' : Hp} {K : KV}, Hle σ3 σ' → vLdN 2 (.ptr q 0) σ' K = K (mdl τ1 τ2 a b) σ' := fun {σ' K} hle => by
  rw [vLdN_p (hle _ _ rq3), vPart_ok (by simp)]; rfl
 have lr : ∀ {σ' : Hp} {K : KV}, Hle σ3 σ' → vLdN 2 (.ptr r 0) σ' K = K (mdl τ3 τ4 c d) σ' := fun {σ' K} hle => by
  rw [vLdN_p (hle _ _ rr), vPart_ok (by simp)]; rfl
 have l1 : ∀ {σ' : Hp} {K : KV}, Hle σ3 σ' → vLd (.ptr p 1) σ' K = K (nu 23) σ' := fun hle => ldp (hle _ _ rp3) e1
 have l5 : ∀ {σ' : Hp} {K : KV}, Hle σ3 σ' → vLd (.ptr p 5) σ' K = K (ni (tN two)) σ' := fun hle => ldp (hle _ _ rp3) e5
 have l6 : ∀ {σ' : Hp} {K : KV}, Hle σ3 σ' → vLd (.ptr p 6) σ' K = K (ni (tT two)) σ' := fun hle => ldp (hle _ _ rp3) e6
 have sm : ∀ {q : Prop}, vSame (.agg (pv two)) (.agg (pv two)) q = q := fun {q} => vSame_ok rfl
 have smq : ∀ {q : Prop}, vSame (mdl τ1 τ2 a b) (mdl τ1 τ2 a b) q = q := fun {q} => vSame_ok rfl
 have smr : ∀ {q : Prop}, vSame (mdl τ3 τ4 c d) (mdl τ3 τ4 c d) q = q := fun {q} => vSame_ok rfl
 rw [lp (.refl _)]
 refine line_s (n := n + 10) hM hy (hv.up leS) h1 h2 h3 fun o σ4 ho le4 ro => ?_
 rw [lp le4, lq le4, vFld_z, l6 le4, vMul_n (by omega), vAdd_n (by omega), vFld_z, l1 le4]
 refine new_s (n := n + 15) hy hS fun t σ5 ht le5 bt5 tp5 => ?_
 have le35 := le4.trans le5
 rw [l1 le35, vSame_i, l6 le35, vSame_i, lq le35, smq, lp le35, sm]
 refine secrets'_s (n := n + 10) (by omega) hy ha hb fun w1' σ6 le6 m6 => ?_
 have le36 := le35.trans le6
 have hl2 : (secL a b).length = 2 := rfl
 rw [l1 le36, vSame_i, l6 le36, vSame_i, m6.nv.len, hl2, vMul_n (by omega)]
 have tp6 : Tape σ6 t (BitVec.ofNat 64 S) [] 0 := tp5.keep fun j o e _ => le6 j o e
 refine draws_s (n := n + 13) (by omega) hy (by omega) (by decide) tp6 fun σ7 od hod b7 _ rod => ?_
 have le47 : Hle σ4 σ7 := fun j ob e => by
  have hj : j ≠ t := fun c => by rw [c, ht] at e; cases e
  have e6 := le6 _ _ (le5 _ _ e)
  have hj2 : j ≠ od := fun c => by rw [c, hod] at e6; cases e6
  rw [b7 j hj hj2]; exact e6
 have le37 := le4.trans le47
 rw [l6 le37, vSame_i, lp le37, lp le37, lq le37]
 refine secrets'_s (n := n + 10) (by omega) hy ha hb fun w2' σ8 le8 m8 => ?_
 have le38 := le37.trans le8
 rw [lp le38, sm]
 refine new_s (n := n + 15) hy hS fun t2 σ9 ht2 le9 bt9 tp9 => ?_
 have le39 := le38.trans le9
 rw [lp le39, sm]
 have d9 : Hle σ8 (del σ9 t2) := del_up le9 ht2
 refine model_s (n := n) hM hy (m8.nv.up d9) numz64 rfl tp9 fun f r' hf hr' τ5 τ6 => ?_
 have le3d := le38.trans d9
 rw [vExt_at (v := .list τ5 (shD f r' (tN two)) (tN two)) rfl, vExt_at (v := .list τ6 (lsD (comsL f r')) (comsL f r').length) rfl, vExt_at (v := ni 0) rfl]
 generalize del σ9 t2 = σ10 at d9 le3d
 rw [lp le3d, lp le3d, lr le3d, lp le3d, lp le3d, lq le3d, lr le3d]
 refine secrets'_s (n := n + 10) (by omega) hy hc hd fun w3 σ11 le11 m11 => ?_
 have le3e := le3d.trans le11
 rw [lr le3e, smr, lq le3e, smq, lp le3e, sm, lp le3e, sm, lp le3e, sm]
 refine differs_s (n := n + 9) (by omega) hy ha hb hc hd fun w4 σ12 le12 m12 => ?_
 have le3f := le3e.trans le12
 rw [lp le3f, sm, lp le3f, sm]
 have le7f : Hle σ7 σ12 := ((le8.trans d9).trans le11).trans le12
 have rod12 := le7f _ _ rod
 have ro12 := le7f _ _ (le47 _ _ ro)
 have hll := lineL_len (two := two) h1
 have hdl : (drawn (2 * (2 * tT two + 1)) [] (BitVec.ofNat 64 S)).length = 2 * (2 * tT two + 1) := drawn_len _ _ _
 have mod : MN σ6 σ12 (.own od 0 (2 * (2 * tT two + 1)) (2 * (2 * tT two + 1))) (drawn (2 * (2 * tT two + 1)) [] (BitVec.ofNat 64 S)) := by
  have := MN.own (σ0 := σ6) (l := drawn (2 * (2 * tT two + 1)) [] (BitVec.ofNat 64 S)) hod rod12
  rw [hdl] at this; exact this
 rw [← hll]
 refine load_s (n := n + 10) (two := two) (line := lineL two tk) hM hy m12.one (by cases m12 <;> rfl) m12.nv rfl dif64 ro12 hll (lineL_64 tk) mod (fun c hc => Nat.lt_trans (drawn_lt _ _ _ c hc) (by decide)) hdl fun w5 σ13 le13 m13 => ?_
 have le3g := le3f.trans le13
 rw [lp le3g, sm]
 refine of_s (n := n + 14) hy m13 (by unfold loadL; rw [List.length_zipWith, hdl]; omega) (show 0 < 18446744073709551616 by decide) fun t3 σ14 ht3 le14 tp14 => ?_
 have le3h := le3g.trans le14
 rw [lp le3h, sm]
 have d14 : Hle σ13 (del σ14 t3) := del_up le14 ht3
 refine model_s (n := n) hM hy (((m11.nv.up le12).up le13).up d14) numz64 rfl tp14 fun f2 r2 hf2 hr2 τ7 τ8 => ?_
 have le3i := le3g.trans d14
 rw [vExt_at (v := .list τ7 (shD f2 r2 (tN two)) (tN two)) rfl, vExt_at (v := .list τ8 (lsD (comsL f2 r2)) (comsL f2 r2).length) rfl, vExt_at (v := ni 0) rfl]
 have ro14 := d14 _ _ (le13 _ _ ro12)
 generalize del σ14 t3 = σ15 at d14 le3i ro14
 have eE : ∀ {k : V → Prop}, vBin PP .eql 61 (ni 0) (.int .i64 (.ofNat 0)) k = k (.bool true) := fun {k} => by rw [vEql_n]; rfl
 have eO : ∀ {k : V → Prop}, vLenS (.own o 0 (lineL two tk).length (lineL two tk).length) k = k (ni (lineL two tk).length) := rfl
 have eL : ∀ {τ : Tag} {cs : List Dt} {m : Nat} {k : V → Prop}, vLenS (.list τ cs m) k = k (ni m) := rfl
 simp only [shutP_eq, eE, vGuard_t, vPick_t, eO, vFld_z]
 rw [l6 le3i, vAdd_n (by omega), vEql_n, decide_eq_true hll]
 simp only [vGuard_t, vPick_t, eL]
 rw [l5 le3i, vEql_n, decide_eq_true rfl]
 simp only [vGuard_t, vPick_t, eL]
 rw [l5 le3i, vEql_n, decide_eq_true rfl]
 simp only [vGuardC_t, l5 le3i, l6 le3i, vSame_i]
 refine vRet_here ?_
 rw [hll]
 exact hK σ15 o f r' f2 r2 (leS.trans le3i) ro14 hf hr' hf2 hr2 _ _ _ _
end
end Go.Am

set_option linter.unusedVariables false
set_option maxRecDepth 4000
namespace Go.Am
open Go.Proofs.Mdl
def LawOk (two : Bool) (A B C D : Int) (S : Nat) (tk : List Nat) : Prop :=
 ∀ f r f2 r2, f = fsR (tT two) (secL A B) (drw two [] (BitVec.ofNat 64 S)) → r = rsR (tT two) 2 (drw two [] (BitVec.ofNat 64 S)) →
  f2 = fsR (tT two) (secL C D) (drw two (loadL two (lineL two tk) (difL A B C D) (drawn (2 * (2 * tT two + 1)) [] (BitVec.ofNat 64 S))) 0) → r2 = rsR (tT two) 2 (drw two (loadL two (lineL two tk) (difL A B C D) (drawn (2 * (2 * tT two + 1)) [] (BitVec.ofNat 64 S))) 0) →
  comsL f r = comsL f2 r2 ∧ ∀ i, 1 ≤ i → i ≤ tN two → (i ∈ tk → shL f r i = shL f2 r2 i) ∧ shL f2 r2 i = movL (invN 19) (ev 23 (lineL two tk) i) (shL f r i) (difL A B C D)
theorem shL_64 {f r : List (List Nat)} {X : Nat} : ∀ p ∈ shL f r X, b64 p.1 ∧ b64 p.2 := by
 intro p hp
 obtain ⟨i, hi⟩ := List.getElem?_of_mem hp
 unfold shL at hi
 rw [List.getElem?_zipWith] at hi
 split at hi
 · injection hi with hi; subst hi; exact ⟨ev_lt 23 q23 _ _, ev_lt 23 q23 _ _⟩
 · cases hi
theorem shD_at {f r : List (List Nat)} {N i : Nat} (h : i < N) : (shD f r N)[i]? = some (.list (pds (shL f r (i + 1))) (shL f r (i + 1)).length) := by
 unfold shD; rw [List.getElem?_map, List.getElem?_range h]; rfl
section
variable {M n : Nat} {x : VE} {σ : Hp} {K : KV} {two : Bool}
end
end Go.Am

set_option linter.unusedVariables false
set_option maxRecDepth 4000
namespace Go.Am
open Go.Proofs.Mdl
theorem inv19 : invN 19 = 17 := by decide
theorem com_table : ∀ s, s < 23 → ∀ b, b < 23 → com s b = com ((s + 19 * b) % 23) 0 := by decide +kernel
theorem addq_lt (a b : Nat) : addq a b < 23 := Nat.mod_lt _ (by decide)
theorem ontoB_eq (d l : Nat) : ontoB 17 d l = 374 * d * l % 23 := by
 unfold ontoB subN
 rw [Nat.mul_assoc 374 d l]
 omega
theorem com_move {f r : Nat} (d l : Nat) (hf : f < 23) (hr : r < 23) : com f r = com (addq f (ontoA d l)) (addq r (ontoB 17 d l)) := by
 rw [com_table f hf r hr, com_table _ (addq_lt _ _) _ (addq_lt _ _), ontoB_eq]
 congr 1
 unfold addq ontoA
 rw [Nat.mul_assoc 374 d l]
 omega
theorem ev_cons (a : Nat) (l : List Nat) (X : Nat) : ev 23 (a :: l) X = (ev 23 l X * X + a) % 23 := by
 show (ev 23 l X * X % 23 % 23 + a % 23) % 23 = _
 omega
theorem mulmod (a X : Nat) : a % 23 * X % 23 = a * X % 23 := Nat.mod_mul_mod a X 23
theorem ev_add : ∀ (f g : List Nat) (X : Nat), f.length = g.length → ev 23 (List.zipWith addq f g) X = addq (ev 23 f X) (ev 23 g X) := by
 intro f
 induction f with
 | nil => intro g X h; cases g with | nil => rfl | cons b g => cases h
 | cons a f ih =>
  intro g X h
  cases g with
  | nil => cases h
  | cons b g =>
   rw [List.zipWith_cons_cons, ev_cons, ev_cons, ev_cons, ih g X (by simpa using h)]
   have e : addq (ev 23 f X) (ev 23 g X) * X % 23 = (ev 23 f X * X + ev 23 g X * X) % 23 := by
    unfold addq; rw [mulmod, ← Nat.add_mul, ← mulmod, Nat.mod_add_mod, Nat.add_mod_mod, mulmod]
   unfold addq at e ⊢
   generalize (ev 23 f X % 23 + ev 23 g X % 23) % 23 * X = A at e
   omega
theorem ev_scale (d : Nat) : ∀ (l : List Nat) (X : Nat), ev 23 (l.map fun c => d * c % 23) X = d * ev 23 l X % 23 := by
 intro l X
 induction l with
 | nil => rfl
 | cons a l ih =>
  rw [List.map_cons, ev_cons, ev_cons, ih]
  have e1 : d * ev 23 l X % 23 * X % 23 = d * (ev 23 l X * X) % 23 := by rw [mulmod, Nat.mul_assoc]
  have e2 : d * ((ev 23 l X * X + a) % 23) % 23 = (d * (ev 23 l X * X) + d * a) % 23 := by rw [Nat.mul_comm, mulmod, Nat.mul_comm, Nat.mul_add]
  rw [e2]
  generalize d * ev 23 l X % 23 * X = A at e1
  omega
theorem ev_A (d : Nat) (l : List Nat) (X : Nat) : ev 23 (l.map (ontoA d)) X = d * ev 23 l X % 23 := ev_scale d l X
theorem ev_B (d : Nat) (l : List Nat) (X : Nat) : ev 23 (l.map (ontoB 17 d)) X = 374 * d * ev 23 l X % 23 := by
 rw [show ontoB 17 d = fun c => 374 * d * c % 23 from funext fun c => ontoB_eq d c]
 exact ev_scale _ l X
theorem ev_23 (l : List Nat) (X : Nat) : ev 23 l X < 23 := by cases l with | nil => show 0 < 23; decide | cons a l => rw [ev_cons]; exact Nat.mod_lt _ (by decide)
theorem one_sh {f r l : List Nat} (d X : Nat) (hf : f.length = l.length) (hr : r.length = l.length) :
 (ev 23 (List.zipWith addq f (l.map (ontoA d))) X, ev 23 (List.zipWith addq r (l.map (ontoB 17 d))) X) = (addq (ev 23 f X) (d * ev 23 l X % 23), subN (ev 23 r X) (d * ev 23 l X % 23 * 17 % 23) 23) := by
 rw [ev_add _ _ _ (by simpa using hf), ev_add _ _ _ (by simpa using hr), ev_A, ev_B]
 congr 1
 unfold addq subN
 rw [Nat.mul_assoc 374 d]
 omega
theorem one_com {f r l : List Nat} (d : Nat) : f.length = l.length → r.length = l.length → (∀ c ∈ f, c < 23) → (∀ c ∈ r, c < 23) → comRow f r = comRow (List.zipWith addq f (l.map (ontoA d))) (List.zipWith addq r (l.map (ontoB 17 d))) := by
 induction l generalizing f r with
 | nil => intro h1 h2 _ _; cases f with | nil => rfl | cons a f => cases h1
 | cons a l ih =>
  intro h1 h2 h3 h4
  match f, r, h1, h2, h3, h4 with
  | b :: f, c :: r, h1, h2, h3, h4 =>
   show com b c :: comRow f r = com _ _ :: comRow _ _
   rw [← com_move d a (h3 b List.mem_cons_self) (h4 c List.mem_cons_self), ih (by simpa using h1) (by simpa using h2) (fun c hc => h3 c (List.mem_cons_of_mem _ hc)) (fun c hc => h4 c (List.mem_cons_of_mem _ hc))]
theorem drawn_all : ∀ (l : List Nat) (s : BitVec 64), (∀ c ∈ l, c < 23) → drawn l.length l s = l := by
 intro l
 induction l with
 | nil => intro s _; rfl
 | cons a l ih =>
  intro s h
  show a % 23 :: drawn l.length l s = _
  rw [ih s (fun c hc => h c (List.mem_cons_of_mem _ hc)), Nat.mod_eq_of_lt (h a List.mem_cons_self)]
def lists1 : List (List Nat) := [] :: (List.range 4).map fun i => [i + 1]
def lists2 : List (List Nat) := [] :: ((List.range 7).map fun i => [i + 1]) ++ (List.range 7).flatMap fun i => (List.range 7).map fun j => [i + 1, j + 1]
def lineOk (two : Bool) (tk : List Nat) : Bool := (lineL two tk).length = tT two + 1 && (lineL two tk)[0]? = some 1 && tk.all fun c => ev 23 (lineL two tk) c = 0
theorem lines1 : lists1.all (lineOk false) = true := by decide +kernel
theorem lines2 : lists2.all (lineOk true) = true := by decide +kernel
theorem line_ok {two : Bool} {tk : List Nat} (h1 : tk.length ≤ tT two) (h2 : ∀ c ∈ tk, 1 ≤ c ∧ c ≤ tN two) : lineOk two tk = true := by
 cases two with
 | false =>
  have h1 : tk.length ≤ 1 := h1
  refine List.all_eq_true.1 lines1 tk ?_
  match tk, h1, h2 with
  | [], _, _ => exact List.mem_cons_self
  | [a], _, h2 =>
   have h := h2 a List.mem_cons_self
   have hb : a ≤ 4 := h.2
   refine List.mem_cons_of_mem _ (List.mem_map.2 ⟨a - 1, List.mem_range.2 (by omega), by rw [Nat.sub_add_cancel h.1]⟩)
 | true =>
  have h1 : tk.length ≤ 2 := h1
  refine List.all_eq_true.1 lines2 tk ?_
  match tk, h1, h2 with
  | [], _, _ => exact List.mem_cons_self
  | [a], _, h2 =>
   have h := h2 a List.mem_cons_self
   have hb : a ≤ 7 := h.2
   exact List.mem_cons_of_mem _ (List.mem_append.2 (.inl (List.mem_map.2 ⟨a - 1, List.mem_range.2 (by omega), by rw [Nat.sub_add_cancel h.1]⟩)))
  | [a, b], _, h2 =>
   have h := h2 a List.mem_cons_self
   have h' := h2 b (List.mem_cons_of_mem _ List.mem_cons_self)
   have hb : a ≤ 7 := h.2
   have hb' : b ≤ 7 := h'.2
   exact List.mem_cons_of_mem _ (List.mem_append.2 (.inr (List.mem_flatMap.2 ⟨a - 1, List.mem_range.2 (by omega), List.mem_map.2 ⟨b - 1, List.mem_range.2 (by omega), by rw [Nat.sub_add_cancel h.1, Nat.sub_add_cancel h'.1]⟩⟩)))
theorem two_rows {tk line f0 f1 r0 r1 : List Nat} {d0 d1 N : Nat} (hf0 : f0.length = line.length) (hf1 : f1.length = line.length) (hr0 : r0.length = line.length) (hr1 : r1.length = line.length)
 (h1 : ∀ c ∈ f0, c < 23) (h2 : ∀ c ∈ f1, c < 23) (h3 : ∀ c ∈ r0, c < 23) (h4 : ∀ c ∈ r1, c < 23) (hz : ∀ c ∈ tk, ev 23 line c = 0) {f r f2 r2 : List (List Nat)} (ef : f = [f0, f1]) (er : r = [r0, r1])
 (ef2 : f2 = [List.zipWith addq f0 (line.map (ontoA d0)), List.zipWith addq f1 (line.map (ontoA d1))]) (er2 : r2 = [List.zipWith addq r0 (line.map (ontoB 17 d0)), List.zipWith addq r1 (line.map (ontoB 17 d1))]) :
 comsL f r = comsL f2 r2 ∧ ∀ i, 1 ≤ i → i ≤ N → (i ∈ tk → shL f r i = shL f2 r2 i) ∧ shL f2 r2 i = movL (invN 19) (ev 23 line i) (shL f r i) [d0, d1] := by
 subst ef er ef2 er2
 refine ⟨?_, fun i _ _ => ?_⟩
 · show [comRow f0 r0, comRow f1 r1] = [comRow _ _, comRow _ _]
   rw [← one_com d0 hf0 hr0 h1 h3, ← one_com d1 hf1 hr1 h2 h4]
 · have e : shL [List.zipWith addq f0 (line.map (ontoA d0)), List.zipWith addq f1 (line.map (ontoA d1))] [List.zipWith addq r0 (line.map (ontoB 17 d0)), List.zipWith addq r1 (line.map (ontoB 17 d1))] i = movL (invN 19) (ev 23 line i) (shL [f0, f1] [r0, r1] i) [d0, d1] := by
    show [(_, _), (_, _)] = [(_, _), (_, _)]
    rw [one_sh d0 i hf0 hr0, one_sh d1 i hf1 hr1, inv19]
   refine ⟨fun hi => ?_, e⟩
   rw [e, hz i hi, inv19]
   show [(_, _), (_, _)] = [(_, _), (_, _)]
   have z : ∀ l : List Nat, ∀ d : Nat, addq (ev 23 l i) (d * 0 % 23) = ev 23 l i := fun l d => by
    have := ev_23 l i
    unfold addq; omega
   have z2 : ∀ l : List Nat, ∀ d : Nat, subN (ev 23 l i) (d * 0 % 23 * 17 % 23) 23 = ev 23 l i := fun l d => by
    have := ev_23 l i
    unfold subN; rw [Nat.mul_zero]; omega
   rw [z, z, z2, z2]
theorem sec_move (a c : Nat) : c % 23 = addq (a % 23) (ontoA (subN c a 23) 1) := by unfold addq ontoA subN; omega
theorem law_ok {two : Bool} {A B C D : Int} {S : Nat} {tk : List Nat} (h1 : tk.length ≤ tT two) (h2 : ∀ c ∈ tk, 1 ≤ c ∧ c ≤ tN two) : LawOk two A B C D S tk := by
 intro f r f2 r2 ef er ef2 er2
 have hl := line_ok h1 h2
 unfold lineOk at hl
 simp only [Bool.and_eq_true, decide_eq_true_eq, List.all_eq_true] at hl
 obtain ⟨⟨hl1, hl2⟩, hl3⟩ := hl
 generalize lineL two tk = line at *
 have hD : (drawn (2 * (2 * tT two + 1)) [] (BitVec.ofNat 64 S)).length = 2 * (2 * tT two + 1) := drawn_len _ _ _
 have hL := drawn_lt (2 * (2 * tT two + 1)) [] (BitVec.ofNat 64 S)
 have e1 : drw two [] (BitVec.ofNat 64 S) = drawn (2 * (2 * tT two + 1)) [] (BitVec.ofNat 64 S) := by unfold drw; rw [show (tT two + (1 + tT two)) * 2 = 2 * (2 * tT two + 1) by omega]
 rw [e1] at ef er
 clear e1
 have hz : ∀ xs ys : List Nat, ∀ c ∈ List.zipWith addq xs ys, c < 23 := fun xs ys c hc => by
  obtain ⟨i, hi⟩ := List.getElem?_of_mem hc
  rw [List.getElem?_zipWith] at hi
  split at hi
  · injection hi with hi; subst hi; exact addq_lt _ _
  · cases hi
 have e2 : ∀ s, drw two (loadL two line (difL A B C D) (drawn (2 * (2 * tT two + 1)) [] (BitVec.ofNat 64 S))) s = loadL two line (difL A B C D) (drawn (2 * (2 * tT two + 1)) [] (BitVec.ofNat 64 S)) := fun s => by
  have hll : (loadL two line (difL A B C D) (drawn (2 * (2 * tT two + 1)) [] (BitVec.ofNat 64 S))).length = 2 * (2 * tT two + 1) := by
   unfold loadL
   rw [List.length_zipWith, ontoL_len, hl1, hD, show (difL A B C D).length = 2 from rfl]
   omega
  unfold drw
  rw [show (tT two + (1 + tT two)) * 2 = 2 * (2 * tT two + 1) by omega]
  have h := drawn_all (loadL two line (difL A B C D) (drawn (2 * (2 * tT two + 1)) [] (BitVec.ofNat 64 S))) s (hz _ _)
  rw [hll] at h
  exact h
 rw [e2] at ef2 er2
 clear e2
 generalize drawn (2 * (2 * tT two + 1)) [] (BitVec.ofNat 64 S) = DD at *
 unfold loadL at ef2 er2
 rw [inv19] at ef2 er2
 unfold difL secL at *
 generalize numZ A = a at *
 generalize numZ B = b at *
 generalize numZ C = c at *
 generalize numZ D = d at *
 cases two with
 | false =>
  have hl1 : line.length = 1 + 1 := hl1
  have hD : DD.length = 6 := hD
  match line, hl1, hl2, hl3, DD, hD, hL with
  | [l0, l1], _, hl2, hl3, [x0, x1, x2, x3, x4, x5], _, hL =>
   injection hl2 with hl2
   subst hl2
   have hx : ∀ c ∈ [x0, x1, x2, x3, x4, x5], c < 23 := hL
   simp only [List.mem_cons, List.not_mem_nil, or_false, forall_eq_or_imp, forall_eq] at hx
   obtain ⟨y0, y1, y2, y3, y4, y5⟩ := hx
   refine two_rows (line := [1, l1]) (f0 := [a % 23, x0]) (f1 := [b % 23, x3]) (r0 := [x1 % 23, x2]) (r1 := [x4 % 23, x5]) rfl rfl rfl rfl ?_ ?_ ?_ ?_ hl3 ef er ?_ ?_
   · simp only [List.mem_cons, List.not_mem_nil, or_false, forall_eq_or_imp, forall_eq]; omega
   · simp only [List.mem_cons, List.not_mem_nil, or_false, forall_eq_or_imp, forall_eq]; omega
   · simp only [List.mem_cons, List.not_mem_nil, or_false, forall_eq_or_imp, forall_eq]; omega
   · simp only [List.mem_cons, List.not_mem_nil, or_false, forall_eq_or_imp, forall_eq]; omega
   · rw [ef2]
     show [[c % 23, _], [d % 23, _]] = [[_, _], [_, _]]
     rw [← sec_move, ← sec_move]
   · rw [er2]
     show [[addq x1 (ontoB 17 (subN c a 23) 1) % 23, _], [addq x4 (ontoB 17 (subN d b 23) 1) % 23, _]] = [[_, _], [_, _]]
     rw [Nat.mod_eq_of_lt (addq_lt _ _), Nat.mod_eq_of_lt (addq_lt _ _), Nat.mod_eq_of_lt y1, Nat.mod_eq_of_lt y4]
 | true =>
  have hl1 : line.length = 2 + 1 := hl1
  have hD : DD.length = 10 := hD
  match line, hl1, hl2, hl3, DD, hD, hL with
  | [l0, l1, l2], _, hl2, hl3, [x0, x1, x2, x3, x4, x5, x6, x7, x8, x9], _, hL =>
   injection hl2 with hl2
   subst hl2
   have hx : ∀ c ∈ [x0, x1, x2, x3, x4, x5, x6, x7, x8, x9], c < 23 := hL
   simp only [List.mem_cons, List.not_mem_nil, or_false, forall_eq_or_imp, forall_eq] at hx
   obtain ⟨y0, y1, y2, y3, y4, y5, y6, y7, y8, y9⟩ := hx
   refine two_rows (line := [1, l1, l2]) (f0 := [a % 23, x0, x1]) (f1 := [b % 23, x5, x6]) (r0 := [x2 % 23, x3, x4]) (r1 := [x7 % 23, x8, x9]) rfl rfl rfl rfl ?_ ?_ ?_ ?_ hl3 ef er ?_ ?_
   · simp only [List.mem_cons, List.not_mem_nil, or_false, forall_eq_or_imp, forall_eq]; omega
   · simp only [List.mem_cons, List.not_mem_nil, or_false, forall_eq_or_imp, forall_eq]; omega
   · simp only [List.mem_cons, List.not_mem_nil, or_false, forall_eq_or_imp, forall_eq]; omega
   · simp only [List.mem_cons, List.not_mem_nil, or_false, forall_eq_or_imp, forall_eq]; omega
   · rw [ef2]
     show [[c % 23, _, _], [d % 23, _, _]] = [[_, _, _], [_, _, _]]
     rw [← sec_move, ← sec_move]
   · rw [er2]
     show [[addq x2 (ontoB 17 (subN c a 23) 1) % 23, _, _], [addq x7 (ontoB 17 (subN d b 23) 1) % 23, _, _]] = [[_, _, _], [_, _, _]]
     rw [Nat.mod_eq_of_lt (addq_lt _ _), Nat.mod_eq_of_lt (addq_lt _ _), Nat.mod_eq_of_lt y2, Nat.mod_eq_of_lt y7]
end Go.Am

set_option linter.unusedVariables false
set_option maxRecDepth 4000
namespace Go.Am
theorem few_ok {two : Bool} {l : List Nat} : (fewL two l).length ≤ tT two ∧ (∀ c ∈ fewL two l, 1 ≤ c ∧ c ≤ tN two) ∧ (fewL two l).Nodup := fewGo_ok (by cases two <;> decide) l [] (Nat.zero_le _) (fun c h => by cases h) .nil
section
variable {M n : Nat} {x : VE} {σ : Hp} {K : KV} {two : Bool}
end
end Go.Am

set_option linter.unusedVariables false
set_option maxRecDepth 100000
namespace Go.Am
open Go.RowKit Go.MapKept Go.Proofs
section
variable {σ : St} {C : Nat → Prop}
theorem rd_list1 {it : It} {v : Value} {es : List (List D)} (h : Rd σ C (.list [it]) v (.l es)) {α : Type} (f : α → Dt) (g : α → Prop) (hf : ∀ (v : Value) (d : D), Rd σ C it v d → ∃ a, DtR σ C (f a) v ∧ g a) : ∃ l : List α, DtR σ C (.list (l.map f) l.length) v ∧ (∀ a ∈ l, g a) ∧ l.length ≤ 140737488355328 := by
 cases h with
 | empty => exact ⟨[], .nil, (fun a h => by cases h), Nat.zero_le _⟩
 | emptyR => exact ⟨[], .emp, (fun a h => by cases h), Nat.zero_le _⟩
 | @row _ b o n c sp vs e ck es hsp hb hC ho hw hn hl hd hN hnc hr =>
  have each : ∀ k : Nat, k < n → ∃ a : α, (∀ v, vs[o + k]? = some v → DtR σ C (f a) v) ∧ g a := by
   intro k hk
   have hk1 : k < es.length := by omega
   have hlen := hd es[k] (List.getElem_mem hk1)
   simp only [List.length_cons, List.length_nil] at hlen hl
   have hv : vs[o + k]? = some (vs[o + k]'(by omega)) := List.getElem?_eq_getElem _
   obtain ⟨d, hd0⟩ : ∃ d, (es[k])[0]? = some d := ⟨(es[k])[0]'(by omega), List.getElem?_eq_getElem (by omega)⟩
   obtain ⟨a, h1, h2⟩ := hf _ d (hr k es[k] 0 it (vs[o + k]'(by omega)) d (List.getElem?_eq_getElem hk1) rfl (by simp) hd0)
   exact ⟨a, fun v e => by rw [hv] at e; injection e with e; subst e; exact h1, h2⟩
  rcases Nat.eq_zero_or_pos n with h0 | h0
  · subst h0
    exact ⟨[], .row hsp hb hC ho (by simp; simp at hl; omega) hnc (fun j d v e => by simp at e), (fun a h => by cases h), Nat.zero_le _⟩
  · obtain ⟨a0, _⟩ := each 0 h0
    let F : Nat → α := fun k => if h : k < n then (each k h).choose else a0
    have hF : ∀ k, k < n → (∀ v, vs[o + k]? = some v → DtR σ C (f (F k)) v) ∧ g (F k) := fun k h => by
     show (∀ v, vs[o + k]? = some v → DtR σ C (f (if h : k < n then (each k h).choose else a0)) v) ∧ g (if h : k < n then (each k h).choose else a0)
     rw [dif_pos h]; exact (each k h).choose_spec
    refine ⟨(List.range n).map F, ?_, fun a ha => ?_, by simpa using hN⟩
    · have : DtR σ C (.list (((List.range n).map F).map f) n) (.slice (some ⟨b, o, sp⟩) n c) := by
       refine .row hsp hb hC ho (by simp at hl ⊢; omega) hnc fun j d v e1 e2 => ?_
       rw [List.map_map, List.getElem?_map] at e1
       cases hj : (List.range n)[j]? with
       | none => rw [hj] at e1; cases e1
       | some q =>
        rw [hj] at e1
        injection e1 with e1
        have hjn : j < n := by have := (List.getElem?_eq_some_iff.1 hj).1; simpa using this
        rw [List.getElem?_range hjn] at hj
        injection hj with hj
        subst hj e1
        exact (hF j hjn).1 v e2
      simpa using this
    · obtain ⟨k, hk, rfl⟩ := List.mem_map.1 ha
      exact (hF k (by simpa using hk)).2
theorem rd_u8s {v : Value} {d : D} (h : Rd σ C (.list [.kind]) v d) : ∃ l : List Nat, DtR σ C (.list (u8s l) l.length) v ∧ (∀ b ∈ l, b < 256) ∧ l.length ≤ 140737488355328 := by
 have : ∃ es, d = .l es := by cases h <;> exact ⟨_, rfl⟩
 obtain ⟨es, rfl⟩ := this
 exact rd_list1 h (fun b : Nat => Dt.int .u8 (.ofNat b)) (fun b => b < 256) fun v d q => by cases q with | @kind z h => exact ⟨z, .int, h⟩
end
def c0 (ws : List Value) (n : Nat) : Cx := ⟨fun _ => none, fun _ _ => none, fun k => ws[k]?, n⟩
theorem start_vs (P : Program) (σ : St) (ws : List Value) : VS P (fun _ => False) σ (c0 ws σ.n) (fun _ => none) σ := by
 refine ⟨.refl σ, fun b h => h.elim, (fun i o e _ => by cases e), (fun i vs t n e => by cases e), fun i j b l _ => ?_, (fun i n w e => by cases e), ⟨0, fun i _ => ⟨rfl, rfl, fun n => rfl⟩⟩, ⟨ws.length, fun k hk => List.getElem?_eq_none hk⟩, (fun i vs t n m b e => by cases e), (fun i vs t n b w e o e1 => by cases e1)⟩
 rcases l with ⟨o, e, _⟩ | ⟨vs, t, n, m, e, _⟩ <;> cases e
theorem start_liv {ws : List Value} {n b : Nat} : ¬ Liv (fun _ => False) (c0 ws n) (fun _ => none) b := by
 rintro (h | ⟨i, ⟨o, e, _⟩ | ⟨vs, t, n, m, e, _⟩⟩)
 · exact h
 · cases e
 · cases e
theorem start_fr {ws : List Value} (σ : St) : Fr' (fun _ => False) σ σ (Liv (fun _ => False) (c0 ws σ.n) (fun _ => none)) := ⟨Nat.le_refl _, fun _ _ _ => rfl, fun b hb => (start_liv hb).elim⟩
theorem Lay.none {P : Program} {w : World} (hsz : P.globals.size ≤ w.heap.size) : Lay P w (Rn.globals P.globals.size) (St.none P.globals.size) := by
 refine ⟨Rel.none hsz, fun i o h => ?_⟩
 have : (St.none P.globals.size).obj i = Option.none := rfl
 rw [this] at h
 cases h
def isTrueV : V → Prop
 | .bool b => b = true
 | _ => False
theorem lay_u8s {H : Type} {enc : TypeId × Value → H} {W : World} {t : TypeId} (ht : itsT PP 8 t = some [.list [.kind]]) {v : Value} {d : DataW H} {p : List MemPlace} (hc : v.cells = #[v]) (h : DataW.Trod enc PP W 0 (fun _ => true) true t v d p) (hz : ∀ b off, MemPlace.cell b off ∈ p → W.frozen? ⟨b, off, none⟩ = false) (hw : ∀ x ∈ d.weights PP t, x ≤ reachBytes)
 {ρ : Rn} {σ : St} (hl : Lay PP W ρ σ) : ∃ ρ' σ' u l, Ext ρ ρ' ∧ Lay PP W ρ' σ' ∧ Ext' σ σ' ∧ VR ρ' u v ∧ DtR σ' (fun _ => False) (.list (u8s l) l.length) u ∧ (∀ b ∈ l, b < 256) ∧ l.length ≤ 140737488355328 := by
 obtain ⟨F, hF⟩ := h
 obtain ⟨ρ', σ', vs, ds, e1, l1, x1, hvs, hr⟩ := lay (P := PP) (w := W) (fun _ => true) (fun _ => rfl) F 8 t v.cells.toList d p hF hz hw [.list [.kind]] ht ρ σ hl
 rw [hc] at hvs
 have hlen : vs.length = 1 := hr.len
 match vs, hlen, hvs, hr with
 | [u], _, hvs, hr =>
  have hd : ds.length = 1 := hr.dlen
  match ds, hd, hr with
  | [d1], _, hr =>
   obtain ⟨l, h1, h2⟩ := rd_u8s (hr.rd 0 _ _ _ rfl rfl rfl)
   exact ⟨ρ', σ', u, l, e1, l1, x1, hvs.2 0 u v rfl rfl, h1, h2⟩
theorem called_of {W : World} {ρ : Rn} {σ : St} (hsz : PP.globals.size ≤ W.heap.size) (hg : Laid gs W) (hl : Lay PP W ρ σ) (roots : List Value) {f : FuncId} {va : List V} {us vs : List Value} {M m : Nat} (ra : VRL (c0 roots σ.n) σ (Liv (fun _ => False) (c0 roots σ.n) (fun _ => none)) va us) (hu : VRs ρ us vs)
 (hv : (venv PP tbS gM M m).call f va (fun _ => none) (fun v _ => isTrueV v)) : Calls PP f ⟨vs⟩ W (fun e w' => e = .returned (.bool true) ∧ Below W.heap.size W w') := by
 have hk := (venv_sim (P := PP) (B := fun _ => False) (σb := σ) (tb := tbS) gM_sim M m).call' f (start_vs PP σ roots) ra (K := fun v _ => isTrue v) (fun c' h' σ' v w _ _ _ r hb => by
  cases r with
  | bool => exact hb
  | _ => cases hb) hv
 obtain ⟨_, hcall⟩ := (envX_sound (P := PP) (w0 := W) (tb := tbS) (most := M) (ovN3_ok (w := W) hsz hg) namesN mixedN m).1 f us σ (fun v _ => isTrue v) ρ W vs hk hl.1 hu
 refine Calls.mono (callsIn_wide.1 hcall) ?_
 rintro e w' ⟨v', rfl, ρ3, v, σ3, hk2, hv, hrel, _⟩
 cases v with
 | bool b =>
  have hb : b = true := hk2
  subst hb
  rw [hv.of_flat rfl]
  exact ⟨rfl, hrel.base⟩
 | _ => cases hk2
theorem itsU8 : itsT PP 8 23 = some [.list [.kind]] := by kernel_rfl
end Go.Am
