/- Functions' codes, written out (by a program), each seen to be so by the kernel. -/
import Derived.Test.YtbdlooaoeegbgaaGreatDoorGf
import Derived.Test.YtbdlooaoeegbgaaGreatDoorGg

set_option linter.unusedVariables false
set_option maxRecDepth 100000
namespace Go.Am

/-! consistory/consistorylaw31.MirrorScores -/
noncomputable def l_law31_MirrorScores_rrrrrrrrlrd (x : VE) (m : Nat) (t6 t7 t17 t18 t19 t24 t25 t26 : V) (σ : Hp) (K : KV) : Prop := vjmpL PP tbS c_law31_MirrorScores x [.r, .r, .r, .r, .r, .r, .r, .r, .l, .r, .d] m [] [t6, t7, t17, t18, t19, t24, t25, t26] σ K
noncomputable def r_law31_MirrorScores (x : VE) (a0 a1 a2 a3 a4 a5 a6 a7 : V) (σ : Hp) (K : KV) : Prop :=
 x.call c_law31_some [a0] σ fun v0 σ =>
 vAlloc [(.int .u64 (.ofNat 0)), (.int .u64 (.ofNat 0)), (.int .u64 (.ofNat 0)), (.int .u64 (.ofNat 0)), (.int .i64 (.ofNat 0)), (.int .i64 (.ofNat 0)), (.int .i64 (.ofNat 0)), (.int .i64 (.ofNat 0)), (.int .i64 (.ofNat 0)), (.int .i64 (.ofNat 0)), (.int .i64 (.ofNat 0)), (.int .i64 (.ofNat 0))] 25 σ fun v1 σ =>
 vSt 12 v1 v0 σ fun σ =>
 vLenS a6 fun v2 =>
 vBin PP .gtr 3 v2 (.int .i64 (.ofNat 20)) fun v3 =>
 shutP x.most (vGuard false v3 (fun k => x.call c_law31_awake [] σ fun v4 σ =>
 k v4 σ) σ fun v5 σ =>
 shutP x.most (vGuard false v3 (fun k => vUn .not v5 fun v6 =>
 k v6 σ) σ fun v7 σ =>
 shutP x.most (vPick v3 (.bool true) v7 fun v8 =>
 vIf v8 (x.call c_law31_awake [] σ fun v9 σ =>
 vRet v9 σ K) (vBin PP .rem 2 a7 (.int .i64 (.ofNat 3)) fun v10 =>
 vLdN 12 v1 σ fun v11 σ =>
 vLdN 12 v1 σ fun v12 σ =>
 x.call c_law31_model [a1, a2] σ fun v13 σ =>
 vLdN 12 v1 σ fun v14 _ =>
 vSame v14 v12 (vLdN 12 v1 σ fun v15 _ =>
 vSame v15 v11 (x.call c_law31_model [a3, a4] σ fun v16 σ =>
 vLdN 12 v1 σ fun v17 _ =>
 vSame v17 v12 (vLdN 12 v1 σ fun v18 _ =>
 vSame v18 v11 (x.call c_law31_few [v12, a6] σ fun v19 σ =>
 vLdN 12 v1 σ fun v20 _ =>
 vSame v20 v11 (x.call c_law31_loads [v11, v13, v16, a5, v19] σ fun v21 σ =>
 vExt 0 v21 fun v22 =>
 vExt 1 v21 fun v23 =>
 vExt 2 v21 fun v24 =>
 vExt 3 v21 fun v25 =>
 vExt 4 v21 fun v26 =>
 vExt 5 v21 fun v27 =>
 vUn .not v27 fun v28 =>
 vIf v28 (vRet (.bool false) σ K) (vLdN 12 v1 σ fun v29 σ =>
 vLdN 12 v1 σ fun v30 σ =>
 vLdN 12 v1 σ fun v31 _ =>
 vSame v31 v30 (vLdN 12 v1 σ fun v32 _ =>
 vSame v32 v29 ((vBuildS 2 1 [(.int .i64 (.ofNat 0))] [(0, 1, v10)] σ fun v33 σ =>
 True) ∧ ((vBuildS 2 1 [(.int .i64 (.ofNat 0))] [(0, 1, v10)] σ fun v34 σ =>
 True) ∧ (x.call c_law31_model [a1, a2] σ fun v35 σ =>
 vLdN 12 v1 σ fun v36 _ =>
 vSame v36 v30 (vLdN 12 v1 σ fun v37 _ =>
 vSame v37 v29 (vLdN 12 v1 σ fun v38 _ =>
 vSame v38 v30 (vLdN 12 v1 σ fun v39 _ =>
 vSame v39 v29 ((vBuildS 2 1 [(.int .i64 (.ofNat 0))] [(0, 1, v10)] σ fun v40 σ =>
 True) ∧ ((vBuildS 2 1 [(.int .i64 (.ofNat 0))] [(0, 1, v10)] σ fun v41 σ =>
 True) ∧ (vBuildS 2 1 [(.int .i64 (.ofNat 0))] [(0, 1, v10)] σ fun v42 σ =>
 x.call c_fixed_Scores [v29, v35, v42] σ fun v43 σ =>
 vLdN 12 v1 σ fun v44 _ =>
 vSame v44 v30 (vLdN 12 v1 σ fun v45 _ =>
 vSame v45 v30 ((vBuildS 2 1 [(.int .i64 (.ofNat 0))] [(0, 1, v10)] σ fun v46 σ =>
 True) ∧ (x.call c_law31_model [a3, a4] σ fun v47 σ =>
 vLdN 12 v1 σ fun v48 _ =>
 vSame v48 v30 (vLdN 12 v1 σ fun v49 _ =>
 vSame v49 v30 ((vBuildS 2 1 [(.int .i64 (.ofNat 0))] [(0, 1, v10)] σ fun v50 σ =>
 True) ∧ (vBuildS 2 1 [(.int .i64 (.ofNat 0))] [(0, 1, v10)] σ fun v51 σ =>
 x.call c_fixed_Scores [v30, v47, v51] σ fun v52 σ =>
 vLenS v43 fun v53 =>
 vBin PP .neq 3 v53 (.int .i64 (.ofNat 1)) fun v54 =>
 shutP x.most (vGuard false v54 (fun k => k v52 σ) σ fun v55 σ =>
 shutP x.most (vGuard false v54 (fun k => vLenS v55 fun v56 =>
 k v56 σ) σ fun v57 σ =>
 shutP x.most (vGuard false v54 (fun k => vBin PP .neq 3 v57 (.int .i64 (.ofNat 1)) fun v58 =>
 k v58 σ) σ fun v59 σ =>
 shutP x.most (vPick v54 (.bool true) v59 fun v60 =>
 vIf v60 (vRet (.bool false) σ K) (l_law31_MirrorScores_rrrrrrrrlrd x x.most a6 v10 v1 v22 v23 v43 v52 (.int .i64 (.ofNat 0)) σ K)))))))))))))))))))))))))))))))
theorem f_law31_MirrorScores (x : VE) (a0 a1 a2 a3 a4 a5 a6 a7 : V) (σ : Hp) (K : KV) : fnV PP tbS c_law31_MirrorScores x [a0, a1, a2, a3, a4, a5, a6, a7] σ K = r_law31_MirrorScores x a0 a1 a2 a3 a4 a5 a6 a7 σ K := by kernel_rfl
noncomputable def l_law31_MirrorScores_rrrrrrrrlrdB (x : VE) (m0 : Nat) (t6 t7 t17 t18 t19 t24 t25 t26 : V) (σ : Hp) (K : KV) : Prop :=
 vDrop σ fun σ =>
 vFld 5 t17 fun v0 =>
 vLd v0 σ fun v1 σ =>
 vBin PP .lss 3 t26 v1 fun v2 =>
 vIf v2 (vLdN 12 t17 σ fun v3 σ =>
 vIdx 1 t18 t26 fun v4 =>
 vLd v4 σ fun v5 σ =>
 vLdN 12 t17 σ fun v6 σ =>
 vIdx 1 t19 t26 fun v7 =>
 vLd v7 σ fun v8 σ =>
 vIdx 1 t24 (.int .i64 (.ofNat 0)) fun v9 =>
 vLd v9 σ fun v10 σ =>
 vIdx 1 t25 (.int .i64 (.ofNat 0)) fun v11 =>
 vLd v11 σ fun v12 σ =>
 vBin PP .eql 2 v10 v12 fun v13 =>
 vLd v11 σ fun v14 _ =>
 vSame v14 v12 (vLd v9 σ fun v15 _ =>
 vSame v15 v10 (vLd v7 σ fun v16 _ =>
 vSame v16 v8 (vLdN 12 t17 σ fun v17 _ =>
 vSame v17 v6 (vLd v4 σ fun v18 _ =>
 vSame v18 v5 (vLdN 12 t17 σ fun v19 _ =>
 vSame v19 v3 ((vBuildS 2 1 [(.int .i64 (.ofNat 0))] [(0, 1, t7)] σ fun v20 σ =>
 True) ∧ ((vBuildS 2 1 [(.int .i64 (.ofNat 0))] [(0, 1, t7)] σ fun v21 σ =>
 True) ∧ (vBuildS 2 1 [(.int .i64 (.ofNat 0))] [(0, 1, t7)] σ fun v22 σ =>
 x.call c_score_Of [v3, v5, v22] σ fun v23 σ =>
 vLd v11 σ fun v24 _ =>
 vSame v24 v12 (vLd v9 σ fun v25 _ =>
 vSame v25 v10 (vLd v7 σ fun v26 _ =>
 vSame v26 v8 (vLdN 12 t17 σ fun v27 _ =>
 vSame v27 v6 (vLd v11 σ fun v28 _ =>
 vSame v28 v12 (vLd v9 σ fun v29 _ =>
 vSame v29 v10 (vLd v7 σ fun v30 _ =>
 vSame v30 v8 (vLdN 12 t17 σ fun v31 _ =>
 vSame v31 v6 ((vBuildS 2 1 [(.int .i64 (.ofNat 0))] [(0, 1, t7)] σ fun v32 σ =>
 True) ∧ (vBuildS 2 1 [(.int .i64 (.ofNat 0))] [(0, 1, t7)] σ fun v33 σ =>
 x.call c_score_Of [v6, v8, v33] σ fun v34 σ =>
 vLd v11 σ fun v35 _ =>
 vSame v35 v12 (vLd v9 σ fun v36 _ =>
 vSame v36 v10 (x.call c_ref03_Numbers [v23, v34] σ fun v37 σ =>
 vLd v11 σ fun v38 _ =>
 vSame v38 v12 (vLd v9 σ fun v39 _ =>
 vSame v39 v10 (vBin PP .neq 4 v37 v13 fun v40 =>
 shutP x.most (vGuard true v40 (fun k => k t24 σ) σ fun v41 σ =>
 shutP x.most (vGuard true v40 (fun k => vIdx 1 v41 (.int .i64 (.ofNat 0)) fun v42 =>
 k v42 σ) σ fun v43 σ =>
 shutP x.most (vGuard true v40 (fun k => vLd v43 σ fun v44 σ =>
 k v44 σ) σ fun v45 σ =>
 shutP x.most (vGuard true v40 (fun k => k t25 σ) σ fun v46 σ =>
 shutP x.most (vGuard true v40 (fun k => vIdx 1 v46 (.int .i64 (.ofNat 0)) fun v47 =>
 k v47 σ) σ fun v48 σ =>
 shutP x.most (vGuard true v40 (fun k => vLd v48 σ fun v49 σ =>
 k v49 σ) σ fun v50 σ =>
 shutP x.most (vGuard true v40 (fun k => vBin PP .eql 2 v45 v50 fun v51 =>
 k v51 σ) σ fun v52 σ =>
 shutP x.most (vGuard true v40 (fun k => k v52 σ) σ fun v53 σ =>
 shutP x.most (vGuard false v53 (fun k => vLdN 12 t17 σ fun v54 σ =>
 k v54 σ) σ fun v55 σ =>
 shutP x.most (vGuard false v53 (fun k => k t6 σ) σ fun v56 σ =>
 shutP x.most (vGuard false v53 (fun k => k t26 σ) σ fun v57 σ =>
 shutP x.most (vGuard false v53 (fun k => vBin PP .add 3 v57 (.int .i64 (.ofNat 1)) fun v58 =>
 k v58 σ) σ fun v59 σ =>
 shutP x.most (vGuard false v53 (fun k => x.call c_law31_few [v55, v56] σ fun v60 σ =>
 k v60 σ) σ fun v61 σ =>
 shutP x.most (vGuardC true v40 v50 (fun k => vLd v48 σ fun v62 _ =>
 vSame v62 v50 k) (shutP x.most (vGuardC true v40 v45 (fun k => vLd v43 σ fun v63 _ =>
 vSame v63 v45 k) (vLd v11 σ fun v64 _ =>
 vSame v64 v12 (vLd v9 σ fun v65 _ =>
 vSame v65 v10 (shutP x.most (vGuard false v53 (fun k => x.call c_law31_has [v61, v59] σ fun v66 σ =>
 k v66 σ) σ fun v67 σ =>
 shutP x.most (vGuardC true v40 v50 (fun k => vLd v48 σ fun v68 _ =>
 vSame v68 v50 k) (shutP x.most (vGuardC true v40 v45 (fun k => vLd v43 σ fun v69 _ =>
 vSame v69 v45 k) (vLd v11 σ fun v70 _ =>
 vSame v70 v12 (vLd v9 σ fun v71 _ =>
 vSame v71 v10 (shutP x.most (vGuard false v53 (fun k => vUn .not v67 fun v72 =>
 k v72 σ) σ fun v73 σ =>
 shutP x.most (vGuard true v40 (fun k => shutP x.most (vPick v53 (.bool true) v73 fun v74 =>
 k v74 σ)) σ fun v75 σ =>
 shutP x.most (vPick v40 v75 (.bool false) fun v76 =>
 vIf v76 (vRet (.bool false) σ K) (vBin PP .add 3 t26 (.int .i64 (.ofNat 1)) fun v77 =>
 l_law31_MirrorScores_rrrrrrrrlrd x m0 t6 t7 t17 t18 t19 t24 t25 v77 σ K)))))))))))))))))))))))))))))))))))))))))))))))))))) (vRet (.bool true) σ K)
theorem l_law31_MirrorScores_rrrrrrrrlrdE (x : VE) (m0 : Nat) (t6 t7 t17 t18 t19 t24 t25 t26 : V) (σ : Hp) (K : KV) : l_law31_MirrorScores_rrrrrrrrlrd x (m0 + 1) t6 t7 t17 t18 t19 t24 t25 t26 σ K = l_law31_MirrorScores_rrrrrrrrlrdB x m0 t6 t7 t17 t18 t19 t24 t25 t26 σ K := by kernel_rfl

/-! consistory/score.Of -/
noncomputable def l_score_Of_rrlrd (x : VE) (m : Nat) (t2 t3 t7 t13 t14 t15 : V) (σ : Hp) (K : KV) : Prop := vjmpL PP tbS c_score_Of x [.r, .r, .l, .r, .d] m [] [t2, t3, t7, t13, t14, t15] σ K
noncomputable def r_score_Of (x : VE) (a0 a1 a2 : V) (σ : Hp) (K : KV) : Prop :=
 vBox 25 a0 σ fun v0 σ =>
 vLenS a1 fun v1 =>
 vMk 22 8 [(.int .u64 (.ofNat 0))] v1 v1 σ fun v2 σ =>
 vLenS a1 fun v3 =>
 l_score_Of_rrlrd x x.most a2 v0 v2 a1 v3 (.int .i64 (.ofNat 0)) σ K
theorem f_score_Of (x : VE) (a0 a1 a2 : V) (σ : Hp) (K : KV) : fnV PP tbS c_score_Of x [a0, a1, a2] σ K = r_score_Of x a0 a1 a2 σ K := by kernel_rfl
noncomputable def l_score_Of_rrlrdB (x : VE) (m0 : Nat) (t2 t3 t7 t13 t14 t15 : V) (σ : Hp) (K : KV) : Prop :=
 vDrop σ fun σ =>
 vBin PP .lss 3 t15 t14 fun v0 =>
 vIf v0 (vIdx 2 t13 t15 fun v1 =>
 vLdN 2 v1 σ fun v2 σ =>
 vAlloc [(.int .u64 (.ofNat 0)), (.int .u64 (.ofNat 0))] 73 σ fun v3 σ =>
 vSt 2 v3 v2 σ fun σ =>
 vFld 0 v3 fun v4 =>
 vLd v4 σ fun v5 σ =>
 vIdx 1 t7 t15 fun v6 =>
 vSt 1 v6 v5 σ fun σ =>
 vBin PP .add 3 t15 (.int .i64 (.ofNat 1)) fun v7 =>
 l_score_Of_rrlrd x m0 t2 t3 t7 t13 t14 v7 σ K) (vLdN 12 t3 σ fun v8 σ =>
 x.call c_fixed_Dot [v8, t7, t2] σ fun v9 σ =>
 vRet v9 σ K)
theorem l_score_Of_rrlrdE (x : VE) (m0 : Nat) (t2 t3 t7 t13 t14 t15 : V) (σ : Hp) (K : KV) : l_score_Of_rrlrd x (m0 + 1) t2 t3 t7 t13 t14 t15 σ K = l_score_Of_rrlrdB x m0 t2 t3 t7 t13 t14 t15 σ K := by kernel_rfl

/-! consistory/fixed.Dot -/
noncomputable def l_fixed_Dot_rrrrlrd (x : VE) (m : Nat) (t3 t7 t8 t9 t10 : V) (σ : Hp) (K : KV) : Prop := vjmpL PP tbS c_fixed_Dot x [.r, .r, .r, .r, .l, .r, .d] m [] [t3, t7, t8, t9, t10] σ K
noncomputable def r_fixed_Dot (x : VE) (a0 a1 a2 : V) (σ : Hp) (K : KV) : Prop :=
 vBox 25 a0 σ fun v0 σ =>
 vBox 32 a1 σ fun v1 σ =>
 vLdN 12 v0 σ fun v2 σ =>
 x.call c_fixed_Row [v2, a2] σ fun v3 σ =>
 vAlloc [(.slice none 0 0)] 32 σ fun v4 σ =>
 vSt 1 v4 v3 σ fun σ =>
 l_fixed_Dot_rrrrlrd x x.most v0 v4 (.func c_fixed_Dot_1 [] [v4, v1, v0]) .nil (.int .i64 (.ofNat 0)) σ K
theorem f_fixed_Dot (x : VE) (a0 a1 a2 : V) (σ : Hp) (K : KV) : fnV PP tbS c_fixed_Dot x [a0, a1, a2] σ K = r_fixed_Dot x a0 a1 a2 σ K := by kernel_rfl
noncomputable def l_fixed_Dot_rrrrlrdB (x : VE) (m0 : Nat) (t3 t7 t8 t9 t10 : V) (σ : Hp) (K : KV) : Prop :=
 vDrop σ fun σ =>
 vLdN 12 t3 σ fun v0 σ =>
 x.call c_fixed_fit [v0] σ fun v1 σ =>
 shutP x.most (vGuard true v1 (fun k => k t10 σ) σ fun v2 σ =>
 shutP x.most (vGuard true v1 (fun k => vFld 7 t3 fun v3 =>
 k v3 σ) σ fun v4 σ =>
 shutP x.most (vGuard true v1 (fun k => vLd v4 σ fun v5 σ =>
 k v5 σ) σ fun v6 σ =>
 shutP x.most (vGuard true v1 (fun k => vBin PP .lss 3 v2 v6 fun v7 =>
 k v7 σ) σ fun v8 σ =>
 shutP x.most (vPick v1 v8 (.bool false) fun v9 =>
 vIf v9 (vLd t7 σ fun v10 σ =>
 vLenS v10 fun v11 =>
 vBin PP .mul 3 t10 v11 fun v12 =>
 vCallV x t8 [v12] σ fun v13 σ =>
 vBuildS 22 1 [(.int .u64 (.ofNat 0))] [(0, 1, v13)] σ fun v14 σ =>
 vApp 22 1 8 t9 v14 σ fun v15 σ =>
 vBin PP .add 3 t10 (.int .i64 (.ofNat 1)) fun v16 =>
 l_fixed_Dot_rrrrlrd x m0 t3 t7 t8 v15 v16 σ K) (vRet t9 σ K))))))
theorem l_fixed_Dot_rrrrlrdE (x : VE) (m0 : Nat) (t3 t7 t8 t9 t10 : V) (σ : Hp) (K : KV) : l_fixed_Dot_rrrrlrd x (m0 + 1) t3 t7 t8 t9 t10 σ K = l_fixed_Dot_rrrrlrdB x m0 t3 t7 t8 t9 t10 σ K := by kernel_rfl

/-! consistory/fixed.Dot$1 -/
noncomputable def l_fixed_Dot_1_rlrd (x : VE) (m : Nat) (t0 t2 t3 t5 t8 t9 t10 : V) (σ : Hp) (K : KV) : Prop := vjmpL PP tbS c_fixed_Dot_1 x [.r, .l, .r, .d] m [] [t0, t2, t3, t5, t8, t9, t10] σ K
noncomputable def r_fixed_Dot_1 (x : VE) (a0 a1 a2 a3 : V) (σ : Hp) (K : KV) : Prop :=
 vLd a1 σ fun v0 σ =>
 vLenS v0 fun v1 =>
 l_fixed_Dot_1_rlrd x x.most a0 a2 a3 (.int .u64 (.ofNat 0)) v0 v1 (.int .i64 (.ofNat 0)) σ K
theorem f_fixed_Dot_1 (x : VE) (a0 a1 a2 a3 : V) (σ : Hp) (K : KV) : fnV PP tbS c_fixed_Dot_1 x [a0, a1, a2, a3] σ K = r_fixed_Dot_1 x a0 a1 a2 a3 σ K := by kernel_rfl
noncomputable def l_fixed_Dot_1_rlrdB (x : VE) (m0 : Nat) (t0 t2 t3 t5 t8 t9 t10 : V) (σ : Hp) (K : KV) : Prop :=
 vDrop σ fun σ =>
 vBin PP .lss 3 t10 t9 fun v0 =>
 vIf v0 (vIdx 1 t8 t10 fun v1 =>
 vLd v1 σ fun v2 σ =>
 vBin PP .add 3 t0 t10 fun v3 =>
 vLd t2 σ fun v4 σ =>
 vLenS v4 fun v5 =>
 vBin PP .lss 3 v3 v5 fun v6 =>
 vIf v6 (vLd t2 σ fun v7 σ =>
 vBin PP .add 3 t0 t10 fun v8 =>
 vIdx 1 v7 v8 fun v9 =>
 vLd v9 σ fun v10 σ =>
 vFld 1 t3 fun v11 =>
 vLd v11 σ fun v12 σ =>
 vFld 1 t3 fun v13 =>
 vLd v13 σ fun v14 σ =>
 x.call c_mod_Mul [v10, v2, v12] σ fun v15 σ =>
 vLd v13 σ fun v16 _ =>
 vSame v16 v14 (vLd t2 σ fun v17 _ =>
 vSame v17 v7 (x.call c_mod_Add [t5, v15, v14] σ fun v18 σ =>
 vLd t2 σ fun v19 _ =>
 vSame v19 v7 (vBin PP .add 3 t10 (.int .i64 (.ofNat 1)) fun v20 =>
 l_fixed_Dot_1_rlrd x m0 t0 t2 t3 v18 t8 t9 v20 σ K)))) (vBin PP .add 3 t10 (.int .i64 (.ofNat 1)) fun v21 =>
 l_fixed_Dot_1_rlrd x m0 t0 t2 t3 t5 t8 t9 v21 σ K)) (vRet t5 σ K)
theorem l_fixed_Dot_1_rlrdE (x : VE) (m0 : Nat) (t0 t2 t3 t5 t8 t9 t10 : V) (σ : Hp) (K : KV) : l_fixed_Dot_1_rlrd x (m0 + 1) t0 t2 t3 t5 t8 t9 t10 σ K = l_fixed_Dot_1_rlrdB x m0 t0 t2 t3 t5 t8 t9 t10 σ K := by kernel_rfl

/-! consistory/fixed.Row -/
noncomputable def r_fixed_Row (x : VE) (a0 a1 : V) (σ : Hp) (K : KV) : Prop :=
 vBox 25 a0 σ fun v0 σ =>
 vLdN 12 v0 σ fun v1 σ =>
 x.call c_fixed_fit [v1] σ fun v2 σ =>
 vUn .not v2 fun v3 =>
 vIf v3 (vRet .nil σ K) (vFld 8 v0 fun v4 =>
 vLd v4 σ fun v5 σ =>
 vBin PP .add 3 v5 (.int .i64 (.ofNat 1)) fun v6 =>
 vMk 22 8 [(.int .u64 (.ofNat 0))] v6 v6 σ fun v7 σ =>
 vFld 8 v0 fun v8 =>
 vLd v8 σ fun v9 σ =>
 vSlS 22 1 v7 none (some v9) none σ fun v10 =>
 vFld 1 v0 fun v11 =>
 vLd v11 σ fun v12 σ =>
 x.call c_fixed_numbers [v12, a1] σ fun v13 σ =>
 vLd v8 σ fun v14 _ =>
 vSame v14 v9 (vCopy 1 v10 v13 σ fun v15 σ =>
 vLd v8 σ fun v16 _ =>
 vSame v16 v9 (vFld 8 v0 fun v17 =>
 vLd v17 σ fun v18 σ =>
 vFld 1 v0 fun v19 =>
 vLd v19 σ fun v20 σ =>
 x.call c_fixed_Num [(.int .i64 (.ofNat 1)), v20] σ fun v21 σ =>
 vLd v17 σ fun v22 _ =>
 vSame v22 v18 (vIdx 1 v7 v18 fun v23 =>
 vSt 1 v23 v21 σ fun σ =>
 vRet v7 σ K))))
theorem f_fixed_Row (x : VE) (a0 a1 : V) (σ : Hp) (K : KV) : fnV PP tbS c_fixed_Row x [a0, a1] σ K = r_fixed_Row x a0 a1 σ K := by kernel_rfl

/-! consistory/fixed.Scores -/
noncomputable def l_fixed_Scores_rrrlrd (x : VE) (m : Nat) (t2 t7 t26 t27 t28 : V) (σ : Hp) (K : KV) : Prop := vjmpL PP tbS c_fixed_Scores x [.r, .r, .r, .l, .r, .d] m [] [t2, t7, t26, t27, t28] σ K
noncomputable def l_fixed_Scores_rrrlrddrrldrrd (x : VE) (m : Nat) (m0 : Nat) (t2 t7 t8 t26 t27 t28 t33 t34 t35 : V) (σ : Hp) (K : KV) : Prop := vjmpL PP tbS c_fixed_Scores x [.r, .r, .r, .l, .r, .d, .d, .r, .r, .l, .d, .r, .r, .d] m [m0] [t2, t7, t8, t26, t27, t28, t33, t34, t35] σ K
noncomputable def r_fixed_Scores (x : VE) (a0 a1 a2 : V) (σ : Hp) (K : KV) : Prop :=
 vBox 25 a0 σ fun v0 σ =>
 vBox 38 a1 σ fun v1 σ =>
 vLdN 12 v0 σ fun v2 σ =>
 vLdN 2 v1 σ fun v3 σ =>
 x.call c_fixed_May [v2, v3] σ fun v4 σ =>
 vUn .not v4 fun v5 =>
 shutP x.most (vGuard false v5 (fun k => vLdN 12 v0 σ fun v6 σ =>
 k v6 σ) σ fun v7 σ =>
 shutP x.most (vGuard false v5 (fun k => k a2 σ) σ fun v8 σ =>
 shutP x.most (vGuard false v5 (fun k => x.call c_fixed_Query [v7, v8] σ fun v9 σ =>
 k v9 σ) σ fun v10 σ =>
 shutP x.most (vGuard false v5 (fun k => vBin PP .neq 61 v10 (.int .i64 (.ofNat 0)) fun v11 =>
 k v11 σ) σ fun v12 σ =>
 shutP x.most (vPick v5 (.bool true) v12 fun v13 =>
 vIf v13 (vRet .nil σ K) (vFld 1 v1 fun v14 =>
 vLd v14 σ fun v15 σ =>
 x.call c_slices_Clone_list_int64_int64 [v15] σ fun v16 σ =>
 vFld 0 v1 fun v17 =>
 vLd v17 σ fun v18 σ =>
 vLenS v18 fun v19 =>
 l_fixed_Scores_rrrlrd x x.most a2 v16 v18 v19 (.int .i64 (.ofNat 0)) σ K))))))
theorem f_fixed_Scores (x : VE) (a0 a1 a2 : V) (σ : Hp) (K : KV) : fnV PP tbS c_fixed_Scores x [a0, a1, a2] σ K = r_fixed_Scores x a0 a1 a2 σ K := by kernel_rfl
noncomputable def l_fixed_Scores_rrrlrdB (x : VE) (m0 : Nat) (t2 t7 t26 t27 t28 : V) (σ : Hp) (K : KV) : Prop :=
 vDrop σ fun σ =>
 vBin PP .lss 3 t28 t27 fun v0 =>
 vIf v0 (vIdx 1 t26 t28 fun v1 =>
 vLd v1 σ fun v2 σ =>
 vLenS v2 fun v3 =>
 l_fixed_Scores_rrrlrddrrldrrd x x.most m0 t2 t7 t28 t26 t27 t28 v2 v3 (.int .i64 (.ofNat 0)) σ K) (vRet t7 σ K)
theorem l_fixed_Scores_rrrlrdE (x : VE) (m0 : Nat) (t2 t7 t26 t27 t28 : V) (σ : Hp) (K : KV) : l_fixed_Scores_rrrlrd x (m0 + 1) t2 t7 t26 t27 t28 σ K = l_fixed_Scores_rrrlrdB x m0 t2 t7 t26 t27 t28 σ K := by kernel_rfl
noncomputable def l_fixed_Scores_rrrlrddrrldrrdB (x : VE) (m1 : Nat) (m0 : Nat) (t2 t7 t8 t26 t27 t28 t33 t34 t35 : V) (σ : Hp) (K : KV) : Prop :=
 vDrop σ fun σ =>
 vBin PP .lss 3 t35 t34 fun v0 =>
 vIf v0 (vIdx 1 t33 t35 fun v1 =>
 vLd v1 σ fun v2 σ =>
 vIdx 1 t7 t8 fun v3 =>
 vLd v3 σ fun v4 σ =>
 vIdx 1 t2 t35 fun v5 =>
 vLd v5 σ fun v6 σ =>
 vBin PP .mul 2 v2 v6 fun v7 =>
 vBin PP .add 2 v4 v7 fun v8 =>
 vIdx 1 t7 t8 fun v9 =>
 vSt 1 v9 v8 σ fun σ =>
 vBin PP .add 3 t35 (.int .i64 (.ofNat 1)) fun v10 =>
 l_fixed_Scores_rrrlrddrrldrrd x m1 m0 t2 t7 t8 t26 t27 t28 t33 t34 v10 σ K) (vBin PP .add 3 t28 (.int .i64 (.ofNat 1)) fun v11 =>
 l_fixed_Scores_rrrlrd x m0 t2 t7 t26 t27 v11 σ K)
theorem l_fixed_Scores_rrrlrddrrldrrdE (x : VE) (m1 : Nat) (m0 : Nat) (t2 t7 t8 t26 t27 t28 t33 t34 t35 : V) (σ : Hp) (K : KV) : l_fixed_Scores_rrrlrddrrldrrd x (m1 + 1) m0 t2 t7 t8 t26 t27 t28 t33 t34 t35 σ K = l_fixed_Scores_rrrlrddrrldrrdB x m1 m0 t2 t7 t8 t26 t27 t28 t33 t34 t35 σ K := by kernel_rfl

/-! consistory/fixed.Query -/
noncomputable def r_fixed_Query (x : VE) (a0 a1 : V) (σ : Hp) (K : KV) : Prop :=
 vBox 25 a0 σ fun v0 σ =>
 vLdN 12 v0 σ fun v1 σ =>
 x.call c_fixed_fit [v1] σ fun v2 σ =>
 vUn .not v2 fun v3 =>
 shutP x.most (vGuard false v3 (fun k => k a1 σ) σ fun v4 σ =>
 shutP x.most (vGuard false v3 (fun k => vLenS v4 fun v5 =>
 k v5 σ) σ fun v6 σ =>
 shutP x.most (vGuard false v3 (fun k => vFld 8 v0 fun v7 =>
 k v7 σ) σ fun v8 σ =>
 shutP x.most (vGuard false v3 (fun k => vLd v8 σ fun v9 σ =>
 k v9 σ) σ fun v10 σ =>
 shutP x.most (vGuard false v3 (fun k => vBin PP .neq 3 v6 v10 fun v11 =>
 k v11 σ) σ fun v12 σ =>
 shutP x.most (vPick v3 (.bool true) v12 fun v13 =>
 vIf v13 (vRet (.int .i64 (.ofNat 4)) σ K) (vFld 11 v0 fun v14 =>
 vLd v14 σ fun v15 σ =>
 vBuildS 36 1 [(.slice none 0 0)] [(0, 1, a1)] σ fun v16 σ =>
 x.call c_fixed_within [v15, v16] σ fun v17 σ =>
 vUn .not v17 fun v18 =>
 vIf v18 (vRet (.int .i64 (.ofNat 20)) σ K) (vRet (.int .i64 (.ofNat 0)) σ K))))))))
theorem f_fixed_Query (x : VE) (a0 a1 : V) (σ : Hp) (K : KV) : fnV PP tbS c_fixed_Query x [a0, a1] σ K = r_fixed_Query x a0 a1 σ K := by kernel_rfl

/-! slices.Clone[[]int64,int64] -/
noncomputable def r_slices_Clone_list_int64_int64 (x : VE) (a0 : V) (σ : Hp) (K : KV) : Prop :=
 vBin PP .eql 36 a0 .nil fun v0 =>
 vIf v0 (vRet .nil σ K) (vBuildS 2 0 [(.int .i64 (.ofNat 0))] [] σ fun v1 σ =>
 vApp 2 1 8 v1 a0 σ fun v2 σ =>
 vRet v2 σ K)
theorem f_slices_Clone_list_int64_int64 (x : VE) (a0 : V) (σ : Hp) (K : KV) : fnV PP tbS c_slices_Clone_list_int64_int64 x [a0] σ K = r_slices_Clone_list_int64_int64 x a0 σ K := by kernel_rfl

end Go.Am

set_option linter.unusedVariables false
set_option maxRecDepth 4000
namespace Go.Am
open Go.Proofs.Mdl
section
variable {M n : Nat} {x : VE} {σ : Hp} {K : KV} {two : Bool}
theorem Deep.callC (hx : Deep PP tbS gM M (n + 1) x) {f : FuncId} (hf : gM f = none) {args : List V} (h : ∀ y, Deep PP tbS gM M n y → fnV PP tbS f y args σ K) : x.C f args σ K := by
 obtain ⟨h1, h2, y, h3, h4, _⟩ := hx
 rw [h4 f hf]; exact h y h3
theorem o_score : gM c_score_Of = none := rfl
theorem o_dot : gM c_fixed_Dot = none := rfl
theorem o_dot1 : gM c_fixed_Dot_1 = none := rfl
theorem o_row : gM c_fixed_Row = none := rfl
theorem o_scores : gM c_fixed_Scores = none := rfl
theorem o_query : gM c_fixed_Query = none := rfl
theorem o_clonei : gM c_slices_Clone_list_int64_int64 = none := rfl
theorem lp_pv {p : Nat} (rp : σ p = some (.row (pv two) 25)) {K : KV} : vLdN 12 (.ptr p 0) σ K = K (.agg (pv two)) σ := by
 rw [vLdN_p rp, vPart_ok (by rw [pv_len]; omega), List.drop_zero, List.take_of_length_le (by rw [pv_len]; omega)]
def rowQ (q : Int) : List Nat := [numZ q, numZ 1]
theorem rowQ_64 (q : Int) : L64 (rowQ q) := numz64
theorem row_s (hM : 10 < M) (hx : Deep PP tbS gM M (n + 4) x) {τ : Tag} {q : Int} (hq : okZ q) (hK : ∀ σ' r, Hle σ σ' → σ r = none → σ' r = some (.row (nvs (rowQ q)) 22) → K (.own r 0 2 2) σ') : x.call c_fixed_Row [.agg (pv two), w1 τ q] σ K := by
 refine hx.call o_row fun y hy => ?_
 rw [f_fixed_Row]
 unfold r_fixed_Row
 refine vBox_agg pv_one fun p hp => ?_
 have le1 : Hle σ (upd σ p (.row (pv two) 25)) := .upd_new hp
 have rp : upd σ p (.row (pv two) 25) p = some (.row (pv two) 25) := upd_same
 generalize upd σ p (.row (pv two) 25) = σ1 at le1 rp
 have e1 : (pv two)[1]? = some (nu 23) := rfl
 have e8 : (pv two)[8]? = some (ni 1) := rfl
 rw [lp_pv rp]
 refine fit_s (n := n + 2) hy ?_
 rw [vNot_b, Bool.not_true, vIf_f, vFld_z, ldp rp e8, vAdd_n (by decide)]
 refine ⟨by decide, by decide, by decide, fun r hr => ?_⟩
 have le2 : Hle σ1 (upd σ1 r (.row (nvs [0, 0]) 22)) := .upd_new hr
 have rr : upd σ1 r (.row (nvs [0, 0]) 22) r = some (.row (nvs [0, 0]) 22) := upd_same
 show (vFld 8 (.ptr p 0) fun v8 => vLd v8 (upd σ1 r (.row (nvs [0, 0]) 22)) fun v9 σ => vSlS 22 1 (.own r 0 2 2) none (some v9) none σ fun v10 => _)
 generalize upd σ1 r (.row (nvs [0, 0]) 22) = σ2 at le2 rr
 rw [vFld_z, ldp (le2 _ _ rp) e8]
 refine ⟨by decide, by decide, by decide, ?_⟩
 dsimp only
 rw [vFld_z, ldp (le2 _ _ rp) e1]
 refine nums_s (n := n) hM hy hq fun w σ3 le3 mw => ?_
 rw [ldp (le3 _ _ (le2 _ _ rp)) e8, vSame_i]
 have rr3 := le3 _ _ rr
 refine mw.nv.src ?_
 refine ⟨Nat.le_refl _, rfl, ?_⟩
 simp only [rr3]
 refine ⟨Nat.le_add_left 1 1, ?_⟩
 have es : splice 0 (nvs [numZ q]) (nvs [0, 0]) = nvs [numZ q, 0] := rfl
 rw [show (if 2 = 0 then 0 else 0 + 0 * 1) = 0 from rfl, es]
 have hpr : p ≠ r := fun c => by rw [c, hr] at rp; cases rp
 have rp4 : upd σ3 r (.row (nvs [numZ q, 0]) 22) p = some (.row (pv two) 25) := by rw [upd_other hpr]; exact le3 _ _ (le2 _ _ rp)
 have rr4 : upd σ3 r (.row (nvs [numZ q, 0]) 22) r = some (.row (nvs [numZ q, 0]) 22) := upd_same
 have le4 : Hle σ1 (upd σ3 r (.row (nvs [numZ q, 0]) 22)) := fun j o e => by rw [upd_other (fun c => by rw [c, hr] at e; cases e)]; exact le3 _ _ (le2 _ _ e)
 generalize upd σ3 r (.row (nvs [numZ q, 0]) 22) = σ4 at rp4 rr4 le4
 rw [ldp rp4 e8, vSame_i, vFld_z, ldp rp4 e8, vFld_z, ldp rp4 e1]
 refine num_s (n := n + 1) hy (z := 1) (by unfold okZ; omega) ?_
 rw [ldp rp4 e8, vSame_i]
 refine ⟨by decide, ?_⟩
 dsimp only
 refine vSt_one rr4 rfl (Nat.lt_succ_self 1) ?_
 refine vRet_here (hK _ r (fun j o e => ?_) (le1.none hr) upd_same)
 rw [upd_other (fun c => by rw [c, le1.none hr] at e; cases e)]
 exact le4 _ _ (le1 _ _ e)
def dotL (a b : List Nat) : Nat := (List.zipWith (fun a b => a * b % 23) a b).foldl addq 0
theorem dot1_s (hM : 10 < M) (hx : Deep PP tbS gM M (n + 2) x) {o4 o1 o0 : Nat} {vr vl : V} {l row : List Nat} {t4 t1 : TypeId} (r4 : σ o4 = some (.row [vr] t4)) (r1 : σ o1 = some (.row [vl] t1)) (r0 : σ o0 = some (.row (pv two) 25)) (hr : NV σ vr row) (hl : NV σ vl l) (h1 : oneV vl = true) (h2 : sameOk1 vl = true) (hlen : l.length = row.length) (hll : row.length < 10) (l64 : L64 l) (r64 : L64 row)
 (hK : K (nu (dotL l row)) σ) : x.call c_fixed_Dot_1 [ni 0, .ptr o4 0, .ptr o1 0, .ptr o0 0] σ K := by
 refine hx.call o_dot1 fun y hy => ?_
 rw [f_fixed_Dot_1]
 unfold r_fixed_Dot_1
 rw [ldp r4 rfl, hr.len, hy.most]
 have e1 : (pv two)[1]? = some (nu 23) := rfl
 have go : ∀ (k i m s : Nat), i + k = row.length → k < m → b64 s → (List.zipWith (fun a b => a * b % 23) (l.drop i) (row.drop i)).foldl addq s = dotL l row → l_fixed_Dot_1_rlrd y m (ni 0) (.ptr o1 0) (.ptr o0 0) (nu s) vr (ni row.length) (ni i) σ K := by
  intro k
  induction k with
  | zero =>
   intro i m s hi hm hs he
   obtain ⟨m, rfl⟩ := Nat.exists_eq_succ_of_ne_zero (show m ≠ 0 by omega)
   rw [l_fixed_Dot_1_rlrdE]
   unfold l_fixed_Dot_1_rlrdB
   refine vDrop_here ?_
   rw [vLss_n, decide_eq_false (by omega), vIf_f]
   rw [List.drop_eq_nil_of_le (by omega), List.zipWith_nil_left] at he
   have he : s = dotL l row := he
   rw [he]
   exact vRet_here hK
  | succ k ih =>
   intro i m s hi hm hs he
   obtain ⟨m, rfl⟩ := Nat.exists_eq_succ_of_ne_zero (show m ≠ 0 by omega)
   rw [l_fixed_Dot_1_rlrdE]
   unfold l_fixed_Dot_1_rlrdB
   refine vDrop_here ?_
   have hi1 : i < row.length := by omega
   have hi2 : i < l.length := by omega
   obtain ⟨p1, ix1, lx1⟩ := hr.at (List.getElem?_eq_getElem hi1)
   obtain ⟨p2, ix2, lx2⟩ := hl.at (List.getElem?_eq_getElem hi2)
   have sv : ∀ {q : Prop}, vSame vl vl q = q := fun {q} => vSame_ok (by cases hl <;> first | rfl | exact h2)
   rw [vLss_n, decide_eq_true hi1, vIf_t, ix1, lx1 _ (.refl _), vAdd_n (by omega), Nat.zero_add, ldp r1 rfl, hl.len, vLss_n, decide_eq_true hi2, vIf_t, ldp r1 rfl, vAdd_n (by omega), Nat.zero_add, ix2, lx2 _ (.refl _), vFld_z, ldp r0 e1, vFld_z, ldp r0 e1]
   refine mul_c hy (l64 _ (List.getElem_mem _)) (r64 _ (List.getElem_mem _)) q23 ?_
   rw [ldp r0 e1, vSame_i, ldp r1 rfl, sv]
   refine add_c hy hs (b64_mod q23) q23 ?_
   rw [ldp r1 rfl, sv, vAdd_n (by omega)]
   refine ih (i + 1) m _ (by omega) (by omega) (b64_mod q23) ?_
   rw [List.drop_eq_getElem_cons hi1, List.drop_eq_getElem_cons hi2] at he
   exact he
 exact go row.length 0 M 0 (by omega) (by omega) (by decide) rfl
theorem dot_s (hM : 10 < M) (hx : Deep PP tbS gM M (n + 6) x) {τ : Tag} {q : Int} (hq : okZ q) {vo : Nat} {l : List Nat} (hv : σ vo = some (.row (nvs l) 22)) (hlen : l.length = 2) (l64 : L64 l)
 (hK : ∀ τ, K (.list τ (nds [dotL l (rowQ q)]) 1) σ) : x.call c_fixed_Dot [.agg (pv two), .own vo 0 2 2, w1 τ q] σ K := by
 refine hx.call o_dot fun y hy => ?_
 rw [f_fixed_Dot]
 unfold r_fixed_Dot
 have hl : NV σ (.own vo 0 2 2) l := by have := nvRow (l := l) hv; rw [hlen] at this; exact this
 obtain ⟨vl, hvl⟩ : ∃ v : V, v = .own vo 0 2 2 := ⟨_, rfl⟩
 have h1 : oneV vl = true := by rw [hvl]; rfl
 have h2 : sameOk1 vl = true := by rw [hvl]; rfl
 rw [← hvl] at hl
 refine vBox_agg pv_one fun p hp => ?_
 have le1 : Hle σ (upd σ p (.row (pv two) 25)) := .upd_new hp
 have rp : upd σ p (.row (pv two) 25) p = some (.row (pv two) 25) := upd_same
 generalize upd σ p (.row (pv two) 25) = σ1 at le1 rp
 rw [← hvl]
 refine box1 h1 fun o1 ho1 => ?_
 have le2 : Hle σ1 (upd σ1 o1 (.row [vl] 32)) := .upd_new ho1
 have r1 : upd σ1 o1 (.row [vl] 32) o1 = some (.row [vl] 32) := upd_same
 generalize upd σ1 o1 (.row [vl] 32) = σ2 at le2 r1
 rw [lp_pv (le2 _ _ rp)]
 refine row_s (n := n + 1) hM hy hq fun σ3 r le3 hr0 rr => ?_
 refine vAlloc_to (l := [.nil]) rfl fun o4 ho4 => ?_
 have le4 : Hle σ3 (upd σ3 o4 (.row [.nil] 32)) := .upd_new ho4
 refine vSt_one (i := o4) upd_same rfl (by decide) ?_
 rw [upd_upd]
 show l_fixed_Dot_rrrrlrd y y.most (.ptr p 0) (.ptr o4 0) (.func c_fixed_Dot_1 [] [.ptr o4 0, .ptr o1 0, .ptr p 0]) .nil (ni 0) (upd σ3 o4 (.row [.own r 0 2 2] 32)) K
 have le5 : Hle σ3 (upd σ3 o4 (.row [.own r 0 2 2] 32)) := .upd_new ho4
 have r4 : upd σ3 o4 (.row [.own r 0 2 2] 32) o4 = some (.row [.own r 0 2 2] 32) := upd_same
 generalize upd σ3 o4 (.row [.own r 0 2 2] 32) = σ4 at le5 r4
 have leA : Hle σ2 σ4 := le3.trans le5
 rw [hy.most]
 obtain ⟨m, hm⟩ : ∃ m, M = m + 1 + 1 := ⟨M - 2, by omega⟩
 rw [hm, l_fixed_Dot_rrrrlrdE]
 unfold l_fixed_Dot_rrrrlrdB
 refine vDrop_here ?_
 have e7 : (pv two)[7]? = some (ni 1) := rfl
 have rp4 := leA _ _ (le2 _ _ rp)
 rw [lp_pv rp4]
 refine fit_s (n := n + 4) hy ?_
 iterate 1 (rw [shutP_eq, vGuard_t]; dsimp only)
 rw [shutP_eq, vGuard_t, vFld_z]; dsimp only
 rw [shutP_eq, vGuard_t, ldp rp4 e7]; dsimp only
 rw [shutP_eq, vGuard_t, vLss_n, decide_eq_true (by decide)]; dsimp only
 rw [shutP_eq, vPick_t, vIf_t, ldp r4 rfl]
 have hro : NV σ4 (.own r 0 2 2) (rowQ q) := nvRow (l := rowQ q) (le5 _ _ rr)
 rw [hro.len, show (rowQ q).length = 2 from rfl, vMul_n (by decide)]
 show y.call c_fixed_Dot_1 [ni 0, .ptr o4 0, .ptr o1 0, .ptr p 0] σ4 _
 refine dot1_s (n := n + 3) (two := two) hM hy r4 (leA _ _ r1) rp4 hro (((hl.up le1).up le2).up leA) h1 h2 hlen (show 2 < 10 by decide) l64 (rowQ_64 q) ?_
 have leS : Hle σ σ4 := (le1.trans le2).trans leA
 refine MN.app (σ0 := σ) .nil leS (by decide) fun w σ5 le6 k5 mw => ?_
 have rp5 : σ5 p = some (.row (pv two) 25) := k5 _ _ rp4 fun vs m e => by cases e
 rw [vAdd_n (by decide), l_fixed_Dot_rrrrlrdE]
 unfold l_fixed_Dot_rrrrlrdB
 refine vDrop_here ?_
 rw [lp_pv rp5]
 refine fit_s (n := n + 4) hy ?_
 iterate 1 (rw [shutP_eq, vGuard_t]; dsimp only)
 rw [shutP_eq, vGuard_t, vFld_z]; dsimp only
 rw [shutP_eq, vGuard_t, ldp rp5 e7]; dsimp only
 rw [shutP_eq, vGuard_t, vLss_n, decide_eq_false (by decide)]; dsimp only
 rw [shutP_eq, vPick_t, vIf_f]
 exact vRet_val le6 mw.frz hK
def scL (q : Int) (l : List (Nat × Nat)) : List Nat := [dotL (l.map Prod.fst) (rowQ q)]
theorem score_s (hM : 10 < M) (hx : Deep PP tbS gM M (n + 8) x) {τ τ2 : Tag} {q : Int} (hq : okZ q) {l : List (Nat × Nat)} (hlen : l.length = 2) (l64 : ∀ p ∈ l, b64 p.1 ∧ b64 p.2)
 (hK : ∀ τ, K (.list τ (nds (scL q l)) 1) σ) : x.C c_score_Of [.agg (pv two), .list τ (pds l) 2, w1 τ2 q] σ K := by
 refine hx.callC o_score fun y hy => ?_
 rw [f_score_Of]
 unfold r_score_Of
 refine vBox_agg pv_one fun p hp => ?_
 have le1 : Hle σ (upd σ p (.row (pv two) 25)) := .upd_new hp
 have rp : upd σ p (.row (pv two) 25) p = some (.row (pv two) 25) := upd_same
 generalize upd σ p (.row (pv two) 25) = σ1 at le1 rp
 refine ⟨by decide, by decide, by decide, fun r hr => ?_⟩
 have le2 : Hle σ1 (upd σ1 r (.row (nvs [0, 0]) 22)) := .upd_new hr
 have rr : upd σ1 r (.row (nvs [0, 0]) 22) r = some (.row (nvs [0, 0]) 22) := upd_same
 show l_score_Of_rrlrd y y.most (w1 τ2 q) (.ptr p 0) (.own r 0 2 2) (.list τ (pds l) 2) (ni 2) (ni 0) (upd σ1 r (.row (nvs [0, 0]) 22)) K
 generalize upd σ1 r (.row (nvs [0, 0]) 22) = σ2 at le2 rr
 have step : ∀ (i m : Nat) (us : List Nat) (a b : Nat) (σ' : Hp), i < 2 → us.length = 2 → l[i]? = some (a, b) → Hle σ1 σ' → σ' r = some (.row (nvs us) 22) →
  (∀ σ', Hle σ1 σ' → σ' r = some (.row (nvs (us.set i a)) 22) → l_score_Of_rrlrd y m (w1 τ2 q) (.ptr p 0) (.own r 0 2 2) (.list τ (pds l) 2) (ni 2) (ni (i + 1)) σ' K) → l_score_Of_rrlrd y (m + 1) (w1 τ2 q) (.ptr p 0) (.own r 0 2 2) (.list τ (pds l) 2) (ni 2) (ni i) σ' K := by
  intro i m us a b σ' hi hus hl hle hrr hk
  rw [l_score_Of_rrlrdE]
  unfold l_score_Of_rrlrdB
  refine vDrop_here ?_
  rw [vLss_n, decide_eq_true hi, vIf_t, vIdx_l hi, vLdN_l]
  obtain ⟨g1, g2⟩ := pds_at hl
  obtain ⟨t1, t2⟩ := two_of g1 g2
  rw [vPart_ok t1, t2]
  show vAlloc [(.int .u64 (.ofNat 0)), (.int .u64 (.ofNat 0))] 73 σ' fun v3 σ => vSt 2 v3 (.agg [nu a, nu b]) σ _
  refine vAlloc_to (l := [nu 0, nu 0]) rfl fun k hk' => ?_
  refine vSt_all (n := 2) (i := k) upd_same rfl rfl rfl ?_
  rw [upd_upd, vFld_z]
  have hkr : r ≠ k := fun c => by rw [c, hk'] at hrr; cases hrr
  have rk : upd σ' k (.row [nu a, nu b] 73) k = some (.row [nu a, nu b] 73) := upd_same
  have le3 : Hle σ' (upd σ' k (.row [nu a, nu b] 73)) := .upd_new hk'
  generalize upd σ' k (.row [nu a, nu b] 73) = σ3 at rk le3
  rw [ldp rk rfl]
  have hix : ∀ {k : V → Prop}, vIdx 1 (.own r 0 2 2) (ni i) k = k (.ptr r i) := fun {k} => by
   have := (nvRow (l := us) hrr)
   unfold vIdx
   show (i < 2 ∧ k (.ptr r (0 + i * 1))) = _
   rw [Nat.zero_add, Nat.mul_one]
   exact propext ⟨fun h => h.2, fun h => ⟨hi, h⟩⟩
  rw [hix]
  refine vSt_one (le3 _ _ hrr) rfl (by rw [nvs_len, hus]; exact hi) ?_
  rw [vAdd_n (by omega)]
  have es : splice i [nu a] (nvs us) = nvs (us.set i a) := by
   rw [← nvs_set, splice_one (by rw [nvs_len, hus]; exact hi)]
  rw [es]
  refine hk _ (fun j o e => ?_) upd_same
  rw [upd_other (fun c => by rw [c, hr] at e; cases e)]
  exact le3 _ _ (hle _ _ e)
 match l, hlen, l64 with
 | [(a0, b0), (a1, b1)], _, l64 =>
  obtain ⟨m, hm⟩ : ∃ m, M = m + 1 + 1 + 1 := ⟨M - 3, by omega⟩
  rw [hy.most, hm]
  refine step 0 _ [0, 0] a0 b0 σ2 (by decide) rfl rfl le2 rr fun σ3 le3 rr3 => ?_
  refine step 1 _ [a0, 0] a1 b1 σ3 (by decide) rfl rfl le3 rr3 fun σ4 le4 rr4 => ?_
  rw [l_score_Of_rrlrdE]
  unfold l_score_Of_rrlrdB
  refine vDrop_here ?_
  rw [vLss_n, decide_eq_false (by decide), vIf_f, lp_pv (le4 _ _ rp)]
  refine dot_s (n := n + 1) hM hy hq (l := [a0, a1]) rr4 rfl (fun c hc => ?_) fun τ => ?_
  · rcases List.mem_cons.1 hc with rfl | hc
    · exact (l64 _ List.mem_cons_self).1
    · rw [List.mem_singleton.1 hc]; exact (l64 _ (List.mem_cons_of_mem _ List.mem_cons_self)).1
  · exact vRet_drop (le1.trans le4) (hK τ)
end
end Go.Am

set_option linter.unusedVariables false
set_option maxRecDepth 4000
namespace Go.Am
open Go.Proofs.Mdl
section
variable {M n : Nat} {x : VE} {σ : Hp} {K : KV} {two : Bool}
theorem query_s (hM : 10 < M) (hx : Deep PP tbS gM M (n + 5) x) {τ : Tag} {q : Int} (hq : okZ q) (hK : K (ni 0) σ) : x.call c_fixed_Query [.agg (pv two), w1 τ q] σ K := by
 refine hx.call o_query fun y hy => ?_
 rw [f_fixed_Query]
 unfold r_fixed_Query
 refine vBox_agg pv_one fun p hp => ?_
 have le1 : Hle σ (upd σ p (.row (pv two) 25)) := .upd_new hp
 have rp : upd σ p (.row (pv two) 25) p = some (.row (pv two) 25) := upd_same
 generalize upd σ p (.row (pv two) 25) = σ1 at le1 rp
 have e8 : (pv two)[8]? = some (ni 1) := rfl
 have e11 : (pv two)[11]? = some (ni 2) := rfl
 rw [lp_pv rp]
 refine fit_s (n := n + 3) hy ?_
 rw [vNot_b, Bool.not_true, shutP_eq, vGuard_t]; dsimp only
 rw [shutP_eq, vGuard_t]; dsimp only
 rw [lv, shutP_eq, vGuard_t, vFld_z]; dsimp only
 rw [shutP_eq, vGuard_t, ldp rp e8]; dsimp only
 rw [shutP_eq, vGuard_t, vNeq_n, decide_eq_true rfl, Bool.not_true]; dsimp only
 rw [shutP_eq, vPick_f, vIf_f, vFld_z, ldp rp e11]
 refine ⟨rfl, by simp, fun j hj => ?_⟩
 have rj : upd σ1 j (.row [w1 τ q] 36) j = some (.row [w1 τ q] 36) := upd_same
 have le2 : Hle σ1 (upd σ1 j (.row [w1 τ q] 36)) := .upd_new hj
 refine within_s (n := n) (v := .own j 0 1 1) (z := q) hM hy hq ⟨.ptr j 0, τ, fun K => rfl, fun K => ?_, fun σ' hle K => ?_⟩ ?_
 · show (0 < 1 ∧ K (.ptr j (0 + 0 * 1))) = _
   exact propext ⟨fun h => h.2, fun h => ⟨by decide, h⟩⟩
 · exact ldp (hle _ _ rj) rfl
 rw [vNot_b, Bool.not_true, vIf_f]
 exact vRet_drop (le1.trans le2) hK
theorem slice36 : kindT PP 36 = some .slice := by kernel_rfl
theorem clone6_s (hx : Deep PP tbS gM M (n + 1) x) {τ : Tag} {z : Int} (hK : ∀ i σ', Hle σ σ' → σ i = none → σ' i = some (.gro [iz z] 2 1) → K (.acc i 1) σ') : x.call c_slices_Clone_list_int64_int64 [w1 τ z] σ K := by
 refine hx.call o_clonei fun y hy => ?_
 rw [f_slices_Clone_list_int64_int64]
 unfold r_slices_Clone_list_int64_int64
 refine ⟨rfl, slice36, .inr rfl, (fun e => by cases e), ?_⟩
 show vBuildS 2 0 [(.int .i64 (.ofNat 0))] [] σ (fun v1 σ => vApp 2 1 8 v1 (w1 τ z) σ fun v2 σ => vRet v2 σ K)
 intro j hj
 have hle : Hle σ (upd σ j (.row [] 2)) := .upd_new hj
 show vApp 2 1 8 (.own j 0 0 0) (w1 τ z) (upd σ j (.row [] 2)) _
 refine ⟨Nat.le_refl 1, ?_⟩
 refine ⟨rfl, ?_⟩
 simp only [upd_same]
 refine ⟨by decide, by decide, fun c => absurd c (by decide), fun _ i hi => ?_⟩
 exact vRet_here (hK i _ (hle.trans (.upd_new hi)) (hle.none hi) upd_same)
theorem wrapZ {z : Int} (h1 : -1000 ≤ z) (h2 : z ≤ 1000) : wrapI .i64 z = z := wrap_small (by omega) (by omega)
theorem mulZ {a b : Int} (h : okZ a) (h2 : okZ b) : -4 ≤ a * b ∧ a * b ≤ 4 := by
 rcases okZ_5 h with rfl | rfl | rfl | rfl | rfl <;> rcases okZ_5 h2 with rfl | rfl | rfl | rfl | rfl <;> decide
theorem scores_s (hM : 10 < M) (hx : Deep PP tbS gM M (n + 6) x) {τ1 τ2 τ : Tag} {a b q : Int} (ha : okZ a) (hb : okZ b) (hq : okZ q) (hK : ∀ τ, K (w1 τ (b + a * q)) σ) : x.C c_fixed_Scores [.agg (pv two), mdl τ1 τ2 a b, w1 τ q] σ K := by
 refine hx.callC o_scores fun y hy => ?_
 rw [f_fixed_Scores]
 unfold r_fixed_Scores
 refine vBox_agg pv_one fun p hp => ?_
 have le1 : Hle σ (upd σ p (.row (pv two) 25)) := .upd_new hp
 have rp : upd σ p (.row (pv two) 25) p = some (.row (pv two) 25) := upd_same
 generalize upd σ p (.row (pv two) 25) = σ1 at le1 rp
 refine vBox_agg rfl fun o ho => ?_
 have le2 : Hle σ1 (upd σ1 o (.row [w2 τ1 a, w1 τ2 b] 38)) := .upd_new ho
 have ro : upd σ1 o (.row [w2 τ1 a, w1 τ2 b] 38) o = some (.row [w2 τ1 a, w1 τ2 b] 38) := upd_same
 generalize upd σ1 o (.row [w2 τ1 a, w1 τ2 b] 38) = σ2 at le2 ro
 rw [lp_pv (le2 _ _ rp), vLdN_p ro, vPart_ok (by simp)]
 show y.call c_fixed_May [.agg (pv two), mdl τ1 τ2 a b] σ2 _
 refine fmay_s (n := n) hM hy ha hb ?_
 rw [vNot_b, Bool.not_true, shutP_eq, vGuard_t, lp_pv (le2 _ _ rp)]; dsimp only
 rw [shutP_eq, vGuard_t]; dsimp only
 rw [shutP_eq, vGuard_t]; dsimp only
 refine query_s (n := n) hM hy hq ?_
 rw [shutP_eq, vGuard_t, vNeq_n, decide_eq_true rfl, Bool.not_true]; dsimp only
 rw [shutP_eq, vPick_f, vIf_f, vFld_z, ldp ro rfl]
 refine clone6_s (n := n + 4) hy fun i σ3 le3 hi ri => ?_
 rw [vFld_z, ldp (le3 _ _ ro) rfl]
 show l_fixed_Scores_rrrlrd y y.most (w1 τ q) (.acc i 1) (w2 τ1 a) (ni 1) (ni 0) σ3 K
 obtain ⟨m, hm⟩ : ∃ m, M = m + 1 + 1 := ⟨M - 2, by omega⟩
 rw [hy.most, hm, l_fixed_Scores_rrrlrdE]
 unfold l_fixed_Scores_rrrlrdB
 refine vDrop_here ?_
 rw [vLss_n, decide_eq_true (by decide), vIf_t, vIdx_l (by decide), vLd_l]
 show l_fixed_Scores_rrrlrddrrldrrd y y.most (m + 1) (w1 τ q) (.acc i 1) (ni 0) (w2 τ1 a) (ni 1) (ni 0) (w1 (.sub τ1 0) a) (ni 1) (ni 0) σ3 K
 rw [hy.most, hm, l_fixed_Scores_rrrlrddrrldrrdE]
 unfold l_fixed_Scores_rrrlrddrrldrrdB
 refine vDrop_here ?_
 rw [vLss_n, decide_eq_true (by decide), vIf_t, vIdx_l (by decide), vLd_l]
 rw [vNth_some (a := Dt.int .i64 a) rfl, vIdx_acc (by decide)]
 refine vLd_g ri rfl ?_
 rw [vIdx_l (by decide), vLd_l]
 rw [vNth_some (a := Dt.int .i64 q) rfl]
 show vBin PP .mul 2 (iz a) (iz q) _
 have hm4 := mulZ ha hq
 have hb' : -2 ≤ b ∧ b ≤ 2 := hb
 rw [vBinI_mul, wrapZ (by omega) (by omega), vBinI_add, wrapZ (by omega) (by omega), vIdx_acc (by decide)]
 refine vSt_g ri rfl (show 0 * 1 < [iz b].length from Nat.le_refl 1) ?_
 rw [vAdd_n (by decide), l_fixed_Scores_rrrlrddrrldrrdE]
 unfold l_fixed_Scores_rrrlrddrrldrrdB
 refine vDrop_here ?_
 rw [vLss_n, decide_eq_false (by decide), vIf_f, vAdd_n (by decide), l_fixed_Scores_rrrlrdE]
 unfold l_fixed_Scores_rrrlrdB
 refine vDrop_here ?_
 rw [vLss_n, decide_eq_false (by decide), vIf_f]
 have rA : upd σ3 i (.gro (splice (0 * 1) [iz (b + a * q)] [iz b]) 2 1) i = some (.gro [iz (b + a * q)] 2 1) := upd_same
 have le9 : Hle σ (upd σ3 i (.gro (splice (0 * 1) [iz (b + a * q)] [iz b]) 2 1)) := fun j o e => by
  rw [upd_other (fun c => by rw [c, (le1.trans le2).none hi] at e; cases e)]; exact le3 _ _ (le2 _ _ (le1 _ _ e))
 refine vRet_val (cs := [.int .i64 (b + a * q)]) (n := 1) le9 (.acc rA ((le1.trans le2).none hi) rfl fun j v d e1 e2 => ?_) hK
 match j with
 | 0 => injection e1 with e1; injection e2 with e2; subst e1 e2; exact .int
 | j + 1 => cases e1
end
end Go.Am

set_option linter.unusedVariables false
set_option maxRecDepth 4000
namespace Go.Am
open Go.Proofs.Mdl
def rng5 : List Int := [-2, -1, 0, 1, 2]
def diffQ (A B C D q : Int) : Nat := (subN (numZ C) (numZ A) 23 * numZ q + subN (numZ D) (numZ B) 23) % 23
theorem score_all : (rng5.all fun A => rng5.all fun B => rng5.all fun C => rng5.all fun D => rng5.all fun q => (decide (B + A * q = D + C * q)) == (decide (diffQ A B C D q = 0))) = true := by decide +kernel
theorem mem5 {z : Int} (h : okZ z) : z ∈ rng5 := by rcases okZ_5 h with rfl | rfl | rfl | rfl | rfl <;> decide
theorem score_iff {A B C D q : Int} (hA : okZ A) (hB : okZ B) (hC : okZ C) (hD : okZ D) (hq : okZ q) : B + A * q = D + C * q ↔ diffQ A B C D q = 0 := by
 have h := score_all
 have h := List.all_eq_true.1 h A (mem5 hA)
 have h := List.all_eq_true.1 h B (mem5 hB)
 have h := List.all_eq_true.1 h C (mem5 hC)
 have h := List.all_eq_true.1 h D (mem5 hD)
 have h := List.all_eq_true.1 h q (mem5 hq)
 have h := eq_of_beq h
 constructor
 · intro e; rw [decide_eq_true e] at h; exact of_decide_eq_true h.symm
 · intro e; rw [decide_eq_true e] at h; exact of_decide_eq_true h
def lineOff (two : Bool) (tk : List Nat) : Bool := (List.range (tN two)).all fun i => ev 23 (lineL two tk) (i + 1) ≠ 0 || tk.contains (i + 1)
theorem offs1 : lists1.all (lineOff false) = true := by decide +kernel
theorem offs2 : lists2.all (lineOff true) = true := by decide +kernel
theorem mem_lists {two : Bool} {tk : List Nat} (h1 : tk.length ≤ tT two) (h2 : ∀ c ∈ tk, 1 ≤ c ∧ c ≤ tN two) : tk ∈ (if two then lists2 else lists1) := by
 cases two with
 | false =>
  have h1 : tk.length ≤ 1 := h1
  show tk ∈ lists1
  match tk, h1, h2 with
  | [], _, _ => exact List.mem_cons_self
  | [a], _, h2 =>
   have h := h2 a List.mem_cons_self
   have hb : a ≤ 4 := h.2
   refine List.mem_cons_of_mem _ (List.mem_map.2 ⟨a - 1, List.mem_range.2 (by omega), by rw [Nat.sub_add_cancel h.1]⟩)
 | true =>
  have h1 : tk.length ≤ 2 := h1
  show tk ∈ lists2
  match tk, h1, h2 with
  | [], _, _ => exact List.mem_cons_self
  | [a], _, h2 =>
   have h := h2 a List.mem_cons_self
   have hb : a ≤ 7 := h.2
   exact List.mem_cons_of_mem _ (List.mem_append.2 (.inl (List.mem_map.2 ⟨a - 1, List.mem_range.2 (by omega), by rw [Nat.sub_add_cancel h.1]⟩)))
  | [a, b], _, h2 =>
   have h := h2 a List.mem_cons_self
   have h' := h2 b (List.mem_cons_of_mem _ List.mem_cons_self)
   have hb : a ≤ 7 := h.2
   have hb' : b ≤ 7 := h'.2
   exact List.mem_cons_of_mem _ (List.mem_append.2 (.inr (List.mem_flatMap.2 ⟨a - 1, List.mem_range.2 (by omega), List.mem_map.2 ⟨b - 1, List.mem_range.2 (by omega), by rw [Nat.sub_add_cancel h.1, Nat.sub_add_cancel h'.1]⟩⟩)))
theorem line_off {two : Bool} {tk : List Nat} (h1 : tk.length ≤ tT two) (h2 : ∀ c ∈ tk, 1 ≤ c ∧ c ≤ tN two) {i : Nat} (hi : 1 ≤ i) (hi2 : i ≤ tN two) (hn : i ∉ tk) : ev 23 (lineL two tk) i ≠ 0 := by
 have h : lineOff two tk = true := by
  have hm := mem_lists h1 h2
  cases two with
  | false => exact List.all_eq_true.1 offs1 tk hm
  | true => exact List.all_eq_true.1 offs2 tk hm
 have h := List.all_eq_true.1 h (i - 1) (List.mem_range.2 (by omega))
 rw [Nat.sub_add_cancel hi] at h
 intro c
 rw [c] at h
 simp at h
 exact hn h
theorem dot_two (a0 a1 : Nat) (q : Int) : dotL [a0, a1] (rowQ q) = (a0 * numZ q + a1) % 23 := by
 show addq (addq 0 (a0 * numZ q % 23)) (a1 * 1 % 23) = _
 unfold addq
 omega
theorem nozero : ∀ e, e < 23 → ∀ k, k < 23 → e ≠ 0 → k ≠ 0 → e * k % 23 ≠ 0 := by decide +kernel
theorem sc_moved {s0 s1 b0 b1 d0 d1 k back : Nat} {q : Int} : scL q (movL back k [(s0, b0), (s1, b1)] [d0, d1]) = [((s0 * numZ q + s1) + (d0 * numZ q + d1) % 23 * k) % 23] := by
 show [dotL [addq s0 (d0 * k % 23), addq s1 (d1 * k % 23)] (rowQ q)] = _
 rw [dot_two]
 congr 1
 have e1 : addq s0 (d0 * k % 23) * numZ q % 23 = (s0 * numZ q + d0 * numZ q * k) % 23 := by
  unfold addq
  rw [show (s0 % 23 + d0 * k % 23 % 23) % 23 = (s0 + d0 * k) % 23 by omega, mulmod, Nat.add_mul, Nat.mul_assoc, Nat.mul_comm k, ← Nat.mul_assoc]
 have e2 : (d0 * numZ q + d1) % 23 * k % 23 = (d0 * numZ q * k + d1 * k) % 23 := by rw [mulmod, Nat.add_mul]
 unfold addq at e1 ⊢
 generalize (s0 % 23 + d0 * k % 23 % 23) % 23 * numZ q = X at e1 ⊢
 generalize (d0 * numZ q + d1) % 23 * k = Y at e2 ⊢
 omega
theorem sc_here {s0 s1 b0 b1 : Nat} {q : Int} : scL q [(s0, b0), (s1, b1)] = [(s0 * numZ q + s1) % 23] := by
 show [dotL [s0, s1] (rowQ q)] = _
 rw [dot_two]
theorem sc_law {two : Bool} {A B C D q : Int} (hA : okZ A) (hB : okZ B) (hC : okZ C) (hD : okZ D) (hq : okZ q) {tk : List Nat} (h1 : tk.length ≤ tT two) (h2 : ∀ c ∈ tk, 1 ≤ c ∧ c ≤ tN two) {i : Nat} (hi : 1 ≤ i) (hi2 : i ≤ tN two) {l m : List (Nat × Nat)} (hl : l.length = 2)
 (hm : m = movL (invN 19) (ev 23 (lineL two tk) i) l (difL A B C D)) : (B + A * q = D + C * q → scL q l = scL q m) ∧ (B + A * q ≠ D + C * q → scL q l = scL q m → i ∈ tk) := by
 match l, hl with
 | [(s0, b0), (s1, b1)], _ =>
  have e : scL q m = [((s0 * numZ q + s1) + diffQ A B C D q * ev 23 (lineL two tk) i) % 23] := by rw [hm]; exact sc_moved
  have hs := score_iff hA hB hC hD hq
  rw [e, sc_here]
  refine ⟨fun h => by rw [hs.1 h, Nat.zero_mul, Nat.add_zero], fun h he => ?_⟩
  have h : diffQ A B C D q ≠ 0 := fun c => h (hs.2 c)
  by_cases hn : i ∈ tk
  · exact hn
  · have hk := line_off h1 h2 hi hi2 hn
    have := nozero (diffQ A B C D q) (Nat.mod_lt _ (by decide)) (ev 23 (lineL two tk) i) (ev_23 _ _) h hk
    injection he with he
    omega
end Go.Am

set_option linter.unusedVariables false
set_option maxRecDepth 4000
namespace Go.Am
open Go.Proofs.Mdl
section
variable {M n : Nat} {x : VE} {σ : Hp} {K : KV} {two : Bool}
theorem call_q {f : FuncId} {a b : V} {j : Nat} {q : Int} (hj : σ j = none) (h : ∀ τ, x.C f [a, b, w1 τ q] σ K) : x.call f [a, b, .own j 0 1 1] (upd σ j (.row [iz q] 2)) K := by
 refine ⟨σ, fun τ => [a, b, w1 (τ 2) q], .upd_new hj, fun τ => ⟨rfl, fun i v u e1 e2 => ?_⟩, fun τ => h _⟩
 match i with
 | 0 => injection e1 with e1; injection e2 with e2; subst e1 e2; exact .keep _
 | 1 => injection e1 with e1; injection e2 with e2; subst e1 e2; exact .keep _
 | 2 =>
  injection e1 with e1; injection e2 with e2; subst e1 e2
  refine .dat (d := .list [.int .i64 q] 1) (.own upd_same hj (Nat.le_refl _) (by simp) fun k v d x1 x2 => ?_)
  match k with
  | 0 => injection x1 with x1; injection x2 with x2; subst x1 x2; exact .int
  | k + 1 => cases x2
 | i + 3 => cases e1
theorem numbers1_s (hM : 1000000 < M) (hx : Deep PP tbS gM M (n + 2) x) {v w : V} {a b : Nat} (hv : NV σ v [a]) (hw : NV σ w [b]) (hK : K (.bool (decide (a = b))) σ) : x.call c_ref03_Numbers [v, w] σ K := by
 refine hx.call o_numbers fun y hy => ?_
 rw [f_ref03_Numbers]
 unfold r_ref03_Numbers
 obtain ⟨m, hm⟩ : ∃ m, M = m + 1 + 1 := ⟨M - 2, by omega⟩
 rw [hv.len, hw.len, vNeq_n, show decide ([a].length = [b].length) = true from rfl, Bool.not_true, vIf_f, hy.most, hm, l_ref03_Numbers_rrlrdE]
 unfold l_ref03_Numbers_rrlrdB
 refine vDrop_here ?_
 obtain ⟨p1, ix1, lx1⟩ := hv.at (i := 0) (n := a) rfl
 obtain ⟨p2, ix2, lx2⟩ := hw.at (i := 0) (n := b) rfl
 rw [hv.len, vLss_n, show decide (0 < [a].length) = true from rfl, vIf_t, ix1, lx1 _ (.refl _), ix2, lx2 _ (.refl _), vNeqU]
 by_cases e : a = b
 · rw [decide_eq_true e] at hK ⊢
   rw [Bool.not_true, vIf_f, vAdd_n (by decide), l_ref03_Numbers_rrlrdE]
   unfold l_ref03_Numbers_rrlrdB
   refine vDrop_here ?_
   rw [hv.len, vLss_n, show decide (0 + 1 < [a].length) = false from rfl, vIf_f]
   exact vRet_here hK
 · rw [decide_eq_false e] at hK ⊢
   rw [Bool.not_false, vIf_t]
   exact vRet_here hK
theorem bool4 : isBoolT PP 4 = true := by kernel_rfl
theorem vNeqB {a b : Bool} {k : V → Prop} : vBin PP .neq 4 (.bool a) (.bool b) k = k (.bool (!decide (a = b))) := propext ⟨fun h => h.2, fun h => ⟨bool4, h⟩⟩
theorem bldq {q : Int} {K : KV} (h : ∀ j, σ j = none → K (.own j 0 1 1) (upd σ j (.row [iz q] 2))) : vBuildS 2 1 [(.int .i64 (.ofNat 0))] [(0, 1, iz q)] σ K := ⟨rfl, by simp, h⟩
theorem scoreloop (hM : 1000000 < M) (hx : Deep PP tbS gM M (n + 9) x) {p : Nat} {A B C D q : Int} (hA : okZ A) (hB : okZ B) (hC : okZ C) (hD : okZ D) (hq : okZ q) {τ0 τ1 τ2 τ3 τ4 : Tag} {l : List Nat} (h8 : ∀ b ∈ l, b < 256) (hl : l.length < 1000) {f r f2 r2 : List (List Nat)} (rp : σ p = some (.row (pv two) 25))
 (hs : ∀ X, (shL f r X).length = 2) (hs2 : ∀ X, (shL f2 r2 X).length = 2) (hok : ∀ i, 1 ≤ i → i ≤ tN two → shL f2 r2 i = movL (invN 19) (ev 23 (lineL two (fewL two l)) i) (shL f r i) (difL A B C D)) :
 ∀ (k i m : Nat) (σ' : Hp), i + k = tN two → k < m → Hle σ σ' → (∀ σ', Hle σ σ' → vRet (.bool true) σ' K) → l_law31_MirrorScores_rrrrrrrrlrd x m (.list τ0 (u8s l) l.length) (iz q) (.ptr p 0) (.list τ1 (shD f r (tN two)) (tN two)) (.list τ2 (shD f2 r2 (tN two)) (tN two)) (w1 τ3 (B + A * q)) (w1 τ4 (D + C * q)) (ni i) σ' K := by
 have hN : tN two ≤ 7 := by cases two <;> decide
 have e5 : (pv two)[5]? = some (ni (tN two)) := rfl
 intro k
 induction k with
 | zero =>
  intro i m σ' hi hm hle hret
  obtain ⟨m, rfl⟩ := Nat.exists_eq_succ_of_ne_zero (show m ≠ 0 by omega)
  rw [l_law31_MirrorScores_rrrrrrrrlrdE]
  unfold l_law31_MirrorScores_rrrrrrrrlrdB
  refine vDrop_here ?_
  rw [vFld_z, ldp (hle _ _ rp) e5, vLss_n, decide_eq_false (by omega), vIf_f]
  exact hret σ' hle
 | succ k ih =>
  intro i m σ' hi hm hle hret
  obtain ⟨m, rfl⟩ := Nat.exists_eq_succ_of_ne_zero (show m ≠ 0 by omega)
  rw [l_law31_MirrorScores_rrrrrrrrlrdE]
  unfold l_law31_MirrorScores_rrrrrrrrlrdB
  refine vDrop_here ?_
  have hiN : i < tN two := by omega
  have rp' := hle _ _ rp
  have cx : ∀ {σ2 : Hp} {K : KV}, vLd (.lptr τ1 (shD f r (tN two)) i) σ2 K = K (.list (.sub τ1 i) (pds (shL f r (i + 1))) 2) σ2 := fun {σ2 K} => by
   rw [vLd_l, vNth_some (shD_at hiN), ← hs (i + 1)]; rfl
  have cy : ∀ {σ2 : Hp} {K : KV}, vLd (.lptr τ2 (shD f2 r2 (tN two)) i) σ2 K = K (.list (.sub τ2 i) (pds (shL f2 r2 (i + 1))) 2) σ2 := fun {σ2 K} => by
   rw [vLd_l, vNth_some (shD_at hiN), ← hs2 (i + 1)]; rfl
  have ix : ∀ {τ : Tag} {cs : List Dt} {k : V → Prop}, vIdx 1 (.list τ cs (tN two)) (ni i) k = k (.lptr τ cs i) := fun {τ cs k} => by rw [vIdx_l hiN, Nat.mul_one]
  have i1 : ∀ {τ : Tag} {z : Int} {k : V → Prop}, vIdx 1 (w1 τ z) (.int .i64 (.ofNat 0)) k = k (.lptr τ [.int .i64 z] 0) := fun {τ z k} => by rw [vIdx_l (by decide)]
  have l1 : ∀ {τ : Tag} {z : Int} {σ2 : Hp} {K : KV}, vLd (.lptr τ [.int .i64 z] 0) σ2 K = K (iz z) σ2 := fun {τ z σ2 K} => by rw [vLd_l]; rfl
  have ls : ∀ {τ : Tag} {c : List Dt} {n : Nat} {q : Prop}, vSame (.list τ c n) (.list τ c n) q = q := fun {τ c n q} => vSame_ok rfl
  have sm : ∀ {q : Prop}, vSame (.agg (pv two)) (.agg (pv two)) q = q := fun {q} => vSame_ok rfl
  obtain ⟨law1, law2⟩ := sc_law hA hB hC hD hq (few_ok (two := two) (l := l)).1 (few_ok (two := two) (l := l)).2.1 (i := i + 1) (by omega) (by omega) (hs (i + 1)) (hok (i + 1) (by omega) (by omega))
  have next : ∀ σ2, Hle σ' σ2 → vBin PP .add 3 (ni i) (.int .i64 (.ofNat 1)) (fun v77 => l_law31_MirrorScores_rrrrrrrrlrd x m (.list τ0 (u8s l) l.length) (iz q) (.ptr p 0) (.list τ1 (shD f r (tN two)) (tN two)) (.list τ2 (shD f2 r2 (tN two)) (tN two)) (w1 τ3 (B + A * q)) (w1 τ4 (D + C * q)) v77 σ2 K) := fun σ2 le => by
   rw [vAdd_n (by omega)]
   exact ih (i + 1) m σ2 (by omega) (by omega) (hle.trans le) hret
  have mz : ∀ τ : Tag, ∀ g : List (Nat × Nat), NV σ' (.list τ (nds (scL q g)) 1) [dotL (g.map Prod.fst) (rowQ q)] := fun τ g => .list (l := [dotL (g.map Prod.fst) (rowQ q)])
  rw [vFld_z, ldp rp' e5, vLss_n, decide_eq_true hiN, vIf_t, lp_pv rp', ix, cx, lp_pv rp', ix, cy, i1, l1, i1, l1, vBinI_eql]
  rw [l1, vSame_i, l1, vSame_i, cy, ls, lp_pv rp', sm, cx, ls, lp_pv rp', sm]
  refine ⟨bldq fun _ _ => trivial, bldq fun _ _ => trivial, bldq fun j hj => ?_⟩
  refine call_q hj fun τ => ?_
  refine score_s (n := n + 1) (by omega) hx hq (hs _) shL_64 fun τ5 => ?_
  rw [l1, vSame_i, l1, vSame_i, cy, ls, lp_pv rp', sm, l1, vSame_i, l1, vSame_i, cy, ls, lp_pv rp', sm]
  refine ⟨bldq fun _ _ => trivial, bldq fun j hj => ?_⟩
  refine call_q hj fun τ => ?_
  refine score_s (n := n + 1) (by omega) hx hq (hs2 _) shL_64 fun τ6 => ?_
  rw [l1, vSame_i, l1, vSame_i]
  refine numbers1_s (n := n + 7) hM hx (mz τ5 _) (mz τ6 _) ?_
  rw [l1, vSame_i, l1, vSame_i, vNeqB]
  have law1 : B + A * q = D + C * q → dotL ((shL f r (i + 1)).map Prod.fst) (rowQ q) = dotL ((shL f2 r2 (i + 1)).map Prod.fst) (rowQ q) := fun h => by have := law1 h; unfold scL at this; injection this
  have law2 : B + A * q ≠ D + C * q → dotL ((shL f r (i + 1)).map Prod.fst) (rowQ q) = dotL ((shL f2 r2 (i + 1)).map Prod.fst) (rowQ q) → i + 1 ∈ fewL two l := fun h h2 => law2 h (by unfold scL; rw [h2])
  generalize dotL ((shL f r (i + 1)).map Prod.fst) (rowQ q) = s1 at *
  generalize dotL ((shL f2 r2 (i + 1)).map Prod.fst) (rowQ q) = s2 at *
  by_cases hv : (!decide (decide (s1 = s2) = decide (B + A * q = D + C * q))) = true
  · have hne : B + A * q ≠ D + C * q := fun c => by
     rw [law1 c, decide_eq_true c] at hv; simp at hv
    have heq : s1 = s2 := by
     by_cases h : s1 = s2
     · exact h
     · rw [decide_eq_false h, decide_eq_false hne] at hv; simp at hv
    have hmem := law2 hne heq
    rw [hv]
    rw [shutP_eq, vGuard_t]; dsimp only
    rw [shutP_eq, vGuard_t, i1]; dsimp only
    rw [shutP_eq, vGuard_t, l1]; dsimp only
    rw [shutP_eq, vGuard_t]; dsimp only
    rw [shutP_eq, vGuard_t, i1]; dsimp only
    rw [shutP_eq, vGuard_t, l1]; dsimp only
    rw [shutP_eq, vGuard_t, vBinI_eql, decide_eq_false hne]; dsimp only
    rw [shutP_eq, vGuard_t]; dsimp only
    rw [shutP_eq, vGuard_t, lp_pv rp']; dsimp only
    iterate 2 (rw [shutP_eq, vGuard_t]; dsimp only)
    rw [shutP_eq, vGuard_t, vAdd_n (by omega)]; dsimp only
    rw [shutP_eq, vGuard_t]; dsimp only
    refine few_s (n := n + 8) hM hx h8 hl fun w σ2 le2 iv => ?_
    rw [shutP_eq, vGuardC_t, l1, vSame_i, shutP_eq, vGuardC_t, l1, vSame_i, l1, vSame_i, l1, vSame_i, shutP_eq, vGuard_t]; dsimp only
    have hfl := (few_ok (two := two) (l := l)).1
    have hT : tT two ≤ 2 := by cases two <;> decide
    refine has_s (n := n + 8) hM hx iv (by omega) ?_
    rw [decide_eq_true hmem, shutP_eq, vGuardC_t, l1, vSame_i, shutP_eq, vGuardC_t, l1, vSame_i, l1, vSame_i, l1, vSame_i, shutP_eq, vGuard_t]; dsimp only
    rw [vNot_b, Bool.not_true, shutP_eq, vGuard_t, shutP_eq, vPick_f]; dsimp only
    rw [shutP_eq, vPick_t, vIf_f]
    exact next σ2 le2
  · rw [Bool.eq_false_iff.2 hv]
    iterate 8 (rw [shutP_eq, vGuard_tf])
    iterate 5 (rw [shutP_eq, vGuard_u])
    iterate 2 (rw [shutP_eq, vGuardC_tf])
    rw [l1, vSame_i, l1, vSame_i, shutP_eq, vGuard_u]
    iterate 2 (rw [shutP_eq, vGuardC_tf])
    rw [l1, vSame_i, l1, vSame_i, shutP_eq, vGuard_u, shutP_eq, vGuard_tf, shutP_eq, vPick_f, vIf_f]
    exact next σ' (.refl _)
theorem o_mscores : gM c_law31_MirrorScores = none := rfl
theorem MirrorScores_s (hM : 1000000 < M) (hx : Deep PP tbS gM M (n + 19) x) {τ : Tag} {a b c d q : Int} {S : Nat} (hS : b64 S) {l : List Nat} (h8 : ∀ b ∈ l, b < 256) (hl : l.length < 4611686018427387904) (hK : K (.bool true) σ) :
 x.call c_law31_MirrorScores [.bool two, iz a, iz b, iz c, iz d, nu S, .list τ (u8s l) l.length, iz q] σ K := by
 refine hx.call o_mscores fun y hy => ?_
 rw [f_law31_MirrorScores]
 unfold r_law31_MirrorScores
 refine some_s (two := two) (n := n + 17) hy ?_
 refine vAlloc_to (l := pz) rfl fun p hp => ?_
 have rp : upd σ p (.row pz 25) p = some (.row pz 25) := upd_same
 refine vSt_all (n := 12) rp pv_one rfl rfl ?_
 rw [upd_upd]
 have le1 : Hle σ (upd σ p (.row (pv two) 25)) := .upd_new hp
 have rp : upd σ p (.row (pv two) 25) p = some (.row (pv two) 25) := upd_same
 generalize upd σ p (.row (pv two) 25) = σ1 at le1 rp
 rw [vLenS_l, vGtr_n]
 by_cases hc : 20 < l.length
 · rw [decide_eq_true hc, shutP_eq, vGuard_ft, shutP_eq, vGuard_ft, shutP_eq, vPick_t, vIf_t]
   refine awake_s (n := n + 10) hM hy ?_
   exact vRet_drop le1 hK
 · rw [decide_eq_false hc, shutP_eq, vGuard_t]; dsimp only
   refine awake_s (n := n + 10) hM hy ?_
   rw [shutP_eq, vGuard_t]; dsimp only
   rw [vNot_b, Bool.not_true, shutP_eq, vPick_f, vIf_f, vBinI_rem (by decide)]
   have hT : tT two ≤ 2 := by cases two <;> decide
   have hN : tN two ≤ 7 := by cases two <;> decide
   have ld : ∀ {σ' : Hp} {K : KV}, Hle σ1 σ' → vLdN 12 (.ptr p 0) σ' K = K (.agg (pv two)) σ' := fun {σ' K} hle => lp_pv (hle _ _ rp)
   have sm : ∀ {q : Prop}, vSame (.agg (pv two)) (.agg (pv two)) q = q := fun {q} => vSame_ok rfl
   rw [ld (.refl _), ld (.refl _)]
   refine model'_s (n := n + 17) hy fun τ1 τ2 => ?_
   rw [ld (.refl _), sm, ld (.refl _), sm]
   refine model'_s (n := n + 17) hy fun τ3 τ4 => ?_
   rw [ld (.refl _), sm, ld (.refl _), sm]
   refine few_s (n := n + 17) hM hy h8 (by omega) fun w σ2 le2 iv => ?_
   obtain ⟨f1, f2, f3⟩ := few_ok (two := two) (l := l)
   have f4 : ∀ a b, fewL two l = [a, b] → a ≠ b := fun a b e c => by rw [e, c] at f3; simp at f3
   rw [ld le2, sm]
   refine loads_s (n := n + 1) hM hy (okZ_mod a) (okZ_mod b) (okZ_mod c) (okZ_mod d) hS iv f1 f2 f4 fun σ3 o f r fb rb le3 ro ef er efb erb τ5 τ6 τ7 τ8 => ?_
   rw [vExt_at (v := .list τ5 (shD f r (tN two)) (tN two)) rfl, vExt_at (v := .list τ6 (shD fb rb (tN two)) (tN two)) rfl, vExt_at (v := .list τ7 (lsD (comsL f r)) (comsL f r).length) rfl, vExt_at (v := .list τ8 (lsD (comsL fb rb)) (comsL fb rb).length) rfl, vExt_at (v := .own o 0 (tT two + 1) (tT two + 1)) rfl, vExt_at (v := .bool true) rfl]
   obtain ⟨law1, law2⟩ := law_ok f1 f2 f r fb rb ef er efb erb
   have lf : f.length = 2 := by rw [ef]; exact fsR_len _ _ _
   have lr : r.length = 2 := by rw [er]; exact rsR_len _ _ _
   have lfb : fb.length = 2 := by rw [efb]; exact fsR_len _ _ _
   have lrb : rb.length = 2 := by rw [erb]; exact rsR_len _ _ _
   have le13 := le2.trans le3
   rw [vNot_b, Bool.not_true, vIf_f, ld le13, ld le13, ld le13, sm, ld le13, sm]
   refine ⟨bldq fun _ _ => trivial, bldq fun _ _ => trivial, ?_⟩
   refine model'_s (n := n + 17) hy fun τ1 τ2 => ?_
   rw [ld le13, sm, ld le13, sm, ld le13, sm, ld le13, sm]
   refine ⟨bldq fun _ _ => trivial, bldq fun _ _ => trivial, bldq fun j hj => ?_⟩
   refine call_q hj fun τ => ?_
   refine scores_s (n := n + 12) (by omega) hy (okZ_mod a) (okZ_mod b) (okZ_mod q) fun τ9 => ?_
   rw [ld le13, sm, ld le13, sm]
   refine ⟨bldq fun _ _ => trivial, ?_⟩
   refine model'_s (n := n + 17) hy fun τ3 τ4 => ?_
   rw [ld le13, sm, ld le13, sm]
   refine ⟨bldq fun _ _ => trivial, bldq fun j hj => ?_⟩
   refine call_q hj fun τ => ?_
   refine scores_s (n := n + 12) (by omega) hy (okZ_mod c) (okZ_mod d) (okZ_mod q) fun τ10 => ?_
   rw [lv, vNeq_n, decide_eq_true rfl, Bool.not_true, shutP_eq, vGuard_t]; dsimp only
   rw [shutP_eq, vGuard_t, lv]; dsimp only
   rw [shutP_eq, vGuard_t, vNeq_n, decide_eq_true rfl, Bool.not_true]; dsimp only
   rw [shutP_eq, vPick_f, vIf_f, hy.most]
   have hs : ∀ X, (shL f r X).length = 2 := fun X => by unfold shL; rw [List.length_zipWith, lf, lr]; rfl
   have hs2 : ∀ X, (shL fb rb X).length = 2 := fun X => by unfold shL; rw [List.length_zipWith, lfb, lrb]; rfl
   exact scoreloop (n := n + 9) (σ := σ3) hM hy (okZ_mod a) (okZ_mod b) (okZ_mod c) (okZ_mod d) (okZ_mod q) h8 (by omega) (le13 _ _ rp) hs hs2 (fun i h1 h2 => (law2 i h1 h2).2) (tN two) 0 M σ3 (by omega) (by omega) (.refl _) fun σ' h => vRet_drop (le1.trans (le13.trans h)) hK
end
end Go.Am

set_option linter.unusedVariables false
set_option maxRecDepth 100000
namespace Go.Am
open Go.RowKit Go.MapKept Go.Proofs
theorem called_mscores {H : Type} {enc : TypeId × Value → H} {W : World} (hsz : PP.globals.size ≤ W.heap.size) (hg : Laid gs W) {two : Bool} {a b c d q : Int} {S : Nat} (hS : S < 18446744073709551616) {v : Value} {d7 : DataW H} {p7 : List MemPlace} (hc : v.cells = #[v]) (h : DataW.Trod enc PP W 0 (fun _ => true) true 23 v d7 p7)
 (hz : ∀ b off, MemPlace.cell b off ∈ p7 → W.frozen? ⟨b, off, none⟩ = false) (hw : ∀ x ∈ d7.weights PP 23, x ≤ reachBytes) :
 Calls PP c_law31_MirrorScores ⟨[.bool two, .int .i64 a, .int .i64 b, .int .i64 c, .int .i64 d, .int .u64 (.ofNat S), v, .int .i64 q]⟩ W (fun e w' => e = .returned (.bool true) ∧ Below W.heap.size W w') := by
 obtain ⟨ρ, σ, u, l, _, hl, _, hu, hr, h8, hll⟩ := lay_u8s itsU8 hc h hz hw (Lay.none hsz)
 obtain ⟨M, hM⟩ : ∃ M : Nat, 1000000 < M := ⟨1000001, by omega⟩
 obtain ⟨m, -⟩ : ∃ m : Nat, m = 0 := ⟨0, rfl⟩
 refine called_of (M := M) (m := m + 19) hsz hg hl [u] (va := [.bool two, iz a, iz b, iz c, iz d, nu S, .list (.root 0) (u8s l) l.length, iz q]) (us := [.bool two, .int .i64 a, .int .i64 b, .int .i64 c, .int .i64 d, .int .u64 (.ofNat S), u, .int .i64 q])
  (.cons .bool (.cons .int (.cons .int (.cons .int (.cons .int (.cons .int (.cons (.list (.root rfl) (hr.mono (start_fr σ))) (.cons .int .nil))))))))
  (.cons (VR.flat rfl) (.cons (VR.flat rfl) (.cons (VR.flat rfl) (.cons (VR.flat rfl) (.cons (VR.flat rfl) (.cons (VR.flat rfl) (.cons hu (.cons (VR.flat rfl) (.nil _))))))))) ?_
 exact MirrorScores_s (n := m) hM (venv_deep (m + 19)) hS h8 (by omega) rfl
end Go.Am
