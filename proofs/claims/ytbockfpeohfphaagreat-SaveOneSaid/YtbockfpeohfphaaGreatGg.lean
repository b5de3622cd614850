/- Functions' codes, written out (by a program), each seen to be so by the kernel. -/
import Derived.Test.YtbockfpeohfphaaGreatGd
import Derived.Test.YtbockfpeohfphaaGreatGf
import Derived.Test.YtbockfpeohfphaaGreatGc
import GoSem.ClaimJoined

set_option linter.unusedVariables false
set_option maxRecDepth 100000
namespace Go.Am

/-! consistory/consistoryref24.Same -/
noncomputable def l_ref24_Same_rrlrd (x : EV) (m : Nat) (t2 t3 t5 : Value) (σ : St) (K : VK) : Bool := jmpL PP tbS c_ref24_Same (x.E PP) [.r, .r, .l, .r, .d] m [] [t2, t3, t5] σ K
noncomputable def r_ref24_Same (x : EV) (a0 a1 : Value) (σ : St) (K : VK) : Bool :=
  boxK 49 a0 σ fun v0 σ =>
  boxK 49 a1 σ fun v1 σ =>
  rFld 0 v0 fun v2 =>
  rLd v2 σ fun v3 σ =>
  rFld 0 v1 fun v4 =>
  rLd v4 σ fun v5 σ =>
  rBin PP .neq 3 v3 v5 fun v6 =>
  shut x.most (rGuard false v6 (fun k => rFld 25 v0 fun v7 =>
  k v7 σ) σ fun v8 σ =>
  shut x.most (rGuard false v6 (fun k => rLd v8 σ fun v9 σ =>
  k v9 σ) σ fun v10 σ =>
  shut x.most (rGuard false v6 (fun k => rFld 25 v1 fun v11 =>
  k v11 σ) σ fun v12 σ =>
  shut x.most (rGuard false v6 (fun k => rLd v12 σ fun v13 σ =>
  k v13 σ) σ fun v14 σ =>
  shut x.most (rGuard false v6 (fun k => rBin PP .neq 4 v10 v14 fun v15 =>
  k v15 σ) σ fun v16 σ =>
  shut x.most (rPick v6 (.bool true) v16 fun v17 =>
  shut x.most (rGuard false v17 (fun k => rFld 1 v0 fun v18 =>
  k v18 σ) σ fun v19 σ =>
  shut x.most (rGuard false v17 (fun k => rLd v19 σ fun v20 σ =>
  k v20 σ) σ fun v21 σ =>
  shut x.most (rGuard false v17 (fun k => rFld 1 v1 fun v22 =>
  k v22 σ) σ fun v23 σ =>
  shut x.most (rGuard false v17 (fun k => rLd v23 σ fun v24 σ =>
  k v24 σ) σ fun v25 σ =>
  shut x.most (rGuard false v17 (fun k => x.C c_ref24_Strings [v21, v25] σ fun v26 σ =>
  k v26 σ) σ fun v27 σ =>
  shut x.most (rGuard false v17 (fun k => unK .not v27 fun v28 =>
  k v28 σ) σ fun v29 σ =>
  shut x.most (rPick v17 (.bool true) v29 fun v30 =>
  shut x.most (rGuard false v30 (fun k => rFld 22 v0 fun v31 =>
  k v31 σ) σ fun v32 σ =>
  shut x.most (rGuard false v30 (fun k => rLd v32 σ fun v33 σ =>
  k v33 σ) σ fun v34 σ =>
  shut x.most (rGuard false v30 (fun k => rFld 22 v1 fun v35 =>
  k v35 σ) σ fun v36 σ =>
  shut x.most (rGuard false v30 (fun k => rLd v36 σ fun v37 σ =>
  k v37 σ) σ fun v38 σ =>
  shut x.most (rGuard false v30 (fun k => x.C c_ref24_Strings [v34, v38] σ fun v39 σ =>
  k v39 σ) σ fun v40 σ =>
  shut x.most (rGuard false v30 (fun k => unK .not v40 fun v41 =>
  k v41 σ) σ fun v42 σ =>
  shut x.most (rPick v30 (.bool true) v42 fun v43 =>
  shut x.most (rGuard false v43 (fun k => rFld 2 v0 fun v44 =>
  k v44 σ) σ fun v45 σ =>
  shut x.most (rGuard false v43 (fun k => rLdN 20 v45 σ fun v46 σ =>
  k v46 σ) σ fun v47 σ =>
  shut x.most (rGuard false v43 (fun k => rFld 2 v1 fun v48 =>
  k v48 σ) σ fun v49 σ =>
  shut x.most (rGuard false v43 (fun k => rLdN 20 v49 σ fun v50 σ =>
  k v50 σ) σ fun v51 σ =>
  shut x.most (rGuard false v43 (fun k => x.C c_ref17_Same [v47, v51] σ fun v52 σ =>
  k v52 σ) σ fun v53 σ =>
  shut x.most (rGuard false v43 (fun k => unK .not v53 fun v54 =>
  k v54 σ) σ fun v55 σ =>
  shut x.most (rPick v43 (.bool true) v55 fun v56 =>
  shut x.most (rGuard false v56 (fun k => rFld 23 v0 fun v57 =>
  k v57 σ) σ fun v58 σ =>
  shut x.most (rGuard false v56 (fun k => rLd v58 σ fun v59 σ =>
  k v59 σ) σ fun v60 σ =>
  shut x.most (rGuard false v56 (fun k => rFld 23 v1 fun v61 =>
  k v61 σ) σ fun v62 σ =>
  shut x.most (rGuard false v56 (fun k => rLd v62 σ fun v63 σ =>
  k v63 σ) σ fun v64 σ =>
  shut x.most (rGuard false v56 (fun k => x.C c_ref18_Same [v60, v64] σ fun v65 σ =>
  k v65 σ) σ fun v66 σ =>
  shut x.most (rGuard false v56 (fun k => unK .not v66 fun v67 =>
  k v67 σ) σ fun v68 σ =>
  shut x.most (rPick v56 (.bool true) v68 fun v69 =>
  shut x.most (rGuard false v69 (fun k => rFld 24 v0 fun v70 =>
  k v70 σ) σ fun v71 σ =>
  shut x.most (rGuard false v69 (fun k => rLd v71 σ fun v72 σ =>
  k v72 σ) σ fun v73 σ =>
  shut x.most (rGuard false v69 (fun k => rFld 24 v1 fun v74 =>
  k v74 σ) σ fun v75 σ =>
  shut x.most (rGuard false v69 (fun k => rLd v75 σ fun v76 σ =>
  k v76 σ) σ fun v77 σ =>
  shut x.most (rGuard false v69 (fun k => x.C c_ref18_Same [v73, v77] σ fun v78 σ =>
  k v78 σ) σ fun v79 σ =>
  shut x.most (rGuard false v69 (fun k => unK .not v79 fun v80 =>
  k v80 σ) σ fun v81 σ =>
  shut x.most (rPick v69 (.bool true) v81 fun v82 =>
  shut x.most (rGuard false v82 (fun k => rFld 26 v0 fun v83 =>
  k v83 σ) σ fun v84 σ =>
  shut x.most (rGuard false v82 (fun k => rLd v84 σ fun v85 σ =>
  k v85 σ) σ fun v86 σ =>
  shut x.most (rGuard false v82 (fun k => rFld 26 v1 fun v87 =>
  k v87 σ) σ fun v88 σ =>
  shut x.most (rGuard false v82 (fun k => rLd v88 σ fun v89 σ =>
  k v89 σ) σ fun v90 σ =>
  shut x.most (rGuard false v82 (fun k => x.C c_ref24_dealings [v86, v90] σ fun v91 σ =>
  k v91 σ) σ fun v92 σ =>
  shut x.most (rGuard false v82 (fun k => unK .not v92 fun v93 =>
  k v93 σ) σ fun v94 σ =>
  shut x.most (rPick v82 (.bool true) v94 fun v95 =>
  shut x.most (rGuard false v95 (fun k => rFld 29 v0 fun v96 =>
  k v96 σ) σ fun v97 σ =>
  shut x.most (rGuard false v95 (fun k => rLd v97 σ fun v98 σ =>
  k v98 σ) σ fun v99 σ =>
  shut x.most (rGuard false v95 (fun k => rFld 29 v1 fun v100 =>
  k v100 σ) σ fun v101 σ =>
  shut x.most (rGuard false v95 (fun k => rLd v101 σ fun v102 σ =>
  k v102 σ) σ fun v103 σ =>
  shut x.most (rGuard false v95 (fun k => x.C c_ref24_dealings [v99, v103] σ fun v104 σ =>
  k v104 σ) σ fun v105 σ =>
  shut x.most (rGuard false v95 (fun k => unK .not v105 fun v106 =>
  k v106 σ) σ fun v107 σ =>
  shut x.most (rPick v95 (.bool true) v107 fun v108 =>
  shut x.most (rGuard false v108 (fun k => rFld 28 v0 fun v109 =>
  k v109 σ) σ fun v110 σ =>
  shut x.most (rGuard false v108 (fun k => rLd v110 σ fun v111 σ =>
  k v111 σ) σ fun v112 σ =>
  shut x.most (rGuard false v108 (fun k => rFld 28 v1 fun v113 =>
  k v113 σ) σ fun v114 σ =>
  shut x.most (rGuard false v108 (fun k => rLd v114 σ fun v115 σ =>
  k v115 σ) σ fun v116 σ =>
  shut x.most (rGuard false v108 (fun k => x.C c_ref14_Msgs [v112, v116] σ fun v117 σ =>
  k v117 σ) σ fun v118 σ =>
  shut x.most (rGuard false v108 (fun k => unK .not v118 fun v119 =>
  k v119 σ) σ fun v120 σ =>
  shut x.most (rPick v108 (.bool true) v120 fun v121 =>
  shut x.most (rGuard false v121 (fun k => rFld 27 v0 fun v122 =>
  k v122 σ) σ fun v123 σ =>
  shut x.most (rGuard false v121 (fun k => rLd v123 σ fun v124 σ =>
  k v124 σ) σ fun v125 σ =>
  shut x.most (rGuard false v121 (fun k => rLenS v125 fun v126 =>
  k v126 σ) σ fun v127 σ =>
  shut x.most (rGuard false v121 (fun k => rFld 27 v1 fun v128 =>
  k v128 σ) σ fun v129 σ =>
  shut x.most (rGuard false v121 (fun k => rLd v129 σ fun v130 σ =>
  k v130 σ) σ fun v131 σ =>
  shut x.most (rGuard false v121 (fun k => rLenS v131 fun v132 =>
  k v132 σ) σ fun v133 σ =>
  shut x.most (rGuard false v121 (fun k => rBin PP .neq 3 v127 v133 fun v134 =>
  k v134 σ) σ fun v135 σ =>
  shut x.most (rPick v121 (.bool true) v135 fun v136 =>
  rIf v136 (K zF σ) (l_ref24_Same_rrlrd x x.most v0 v1 zI σ K)))))))))))))))))))))))))))))))))))))))))))))))))))))))))))))))))))))))
theorem f_ref24_Same (x : EV) (a0 a1 : Value) (σ : St) (K : VK) : fnX PP tbS c_ref24_Same (x.E PP) [a0, a1] σ K = r_ref24_Same x a0 a1 σ K := by kernel_rfl
noncomputable def l_ref24_Same_rrlrdB (x : EV) (m0 : Nat) (t2 t3 t5 : Value) (σ : St) (K : VK) : Bool :=
  rFld 27 t2 fun v0 =>
  rLd v0 σ fun v1 σ =>
  rLenS v1 fun v2 =>
  rBin PP .lss 3 t5 v2 fun v3 =>
  rIf v3 (rFld 27 t2 fun v4 =>
  rLd v4 σ fun v5 σ =>
  rIdx 3 v5 t5 fun v6 =>
  rFld 0 v6 fun v7 =>
  rLd v7 σ fun v8 σ =>
  rFld 27 t3 fun v9 =>
  rLd v9 σ fun v10 σ =>
  rIdx 3 v10 t5 fun v11 =>
  rFld 0 v11 fun v12 =>
  rLd v12 σ fun v13 σ =>
  rBin PP .neq 3 v8 v13 fun v14 =>
  shut x.most (rGuard false v14 (fun k => rFld 27 t2 fun v15 =>
  k v15 σ) σ fun v16 σ =>
  shut x.most (rGuard false v14 (fun k => rLd v16 σ fun v17 σ =>
  k v17 σ) σ fun v18 σ =>
  shut x.most (rGuard false v14 (fun k => k t5 σ) σ fun v19 σ =>
  shut x.most (rGuard false v14 (fun k => rIdx 3 v18 v19 fun v20 =>
  k v20 σ) σ fun v21 σ =>
  shut x.most (rGuard false v14 (fun k => rFld 1 v21 fun v22 =>
  k v22 σ) σ fun v23 σ =>
  shut x.most (rGuard false v14 (fun k => rLd v23 σ fun v24 σ =>
  k v24 σ) σ fun v25 σ =>
  shut x.most (rGuard false v14 (fun k => rFld 27 t3 fun v26 =>
  k v26 σ) σ fun v27 σ =>
  shut x.most (rGuard false v14 (fun k => rLd v27 σ fun v28 σ =>
  k v28 σ) σ fun v29 σ =>
  shut x.most (rGuard false v14 (fun k => k t5 σ) σ fun v30 σ =>
  shut x.most (rGuard false v14 (fun k => rIdx 3 v29 v30 fun v31 =>
  k v31 σ) σ fun v32 σ =>
  shut x.most (rGuard false v14 (fun k => rFld 1 v32 fun v33 =>
  k v33 σ) σ fun v34 σ =>
  shut x.most (rGuard false v14 (fun k => rLd v34 σ fun v35 σ =>
  k v35 σ) σ fun v36 σ =>
  shut x.most (rGuard false v14 (fun k => rBin PP .neq 3 v25 v36 fun v37 =>
  k v37 σ) σ fun v38 σ =>
  shut x.most (rPick v14 (.bool true) v38 fun v39 =>
  shut x.most (rGuard false v39 (fun k => rFld 27 t2 fun v40 =>
  k v40 σ) σ fun v41 σ =>
  shut x.most (rGuard false v39 (fun k => rLd v41 σ fun v42 σ =>
  k v42 σ) σ fun v43 σ =>
  shut x.most (rGuard false v39 (fun k => k t5 σ) σ fun v44 σ =>
  shut x.most (rGuard false v39 (fun k => rIdx 3 v43 v44 fun v45 =>
  k v45 σ) σ fun v46 σ =>
  shut x.most (rGuard false v39 (fun k => rFld 2 v46 fun v47 =>
  k v47 σ) σ fun v48 σ =>
  shut x.most (rGuard false v39 (fun k => rLd v48 σ fun v49 σ =>
  k v49 σ) σ fun v50 σ =>
  shut x.most (rGuard false v39 (fun k => rFld 27 t3 fun v51 =>
  k v51 σ) σ fun v52 σ =>
  shut x.most (rGuard false v39 (fun k => rLd v52 σ fun v53 σ =>
  k v53 σ) σ fun v54 σ =>
  shut x.most (rGuard false v39 (fun k => k t5 σ) σ fun v55 σ =>
  shut x.most (rGuard false v39 (fun k => rIdx 3 v54 v55 fun v56 =>
  k v56 σ) σ fun v57 σ =>
  shut x.most (rGuard false v39 (fun k => rFld 2 v57 fun v58 =>
  k v58 σ) σ fun v59 σ =>
  shut x.most (rGuard false v39 (fun k => rLd v59 σ fun v60 σ =>
  k v60 σ) σ fun v61 σ =>
  shut x.most (rGuard false v39 (fun k => x.C c_ref08_Nums [v50, v61] σ fun v62 σ =>
  k v62 σ) σ fun v63 σ =>
  shut x.most (rGuardC false v39 v54 (fun k => rLd v52 σ fun v64 σ =>
  rSame v64 v54 k) (shut x.most (rGuardC false v39 v43 (fun k => rLd v41 σ fun v65 σ =>
  rSame v65 v43 k) (shut x.most (rGuardC false v14 v36 (fun k => rLd v34 σ fun v66 σ =>
  rSame v66 v36 k) (shut x.most (rGuardC false v14 v29 (fun k => rLd v27 σ fun v67 σ =>
  rSame v67 v29 k) (shut x.most (rGuardC false v14 v25 (fun k => rLd v23 σ fun v68 σ =>
  rSame v68 v25 k) (shut x.most (rGuardC false v14 v18 (fun k => rLd v16 σ fun v69 σ =>
  rSame v69 v18 k) (rLd v12 σ fun v70 σ =>
  rSame v70 v13 (rLd v9 σ fun v71 σ =>
  rSame v71 v10 (rLd v7 σ fun v72 σ =>
  rSame v72 v8 (rLd v4 σ fun v73 σ =>
  rSame v73 v5 (shut x.most (rGuard false v39 (fun k => unK .not v63 fun v74 =>
  k v74 σ) σ fun v75 σ =>
  shut x.most (rPick v39 (.bool true) v75 fun v76 =>
  rIf v76 (K zF σ) (rBin PP .add 3 t5 (.int .i64 (.ofNat 1)) fun v77 =>
  l_ref24_Same_rrlrd x m0 t2 t3 v77 σ K))))))))))))))))))))))))))))))))))))))))))))))) (K (.bool true) σ)
theorem l_ref24_Same_rrlrdE (x : EV) (m0 : Nat) (t2 t3 t5 : Value) (σ : St) (K : VK) : l_ref24_Same_rrlrd x (m0 + 1) t2 t3 t5 σ K = l_ref24_Same_rrlrdB x m0 t2 t3 t5 σ K := by kernel_rfl

/-! consistory/consistoryref24.Strings -/
noncomputable def l_ref24_Strings_rrlrd (x : EV) (m : Nat) (t0 t1 t5 : Value) (σ : St) (K : VK) : Bool := jmpL PP tbS c_ref24_Strings (x.E PP) [.r, .r, .l, .r, .d] m [] [t0, t1, t5] σ K
noncomputable def r_ref24_Strings (x : EV) (a0 a1 : Value) (σ : St) (K : VK) : Bool :=
  rLenS a0 fun v0 =>
  rLenS a1 fun v1 =>
  rBin PP .neq 3 v0 v1 fun v2 =>
  rIf v2 (K zF σ) (l_ref24_Strings_rrlrd x x.most a0 a1 zI σ K)
theorem f_ref24_Strings (x : EV) (a0 a1 : Value) (σ : St) (K : VK) : fnX PP tbS c_ref24_Strings (x.E PP) [a0, a1] σ K = r_ref24_Strings x a0 a1 σ K := by kernel_rfl
noncomputable def l_ref24_Strings_rrlrdB (x : EV) (m0 : Nat) (t0 t1 t5 : Value) (σ : St) (K : VK) : Bool :=
  rLenS t0 fun v0 =>
  rBin PP .lss 3 t5 v0 fun v1 =>
  rIf v1 (rIdx 1 t0 t5 fun v2 =>
  rLd v2 σ fun v3 σ =>
  rIdx 1 t1 t5 fun v4 =>
  rLd v4 σ fun v5 σ =>
  rBin PP .neq 9 v3 v5 fun v6 =>
  rIf v6 (K zF σ) (rBin PP .add 3 t5 (.int .i64 (.ofNat 1)) fun v7 =>
  l_ref24_Strings_rrlrd x m0 t0 t1 v7 σ K)) (K (.bool true) σ)
theorem l_ref24_Strings_rrlrdE (x : EV) (m0 : Nat) (t0 t1 t5 : Value) (σ : St) (K : VK) : l_ref24_Strings_rrlrd x (m0 + 1) t0 t1 t5 σ K = l_ref24_Strings_rrlrdB x m0 t0 t1 t5 σ K := by kernel_rfl

/-! consistory/consistoryref17.Same -/
noncomputable def l_ref17_Same_rrlrd (x : EV) (m : Nat) (t2 t3 t5 : Value) (σ : St) (K : VK) : Bool := jmpL PP tbS c_ref17_Same (x.E PP) [.r, .r, .l, .r, .d] m [] [t2, t3, t5] σ K
noncomputable def r_ref17_Same (x : EV) (a0 a1 : Value) (σ : St) (K : VK) : Bool :=
  boxK 45 a0 σ fun v0 σ =>
  boxK 45 a1 σ fun v1 σ =>
  rFld 0 v0 fun v2 =>
  rLd v2 σ fun v3 σ =>
  rFld 0 v1 fun v4 =>
  rLd v4 σ fun v5 σ =>
  rBin PP .neq 3 v3 v5 fun v6 =>
  shut x.most (rGuard false v6 (fun k => rFld 1 v0 fun v7 =>
  k v7 σ) σ fun v8 σ =>
  shut x.most (rGuard false v6 (fun k => rLd v8 σ fun v9 σ =>
  k v9 σ) σ fun v10 σ =>
  shut x.most (rGuard false v6 (fun k => rFld 1 v1 fun v11 =>
  k v11 σ) σ fun v12 σ =>
  shut x.most (rGuard false v6 (fun k => rLd v12 σ fun v13 σ =>
  k v13 σ) σ fun v14 σ =>
  shut x.most (rGuard false v6 (fun k => rBin PP .neq 9 v10 v14 fun v15 =>
  k v15 σ) σ fun v16 σ =>
  shut x.most (rPick v6 (.bool true) v16 fun v17 =>
  shut x.most (rGuard false v17 (fun k => rFld 2 v0 fun v18 =>
  k v18 σ) σ fun v19 σ =>
  shut x.most (rGuard false v17 (fun k => rLd v19 σ fun v20 σ =>
  k v20 σ) σ fun v21 σ =>
  shut x.most (rGuard false v17 (fun k => rFld 2 v1 fun v22 =>
  k v22 σ) σ fun v23 σ =>
  shut x.most (rGuard false v17 (fun k => rLd v23 σ fun v24 σ =>
  k v24 σ) σ fun v25 σ =>
  shut x.most (rGuard false v17 (fun k => rBin PP .neq 4 v21 v25 fun v26 =>
  k v26 σ) σ fun v27 σ =>
  shut x.most (rPick v17 (.bool true) v27 fun v28 =>
  shut x.most (rGuard false v28 (fun k => rFld 3 v0 fun v29 =>
  k v29 σ) σ fun v30 σ =>
  shut x.most (rGuard false v28 (fun k => rLdN 15 v30 σ fun v31 σ =>
  k v31 σ) σ fun v32 σ =>
  shut x.most (rGuard false v28 (fun k => rFld 3 v1 fun v33 =>
  k v33 σ) σ fun v34 σ =>
  shut x.most (rGuard false v28 (fun k => rLdN 15 v34 σ fun v35 σ =>
  k v35 σ) σ fun v36 σ =>
  shut x.most (rGuard false v28 (fun k => x.C c_ref16_Same [v32, v36] σ fun v37 σ =>
  k v37 σ) σ fun v38 σ =>
  shut x.most (rGuard false v28 (fun k => unK .not v38 fun v39 =>
  k v39 σ) σ fun v40 σ =>
  shut x.most (rPick v28 (.bool true) v40 fun v41 =>
  shut x.most (rGuard false v41 (fun k => rFld 18 v0 fun v42 =>
  k v42 σ) σ fun v43 σ =>
  shut x.most (rGuard false v41 (fun k => rLd v43 σ fun v44 σ =>
  k v44 σ) σ fun v45 σ =>
  shut x.most (rGuard false v41 (fun k => rLenS v45 fun v46 =>
  k v46 σ) σ fun v47 σ =>
  shut x.most (rGuard false v41 (fun k => rFld 18 v1 fun v48 =>
  k v48 σ) σ fun v49 σ =>
  shut x.most (rGuard false v41 (fun k => rLd v49 σ fun v50 σ =>
  k v50 σ) σ fun v51 σ =>
  shut x.most (rGuard false v41 (fun k => rLenS v51 fun v52 =>
  k v52 σ) σ fun v53 σ =>
  shut x.most (rGuard false v41 (fun k => rBin PP .neq 3 v47 v53 fun v54 =>
  k v54 σ) σ fun v55 σ =>
  shut x.most (rPick v41 (.bool true) v55 fun v56 =>
  shut x.most (rGuard false v56 (fun k => rFld 19 v0 fun v57 =>
  k v57 σ) σ fun v58 σ =>
  shut x.most (rGuard false v56 (fun k => rLd v58 σ fun v59 σ =>
  k v59 σ) σ fun v60 σ =>
  shut x.most (rGuard false v56 (fun k => rFld 19 v1 fun v61 =>
  k v61 σ) σ fun v62 σ =>
  shut x.most (rGuard false v56 (fun k => rLd v62 σ fun v63 σ =>
  k v63 σ) σ fun v64 σ =>
  shut x.most (rGuard false v56 (fun k => x.C c_ref14_Msgs [v60, v64] σ fun v65 σ =>
  k v65 σ) σ fun v66 σ =>
  shut x.most (rGuard false v56 (fun k => unK .not v66 fun v67 =>
  k v67 σ) σ fun v68 σ =>
  shut x.most (rPick v56 (.bool true) v68 fun v69 =>
  rIf v69 (K zF σ) (l_ref17_Same_rrlrd x x.most v0 v1 zI σ K)))))))))))))))))))))))))))))))))))
theorem f_ref17_Same (x : EV) (a0 a1 : Value) (σ : St) (K : VK) : fnX PP tbS c_ref17_Same (x.E PP) [a0, a1] σ K = r_ref17_Same x a0 a1 σ K := by kernel_rfl
noncomputable def l_ref17_Same_rrlrdB (x : EV) (m0 : Nat) (t2 t3 t5 : Value) (σ : St) (K : VK) : Bool :=
  rFld 18 t2 fun v0 =>
  rLd v0 σ fun v1 σ =>
  rLenS v1 fun v2 =>
  rBin PP .lss 3 t5 v2 fun v3 =>
  rIf v3 (rFld 18 t2 fun v4 =>
  rLd v4 σ fun v5 σ =>
  rIdx 2 v5 t5 fun v6 =>
  rLdN 2 v6 σ fun v7 σ =>
  rFld 18 t3 fun v8 =>
  rLd v8 σ fun v9 σ =>
  rIdx 2 v9 t5 fun v10 =>
  rLdN 2 v10 σ fun v11 σ =>
  rBin PP .neq 132 v7 v11 fun v12 =>
  rIf v12 (K zF σ) (rBin PP .add 3 t5 (.int .i64 (.ofNat 1)) fun v13 =>
  l_ref17_Same_rrlrd x m0 t2 t3 v13 σ K)) (K (.bool true) σ)
theorem l_ref17_Same_rrlrdE (x : EV) (m0 : Nat) (t2 t3 t5 : Value) (σ : St) (K : VK) : l_ref17_Same_rrlrd x (m0 + 1) t2 t3 t5 σ K = l_ref17_Same_rrlrdB x m0 t2 t3 t5 σ K := by kernel_rfl

/-! consistory/consistoryref18.Same -/
noncomputable def l_ref18_Same_rrlrd (x : EV) (m : Nat) (t0 t1 t5 : Value) (σ : St) (K : VK) : Bool := jmpL PP tbS c_ref18_Same (x.E PP) [.r, .r, .l, .r, .d] m [] [t0, t1, t5] σ K
noncomputable def r_ref18_Same (x : EV) (a0 a1 : Value) (σ : St) (K : VK) : Bool :=
  rLenS a0 fun v0 =>
  rLenS a1 fun v1 =>
  rBin PP .neq 3 v0 v1 fun v2 =>
  rIf v2 (K zF σ) (l_ref18_Same_rrlrd x x.most a0 a1 zI σ K)
theorem f_ref18_Same (x : EV) (a0 a1 : Value) (σ : St) (K : VK) : fnX PP tbS c_ref18_Same (x.E PP) [a0, a1] σ K = r_ref18_Same x a0 a1 σ K := by kernel_rfl
noncomputable def l_ref18_Same_rrlrdB (x : EV) (m0 : Nat) (t0 t1 t5 : Value) (σ : St) (K : VK) : Bool :=
  rLenS t0 fun v0 =>
  rBin PP .lss 3 t5 v0 fun v1 =>
  rIf v1 (rIdx 2 t0 t5 fun v2 =>
  rLdN 2 v2 σ fun v3 σ =>
  rIdx 2 t1 t5 fun v4 =>
  rLdN 2 v4 σ fun v5 σ =>
  rBin PP .neq 59 v3 v5 fun v6 =>
  rIf v6 (K zF σ) (rBin PP .add 3 t5 (.int .i64 (.ofNat 1)) fun v7 =>
  l_ref18_Same_rrlrd x m0 t0 t1 v7 σ K)) (K (.bool true) σ)
theorem l_ref18_Same_rrlrdE (x : EV) (m0 : Nat) (t0 t1 t5 : Value) (σ : St) (K : VK) : l_ref18_Same_rrlrd x (m0 + 1) t0 t1 t5 σ K = l_ref18_Same_rrlrdB x m0 t0 t1 t5 σ K := by kernel_rfl

/-! consistory/consistoryref24.dealings -/
noncomputable def l_ref24_dealings_rrlrd (x : EV) (m : Nat) (t0 t1 t5 : Value) (σ : St) (K : VK) : Bool := jmpL PP tbS c_ref24_dealings (x.E PP) [.r, .r, .l, .r, .d] m [] [t0, t1, t5] σ K
noncomputable def r_ref24_dealings (x : EV) (a0 a1 : Value) (σ : St) (K : VK) : Bool :=
  rLenS a0 fun v0 =>
  rLenS a1 fun v1 =>
  rBin PP .neq 3 v0 v1 fun v2 =>
  rIf v2 (K zF σ) (l_ref24_dealings_rrlrd x x.most a0 a1 zI σ K)
theorem f_ref24_dealings (x : EV) (a0 a1 : Value) (σ : St) (K : VK) : fnX PP tbS c_ref24_dealings (x.E PP) [a0, a1] σ K = r_ref24_dealings x a0 a1 σ K := by kernel_rfl
noncomputable def l_ref24_dealings_rrlrdB (x : EV) (m0 : Nat) (t0 t1 t5 : Value) (σ : St) (K : VK) : Bool :=
  rLenS t0 fun v0 =>
  rBin PP .lss 3 t5 v0 fun v1 =>
  rIf v1 (rIdx 8 t0 t5 fun v2 =>
  rLdN 8 v2 σ fun v3 σ =>
  rIdx 8 t1 t5 fun v4 =>
  rLdN 8 v4 σ fun v5 σ =>
  x.C c_ref19_Same [v3, v5] σ fun v6 σ =>
  unK .not v6 fun v7 =>
  rIf v7 (K zF σ) (rBin PP .add 3 t5 (.int .i64 (.ofNat 1)) fun v8 =>
  l_ref24_dealings_rrlrd x m0 t0 t1 v8 σ K)) (K (.bool true) σ)
theorem l_ref24_dealings_rrlrdE (x : EV) (m0 : Nat) (t0 t1 t5 : Value) (σ : St) (K : VK) : l_ref24_dealings_rrlrd x (m0 + 1) t0 t1 t5 σ K = l_ref24_dealings_rrlrdB x m0 t0 t1 t5 σ K := by kernel_rfl

/-! consistory/consistoryref14.Msgs -/
noncomputable def l_ref14_Msgs_rrlrd (x : EV) (m : Nat) (t0 t1 t5 : Value) (σ : St) (K : VK) : Bool := jmpL PP tbS c_ref14_Msgs (x.E PP) [.r, .r, .l, .r, .d] m [] [t0, t1, t5] σ K
noncomputable def r_ref14_Msgs (x : EV) (a0 a1 : Value) (σ : St) (K : VK) : Bool :=
  rLenS a0 fun v0 =>
  rLenS a1 fun v1 =>
  rBin PP .neq 3 v0 v1 fun v2 =>
  rIf v2 (K zF σ) (l_ref14_Msgs_rrlrd x x.most a0 a1 zI σ K)
theorem f_ref14_Msgs (x : EV) (a0 a1 : Value) (σ : St) (K : VK) : fnX PP tbS c_ref14_Msgs (x.E PP) [a0, a1] σ K = r_ref14_Msgs x a0 a1 σ K := by kernel_rfl
noncomputable def l_ref14_Msgs_rrlrdB (x : EV) (m0 : Nat) (t0 t1 t5 : Value) (σ : St) (K : VK) : Bool :=
  rLenS t0 fun v0 =>
  rBin PP .lss 3 t5 v0 fun v1 =>
  rIf v1 (rIdx 11 t0 t5 fun v2 =>
  rLdN 11 v2 σ fun v3 σ =>
  rIdx 11 t1 t5 fun v4 =>
  rLdN 11 v4 σ fun v5 σ =>
  x.C c_ref14_Same [v3, v5] σ fun v6 σ =>
  unK .not v6 fun v7 =>
  rIf v7 (K zF σ) (rBin PP .add 3 t5 (.int .i64 (.ofNat 1)) fun v8 =>
  l_ref14_Msgs_rrlrd x m0 t0 t1 v8 σ K)) (K (.bool true) σ)
theorem l_ref14_Msgs_rrlrdE (x : EV) (m0 : Nat) (t0 t1 t5 : Value) (σ : St) (K : VK) : l_ref14_Msgs_rrlrd x (m0 + 1) t0 t1 t5 σ K = l_ref14_Msgs_rrlrdB x m0 t0 t1 t5 σ K := by kernel_rfl

end Go.Am

set_option linter.unusedVariables false
set_option maxRecDepth 100000
namespace Go.Am

/-! consistory/consistoryref08.Nums -/
noncomputable def l_ref08_Nums_rrlrd (x : EV) (m : Nat) (t0 t1 t5 : Value) (σ : St) (K : VK) : Bool := jmpL PP tbS c_ref08_Nums (x.E PP) [.r, .r, .l, .r, .d] m [] [t0, t1, t5] σ K
noncomputable def r_ref08_Nums (x : EV) (a0 a1 : Value) (σ : St) (K : VK) : Bool :=
  rLenS a0 fun v0 =>
  rLenS a1 fun v1 =>
  rBin PP .neq 3 v0 v1 fun v2 =>
  rIf v2 (K zF σ) (l_ref08_Nums_rrlrd x x.most a0 a1 zI σ K)
theorem f_ref08_Nums (x : EV) (a0 a1 : Value) (σ : St) (K : VK) : fnX PP tbS c_ref08_Nums (x.E PP) [a0, a1] σ K = r_ref08_Nums x a0 a1 σ K := by kernel_rfl
noncomputable def l_ref08_Nums_rrlrdB (x : EV) (m0 : Nat) (t0 t1 t5 : Value) (σ : St) (K : VK) : Bool :=
  rLenS t0 fun v0 =>
  rBin PP .lss 3 t5 v0 fun v1 =>
  rIf v1 (rIdx 1 t0 t5 fun v2 =>
  rLd v2 σ fun v3 σ =>
  rIdx 1 t1 t5 fun v4 =>
  rLd v4 σ fun v5 σ =>
  rBin PP .neq 57 v3 v5 fun v6 =>
  rIf v6 (K zF σ) (rBin PP .add 3 t5 (.int .i64 (.ofNat 1)) fun v7 =>
  l_ref08_Nums_rrlrd x m0 t0 t1 v7 σ K)) (K (.bool true) σ)
theorem l_ref08_Nums_rrlrdE (x : EV) (m0 : Nat) (t0 t1 t5 : Value) (σ : St) (K : VK) : l_ref08_Nums_rrlrd x (m0 + 1) t0 t1 t5 σ K = l_ref08_Nums_rrlrdB x m0 t0 t1 t5 σ K := by kernel_rfl

/-! consistory/consistoryref15.Same -/
noncomputable def l_ref15_Same_rrlrd (x : EV) (m : Nat) (t0 t1 t5 : Value) (σ : St) (K : VK) : Bool := jmpL PP tbS c_ref15_Same (x.E PP) [.r, .r, .l, .r, .d] m [] [t0, t1, t5] σ K
noncomputable def r_ref15_Same (x : EV) (a0 a1 : Value) (σ : St) (K : VK) : Bool :=
  rLenS a0 fun v0 =>
  rLenS a1 fun v1 =>
  rBin PP .neq 3 v0 v1 fun v2 =>
  rIf v2 (K zF σ) (l_ref15_Same_rrlrd x x.most a0 a1 zI σ K)
theorem f_ref15_Same (x : EV) (a0 a1 : Value) (σ : St) (K : VK) : fnX PP tbS c_ref15_Same (x.E PP) [a0, a1] σ K = r_ref15_Same x a0 a1 σ K := by kernel_rfl
noncomputable def l_ref15_Same_rrlrdB (x : EV) (m0 : Nat) (t0 t1 t5 : Value) (σ : St) (K : VK) : Bool :=
  rLenS t0 fun v0 =>
  rBin PP .lss 3 t5 v0 fun v1 =>
  rIf v1 (rIdx 5 t0 t5 fun v2 =>
  rLdN 5 v2 σ fun v3 σ =>
  rIdx 5 t1 t5 fun v4 =>
  rLdN 5 v4 σ fun v5 σ =>
  rBin PP .neq 130 v3 v5 fun v6 =>
  rIf v6 (K zF σ) (rBin PP .add 3 t5 (.int .i64 (.ofNat 1)) fun v7 =>
  l_ref15_Same_rrlrd x m0 t0 t1 v7 σ K)) (K (.bool true) σ)
theorem l_ref15_Same_rrlrdE (x : EV) (m0 : Nat) (t0 t1 t5 : Value) (σ : St) (K : VK) : l_ref15_Same_rrlrd x (m0 + 1) t0 t1 t5 σ K = l_ref15_Same_rrlrdB x m0 t0 t1 t5 σ K := by kernel_rfl

/-! consistory/consistoryref08.Lists -/
noncomputable def l_ref08_Lists_rrlrd (x : EV) (m : Nat) (t0 t1 t5 : Value) (σ : St) (K : VK) : Bool := jmpL PP tbS c_ref08_Lists (x.E PP) [.r, .r, .l, .r, .d] m [] [t0, t1, t5] σ K
noncomputable def r_ref08_Lists (x : EV) (a0 a1 : Value) (σ : St) (K : VK) : Bool :=
  rLenS a0 fun v0 =>
  rLenS a1 fun v1 =>
  rBin PP .neq 3 v0 v1 fun v2 =>
  rIf v2 (K zF σ) (l_ref08_Lists_rrlrd x x.most a0 a1 zI σ K)
theorem f_ref08_Lists (x : EV) (a0 a1 : Value) (σ : St) (K : VK) : fnX PP tbS c_ref08_Lists (x.E PP) [a0, a1] σ K = r_ref08_Lists x a0 a1 σ K := by kernel_rfl
noncomputable def l_ref08_Lists_rrlrdB (x : EV) (m0 : Nat) (t0 t1 t5 : Value) (σ : St) (K : VK) : Bool :=
  rLenS t0 fun v0 =>
  rBin PP .lss 3 t5 v0 fun v1 =>
  rIf v1 (rIdx 1 t0 t5 fun v2 =>
  rLd v2 σ fun v3 σ =>
  rIdx 1 t1 t5 fun v4 =>
  rLd v4 σ fun v5 σ =>
  x.C c_ref08_Nums [v3, v5] σ fun v6 σ =>
  unK .not v6 fun v7 =>
  rIf v7 (K zF σ) (rBin PP .add 3 t5 (.int .i64 (.ofNat 1)) fun v8 =>
  l_ref08_Lists_rrlrd x m0 t0 t1 v8 σ K)) (K (.bool true) σ)
theorem l_ref08_Lists_rrlrdE (x : EV) (m0 : Nat) (t0 t1 t5 : Value) (σ : St) (K : VK) : l_ref08_Lists_rrlrd x (m0 + 1) t0 t1 t5 σ K = l_ref08_Lists_rrlrdB x m0 t0 t1 t5 σ K := by kernel_rfl

/-! consistory/consistoryref03.Numbers -/
noncomputable def l_ref03_Numbers_rrlrd (x : EV) (m : Nat) (t0 t1 t5 : Value) (σ : St) (K : VK) : Bool := jmpL PP tbS c_ref03_Numbers (x.E PP) [.r, .r, .l, .r, .d] m [] [t0, t1, t5] σ K
noncomputable def r_ref03_Numbers (x : EV) (a0 a1 : Value) (σ : St) (K : VK) : Bool :=
  rLenS a0 fun v0 =>
  rLenS a1 fun v1 =>
  rBin PP .neq 3 v0 v1 fun v2 =>
  rIf v2 (K zF σ) (l_ref03_Numbers_rrlrd x x.most a0 a1 zI σ K)
theorem f_ref03_Numbers (x : EV) (a0 a1 : Value) (σ : St) (K : VK) : fnX PP tbS c_ref03_Numbers (x.E PP) [a0, a1] σ K = r_ref03_Numbers x a0 a1 σ K := by kernel_rfl
noncomputable def l_ref03_Numbers_rrlrdB (x : EV) (m0 : Nat) (t0 t1 t5 : Value) (σ : St) (K : VK) : Bool :=
  rLenS t0 fun v0 =>
  rBin PP .lss 3 t5 v0 fun v1 =>
  rIf v1 (rIdx 1 t0 t5 fun v2 =>
  rLd v2 σ fun v3 σ =>
  rIdx 1 t1 t5 fun v4 =>
  rLd v4 σ fun v5 σ =>
  rBin PP .neq 57 v3 v5 fun v6 =>
  rIf v6 (K zF σ) (rBin PP .add 3 t5 (.int .i64 (.ofNat 1)) fun v7 =>
  l_ref03_Numbers_rrlrd x m0 t0 t1 v7 σ K)) (K (.bool true) σ)
theorem l_ref03_Numbers_rrlrdE (x : EV) (m0 : Nat) (t0 t1 t5 : Value) (σ : St) (K : VK) : l_ref03_Numbers_rrlrd x (m0 + 1) t0 t1 t5 σ K = l_ref03_Numbers_rrlrdB x m0 t0 t1 t5 σ K := by kernel_rfl

/-! consistory/consistoryref19.tolds -/
noncomputable def l_ref19_tolds_rrlrd (x : EV) (m : Nat) (t0 t1 t5 : Value) (σ : St) (K : VK) : Bool := jmpL PP tbS c_ref19_tolds (x.E PP) [.r, .r, .l, .r, .d] m [] [t0, t1, t5] σ K
noncomputable def r_ref19_tolds (x : EV) (a0 a1 : Value) (σ : St) (K : VK) : Bool :=
  rLenS a0 fun v0 =>
  rLenS a1 fun v1 =>
  rBin PP .neq 3 v0 v1 fun v2 =>
  rIf v2 (K zF σ) (l_ref19_tolds_rrlrd x x.most a0 a1 zI σ K)
theorem f_ref19_tolds (x : EV) (a0 a1 : Value) (σ : St) (K : VK) : fnX PP tbS c_ref19_tolds (x.E PP) [a0, a1] σ K = r_ref19_tolds x a0 a1 σ K := by kernel_rfl
noncomputable def l_ref19_tolds_rrlrdB (x : EV) (m0 : Nat) (t0 t1 t5 : Value) (σ : St) (K : VK) : Bool :=
  rLenS t0 fun v0 =>
  rBin PP .lss 3 t5 v0 fun v1 =>
  rIf v1 (rIdx 2 t0 t5 fun v2 =>
  rFld 0 v2 fun v3 =>
  rLd v3 σ fun v4 σ =>
  rIdx 2 t1 t5 fun v5 =>
  rFld 0 v5 fun v6 =>
  rLd v6 σ fun v7 σ =>
  rBin PP .neq 3 v4 v7 fun v8 =>
  shut x.most (rGuard false v8 (fun k => k t0 σ) σ fun v9 σ =>
  shut x.most (rGuard false v8 (fun k => k t5 σ) σ fun v10 σ =>
  shut x.most (rGuard false v8 (fun k => rIdx 2 v9 v10 fun v11 =>
  k v11 σ) σ fun v12 σ =>
  shut x.most (rGuard false v8 (fun k => rFld 1 v12 fun v13 =>
  k v13 σ) σ fun v14 σ =>
  shut x.most (rGuard false v8 (fun k => rLd v14 σ fun v15 σ =>
  k v15 σ) σ fun v16 σ =>
  shut x.most (rGuard false v8 (fun k => k t1 σ) σ fun v17 σ =>
  shut x.most (rGuard false v8 (fun k => k t5 σ) σ fun v18 σ =>
  shut x.most (rGuard false v8 (fun k => rIdx 2 v17 v18 fun v19 =>
  k v19 σ) σ fun v20 σ =>
  shut x.most (rGuard false v8 (fun k => rFld 1 v20 fun v21 =>
  k v21 σ) σ fun v22 σ =>
  shut x.most (rGuard false v8 (fun k => rLd v22 σ fun v23 σ =>
  k v23 σ) σ fun v24 σ =>
  shut x.most (rGuard false v8 (fun k => x.C c_ref03_Numbers [v16, v24] σ fun v25 σ =>
  k v25 σ) σ fun v26 σ =>
  rLd v6 σ fun v27 σ =>
  rSame v27 v7 (rLd v3 σ fun v28 σ =>
  rSame v28 v4 (shut x.most (rGuard false v8 (fun k => unK .not v26 fun v29 =>
  k v29 σ) σ fun v30 σ =>
  shut x.most (rPick v8 (.bool true) v30 fun v31 =>
  rIf v31 (K zF σ) (rBin PP .add 3 t5 (.int .i64 (.ofNat 1)) fun v32 =>
  l_ref19_tolds_rrlrd x m0 t0 t1 v32 σ K))))))))))))))))) (K (.bool true) σ)
theorem l_ref19_tolds_rrlrdE (x : EV) (m0 : Nat) (t0 t1 t5 : Value) (σ : St) (K : VK) : l_ref19_tolds_rrlrd x (m0 + 1) t0 t1 t5 σ K = l_ref19_tolds_rrlrdB x m0 t0 t1 t5 σ K := by kernel_rfl

end Go.Am

set_option linter.unusedVariables false
set_option maxRecDepth 100000
namespace Go.Am

/-! consistory/consistoryref16.Same -/
noncomputable def r_ref16_Same (x : EV) (a0 a1 : Value) (σ : St) (K : VK) : Bool :=
  boxK 42 a0 σ fun v0 σ =>
  boxK 42 a1 σ fun v1 σ =>
  rFld 0 v0 fun v2 =>
  rLd v2 σ fun v3 σ =>
  rFld 0 v1 fun v4 =>
  rLd v4 σ fun v5 σ =>
  rBin PP .eql 3 v3 v5 fun v6 =>
  shut x.most (rGuard true v6 (fun k => rFld 1 v0 fun v7 =>
  k v7 σ) σ fun v8 σ =>
  shut x.most (rGuard true v6 (fun k => rLd v8 σ fun v9 σ =>
  k v9 σ) σ fun v10 σ =>
  shut x.most (rGuard true v6 (fun k => rFld 1 v1 fun v11 =>
  k v11 σ) σ fun v12 σ =>
  shut x.most (rGuard true v6 (fun k => rLd v12 σ fun v13 σ =>
  k v13 σ) σ fun v14 σ =>
  shut x.most (rGuard true v6 (fun k => rBin PP .eql 3 v10 v14 fun v15 =>
  k v15 σ) σ fun v16 σ =>
  shut x.most (rPick v6 v16 zF fun v17 =>
  shut x.most (rGuard true v17 (fun k => rFld 2 v0 fun v18 =>
  k v18 σ) σ fun v19 σ =>
  shut x.most (rGuard true v17 (fun k => rLd v19 σ fun v20 σ =>
  k v20 σ) σ fun v21 σ =>
  shut x.most (rGuard true v17 (fun k => rFld 2 v1 fun v22 =>
  k v22 σ) σ fun v23 σ =>
  shut x.most (rGuard true v17 (fun k => rLd v23 σ fun v24 σ =>
  k v24 σ) σ fun v25 σ =>
  shut x.most (rGuard true v17 (fun k => rBin PP .eql 3 v21 v25 fun v26 =>
  k v26 σ) σ fun v27 σ =>
  shut x.most (rPick v17 v27 zF fun v28 =>
  shut x.most (rGuard true v28 (fun k => rFld 3 v0 fun v29 =>
  k v29 σ) σ fun v30 σ =>
  shut x.most (rGuard true v28 (fun k => rLd v30 σ fun v31 σ =>
  k v31 σ) σ fun v32 σ =>
  shut x.most (rGuard true v28 (fun k => rFld 3 v1 fun v33 =>
  k v33 σ) σ fun v34 σ =>
  shut x.most (rGuard true v28 (fun k => rLd v34 σ fun v35 σ =>
  k v35 σ) σ fun v36 σ =>
  shut x.most (rGuard true v28 (fun k => rBin PP .eql 3 v32 v36 fun v37 =>
  k v37 σ) σ fun v38 σ =>
  shut x.most (rPick v28 v38 zF fun v39 =>
  shut x.most (rGuard true v39 (fun k => rFld 4 v0 fun v40 =>
  k v40 σ) σ fun v41 σ =>
  shut x.most (rGuard true v39 (fun k => rLd v41 σ fun v42 σ =>
  k v42 σ) σ fun v43 σ =>
  shut x.most (rGuard true v39 (fun k => rFld 4 v1 fun v44 =>
  k v44 σ) σ fun v45 σ =>
  shut x.most (rGuard true v39 (fun k => rLd v45 σ fun v46 σ =>
  k v46 σ) σ fun v47 σ =>
  shut x.most (rGuard true v39 (fun k => rBin PP .eql 3 v43 v47 fun v48 =>
  k v48 σ) σ fun v49 σ =>
  shut x.most (rPick v39 v49 zF fun v50 =>
  shut x.most (rGuard true v50 (fun k => rFld 5 v0 fun v51 =>
  k v51 σ) σ fun v52 σ =>
  shut x.most (rGuard true v50 (fun k => rLd v52 σ fun v53 σ =>
  k v53 σ) σ fun v54 σ =>
  shut x.most (rGuard true v50 (fun k => rFld 5 v1 fun v55 =>
  k v55 σ) σ fun v56 σ =>
  shut x.most (rGuard true v50 (fun k => rLd v56 σ fun v57 σ =>
  k v57 σ) σ fun v58 σ =>
  shut x.most (rGuard true v50 (fun k => rBin PP .eql 3 v54 v58 fun v59 =>
  k v59 σ) σ fun v60 σ =>
  shut x.most (rPick v50 v60 zF fun v61 =>
  shut x.most (rGuard true v61 (fun k => rFld 6 v0 fun v62 =>
  k v62 σ) σ fun v63 σ =>
  shut x.most (rGuard true v61 (fun k => rLd v63 σ fun v64 σ =>
  k v64 σ) σ fun v65 σ =>
  shut x.most (rGuard true v61 (fun k => rFld 6 v1 fun v66 =>
  k v66 σ) σ fun v67 σ =>
  shut x.most (rGuard true v61 (fun k => rLd v67 σ fun v68 σ =>
  k v68 σ) σ fun v69 σ =>
  shut x.most (rGuard true v61 (fun k => rBin PP .eql 3 v65 v69 fun v70 =>
  k v70 σ) σ fun v71 σ =>
  shut x.most (rPick v61 v71 zF fun v72 =>
  shut x.most (rGuard true v72 (fun k => rFld 7 v0 fun v73 =>
  k v73 σ) σ fun v74 σ =>
  shut x.most (rGuard true v72 (fun k => rLd v74 σ fun v75 σ =>
  k v75 σ) σ fun v76 σ =>
  shut x.most (rGuard true v72 (fun k => rFld 7 v1 fun v77 =>
  k v77 σ) σ fun v78 σ =>
  shut x.most (rGuard true v72 (fun k => rLd v78 σ fun v79 σ =>
  k v79 σ) σ fun v80 σ =>
  shut x.most (rGuard true v72 (fun k => rBin PP .eql 9 v76 v80 fun v81 =>
  k v81 σ) σ fun v82 σ =>
  shut x.most (rPick v72 v82 zF fun v83 =>
  shut x.most (rGuard true v83 (fun k => rFld 8 v0 fun v84 =>
  k v84 σ) σ fun v85 σ =>
  shut x.most (rGuard true v83 (fun k => rLd v85 σ fun v86 σ =>
  k v86 σ) σ fun v87 σ =>
  shut x.most (rGuard true v83 (fun k => rFld 8 v1 fun v88 =>
  k v88 σ) σ fun v89 σ =>
  shut x.most (rGuard true v83 (fun k => rLd v89 σ fun v90 σ =>
  k v90 σ) σ fun v91 σ =>
  shut x.most (rGuard true v83 (fun k => rBin PP .eql 9 v87 v91 fun v92 =>
  k v92 σ) σ fun v93 σ =>
  shut x.most (rPick v83 v93 zF fun v94 =>
  shut x.most (rGuard true v94 (fun k => rFld 9 v0 fun v95 =>
  k v95 σ) σ fun v96 σ =>
  shut x.most (rGuard true v94 (fun k => rLd v96 σ fun v97 σ =>
  k v97 σ) σ fun v98 σ =>
  shut x.most (rGuard true v94 (fun k => rFld 9 v1 fun v99 =>
  k v99 σ) σ fun v100 σ =>
  shut x.most (rGuard true v94 (fun k => rLd v100 σ fun v101 σ =>
  k v101 σ) σ fun v102 σ =>
  shut x.most (rGuard true v94 (fun k => rBin PP .eql 3 v98 v102 fun v103 =>
  k v103 σ) σ fun v104 σ =>
  shut x.most (rPick v94 v104 zF fun v105 =>
  shut x.most (rGuard true v105 (fun k => rFld 10 v0 fun v106 =>
  k v106 σ) σ fun v107 σ =>
  shut x.most (rGuard true v105 (fun k => rLd v107 σ fun v108 σ =>
  k v108 σ) σ fun v109 σ =>
  shut x.most (rGuard true v105 (fun k => rFld 10 v1 fun v110 =>
  k v110 σ) σ fun v111 σ =>
  shut x.most (rGuard true v105 (fun k => rLd v111 σ fun v112 σ =>
  k v112 σ) σ fun v113 σ =>
  shut x.most (rGuard true v105 (fun k => rBin PP .eql 3 v109 v113 fun v114 =>
  k v114 σ) σ fun v115 σ =>
  shut x.most (rPick v105 v115 zF fun v116 =>
  shut x.most (rGuard true v116 (fun k => rFld 11 v0 fun v117 =>
  k v117 σ) σ fun v118 σ =>
  shut x.most (rGuard true v116 (fun k => rLd v118 σ fun v119 σ =>
  k v119 σ) σ fun v120 σ =>
  shut x.most (rGuard true v116 (fun k => rFld 11 v1 fun v121 =>
  k v121 σ) σ fun v122 σ =>
  shut x.most (rGuard true v116 (fun k => rLd v122 σ fun v123 σ =>
  k v123 σ) σ fun v124 σ =>
  shut x.most (rGuard true v116 (fun k => rBin PP .eql 4 v120 v124 fun v125 =>
  k v125 σ) σ fun v126 σ =>
  shut x.most (rPick v116 v126 zF fun v127 =>
  shut x.most (rGuard true v127 (fun k => rFld 12 v0 fun v128 =>
  k v128 σ) σ fun v129 σ =>
  shut x.most (rGuard true v127 (fun k => rLd v129 σ fun v130 σ =>
  k v130 σ) σ fun v131 σ =>
  shut x.most (rGuard true v127 (fun k => rFld 12 v1 fun v132 =>
  k v132 σ) σ fun v133 σ =>
  shut x.most (rGuard true v127 (fun k => rLd v133 σ fun v134 σ =>
  k v134 σ) σ fun v135 σ =>
  shut x.most (rGuard true v127 (fun k => rBin PP .eql 4 v131 v135 fun v136 =>
  k v136 σ) σ fun v137 σ =>
  shut x.most (rPick v127 v137 zF fun v138 =>
  shut x.most (rGuard true v138 (fun k => rFld 13 v0 fun v139 =>
  k v139 σ) σ fun v140 σ =>
  shut x.most (rGuard true v138 (fun k => rLd v140 σ fun v141 σ =>
  k v141 σ) σ fun v142 σ =>
  shut x.most (rGuard true v138 (fun k => rFld 13 v1 fun v143 =>
  k v143 σ) σ fun v144 σ =>
  shut x.most (rGuard true v138 (fun k => rLd v144 σ fun v145 σ =>
  k v145 σ) σ fun v146 σ =>
  shut x.most (rGuard true v138 (fun k => rBin PP .eql 9 v142 v146 fun v147 =>
  k v147 σ) σ fun v148 σ =>
  shut x.most (rPick v138 v148 zF fun v149 =>
  shut x.most (rGuard true v149 (fun k => rFld 14 v0 fun v150 =>
  k v150 σ) σ fun v151 σ =>
  shut x.most (rGuard true v149 (fun k => rLd v151 σ fun v152 σ =>
  k v152 σ) σ fun v153 σ =>
  shut x.most (rGuard true v149 (fun k => rFld 14 v1 fun v154 =>
  k v154 σ) σ fun v155 σ =>
  shut x.most (rGuard true v149 (fun k => rLd v155 σ fun v156 σ =>
  k v156 σ) σ fun v157 σ =>
  shut x.most (rGuard true v149 (fun k => x.C c_ref15_Same [v153, v157] σ fun v158 σ =>
  k v158 σ) σ fun v159 σ =>
  shut x.most (rPick v149 v159 zF fun v160 =>
  K v160 σ))))))))))))))))))))))))))))))))))))))))))))))))))))))))))))))))))))))))))))))))))))
theorem f_ref16_Same (x : EV) (a0 a1 : Value) (σ : St) (K : VK) : fnX PP tbS c_ref16_Same (x.E PP) [a0, a1] σ K = r_ref16_Same x a0 a1 σ K := by kernel_rfl

end Go.Am

set_option linter.unusedVariables false
set_option maxRecDepth 100000
namespace Go.Am

/-! consistory/consistoryref19.Same -/
noncomputable def r_ref19_Same (x : EV) (a0 a1 : Value) (σ : St) (K : VK) : Bool :=
  boxK 137 a0 σ fun v0 σ =>
  boxK 137 a1 σ fun v1 σ =>
  rFld 0 v0 fun v2 =>
  rLd v2 σ fun v3 σ =>
  rFld 0 v1 fun v4 =>
  rLd v4 σ fun v5 σ =>
  rBin PP .eql 3 v3 v5 fun v6 =>
  shut x.most (rGuard true v6 (fun k => rFld 1 v0 fun v7 =>
  k v7 σ) σ fun v8 σ =>
  shut x.most (rGuard true v6 (fun k => rLd v8 σ fun v9 σ =>
  k v9 σ) σ fun v10 σ =>
  shut x.most (rGuard true v6 (fun k => rFld 1 v1 fun v11 =>
  k v11 σ) σ fun v12 σ =>
  shut x.most (rGuard true v6 (fun k => rLd v12 σ fun v13 σ =>
  k v13 σ) σ fun v14 σ =>
  shut x.most (rGuard true v6 (fun k => rBin PP .eql 3 v10 v14 fun v15 =>
  k v15 σ) σ fun v16 σ =>
  shut x.most (rPick v6 v16 zF fun v17 =>
  shut x.most (rGuard true v17 (fun k => rFld 2 v0 fun v18 =>
  k v18 σ) σ fun v19 σ =>
  shut x.most (rGuard true v17 (fun k => rLd v19 σ fun v20 σ =>
  k v20 σ) σ fun v21 σ =>
  shut x.most (rGuard true v17 (fun k => rFld 2 v1 fun v22 =>
  k v22 σ) σ fun v23 σ =>
  shut x.most (rGuard true v17 (fun k => rLd v23 σ fun v24 σ =>
  k v24 σ) σ fun v25 σ =>
  shut x.most (rGuard true v17 (fun k => x.C c_ref08_Lists [v21, v25] σ fun v26 σ =>
  k v26 σ) σ fun v27 σ =>
  shut x.most (rPick v17 v27 zF fun v28 =>
  shut x.most (rGuard true v28 (fun k => rFld 3 v0 fun v29 =>
  k v29 σ) σ fun v30 σ =>
  shut x.most (rGuard true v28 (fun k => rLd v30 σ fun v31 σ =>
  k v31 σ) σ fun v32 σ =>
  shut x.most (rGuard true v28 (fun k => rFld 3 v1 fun v33 =>
  k v33 σ) σ fun v34 σ =>
  shut x.most (rGuard true v28 (fun k => rLd v34 σ fun v35 σ =>
  k v35 σ) σ fun v36 σ =>
  shut x.most (rGuard true v28 (fun k => x.C c_ref03_Numbers [v32, v36] σ fun v37 σ =>
  k v37 σ) σ fun v38 σ =>
  shut x.most (rPick v28 v38 zF fun v39 =>
  shut x.most (rGuard true v39 (fun k => rFld 4 v0 fun v40 =>
  k v40 σ) σ fun v41 σ =>
  shut x.most (rGuard true v39 (fun k => rLd v41 σ fun v42 σ =>
  k v42 σ) σ fun v43 σ =>
  shut x.most (rGuard true v39 (fun k => rFld 4 v1 fun v44 =>
  k v44 σ) σ fun v45 σ =>
  shut x.most (rGuard true v39 (fun k => rLd v45 σ fun v46 σ =>
  k v46 σ) σ fun v47 σ =>
  shut x.most (rGuard true v39 (fun k => x.C c_ref19_tolds [v43, v47] σ fun v48 σ =>
  k v48 σ) σ fun v49 σ =>
  shut x.most (rPick v39 v49 zF fun v50 =>
  shut x.most (rGuard true v50 (fun k => rFld 5 v0 fun v51 =>
  k v51 σ) σ fun v52 σ =>
  shut x.most (rGuard true v50 (fun k => rLd v52 σ fun v53 σ =>
  k v53 σ) σ fun v54 σ =>
  shut x.most (rGuard true v50 (fun k => rFld 5 v1 fun v55 =>
  k v55 σ) σ fun v56 σ =>
  shut x.most (rGuard true v50 (fun k => rLd v56 σ fun v57 σ =>
  k v57 σ) σ fun v58 σ =>
  shut x.most (rGuard true v50 (fun k => x.C c_ref19_tolds [v54, v58] σ fun v59 σ =>
  k v59 σ) σ fun v60 σ =>
  shut x.most (rPick v50 v60 zF fun v61 =>
  shut x.most (rGuard true v61 (fun k => rFld 6 v0 fun v62 =>
  k v62 σ) σ fun v63 σ =>
  shut x.most (rGuard true v61 (fun k => rLd v63 σ fun v64 σ =>
  k v64 σ) σ fun v65 σ =>
  shut x.most (rGuard true v61 (fun k => rFld 6 v1 fun v66 =>
  k v66 σ) σ fun v67 σ =>
  shut x.most (rGuard true v61 (fun k => rLd v67 σ fun v68 σ =>
  k v68 σ) σ fun v69 σ =>
  shut x.most (rGuard true v61 (fun k => x.C c_ref03_Numbers [v65, v69] σ fun v70 σ =>
  k v70 σ) σ fun v71 σ =>
  shut x.most (rPick v61 v71 zF fun v72 =>
  shut x.most (rGuard true v72 (fun k => rFld 7 v0 fun v73 =>
  k v73 σ) σ fun v74 σ =>
  shut x.most (rGuard true v72 (fun k => rLd v74 σ fun v75 σ =>
  k v75 σ) σ fun v76 σ =>
  shut x.most (rGuard true v72 (fun k => rFld 7 v1 fun v77 =>
  k v77 σ) σ fun v78 σ =>
  shut x.most (rGuard true v72 (fun k => rLd v78 σ fun v79 σ =>
  k v79 σ) σ fun v80 σ =>
  shut x.most (rGuard true v72 (fun k => rBin PP .eql 4 v76 v80 fun v81 =>
  k v81 σ) σ fun v82 σ =>
  shut x.most (rPick v72 v82 zF fun v83 =>
  K v83 σ))))))))))))))))))))))))))))))))))))))))))
theorem f_ref19_Same (x : EV) (a0 a1 : Value) (σ : St) (K : VK) : fnX PP tbS c_ref19_Same (x.E PP) [a0, a1] σ K = r_ref19_Same x a0 a1 σ K := by kernel_rfl

end Go.Am

set_option linter.unusedVariables false
set_option maxRecDepth 100000
namespace Go.Am

/-! consistory/consistoryref14.Same -/
noncomputable def l_ref14_Same_rrlrd (x : EV) (m : Nat) (t2 t3 t5 : Value) (σ : St) (K : VK) : Bool := jmpL PP tbS c_ref14_Same (x.E PP) [.r, .r, .l, .r, .d] m [] [t2, t3, t5] σ K
noncomputable def r_ref14_Same (x : EV) (a0 a1 : Value) (σ : St) (K : VK) : Bool :=
  boxK 62 a0 σ fun v0 σ =>
  boxK 62 a1 σ fun v1 σ =>
  rFld 0 v0 fun v2 =>
  rLd v2 σ fun v3 σ =>
  rFld 0 v1 fun v4 =>
  rLd v4 σ fun v5 σ =>
  rBin PP .neq 5 v3 v5 fun v6 =>
  shut x.most (rGuard false v6 (fun k => rFld 1 v0 fun v7 =>
  k v7 σ) σ fun v8 σ =>
  shut x.most (rGuard false v6 (fun k => rLd v8 σ fun v9 σ =>
  k v9 σ) σ fun v10 σ =>
  shut x.most (rGuard false v6 (fun k => rFld 1 v1 fun v11 =>
  k v11 σ) σ fun v12 σ =>
  shut x.most (rGuard false v6 (fun k => rLd v12 σ fun v13 σ =>
  k v13 σ) σ fun v14 σ =>
  shut x.most (rGuard false v6 (fun k => rBin PP .neq 3 v10 v14 fun v15 =>
  k v15 σ) σ fun v16 σ =>
  shut x.most (rPick v6 (.bool true) v16 fun v17 =>
  shut x.most (rGuard false v17 (fun k => rFld 2 v0 fun v18 =>
  k v18 σ) σ fun v19 σ =>
  shut x.most (rGuard false v17 (fun k => rLd v19 σ fun v20 σ =>
  k v20 σ) σ fun v21 σ =>
  shut x.most (rGuard false v17 (fun k => rFld 2 v1 fun v22 =>
  k v22 σ) σ fun v23 σ =>
  shut x.most (rGuard false v17 (fun k => rLd v23 σ fun v24 σ =>
  k v24 σ) σ fun v25 σ =>
  shut x.most (rGuard false v17 (fun k => rBin PP .neq 3 v21 v25 fun v26 =>
  k v26 σ) σ fun v27 σ =>
  shut x.most (rPick v17 (.bool true) v27 fun v28 =>
  shut x.most (rGuard false v28 (fun k => rFld 3 v0 fun v29 =>
  k v29 σ) σ fun v30 σ =>
  shut x.most (rGuard false v28 (fun k => rLd v30 σ fun v31 σ =>
  k v31 σ) σ fun v32 σ =>
  shut x.most (rGuard false v28 (fun k => rFld 3 v1 fun v33 =>
  k v33 σ) σ fun v34 σ =>
  shut x.most (rGuard false v28 (fun k => rLd v34 σ fun v35 σ =>
  k v35 σ) σ fun v36 σ =>
  shut x.most (rGuard false v28 (fun k => rBin PP .neq 3 v32 v36 fun v37 =>
  k v37 σ) σ fun v38 σ =>
  shut x.most (rPick v28 (.bool true) v38 fun v39 =>
  shut x.most (rGuard false v39 (fun k => rFld 4 v0 fun v40 =>
  k v40 σ) σ fun v41 σ =>
  shut x.most (rGuard false v39 (fun k => rLd v41 σ fun v42 σ =>
  k v42 σ) σ fun v43 σ =>
  shut x.most (rGuard false v39 (fun k => rFld 4 v1 fun v44 =>
  k v44 σ) σ fun v45 σ =>
  shut x.most (rGuard false v39 (fun k => rLd v45 σ fun v46 σ =>
  k v46 σ) σ fun v47 σ =>
  shut x.most (rGuard false v39 (fun k => rBin PP .neq 3 v43 v47 fun v48 =>
  k v48 σ) σ fun v49 σ =>
  shut x.most (rPick v39 (.bool true) v49 fun v50 =>
  shut x.most (rGuard false v50 (fun k => rFld 5 v0 fun v51 =>
  k v51 σ) σ fun v52 σ =>
  shut x.most (rGuard false v50 (fun k => rLd v52 σ fun v53 σ =>
  k v53 σ) σ fun v54 σ =>
  shut x.most (rGuard false v50 (fun k => rFld 5 v1 fun v55 =>
  k v55 σ) σ fun v56 σ =>
  shut x.most (rGuard false v50 (fun k => rLd v56 σ fun v57 σ =>
  k v57 σ) σ fun v58 σ =>
  shut x.most (rGuard false v50 (fun k => rBin PP .neq 3 v54 v58 fun v59 =>
  k v59 σ) σ fun v60 σ =>
  shut x.most (rPick v50 (.bool true) v60 fun v61 =>
  shut x.most (rGuard false v61 (fun k => rFld 6 v0 fun v62 =>
  k v62 σ) σ fun v63 σ =>
  shut x.most (rGuard false v61 (fun k => rLd v63 σ fun v64 σ =>
  k v64 σ) σ fun v65 σ =>
  shut x.most (rGuard false v61 (fun k => rFld 6 v1 fun v66 =>
  k v66 σ) σ fun v67 σ =>
  shut x.most (rGuard false v61 (fun k => rLd v67 σ fun v68 σ =>
  k v68 σ) σ fun v69 σ =>
  shut x.most (rGuard false v61 (fun k => rBin PP .neq 3 v65 v69 fun v70 =>
  k v70 σ) σ fun v71 σ =>
  shut x.most (rPick v61 (.bool true) v71 fun v72 =>
  shut x.most (rGuard false v72 (fun k => rFld 7 v0 fun v73 =>
  k v73 σ) σ fun v74 σ =>
  shut x.most (rGuard false v72 (fun k => rLd v74 σ fun v75 σ =>
  k v75 σ) σ fun v76 σ =>
  shut x.most (rGuard false v72 (fun k => rFld 7 v1 fun v77 =>
  k v77 σ) σ fun v78 σ =>
  shut x.most (rGuard false v72 (fun k => rLd v78 σ fun v79 σ =>
  k v79 σ) σ fun v80 σ =>
  shut x.most (rGuard false v72 (fun k => rBin PP .neq 3 v76 v80 fun v81 =>
  k v81 σ) σ fun v82 σ =>
  shut x.most (rPick v72 (.bool true) v82 fun v83 =>
  shut x.most (rGuard false v83 (fun k => rFld 8 v0 fun v84 =>
  k v84 σ) σ fun v85 σ =>
  shut x.most (rGuard false v83 (fun k => rLd v85 σ fun v86 σ =>
  k v86 σ) σ fun v87 σ =>
  shut x.most (rGuard false v83 (fun k => rFld 8 v1 fun v88 =>
  k v88 σ) σ fun v89 σ =>
  shut x.most (rGuard false v83 (fun k => rLd v89 σ fun v90 σ =>
  k v90 σ) σ fun v91 σ =>
  shut x.most (rGuard false v83 (fun k => rBin PP .neq 3 v87 v91 fun v92 =>
  k v92 σ) σ fun v93 σ =>
  shut x.most (rPick v83 (.bool true) v93 fun v94 =>
  shut x.most (rGuard false v94 (fun k => rFld 9 v0 fun v95 =>
  k v95 σ) σ fun v96 σ =>
  shut x.most (rGuard false v94 (fun k => rLd v96 σ fun v97 σ =>
  k v97 σ) σ fun v98 σ =>
  shut x.most (rGuard false v94 (fun k => rFld 9 v1 fun v99 =>
  k v99 σ) σ fun v100 σ =>
  shut x.most (rGuard false v94 (fun k => rLd v100 σ fun v101 σ =>
  k v101 σ) σ fun v102 σ =>
  shut x.most (rGuard false v94 (fun k => rBin PP .neq 9 v98 v102 fun v103 =>
  k v103 σ) σ fun v104 σ =>
  shut x.most (rPick v94 (.bool true) v104 fun v105 =>
  shut x.most (rGuard false v105 (fun k => rFld 10 v0 fun v106 =>
  k v106 σ) σ fun v107 σ =>
  shut x.most (rGuard false v105 (fun k => rLd v107 σ fun v108 σ =>
  k v108 σ) σ fun v109 σ =>
  shut x.most (rGuard false v105 (fun k => rLenS v109 fun v110 =>
  k v110 σ) σ fun v111 σ =>
  shut x.most (rGuard false v105 (fun k => rFld 10 v1 fun v112 =>
  k v112 σ) σ fun v113 σ =>
  shut x.most (rGuard false v105 (fun k => rLd v113 σ fun v114 σ =>
  k v114 σ) σ fun v115 σ =>
  shut x.most (rGuard false v105 (fun k => rLenS v115 fun v116 =>
  k v116 σ) σ fun v117 σ =>
  shut x.most (rGuard false v105 (fun k => rBin PP .neq 3 v111 v117 fun v118 =>
  k v118 σ) σ fun v119 σ =>
  shut x.most (rPick v105 (.bool true) v119 fun v120 =>
  rIf v120 (K zF σ) (l_ref14_Same_rrlrd x x.most v0 v1 zI σ K)))))))))))))))))))))))))))))))))))))))))))))))))))))))))))))))
theorem f_ref14_Same (x : EV) (a0 a1 : Value) (σ : St) (K : VK) : fnX PP tbS c_ref14_Same (x.E PP) [a0, a1] σ K = r_ref14_Same x a0 a1 σ K := by kernel_rfl
noncomputable def l_ref14_Same_rrlrdB (x : EV) (m0 : Nat) (t2 t3 t5 : Value) (σ : St) (K : VK) : Bool :=
  rFld 10 t2 fun v0 =>
  rLd v0 σ fun v1 σ =>
  rLenS v1 fun v2 =>
  rBin PP .lss 3 t5 v2 fun v3 =>
  rIf v3 (rFld 10 t2 fun v4 =>
  rLd v4 σ fun v5 σ =>
  rIdx 1 v5 t5 fun v6 =>
  rLd v6 σ fun v7 σ =>
  rFld 10 t3 fun v8 =>
  rLd v8 σ fun v9 σ =>
  rIdx 1 v9 t5 fun v10 =>
  rLd v10 σ fun v11 σ =>
  rBin PP .neq 57 v7 v11 fun v12 =>
  rIf v12 (K zF σ) (rBin PP .add 3 t5 (.int .i64 (.ofNat 1)) fun v13 =>
  l_ref14_Same_rrlrd x m0 t2 t3 v13 σ K)) (K (.bool true) σ)
theorem l_ref14_Same_rrlrdE (x : EV) (m0 : Nat) (t2 t3 t5 : Value) (σ : St) (K : VK) : l_ref14_Same_rrlrd x (m0 + 1) t2 t3 t5 σ K = l_ref14_Same_rrlrdB x m0 t2 t3 t5 σ K := by kernel_rfl

end Go.Am

namespace Go.Am
open Go.RowKit Go.MapKept Go.Proofs Go.Proofs.Rdr
variable {most : Nat}
theorem rGuardC_ft (op : Bool → Bool) (k : Bool) : rGuardC false (.bool true) undef op k = k := rfl
theorem rGuardC_ff (u : Value) (op : Bool → Bool) (k : Bool) : rGuardC false zF u op k = op k := rfl
theorem eqD_refl (d : D) : eqD d d = true := (eqD_iff d d).2 rfl
theorem eqL_refl (d : List D) : eqL d d = true := (eqL_iff d d).2 rfl
theorem eqLL_refl (d : List (List D)) : eqLL d d = true := (eqLL_iff d d).2 rfl
theorem ats_ext {da db : List D} {n : Nat} (h1 : da.length = n) (h2 : db.length = n) (h : ∀ j, j < n → ats da j = ats db j) : da = db := by
  apply List.ext_getElem (by omega)
  intro j a b
  have := h j (by omega)
  unfold ats at this
  rw [List.getElem?_eq_getElem a, List.getElem?_eq_getElem b] at this
  exact this
theorem two_boxes {σ : St} {C C' : Nat → Prop} {its : List It} {va vb : List Value} {da db : List D} (ha : RdA σ C its va da) (hb : RdA σ C' its vb db) (t : TypeId) {g : Value → Value → St → Bool}
    (h : ∀ (b1 b2 : Nat) (σ2 : St), Ext' σ σ2 → Stc σ2 (fun _ => False) its b1 0 da → Stc σ2 (fun _ => False) its b2 0 db → g (pt b1 0) (pt b2 0) σ2 = true) :
    boxK t (.agg ⟨va⟩) σ (fun v0 σ => boxK t (.agg ⟨vb⟩) σ fun v1 σ => g v0 v1 σ) = true := by
  rw [boxK_agg (List.all_eq_true.2 ha.one), boxK_agg (List.all_eq_true.2 hb.one)]
  have x1 := Ext'.new σ (.cells va t .exact)
  have x2 := Ext'.new (σ.new (.cells va t .exact)) (.cells vb t .exact)
  exact h _ _ _ (x1.trans x2) ((ha.stc t).fr ⟨x2.n, fun i hi _ => x2.same i hi, fun _ h => .inl h⟩) ((hb.fr (x1.fr _)).stc t)
theorem Stc.val0 {σ : St} {C : Nat → Prop} {its : List It} {b : Nat} {ds : List D} (h : Stc σ C its b 0 ds) (j : Nat) {it : It} (hj : its[j]? = some it) : ∃ v, Rd σ C it v (ats ds j) ∧ ∀ σ', Ext' σ σ' → ∀ K, rLd (pt b j) σ' K = K v σ' := by
  obtain ⟨v, hv, hl⟩ := h.val' j hj
  exact ⟨v, hv, fun σ' hx K => by have := hl σ' hx K; rwa [Nat.zero_add] at this⟩
theorem Stc.list0 {σ : St} {C : Nat → Prop} {its its' : List It} {b : Nat} {ds : List D} (h : Stc σ C its b 0 ds) (j : Nat) (hj : its[j]? = some (.list its')) : ∃ v, Rd σ C (.list its') v (.l (esOf (ats ds j))) ∧ (∀ σ', Ext' σ σ' → ∀ K, rLd (pt b j) σ' K = K v σ') ∧ ats ds j = .l (esOf (ats ds j)) := by
  obtain ⟨v, hv, hl⟩ := h.val0 j hj
  have e := esOf_eq hv
  exact ⟨v, by rw [← e]; exact hv, hl, e⟩
theorem Stc.nums0 {σ : St} {C : Nat → Prop} {its : List It} {b : Nat} {ds : List D} (h : Stc σ C its b 0 ds) (j : Nat) (hj : its[j]? = some .nums) : ∃ v, Rd σ C (.list [.num]) v (.l (esOf (ats ds j))) ∧ (∀ σ', Ext' σ σ' → ∀ K, rLd (pt b j) σ' K = K v σ') ∧ ats ds j = .l (esOf (ats ds j)) := by
  obtain ⟨v, hv, hl⟩ := h.val0 j hj
  have hv' : ∃ es, ats ds j = .l es ∧ Rd σ C (.list [.num]) v (.l es) := by
    generalize hd : ats ds j = d at hv
    cases hv with | nums h => exact ⟨_, rfl, h⟩
  obtain ⟨es, e, hr⟩ := hv'
  rw [e]
  exact ⟨v, hr, hl, rfl⟩
theorem part_eq {da db : List D} {k m n : Nat} (h1 : da.length = n) (h2 : db.length = n) (h : (da.drop k).take m = (db.drop k).take m) (i : Nat) (hi : i < m) (hn : k + i < n) : ats da (k + i) = ats db (k + i) := by
  have := congrArg (fun l => l[i]?) h
  simp only [List.getElem?_take, if_pos hi, List.getElem?_drop] at this
  unfold ats; rw [this]

theorem cmp_ref08_Nums_loop (hM : 140737488355328 < most) {n : Nat} {σ : St} {C C' : Nat → Prop} {a b : Value} {es fs : List (List D)} {K : VK} (ha : Rd σ C (.list [.num]) a (.l es)) (hb : Rd σ C' (.list [.num]) b (.l fs)) (he : es.length = fs.length) :
    ∀ (r i m : Nat) (σ' : St), i + r = es.length → r < m → Ext' σ σ' → (∀ σ2, Ext' σ σ2 → K (.bool (eqLL (es.drop i) (fs.drop i))) σ2 = true) → l_ref08_Nums_rrlrd (X most (n + 0)) m a b (.int .i64 (.ofNat i)) σ' K = true := by
  obtain ⟨hN, hlen⟩ := ha.listL
  have hN : es.length ≤ 140737488355328 := hN
  intro r
  induction r with
  | zero =>
    intro i m σ' hi hm hx hK
    obtain ⟨m, rfl⟩ := Nat.exists_eq_succ_of_ne_zero (show m ≠ 0 by omega)
    rw [l_ref08_Nums_rrlrdE]
    unfold l_ref08_Nums_rrlrdB
    rw [hlen, rBin_lssN, show decide (i < lenL (.l es)) = false from decide_eq_false (show ¬ i < es.length by omega), rIf_f]
    have := hK σ' hx
    rwa [eqLL_end (by omega) (by omega)] at this
  | succ r ih =>
    intro i m σ' hi hm hx hK
    obtain ⟨m, rfl⟩ := Nat.exists_eq_succ_of_ne_zero (show m ≠ 0 by omega)
    have hlt : i < es.length := by omega
    have hlt2 : i < fs.length := by omega
    rw [l_ref08_Nums_rrlrdE]
    unfold l_ref08_Nums_rrlrdB
    rw [hlen, rBin_lssN, show decide (i < lenL (.l es)) = true from decide_eq_true (show i < es.length from hlt), rIf_t]
    obtain ⟨ba, oa, sa, ia⟩ := ha.at hlt 1 rfl
    obtain ⟨bb, ob, sb, ib⟩ := hb.at hlt2 1 rfl
    obtain ⟨u, ru, lu⟩ := (sa.fr (hx.fr _)).val' 0 (it := .num) rfl
    obtain ⟨w, rw', lw⟩ := (sb.fr (hx.fr _)).val' 0 (it := .num) rfl
    have lu := lu σ' (.refl σ')
    have lw := lw σ' (.refl σ')
    rw [Nat.add_zero] at lu lw
    rw [ia, lu, ib, lw, (cmp_num ru rw' _ _).2, ← eqL_one sa.len sb.len]
    cases hq : eqL es[i] fs[i] with
    | false =>
      simp only [Bool.not_false, rIf_t]
      have := hK σ' hx
      rw [eqLL_drop hlt hlt2, hq] at this
      exact this
    | true =>
      simp only [Bool.not_true, rIf_f]
      rw [rBin_add _ _ _ _ (by omega)]
      refine ih (i + 1) m σ' (by omega) (by omega) hx fun σ2 x2 => ?_
      have := hK σ2 x2
      rw [eqLL_drop hlt hlt2, hq] at this
      exact this
theorem cmp_ref08_Nums (hM : 140737488355328 < most) : CmpL most c_ref08_Nums [.num] 1 := by
  intro n σ C C' a b es fs K ha hb hK
  rw [X_call (by rfl), f_ref08_Nums]
  unfold r_ref08_Nums
  rw [ha.listL.2, hb.listL.2, rBin_neqN]
  by_cases he : es.length = fs.length
  · rw [show decide (lenL (.l es) = lenL (.l fs)) = true from decide_eq_true he]
    show rIf zF _ _ = true
    rw [rIf_f, X_most]
    have hN : es.length ≤ 140737488355328 := ha.listL.1
    exact cmp_ref08_Nums_loop hM ha hb he es.length 0 most σ (by omega) (by omega) (.refl σ) fun σ2 x2 => hK σ2 x2
  · rw [show decide (lenL (.l es) = lenL (.l fs)) = false from decide_eq_false he]
    show rIf (.bool true) _ _ = true
    rw [rIf_t]
    have := hK σ (.refl σ)
    rwa [eqLL_len he] at this

theorem cmp_ref03_Numbers_loop (hM : 140737488355328 < most) {n : Nat} {σ : St} {C C' : Nat → Prop} {a b : Value} {es fs : List (List D)} {K : VK} (ha : Rd σ C (.list [.num]) a (.l es)) (hb : Rd σ C' (.list [.num]) b (.l fs)) (he : es.length = fs.length) :
    ∀ (r i m : Nat) (σ' : St), i + r = es.length → r < m → Ext' σ σ' → (∀ σ2, Ext' σ σ2 → K (.bool (eqLL (es.drop i) (fs.drop i))) σ2 = true) → l_ref03_Numbers_rrlrd (X most (n + 0)) m a b (.int .i64 (.ofNat i)) σ' K = true := by
  obtain ⟨hN, hlen⟩ := ha.listL
  have hN : es.length ≤ 140737488355328 := hN
  intro r
  induction r with
  | zero =>
    intro i m σ' hi hm hx hK
    obtain ⟨m, rfl⟩ := Nat.exists_eq_succ_of_ne_zero (show m ≠ 0 by omega)
    rw [l_ref03_Numbers_rrlrdE]
    unfold l_ref03_Numbers_rrlrdB
    rw [hlen, rBin_lssN, show decide (i < lenL (.l es)) = false from decide_eq_false (show ¬ i < es.length by omega), rIf_f]
    have := hK σ' hx
    rwa [eqLL_end (by omega) (by omega)] at this
  | succ r ih =>
    intro i m σ' hi hm hx hK
    obtain ⟨m, rfl⟩ := Nat.exists_eq_succ_of_ne_zero (show m ≠ 0 by omega)
    have hlt : i < es.length := by omega
    have hlt2 : i < fs.length := by omega
    rw [l_ref03_Numbers_rrlrdE]
    unfold l_ref03_Numbers_rrlrdB
    rw [hlen, rBin_lssN, show decide (i < lenL (.l es)) = true from decide_eq_true (show i < es.length from hlt), rIf_t]
    obtain ⟨ba, oa, sa, ia⟩ := ha.at hlt 1 rfl
    obtain ⟨bb, ob, sb, ib⟩ := hb.at hlt2 1 rfl
    obtain ⟨u, ru, lu⟩ := (sa.fr (hx.fr _)).val' 0 (it := .num) rfl
    obtain ⟨w, rw', lw⟩ := (sb.fr (hx.fr _)).val' 0 (it := .num) rfl
    have lu := lu σ' (.refl σ')
    have lw := lw σ' (.refl σ')
    rw [Nat.add_zero] at lu lw
    rw [ia, lu, ib, lw, (cmp_num ru rw' _ _).2, ← eqL_one sa.len sb.len]
    cases hq : eqL es[i] fs[i] with
    | false =>
      simp only [Bool.not_false, rIf_t]
      have := hK σ' hx
      rw [eqLL_drop hlt hlt2, hq] at this
      exact this
    | true =>
      simp only [Bool.not_true, rIf_f]
      rw [rBin_add _ _ _ _ (by omega)]
      refine ih (i + 1) m σ' (by omega) (by omega) hx fun σ2 x2 => ?_
      have := hK σ2 x2
      rw [eqLL_drop hlt hlt2, hq] at this
      exact this
theorem cmp_ref03_Numbers (hM : 140737488355328 < most) : CmpL most c_ref03_Numbers [.num] 1 := by
  intro n σ C C' a b es fs K ha hb hK
  rw [X_call (by rfl), f_ref03_Numbers]
  unfold r_ref03_Numbers
  rw [ha.listL.2, hb.listL.2, rBin_neqN]
  by_cases he : es.length = fs.length
  · rw [show decide (lenL (.l es) = lenL (.l fs)) = true from decide_eq_true he]
    show rIf zF _ _ = true
    rw [rIf_f, X_most]
    have hN : es.length ≤ 140737488355328 := ha.listL.1
    exact cmp_ref03_Numbers_loop hM ha hb he es.length 0 most σ (by omega) (by omega) (.refl σ) fun σ2 x2 => hK σ2 x2
  · rw [show decide (lenL (.l es) = lenL (.l fs)) = false from decide_eq_false he]
    show rIf (.bool true) _ _ = true
    rw [rIf_t]
    have := hK σ (.refl σ)
    rwa [eqLL_len he] at this

theorem cmp_ref24_Strings_loop (hM : 140737488355328 < most) {n : Nat} {σ : St} {C C' : Nat → Prop} {a b : Value} {es fs : List (List D)} {K : VK} (ha : Rd σ C (.list itsText) a (.l es)) (hb : Rd σ C' (.list itsText) b (.l fs)) (he : es.length = fs.length) :
    ∀ (r i m : Nat) (σ' : St), i + r = es.length → r < m → Ext' σ σ' → (∀ σ2, Ext' σ σ2 → K (.bool (eqLL (es.drop i) (fs.drop i))) σ2 = true) → l_ref24_Strings_rrlrd (X most (n + 0)) m a b (.int .i64 (.ofNat i)) σ' K = true := by
  obtain ⟨hN, hlen⟩ := ha.listL
  have hN : es.length ≤ 140737488355328 := hN
  intro r
  induction r with
  | zero =>
    intro i m σ' hi hm hx hK
    obtain ⟨m, rfl⟩ := Nat.exists_eq_succ_of_ne_zero (show m ≠ 0 by omega)
    rw [l_ref24_Strings_rrlrdE]
    unfold l_ref24_Strings_rrlrdB
    rw [hlen, rBin_lssN, show decide (i < lenL (.l es)) = false from decide_eq_false (show ¬ i < es.length by omega), rIf_f]
    have := hK σ' hx
    rwa [eqLL_end (by omega) (by omega)] at this
  | succ r ih =>
    intro i m σ' hi hm hx hK
    obtain ⟨m, rfl⟩ := Nat.exists_eq_succ_of_ne_zero (show m ≠ 0 by omega)
    have hlt : i < es.length := by omega
    have hlt2 : i < fs.length := by omega
    rw [l_ref24_Strings_rrlrdE]
    unfold l_ref24_Strings_rrlrdB
    rw [hlen, rBin_lssN, show decide (i < lenL (.l es)) = true from decide_eq_true (show i < es.length from hlt), rIf_t]
    obtain ⟨ba, oa, sa, ia⟩ := ha.at hlt 1 rfl
    obtain ⟨bb, ob, sb, ib⟩ := hb.at hlt2 1 rfl
    obtain ⟨u, ru, lu⟩ := (sa.fr (hx.fr _)).val' 0 (it := .text) rfl
    obtain ⟨w, rw', lw⟩ := (sb.fr (hx.fr _)).val' 0 (it := .text) rfl
    have lu := lu σ' (.refl σ')
    have lw := lw σ' (.refl σ')
    rw [Nat.add_zero] at lu lw
    rw [ia, lu, ib, lw, (cmp_text ru rw' _ _).2, ← eqL_one sa.len sb.len]
    cases hq : eqL es[i] fs[i] with
    | false =>
      simp only [Bool.not_false, rIf_t]
      have := hK σ' hx
      rw [eqLL_drop hlt hlt2, hq] at this
      exact this
    | true =>
      simp only [Bool.not_true, rIf_f]
      rw [rBin_add _ _ _ _ (by omega)]
      refine ih (i + 1) m σ' (by omega) (by omega) hx fun σ2 x2 => ?_
      have := hK σ2 x2
      rw [eqLL_drop hlt hlt2, hq] at this
      exact this
theorem cmp_ref24_Strings (hM : 140737488355328 < most) : CmpL most c_ref24_Strings itsText 1 := by
  intro n σ C C' a b es fs K ha hb hK
  rw [X_call (by rfl), f_ref24_Strings]
  unfold r_ref24_Strings
  rw [ha.listL.2, hb.listL.2, rBin_neqN]
  by_cases he : es.length = fs.length
  · rw [show decide (lenL (.l es) = lenL (.l fs)) = true from decide_eq_true he]
    show rIf zF _ _ = true
    rw [rIf_f, X_most]
    have hN : es.length ≤ 140737488355328 := ha.listL.1
    exact cmp_ref24_Strings_loop hM ha hb he es.length 0 most σ (by omega) (by omega) (.refl σ) fun σ2 x2 => hK σ2 x2
  · rw [show decide (lenL (.l es) = lenL (.l fs)) = false from decide_eq_false he]
    show rIf (.bool true) _ _ = true
    rw [rIf_t]
    have := hK σ (.refl σ)
    rwa [eqLL_len he] at this

theorem cmp_ref18_Same_loop (hM : 140737488355328 < most) {n : Nat} {σ : St} {C C' : Nat → Prop} {a b : Value} {es fs : List (List D)} {K : VK} (ha : Rd σ C (.list itsPair) a (.l es)) (hb : Rd σ C' (.list itsPair) b (.l fs)) (he : es.length = fs.length) :
    ∀ (r i m : Nat) (σ' : St), i + r = es.length → r < m → Ext' σ σ' → (∀ σ2, Ext' σ σ2 → K (.bool (eqLL (es.drop i) (fs.drop i))) σ2 = true) → l_ref18_Same_rrlrd (X most (n + 0)) m a b (.int .i64 (.ofNat i)) σ' K = true := by
  obtain ⟨hN, hlen⟩ := ha.listL
  have hN : es.length ≤ 140737488355328 := hN
  intro r
  induction r with
  | zero =>
    intro i m σ' hi hm hx hK
    obtain ⟨m, rfl⟩ := Nat.exists_eq_succ_of_ne_zero (show m ≠ 0 by omega)
    rw [l_ref18_Same_rrlrdE]
    unfold l_ref18_Same_rrlrdB
    rw [hlen, rBin_lssN, show decide (i < lenL (.l es)) = false from decide_eq_false (show ¬ i < es.length by omega), rIf_f]
    have := hK σ' hx
    rwa [eqLL_end (by omega) (by omega)] at this
  | succ r ih =>
    intro i m σ' hi hm hx hK
    obtain ⟨m, rfl⟩ := Nat.exists_eq_succ_of_ne_zero (show m ≠ 0 by omega)
    have hlt : i < es.length := by omega
    have hlt2 : i < fs.length := by omega
    rw [l_ref18_Same_rrlrdE]
    unfold l_ref18_Same_rrlrdB
    rw [hlen, rBin_lssN, show decide (i < lenL (.l es)) = true from decide_eq_true (show i < es.length from hlt), rIf_t]
    obtain ⟨ba, oa, sa, ia⟩ := ha.at hlt 2 rfl
    obtain ⟨bb, ob, sb, ib⟩ := hb.at hlt2 2 rfl
    obtain ⟨ca, ra, la⟩ := (sa.fr (hx.fr _)).lda 2 rfl
    obtain ⟨cb, rb, lb⟩ := (sb.fr (hx.fr _)).lda 2 rfl
    rw [ia, la σ' (.refl σ'), ib, lb σ' (.refl σ'), (cmp_agg (its := itsPair) (by kernel_rfl) (by decide) ra rb _).2]
    cases hq : eqL es[i] fs[i] with
    | false =>
      simp only [Bool.not_false, rIf_t]
      have := hK σ' hx
      rw [eqLL_drop hlt hlt2, hq] at this
      exact this
    | true =>
      simp only [Bool.not_true, rIf_f]
      rw [rBin_add _ _ _ _ (by omega)]
      refine ih (i + 1) m σ' (by omega) (by omega) hx fun σ2 x2 => ?_
      have := hK σ2 x2
      rw [eqLL_drop hlt hlt2, hq] at this
      exact this
theorem cmp_ref18_Same (hM : 140737488355328 < most) : CmpL most c_ref18_Same itsPair 1 := by
  intro n σ C C' a b es fs K ha hb hK
  rw [X_call (by rfl), f_ref18_Same]
  unfold r_ref18_Same
  rw [ha.listL.2, hb.listL.2, rBin_neqN]
  by_cases he : es.length = fs.length
  · rw [show decide (lenL (.l es) = lenL (.l fs)) = true from decide_eq_true he]
    show rIf zF _ _ = true
    rw [rIf_f, X_most]
    have hN : es.length ≤ 140737488355328 := ha.listL.1
    exact cmp_ref18_Same_loop hM ha hb he es.length 0 most σ (by omega) (by omega) (.refl σ) fun σ2 x2 => hK σ2 x2
  · rw [show decide (lenL (.l es) = lenL (.l fs)) = false from decide_eq_false he]
    show rIf (.bool true) _ _ = true
    rw [rIf_t]
    have := hK σ (.refl σ)
    rwa [eqLL_len he] at this

theorem cmp_ref15_Same_loop (hM : 140737488355328 < most) {n : Nat} {σ : St} {C C' : Nat → Prop} {a b : Value} {es fs : List (List D)} {K : VK} (ha : Rd σ C (.list itsVote) a (.l es)) (hb : Rd σ C' (.list itsVote) b (.l fs)) (he : es.length = fs.length) :
    ∀ (r i m : Nat) (σ' : St), i + r = es.length → r < m → Ext' σ σ' → (∀ σ2, Ext' σ σ2 → K (.bool (eqLL (es.drop i) (fs.drop i))) σ2 = true) → l_ref15_Same_rrlrd (X most (n + 0)) m a b (.int .i64 (.ofNat i)) σ' K = true := by
  obtain ⟨hN, hlen⟩ := ha.listL
  have hN : es.length ≤ 140737488355328 := hN
  intro r
  induction r with
  | zero =>
    intro i m σ' hi hm hx hK
    obtain ⟨m, rfl⟩ := Nat.exists_eq_succ_of_ne_zero (show m ≠ 0 by omega)
    rw [l_ref15_Same_rrlrdE]
    unfold l_ref15_Same_rrlrdB
    rw [hlen, rBin_lssN, show decide (i < lenL (.l es)) = false from decide_eq_false (show ¬ i < es.length by omega), rIf_f]
    have := hK σ' hx
    rwa [eqLL_end (by omega) (by omega)] at this
  | succ r ih =>
    intro i m σ' hi hm hx hK
    obtain ⟨m, rfl⟩ := Nat.exists_eq_succ_of_ne_zero (show m ≠ 0 by omega)
    have hlt : i < es.length := by omega
    have hlt2 : i < fs.length := by omega
    rw [l_ref15_Same_rrlrdE]
    unfold l_ref15_Same_rrlrdB
    rw [hlen, rBin_lssN, show decide (i < lenL (.l es)) = true from decide_eq_true (show i < es.length from hlt), rIf_t]
    obtain ⟨ba, oa, sa, ia⟩ := ha.at hlt 5 rfl
    obtain ⟨bb, ob, sb, ib⟩ := hb.at hlt2 5 rfl
    obtain ⟨ca, ra, la⟩ := (sa.fr (hx.fr _)).lda 5 rfl
    obtain ⟨cb, rb, lb⟩ := (sb.fr (hx.fr _)).lda 5 rfl
    rw [ia, la σ' (.refl σ'), ib, lb σ' (.refl σ'), (cmp_agg (its := itsVote) (by kernel_rfl) (by decide) ra rb _).2]
    cases hq : eqL es[i] fs[i] with
    | false =>
      simp only [Bool.not_false, rIf_t]
      have := hK σ' hx
      rw [eqLL_drop hlt hlt2, hq] at this
      exact this
    | true =>
      simp only [Bool.not_true, rIf_f]
      rw [rBin_add _ _ _ _ (by omega)]
      refine ih (i + 1) m σ' (by omega) (by omega) hx fun σ2 x2 => ?_
      have := hK σ2 x2
      rw [eqLL_drop hlt hlt2, hq] at this
      exact this
theorem cmp_ref15_Same (hM : 140737488355328 < most) : CmpL most c_ref15_Same itsVote 1 := by
  intro n σ C C' a b es fs K ha hb hK
  rw [X_call (by rfl), f_ref15_Same]
  unfold r_ref15_Same
  rw [ha.listL.2, hb.listL.2, rBin_neqN]
  by_cases he : es.length = fs.length
  · rw [show decide (lenL (.l es) = lenL (.l fs)) = true from decide_eq_true he]
    show rIf zF _ _ = true
    rw [rIf_f, X_most]
    have hN : es.length ≤ 140737488355328 := ha.listL.1
    exact cmp_ref15_Same_loop hM ha hb he es.length 0 most σ (by omega) (by omega) (.refl σ) fun σ2 x2 => hK σ2 x2
  · rw [show decide (lenL (.l es) = lenL (.l fs)) = false from decide_eq_false he]
    show rIf (.bool true) _ _ = true
    rw [rIf_t]
    have := hK σ (.refl σ)
    rwa [eqLL_len he] at this

theorem cmp_ref08_Lists_loop (hM : 140737488355328 < most) {n : Nat} {σ : St} {C C' : Nat → Prop} {a b : Value} {es fs : List (List D)} {K : VK} (ha : Rd σ C (.list itsNums) a (.l es)) (hb : Rd σ C' (.list itsNums) b (.l fs)) (he : es.length = fs.length) :
    ∀ (r i m : Nat) (σ' : St), i + r = es.length → r < m → Ext' σ σ' → (∀ σ2, Ext' σ σ2 → K (.bool (eqLL (es.drop i) (fs.drop i))) σ2 = true) → l_ref08_Lists_rrlrd (X most (n + 1)) m a b (.int .i64 (.ofNat i)) σ' K = true := by
  obtain ⟨hN, hlen⟩ := ha.listL
  have hN : es.length ≤ 140737488355328 := hN
  intro r
  induction r with
  | zero =>
    intro i m σ' hi hm hx hK
    obtain ⟨m, rfl⟩ := Nat.exists_eq_succ_of_ne_zero (show m ≠ 0 by omega)
    rw [l_ref08_Lists_rrlrdE]
    unfold l_ref08_Lists_rrlrdB
    rw [hlen, rBin_lssN, show decide (i < lenL (.l es)) = false from decide_eq_false (show ¬ i < es.length by omega), rIf_f]
    have := hK σ' hx
    rwa [eqLL_end (by omega) (by omega)] at this
  | succ r ih =>
    intro i m σ' hi hm hx hK
    obtain ⟨m, rfl⟩ := Nat.exists_eq_succ_of_ne_zero (show m ≠ 0 by omega)
    have hlt : i < es.length := by omega
    have hlt2 : i < fs.length := by omega
    rw [l_ref08_Lists_rrlrdE]
    unfold l_ref08_Lists_rrlrdB
    rw [hlen, rBin_lssN, show decide (i < lenL (.l es)) = true from decide_eq_true (show i < es.length from hlt), rIf_t]
    obtain ⟨ba, oa, sa, ia⟩ := ha.at hlt 1 rfl
    obtain ⟨bb, ob, sb, ib⟩ := hb.at hlt2 1 rfl
    obtain ⟨u, ru, lu⟩ := (sa.fr (hx.fr _)).val' 0 (it := .nums) rfl
    obtain ⟨w, rw', lw⟩ := (sb.fr (hx.fr _)).val' 0 (it := .nums) rfl
    have lu := lu σ' (.refl σ')
    have lw := lw σ' (.refl σ')
    rw [Nat.add_zero] at lu lw
    have hu : ∃ xs, ats es[i] 0 = .l xs ∧ Rd σ' C (.list [.num]) u (.l xs) := by
      generalize hd : ats es[i] 0 = d at ru
      cases ru with | nums h => exact ⟨_, rfl, h⟩
    have hw : ∃ xs, ats fs[i] 0 = .l xs ∧ Rd σ' C' (.list [.num]) w (.l xs) := by
      generalize hd : ats fs[i] 0 = d at rw'
      cases rw' with | nums h => exact ⟨_, rfl, h⟩
    obtain ⟨xs, ex, hxs⟩ := hu
    obtain ⟨ys, ey, hys⟩ := hw
    rw [ia, lu, ib, lw]
    refine cmp_ref08_Nums hM n hxs hys fun σ3 x3 => ?_
    have hq0 : eqLL xs ys = eqL es[i] fs[i] := by rw [eqL_one sa.len sb.len, ex, ey]; rfl
    rw [hq0]
    rw [unK_not]
    cases hq : eqL es[i] fs[i] with
    | false =>
      simp only [Bool.not_false, rIf_t]
      have := hK σ3 (hx.trans x3)
      rw [eqLL_drop hlt hlt2, hq] at this
      exact this
    | true =>
      simp only [Bool.not_true, rIf_f]
      rw [rBin_add _ _ _ _ (by omega)]
      refine ih (i + 1) m σ3 (by omega) (by omega) (hx.trans x3) fun σ2 x2 => ?_
      have := hK σ2 x2
      rw [eqLL_drop hlt hlt2, hq] at this
      exact this
theorem cmp_ref08_Lists (hM : 140737488355328 < most) : CmpL most c_ref08_Lists itsNums 2 := by
  intro n σ C C' a b es fs K ha hb hK
  rw [X_call (by rfl), f_ref08_Lists]
  unfold r_ref08_Lists
  rw [ha.listL.2, hb.listL.2, rBin_neqN]
  by_cases he : es.length = fs.length
  · rw [show decide (lenL (.l es) = lenL (.l fs)) = true from decide_eq_true he]
    show rIf zF _ _ = true
    rw [rIf_f, X_most]
    have hN : es.length ≤ 140737488355328 := ha.listL.1
    exact cmp_ref08_Lists_loop hM ha hb he es.length 0 most σ (by omega) (by omega) (.refl σ) fun σ2 x2 => hK σ2 x2
  · rw [show decide (lenL (.l es) = lenL (.l fs)) = false from decide_eq_false he]
    show rIf (.bool true) _ _ = true
    rw [rIf_t]
    have := hK σ (.refl σ)
    rwa [eqLL_len he] at this

theorem cmp_ref14_Same_tail (hM : 140737488355328 < most) {n : Nat} {σ : St} {C C' : Nat → Prop} {b1 b2 : Nat} {da db : List D} {a b : Value} {es fs : List (List D)} {K : VK} (_sa : Stc σ C itsMsg b1 0 da) (_sb : Stc σ C' itsMsg b2 0 db) (ha : Rd σ C (.list [.num]) a (.l es)) (hb : Rd σ C' (.list [.num]) b (.l fs))
    (la : ∀ σ', Ext' σ σ' → ∀ K, rLd (pt b1 10) σ' K = K a σ') (lb : ∀ σ', Ext' σ σ' → ∀ K, rLd (pt b2 10) σ' K = K b σ') (he : es.length = fs.length) :
    ∀ (r i m : Nat) (σ' : St), i + r = es.length → r < m → Ext' σ σ' → (∀ σ2, Ext' σ σ2 → K (.bool (eqLL (es.drop i) (fs.drop i))) σ2 = true) → l_ref14_Same_rrlrd (X most (n + 0)) m (pt b1 0) (pt b2 0) (.int .i64 (.ofNat i)) σ' K = true := by
  obtain ⟨hN, hlen⟩ := ha.listL
  have hN : es.length ≤ 140737488355328 := hN
  intro r
  induction r with
  | zero =>
    intro i m σ' hi hm hx hK
    obtain ⟨m, rfl⟩ := Nat.exists_eq_succ_of_ne_zero (show m ≠ 0 by omega)
    rw [l_ref14_Same_rrlrdE]
    unfold l_ref14_Same_rrlrdB
    rw [rFld_p, Nat.zero_add, la σ' hx, hlen, rBin_lssN, show decide (i < lenL (.l es)) = false from decide_eq_false (show ¬ i < es.length by omega), rIf_f]
    have := hK σ' hx
    rwa [eqLL_end (by omega) (by omega)] at this
  | succ r ih =>
    intro i m σ' hi hm hx hK
    obtain ⟨m, rfl⟩ := Nat.exists_eq_succ_of_ne_zero (show m ≠ 0 by omega)
    have hlt : i < es.length := by omega
    have hlt2 : i < fs.length := by omega
    rw [l_ref14_Same_rrlrdE]
    unfold l_ref14_Same_rrlrdB
    rw [rFld_p, Nat.zero_add, la σ' hx, hlen, rBin_lssN, show decide (i < lenL (.l es)) = true from decide_eq_true (show i < es.length from hlt), rIf_t]
    obtain ⟨ba, oa, sa', ia⟩ := ha.at hlt 1 rfl
    obtain ⟨bb, ob, sb', ib⟩ := hb.at hlt2 1 rfl
    obtain ⟨u, ru, lu⟩ := (sa'.fr (hx.fr _)).val' 0 (it := .num) rfl
    obtain ⟨w, rw', lw⟩ := (sb'.fr (hx.fr _)).val' 0 (it := .num) rfl
    have lu := lu σ' (.refl σ')
    have lw := lw σ' (.refl σ')
    rw [Nat.add_zero] at lu lw
    simp only [rFld_p, Nat.zero_add, la σ' hx, lb σ' hx, ia, ib, lu, lw]
    rw [(cmp_num ru rw' _ _).2, ← eqL_one sa'.len sb'.len]
    cases hq : eqL es[i] fs[i] with
    | false =>
      simp only [Bool.not_false, rIf_t]
      have := hK σ' hx
      rw [eqLL_drop hlt hlt2, hq] at this
      exact this
    | true =>
      simp only [Bool.not_true, rIf_f]
      rw [rBin_add _ _ _ _ (by omega)]
      refine ih (i + 1) m σ' (by omega) (by omega) hx fun σ2 x2 => ?_
      have := hK σ2 x2
      rw [eqLL_drop hlt hlt2, hq] at this
      exact this

set_option maxRecDepth 100000 in
theorem cmp_ref14_Same (hM : 140737488355328 < most) : CmpS most c_ref14_Same itsMsg 1 := by
  intro n σ C C' va vb da db K ha hb hK
  have hT : da = db → ∀ σ', Ext' σ σ' → K (.bool true) σ' = true := fun e σ' hx => by
    have := hK σ' hx
    rwa [(eqL_iff da db).2 e] at this
  have hF : da ≠ db → ∀ σ', Ext' σ σ' → K zF σ' = true := fun e σ' hx => by
    have := hK σ' hx
    rwa [show eqL da db = false from by
      cases hq : eqL da db with
      | false => rfl
      | true => exact absurd ((eqL_iff da db).1 hq) e] at this
  have hla : da.length = 11 := ha.dlen
  have hlb : db.length = 11 := hb.dlen
  rw [X_call (by rfl), f_ref14_Same]
  unfold r_ref14_Same
  refine two_boxes ha hb _ fun b1 b2 σ2 x2 sa sb => ?_
  obtain ⟨u0, ra0, la0⟩ := sa.val0 0 (it := .kind) rfl
  obtain ⟨w0, rb0, lb0⟩ := sb.val0 0 (it := .kind) rfl
  have c0 : ∀ (t : TypeId) (K : Value → Bool), rBin PP .neq t u0 w0 K = K (.bool (!eqD (ats da 0) (ats db 0))) := fun t K => (cmp_kind ra0 rb0 t K).2
  obtain ⟨u1, ra1, la1⟩ := sa.val0 1 (it := .int) rfl
  obtain ⟨w1, rb1, lb1⟩ := sb.val0 1 (it := .int) rfl
  have c1 : ∀ (t : TypeId) (K : Value → Bool), rBin PP .neq t u1 w1 K = K (.bool (!eqD (ats da 1) (ats db 1))) := fun t K => (cmp_int ra1 rb1 t K).2
  obtain ⟨u2, ra2, la2⟩ := sa.val0 2 (it := .int) rfl
  obtain ⟨w2, rb2, lb2⟩ := sb.val0 2 (it := .int) rfl
  have c2 : ∀ (t : TypeId) (K : Value → Bool), rBin PP .neq t u2 w2 K = K (.bool (!eqD (ats da 2) (ats db 2))) := fun t K => (cmp_int ra2 rb2 t K).2
  obtain ⟨u3, ra3, la3⟩ := sa.val0 3 (it := .int) rfl
  obtain ⟨w3, rb3, lb3⟩ := sb.val0 3 (it := .int) rfl
  have c3 : ∀ (t : TypeId) (K : Value → Bool), rBin PP .neq t u3 w3 K = K (.bool (!eqD (ats da 3) (ats db 3))) := fun t K => (cmp_int ra3 rb3 t K).2
  obtain ⟨u4, ra4, la4⟩ := sa.val0 4 (it := .int) rfl
  obtain ⟨w4, rb4, lb4⟩ := sb.val0 4 (it := .int) rfl
  have c4 : ∀ (t : TypeId) (K : Value → Bool), rBin PP .neq t u4 w4 K = K (.bool (!eqD (ats da 4) (ats db 4))) := fun t K => (cmp_int ra4 rb4 t K).2
  obtain ⟨u5, ra5, la5⟩ := sa.val0 5 (it := .int) rfl
  obtain ⟨w5, rb5, lb5⟩ := sb.val0 5 (it := .int) rfl
  have c5 : ∀ (t : TypeId) (K : Value → Bool), rBin PP .neq t u5 w5 K = K (.bool (!eqD (ats da 5) (ats db 5))) := fun t K => (cmp_int ra5 rb5 t K).2
  obtain ⟨u6, ra6, la6⟩ := sa.val0 6 (it := .int) rfl
  obtain ⟨w6, rb6, lb6⟩ := sb.val0 6 (it := .int) rfl
  have c6 : ∀ (t : TypeId) (K : Value → Bool), rBin PP .neq t u6 w6 K = K (.bool (!eqD (ats da 6) (ats db 6))) := fun t K => (cmp_int ra6 rb6 t K).2
  obtain ⟨u7, ra7, la7⟩ := sa.val0 7 (it := .int) rfl
  obtain ⟨w7, rb7, lb7⟩ := sb.val0 7 (it := .int) rfl
  have c7 : ∀ (t : TypeId) (K : Value → Bool), rBin PP .neq t u7 w7 K = K (.bool (!eqD (ats da 7) (ats db 7))) := fun t K => (cmp_int ra7 rb7 t K).2
  obtain ⟨u8, ra8, la8⟩ := sa.val0 8 (it := .int) rfl
  obtain ⟨w8, rb8, lb8⟩ := sb.val0 8 (it := .int) rfl
  have c8 : ∀ (t : TypeId) (K : Value → Bool), rBin PP .neq t u8 w8 K = K (.bool (!eqD (ats da 8) (ats db 8))) := fun t K => (cmp_int ra8 rb8 t K).2
  obtain ⟨u9, ra9, la9⟩ := sa.val0 9 (it := .text) rfl
  obtain ⟨w9, rb9, lb9⟩ := sb.val0 9 (it := .text) rfl
  have c9 : ∀ (t : TypeId) (K : Value → Bool), rBin PP .neq t u9 w9 K = K (.bool (!eqD (ats da 9) (ats db 9))) := fun t K => (cmp_text ra9 rb9 t K).2
  obtain ⟨u10, ra10, la10, ea10⟩ := sa.nums0 10 rfl
  obtain ⟨w10, rb10, lb10, eb10⟩ := sb.nums0 10 rfl
  have hx : Ext' σ2 σ2 := .refl σ2
  simp only [rFld_p, Nat.zero_add, la0 σ2 hx, lb0 σ2 hx, c0]
  cases q0 : eqD (ats da 0) (ats db 0) with
  | false =>
    simp only [shut_eq, rGuard_ft, rPick_t, rIf_t, Bool.not_false]
    exact hF (fun e => by subst e; rw [eqD_refl] at q0; cases q0) _ (x2.trans hx)
  | true =>
  simp only [shut_eq, rGuard_ff, rPick_f, Bool.not_true, la1 σ2 hx, lb1 σ2 hx, c1]
  cases q1 : eqD (ats da 1) (ats db 1) with
  | false =>
    simp only [rGuard_ft, rPick_t, rIf_t, Bool.not_false]
    exact hF (fun e => by subst e; rw [eqD_refl] at q1; cases q1) _ (x2.trans hx)
  | true =>
  simp only [rGuard_ff, rPick_f, Bool.not_true, la2 σ2 hx, lb2 σ2 hx, c2]
  cases q2 : eqD (ats da 2) (ats db 2) with
  | false =>
    simp only [rGuard_ft, rPick_t, rIf_t, Bool.not_false]
    exact hF (fun e => by subst e; rw [eqD_refl] at q2; cases q2) _ (x2.trans hx)
  | true =>
  simp only [rGuard_ff, rPick_f, Bool.not_true, la3 σ2 hx, lb3 σ2 hx, c3]
  cases q3 : eqD (ats da 3) (ats db 3) with
  | false =>
    simp only [rGuard_ft, rPick_t, rIf_t, Bool.not_false]
    exact hF (fun e => by subst e; rw [eqD_refl] at q3; cases q3) _ (x2.trans hx)
  | true =>
  simp only [rGuard_ff, rPick_f, Bool.not_true, la4 σ2 hx, lb4 σ2 hx, c4]
  cases q4 : eqD (ats da 4) (ats db 4) with
  | false =>
    simp only [rGuard_ft, rPick_t, rIf_t, Bool.not_false]
    exact hF (fun e => by subst e; rw [eqD_refl] at q4; cases q4) _ (x2.trans hx)
  | true =>
  simp only [rGuard_ff, rPick_f, Bool.not_true, la5 σ2 hx, lb5 σ2 hx, c5]
  cases q5 : eqD (ats da 5) (ats db 5) with
  | false =>
    simp only [rGuard_ft, rPick_t, rIf_t, Bool.not_false]
    exact hF (fun e => by subst e; rw [eqD_refl] at q5; cases q5) _ (x2.trans hx)
  | true =>
  simp only [rGuard_ff, rPick_f, Bool.not_true, la6 σ2 hx, lb6 σ2 hx, c6]
  cases q6 : eqD (ats da 6) (ats db 6) with
  | false =>
    simp only [rGuard_ft, rPick_t, rIf_t, Bool.not_false]
    exact hF (fun e => by subst e; rw [eqD_refl] at q6; cases q6) _ (x2.trans hx)
  | true =>
  simp only [rGuard_ff, rPick_f, Bool.not_true, la7 σ2 hx, lb7 σ2 hx, c7]
  cases q7 : eqD (ats da 7) (ats db 7) with
  | false =>
    simp only [rGuard_ft, rPick_t, rIf_t, Bool.not_false]
    exact hF (fun e => by subst e; rw [eqD_refl] at q7; cases q7) _ (x2.trans hx)
  | true =>
  simp only [rGuard_ff, rPick_f, Bool.not_true, la8 σ2 hx, lb8 σ2 hx, c8]
  cases q8 : eqD (ats da 8) (ats db 8) with
  | false =>
    simp only [rGuard_ft, rPick_t, rIf_t, Bool.not_false]
    exact hF (fun e => by subst e; rw [eqD_refl] at q8; cases q8) _ (x2.trans hx)
  | true =>
  simp only [rGuard_ff, rPick_f, Bool.not_true, la9 σ2 hx, lb9 σ2 hx, c9]
  cases q9 : eqD (ats da 9) (ats db 9) with
  | false =>
    simp only [rGuard_ft, rPick_t, rIf_t, Bool.not_false]
    exact hF (fun e => by subst e; rw [eqD_refl] at q9; cases q9) _ (x2.trans hx)
  | true =>
  simp only [rGuard_ff, rPick_f, Bool.not_true, la10 σ2 hx, lb10 σ2 hx, ra10.listL.2, rb10.listL.2, rBin_neqN, lenL]
  cases q10 : decide ((esOf (ats da 10)).length = (esOf (ats db 10)).length) with
  | false =>
    simp only [rIf_t, Bool.not_false]
    exact hF (fun e => by subst e; simp at q10) _ (x2.trans hx)
  | true =>
    simp only [Bool.not_true, rIf_f]
    have hN : (esOf (ats da 10)).length ≤ 140737488355328 := ra10.listL.1
    rw [X_most]
    refine cmp_ref14_Same_tail hM (n := n) sa sb ra10 rb10 la10 lb10 (of_decide_eq_true q10) (K := K) (esOf (ats da 10)).length 0 most σ2 (by omega) (by omega) hx fun σ9 x9 => ?_
    rw [List.drop_zero, List.drop_zero]
    cases he : eqLL (esOf (ats da 10)) (esOf (ats db 10)) with
    | false => exact hF (fun e => by subst e; rw [eqLL_refl] at he; cases he) _ (x2.trans x9)
    | true => exact hT (ats_ext hla hlb fun j hj => by
      have h : j = 0 ∨ j = 1 ∨ j = 2 ∨ j = 3 ∨ j = 4 ∨ j = 5 ∨ j = 6 ∨ j = 7 ∨ j = 8 ∨ j = 9 ∨ j = 10 := by omega
      rcases h with rfl | rfl | rfl | rfl | rfl | rfl | rfl | rfl | rfl | rfl | rfl
      · exact (eqD_iff _ _).1 q0
      · exact (eqD_iff _ _).1 q1
      · exact (eqD_iff _ _).1 q2
      · exact (eqD_iff _ _).1 q3
      · exact (eqD_iff _ _).1 q4
      · exact (eqD_iff _ _).1 q5
      · exact (eqD_iff _ _).1 q6
      · exact (eqD_iff _ _).1 q7
      · exact (eqD_iff _ _).1 q8
      · exact (eqD_iff _ _).1 q9
      · exact by rw [ea10, eb10, (eqLL_iff _ _).1 he]) _ (x2.trans x9)

theorem cmp_ref14_Msgs_loop (hM : 140737488355328 < most) {n : Nat} {σ : St} {C C' : Nat → Prop} {a b : Value} {es fs : List (List D)} {K : VK} (ha : Rd σ C (.list itsMsg) a (.l es)) (hb : Rd σ C' (.list itsMsg) b (.l fs)) (he : es.length = fs.length) :
    ∀ (r i m : Nat) (σ' : St), i + r = es.length → r < m → Ext' σ σ' → (∀ σ2, Ext' σ σ2 → K (.bool (eqLL (es.drop i) (fs.drop i))) σ2 = true) → l_ref14_Msgs_rrlrd (X most (n + 1)) m a b (.int .i64 (.ofNat i)) σ' K = true := by
  obtain ⟨hN, hlen⟩ := ha.listL
  have hN : es.length ≤ 140737488355328 := hN
  intro r
  induction r with
  | zero =>
    intro i m σ' hi hm hx hK
    obtain ⟨m, rfl⟩ := Nat.exists_eq_succ_of_ne_zero (show m ≠ 0 by omega)
    rw [l_ref14_Msgs_rrlrdE]
    unfold l_ref14_Msgs_rrlrdB
    rw [hlen, rBin_lssN, show decide (i < lenL (.l es)) = false from decide_eq_false (show ¬ i < es.length by omega), rIf_f]
    have := hK σ' hx
    rwa [eqLL_end (by omega) (by omega)] at this
  | succ r ih =>
    intro i m σ' hi hm hx hK
    obtain ⟨m, rfl⟩ := Nat.exists_eq_succ_of_ne_zero (show m ≠ 0 by omega)
    have hlt : i < es.length := by omega
    have hlt2 : i < fs.length := by omega
    rw [l_ref14_Msgs_rrlrdE]
    unfold l_ref14_Msgs_rrlrdB
    rw [hlen, rBin_lssN, show decide (i < lenL (.l es)) = true from decide_eq_true (show i < es.length from hlt), rIf_t]
    obtain ⟨ba, oa, sa, ia⟩ := ha.at hlt 11 rfl
    obtain ⟨bb, ob, sb, ib⟩ := hb.at hlt2 11 rfl
    obtain ⟨ca, ra, la⟩ := (sa.fr (hx.fr _)).lda 11 rfl
    obtain ⟨cb, rb, lb⟩ := (sb.fr (hx.fr _)).lda 11 rfl
    rw [ia, la σ' (.refl σ'), ib, lb σ' (.refl σ')]
    refine cmp_ref14_Same hM n ra rb fun σ3 x3 => ?_
    rw [unK_not]
    cases hq : eqL es[i] fs[i] with
    | false =>
      simp only [Bool.not_false, rIf_t]
      have := hK σ3 (hx.trans x3)
      rw [eqLL_drop hlt hlt2, hq] at this
      exact this
    | true =>
      simp only [Bool.not_true, rIf_f]
      rw [rBin_add _ _ _ _ (by omega)]
      refine ih (i + 1) m σ3 (by omega) (by omega) (hx.trans x3) fun σ2 x2 => ?_
      have := hK σ2 x2
      rw [eqLL_drop hlt hlt2, hq] at this
      exact this
theorem cmp_ref14_Msgs (hM : 140737488355328 < most) : CmpL most c_ref14_Msgs itsMsg 2 := by
  intro n σ C C' a b es fs K ha hb hK
  rw [X_call (by rfl), f_ref14_Msgs]
  unfold r_ref14_Msgs
  rw [ha.listL.2, hb.listL.2, rBin_neqN]
  by_cases he : es.length = fs.length
  · rw [show decide (lenL (.l es) = lenL (.l fs)) = true from decide_eq_true he]
    show rIf zF _ _ = true
    rw [rIf_f, X_most]
    have hN : es.length ≤ 140737488355328 := ha.listL.1
    exact cmp_ref14_Msgs_loop hM ha hb he es.length 0 most σ (by omega) (by omega) (.refl σ) fun σ2 x2 => hK σ2 x2
  · rw [show decide (lenL (.l es) = lenL (.l fs)) = false from decide_eq_false he]
    show rIf (.bool true) _ _ = true
    rw [rIf_t]
    have := hK σ (.refl σ)
    rwa [eqLL_len he] at this

set_option maxRecDepth 100000 in
theorem cmp_ref16_Same (hM : 140737488355328 < most) : CmpS most c_ref16_Same itsVoting 2 := by
  intro n σ C C' va vb da db K ha hb hK
  have hT : da = db → ∀ σ', Ext' σ σ' → K (.bool true) σ' = true := fun e σ' hx => by
    have := hK σ' hx
    rwa [(eqL_iff da db).2 e] at this
  have hF : da ≠ db → ∀ σ', Ext' σ σ' → K zF σ' = true := fun e σ' hx => by
    have := hK σ' hx
    rwa [show eqL da db = false from by
      cases hq : eqL da db with
      | false => rfl
      | true => exact absurd ((eqL_iff da db).1 hq) e] at this
  have hla : da.length = 15 := ha.dlen
  have hlb : db.length = 15 := hb.dlen
  rw [X_call (by rfl), f_ref16_Same]
  unfold r_ref16_Same
  refine two_boxes ha hb _ fun b1 b2 σ2 x2 sa sb => ?_
  obtain ⟨u0, ra0, la0⟩ := sa.val0 0 (it := .int) rfl
  obtain ⟨w0, rb0, lb0⟩ := sb.val0 0 (it := .int) rfl
  have c0 : ∀ (t : TypeId) (K : Value → Bool), rBin PP .eql t u0 w0 K = K (.bool (eqD (ats da 0) (ats db 0))) := fun t K => (cmp_int ra0 rb0 t K).1
  obtain ⟨u1, ra1, la1⟩ := sa.val0 1 (it := .int) rfl
  obtain ⟨w1, rb1, lb1⟩ := sb.val0 1 (it := .int) rfl
  have c1 : ∀ (t : TypeId) (K : Value → Bool), rBin PP .eql t u1 w1 K = K (.bool (eqD (ats da 1) (ats db 1))) := fun t K => (cmp_int ra1 rb1 t K).1
  obtain ⟨u2, ra2, la2⟩ := sa.val0 2 (it := .int) rfl
  obtain ⟨w2, rb2, lb2⟩ := sb.val0 2 (it := .int) rfl
  have c2 : ∀ (t : TypeId) (K : Value → Bool), rBin PP .eql t u2 w2 K = K (.bool (eqD (ats da 2) (ats db 2))) := fun t K => (cmp_int ra2 rb2 t K).1
  obtain ⟨u3, ra3, la3⟩ := sa.val0 3 (it := .int) rfl
  obtain ⟨w3, rb3, lb3⟩ := sb.val0 3 (it := .int) rfl
  have c3 : ∀ (t : TypeId) (K : Value → Bool), rBin PP .eql t u3 w3 K = K (.bool (eqD (ats da 3) (ats db 3))) := fun t K => (cmp_int ra3 rb3 t K).1
  obtain ⟨u4, ra4, la4⟩ := sa.val0 4 (it := .int) rfl
  obtain ⟨w4, rb4, lb4⟩ := sb.val0 4 (it := .int) rfl
  have c4 : ∀ (t : TypeId) (K : Value → Bool), rBin PP .eql t u4 w4 K = K (.bool (eqD (ats da 4) (ats db 4))) := fun t K => (cmp_int ra4 rb4 t K).1
  obtain ⟨u5, ra5, la5⟩ := sa.val0 5 (it := .int) rfl
  obtain ⟨w5, rb5, lb5⟩ := sb.val0 5 (it := .int) rfl
  have c5 : ∀ (t : TypeId) (K : Value → Bool), rBin PP .eql t u5 w5 K = K (.bool (eqD (ats da 5) (ats db 5))) := fun t K => (cmp_int ra5 rb5 t K).1
  obtain ⟨u6, ra6, la6⟩ := sa.val0 6 (it := .int) rfl
  obtain ⟨w6, rb6, lb6⟩ := sb.val0 6 (it := .int) rfl
  have c6 : ∀ (t : TypeId) (K : Value → Bool), rBin PP .eql t u6 w6 K = K (.bool (eqD (ats da 6) (ats db 6))) := fun t K => (cmp_int ra6 rb6 t K).1
  obtain ⟨u7, ra7, la7⟩ := sa.val0 7 (it := .text) rfl
  obtain ⟨w7, rb7, lb7⟩ := sb.val0 7 (it := .text) rfl
  have c7 : ∀ (t : TypeId) (K : Value → Bool), rBin PP .eql t u7 w7 K = K (.bool (eqD (ats da 7) (ats db 7))) := fun t K => (cmp_text ra7 rb7 t K).1
  obtain ⟨u8, ra8, la8⟩ := sa.val0 8 (it := .text) rfl
  obtain ⟨w8, rb8, lb8⟩ := sb.val0 8 (it := .text) rfl
  have c8 : ∀ (t : TypeId) (K : Value → Bool), rBin PP .eql t u8 w8 K = K (.bool (eqD (ats da 8) (ats db 8))) := fun t K => (cmp_text ra8 rb8 t K).1
  obtain ⟨u9, ra9, la9⟩ := sa.val0 9 (it := .int) rfl
  obtain ⟨w9, rb9, lb9⟩ := sb.val0 9 (it := .int) rfl
  have c9 : ∀ (t : TypeId) (K : Value → Bool), rBin PP .eql t u9 w9 K = K (.bool (eqD (ats da 9) (ats db 9))) := fun t K => (cmp_int ra9 rb9 t K).1
  obtain ⟨u10, ra10, la10⟩ := sa.val0 10 (it := .int) rfl
  obtain ⟨w10, rb10, lb10⟩ := sb.val0 10 (it := .int) rfl
  have c10 : ∀ (t : TypeId) (K : Value → Bool), rBin PP .eql t u10 w10 K = K (.bool (eqD (ats da 10) (ats db 10))) := fun t K => (cmp_int ra10 rb10 t K).1
  obtain ⟨u11, ra11, la11⟩ := sa.val0 11 (it := .is) rfl
  obtain ⟨w11, rb11, lb11⟩ := sb.val0 11 (it := .is) rfl
  have c11 : ∀ (K : Value → Bool), rBin PP .eql 4 u11 w11 K = K (.bool (eqD (ats da 11) (ats db 11))) := fun K => (cmp_is ra11 rb11 K).1
  obtain ⟨u12, ra12, la12⟩ := sa.val0 12 (it := .is) rfl
  obtain ⟨w12, rb12, lb12⟩ := sb.val0 12 (it := .is) rfl
  have c12 : ∀ (K : Value → Bool), rBin PP .eql 4 u12 w12 K = K (.bool (eqD (ats da 12) (ats db 12))) := fun K => (cmp_is ra12 rb12 K).1
  obtain ⟨u13, ra13, la13⟩ := sa.val0 13 (it := .text) rfl
  obtain ⟨w13, rb13, lb13⟩ := sb.val0 13 (it := .text) rfl
  have c13 : ∀ (t : TypeId) (K : Value → Bool), rBin PP .eql t u13 w13 K = K (.bool (eqD (ats da 13) (ats db 13))) := fun t K => (cmp_text ra13 rb13 t K).1
  obtain ⟨u14, ra14, la14, ea14⟩ := sa.list0 14 (its' := itsVote) rfl
  obtain ⟨w14, rb14, lb14, eb14⟩ := sb.list0 14 (its' := itsVote) rfl
  have hx : Ext' σ2 σ2 := .refl σ2
  simp only [rFld_p, Nat.zero_add, la0 σ2 hx, lb0 σ2 hx, c0]
  cases q0 : eqD (ats da 0) (ats db 0) with
  | false =>
    simp only [shut_eq, rGuard_tf, rPick_f]
    exact hF (fun e => by subst e; rw [eqD_refl] at q0; cases q0) _ (x2.trans hx)
  | true =>
  simp only [shut_eq, rGuard_tt, rPick_t, la1 σ2 hx, lb1 σ2 hx, c1]
  cases q1 : eqD (ats da 1) (ats db 1) with
  | false =>
    simp only [rGuard_tf, rPick_f]
    exact hF (fun e => by subst e; rw [eqD_refl] at q1; cases q1) _ (x2.trans hx)
  | true =>
  simp only [rGuard_tt, rPick_t, la2 σ2 hx, lb2 σ2 hx, c2]
  cases q2 : eqD (ats da 2) (ats db 2) with
  | false =>
    simp only [rGuard_tf, rPick_f]
    exact hF (fun e => by subst e; rw [eqD_refl] at q2; cases q2) _ (x2.trans hx)
  | true =>
  simp only [rGuard_tt, rPick_t, la3 σ2 hx, lb3 σ2 hx, c3]
  cases q3 : eqD (ats da 3) (ats db 3) with
  | false =>
    simp only [rGuard_tf, rPick_f]
    exact hF (fun e => by subst e; rw [eqD_refl] at q3; cases q3) _ (x2.trans hx)
  | true =>
  simp only [rGuard_tt, rPick_t, la4 σ2 hx, lb4 σ2 hx, c4]
  cases q4 : eqD (ats da 4) (ats db 4) with
  | false =>
    simp only [rGuard_tf, rPick_f]
    exact hF (fun e => by subst e; rw [eqD_refl] at q4; cases q4) _ (x2.trans hx)
  | true =>
  simp only [rGuard_tt, rPick_t, la5 σ2 hx, lb5 σ2 hx, c5]
  cases q5 : eqD (ats da 5) (ats db 5) with
  | false =>
    simp only [rGuard_tf, rPick_f]
    exact hF (fun e => by subst e; rw [eqD_refl] at q5; cases q5) _ (x2.trans hx)
  | true =>
  simp only [rGuard_tt, rPick_t, la6 σ2 hx, lb6 σ2 hx, c6]
  cases q6 : eqD (ats da 6) (ats db 6) with
  | false =>
    simp only [rGuard_tf, rPick_f]
    exact hF (fun e => by subst e; rw [eqD_refl] at q6; cases q6) _ (x2.trans hx)
  | true =>
  simp only [rGuard_tt, rPick_t, la7 σ2 hx, lb7 σ2 hx, c7]
  cases q7 : eqD (ats da 7) (ats db 7) with
  | false =>
    simp only [rGuard_tf, rPick_f]
    exact hF (fun e => by subst e; rw [eqD_refl] at q7; cases q7) _ (x2.trans hx)
  | true =>
  simp only [rGuard_tt, rPick_t, la8 σ2 hx, lb8 σ2 hx, c8]
  cases q8 : eqD (ats da 8) (ats db 8) with
  | false =>
    simp only [rGuard_tf, rPick_f]
    exact hF (fun e => by subst e; rw [eqD_refl] at q8; cases q8) _ (x2.trans hx)
  | true =>
  simp only [rGuard_tt, rPick_t, la9 σ2 hx, lb9 σ2 hx, c9]
  cases q9 : eqD (ats da 9) (ats db 9) with
  | false =>
    simp only [rGuard_tf, rPick_f]
    exact hF (fun e => by subst e; rw [eqD_refl] at q9; cases q9) _ (x2.trans hx)
  | true =>
  simp only [rGuard_tt, rPick_t, la10 σ2 hx, lb10 σ2 hx, c10]
  cases q10 : eqD (ats da 10) (ats db 10) with
  | false =>
    simp only [rGuard_tf, rPick_f]
    exact hF (fun e => by subst e; rw [eqD_refl] at q10; cases q10) _ (x2.trans hx)
  | true =>
  simp only [rGuard_tt, rPick_t, la11 σ2 hx, lb11 σ2 hx, c11]
  cases q11 : eqD (ats da 11) (ats db 11) with
  | false =>
    simp only [rGuard_tf, rPick_f]
    exact hF (fun e => by subst e; rw [eqD_refl] at q11; cases q11) _ (x2.trans hx)
  | true =>
  simp only [rGuard_tt, rPick_t, la12 σ2 hx, lb12 σ2 hx, c12]
  cases q12 : eqD (ats da 12) (ats db 12) with
  | false =>
    simp only [rGuard_tf, rPick_f]
    exact hF (fun e => by subst e; rw [eqD_refl] at q12; cases q12) _ (x2.trans hx)
  | true =>
  simp only [rGuard_tt, rPick_t, la13 σ2 hx, lb13 σ2 hx, c13]
  cases q13 : eqD (ats da 13) (ats db 13) with
  | false =>
    simp only [rGuard_tf, rPick_f]
    exact hF (fun e => by subst e; rw [eqD_refl] at q13; cases q13) _ (x2.trans hx)
  | true =>
  simp only [rGuard_tt, rPick_t, la14 σ2 hx, lb14 σ2 hx]
  refine cmp_ref15_Same hM (n + 0) (ra14.fr (hx.fr _)) (rb14.fr (hx.fr _)) fun σ3 y3 => ?_
  have hx3 := hx.trans y3
  cases q14 : eqLL (esOf (ats da 14)) (esOf (ats db 14)) with
  | false =>
    exact hF (fun e => by subst e; rw [eqLL_refl] at q14; cases q14) _ (x2.trans hx3)
  | true =>
    exact hT (ats_ext hla hlb fun j hj => by
      have h : j = 0 ∨ j = 1 ∨ j = 2 ∨ j = 3 ∨ j = 4 ∨ j = 5 ∨ j = 6 ∨ j = 7 ∨ j = 8 ∨ j = 9 ∨ j = 10 ∨ j = 11 ∨ j = 12 ∨ j = 13 ∨ j = 14 := by omega
      rcases h with rfl | rfl | rfl | rfl | rfl | rfl | rfl | rfl | rfl | rfl | rfl | rfl | rfl | rfl | rfl
      · exact (eqD_iff _ _).1 q0
      · exact (eqD_iff _ _).1 q1
      · exact (eqD_iff _ _).1 q2
      · exact (eqD_iff _ _).1 q3
      · exact (eqD_iff _ _).1 q4
      · exact (eqD_iff _ _).1 q5
      · exact (eqD_iff _ _).1 q6
      · exact (eqD_iff _ _).1 q7
      · exact (eqD_iff _ _).1 q8
      · exact (eqD_iff _ _).1 q9
      · exact (eqD_iff _ _).1 q10
      · exact (eqD_iff _ _).1 q11
      · exact (eqD_iff _ _).1 q12
      · exact (eqD_iff _ _).1 q13
      · exact by rw [ea14, eb14, (eqLL_iff _ _).1 q14]) _ (x2.trans hx3)

theorem cmp_ref17_Same_tail (hM : 140737488355328 < most) {n : Nat} {σ : St} {C C' : Nat → Prop} {b1 b2 : Nat} {da db : List D} {a b : Value} {es fs : List (List D)} {K : VK} (_sa : Stc σ C itsRows b1 0 da) (_sb : Stc σ C' itsRows b2 0 db) (ha : Rd σ C (.list itsSaid) a (.l es)) (hb : Rd σ C' (.list itsSaid) b (.l fs))
    (la : ∀ σ', Ext' σ σ' → ∀ K, rLd (pt b1 18) σ' K = K a σ') (lb : ∀ σ', Ext' σ σ' → ∀ K, rLd (pt b2 18) σ' K = K b σ') (he : es.length = fs.length) :
    ∀ (r i m : Nat) (σ' : St), i + r = es.length → r < m → Ext' σ σ' → (∀ σ2, Ext' σ σ2 → K (.bool (eqLL (es.drop i) (fs.drop i))) σ2 = true) → l_ref17_Same_rrlrd (X most (n + 2)) m (pt b1 0) (pt b2 0) (.int .i64 (.ofNat i)) σ' K = true := by
  obtain ⟨hN, hlen⟩ := ha.listL
  have hN : es.length ≤ 140737488355328 := hN
  intro r
  induction r with
  | zero =>
    intro i m σ' hi hm hx hK
    obtain ⟨m, rfl⟩ := Nat.exists_eq_succ_of_ne_zero (show m ≠ 0 by omega)
    rw [l_ref17_Same_rrlrdE]
    unfold l_ref17_Same_rrlrdB
    rw [rFld_p, Nat.zero_add, la σ' hx, hlen, rBin_lssN, show decide (i < lenL (.l es)) = false from decide_eq_false (show ¬ i < es.length by omega), rIf_f]
    have := hK σ' hx
    rwa [eqLL_end (by omega) (by omega)] at this
  | succ r ih =>
    intro i m σ' hi hm hx hK
    obtain ⟨m, rfl⟩ := Nat.exists_eq_succ_of_ne_zero (show m ≠ 0 by omega)
    have hlt : i < es.length := by omega
    have hlt2 : i < fs.length := by omega
    rw [l_ref17_Same_rrlrdE]
    unfold l_ref17_Same_rrlrdB
    rw [rFld_p, Nat.zero_add, la σ' hx, hlen, rBin_lssN, show decide (i < lenL (.l es)) = true from decide_eq_true (show i < es.length from hlt), rIf_t]
    obtain ⟨ba, oa, sa', ia⟩ := ha.at hlt 2 rfl
    obtain ⟨bb, ob, sb', ib⟩ := hb.at hlt2 2 rfl
    obtain ⟨ca, ra', lca⟩ := (sa'.fr (hx.fr _)).lda 2 rfl
    obtain ⟨cb, rb', lcb⟩ := (sb'.fr (hx.fr _)).lda 2 rfl
    simp only [rFld_p, Nat.zero_add, la σ' hx, lb σ' hx, ia, ib, lca σ' (.refl σ'), lcb σ' (.refl σ')]
    rw [(cmp_agg (its := itsSaid) (by kernel_rfl) (by decide) ra' rb' _).2]
    cases hq : eqL es[i] fs[i] with
    | false =>
      simp only [Bool.not_false, rIf_t]
      have := hK σ' hx
      rw [eqLL_drop hlt hlt2, hq] at this
      exact this
    | true =>
      simp only [Bool.not_true, rIf_f]
      rw [rBin_add _ _ _ _ (by omega)]
      refine ih (i + 1) m σ' (by omega) (by omega) hx fun σ2 x2 => ?_
      have := hK σ2 x2
      rw [eqLL_drop hlt hlt2, hq] at this
      exact this

set_option maxRecDepth 100000 in
theorem cmp_ref17_Same (hM : 140737488355328 < most) : CmpS most c_ref17_Same itsRows 3 := by
  intro n σ C C' va vb da db K ha hb hK
  have hT : da = db → ∀ σ', Ext' σ σ' → K (.bool true) σ' = true := fun e σ' hx => by
    have := hK σ' hx
    rwa [(eqL_iff da db).2 e] at this
  have hF : da ≠ db → ∀ σ', Ext' σ σ' → K zF σ' = true := fun e σ' hx => by
    have := hK σ' hx
    rwa [show eqL da db = false from by
      cases hq : eqL da db with
      | false => rfl
      | true => exact absurd ((eqL_iff da db).1 hq) e] at this
  have hla : da.length = 20 := ha.dlen
  have hlb : db.length = 20 := hb.dlen
  rw [X_call (by rfl), f_ref17_Same]
  unfold r_ref17_Same
  refine two_boxes ha hb _ fun b1 b2 σ2 x2 sa sb => ?_
  obtain ⟨u0, ra0, la0⟩ := sa.val0 0 (it := .int) rfl
  obtain ⟨w0, rb0, lb0⟩ := sb.val0 0 (it := .int) rfl
  have c0 : ∀ (t : TypeId) (K : Value → Bool), rBin PP .neq t u0 w0 K = K (.bool (!eqD (ats da 0) (ats db 0))) := fun t K => (cmp_int ra0 rb0 t K).2
  obtain ⟨u1, ra1, la1⟩ := sa.val0 1 (it := .text) rfl
  obtain ⟨w1, rb1, lb1⟩ := sb.val0 1 (it := .text) rfl
  have c1 : ∀ (t : TypeId) (K : Value → Bool), rBin PP .neq t u1 w1 K = K (.bool (!eqD (ats da 1) (ats db 1))) := fun t K => (cmp_text ra1 rb1 t K).2
  obtain ⟨u2, ra2, la2⟩ := sa.val0 2 (it := .is) rfl
  obtain ⟨w2, rb2, lb2⟩ := sb.val0 2 (it := .is) rfl
  have c2 : ∀ (K : Value → Bool), rBin PP .neq 4 u2 w2 K = K (.bool (!eqD (ats da 2) (ats db 2))) := fun K => (cmp_is ra2 rb2 K).2
  have pa3 := sa.part 3 15 (by decide)
  have pb3 := sb.part 3 15 (by decide)
  rw [Nat.zero_add] at pa3 pb3
  obtain ⟨ca3, ra3, la3⟩ := Stc.lda (its := itsVoting) pa3 15 rfl
  obtain ⟨cb3, rb3, lb3⟩ := Stc.lda (its := itsVoting) pb3 15 rfl
  obtain ⟨u18, ra18, la18, ea18⟩ := sa.list0 18 (its' := itsSaid) rfl
  obtain ⟨w18, rb18, lb18, eb18⟩ := sb.list0 18 (its' := itsSaid) rfl
  obtain ⟨u19, ra19, la19, ea19⟩ := sa.list0 19 (its' := itsMsg) rfl
  obtain ⟨w19, rb19, lb19, eb19⟩ := sb.list0 19 (its' := itsMsg) rfl
  have hx : Ext' σ2 σ2 := .refl σ2
  simp only [rFld_p, Nat.zero_add, la0 σ2 hx, lb0 σ2 hx, c0]
  cases q0 : eqD (ats da 0) (ats db 0) with
  | false =>
    simp only [shut_eq, rGuard_ft, rPick_t, rIf_t, Bool.not_false]
    exact hF (fun e => by subst e; rw [eqD_refl] at q0; cases q0) _ (x2.trans hx)
  | true =>
  simp only [shut_eq, rGuard_ff, rPick_f, Bool.not_true, la1 σ2 hx, lb1 σ2 hx, c1]
  cases q1 : eqD (ats da 1) (ats db 1) with
  | false =>
    simp only [rGuard_ft, rPick_t, rIf_t, Bool.not_false]
    exact hF (fun e => by subst e; rw [eqD_refl] at q1; cases q1) _ (x2.trans hx)
  | true =>
  simp only [rGuard_ff, rPick_f, Bool.not_true, la2 σ2 hx, lb2 σ2 hx, c2]
  cases q2 : eqD (ats da 2) (ats db 2) with
  | false =>
    simp only [rGuard_ft, rPick_t, rIf_t, Bool.not_false]
    exact hF (fun e => by subst e; rw [eqD_refl] at q2; cases q2) _ (x2.trans hx)
  | true =>
  simp only [rGuard_ff, rPick_f, Bool.not_true, la3 σ2 hx, lb3 σ2 hx]
  refine cmp_ref16_Same hM (n + 0) (ra3.fr (hx.fr _)) (rb3.fr (hx.fr _)) fun σ3 y3 => ?_
  have hx3 := hx.trans y3
  simp only [unK_not]
  cases q3 : eqL ((da.drop 3).take 15) ((db.drop 3).take 15) with
  | false =>
    simp only [rGuard_ft, rPick_t, rIf_t, Bool.not_false]
    exact hF (fun e => by subst e; rw [eqL_refl] at q3; cases q3) _ (x2.trans hx3)
  | true =>
  simp only [rGuard_ff, rPick_f, Bool.not_true, la18 σ3 hx3, lb18 σ3 hx3, ra18.listL.2, rb18.listL.2, rBin_neqN, lenL]
  cases q18 : decide ((esOf (ats da 18)).length = (esOf (ats db 18)).length) with
  | false =>
    simp only [rGuard_ft, rPick_t, rIf_t, Bool.not_false]
    exact hF (fun e => by subst e; simp at q18) _ (x2.trans hx3)
  | true =>
  simp only [rGuard_ff, rPick_f, Bool.not_true, la19 σ3 hx3, lb19 σ3 hx3]
  refine cmp_ref14_Msgs hM (n + 0) (ra19.fr (hx3.fr _)) (rb19.fr (hx3.fr _)) fun σ4 y4 => ?_
  have hx4 := hx3.trans y4
  simp only [unK_not]
  cases q19 : eqLL (esOf (ats da 19)) (esOf (ats db 19)) with
  | false =>
    simp only [rIf_t, Bool.not_false]
    exact hF (fun e => by subst e; rw [eqLL_refl] at q19; cases q19) _ (x2.trans hx4)
  | true =>
    simp only [Bool.not_true, rIf_f]
    have hN : (esOf (ats da 18)).length ≤ 140737488355328 := ra18.listL.1
    rw [X_most]
    refine cmp_ref17_Same_tail hM (n := n) sa sb ra18 rb18 la18 lb18 (of_decide_eq_true q18) (K := K) (esOf (ats da 18)).length 0 most σ4 (by omega) (by omega) hx4 fun σ9 x9 => ?_
    rw [List.drop_zero, List.drop_zero]
    cases he : eqLL (esOf (ats da 18)) (esOf (ats db 18)) with
    | false => exact hF (fun e => by subst e; rw [eqLL_refl] at he; cases he) _ (x2.trans x9)
    | true => exact hT (ats_ext hla hlb fun j hj => by
      have h : j = 0 ∨ j = 1 ∨ j = 2 ∨ j = 3 ∨ j = 4 ∨ j = 5 ∨ j = 6 ∨ j = 7 ∨ j = 8 ∨ j = 9 ∨ j = 10 ∨ j = 11 ∨ j = 12 ∨ j = 13 ∨ j = 14 ∨ j = 15 ∨ j = 16 ∨ j = 17 ∨ j = 18 ∨ j = 19 := by omega
      rcases h with rfl | rfl | rfl | rfl | rfl | rfl | rfl | rfl | rfl | rfl | rfl | rfl | rfl | rfl | rfl | rfl | rfl | rfl | rfl | rfl
      · exact (eqD_iff _ _).1 q0
      · exact (eqD_iff _ _).1 q1
      · exact (eqD_iff _ _).1 q2
      · exact part_eq (k := 3) (m := 15) hla hlb ((eqL_iff _ _).1 q3) 0 (by omega) (by omega)
      · exact part_eq (k := 3) (m := 15) hla hlb ((eqL_iff _ _).1 q3) 1 (by omega) (by omega)
      · exact part_eq (k := 3) (m := 15) hla hlb ((eqL_iff _ _).1 q3) 2 (by omega) (by omega)
      · exact part_eq (k := 3) (m := 15) hla hlb ((eqL_iff _ _).1 q3) 3 (by omega) (by omega)
      · exact part_eq (k := 3) (m := 15) hla hlb ((eqL_iff _ _).1 q3) 4 (by omega) (by omega)
      · exact part_eq (k := 3) (m := 15) hla hlb ((eqL_iff _ _).1 q3) 5 (by omega) (by omega)
      · exact part_eq (k := 3) (m := 15) hla hlb ((eqL_iff _ _).1 q3) 6 (by omega) (by omega)
      · exact part_eq (k := 3) (m := 15) hla hlb ((eqL_iff _ _).1 q3) 7 (by omega) (by omega)
      · exact part_eq (k := 3) (m := 15) hla hlb ((eqL_iff _ _).1 q3) 8 (by omega) (by omega)
      · exact part_eq (k := 3) (m := 15) hla hlb ((eqL_iff _ _).1 q3) 9 (by omega) (by omega)
      · exact part_eq (k := 3) (m := 15) hla hlb ((eqL_iff _ _).1 q3) 10 (by omega) (by omega)
      · exact part_eq (k := 3) (m := 15) hla hlb ((eqL_iff _ _).1 q3) 11 (by omega) (by omega)
      · exact part_eq (k := 3) (m := 15) hla hlb ((eqL_iff _ _).1 q3) 12 (by omega) (by omega)
      · exact part_eq (k := 3) (m := 15) hla hlb ((eqL_iff _ _).1 q3) 13 (by omega) (by omega)
      · exact part_eq (k := 3) (m := 15) hla hlb ((eqL_iff _ _).1 q3) 14 (by omega) (by omega)
      · exact by rw [ea18, eb18, (eqLL_iff _ _).1 he]
      · exact by rw [ea19, eb19, (eqLL_iff _ _).1 q19]) _ (x2.trans x9)

theorem Stc.numsV {σ : St} {C : Nat → Prop} {its : List It} {b o : Nat} {ds : List D} (h : Stc σ C its b o ds) (j : Nat) (hj : its[j]? = some .nums) : ∃ v, Rd σ C (.list [.num]) v (.l (esOf (ats ds j))) ∧ (∀ σ', Ext' σ σ' → ∀ K, rLd (pt b (o + j)) σ' K = K v σ') ∧ ats ds j = .l (esOf (ats ds j)) := by
  obtain ⟨v, hv, hl⟩ := h.val' j hj
  have hv' : ∃ es, ats ds j = .l es ∧ Rd σ C (.list [.num]) v (.l es) := by
    generalize hd : ats ds j = d at hv
    cases hv with | nums h => exact ⟨_, rfl, h⟩
  obtain ⟨es, e, hr⟩ := hv'
  rw [e]
  exact ⟨v, hr, hl, rfl⟩
theorem eqL_two {ds es : List D} (h1 : ds.length = 2) (h2 : es.length = 2) : eqL ds es = (eqD (ats ds 0) (ats es 0) && eqD (ats ds 1) (ats es 1)) := by
  match ds, es, h1, h2 with
  | [a, b], [c, d], _, _ => simp [eqL, ats]
theorem eqL_three {ds es : List D} (h1 : ds.length = 3) (h2 : es.length = 3) : eqL ds es = (eqD (ats ds 0) (ats es 0) && (eqD (ats ds 1) (ats es 1) && eqD (ats ds 2) (ats es 2))) := by
  match ds, es, h1, h2 with
  | [a, b, c], [d, e, f], _, _ => simp [eqL, ats]
theorem cmp_ref19_tolds_loop (hM : 140737488355328 < most) {n : Nat} {σ : St} {C C' : Nat → Prop} {a b : Value} {es fs : List (List D)} {K : VK} (ha : Rd σ C (.list itsTold) a (.l es)) (hb : Rd σ C' (.list itsTold) b (.l fs)) (he : es.length = fs.length) :
    ∀ (r i m : Nat) (σ' : St), i + r = es.length → r < m → Ext' σ σ' → (∀ σ2, Ext' σ σ2 → K (.bool (eqLL (es.drop i) (fs.drop i))) σ2 = true) → l_ref19_tolds_rrlrd (X most (n + 1)) m a b (.int .i64 (.ofNat i)) σ' K = true := by
  obtain ⟨hN, hlen⟩ := ha.listL
  have hN : es.length ≤ 140737488355328 := hN
  intro r
  induction r with
  | zero =>
    intro i m σ' hi hm hx hK
    obtain ⟨m, rfl⟩ := Nat.exists_eq_succ_of_ne_zero (show m ≠ 0 by omega)
    rw [l_ref19_tolds_rrlrdE]
    unfold l_ref19_tolds_rrlrdB
    rw [hlen, rBin_lssN, show decide (i < lenL (.l es)) = false from decide_eq_false (show ¬ i < es.length by omega), rIf_f]
    have := hK σ' hx
    rwa [eqLL_end (by omega) (by omega)] at this
  | succ r ih =>
    intro i m σ' hi hm hx hK
    obtain ⟨m, rfl⟩ := Nat.exists_eq_succ_of_ne_zero (show m ≠ 0 by omega)
    have hlt : i < es.length := by omega
    have hlt2 : i < fs.length := by omega
    rw [l_ref19_tolds_rrlrdE]
    unfold l_ref19_tolds_rrlrdB
    rw [hlen, rBin_lssN, show decide (i < lenL (.l es)) = true from decide_eq_true (show i < es.length from hlt), rIf_t]
    obtain ⟨ba, oa, sa, ia⟩ := ha.at hlt 2 rfl
    obtain ⟨bb, ob, sb, ib⟩ := hb.at hlt2 2 rfl
    obtain ⟨u0, ra0, la0⟩ := sa.val' 0 (it := .int) rfl
    obtain ⟨w0, rb0, lb0⟩ := sb.val' 0 (it := .int) rfl
    obtain ⟨u1, ra1, la1, ea1⟩ := sa.numsV 1 rfl
    obtain ⟨w1, rb1, lb1, eb1⟩ := sb.numsV 1 rfl
    have su : sameV u0 u0 = true := by obtain ⟨z, rfl, _⟩ := ra0.int_inv; exact sameV_int _ _
    have sw : sameV w0 w0 = true := by obtain ⟨z, rfl, _⟩ := rb0.int_inv; exact sameV_int _ _
    have h2 := eqL_two sa.len sb.len
    simp only [ia, ib, rFld_p, la0 σ' hx, lb0 σ' hx, (cmp_int ra0 rb0 _ _).2]
    cases q0 : eqD (ats es[i] 0) (ats fs[i] 0) with
    | false =>
      simp only [Bool.not_false, shut_eq, rGuard_ft, la0 σ' hx, lb0 σ' hx, rSame_v su, rSame_v sw, rPick_t, rIf_t]
      have := hK σ' hx
      rw [eqLL_drop hlt hlt2, h2, q0] at this
      exact this
    | true =>
      simp only [Bool.not_true, shut_eq, rGuard_ff, ia, ib, rFld_p, la1 σ' hx, lb1 σ' hx]
      refine cmp_ref03_Numbers hM n (ra1.fr (hx.fr _)) (rb1.fr (hx.fr _)) fun σ3 x3 => ?_
      have hx3 := hx.trans x3
      simp only [la0 σ3 hx3, lb0 σ3 hx3, rSame_v su, rSame_v sw, unK_not, rPick_f]
      rw [q0, ea1, eb1] at h2
      have h2 : eqL es[i] fs[i] = eqLL (esOf (ats es[i] 1)) (esOf (ats fs[i] 1)) := h2
      cases q1 : eqLL (esOf (ats es[i] 1)) (esOf (ats fs[i] 1)) with
      | false =>
        simp only [Bool.not_false, rIf_t]
        have := hK σ3 hx3
        rw [eqLL_drop hlt hlt2, h2, q1] at this
        exact this
      | true =>
        simp only [Bool.not_true, rIf_f]
        rw [rBin_add _ _ _ _ (by omega)]
        refine ih (i + 1) m σ3 (by omega) (by omega) hx3 fun σ4 x4 => ?_
        have := hK σ4 x4
        rw [eqLL_drop hlt hlt2, h2, q1] at this
        exact this
theorem cmp_ref19_tolds (hM : 140737488355328 < most) : CmpL most c_ref19_tolds itsTold 2 := by
  intro n σ C C' a b es fs K ha hb hK
  rw [X_call (by rfl), f_ref19_tolds]
  unfold r_ref19_tolds
  rw [ha.listL.2, hb.listL.2, rBin_neqN]
  by_cases he : es.length = fs.length
  · rw [show decide (lenL (.l es) = lenL (.l fs)) = true from decide_eq_true he]
    show rIf zF _ _ = true
    rw [rIf_f, X_most]
    have hN : es.length ≤ 140737488355328 := ha.listL.1
    exact cmp_ref19_tolds_loop hM ha hb he es.length 0 most σ (by omega) (by omega) (.refl σ) fun σ2 x2 => hK σ2 x2
  · rw [show decide (lenL (.l es) = lenL (.l fs)) = false from decide_eq_false he]
    show rIf (.bool true) _ _ = true
    rw [rIf_t]
    have := hK σ (.refl σ)
    rwa [eqLL_len he] at this

set_option maxRecDepth 100000 in
theorem cmp_ref19_Same (hM : 140737488355328 < most) : CmpS most c_ref19_Same itsDealing 3 := by
  intro n σ C C' va vb da db K ha hb hK
  have hT : da = db → ∀ σ', Ext' σ σ' → K (.bool true) σ' = true := fun e σ' hx => by
    have := hK σ' hx
    rwa [(eqL_iff da db).2 e] at this
  have hF : da ≠ db → ∀ σ', Ext' σ σ' → K zF σ' = true := fun e σ' hx => by
    have := hK σ' hx
    rwa [show eqL da db = false from by
      cases hq : eqL da db with
      | false => rfl
      | true => exact absurd ((eqL_iff da db).1 hq) e] at this
  have hla : da.length = 8 := ha.dlen
  have hlb : db.length = 8 := hb.dlen
  rw [X_call (by rfl), f_ref19_Same]
  unfold r_ref19_Same
  refine two_boxes ha hb _ fun b1 b2 σ2 x2 sa sb => ?_
  obtain ⟨u0, ra0, la0⟩ := sa.val0 0 (it := .int) rfl
  obtain ⟨w0, rb0, lb0⟩ := sb.val0 0 (it := .int) rfl
  have c0 : ∀ (t : TypeId) (K : Value → Bool), rBin PP .eql t u0 w0 K = K (.bool (eqD (ats da 0) (ats db 0))) := fun t K => (cmp_int ra0 rb0 t K).1
  obtain ⟨u1, ra1, la1⟩ := sa.val0 1 (it := .int) rfl
  obtain ⟨w1, rb1, lb1⟩ := sb.val0 1 (it := .int) rfl
  have c1 : ∀ (t : TypeId) (K : Value → Bool), rBin PP .eql t u1 w1 K = K (.bool (eqD (ats da 1) (ats db 1))) := fun t K => (cmp_int ra1 rb1 t K).1
  obtain ⟨u2, ra2, la2, ea2⟩ := sa.list0 2 (its' := itsNums) rfl
  obtain ⟨w2, rb2, lb2, eb2⟩ := sb.list0 2 (its' := itsNums) rfl
  obtain ⟨u3, ra3, la3, ea3⟩ := sa.nums0 3 rfl
  obtain ⟨w3, rb3, lb3, eb3⟩ := sb.nums0 3 rfl
  obtain ⟨u4, ra4, la4, ea4⟩ := sa.list0 4 (its' := itsTold) rfl
  obtain ⟨w4, rb4, lb4, eb4⟩ := sb.list0 4 (its' := itsTold) rfl
  obtain ⟨u5, ra5, la5, ea5⟩ := sa.list0 5 (its' := itsTold) rfl
  obtain ⟨w5, rb5, lb5, eb5⟩ := sb.list0 5 (its' := itsTold) rfl
  obtain ⟨u6, ra6, la6, ea6⟩ := sa.nums0 6 rfl
  obtain ⟨w6, rb6, lb6, eb6⟩ := sb.nums0 6 rfl
  obtain ⟨u7, ra7, la7⟩ := sa.val0 7 (it := .is) rfl
  obtain ⟨w7, rb7, lb7⟩ := sb.val0 7 (it := .is) rfl
  have c7 : ∀ (K : Value → Bool), rBin PP .eql 4 u7 w7 K = K (.bool (eqD (ats da 7) (ats db 7))) := fun K => (cmp_is ra7 rb7 K).1
  have hx : Ext' σ2 σ2 := .refl σ2
  simp only [rFld_p, Nat.zero_add, la0 σ2 hx, lb0 σ2 hx, c0]
  cases q0 : eqD (ats da 0) (ats db 0) with
  | false =>
    simp only [shut_eq, rGuard_tf, rPick_f]
    exact hF (fun e => by subst e; rw [eqD_refl] at q0; cases q0) _ (x2.trans hx)
  | true =>
  simp only [shut_eq, rGuard_tt, rPick_t, la1 σ2 hx, lb1 σ2 hx, c1]
  cases q1 : eqD (ats da 1) (ats db 1) with
  | false =>
    simp only [rGuard_tf, rPick_f]
    exact hF (fun e => by subst e; rw [eqD_refl] at q1; cases q1) _ (x2.trans hx)
  | true =>
  simp only [rGuard_tt, rPick_t, la2 σ2 hx, lb2 σ2 hx]
  refine cmp_ref08_Lists hM (n + 0) (ra2.fr (hx.fr _)) (rb2.fr (hx.fr _)) fun σ3 y3 => ?_
  have hx3 := hx.trans y3
  cases q2 : eqLL (esOf (ats da 2)) (esOf (ats db 2)) with
  | false =>
    simp only [rGuard_tf, rPick_f]
    exact hF (fun e => by subst e; rw [eqLL_refl] at q2; cases q2) _ (x2.trans hx3)
  | true =>
  simp only [rGuard_tt, rPick_t, la3 σ3 hx3, lb3 σ3 hx3]
  refine cmp_ref03_Numbers hM (n + 1) (ra3.fr (hx3.fr _)) (rb3.fr (hx3.fr _)) fun σ4 y4 => ?_
  have hx4 := hx3.trans y4
  cases q3 : eqLL (esOf (ats da 3)) (esOf (ats db 3)) with
  | false =>
    simp only [rGuard_tf, rPick_f]
    exact hF (fun e => by subst e; rw [eqLL_refl] at q3; cases q3) _ (x2.trans hx4)
  | true =>
  simp only [rGuard_tt, rPick_t, la4 σ4 hx4, lb4 σ4 hx4]
  refine cmp_ref19_tolds hM (n + 0) (ra4.fr (hx4.fr _)) (rb4.fr (hx4.fr _)) fun σ5 y5 => ?_
  have hx5 := hx4.trans y5
  cases q4 : eqLL (esOf (ats da 4)) (esOf (ats db 4)) with
  | false =>
    simp only [rGuard_tf, rPick_f]
    exact hF (fun e => by subst e; rw [eqLL_refl] at q4; cases q4) _ (x2.trans hx5)
  | true =>
  simp only [rGuard_tt, rPick_t, la5 σ5 hx5, lb5 σ5 hx5]
  refine cmp_ref19_tolds hM (n + 0) (ra5.fr (hx5.fr _)) (rb5.fr (hx5.fr _)) fun σ6 y6 => ?_
  have hx6 := hx5.trans y6
  cases q5 : eqLL (esOf (ats da 5)) (esOf (ats db 5)) with
  | false =>
    simp only [rGuard_tf, rPick_f]
    exact hF (fun e => by subst e; rw [eqLL_refl] at q5; cases q5) _ (x2.trans hx6)
  | true =>
  simp only [rGuard_tt, rPick_t, la6 σ6 hx6, lb6 σ6 hx6]
  refine cmp_ref03_Numbers hM (n + 1) (ra6.fr (hx6.fr _)) (rb6.fr (hx6.fr _)) fun σ7 y7 => ?_
  have hx7 := hx6.trans y7
  cases q6 : eqLL (esOf (ats da 6)) (esOf (ats db 6)) with
  | false =>
    simp only [rGuard_tf, rPick_f]
    exact hF (fun e => by subst e; rw [eqLL_refl] at q6; cases q6) _ (x2.trans hx7)
  | true =>
  simp only [rGuard_tt, rPick_t, la7 σ7 hx7, lb7 σ7 hx7, c7]
  cases q7 : eqD (ats da 7) (ats db 7) with
  | false =>
    exact hF (fun e => by subst e; rw [eqD_refl] at q7; cases q7) _ (x2.trans hx7)
  | true =>
    exact hT (ats_ext hla hlb fun j hj => by
      have h : j = 0 ∨ j = 1 ∨ j = 2 ∨ j = 3 ∨ j = 4 ∨ j = 5 ∨ j = 6 ∨ j = 7 := by omega
      rcases h with rfl | rfl | rfl | rfl | rfl | rfl | rfl | rfl
      · exact (eqD_iff _ _).1 q0
      · exact (eqD_iff _ _).1 q1
      · exact by rw [ea2, eb2, (eqLL_iff _ _).1 q2]
      · exact by rw [ea3, eb3, (eqLL_iff _ _).1 q3]
      · exact by rw [ea4, eb4, (eqLL_iff _ _).1 q4]
      · exact by rw [ea5, eb5, (eqLL_iff _ _).1 q5]
      · exact by rw [ea6, eb6, (eqLL_iff _ _).1 q6]
      · exact (eqD_iff _ _).1 q7) _ (x2.trans hx7)

theorem cmp_ref24_dealings_loop (hM : 140737488355328 < most) {n : Nat} {σ : St} {C C' : Nat → Prop} {a b : Value} {es fs : List (List D)} {K : VK} (ha : Rd σ C (.list itsDealing) a (.l es)) (hb : Rd σ C' (.list itsDealing) b (.l fs)) (he : es.length = fs.length) :
    ∀ (r i m : Nat) (σ' : St), i + r = es.length → r < m → Ext' σ σ' → (∀ σ2, Ext' σ σ2 → K (.bool (eqLL (es.drop i) (fs.drop i))) σ2 = true) → l_ref24_dealings_rrlrd (X most (n + 3)) m a b (.int .i64 (.ofNat i)) σ' K = true := by
  obtain ⟨hN, hlen⟩ := ha.listL
  have hN : es.length ≤ 140737488355328 := hN
  intro r
  induction r with
  | zero =>
    intro i m σ' hi hm hx hK
    obtain ⟨m, rfl⟩ := Nat.exists_eq_succ_of_ne_zero (show m ≠ 0 by omega)
    rw [l_ref24_dealings_rrlrdE]
    unfold l_ref24_dealings_rrlrdB
    rw [hlen, rBin_lssN, show decide (i < lenL (.l es)) = false from decide_eq_false (show ¬ i < es.length by omega), rIf_f]
    have := hK σ' hx
    rwa [eqLL_end (by omega) (by omega)] at this
  | succ r ih =>
    intro i m σ' hi hm hx hK
    obtain ⟨m, rfl⟩ := Nat.exists_eq_succ_of_ne_zero (show m ≠ 0 by omega)
    have hlt : i < es.length := by omega
    have hlt2 : i < fs.length := by omega
    rw [l_ref24_dealings_rrlrdE]
    unfold l_ref24_dealings_rrlrdB
    rw [hlen, rBin_lssN, show decide (i < lenL (.l es)) = true from decide_eq_true (show i < es.length from hlt), rIf_t]
    obtain ⟨ba, oa, sa, ia⟩ := ha.at hlt 8 rfl
    obtain ⟨bb, ob, sb, ib⟩ := hb.at hlt2 8 rfl
    obtain ⟨ca, ra, la⟩ := (sa.fr (hx.fr _)).lda 8 rfl
    obtain ⟨cb, rb, lb⟩ := (sb.fr (hx.fr _)).lda 8 rfl
    rw [ia, la σ' (.refl σ'), ib, lb σ' (.refl σ')]
    refine cmp_ref19_Same hM n ra rb fun σ3 x3 => ?_
    rw [unK_not]
    cases hq : eqL es[i] fs[i] with
    | false =>
      simp only [Bool.not_false, rIf_t]
      have := hK σ3 (hx.trans x3)
      rw [eqLL_drop hlt hlt2, hq] at this
      exact this
    | true =>
      simp only [Bool.not_true, rIf_f]
      rw [rBin_add _ _ _ _ (by omega)]
      refine ih (i + 1) m σ3 (by omega) (by omega) (hx.trans x3) fun σ2 x2 => ?_
      have := hK σ2 x2
      rw [eqLL_drop hlt hlt2, hq] at this
      exact this
theorem cmp_ref24_dealings (hM : 140737488355328 < most) : CmpL most c_ref24_dealings itsDealing 4 := by
  intro n σ C C' a b es fs K ha hb hK
  rw [X_call (by rfl), f_ref24_dealings]
  unfold r_ref24_dealings
  rw [ha.listL.2, hb.listL.2, rBin_neqN]
  by_cases he : es.length = fs.length
  · rw [show decide (lenL (.l es) = lenL (.l fs)) = true from decide_eq_true he]
    show rIf zF _ _ = true
    rw [rIf_f, X_most]
    have hN : es.length ≤ 140737488355328 := ha.listL.1
    exact cmp_ref24_dealings_loop hM ha hb he es.length 0 most σ (by omega) (by omega) (.refl σ) fun σ2 x2 => hK σ2 x2
  · rw [show decide (lenL (.l es) = lenL (.l fs)) = false from decide_eq_false he]
    show rIf (.bool true) _ _ = true
    rw [rIf_t]
    have := hK σ (.refl σ)
    rwa [eqLL_len he] at this

set_option maxRecDepth 100000 in
theorem cmp_ref24_Same_tail (hM : 140737488355328 < most) {n : Nat} {σ : St} {C C' : Nat → Prop} {b1 b2 : Nat} {da db : List D} {a b : Value} {es fs : List (List D)} {K : VK} (_sa : Stc σ C itsAll b1 0 da) (_sb : Stc σ C' itsAll b2 0 db) (ha : Rd σ C (.list itsDone) a (.l es)) (hb : Rd σ C' (.list itsDone) b (.l fs))
    (la : ∀ σ', Ext' σ σ' → ∀ K, rLd (pt b1 27) σ' K = K a σ') (lb : ∀ σ', Ext' σ σ' → ∀ K, rLd (pt b2 27) σ' K = K b σ') (he : es.length = fs.length) :
    ∀ (r i m : Nat) (σ' : St), i + r = es.length → r < m → Ext' σ σ' → (∀ σ2, Ext' σ σ2 → K (.bool (eqLL (es.drop i) (fs.drop i))) σ2 = true) → l_ref24_Same_rrlrd (X most (n + 4)) m (pt b1 0) (pt b2 0) (.int .i64 (.ofNat i)) σ' K = true := by
  obtain ⟨hN, hlen⟩ := ha.listL
  have hN : es.length ≤ 140737488355328 := hN
  intro r
  induction r with
  | zero =>
    intro i m σ' hi hm hx hK
    obtain ⟨m, rfl⟩ := Nat.exists_eq_succ_of_ne_zero (show m ≠ 0 by omega)
    rw [l_ref24_Same_rrlrdE]
    unfold l_ref24_Same_rrlrdB
    rw [rFld_p, Nat.zero_add, la σ' hx, hlen, rBin_lssN, show decide (i < lenL (.l es)) = false from decide_eq_false (show ¬ i < es.length by omega), rIf_f]
    have := hK σ' hx
    rwa [eqLL_end (by omega) (by omega)] at this
  | succ r ih =>
    intro i m σ' hi hm hx hK
    obtain ⟨m, rfl⟩ := Nat.exists_eq_succ_of_ne_zero (show m ≠ 0 by omega)
    have hlt : i < es.length := by omega
    have hlt2 : i < fs.length := by omega
    rw [l_ref24_Same_rrlrdE]
    unfold l_ref24_Same_rrlrdB
    rw [rFld_p, Nat.zero_add, la σ' hx, hlen, rBin_lssN, show decide (i < lenL (.l es)) = true from decide_eq_true (show i < es.length from hlt), rIf_t]
    obtain ⟨ba, oa, sa, ia⟩ := ha.at hlt 3 rfl
    obtain ⟨bb, ob, sb, ib⟩ := hb.at hlt2 3 rfl
    obtain ⟨u0, ra0, la0⟩ := sa.val' 0 (it := .int) rfl
    obtain ⟨w0, rb0, lb0⟩ := sb.val' 0 (it := .int) rfl
    obtain ⟨u1, ra1, la1⟩ := sa.val' 1 (it := .int) rfl
    obtain ⟨w1, rb1, lb1⟩ := sb.val' 1 (it := .int) rfl
    obtain ⟨u2, ra2, la2, ea2⟩ := sa.numsV 2 rfl
    obtain ⟨w2, rb2, lb2, eb2⟩ := sb.numsV 2 rfl
    have su : sameV u0 u0 = true := by obtain ⟨z, rfl, _⟩ := ra0.int_inv; exact sameV_int _ _
    have sw : sameV w0 w0 = true := by obtain ⟨z, rfl, _⟩ := rb0.int_inv; exact sameV_int _ _
    have su1 : sameV u1 u1 = true := by obtain ⟨z, rfl, _⟩ := ra1.int_inv; exact sameV_int _ _
    have sw1 : sameV w1 w1 = true := by obtain ⟨z, rfl, _⟩ := rb1.int_inv; exact sameV_int _ _
    have sA := sameV_list ha
    have sB := sameV_list hb
    have h2 := eqL_three sa.len sb.len
    simp only [rFld_p, Nat.zero_add, la σ' hx, lb σ' hx, ia, ib, la0 σ' hx, lb0 σ' hx, (cmp_int ra0 rb0 _ _).2]
    cases q0 : eqD (ats es[i] 0) (ats fs[i] 0) with
    | false =>
      simp only [Bool.not_false, shut_eq, rGuard_ft, rGuardC_ft, la σ' hx, lb σ' hx, la0 σ' hx, lb0 σ' hx, rSame_v su, rSame_v sw, rSame_v sA, rSame_v sB, rPick_t, rIf_t]
      have := hK σ' hx
      rw [eqLL_drop hlt hlt2, h2, q0] at this
      exact this
    | true =>
      simp only [Bool.not_true, shut_eq, rGuard_ff, rFld_p, la σ' hx, lb σ' hx, ia, ib, la1 σ' hx, lb1 σ' hx, (cmp_int ra1 rb1 _ _).2, rPick_f]
      cases q1 : eqD (ats es[i] 1) (ats fs[i] 1) with
      | false =>
        simp only [Bool.not_false, rGuard_ft, rGuardC_ft, rGuardC_ff, la σ' hx, lb σ' hx, la0 σ' hx, lb0 σ' hx, la1 σ' hx, lb1 σ' hx, rSame_v su, rSame_v sw, rSame_v su1, rSame_v sw1, rSame_v sA, rSame_v sB, rPick_t, rIf_t]
        have := hK σ' hx
        rw [eqLL_drop hlt hlt2, h2, q0, q1] at this
        exact this
      | true =>
        simp only [Bool.not_true, rGuard_ff, rFld_p, la σ' hx, lb σ' hx, ia, ib, la2 σ' hx, lb2 σ' hx]
        refine cmp_ref08_Nums hM (n + 3) (ra2.fr (hx.fr _)) (rb2.fr (hx.fr _)) fun σ3 x3 => ?_
        have hx3 := hx.trans x3
        simp only [rGuardC_ff, la σ3 hx3, lb σ3 hx3, la0 σ3 hx3, lb0 σ3 hx3, la1 σ3 hx3, lb1 σ3 hx3, rSame_v su, rSame_v sw, rSame_v su1, rSame_v sw1, rSame_v sA, rSame_v sB, unK_not, rPick_f]
        rw [q0, q1, ea2, eb2] at h2
        have h2 : eqL es[i] fs[i] = eqLL (esOf (ats es[i] 2)) (esOf (ats fs[i] 2)) := h2
        cases q2 : eqLL (esOf (ats es[i] 2)) (esOf (ats fs[i] 2)) with
        | false =>
          simp only [Bool.not_false, rIf_t]
          have := hK σ3 hx3
          rw [eqLL_drop hlt hlt2, h2, q2] at this
          exact this
        | true =>
          simp only [Bool.not_true, rIf_f]
          rw [rBin_add _ _ _ _ (by omega)]
          refine ih (i + 1) m σ3 (by omega) (by omega) hx3 fun σ4 x4 => ?_
          have := hK σ4 x4
          rw [eqLL_drop hlt hlt2, h2, q2] at this
          exact this

set_option maxRecDepth 100000 in
theorem cmp_ref24_Same (hM : 140737488355328 < most) : CmpS most c_ref24_Same itsAll 5 := by
  intro n σ C C' va vb da db K ha hb hK
  have hT : da = db → ∀ σ', Ext' σ σ' → K (.bool true) σ' = true := fun e σ' hx => by
    have := hK σ' hx
    rwa [(eqL_iff da db).2 e] at this
  have hF : da ≠ db → ∀ σ', Ext' σ σ' → K zF σ' = true := fun e σ' hx => by
    have := hK σ' hx
    rwa [show eqL da db = false from by
      cases hq : eqL da db with
      | false => rfl
      | true => exact absurd ((eqL_iff da db).1 hq) e] at this
  have hla : da.length = 30 := ha.dlen
  have hlb : db.length = 30 := hb.dlen
  rw [X_call (by rfl), f_ref24_Same]
  unfold r_ref24_Same
  refine two_boxes ha hb _ fun b1 b2 σ2 x2 sa sb => ?_
  obtain ⟨u0, ra0, la0⟩ := sa.val0 0 (it := .int) rfl
  obtain ⟨w0, rb0, lb0⟩ := sb.val0 0 (it := .int) rfl
  have c0 : ∀ (t : TypeId) (K : Value → Bool), rBin PP .neq t u0 w0 K = K (.bool (!eqD (ats da 0) (ats db 0))) := fun t K => (cmp_int ra0 rb0 t K).2
  obtain ⟨u25, ra25, la25⟩ := sa.val0 25 (it := .is) rfl
  obtain ⟨w25, rb25, lb25⟩ := sb.val0 25 (it := .is) rfl
  have c25 : ∀ (K : Value → Bool), rBin PP .neq 4 u25 w25 K = K (.bool (!eqD (ats da 25) (ats db 25))) := fun K => (cmp_is ra25 rb25 K).2
  obtain ⟨u1, ra1, la1, ea1⟩ := sa.list0 1 (its' := itsText) rfl
  obtain ⟨w1, rb1, lb1, eb1⟩ := sb.list0 1 (its' := itsText) rfl
  obtain ⟨u22, ra22, la22, ea22⟩ := sa.list0 22 (its' := itsText) rfl
  obtain ⟨w22, rb22, lb22, eb22⟩ := sb.list0 22 (its' := itsText) rfl
  have pa2 := sa.part 2 20 (by decide)
  have pb2 := sb.part 2 20 (by decide)
  rw [Nat.zero_add] at pa2 pb2
  obtain ⟨ca2, ra2, la2⟩ := Stc.lda (its := itsRows) pa2 20 rfl
  obtain ⟨cb2, rb2, lb2⟩ := Stc.lda (its := itsRows) pb2 20 rfl
  obtain ⟨u23, ra23, la23, ea23⟩ := sa.list0 23 (its' := itsPair) rfl
  obtain ⟨w23, rb23, lb23, eb23⟩ := sb.list0 23 (its' := itsPair) rfl
  obtain ⟨u24, ra24, la24, ea24⟩ := sa.list0 24 (its' := itsPair) rfl
  obtain ⟨w24, rb24, lb24, eb24⟩ := sb.list0 24 (its' := itsPair) rfl
  obtain ⟨u26, ra26, la26, ea26⟩ := sa.list0 26 (its' := itsDealing) rfl
  obtain ⟨w26, rb26, lb26, eb26⟩ := sb.list0 26 (its' := itsDealing) rfl
  obtain ⟨u29, ra29, la29, ea29⟩ := sa.list0 29 (its' := itsDealing) rfl
  obtain ⟨w29, rb29, lb29, eb29⟩ := sb.list0 29 (its' := itsDealing) rfl
  obtain ⟨u28, ra28, la28, ea28⟩ := sa.list0 28 (its' := itsMsg) rfl
  obtain ⟨w28, rb28, lb28, eb28⟩ := sb.list0 28 (its' := itsMsg) rfl
  obtain ⟨u27, ra27, la27, ea27⟩ := sa.list0 27 (its' := itsDone) rfl
  obtain ⟨w27, rb27, lb27, eb27⟩ := sb.list0 27 (its' := itsDone) rfl
  have hx : Ext' σ2 σ2 := .refl σ2
  simp only [rFld_p, Nat.zero_add, la0 σ2 hx, lb0 σ2 hx, c0]
  cases q0 : eqD (ats da 0) (ats db 0) with
  | false =>
    simp only [shut_eq, rGuard_ft, rPick_t, rIf_t, Bool.not_false]
    exact hF (fun e => by subst e; rw [eqD_refl] at q0; cases q0) _ (x2.trans hx)
  | true =>
  simp only [shut_eq, rGuard_ff, rPick_f, Bool.not_true, la25 σ2 hx, lb25 σ2 hx, c25]
  cases q25 : eqD (ats da 25) (ats db 25) with
  | false =>
    simp only [rGuard_ft, rPick_t, rIf_t, Bool.not_false]
    exact hF (fun e => by subst e; rw [eqD_refl] at q25; cases q25) _ (x2.trans hx)
  | true =>
  simp only [rGuard_ff, rPick_f, Bool.not_true, la1 σ2 hx, lb1 σ2 hx]
  refine cmp_ref24_Strings hM (n + 3) (ra1.fr (hx.fr _)) (rb1.fr (hx.fr _)) fun σ3 y3 => ?_
  have hx3 := hx.trans y3
  simp only [unK_not]
  cases q1 : eqLL (esOf (ats da 1)) (esOf (ats db 1)) with
  | false =>
    simp only [rGuard_ft, rPick_t, rIf_t, Bool.not_false]
    exact hF (fun e => by subst e; rw [eqLL_refl] at q1; cases q1) _ (x2.trans hx3)
  | true =>
  simp only [rGuard_ff, rPick_f, Bool.not_true, la22 σ3 hx3, lb22 σ3 hx3]
  refine cmp_ref24_Strings hM (n + 3) (ra22.fr (hx3.fr _)) (rb22.fr (hx3.fr _)) fun σ4 y4 => ?_
  have hx4 := hx3.trans y4
  simp only [unK_not]
  cases q22 : eqLL (esOf (ats da 22)) (esOf (ats db 22)) with
  | false =>
    simp only [rGuard_ft, rPick_t, rIf_t, Bool.not_false]
    exact hF (fun e => by subst e; rw [eqLL_refl] at q22; cases q22) _ (x2.trans hx4)
  | true =>
  simp only [rGuard_ff, rPick_f, Bool.not_true, la2 σ4 hx4, lb2 σ4 hx4]
  refine cmp_ref17_Same hM (n + 1) (ra2.fr (hx4.fr _)) (rb2.fr (hx4.fr _)) fun σ5 y5 => ?_
  have hx5 := hx4.trans y5
  simp only [unK_not]
  cases q2 : eqL ((da.drop 2).take 20) ((db.drop 2).take 20) with
  | false =>
    simp only [rGuard_ft, rPick_t, rIf_t, Bool.not_false]
    exact hF (fun e => by subst e; rw [eqL_refl] at q2; cases q2) _ (x2.trans hx5)
  | true =>
  simp only [rGuard_ff, rPick_f, Bool.not_true, la23 σ5 hx5, lb23 σ5 hx5]
  refine cmp_ref18_Same hM (n + 3) (ra23.fr (hx5.fr _)) (rb23.fr (hx5.fr _)) fun σ6 y6 => ?_
  have hx6 := hx5.trans y6
  simp only [unK_not]
  cases q23 : eqLL (esOf (ats da 23)) (esOf (ats db 23)) with
  | false =>
    simp only [rGuard_ft, rPick_t, rIf_t, Bool.not_false]
    exact hF (fun e => by subst e; rw [eqLL_refl] at q23; cases q23) _ (x2.trans hx6)
  | true =>
  simp only [rGuard_ff, rPick_f, Bool.not_true, la24 σ6 hx6, lb24 σ6 hx6]
  refine cmp_ref18_Same hM (n + 3) (ra24.fr (hx6.fr _)) (rb24.fr (hx6.fr _)) fun σ7 y7 => ?_
  have hx7 := hx6.trans y7
  simp only [unK_not]
  cases q24 : eqLL (esOf (ats da 24)) (esOf (ats db 24)) with
  | false =>
    simp only [rGuard_ft, rPick_t, rIf_t, Bool.not_false]
    exact hF (fun e => by subst e; rw [eqLL_refl] at q24; cases q24) _ (x2.trans hx7)
  | true =>
  simp only [rGuard_ff, rPick_f, Bool.not_true, la26 σ7 hx7, lb26 σ7 hx7]
  refine cmp_ref24_dealings hM (n + 0) (ra26.fr (hx7.fr _)) (rb26.fr (hx7.fr _)) fun σ8 y8 => ?_
  have hx8 := hx7.trans y8
  simp only [unK_not]
  cases q26 : eqLL (esOf (ats da 26)) (esOf (ats db 26)) with
  | false =>
    simp only [rGuard_ft, rPick_t, rIf_t, Bool.not_false]
    exact hF (fun e => by subst e; rw [eqLL_refl] at q26; cases q26) _ (x2.trans hx8)
  | true =>
  simp only [rGuard_ff, rPick_f, Bool.not_true, la29 σ8 hx8, lb29 σ8 hx8]
  refine cmp_ref24_dealings hM (n + 0) (ra29.fr (hx8.fr _)) (rb29.fr (hx8.fr _)) fun σ9 y9 => ?_
  have hx9 := hx8.trans y9
  simp only [unK_not]
  cases q29 : eqLL (esOf (ats da 29)) (esOf (ats db 29)) with
  | false =>
    simp only [rGuard_ft, rPick_t, rIf_t, Bool.not_false]
    exact hF (fun e => by subst e; rw [eqLL_refl] at q29; cases q29) _ (x2.trans hx9)
  | true =>
  simp only [rGuard_ff, rPick_f, Bool.not_true, la28 σ9 hx9, lb28 σ9 hx9]
  refine cmp_ref14_Msgs hM (n + 2) (ra28.fr (hx9.fr _)) (rb28.fr (hx9.fr _)) fun σ10 y10 => ?_
  have hx10 := hx9.trans y10
  simp only [unK_not]
  cases q28 : eqLL (esOf (ats da 28)) (esOf (ats db 28)) with
  | false =>
    simp only [rGuard_ft, rPick_t, rIf_t, Bool.not_false]
    exact hF (fun e => by subst e; rw [eqLL_refl] at q28; cases q28) _ (x2.trans hx10)
  | true =>
  simp only [rGuard_ff, rPick_f, Bool.not_true, la27 σ10 hx10, lb27 σ10 hx10, ra27.listL.2, rb27.listL.2, rBin_neqN, lenL]
  cases q27 : decide ((esOf (ats da 27)).length = (esOf (ats db 27)).length) with
  | false =>
    simp only [rIf_t, Bool.not_false]
    exact hF (fun e => by subst e; simp at q27) _ (x2.trans hx10)
  | true =>
    simp only [Bool.not_true, rIf_f]
    have hN : (esOf (ats da 27)).length ≤ 140737488355328 := ra27.listL.1
    rw [X_most]
    refine cmp_ref24_Same_tail hM (n := n) sa sb ra27 rb27 la27 lb27 (of_decide_eq_true q27) (K := K) (esOf (ats da 27)).length 0 most σ10 (by omega) (by omega) hx10 fun σ9 x9 => ?_
    rw [List.drop_zero, List.drop_zero]
    cases he : eqLL (esOf (ats da 27)) (esOf (ats db 27)) with
    | false => exact hF (fun e => by subst e; rw [eqLL_refl] at he; cases he) _ (x2.trans x9)
    | true => exact hT (ats_ext hla hlb fun j hj => by
      have h : j = 0 ∨ j = 1 ∨ j = 2 ∨ j = 3 ∨ j = 4 ∨ j = 5 ∨ j = 6 ∨ j = 7 ∨ j = 8 ∨ j = 9 ∨ j = 10 ∨ j = 11 ∨ j = 12 ∨ j = 13 ∨ j = 14 ∨ j = 15 ∨ j = 16 ∨ j = 17 ∨ j = 18 ∨ j = 19 ∨ j = 20 ∨ j = 21 ∨ j = 22 ∨ j = 23 ∨ j = 24 ∨ j = 25 ∨ j = 26 ∨ j = 27 ∨ j = 28 ∨ j = 29 := by omega
      rcases h with rfl | rfl | rfl | rfl | rfl | rfl | rfl | rfl | rfl | rfl | rfl | rfl | rfl | rfl | rfl | rfl | rfl | rfl | rfl | rfl | rfl | rfl | rfl | rfl | rfl | rfl | rfl | rfl | rfl | rfl
      · exact (eqD_iff _ _).1 q0
      · exact by rw [ea1, eb1, (eqLL_iff _ _).1 q1]
      · exact part_eq (k := 2) (m := 20) hla hlb ((eqL_iff _ _).1 q2) 0 (by omega) (by omega)
      · exact part_eq (k := 2) (m := 20) hla hlb ((eqL_iff _ _).1 q2) 1 (by omega) (by omega)
      · exact part_eq (k := 2) (m := 20) hla hlb ((eqL_iff _ _).1 q2) 2 (by omega) (by omega)
      · exact part_eq (k := 2) (m := 20) hla hlb ((eqL_iff _ _).1 q2) 3 (by omega) (by omega)
      · exact part_eq (k := 2) (m := 20) hla hlb ((eqL_iff _ _).1 q2) 4 (by omega) (by omega)
      · exact part_eq (k := 2) (m := 20) hla hlb ((eqL_iff _ _).1 q2) 5 (by omega) (by omega)
      · exact part_eq (k := 2) (m := 20) hla hlb ((eqL_iff _ _).1 q2) 6 (by omega) (by omega)
      · exact part_eq (k := 2) (m := 20) hla hlb ((eqL_iff _ _).1 q2) 7 (by omega) (by omega)
      · exact part_eq (k := 2) (m := 20) hla hlb ((eqL_iff _ _).1 q2) 8 (by omega) (by omega)
      · exact part_eq (k := 2) (m := 20) hla hlb ((eqL_iff _ _).1 q2) 9 (by omega) (by omega)
      · exact part_eq (k := 2) (m := 20) hla hlb ((eqL_iff _ _).1 q2) 10 (by omega) (by omega)
      · exact part_eq (k := 2) (m := 20) hla hlb ((eqL_iff _ _).1 q2) 11 (by omega) (by omega)
      · exact part_eq (k := 2) (m := 20) hla hlb ((eqL_iff _ _).1 q2) 12 (by omega) (by omega)
      · exact part_eq (k := 2) (m := 20) hla hlb ((eqL_iff _ _).1 q2) 13 (by omega) (by omega)
      · exact part_eq (k := 2) (m := 20) hla hlb ((eqL_iff _ _).1 q2) 14 (by omega) (by omega)
      · exact part_eq (k := 2) (m := 20) hla hlb ((eqL_iff _ _).1 q2) 15 (by omega) (by omega)
      · exact part_eq (k := 2) (m := 20) hla hlb ((eqL_iff _ _).1 q2) 16 (by omega) (by omega)
      · exact part_eq (k := 2) (m := 20) hla hlb ((eqL_iff _ _).1 q2) 17 (by omega) (by omega)
      · exact part_eq (k := 2) (m := 20) hla hlb ((eqL_iff _ _).1 q2) 18 (by omega) (by omega)
      · exact part_eq (k := 2) (m := 20) hla hlb ((eqL_iff _ _).1 q2) 19 (by omega) (by omega)
      · exact by rw [ea22, eb22, (eqLL_iff _ _).1 q22]
      · exact by rw [ea23, eb23, (eqLL_iff _ _).1 q23]
      · exact by rw [ea24, eb24, (eqLL_iff _ _).1 q24]
      · exact (eqD_iff _ _).1 q25
      · exact by rw [ea26, eb26, (eqLL_iff _ _).1 q26]
      · exact by rw [ea27, eb27, (eqLL_iff _ _).1 he]
      · exact by rw [ea28, eb28, (eqLL_iff _ _).1 q28]
      · exact by rw [ea29, eb29, (eqLL_iff _ _).1 q29]) _ (x2.trans x9)

end Go.Am

namespace Go.Am
open Go.RowKit Go.MapKept Go.Proofs Go.Proofs.Rdr
theorem loopF_len {f : Nat → List D → Nat} (hf : ∀ n ds, n + 1 ≤ f n ds) {es : List (List D)} {n : Nat} (h : loopF f es n < 9000) : es.length ≤ 2000000 := by
  have := (loopF_bd (f := f) (fun _ => 0) (fun n ds => by have := hf n ds; omega) es n h).1
  omega
theorem fComs_up : ∀ (es : List (List D)) (n : Nat), n ≤ loopF fComs es n := loopF_up fun n ds => by unfold fComs; omega
theorem dealt_in {es : List (List D)} {n : Nat} (h : loopF fDealt es n < 9000) : ∀ x ∈ es, (esOf (ats x 4)).length ≤ 2000000 ∧ (esOf (ats x 5)).length ≤ 2000000 := by
  induction es generalizing n with
  | nil => intro x hx; cases hx
  | cons ds es ih =>
    by_cases hn : n < 9000
    · rw [loopF_lt hn] at h
      have h1 : fDealt n ds < 9000 := Nat.lt_of_le_of_lt (loopF_up (f := fDealt) (fun n ds => Nat.le_trans (by omega) (fComs_up _ _)) es _) h
      unfold fDealt at h1
      have h2 := Nat.lt_of_le_of_lt (fComs_up _ _) h1
      intro x hx
      rcases List.mem_cons.1 hx with e | hx
      · subst e
        exact ⟨loopF_len (f := fTold) (n := 0) (fun n ds => by unfold fTold; omega) (by omega), loopF_len (f := fTold) (n := 0) (fun n ds => by unfold fTold; omega) (by omega)⟩
      · exact ih h x hx
    · rw [loopF_ge hn] at h; exact absurd h hn
theorem backB_small {ds : List D} (hl : largeN ds < 9000) : BackB ds := by
  unfold largeN at hl
  have l19 := Nat.lt_of_le_of_lt (loopF_up (f := fSaid) (fun n ds => by unfold fSaid; omega) _ _) hl
  have l3 := Nat.lt_of_le_of_lt (loopF_up (f := fVotes) (fun n ds => by unfold fVotes; omega) _ _) l19
  have l27 : loopF fDones (esOf (ats ds 27)) (N1 ds) < 9000 := Nat.lt_of_le_of_lt (by unfold N3; exact Nat.le_add_right _ _) l3
  have l1 := Nat.lt_of_le_of_lt (loopF_up (f := fDones) (fun n ds => by unfold fDones; omega) _ _) l27
  unfold N1 at l1
  have l26 : loopF fDealt (esOf (ats ds 26)) 0 < 9000 := by omega
  have l29 : loopF fDealt (esOf (ats ds 29)) 0 < 9000 := by omega
  have fd : ∀ n ds, n + 1 ≤ fDealt n ds := fun n ds => Nat.le_trans (by omega) (fComs_up _ _)
  exact ⟨loopF_len (f := fVotes) (fun n ds => by unfold fVotes; omega) l19, loopF_len (f := fSaid) (fun n ds => by unfold fSaid; omega) hl, loopF_len fd l26, dealt_in l26, loopF_len (f := fDones) (fun n ds => by unfold fDones; omega) l27, loopF_len fd l29, dealt_in l29⟩
/-! what was read -/
end Go.Am

set_option linter.unusedVariables false
set_option maxRecDepth 100000
namespace Go.Am

/-! consistory/consistorylaw25.SaveOne -/
noncomputable def r_law25_SaveOne (x : EV) (a0 a1 : Value) (σ : St) (K : VK) : Bool :=
  boxK 34 a0 σ fun v0 σ =>
  boxK 34 a1 σ fun v1 σ =>
  rLdN 30 v0 σ fun v2 σ =>
  x.C c_law25_large [v2] σ fun v3 σ =>
  shut x.most (rGuard false v3 (fun k => rLdN 30 v1 σ fun v4 σ =>
  k v4 σ) σ fun v5 σ =>
  shut x.most (rGuard false v3 (fun k => x.C c_law25_large [v5] σ fun v6 σ =>
  k v6 σ) σ fun v7 σ =>
  shut x.most (rPick v3 (.bool true) v7 fun v8 =>
  shut x.most (rGuard false v8 (fun k => x.C c_law25_awake [] σ fun v9 σ =>
  k v9 σ) σ fun v10 σ =>
  shut x.most (rGuard false v8 (fun k => unK .not v10 fun v11 =>
  k v11 σ) σ fun v12 σ =>
  shut x.most (rPick v8 (.bool true) v12 fun v13 =>
  rIf v13 (x.C c_law25_awake [] σ fun v14 σ =>
  K v14 σ) (rLdN 30 v0 σ fun v15 σ =>
  x.C c_save_Encode [v15] σ fun v16 σ =>
  rExt 0 v16 fun v17 =>
  rExt 1 v16 fun v18 =>
  rLdN 30 v1 σ fun v19 σ =>
  x.C c_save_Encode [v19] σ fun v20 σ =>
  rExt 0 v20 fun v21 =>
  rExt 1 v20 fun v22 =>
  rBin PP .neq 37 v18 zI fun v23 =>
  shut x.most (rGuard false v23 (fun k => k v22 σ) σ fun v24 σ =>
  shut x.most (rGuard false v23 (fun k => rBin PP .neq 37 v24 zI fun v25 =>
  k v25 σ) σ fun v26 σ =>
  shut x.most (rPick v23 (.bool true) v26 fun v27 =>
  shut x.most (rGuard false v27 (fun k => k v17 σ) σ fun v28 σ =>
  shut x.most (rGuard false v27 (fun k => k v21 σ) σ fun v29 σ =>
  shut x.most (rGuard false v27 (fun k => rBin PP .eql 9 v28 v29 fun v30 =>
  k v30 σ) σ fun v31 σ =>
  shut x.most (rGuard false v27 (fun k => rLdN 30 v0 σ fun v32 σ =>
  k v32 σ) σ fun v33 σ =>
  shut x.most (rGuard false v27 (fun k => rLdN 30 v1 σ fun v34 σ =>
  k v34 σ) σ fun v35 σ =>
  shut x.most (rGuard false v27 (fun k => x.C c_law25_back [v33] σ fun v36 σ =>
  k v36 σ) σ fun v37 σ =>
  shut x.most (rGuardC false v27 v35 (fun k => rLdN 30 v1 σ fun v38 σ =>
  rSame v38 v35 k) (shut x.most (rGuard false v27 (fun k => x.C c_law25_back [v35] σ fun v39 σ =>
  k v39 σ) σ fun v40 σ =>
  shut x.most (rGuard false v27 (fun k => x.C c_ref24_Same [v37, v40] σ fun v41 σ =>
  k v41 σ) σ fun v42 σ =>
  shut x.most (rGuard false v27 (fun k => rBin PP .eql 4 v31 v42 fun v43 =>
  k v43 σ) σ fun v44 σ =>
  shut x.most (rPick v27 (.bool true) v44 fun v45 =>
  K v45 σ))))))))))))))))))))))
theorem f_law25_SaveOne (x : EV) (a0 a1 : Value) (σ : St) (K : VK) : fnX PP tbS c_law25_SaveOne (x.E PP) [a0, a1] σ K = r_law25_SaveOne x a0 a1 σ K := by kernel_rfl

end Go.Am

namespace Go.Am
open Go.RowKit Go.MapKept Go.Proofs Go.Proofs.Rdr
variable {most : Nat}
theorem not_t (k : Value → Bool) : unK .not (.bool true) k = k zF := rfl
theorem one_law {ds es : List D} (h : WFs itsAll ds) (k : WFs itsAll es) (e : (encode ds).2 = 0) (f : (encode es).2 = 0) : decide ((encode ds).1 = (encode es).1) = eqL ds es := by
  by_cases hq : ds = es
  · subst hq
    rw [decide_eq_true rfl, eqL_refl]
  · have h1 : ¬ (encode ds).1 = (encode es).1 := fun c => hq (encode_inj h k e f c)
    rw [decide_eq_false h1]
    cases hc : eqL ds es with
    | false => rfl
    | true => exact absurd ((eqL_iff ds es).1 hc) hq
theorem SaveOne_s (hM : 140737488355328 < most) {n : Nat} {σ : St} {cs cs2 : List Value} {ds ds2 : List D} (h : RdA σ (fun _ => False) itsAll cs ds) (k : RdA σ (fun _ => False) itsAll cs2 ds2) {K : VK}
    (hK : ∀ σ', K (.bool true) σ' = true) : (X most (n + 11)).C c_law25_SaveOne [.agg ⟨cs⟩, .agg ⟨cs2⟩] σ K = true := by
  rw [X_call (by rfl), f_law25_SaveOne]
  unfold r_law25_SaveOne
  have l1 : cs.length = 30 := h.len
  have l2 : cs2.length = 30 := k.len
  rw [boxK_agg (List.all_eq_true.2 h.one), boxK_agg (List.all_eq_true.2 k.one)]
  generalize hσ1 : (σ.new (.cells cs 34 .exact)).new (.cells cs2 34 .exact) = σ1
  have x1 : Ext' σ σ1 := by rw [← hσ1]; exact (Ext'.new _ _).trans (.new _ _)
  have n1 : σ1.n = σ.n + 2 := by rw [← hσ1]; rfl
  have o1 : σ1.obj σ.n = some (.cells cs 34 .exact) := by rw [← hσ1, obj_new_old (by rw [new_n]; omega), obj_new_same]
  have o2 : σ1.obj (σ.n + 1) = some (.cells cs2 34 .exact) := by rw [← hσ1]; exact obj_new_same
  show (rLdN 30 (pt σ.n 0) σ1 fun v2 σ => _) = true
  have again1 : ∀ (σ' : St), Ext' σ1 σ' → ∀ K, rLdN 30 (pt σ.n 0) σ' K = K (.agg ⟨cs⟩) σ' := fun σ' hx K => by
    rw [rLdN_h (by rw [hx.same _ (by omega)]; exact o1) (by omega), List.drop_zero, List.take_of_length_le (by omega)]
  have again2 : ∀ (σ' : St), Ext' σ1 σ' → ∀ K, rLdN 30 (.pointer (some ⟨(σ.new (.cells cs 34 .exact)).n, 0, none⟩)) σ' K = K (.agg ⟨cs2⟩) σ' := fun σ' hx K => by
    show rLdN 30 (pt (σ.n + 1) 0) σ' K = _
    rw [rLdN_h (by rw [hx.same _ (by omega)]; exact o2) (by omega), List.drop_zero, List.take_of_length_le (by omega)]
  have h1 := h.fr (x1.fr _)
  have k1 := k.fr (x1.fr _)
  rw [again1 σ1 (.refl _)]
  refine large_s (n := n + 7) hM h1 fun σ2 x2 => ?_
  by_cases hl : 9000 ≤ largeN ds
  · rw [decide_eq_true hl]
    simp only [shut_eq, rGuard_ft, rPick_t, rIf_t, awakeX_c]
    exact hK _
  rw [decide_eq_false hl]
  simp only [shut_eq, rGuard_ff, again2 σ2 x2]
  refine large_s (n := n + 7) hM (k1.fr (x2.fr _)) fun σ3 x3 => ?_
  by_cases hl2 : 9000 ≤ largeN ds2
  · rw [decide_eq_true hl2]
    simp only [rGuard_ft, rPick_t, rPick_f, rIf_t, awakeX_c]
    exact hK _
  rw [decide_eq_false hl2]
  have x13 := x2.trans x3
  simp only [rGuard_ff, rPick_f, awakeX_c, not_t, rIf_f, again1 σ3 x13]
  have hc := small (h1.fr (x13.fr _)) (show largeN ds < 9000 by omega)
  have kc := small (k1.fr (x13.fr _)) (show largeN ds2 < 9000 by omega)
  refine Encode_s (by omega) (n := n) (h1.fr (x13.fr _)) hc fun σ4 x4 => ?_
  have x14 := x13.trans x4
  rw [rExt_t, nthK_z, rExt_t, nthK_s, nthK_z, again2 σ4 x14]
  refine Encode_s (by omega) (n := n) (k1.fr (x14.fr _)) kc fun σ5 x5 => ?_
  have x15 := x14.trans x5
  rw [rExt_t, nthK_z, rExt_t, nthK_s, nthK_z, rBin_neqN]
  by_cases he : (encode ds).2 = 0
  · rw [decide_eq_true he]
    simp only [Bool.not_true, rGuard_ff]
    rw [rBin_neqN]
    by_cases hf : (encode ds2).2 = 0
    · rw [decide_eq_true hf]
      simp only [Bool.not_true, rPick_f, rGuard_ff]
      rw [rBin_eqlS]
      simp only [again1 σ5 x15, again2 σ5 x15]
      refine back_s (n := n + 8) (C := fun _ => False) (by omega) (fun _ h => h.elim) (h1.fr (x15.fr _)) (backB_small (show largeN ds < 9000 by omega)) fun σ6 c6 x6 r6 => ?_
      have x16 := x15.trans x6
      have k6 := k1.fr (x16.fr (fun _ => False))
      simp only [rGuardC_ff, again2 σ6 x16, rSame_v k6.sameV]
      refine back_s (n := n + 8) (C := fun _ => False) (by omega) (fun _ h => h.elim) k6 (backB_small (show largeN ds2 < 9000 by omega)) fun σ7 c7 x7 r7 => ?_
      refine cmp_ref24_Same hM (n + 5) (r6.fr (x7.fr _)) r7 fun σ8 _ => ?_
      rw [rBin_eqlB, one_law h.wfs k.wfs he hf, beq_self_eq_true]
      exact hK _
    · rw [decide_eq_false hf]
      simp only [Bool.not_false, rPick_f, rPick_t, rGuard_ft, rGuardC_ft]
      exact hK _
  · rw [decide_eq_false he]
    simp only [Bool.not_false, rPick_t, rGuard_ft, rGuardC_ft]
    exact hK _
end Go.Am

namespace Go.Am
open Go.RowKit Go.MapKept
theorem mapM_some {α β : Type} {f : α → Option β} : ∀ {l : List α} {xs : List β}, l.mapM f = some xs → xs.length = l.length ∧ ∀ (i : Nat) (a : α), l[i]? = some a → ∃ x, xs[i]? = some x ∧ f a = some x := by
  intro l
  induction l with
  | nil => intro xs h; simp at h; subst h; exact ⟨rfl, fun i a h => by simp at h⟩
  | cons b l ih =>
    intro xs h
    rw [List.mapM_cons] at h
    cases hb : f b with
    | none => rw [hb] at h; cases h
    | some y =>
      rw [hb] at h
      cases hl : l.mapM f with
      | none => rw [hl] at h; cases h
      | some ys =>
        rw [hl] at h
        have h : some (y :: ys) = some xs := h
        injection h with h
        subst h
        obtain ⟨i1, i2⟩ := ih hl
        refine ⟨by simp [i1], fun i a ha => ?_⟩
        cases i with
        | zero => simp at ha; subst ha; exact ⟨y, rfl, hb⟩
        | succ i => simpa using i2 i a (by simpa using ha)
def itsF (P : Program) (g : TypeId → Option (List It)) : List Field → Nat → Option (List It)
  | [], _ => some []
  | fd :: fs, off => if fd.offset = off then match g fd.type, sizeT P fd.type with
    | some its, some m => if m = its.length then (itsF P g fs (off + m)).map (its ++ ·) else none
    | _, _ => none else none
def itsT (P : Program) : Nat → TypeId → Option (List It)
  | 0, _ => none
  | f + 1, t => match P.underlying t with
    | some .bool => some [.is]
    | some (.int .u64) => some [.num]
    | some (.int .u8) => some [.kind]
    | some (.int .i64) => some [.int]
    | some .string => some [.text]
    | some (.slice e) => match itsT P f e, sizeT P e, P.bytesOf e with
      | some (i :: its), some m, _ + 1 => if m = its.length + 1 then (match i, its with | .num, [] => some [.nums] | i, its => some [.list (i :: its)]) else none
      | _, _, _ => none
    | some (.struct fs) => match itsF P (itsT P f) fs.toList 0, sizeT P t with
      | some its, some m => if m = its.length then some its else none
      | _, _ => none
    | _ => none
def Lay (P : Program) (w : World) (ρ : Rn) (σ : St) : Prop := Rel P w ρ σ w ∧ ∀ i o, σ.obj i = some o → o.reads = true
section
variable {P : Program} {w : World}
theorem Lay.add {ρ : Rn} {σ : St} (h : Lay P w ρ σ) (vs : List Value) (e : TypeId) (L : Loc) {cs : Array Value} {t : TypeId} {fz : Nat × Nat} (hb : w.heap[L.b]? = some (.cells cs t fz))
    (hc : ∀ (j : Nat) (v : Value), vs[j]? = some v → ∃ v', cs[L.s + j]? = some v' ∧ VR ρ v v') (hm : sizeT P e = some L.m) (hz : ∀ j, j < vs.length → ¬ (fz.1 ≤ L.s + j ∧ L.s + j < fz.2)) :
    Lay P w (ρ.put σ.n L) (σ.new (.cells vs e .rs)) ∧ Ext ρ (ρ.put σ.n L) := by
  obtain ⟨h, hr⟩ := h
  have hnone := h.dom σ.n (Nat.le_refl _)
  have he : Ext ρ (ρ.put σ.n L) := Rn.ext_put hnone
  have hput : ∀ j M, ρ.put σ.n L j = some M → (j = σ.n ∧ M = L) ∨ (j ≠ σ.n ∧ ρ j = some M) := fun j M hj => by
    unfold Rn.put at hj
    by_cases e : j = σ.n
    · rw [if_pos e] at hj; injection hj with hj; exact .inl ⟨e, hj.symm⟩
    · rw [if_neg e] at hj; exact .inr ⟨e, hj⟩
  have hobj : ∀ j x, (σ.new (.cells vs e .rs)).obj j = some x → (j = σ.n ∧ x = .cells vs e .rs) ∨ (j ≠ σ.n ∧ σ.obj j = some x) := fun j x hx => by
    rw [obj_new] at hx
    by_cases e : j = σ.n
    · rw [if_pos e] at hx; injection hx with hx; exact .inl ⟨e, hx.symm⟩
    · rw [if_neg e] at hx; exact .inr ⟨e, hx⟩
  have hreads : ∀ j x, (σ.new (.cells vs e .rs)).obj j = some x → x.reads = true := fun j x hx => by
    rcases hobj j x hx with ⟨_, rfl⟩ | ⟨_, hx⟩
    · rfl
    · exact hr j x hx
  have hlt : L.b < w.heap.size := (Array.getElem?_eq_some_iff.1 hb).1
  refine ⟨⟨⟨fun g hg => let ⟨M, h1, h2⟩ := h.glob g hg; ⟨M, he _ _ h1, h2⟩, fun j x hx => ?_, fun j hj => ?_, fun j x hx => ?_, fun j M hj => ?_, fun i j a b M N hij ha hb' _ _ _ _ _ => .inl ⟨hreads i a ha, hreads j b hb'⟩, fun j us e' olds hj i hi => ?_, h.base⟩, hreads⟩, he⟩
  · rcases hobj j x hx with ⟨rfl, rfl⟩ | ⟨_, hx⟩
    · exact ⟨L, cs, t, fz, Rn.put_same _ _ _, hb, fun j v hv => let ⟨v', a, b⟩ := hc j v hv; ⟨v', a, b.mono he⟩, hm, hz⟩
    · exact (h.objs j x hx).frame he fun _ _ => rfl
  · have hj' : σ.n + 1 ≤ j := hj
    unfold Rn.put; rw [if_neg (by omega)]; exact h.dom j (by omega)
  · rcases hobj j x hx with ⟨rfl, _⟩ | ⟨_, hx⟩
    · exact Nat.lt_succ_self _
    · exact Nat.lt_succ_of_lt (h.lt j x hx)
  · rcases hput j M hj with ⟨_, rfl⟩ | ⟨_, hM⟩
    · exact hlt
    · exact h.loc j M hM
  · have := hreads j _ hj
    simp [AObj.reads] at this
def Laying (P : Program) (w : World) (cs : List Value) (its : List It) : Prop :=
  ∀ (ρ : Rn) (σ : St), Lay P w ρ σ → ∃ ρ' σ' vs ds, Ext ρ ρ' ∧ Lay P w ρ' σ' ∧ Ext' σ σ' ∧ VRs ρ' vs cs ∧ RdA σ' (fun _ => False) its vs ds
theorem Ext'.none {σ σ' : St} (h : Ext' σ σ') : Fr' (fun _ => False) σ σ' (fun _ => False) := h.fr _
theorem Laying.plain {v : Value} {it : It} {d : D} (hf : flat0 v = true) (hr : ∀ σ, Rd σ (fun _ => False) it v d) : Laying P w [v] [it] := fun ρ σ h =>
  ⟨ρ, σ, [v], [d], .refl ρ, h, .refl σ, .cons (.flat hf) (.nil ρ), rfl, rfl, fun j it' v' d' a b c => by
    cases j with
    | zero => simp at a b c; subst a b c; exact hr σ
    | succ j => simp at a⟩
theorem Laying.append {a b : List Value} {x y : List It} (h : Laying P w a x) (k : Laying P w b y) : Laying P w (a ++ b) (x ++ y) := fun ρ σ hl => by
  obtain ⟨ρ1, σ1, v1, d1, e1, l1, x1, r1, s1⟩ := h ρ σ hl
  obtain ⟨ρ2, σ2, v2, d2, e2, l2, x2, r2, s2⟩ := k ρ1 σ1 l1
  refine ⟨ρ2, σ2, v1 ++ v2, d1 ++ d2, e1.trans e2, l2, x1.trans x2, (r1.mono e2).append r2, by simp [s1.len, s2.len], by simp [s1.dlen, s2.dlen], fun j it v d p q r => ?_⟩
  have s1' := s1.fr x2.none
  by_cases hj : j < x.length
  · rw [List.getElem?_append_left hj] at p
    rw [List.getElem?_append_left (by rw [s1.len]; exact hj)] at q
    rw [List.getElem?_append_left (by rw [s1.dlen]; exact hj)] at r
    exact s1'.rd j it v d p q r
  · rw [List.getElem?_append_right (by omega)] at p
    rw [List.getElem?_append_right (by rw [s1.len]; omega), s1.len] at q
    rw [List.getElem?_append_right (by rw [s1.dlen]; omega), s1.dlen] at r
    exact s2.rd _ it v d p q r
theorem lay_all {its : List It} : ∀ {css : List (List Value)}, (∀ cs ∈ css, Laying P w cs its) → ∀ (ρ : Rn) (σ : St), Lay P w ρ σ → ∃ (ρ' : Rn) (σ' : St) (vss : List (List Value)) (dss : List (List D)), Ext ρ ρ' ∧ Lay P w ρ' σ' ∧ Ext' σ σ' ∧ vss.length = css.length ∧ dss.length = css.length ∧
    (∀ (k : Nat) (vs cs : List Value), vss[k]? = some vs → css[k]? = some cs → VRs ρ' vs cs) ∧ ∀ (k : Nat) (vs : List Value) (ds : List D), vss[k]? = some vs → dss[k]? = some ds → RdA σ' (fun _ => False) its vs ds := by
  intro css
  induction css with
  | nil => intro _ ρ σ h; exact ⟨ρ, σ, [], [], .refl ρ, h, .refl σ, rfl, rfl, by simp, by simp⟩
  | cons cs css ih =>
    intro hall ρ σ h
    obtain ⟨ρ1, σ1, v1, d1, e1, l1, x1, r1, s1⟩ := hall cs (.head _) ρ σ h
    obtain ⟨ρ2, σ2, vss, dss, e2, l2, x2, n1, n2, r2, s2⟩ := ih (fun c hc => hall c (.tail _ hc)) ρ1 σ1 l1
    refine ⟨ρ2, σ2, v1 :: vss, d1 :: dss, e1.trans e2, l2, x1.trans x2, by simp [n1], by simp [n2], fun k vs cs' a b => ?_, fun k vs ds a b => ?_⟩
    · cases k with
      | zero => simp at a b; subst a b; exact r1.mono e2
      | succ k => exact r2 k vs cs' (by simpa using a) (by simpa using b)
    · cases k with
      | zero => simp at a b; subst a b; exact s1.fr x2.none
      | succ k => exact s2 k vs ds (by simpa using a) (by simpa using b)
theorem flatten_get {α : Type} {m : Nat} : ∀ {l : List (List α)}, (∀ x ∈ l, x.length = m) → ∀ (k j : Nat), j < m → l.flatten[k * m + j]? = (l[k]?).bind (·[j]?) := by
  intro l
  induction l with
  | nil => intro _ k j _; simp
  | cons x l ih =>
    intro h k j hj
    have hx := h x (.head _)
    cases k with
    | zero =>
      rw [List.flatten_cons, List.getElem?_append_left (by omega)]
      simp
    | succ k =>
      rw [List.flatten_cons, List.getElem?_append_right (by rw [hx, Nat.add_mul]; omega), hx]
      rw [show (k + 1) * m + j - m = k * m + j by rw [Nat.add_mul]; omega, ih (fun y hy => h y (.tail _ hy)) k j hj]
      simp
theorem flatten_len {α : Type} {m : Nat} : ∀ {l : List (List α)}, (∀ x ∈ l, x.length = m) → l.flatten.length = l.length * m := by
  intro l
  induction l with
  | nil => intro _; simp
  | cons x l ih => intro h; rw [List.flatten_cons, List.length_append, h x (.head _), ih fun y hy => h y (.tail _ hy), List.length_cons, Nat.add_mul]; omega
end
end Go.Am

namespace Go.Am
open Go.RowKit Go.MapKept
section
variable {P : Program} {w : World}
theorem cells_block {a : Addr} {n : Nat} {cs : List Value} (h : w.cells? 0 a n = some cs) (hn : 0 < n) : ∃ c t fz, w.heap[a.block]? = some (.cells c t fz) ∧ a.spot = none := by
  unfold World.cells? at h
  rw [if_pos (Nat.zero_le _)] at h
  obtain ⟨_, h2⟩ := mapM_some h
  obtain ⟨x, _, hx⟩ := h2 0 0 (by simp [hn])
  have hx : w.cell? a = some x := by simpa [Addr.add] using hx
  unfold World.cell? at hx
  cases hb : w.heap[a.block]? with
  | none => rw [hb] at hx; cases hx
  | some o =>
    rw [hb] at hx
    cases o with
    | cells c t fz =>
      simp only at hx
      cases hs : a.spot with
      | none => exact ⟨c, t, fz, rfl, rfl⟩
      | some s => rw [hs] at hx; simp at hx
    | _ => cases hx
theorem cells_get {b off n : Nat} {cs : List Value} {c : Array Value} {t : TypeId} {fz : Nat × Nat} (h : w.cells? 0 ⟨b, off, none⟩ n = some cs) (hb : w.heap[b]? = some (.cells c t fz)) : cs.length = n ∧ ∀ (j : Nat) (v : Value), cs[j]? = some v → c[off + j]? = some v := by
  unfold World.cells? at h
  rw [if_pos (Nat.zero_le _)] at h
  obtain ⟨h1, h2⟩ := mapM_some h
  have h1 : cs.length = n := by simpa using h1
  refine ⟨h1, fun j v hv => ?_⟩
  have hj : j < n := by rw [← h1]; exact (List.getElem?_eq_some_iff.1 hv).1
  obtain ⟨x, hx, hc⟩ := h2 j j (by simp [hj])
  rw [hv] at hx
  injection hx with hx
  subst hx
  rw [add_none] at hc
  unfold World.cell? at hc
  rw [hb] at hc
  simpa using hc
variable {H : Type} {enc : TypeId × Value → H}
theorem weights_all {e : TypeId} {x : Nat} : ∀ {l : List (DataW H)} {d : DataW H}, d ∈ l → x ∈ d.weights P e → x ∈ DataW.weightsAll P e l := by
  intro l
  induction l with
  | nil => intro d h; cases h
  | cons y l ih =>
    intro d h hx
    rw [DataW.weightsAll]
    rcases List.mem_cons.1 h with rfl | h
    · exact List.mem_append.2 (.inl hx)
    · exact List.mem_append.2 (.inr (ih h hx))
theorem itsF_spec {g : TypeId → Option (List It)} : ∀ {fs : List Field} {off : Nat} {its : List It}, itsF P g fs off = some its → ∀ (cs : List Value) (F : TypeId → List Value → Option (DataW H × List MemPlace)) (xs : List (DataW H × List MemPlace)),
    (fs.mapM fun f => F f.type ((cs.drop f.offset).take (P.cellsOf f.type))) = some xs → cs.length = off + its.length →
    (∀ (k : Nat) (f : Field) (x : DataW H × List MemPlace), fs[k]? = some f → xs[k]? = some x → ∀ (i : List It) (c : List Value), g f.type = some i → F f.type c = some x → Laying P w c i) → Laying P w (cs.drop off) its := by
  intro fs
  induction fs with
  | nil =>
    intro off its h cs F xs _ hl _
    unfold itsF at h
    injection h with h
    subst h
    rw [List.drop_of_length_le (by simp at hl; omega)]
    exact fun ρ σ hl => ⟨ρ, σ, [], [], .refl ρ, hl, .refl σ, .nil ρ, rfl, rfl, fun j it v d a => by simp at a⟩
  | cons f fs ih =>
    intro off its h cs F xs hx hl hall
    unfold itsF at h
    split at h
    · rename_i hoff
      split at h
      · rename_i i m hg hm
        split at h
        · rename_i hmi
          cases hr : itsF P g fs (off + m) with
          | none => rw [hr] at h; cases h
          | some rest =>
            rw [hr] at h
            have h : some (i ++ rest) = some its := h
            injection h with h
            subst h
            obtain ⟨x1, x2⟩ := mapM_some hx
            obtain ⟨x, hx0, hF⟩ := x2 0 f rfl
            have hcm : P.cellsOf f.type = m := by
              unfold Program.cellsOf
              unfold sizeT at hm
              rw [hm]; rfl
            rw [hcm, hoff] at hF
            have h1 : Laying P w ((cs.drop off).take m) i := hall 0 f x rfl hx0 i _ hg hF
            have hxs : ∃ ys, xs = x :: ys := by
              cases xs with
              | nil => simp at hx0
              | cons y ys => simp at hx0; subst hx0; exact ⟨ys, rfl⟩
            obtain ⟨ys, rfl⟩ := hxs
            have hys : (fs.mapM fun f => F f.type ((cs.drop f.offset).take (P.cellsOf f.type))) = some ys := by
              rw [List.mapM_cons] at hx
              cases ha : F f.type ((cs.drop f.offset).take (P.cellsOf f.type)) with
              | none => rw [ha] at hx; cases hx
              | some y =>
                rw [ha] at hx
                cases hb : (fs.mapM fun f => F f.type ((cs.drop f.offset).take (P.cellsOf f.type))) with
                | none => rw [hb] at hx; cases hx
                | some zs =>
                  rw [hb] at hx
                  have hx : some (y :: zs) = some (x :: ys) := hx
                  injection hx with hx
                  injection hx with _ hx
                  rw [hx]
            have h2 := ih hr cs F ys hys (by rw [hl, List.length_append]; omega) fun k f' x' a b => hall (k + 1) f' x' (by simpa using a) (by simpa using b)
            have := h1.append h2
            rwa [show (cs.drop off).take m ++ cs.drop (off + m) = cs.drop off by rw [← List.drop_drop]; exact List.take_append_drop _ _] at this
        · cases h
      · cases h
    · cases h
end
end Go.Am

namespace Go.Am
open Go.RowKit Go.MapKept
section
variable {P : Program} {w : World} {H : Type} {enc : TypeId × Value → H}
theorem wf_range {k : IntKind} {n : Int} (h : (Lit.int k n).wf = true) : k.min ≤ n ∧ n ≤ k.max := by
  unfold Lit.wf at h
  simpa using h
theorem lay_slice {a : Addr} {len cap m : Nat} {e : TypeId} {its : List It} {els : List (DataW H × List MemPlace)} {F : List Value → Option (DataW H × List MemPlace)} (hm : its.length = m) (hpos : 0 < m) (hsz : sizeT P e = some m) (_hcell : P.cellsOf e = m) (hlc : len ≤ cap)
    (hel : (List.range len).mapM (fun i => (w.cells? 0 (a.add (i * m)) m).bind F) = some els) (hN : len ≤ 140737488355328)
    (hsp : cap = 0 ∨ ∃ c t fz, w.heap[a.block]? = some (.cells c t fz) ∧ a.spot = none)
    (hz : ∀ i, i < len * m → w.frozen? ⟨a.block, a.off + i, none⟩ = false)
    (hall : ∀ x ∈ els, ∀ cs, F cs = some x → Laying P w cs its) :
    ∀ (ρ : Rn) (σ : St), Lay P w ρ σ → ∃ ρ' σ' v ds, Ext ρ ρ' ∧ Lay P w ρ' σ' ∧ Ext' σ σ' ∧ VR ρ' v (.slice (some a) len cap) ∧ Rd σ' (fun _ => False) (.list its) v (.l ds) := by
  intro ρ σ hl
  rcases Nat.eq_zero_or_pos cap with hc0 | hc0
  · have : len = 0 := by omega
    subst this hc0
    obtain ⟨b, o, sp⟩ := a
    refine ⟨ρ, σ, .slice (some ⟨b, o, some ((match sp with | none => 0 | some k => k + 1) + 2)⟩) 0 0, [], .refl ρ, hl, .refl σ, .sliceR ?_, .emptyR⟩
    cases sp <;> rfl
  · rcases hsp with hsp | ⟨c, t, fz, hb, hspot⟩
    · omega
    · obtain ⟨b, o, sp⟩ := a
      have hspot : sp = none := hspot
      subst hspot
      obtain ⟨h1, h2⟩ := mapM_some hel
      have h1 : els.length = len := by simpa using h1
      -- the elements' cells
      let css : List (List Value) := (List.range len).map fun i => (w.cells? 0 ((⟨b, o, none⟩ : Addr).add (i * m)) m).getD []
      have hcss : ∀ i, i < len → ∃ cs x, css[i]? = some cs ∧ w.cells? 0 ⟨b, o + i * m, none⟩ m = some cs ∧ els[i]? = some x ∧ F cs = some x := by
        intro i hi
        obtain ⟨x, hx, hF⟩ := h2 i i (by simp [hi])
        rw [add_none] at hF
        cases hcs : w.cells? 0 ⟨b, o + i * m, none⟩ m with
        | none => rw [hcs] at hF; cases hF
        | some cs =>
          rw [hcs] at hF
          refine ⟨cs, x, ?_, rfl, hx, hF⟩
          show ((List.range len).map fun i => (w.cells? 0 ((⟨b, o, none⟩ : Addr).add (i * m)) m).getD [])[i]? = some cs
          rw [List.getElem?_map, List.getElem?_range hi]
          show some ((w.cells? 0 ((⟨b, o, none⟩ : Addr).add (i * m)) m).getD []) = some cs
          rw [add_none, hcs]; rfl
      have hcl : css.length = len := by show ((List.range len).map _).length = len; simp
      have hlay : ∀ cs ∈ css, Laying P w cs its := by
        intro cs hcs
        obtain ⟨i, hi⟩ := List.getElem?_of_mem hcs
        have hil : i < len := by rw [← hcl]; exact (List.getElem?_eq_some_iff.1 hi).1
        obtain ⟨cs', x, g1, _, g3, g4⟩ := hcss i hil
        rw [hi] at g1
        injection g1 with g1
        subst g1
        exact hall x (List.mem_of_getElem? g3) cs g4
      obtain ⟨ρ1, σ1, vss, dss, e1, l1, x1, n1, n2, r1, s1⟩ := lay_all hlay ρ σ hl
      have hvl : ∀ vs ∈ vss, vs.length = m := by
        intro vs hvs
        obtain ⟨i, hi⟩ := List.getElem?_of_mem hvs
        have hil : i < dss.length := by rw [n2, ← n1]; exact (List.getElem?_eq_some_iff.1 hi).1
        rw [(s1 i vs _ hi (List.getElem?_eq_getElem hil)).len, hm]
      have hfl := flatten_len hvl
      have hA : ∀ (j : Nat) (v : Value), vss.flatten[j]? = some v → ∃ v', c[o + j]? = some v' ∧ VR ρ1 v v' := by
        intro j v hj
        have hjl : j < len * m := by
          have := (List.getElem?_eq_some_iff.1 hj).1
          rw [hfl, n1, hcl] at this; exact this
        have hk : j / m < len := Nat.div_lt_of_lt_mul (by rw [Nat.mul_comm]; exact hjl)
        have hjm : j % m < m := Nat.mod_lt _ hpos
        have ej : j = (j / m) * m + j % m := by rw [Nat.mul_comm]; exact (Nat.div_add_mod j m).symm
        rw [ej, flatten_get hvl _ _ hjm] at hj
        obtain ⟨cs, x, g1, g2, g3, g4⟩ := hcss (j / m) hk
        cases hvk : vss[j / m]? with
        | none => rw [hvk] at hj; cases hj
        | some vs =>
          rw [hvk] at hj
          have hvr := r1 _ vs cs hvk g1
          obtain ⟨v', hv', hr'⟩ := hvr.get hj
          obtain ⟨_, q2⟩ := cells_get g2 hb
          have := q2 _ _ hv'
          exact ⟨v', by rw [Nat.add_assoc, ← ej] at this; exact this, hr'⟩
      have hB : ∀ j, j < vss.flatten.length → ¬ (fz.1 ≤ o + j ∧ o + j < fz.2) := by
        intro j hj
        have hjl : j < len * m := by rw [hfl, n1, hcl] at hj; exact hj
        have := hz j hjl
        unfold World.frozen? at this
        rw [hb] at this
        intro ⟨q1, q2⟩
        simp at this
        have := this q1
        omega
      obtain ⟨l2, e2⟩ := l1.add vss.flatten e ⟨b, o, 0, m⟩ hb hA hsz hB
      have x2 := Ext'.new σ1 (.cells vss.flatten e .rs)
      refine ⟨_, _, .slice (some ⟨σ1.n, 0, none⟩) len cap, dss, e1.trans e2, l2, x1.trans x2, ?_, ?_⟩
      · have := VR.slice (ρ := ρ1.put σ1.n ⟨b, o, 0, m⟩) (o := 0) (n := len) (c := cap) (Rn.put_same ρ1 σ1.n ⟨b, o, 0, m⟩)
        exact this
      · refine .row (e := e) (ck := .rs) rfl (Nat.lt_succ_self _) (fun h => h) obj_new_same (.inl rfl) (by rw [n2, hcl]) (by rw [hfl, n1, hcl, hm]; omega) (fun ds hds => ?_) hN (fun k ds j it v d a1 a2 a3 a4 => ?_)
        · obtain ⟨i, hi⟩ := List.getElem?_of_mem hds
          have hil : i < vss.length := by rw [n1, ← n2]; exact (List.getElem?_eq_some_iff.1 hi).1
          exact (s1 i _ ds (List.getElem?_eq_getElem hil) hi).dlen
        · have hjm : j < m := by rw [← hm]; exact (List.getElem?_eq_some_iff.1 a2).1
          rw [hm, Nat.zero_add, flatten_get hvl k j hjm] at a3
          cases hk : vss[k]? with
          | none => rw [hk] at a3; cases a3
          | some vs =>
            rw [hk] at a3
            exact ((s1 k vs ds hk a1).fr x2.none).rd j it v d a2 a3 a4
theorem weights_each {y : Nat} : ∀ {fs : List Field} {xs : List (DataW H × List MemPlace)} {j : Nat} {f : Field} {x : DataW H × List MemPlace}, fs[j]? = some f → xs[j]? = some x → y ∈ x.1.weights P f.type → y ∈ DataW.weightsEach P (fs.map (·.type)) (xs.map (·.1)) := by
  intro fs
  induction fs with
  | nil => intro xs j f x h; simp at h
  | cons g fs ih =>
    intro xs j f x h1 h2 h3
    cases xs with
    | nil => simp at h2
    | cons z xs =>
      rw [List.map_cons, List.map_cons, DataW.weightsEach]
      cases j with
      | zero => simp at h1 h2; subst h1 h2; exact List.mem_append.2 (.inl h3)
      | succ j => exact List.mem_append.2 (.inr (ih (by simpa using h1) (by simpa using h2) h3))
theorem lay (sp : Nat → Bool) (hsp : ∀ b, sp b = true) : ∀ (F k : Nat) (t : TypeId) (cs : List Value) (d : DataW H) (ps : List MemPlace), DataW.trod enc P w 0 sp true F t cs = some (d, ps) → (∀ b off, MemPlace.cell b off ∈ ps → w.frozen? ⟨b, off, none⟩ = false) →
    (∀ x ∈ d.weights P t, x ≤ reachBytes) → ∀ its, itsT P k t = some its → Laying P w cs its := by
  intro F
  induction F with
  | zero => intro k t cs d ps h; cases h
  | succ F ih =>
    intro k t cs d ps h hz hw its hi
    cases k with
    | zero => cases hi
    | succ k =>
      unfold itsT at hi
      unfold DataW.trod at h
      cases hu : P.underlying t with
      | none => rw [hu] at hi; cases hi
      | some td =>
        rw [hu] at hi h
        cases td with
        | bool =>
          injection hi with hi; subst hi
          match cs, h with
          | [.bool b], _ => exact Laying.plain rfl fun σ => .is
        | int kd =>
          match cs, h with
          | [.int k' n], h =>
            simp only at h
            split at h
            · rename_i hk
              obtain ⟨rfl, hwf⟩ := hk
              obtain ⟨r1, r2⟩ := wf_range hwf
              cases k' with
              | u64 =>
                injection hi with hi; subst hi
                have r1 : (0 : Int) ≤ n := r1
                have r2 : n ≤ 18446744073709551615 := r2
                obtain ⟨m, rfl⟩ := Int.eq_ofNat_of_zero_le r1
                exact Laying.plain rfl fun σ => .num (z := m) (by omega)
              | u8 =>
                injection hi with hi; subst hi
                have r1 : (0 : Int) ≤ n := r1
                have r2 : n ≤ 255 := r2
                obtain ⟨m, rfl⟩ := Int.eq_ofNat_of_zero_le r1
                exact Laying.plain rfl fun σ => .kind (z := m) (by omega)
              | i64 =>
                injection hi with hi; subst hi
                have r1 : (-9223372036854775808 : Int) ≤ n := r1
                have r2 : n ≤ 9223372036854775807 := r2
                exact Laying.plain rfl fun σ => .int r1 (by omega)
              | _ => cases hi
            · cases h
        | string =>
          injection hi with hi; subst hi
          match cs, h with
          | [.string s], h =>
            simp only at h
            split at h
            · injection h with h
              injection h with h _
              subst h
              obtain ⟨⟨l⟩⟩ := s
              have := hw l.length (by simp [DataW.weights])
              exact Laying.plain rfl fun σ => .text (l := l) (by unfold reachBytes at this; omega)
            · cases h
        | slice e =>
          simp only at hi
          split at hi
          · rename_i i0 its0 m by0 hit hsz hby
            split at hi
            · rename_i hm
              have hcell : P.cellsOf e = m := by unfold Program.cellsOf; unfold sizeT at hsz; rw [hsz]; rfl
              have hfin : (∀ (ρ : Rn) (σ : St), Lay P w ρ σ → ∃ ρ' σ' v ds, Ext ρ ρ' ∧ Lay P w ρ' σ' ∧ Ext' σ σ' ∧ VRs ρ' [v] cs ∧ Rd σ' (fun _ => False) (.list (i0 :: its0)) v (.l ds)) → Laying P w cs its := by
                intro hgo ρ σ hl
                obtain ⟨ρ', σ', v, ds, g1, g2, g3, g4, g5⟩ := hgo ρ σ hl
                refine ⟨ρ', σ', [v], [.l ds], g1, g2, g3, g4, ?_⟩
                split at hi
                · injection hi with hi; subst hi
                  exact ⟨rfl, rfl, fun j it v' d' a b c => by
                    cases j with
                    | zero => simp at a b c; subst a b c; exact .nums g5
                    | succ j => simp at a⟩
                · injection hi with hi; subst hi
                  exact ⟨rfl, rfl, fun j it v' d' a b c => by
                    cases j with
                    | zero => simp at a b c; subst a b c; exact g5
                    | succ j => simp at a⟩
              match cs, h, hfin with
              | [.slice none 0 0], _, hfin => exact hfin fun ρ σ hl => ⟨ρ, σ, _, [], .refl ρ, hl, .refl σ, .cons (.flat rfl) (.nil ρ), .empty⟩
              | [.slice (some a) len cap], h, hfin =>
                simp only at h
                split at h
                · rename_i hcond
                  rw [hcell] at h
                  cases hels : (List.range len).mapM (fun i => (w.cells? 0 (a.add (i * m)) m).bind (DataW.trod enc P w 0 sp true F e)) with
                  | none => rw [hels] at h; cases h
                  | some els =>
                    rw [hels] at h
                    simp only [Option.bind_some, hsp, if_true] at h
                    cases hrest : (List.range (cap - len)).mapM (fun j => (w.cells? 0 (a.add ((len + j) * m)) m).bind (DataW.trod enc P w 0 sp true F e)) with
                    | none => rw [hrest] at h; cases h
                    | some rest =>
                      rw [hrest] at h
                      injection h with h
                      injection h with hd hps
                      subst hd hps
                      obtain ⟨n1, n2⟩ := mapM_some hels
                      obtain ⟨n3, n4⟩ := mapM_some hrest
                      have n1 : els.length = len := by simpa using n1
                      have n3 : rest.length = cap - len := by simpa using n3
                      have hwt : (els.length + rest.length) * P.bytesOf e ≤ reachBytes := hw _ (by rw [DataW.weights, hu]; simp)
                      rw [hby, n1] at hwt
                      have hlen47 : len ≤ 140737488355328 := by
                        unfold reachBytes at hwt
                        have : len ≤ (len + rest.length) * by0.succ := Nat.le_trans (Nat.le_add_right _ _) (Nat.le_mul_of_pos_right _ (Nat.succ_pos _))
                        omega
                      refine hfin fun ρ σ hl => ?_
                      obtain ⟨ρ', σ', v, ds, g1, g2, g3, g4, g5⟩ := lay_slice (F := DataW.trod enc P w 0 sp true F e) (its := i0 :: its0) (e := e) (by rw [hm]; rfl) (by omega) hsz hcell hcond.2.1 hels hlen47 (by
                        rcases Nat.eq_zero_or_pos cap with h0 | h0
                        · exact .inl h0
                        · right
                          rcases Nat.eq_zero_or_pos len with h1 | h1
                          · obtain ⟨x, _, hx⟩ := n4 0 0 (List.getElem?_range (by omega))
                            cases hcs : w.cells? 0 (a.add ((len + 0) * m)) m with
                            | none => rw [hcs] at hx; cases hx
                            | some c0 =>
                              rw [h1] at hcs
                              simp only [Nat.add_zero, Nat.zero_mul] at hcs
                              exact cells_block (by simpa [Addr.add] using hcs) (by omega)
                          · obtain ⟨x, _, hx⟩ := n2 0 0 (List.getElem?_range (by omega))
                            cases hcs : w.cells? 0 (a.add (0 * m)) m with
                            | none => rw [hcs] at hx; cases hx
                            | some c0 =>
                              simp only [Nat.zero_mul] at hcs
                              exact cells_block (by simpa [Addr.add] using hcs) (by omega)) (fun i hi => by
                        refine hz a.block (a.off + i) (List.mem_append.2 (.inl ?_))
                        unfold MemPlace.row
                        refine List.mem_map.2 ⟨i, List.mem_range.2 ?_, rfl⟩
                        rw [n1]
                        have : len * m ≤ (len + rest.length) * m := Nat.mul_le_mul_right _ (Nat.le_add_right _ _)
                        omega) (fun x hx cs' hF => by
                        obtain ⟨dx, px⟩ := x
                        refine ih k e cs' dx px hF (fun b off hb => hz b off (List.mem_append.2 (.inr (List.mem_flatMap.2 ⟨(dx, px), List.mem_append.2 (.inl hx), hb⟩)))) (fun y hy => hw y ?_) _ hit
                        rw [DataW.weights, hu]
                        exact List.mem_cons_of_mem _ (List.mem_append.2 (.inl (weights_all (List.mem_map.2 ⟨(dx, px), hx, rfl⟩) hy)))) ρ σ hl
                      exact ⟨ρ', σ', v, ds, g1, g2, g3, .cons g4 (.nil ρ'), g5⟩
                · cases h
            · cases hi
          · cases hi
        | struct fs =>
          simp only at hi h
          have hi : ∃ m, itsF P (itsT P k) fs.toList 0 = some its ∧ sizeT P t = some m ∧ m = its.length := by
            split at hi
            · rename_i its' m' h1 h2
              split at hi
              · rename_i h3
                injection hi with hi
                subst hi
                exact ⟨m', h1, h2, h3⟩
              · cases hi
            · cases hi
          obtain ⟨mm, hi, hsz, hmm⟩ := hi
          have hct : P.cellsOf t = mm := by unfold Program.cellsOf; unfold sizeT at hsz; rw [hsz]; rfl
          split at h
          · rename_i hlen
            cases hxs : (fs.toList.mapM fun f => DataW.trod enc P w 0 sp true F f.type ((cs.drop f.offset).take (P.cellsOf f.type))) with
            | none => rw [hxs] at h; cases h
            | some xs =>
              rw [hxs] at h
              injection h with h
              injection h with hd hps
              subst hd hps
              have := itsF_spec (w := w) hi cs (fun t c => DataW.trod enc P w 0 sp true F t c) xs hxs (by omega) (fun j f x hf hx i c hg hF => by
                obtain ⟨dx, px⟩ := x
                refine ih k f.type c dx px hF (fun b off hb => hz b off (List.mem_flatMap.2 ⟨(dx, px), List.mem_of_getElem? hx, hb⟩)) (fun y hy => hw y ?_) i hg
                rw [DataW.weights, hu]
                exact weights_each hf hx hy)
              rwa [List.drop_zero] at this
          · cases h
        | _ => cases hi
end
end Go.Am

namespace Go.Am
open Go.RowKit Go.MapKept Go.Proofs Go.Proofs.Rdr
theorem Lay.none {P : Program} {w : World} (hsz : P.globals.size ≤ w.heap.size) : Lay P w (Rn.globals P.globals.size) (St.none P.globals.size) := by
  refine ⟨Rel.none hsz, fun i o h => ?_⟩
  have : (St.none P.globals.size).obj i = Option.none := rfl
  rw [this] at h
  cases h
theorem xAt_C (P : Program) (tb : FuncId → LiveT) (ov : FuncId → Option (List Value → St → VK → Bool)) (most n : Nat) : (xAt P tb ov most n).C = (envX P tb ov most n).call := rfl
theorem its34 : itsT PP 8 34 = some itsAll := by kernel_rfl
theorem called_one {H : Type} {enc : TypeId × Value → H} {W : World} {cs cs2 : Array Value} {d d2 : DataW H} {p p2 : List MemPlace} (hl : Laid [] W) (h : DataW.Trod enc PP W 0 (fun _ => true) true 34 (.agg cs) d p) (hz : ∀ b off, MemPlace.cell b off ∈ p → W.frozen? ⟨b, off, none⟩ = false)
    (hw : ∀ x ∈ d.weights PP 34, x ≤ reachBytes) (k : DataW.Trod enc PP W 0 (fun _ => true) true 34 (.agg cs2) d2 p2) (kz : ∀ b off, MemPlace.cell b off ∈ p2 → W.frozen? ⟨b, off, none⟩ = false) (kw : ∀ x ∈ d2.weights PP 34, x ≤ reachBytes) :
    Calls PP c_law25_SaveOne #[.agg cs, .agg cs2] W (fun e w' => e = .returned (.bool true) ∧ Below W.heap.size W w') := by
  have hsz : PP.globals.size ≤ W.heap.size := by rw [show PP.globals.size = 0 from gsz]; exact Nat.zero_le _
  obtain ⟨F, hF⟩ := h
  obtain ⟨G, kF⟩ := k
  obtain ⟨ρ1, σ1, vs, ds, _, hlay1, x1, hvs, hr⟩ := lay (P := PP) (w := W) (fun _ => true) (fun _ => rfl) F 8 34 cs.toList d p hF hz hw itsAll its34 _ _ (Lay.none hsz)
  obtain ⟨ρ2, σ2, us, es, e2, hlay2, x2, hus, kr⟩ := lay (P := PP) (w := W) (fun _ => true) (fun _ => rfl) G 8 34 cs2.toList d2 p2 kF kz kw itsAll its34 _ _ hlay1
  have hr2 := hr.fr (x2.fr _)
  have hvs2 := hvs.mono e2
  obtain ⟨most, hM⟩ : ∃ most : Nat, 140737488355328 < most := ⟨_, Nat.lt_succ_self _⟩
  obtain ⟨m, -⟩ : ∃ m : Nat, m = 0 := ⟨0, rfl⟩
  have hk := SaveOne_s hM (n := m) hr2 kr (K := fun v _ => isTrue v) (fun _ => rfl)
  rw [X_eq, xAt_C] at hk
  obtain ⟨_, hcall⟩ := (envX_sound (P := PP) (w0 := W) (tb := tbS) (most := most) (ovS1_ok hsz hl) namesS mixedS (m + 11)).1 c_law25_SaveOne [.agg ⟨vs⟩, .agg ⟨us⟩] σ2 (fun v _ => isTrue v) ρ2 W [.agg cs, .agg cs2] hk hlay2.1
    (.cons (.agg (by simpa using hvs2.1) (fun k v v' a b => hvs2.2 k v v' a b)) (.cons (.agg (by simpa using hus.1) (fun k v v' a b => hus.2 k v v' a b)) (.nil _)))
  refine Calls.mono (callsIn_wide.1 hcall) ?_
  rintro e w' ⟨v', rfl, ρ3, v, σ3, hk2, hv, hrel, _⟩
  cases v with
  | bool b =>
    have hb : b = true := hk2
    subst hb
    rw [hv.of_flat rfl]
    exact ⟨rfl, hrel.base⟩
  | _ => cases hk2
end Go.Am
