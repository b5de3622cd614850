/- Functions' codes, written out (by a program), each seen to be so by the kernel. -/
import Derived.Test.YtcikbnhbihljmaaGf
import Derived.Test.YtcikbnhbihljmaaGe

set_option linter.unusedVariables false
set_option maxRecDepth 100000
namespace Go.Am

/-! consistory/consistorylaw16.BallotState -/
noncomputable def l_law16_BallotState_rrrrrlrd (x : VE) (m : Nat) (t4 t5 t13 t15 t16 : V) (σ : Hp) (K : KV) : Prop := vjmpL PP tbS c_law16_BallotState x [.r, .r, .r, .r, .r, .l, .r, .d] m [] [t4, t5, t13, t15, t16] σ K
noncomputable def l_law16_BallotState_rrrrrrrrrrlrd (x : VE) (m : Nat) (t5 t13 t15 t17 t18 t20 t21 : V) (σ : Hp) (K : KV) : Prop := vjmpL PP tbS c_law16_BallotState x [.r, .r, .r, .r, .r, .r, .r, .r, .r, .r, .l, .r, .d] m [] [t5, t13, t15, t17, t18, t20, t21] σ K
noncomputable def l_law16_BallotState_rrrrrrrrrrrrlrd (x : VE) (m : Nat) (t5 t13 t15 t18 t20 t22 : V) (σ : Hp) (K : KV) : Prop := vjmpL PP tbS c_law16_BallotState x [.r, .r, .r, .r, .r, .r, .r, .r, .r, .r, .r, .r, .l, .r, .d] m [] [t5, t13, t15, t18, t20, t22] σ K
noncomputable def r_law16_BallotState (x : VE) (a0 a1 a2 a3 a4 a5 : V) (σ : Hp) (K : KV) : Prop :=
 x.call c_law16_works [] σ fun v0 σ =>
 vUn .not v0 fun v1 =>
 shutP x.most (vGuard false v1 (fun k => k a4 σ) σ fun v2 σ =>
 shutP x.most (vGuard false v1 (fun k => x.call c_law16_long [v2] σ fun v3 σ =>
 k v3 σ) σ fun v4 σ =>
 shutP x.most (vPick v1 (.bool true) v4 fun v5 =>
 shutP x.most (vGuard false v5 (fun k => k a5 σ) σ fun v6 σ =>
 shutP x.most (vGuard false v5 (fun k => x.call c_law16_long [v6] σ fun v7 σ =>
 k v7 σ) σ fun v8 σ =>
 shutP x.most (vPick v5 (.bool true) v8 fun v9 =>
 vIf v9 (x.call c_law16_works [] σ fun v10 σ =>
 vRet v10 σ K) (x.call c_ballot_New [a0, a1, a2, a3] σ fun v11 σ =>
 vExt 0 v11 fun v12 =>
 vExt 1 v11 fun v13 =>
 vBin PP .neq 26 v13 (.int .i64 (.ofNat 0)) fun v14 =>
 vIf v14 (vRet (.bool true) σ K) (l_law16_BallotState_rrrrrlrd x x.most a4 a5 v12 (.func c_law16_BallotState_1 [] []) (.int .i64 (.ofNat 0)) σ K))))))))
theorem f_law16_BallotState (x : VE) (a0 a1 a2 a3 a4 a5 : V) (σ : Hp) (K : KV) : fnV PP tbS c_law16_BallotState x [a0, a1, a2, a3, a4, a5] σ K = r_law16_BallotState x a0 a1 a2 a3 a4 a5 σ K := by kernel_rfl
noncomputable def l_law16_BallotState_rrrrrlrdB (x : VE) (m0 : Nat) (t4 t5 t13 t15 t16 : V) (σ : Hp) (K : KV) : Prop :=
 vDrop σ fun σ =>
 vLenS t4 fun v0 =>
 vBin PP .lss 3 t16 v0 fun v1 =>
 vIf v1 (vIdx 15 t4 t16 fun v2 =>
 vLdN 15 v2 σ fun v3 σ =>
 vCallV x t15 [t13, v3] σ fun v4 σ =>
 vBin PP .add 3 t16 (.int .i64 (.ofNat 1)) fun v5 =>
 l_law16_BallotState_rrrrrlrd x m0 t4 t5 t13 t15 v5 σ K) (x.call c_ballot_Ballot_State [t13] σ fun v6 σ =>
 vAlloc [(.int .i64 (.ofNat 0)), (.int .i64 (.ofNat 0)), (.int .i64 (.ofNat 0)), (.int .i64 (.ofNat 0)), (.int .i64 (.ofNat 0)), (.int .i64 (.ofNat 0)), (.int .i64 (.ofNat 0)), (.string ⟨⟨[]⟩⟩), (.string ⟨⟨[]⟩⟩), (.int .i64 (.ofNat 0)), (.int .i64 (.ofNat 0)), (.bool false), (.bool false), (.string ⟨⟨[]⟩⟩), (.slice none 0 0)] 41 σ fun v7 σ =>
 vSt 15 v7 v6 σ fun σ =>
 vLdN 15 v7 σ fun v8 σ =>
 x.call c_ballot_Load [v8] σ fun v9 σ =>
 vExt 0 v9 fun v10 =>
 vExt 1 v9 fun v11 =>
 vBin PP .neq 26 v11 (.int .i64 (.ofNat 0)) fun v12 =>
 vIf v12 (vRet (.bool false) σ K) (l_law16_BallotState_rrrrrrrrrrlrd x x.most t5 t13 t15 v7 v10 .nil (.int .i64 (.ofNat 0)) σ K))
theorem l_law16_BallotState_rrrrrlrdE (x : VE) (m0 : Nat) (t4 t5 t13 t15 t16 : V) (σ : Hp) (K : KV) : l_law16_BallotState_rrrrrlrd x (m0 + 1) t4 t5 t13 t15 t16 σ K = l_law16_BallotState_rrrrrlrdB x m0 t4 t5 t13 t15 t16 σ K := by kernel_rfl
noncomputable def l_law16_BallotState_rrrrrrrrrrlrdB (x : VE) (m0 : Nat) (t5 t13 t15 t17 t18 t20 t21 : V) (σ : Hp) (K : KV) : Prop :=
 vDrop σ fun σ =>
 vLenS t5 fun v0 =>
 vBin PP .lss 3 t21 v0 fun v1 =>
 vIf v1 (vIdx 15 t5 t21 fun v2 =>
 vLdN 15 v2 σ fun v3 σ =>
 vCallV x t15 [t18, v3] σ fun v4 σ =>
 vBuildS 35 1 [(.slice none 0 0)] [(0, 1, v4)] σ fun v5 σ =>
 vApp 35 1 24 t20 v5 σ fun v6 σ =>
 vBin PP .add 3 t21 (.int .i64 (.ofNat 1)) fun v7 =>
 l_law16_BallotState_rrrrrrrrrrlrd x m0 t5 t13 t15 t17 t18 v6 v7 σ K) (vLdN 15 t17 σ fun v8 σ =>
 x.call c_ballot_Ballot_State [t13] σ fun v9 σ =>
 vLdN 15 t17 σ fun v10 _ =>
 vSame v10 v8 (x.call c_law16_back [v9] σ fun v11 σ =>
 vLdN 15 t17 σ fun v12 _ =>
 vSame v12 v8 (x.call c_law16_back [v8] σ fun v13 σ =>
 x.call c_ref16_Same [v11, v13] σ fun v14 σ =>
 vUn .not v14 fun v15 =>
 vIf v15 (vRet (.bool false) σ K) (l_law16_BallotState_rrrrrrrrrrrrlrd x x.most t5 t13 t15 t18 t20 (.int .i64 (.ofNat 0)) σ K))))
theorem l_law16_BallotState_rrrrrrrrrrlrdE (x : VE) (m0 : Nat) (t5 t13 t15 t17 t18 t20 t21 : V) (σ : Hp) (K : KV) : l_law16_BallotState_rrrrrrrrrrlrd x (m0 + 1) t5 t13 t15 t17 t18 t20 t21 σ K = l_law16_BallotState_rrrrrrrrrrlrdB x m0 t5 t13 t15 t17 t18 t20 t21 σ K := by kernel_rfl
noncomputable def l_law16_BallotState_rrrrrrrrrrrrlrdB (x : VE) (m0 : Nat) (t5 t13 t15 t18 t20 t22 : V) (σ : Hp) (K : KV) : Prop :=
 vDrop σ fun σ =>
 vLenS t5 fun v0 =>
 vBin PP .lss 3 t22 v0 fun v1 =>
 vIf v1 (vIdx 15 t5 t22 fun v2 =>
 vLdN 15 v2 σ fun v3 σ =>
 vIdx 1 t20 t22 fun v4 =>
 vLd v4 σ fun v5 σ =>
 vCallV x t15 [t13, v3] σ fun v6 σ =>
 vLd v4 σ fun v7 _ =>
 vSame v7 v5 (x.call c_ref14_Msgs [v6, v5] σ fun v8 σ =>
 vUn .not v8 fun v9 =>
 vIf v9 (vRet (.bool false) σ K) (vBin PP .add 3 t22 (.int .i64 (.ofNat 1)) fun v10 =>
 l_law16_BallotState_rrrrrrrrrrrrlrd x m0 t5 t13 t15 t18 t20 v10 σ K))) (x.call c_ballot_Ballot_State [t13] σ fun v11 σ =>
 x.call c_law16_back [v11] σ fun v12 σ =>
 x.call c_ballot_Ballot_State [t18] σ fun v13 σ =>
 x.call c_law16_back [v13] σ fun v14 σ =>
 x.call c_ref16_Same [v12, v14] σ fun v15 σ =>
 vRet v15 σ K)
theorem l_law16_BallotState_rrrrrrrrrrrrlrdE (x : VE) (m0 : Nat) (t5 t13 t15 t18 t20 t22 : V) (σ : Hp) (K : KV) : l_law16_BallotState_rrrrrrrrrrrrlrd x (m0 + 1) t5 t13 t15 t18 t20 t22 σ K = l_law16_BallotState_rrrrrrrrrrrrlrdB x m0 t5 t13 t15 t18 t20 t22 σ K := by kernel_rfl

/-! consistory/consistorylaw16.long -/
noncomputable def l_law16_long_rrlrd (x : VE) (m : Nat) (t0 t3 t4 : V) (σ : Hp) (K : KV) : Prop := vjmpL PP tbS c_law16_long x [.r, .r, .l, .r, .d] m [] [t0, t3, t4] σ K
noncomputable def l_law16_long_rrlrddrldrrd (x : VE) (m : Nat) (m0 : Nat) (t0 t3 t4 t5 : V) (σ : Hp) (K : KV) : Prop := vjmpL PP tbS c_law16_long x [.r, .r, .l, .r, .d, .d, .r, .l, .d, .r, .r, .d] m [m0] [t0, t3, t4, t5] σ K
noncomputable def r_law16_long (x : VE) (a0 : V) (σ : Hp) (K : KV) : Prop :=
 l_law16_long_rrlrd x x.most a0 (.int .i64 (.ofNat 0)) (.int .i64 (.ofNat 0)) σ K
theorem f_law16_long (x : VE) (a0 : V) (σ : Hp) (K : KV) : fnV PP tbS c_law16_long x [a0] σ K = r_law16_long x a0 σ K := by kernel_rfl
noncomputable def l_law16_long_rrlrdB (x : VE) (m0 : Nat) (t0 t3 t4 : V) (σ : Hp) (K : KV) : Prop :=
 vDrop σ fun σ =>
 vLenS t0 fun v0 =>
 vBin PP .lss 3 t4 v0 fun v1 =>
 shutP x.most (vGuard true v1 (fun k => k t3 σ) σ fun v2 σ =>
 shutP x.most (vGuard true v1 (fun k => vBin PP .lss 3 v2 (.int .i64 (.ofNat 6000)) fun v3 =>
 k v3 σ) σ fun v4 σ =>
 shutP x.most (vPick v1 v4 (.bool false) fun v5 =>
 vIf v5 (vBin PP .add 3 t3 (.int .i64 (.ofNat 40)) fun v6 =>
 vIdx 15 t0 t4 fun v7 =>
 vFld 2 v7 fun v8 =>
 vFld 9 v8 fun v9 =>
 vLd v9 σ fun v10 σ =>
 vLenT v10 fun v11 =>
 vBin PP .add 3 v6 v11 fun v12 =>
 vIdx 15 t0 t4 fun v13 =>
 vFld 13 v13 fun v14 =>
 vLd v14 σ fun v15 σ =>
 vLenT v15 fun v16 =>
 vBin PP .add 3 v12 v16 fun v17 =>
 l_law16_long_rrlrddrldrrd x x.most m0 t0 v17 t4 (.int .i64 (.ofNat 0)) σ K) (vBin PP .geq 3 t3 (.int .i64 (.ofNat 6000)) fun v18 =>
 vRet v18 σ K))))
theorem l_law16_long_rrlrdE (x : VE) (m0 : Nat) (t0 t3 t4 : V) (σ : Hp) (K : KV) : l_law16_long_rrlrd x (m0 + 1) t0 t3 t4 σ K = l_law16_long_rrlrdB x m0 t0 t3 t4 σ K := by kernel_rfl
noncomputable def l_law16_long_rrlrddrldrrdB (x : VE) (m1 : Nat) (m0 : Nat) (t0 t3 t4 t5 : V) (σ : Hp) (K : KV) : Prop :=
 vDrop σ fun σ =>
 vIdx 15 t0 t4 fun v0 =>
 vFld 14 v0 fun v1 =>
 vLd v1 σ fun v2 σ =>
 vLenS v2 fun v3 =>
 vBin PP .lss 3 t5 v3 fun v4 =>
 shutP x.most (vGuard true v4 (fun k => k t3 σ) σ fun v5 σ =>
 shutP x.most (vGuard true v4 (fun k => vBin PP .lss 3 v5 (.int .i64 (.ofNat 6000)) fun v6 =>
 k v6 σ) σ fun v7 σ =>
 shutP x.most (vPick v4 v7 (.bool false) fun v8 =>
 vIf v8 (vBin PP .add 3 t3 (.int .i64 (.ofNat 1)) fun v9 =>
 vIdx 15 t0 t4 fun v10 =>
 vFld 14 v10 fun v11 =>
 vLd v11 σ fun v12 σ =>
 vIdx 1 v12 t5 fun v13 =>
 vLd v13 σ fun v14 σ =>
 vLenT v14 fun v15 =>
 vBin PP .add 3 v9 v15 fun v16 =>
 vBin PP .add 3 t5 (.int .i64 (.ofNat 1)) fun v17 =>
 l_law16_long_rrlrddrldrrd x m1 m0 t0 v16 t4 v17 σ K) (vBin PP .add 3 t4 (.int .i64 (.ofNat 1)) fun v18 =>
 l_law16_long_rrlrd x m0 t0 t3 v18 σ K))))
theorem l_law16_long_rrlrddrldrrdE (x : VE) (m1 : Nat) (m0 : Nat) (t0 t3 t4 t5 : V) (σ : Hp) (K : KV) : l_law16_long_rrlrddrldrrd x (m1 + 1) m0 t0 t3 t4 t5 σ K = l_law16_long_rrlrddrldrrdB x m1 m0 t0 t3 t4 t5 σ K := by kernel_rfl

/-! consistory/ballot.New -/
noncomputable def r_ballot_New (x : VE) (a0 a1 a2 a3 : V) (σ : Hp) (K : KV) : Prop :=
 x.call c_tally_New [a1] σ fun v0 σ =>
 vExt 0 v0 fun v1 =>
 vExt 1 v0 fun v2 =>
 vBin PP .neq 26 v2 (.int .i64 (.ofNat 0)) fun v3 =>
 shutP x.most (vGuard false v3 (fun k => k a0 σ) σ fun v4 σ =>
 shutP x.most (vGuard false v3 (fun k => vBin PP .lss 3 v4 (.int .i64 (.ofNat 1)) fun v5 =>
 k v5 σ) σ fun v6 σ =>
 shutP x.most (vPick v3 (.bool true) v6 fun v7 =>
 shutP x.most (vGuard false v7 (fun k => k a0 σ) σ fun v8 σ =>
 shutP x.most (vGuard false v7 (fun k => vBin PP .gtr 3 v8 (.int .i64 (.ofNat 64)) fun v9 =>
 k v9 σ) σ fun v10 σ =>
 shutP x.most (vPick v7 (.bool true) v10 fun v11 =>
 shutP x.most (vGuard false v11 (fun k => k a2 σ) σ fun v12 σ =>
 shutP x.most (vGuard false v11 (fun k => vBin PP .lss 3 v12 (.int .i64 (.ofNat 0)) fun v13 =>
 k v13 σ) σ fun v14 σ =>
 shutP x.most (vPick v11 (.bool true) v14 fun v15 =>
 shutP x.most (vGuard false v15 (fun k => k a2 σ) σ fun v16 σ =>
 shutP x.most (vGuard false v15 (fun k => k a1 σ) σ fun v17 σ =>
 shutP x.most (vGuard false v15 (fun k => vBin PP .gtr 3 v16 v17 fun v18 =>
 k v18 σ) σ fun v19 σ =>
 shutP x.most (vPick v15 (.bool true) v19 fun v20 =>
 shutP x.most (vGuard false v20 (fun k => k a1 σ) σ fun v21 σ =>
 shutP x.most (vGuard false v20 (fun k => k a2 σ) σ fun v22 σ =>
 shutP x.most (vGuard false v20 (fun k => vBin PP .mul 3 (.int .i64 (.ofNat 3)) v22 fun v23 =>
 k v23 σ) σ fun v24 σ =>
 shutP x.most (vGuard false v20 (fun k => vBin PP .add 3 v24 (.int .i64 (.ofNat 1)) fun v25 =>
 k v25 σ) σ fun v26 σ =>
 shutP x.most (vGuard false v20 (fun k => vBin PP .lss 3 v21 v26 fun v27 =>
 k v27 σ) σ fun v28 σ =>
 shutP x.most (vPick v20 (.bool true) v28 fun v29 =>
 shutP x.most (vGuard false v29 (fun k => k a3 σ) σ fun v30 σ =>
 shutP x.most (vGuard false v29 (fun k => vBin PP .lss 3 v30 (.int .i64 (.ofNat 0)) fun v31 =>
 k v31 σ) σ fun v32 σ =>
 shutP x.most (vPick v29 (.bool true) v32 fun v33 =>
 shutP x.most (vGuard false v33 (fun k => k a3 σ) σ fun v34 σ =>
 shutP x.most (vGuard false v33 (fun k => k a1 σ) σ fun v35 σ =>
 shutP x.most (vGuard false v33 (fun k => vBin PP .gtr 3 v34 v35 fun v36 =>
 k v36 σ) σ fun v37 σ =>
 shutP x.most (vPick v33 (.bool true) v37 fun v38 =>
 vIf v38 (vRet (.tuple [.nilp, (.int .i64 (.ofNat 1))]) σ K) (vBuild [(.int .i64 (.ofNat 0)), (.int .i64 (.ofNat 0)), (.int .i64 (.ofNat 0)), (.int .i64 (.ofNat 0)), (.int .i64 (.ofNat 0)), (.int .i64 (.ofNat 0)), (.int .i64 (.ofNat 0)), (.string ⟨⟨[]⟩⟩), (.string ⟨⟨[]⟩⟩), (.int .i64 (.ofNat 0)), (.int .i64 (.ofNat 0)), (.bool false), (.bool false), (.string ⟨⟨[]⟩⟩), (.slice none 0 0)] [(0, 1, a0), (1, 1, a1), (2, 1, a2), (3, 1, a3), (5, 1, (.int .i64 (.ofNat 1))), (9, 1, (.int .i64 (.negSucc 0))), (10, 1, (.int .i64 (.negSucc 0)))] fun v39 =>
 vBuild [(.int .i64 (.ofNat 0)), (.int .i64 (.ofNat 0)), (.int .i64 (.ofNat 0)), (.int .i64 (.ofNat 0)), (.int .i64 (.ofNat 0)), (.int .i64 (.ofNat 0)), (.int .i64 (.ofNat 0)), (.string ⟨⟨[]⟩⟩), (.string ⟨⟨[]⟩⟩), (.int .i64 (.ofNat 0)), (.int .i64 (.ofNat 0)), (.bool false), (.bool false), (.string ⟨⟨[]⟩⟩), (.slice none 0 0), (.pointer none)] [(0, 15, v39), (15, 1, v1)] fun v40 =>
 vBox 61 v40 σ fun v41 σ =>
 vRet (.tuple [v41, (.int .i64 (.ofNat 0))]) σ K)))))))))))))))))))))))))))
theorem f_ballot_New (x : VE) (a0 a1 a2 a3 : V) (σ : Hp) (K : KV) : fnV PP tbS c_ballot_New x [a0, a1, a2, a3] σ K = r_ballot_New x a0 a1 a2 a3 σ K := by kernel_rfl

/-! consistory/consistorylaw16.BallotState$1 -/
noncomputable def r_law16_BallotState_1 (x : VE) (a0 a1 : V) (σ : Hp) (K : KV) : Prop :=
 vBox 34 a1 σ fun v0 σ =>
 vFld 0 v0 fun v1 =>
 vLd v1 σ fun v2 σ =>
 vBin PP .eql 5 v2 (.int .u8 (.ofNat 0)) fun v3 =>
 vIf v3 (vFld 1 v0 fun v4 =>
 vLd v4 σ fun v5 σ =>
 vFld 2 v0 fun v6 =>
 vLdN 11 v6 σ fun v7 σ =>
 x.call c_ballot_Ballot_Put [a0, v5, v7] σ fun v8 σ =>
 vRet .nil σ K) (vBin PP .eql 5 v2 (.int .u8 (.ofNat 1)) fun v9 =>
 vIf v9 (vFld 13 v0 fun v10 =>
 vLd v10 σ fun v11 σ =>
 vFld 14 v0 fun v12 =>
 vLd v12 σ fun v13 σ =>
 x.call c_ballot_Ballot_Do [a0, v11, v13] σ fun v14 σ =>
 vRet v14 σ K) (vFld 13 v0 fun v15 =>
 vLd v15 σ fun v16 σ =>
 vFld 14 v0 fun v17 =>
 vLd v17 σ fun v18 σ =>
 x.call c_ballot_Ballot_Tick [a0, v16, v18] σ fun v19 σ =>
 vRet v19 σ K))
theorem f_law16_BallotState_1 (x : VE) (a0 a1 : V) (σ : Hp) (K : KV) : fnV PP tbS c_law16_BallotState_1 x [a0, a1] σ K = r_law16_BallotState_1 x a0 a1 σ K := by kernel_rfl

/-! (*consistory/ballot.Ballot).Put -/
noncomputable def r_ballot_Ballot_Put (x : VE) (a0 a1 a2 : V) (σ : Hp) (K : KV) : Prop :=
 vBox 31 a2 σ fun v0 σ =>
 vBin PP .eql 25 a0 .nilp fun v1 =>
 shutP x.most (vGuard false v1 (fun k => vFld 3 v0 fun v2 =>
 k v2 σ) σ fun v3 σ =>
 shutP x.most (vGuard false v1 (fun k => vLd v3 σ fun v4 σ =>
 k v4 σ) σ fun v5 σ =>
 shutP x.most (vGuard false v1 (fun k => k a0 σ) σ fun v6 σ =>
 shutP x.most (vGuard false v1 (fun k => vNil PP v6 fun v7 =>
 k v7 σ) σ fun v8 σ =>
 shutP x.most (vGuard false v1 (fun k => vFld 0 v8 fun v9 =>
 k v9 σ) σ fun v10 σ =>
 shutP x.most (vGuard false v1 (fun k => vFld 0 v10 fun v11 =>
 k v11 σ) σ fun v12 σ =>
 shutP x.most (vGuard false v1 (fun k => vLd v12 σ fun v13 σ =>
 k v13 σ) σ fun v14 σ =>
 shutP x.most (vGuard false v1 (fun k => vBin PP .neq 3 v5 v14 fun v15 =>
 k v15 σ) σ fun v16 σ =>
 shutP x.most (vPick v1 (.bool true) v16 fun v17 =>
 shutP x.most (vGuard false v17 (fun k => vFld 0 v0 fun v18 =>
 k v18 σ) σ fun v19 σ =>
 shutP x.most (vGuard false v17 (fun k => vLd v19 σ fun v20 σ =>
 k v20 σ) σ fun v21 σ =>
 shutP x.most (vGuard false v17 (fun k => vBin PP .lss 5 v21 (.int .u8 (.ofNat 2)) fun v22 =>
 k v22 σ) σ fun v23 σ =>
 shutP x.most (vPick v17 (.bool true) v23 fun v24 =>
 shutP x.most (vGuard false v24 (fun k => vFld 0 v0 fun v25 =>
 k v25 σ) σ fun v26 σ =>
 shutP x.most (vGuard false v24 (fun k => vLd v26 σ fun v27 σ =>
 k v27 σ) σ fun v28 σ =>
 shutP x.most (vGuard false v24 (fun k => vBin PP .gtr 5 v28 (.int .u8 (.ofNat 4)) fun v29 =>
 k v29 σ) σ fun v30 σ =>
 shutP x.most (vPick v24 (.bool true) v30 fun v31 =>
 shutP x.most (vGuard false v31 (fun k => vFld 4 v0 fun v32 =>
 k v32 σ) σ fun v33 σ =>
 shutP x.most (vGuard false v31 (fun k => vLd v33 σ fun v34 σ =>
 k v34 σ) σ fun v35 σ =>
 shutP x.most (vGuard false v31 (fun k => vBin PP .geq 3 v35 (.int .i64 (.ofNat 100)) fun v36 =>
 k v36 σ) σ fun v37 σ =>
 shutP x.most (vPick v31 (.bool true) v37 fun v38 =>
 vIf v38 (vRet (.bool false) σ K) (vFld 4 v0 fun v39 =>
 vLd v39 σ fun v40 σ =>
 vFld 0 v0 fun v41 =>
 vLd v41 σ fun v42 σ =>
 vFld 5 v0 fun v43 =>
 vLd v43 σ fun v44 σ =>
 vFld 9 v0 fun v45 =>
 vLd v45 σ fun v46 σ =>
 vBuild [(.int .i64 (.ofNat 0)), (.int .i64 (.ofNat 0)), (.int .u8 (.ofNat 0)), (.int .i64 (.ofNat 0)), (.string ⟨⟨[]⟩⟩)] [(0, 1, a1), (1, 1, v40), (2, 1, v42), (3, 1, v44), (4, 1, v46)] fun v47 =>
 x.call c_ballot_Ballot_put [a0, v47] σ fun v48 σ =>
 vRet v48 σ K))))))))))))))))))))))
theorem f_ballot_Ballot_Put (x : VE) (a0 a1 a2 : V) (σ : Hp) (K : KV) : fnV PP tbS c_ballot_Ballot_Put x [a0, a1, a2] σ K = r_ballot_Ballot_Put x a0 a1 a2 σ K := by kernel_rfl

/-! (*consistory/ballot.Ballot).Do -/
noncomputable def r_ballot_Ballot_Do (x : VE) (a0 a1 a2 : V) (σ : Hp) (K : KV) : Prop :=
 vBin PP .eql 25 a0 .nilp fun v0 =>
 vIf v0 (vRet .nil σ K) (vBuild [(.string ⟨⟨[]⟩⟩), (.slice none 0 0)] [(0, 1, a1), (1, 1, a2)] fun v1 =>
 x.call c_ballot_Ballot_do [a0, v1] σ fun v2 σ =>
 vRet v2 σ K)
theorem f_ballot_Ballot_Do (x : VE) (a0 a1 a2 : V) (σ : Hp) (K : KV) : fnV PP tbS c_ballot_Ballot_Do x [a0, a1, a2] σ K = r_ballot_Ballot_Do x a0 a1 a2 σ K := by kernel_rfl

/-! (*consistory/ballot.Ballot).Tick -/
noncomputable def j_ballot_Ballot_Tick_rrrr (x : VE) (t0 t1 t2 t7 : V) (σ : Hp) (K : KV) : Prop := vjmpJ PP tbS c_ballot_Ballot_Tick x [.r, .r, .r, .r] [] [t0, t1, t2, t7] σ K
noncomputable def r_ballot_Ballot_Tick (x : VE) (a0 a1 a2 : V) (σ : Hp) (K : KV) : Prop :=
 vBin PP .eql 25 a0 .nilp fun v0 =>
 vIf v0 (vRet .nil σ K) (vNil PP a0 fun v1 =>
 vFld 0 v1 fun v2 =>
 vFld 3 v2 fun v3 =>
 vLd v3 σ fun v4 σ =>
 vBin PP .neq 3 v4 (.int .i64 (.ofNat 0)) fun v5 =>
 shutP x.most (vGuard true v5 (fun k => k a0 σ) σ fun v6 σ =>
 shutP x.most (vGuard true v5 (fun k => vNil PP v6 fun v7 =>
 k v7 σ) σ fun v8 σ =>
 shutP x.most (vGuard true v5 (fun k => vFld 0 v8 fun v9 =>
 k v9 σ) σ fun v10 σ =>
 shutP x.most (vGuard true v5 (fun k => vFld 13 v10 fun v11 =>
 k v11 σ) σ fun v12 σ =>
 shutP x.most (vGuard true v5 (fun k => vLd v12 σ fun v13 σ =>
 k v13 σ) σ fun v14 σ =>
 shutP x.most (vGuard true v5 (fun k => vBin PP .eql 9 v14 (.str []) fun v15 =>
 k v15 σ) σ fun v16 σ =>
 shutP x.most (vPick v5 v16 (.bool false) fun v17 =>
 shutP x.most (vGuard true v17 (fun k => k a1 σ) σ fun v18 σ =>
 shutP x.most (vGuard true v17 (fun k => vBin PP .neq 9 v18 (.str []) fun v19 =>
 k v19 σ) σ fun v20 σ =>
 shutP x.most (vGuard true v17 (fun k => k v20 σ) σ fun v21 σ =>
 shutP x.most (vGuard false v21 (fun k => k a0 σ) σ fun v22 σ =>
 shutP x.most (vGuard false v21 (fun k => vNil PP v22 fun v23 =>
 k v23 σ) σ fun v24 σ =>
 shutP x.most (vGuard false v21 (fun k => vFld 15 v24 fun v25 =>
 k v25 σ) σ fun v26 σ =>
 shutP x.most (vGuard false v21 (fun k => vLd v26 σ fun v27 σ =>
 k v27 σ) σ fun v28 σ =>
 shutP x.most (vGuard false v21 (fun k => x.call c_tally_Tally_Rounds [v28] σ fun v29 σ =>
 k v29 σ) σ fun v30 σ =>
 shutP x.most (vGuard false v21 (fun k => vLenS v30 fun v31 =>
 k v31 σ) σ fun v32 σ =>
 shutP x.most (vGuard false v21 (fun k => vBin PP .gtr 3 v32 (.int .i64 (.ofNat 0)) fun v33 =>
 k v33 σ) σ fun v34 σ =>
 shutP x.most (vGuard true v17 (fun k => shutP x.most (vPick v21 (.bool true) v34 fun v35 =>
 k v35 σ)) σ fun v36 σ =>
 shutP x.most (vPick v17 v36 (.bool false) fun v37 =>
 vIf v37 (vNil PP a0 fun v38 =>
 vFld 0 v38 fun v39 =>
 vFld 6 v39 fun v40 =>
 vLd v40 σ fun v41 σ =>
 vBin PP .add 3 v41 (.int .i64 (.ofNat 1)) fun v42 =>
 vMin false v42 (.int .i64 (.ofNat 1099511627776)) fun v43 =>
 vNil PP a0 fun v44 =>
 vFld 0 v44 fun v45 =>
 vFld 6 v45 fun v46 =>
 vSt 1 v46 v43 σ fun σ =>
 vNil PP a0 fun v47 =>
 vFld 0 v47 fun v48 =>
 vFld 6 v48 fun v49 =>
 vLd v49 σ fun v50 σ =>
 vNil PP a0 fun v51 =>
 vFld 0 v51 fun v52 =>
 vFld 4 v52 fun v53 =>
 vLd v53 σ fun v54 σ =>
 vBin PP .mul 3 (.int .i64 (.ofNat 2)) v54 fun v55 =>
 vBin PP .add 3 (.int .i64 (.ofNat 4)) v55 fun v56 =>
 vBin PP .geq 3 v50 v56 fun v57 =>
 vIf v57 (x.call c_ballot_Ballot_late [a0] σ fun v58 σ =>
 j_ballot_Ballot_Tick_rrrr x a0 a1 a2 v58 σ K) (j_ballot_Ballot_Tick_rrrr x a0 a1 a2 .nil σ K)) (j_ballot_Ballot_Tick_rrrr x a0 a1 a2 .nil σ K)))))))))))))))))))))
theorem f_ballot_Ballot_Tick (x : VE) (a0 a1 a2 : V) (σ : Hp) (K : KV) : fnV PP tbS c_ballot_Ballot_Tick x [a0, a1, a2] σ K = r_ballot_Ballot_Tick x a0 a1 a2 σ K := by kernel_rfl
noncomputable def j_ballot_Ballot_Tick_rrrrB (x : VE) (t0 t1 t2 t7 : V) (σ : Hp) (K : KV) : Prop :=
 vDrop σ fun σ =>
 x.call c_ballot_Ballot_Do [t0, t1, t2] σ fun v0 σ =>
 vApp 31 11 112 t7 v0 σ fun v1 σ =>
 vRet v1 σ K
theorem j_ballot_Ballot_Tick_rrrrE0 (x : VE) (t0 t1 t2 t7 : V) (σ : Hp) (K : KV) : vjmp0 PP tbS c_ballot_Ballot_Tick x [.r, .r, .r, .r] [] [t0, t1, t2, t7] σ K = j_ballot_Ballot_Tick_rrrrB x t0 t1 t2 t7 σ K := by kernel_rfl
theorem j_ballot_Ballot_Tick_rrrrE (x : VE) (hm : x.most ≠ 0) (t0 t1 t2 t7 : V) (σ : Hp) (K : KV) : j_ballot_Ballot_Tick_rrrr x t0 t1 t2 t7 σ K = j_ballot_Ballot_Tick_rrrrB x t0 t1 t2 t7 σ K := (vjmpJ_eq (hm := hm) ..).trans (j_ballot_Ballot_Tick_rrrrE0 x t0 t1 t2 t7 σ K)

/-! (*consistory/ballot.Ballot).State -/
noncomputable def r_ballot_Ballot_State (x : VE) (a0 : V) (σ : Hp) (K : KV) : Prop :=
 vAlloc [(.int .i64 (.ofNat 0)), (.int .i64 (.ofNat 0)), (.int .i64 (.ofNat 0)), (.int .i64 (.ofNat 0)), (.int .i64 (.ofNat 0)), (.int .i64 (.ofNat 0)), (.int .i64 (.ofNat 0)), (.string ⟨⟨[]⟩⟩), (.string ⟨⟨[]⟩⟩), (.int .i64 (.ofNat 0)), (.int .i64 (.ofNat 0)), (.bool false), (.bool false), (.string ⟨⟨[]⟩⟩), (.slice none 0 0)] 41 σ fun v0 σ =>
 vBin PP .eql 25 a0 .nilp fun v1 =>
 vIf v1 (vBuild [(.int .i64 (.ofNat 0)), (.int .i64 (.ofNat 0)), (.int .i64 (.ofNat 0)), (.int .i64 (.ofNat 0)), (.int .i64 (.ofNat 0)), (.int .i64 (.ofNat 0)), (.int .i64 (.ofNat 0)), (.string ⟨⟨[]⟩⟩), (.string ⟨⟨[]⟩⟩), (.int .i64 (.ofNat 0)), (.int .i64 (.ofNat 0)), (.bool false), (.bool false), (.string ⟨⟨[]⟩⟩), (.slice none 0 0)] [] fun v2 =>
 vSt 15 v0 v2 σ fun σ =>
 vLdN 15 v0 σ fun v3 _ =>
 vRet v3 σ K) (vNil PP a0 fun v4 =>
 vFld 0 v4 fun v5 =>
 vLdN 15 v5 σ fun v6 σ =>
 vAlloc [(.int .i64 (.ofNat 0)), (.int .i64 (.ofNat 0)), (.int .i64 (.ofNat 0)), (.int .i64 (.ofNat 0)), (.int .i64 (.ofNat 0)), (.int .i64 (.ofNat 0)), (.int .i64 (.ofNat 0)), (.string ⟨⟨[]⟩⟩), (.string ⟨⟨[]⟩⟩), (.int .i64 (.ofNat 0)), (.int .i64 (.ofNat 0)), (.bool false), (.bool false), (.string ⟨⟨[]⟩⟩), (.slice none 0 0)] 41 σ fun v7 σ =>
 vSt 15 v7 v6 σ fun σ =>
 vNil PP a0 fun v8 =>
 vFld 15 v8 fun v9 =>
 vLd v9 σ fun v10 σ =>
 x.call c_tally_Tally_Votes [v10] σ fun v11 σ =>
 vFld 14 v7 fun v12 =>
 vSt 1 v12 v11 σ fun σ =>
 vLdN 15 v7 σ fun v13 σ =>
 vSt 15 v0 v13 σ fun σ =>
 vLdN 15 v0 σ fun v14 _ =>
 vRet v14 σ K)
theorem f_ballot_Ballot_State (x : VE) (a0 : V) (σ : Hp) (K : KV) : fnV PP tbS c_ballot_Ballot_State x [a0] σ K = r_ballot_Ballot_State x a0 σ K := by kernel_rfl

/-! consistory/ballot.Load -/
noncomputable def l_ballot_Load_rrrlrd (x : VE) (m : Nat) (t1 t4 t79 t80 t81 : V) (σ : Hp) (K : KV) : Prop := vjmpL PP tbS c_ballot_Load x [.r, .r, .r, .l, .r, .d] m [] [t1, t4, t79, t80, t81] σ K
noncomputable def r_ballot_Load (x : VE) (a0 : V) (σ : Hp) (K : KV) : Prop :=
 vBox 41 a0 σ fun v0 σ =>
 vFld 0 v0 fun v1 =>
 vLd v1 σ fun v2 σ =>
 vFld 1 v0 fun v3 =>
 vLd v3 σ fun v4 σ =>
 vFld 2 v0 fun v5 =>
 vLd v5 σ fun v6 σ =>
 vFld 3 v0 fun v7 =>
 vLd v7 σ fun v8 σ =>
 x.call c_ballot_New [v2, v4, v6, v8] σ fun v9 σ =>
 vExt 0 v9 fun v10 =>
 vExt 1 v9 fun v11 =>
 vBin PP .neq 26 v11 (.int .i64 (.ofNat 0)) fun v12 =>
 shutP x.most (vGuard false v12 (fun k => vFld 4 v0 fun v13 =>
 k v13 σ) σ fun v14 σ =>
 shutP x.most (vGuard false v12 (fun k => vLd v14 σ fun v15 σ =>
 k v15 σ) σ fun v16 σ =>
 shutP x.most (vGuard false v12 (fun k => vBin PP .lss 3 v16 (.int .i64 (.ofNat 0)) fun v17 =>
 k v17 σ) σ fun v18 σ =>
 shutP x.most (vPick v12 (.bool true) v18 fun v19 =>
 shutP x.most (vGuard false v19 (fun k => vFld 4 v0 fun v20 =>
 k v20 σ) σ fun v21 σ =>
 shutP x.most (vGuard false v19 (fun k => vLd v21 σ fun v22 σ =>
 k v22 σ) σ fun v23 σ =>
 shutP x.most (vGuard false v19 (fun k => vBin PP .geq 3 v23 (.int .i64 (.ofNat 100)) fun v24 =>
 k v24 σ) σ fun v25 σ =>
 shutP x.most (vPick v19 (.bool true) v25 fun v26 =>
 shutP x.most (vGuard false v26 (fun k => vFld 5 v0 fun v27 =>
 k v27 σ) σ fun v28 σ =>
 shutP x.most (vGuard false v26 (fun k => vLd v28 σ fun v29 σ =>
 k v29 σ) σ fun v30 σ =>
 shutP x.most (vGuard false v26 (fun k => vBin PP .lss 3 v30 (.int .i64 (.ofNat 1)) fun v31 =>
 k v31 σ) σ fun v32 σ =>
 shutP x.most (vPick v26 (.bool true) v32 fun v33 =>
 shutP x.most (vGuard false v33 (fun k => vFld 5 v0 fun v34 =>
 k v34 σ) σ fun v35 σ =>
 shutP x.most (vGuard false v33 (fun k => vLd v35 σ fun v36 σ =>
 k v36 σ) σ fun v37 σ =>
 shutP x.most (vGuard false v33 (fun k => vBin PP .gtr 3 v37 (.int .i64 (.ofNat 3)) fun v38 =>
 k v38 σ) σ fun v39 σ =>
 shutP x.most (vPick v33 (.bool true) v39 fun v40 =>
 shutP x.most (vGuard false v40 (fun k => vFld 6 v0 fun v41 =>
 k v41 σ) σ fun v42 σ =>
 shutP x.most (vGuard false v40 (fun k => vLd v42 σ fun v43 σ =>
 k v43 σ) σ fun v44 σ =>
 shutP x.most (vGuard false v40 (fun k => vBin PP .lss 3 v44 (.int .i64 (.ofNat 0)) fun v45 =>
 k v45 σ) σ fun v46 σ =>
 shutP x.most (vPick v40 (.bool true) v46 fun v47 =>
 shutP x.most (vGuard false v47 (fun k => vFld 6 v0 fun v48 =>
 k v48 σ) σ fun v49 σ =>
 shutP x.most (vGuard false v47 (fun k => vLd v49 σ fun v50 σ =>
 k v50 σ) σ fun v51 σ =>
 shutP x.most (vGuard false v47 (fun k => vBin PP .gtr 3 v51 (.int .i64 (.ofNat 1099511627776)) fun v52 =>
 k v52 σ) σ fun v53 σ =>
 shutP x.most (vPick v47 (.bool true) v53 fun v54 =>
 shutP x.most (vGuard false v54 (fun k => vFld 7 v0 fun v55 =>
 k v55 σ) σ fun v56 σ =>
 shutP x.most (vGuard false v54 (fun k => vLd v56 σ fun v57 σ =>
 k v57 σ) σ fun v58 σ =>
 shutP x.most (vGuard false v54 (fun k => vFld 9 v0 fun v59 =>
 k v59 σ) σ fun v60 σ =>
 shutP x.most (vGuard false v54 (fun k => vLd v60 σ fun v61 σ =>
 k v61 σ) σ fun v62 σ =>
 shutP x.most (vGuard false v54 (fun k => vFld 4 v0 fun v63 =>
 k v63 σ) σ fun v64 σ =>
 shutP x.most (vGuard false v54 (fun k => vLd v64 σ fun v65 σ =>
 k v65 σ) σ fun v66 σ =>
 shutP x.most (vGuard false v54 (fun k => x.call c_ballot_place [v58, v62, v66] σ fun v67 σ =>
 k v67 σ) σ fun v68 σ =>
 shutP x.most (vGuard false v54 (fun k => vUn .not v68 fun v69 =>
 k v69 σ) σ fun v70 σ =>
 shutP x.most (vPick v54 (.bool true) v70 fun v71 =>
 shutP x.most (vGuard false v71 (fun k => vFld 8 v0 fun v72 =>
 k v72 σ) σ fun v73 σ =>
 shutP x.most (vGuard false v71 (fun k => vLd v73 σ fun v74 σ =>
 k v74 σ) σ fun v75 σ =>
 shutP x.most (vGuard false v71 (fun k => vFld 10 v0 fun v76 =>
 k v76 σ) σ fun v77 σ =>
 shutP x.most (vGuard false v71 (fun k => vLd v77 σ fun v78 σ =>
 k v78 σ) σ fun v79 σ =>
 shutP x.most (vGuard false v71 (fun k => vFld 4 v0 fun v80 =>
 k v80 σ) σ fun v81 σ =>
 shutP x.most (vGuard false v71 (fun k => vLd v81 σ fun v82 σ =>
 k v82 σ) σ fun v83 σ =>
 shutP x.most (vGuard false v71 (fun k => x.call c_ballot_place [v75, v79, v83] σ fun v84 σ =>
 k v84 σ) σ fun v85 σ =>
 shutP x.most (vGuard false v71 (fun k => vUn .not v85 fun v86 =>
 k v86 σ) σ fun v87 σ =>
 shutP x.most (vPick v71 (.bool true) v87 fun v88 =>
 shutP x.most (vGuard false v88 (fun k => vFld 13 v0 fun v89 =>
 k v89 σ) σ fun v90 σ =>
 shutP x.most (vGuard false v88 (fun k => vLd v90 σ fun v91 σ =>
 k v91 σ) σ fun v92 σ =>
 shutP x.most (vGuard false v88 (fun k => vLenT v92 fun v93 =>
 k v93 σ) σ fun v94 σ =>
 shutP x.most (vGuard false v88 (fun k => vBin PP .gtr 3 v94 (.int .i64 (.ofNat 2048)) fun v95 =>
 k v95 σ) σ fun v96 σ =>
 shutP x.most (vPick v88 (.bool true) v96 fun v97 =>
 vIf v97 (vRet (.tuple [.nilp, (.int .i64 (.ofNat 4))]) σ K) (vFld 14 v0 fun v98 =>
 vLd v98 σ fun v99 σ =>
 vLenS v99 fun v100 =>
 l_ballot_Load_rrrlrd x x.most v0 v10 v99 v100 (.int .i64 (.ofNat 0)) σ K))))))))))))))))))))))))))))))))))))))))))))))))
theorem f_ballot_Load (x : VE) (a0 : V) (σ : Hp) (K : KV) : fnV PP tbS c_ballot_Load x [a0] σ K = r_ballot_Load x a0 σ K := by kernel_rfl
noncomputable def l_ballot_Load_rrrlrdB (x : VE) (m0 : Nat) (t1 t4 t79 t80 t81 : V) (σ : Hp) (K : KV) : Prop :=
 vDrop σ fun σ =>
 vBin PP .lss 3 t81 t80 fun v0 =>
 vIf v0 (vIdx 5 t79 t81 fun v1 =>
 vLdN 5 v1 σ fun v2 σ =>
 vAlloc [(.int .i64 (.ofNat 0)), (.int .i64 (.ofNat 0)), (.int .u8 (.ofNat 0)), (.int .i64 (.ofNat 0)), (.string ⟨⟨[]⟩⟩)] 64 σ fun v3 σ =>
 vSt 5 v3 v2 σ fun σ =>
 vFld 1 v3 fun v4 =>
 vLd v4 σ fun v5 σ =>
 vBin PP .geq 3 v5 (.int .i64 (.ofNat 100)) fun v6 =>
 shutP x.most (vGuard false v6 (fun k => k t4 σ) σ fun v7 σ =>
 shutP x.most (vGuard false v6 (fun k => vLdN 5 v3 σ fun v8 σ =>
 k v8 σ) σ fun v9 σ =>
 shutP x.most (vGuard false v6 (fun k => x.call c_ballot_Ballot_put [v7, v9] σ fun v10 σ =>
 k v10 σ) σ fun v11 σ =>
 shutP x.most (vGuard false v6 (fun k => vUn .not v11 fun v12 =>
 k v12 σ) σ fun v13 σ =>
 shutP x.most (vPick v6 (.bool true) v13 fun v14 =>
 vIf v14 (vRet (.tuple [.nilp, (.int .i64 (.ofNat 4))]) σ K) (vBin PP .add 3 t81 (.int .i64 (.ofNat 1)) fun v15 =>
 l_ballot_Load_rrrlrd x m0 t1 t4 t79 t80 v15 σ K))))))) (vFld 14 t1 fun v16 =>
 vSt 1 v16 .nil σ fun σ =>
 vLdN 15 t1 σ fun v17 σ =>
 vNil PP t4 fun v18 =>
 vFld 0 v18 fun v19 =>
 vSt 15 v19 v17 σ fun σ =>
 vRet (.tuple [t4, (.int .i64 (.ofNat 0))]) σ K)
theorem l_ballot_Load_rrrlrdE (x : VE) (m0 : Nat) (t1 t4 t79 t80 t81 : V) (σ : Hp) (K : KV) : l_ballot_Load_rrrlrd x (m0 + 1) t1 t4 t79 t80 t81 σ K = l_ballot_Load_rrrlrdB x m0 t1 t4 t79 t80 t81 σ K := by kernel_rfl

/-! consistory/consistoryref16.Same -/
noncomputable def r_ref16_Same (x : VE) (a0 a1 : V) (σ : Hp) (K : KV) : Prop :=
 vBox 48 a0 σ fun v0 σ =>
 vBox 48 a1 σ fun v1 σ =>
 vFld 0 v0 fun v2 =>
 vLd v2 σ fun v3 σ =>
 vFld 0 v1 fun v4 =>
 vLd v4 σ fun v5 σ =>
 vBin PP .eql 3 v3 v5 fun v6 =>
 shutP x.most (vGuard true v6 (fun k => vFld 1 v0 fun v7 =>
 k v7 σ) σ fun v8 σ =>
 shutP x.most (vGuard true v6 (fun k => vLd v8 σ fun v9 σ =>
 k v9 σ) σ fun v10 σ =>
 shutP x.most (vGuard true v6 (fun k => vFld 1 v1 fun v11 =>
 k v11 σ) σ fun v12 σ =>
 shutP x.most (vGuard true v6 (fun k => vLd v12 σ fun v13 σ =>
 k v13 σ) σ fun v14 σ =>
 shutP x.most (vGuard true v6 (fun k => vBin PP .eql 3 v10 v14 fun v15 =>
 k v15 σ) σ fun v16 σ =>
 shutP x.most (vPick v6 v16 (.bool false) fun v17 =>
 shutP x.most (vGuard true v17 (fun k => vFld 2 v0 fun v18 =>
 k v18 σ) σ fun v19 σ =>
 shutP x.most (vGuard true v17 (fun k => vLd v19 σ fun v20 σ =>
 k v20 σ) σ fun v21 σ =>
 shutP x.most (vGuard true v17 (fun k => vFld 2 v1 fun v22 =>
 k v22 σ) σ fun v23 σ =>
 shutP x.most (vGuard true v17 (fun k => vLd v23 σ fun v24 σ =>
 k v24 σ) σ fun v25 σ =>
 shutP x.most (vGuard true v17 (fun k => vBin PP .eql 3 v21 v25 fun v26 =>
 k v26 σ) σ fun v27 σ =>
 shutP x.most (vPick v17 v27 (.bool false) fun v28 =>
 shutP x.most (vGuard true v28 (fun k => vFld 3 v0 fun v29 =>
 k v29 σ) σ fun v30 σ =>
 shutP x.most (vGuard true v28 (fun k => vLd v30 σ fun v31 σ =>
 k v31 σ) σ fun v32 σ =>
 shutP x.most (vGuard true v28 (fun k => vFld 3 v1 fun v33 =>
 k v33 σ) σ fun v34 σ =>
 shutP x.most (vGuard true v28 (fun k => vLd v34 σ fun v35 σ =>
 k v35 σ) σ fun v36 σ =>
 shutP x.most (vGuard true v28 (fun k => vBin PP .eql 3 v32 v36 fun v37 =>
 k v37 σ) σ fun v38 σ =>
 shutP x.most (vPick v28 v38 (.bool false) fun v39 =>
 shutP x.most (vGuard true v39 (fun k => vFld 4 v0 fun v40 =>
 k v40 σ) σ fun v41 σ =>
 shutP x.most (vGuard true v39 (fun k => vLd v41 σ fun v42 σ =>
 k v42 σ) σ fun v43 σ =>
 shutP x.most (vGuard true v39 (fun k => vFld 4 v1 fun v44 =>
 k v44 σ) σ fun v45 σ =>
 shutP x.most (vGuard true v39 (fun k => vLd v45 σ fun v46 σ =>
 k v46 σ) σ fun v47 σ =>
 shutP x.most (vGuard true v39 (fun k => vBin PP .eql 3 v43 v47 fun v48 =>
 k v48 σ) σ fun v49 σ =>
 shutP x.most (vPick v39 v49 (.bool false) fun v50 =>
 shutP x.most (vGuard true v50 (fun k => vFld 5 v0 fun v51 =>
 k v51 σ) σ fun v52 σ =>
 shutP x.most (vGuard true v50 (fun k => vLd v52 σ fun v53 σ =>
 k v53 σ) σ fun v54 σ =>
 shutP x.most (vGuard true v50 (fun k => vFld 5 v1 fun v55 =>
 k v55 σ) σ fun v56 σ =>
 shutP x.most (vGuard true v50 (fun k => vLd v56 σ fun v57 σ =>
 k v57 σ) σ fun v58 σ =>
 shutP x.most (vGuard true v50 (fun k => vBin PP .eql 3 v54 v58 fun v59 =>
 k v59 σ) σ fun v60 σ =>
 shutP x.most (vPick v50 v60 (.bool false) fun v61 =>
 shutP x.most (vGuard true v61 (fun k => vFld 6 v0 fun v62 =>
 k v62 σ) σ fun v63 σ =>
 shutP x.most (vGuard true v61 (fun k => vLd v63 σ fun v64 σ =>
 k v64 σ) σ fun v65 σ =>
 shutP x.most (vGuard true v61 (fun k => vFld 6 v1 fun v66 =>
 k v66 σ) σ fun v67 σ =>
 shutP x.most (vGuard true v61 (fun k => vLd v67 σ fun v68 σ =>
 k v68 σ) σ fun v69 σ =>
 shutP x.most (vGuard true v61 (fun k => vBin PP .eql 3 v65 v69 fun v70 =>
 k v70 σ) σ fun v71 σ =>
 shutP x.most (vPick v61 v71 (.bool false) fun v72 =>
 shutP x.most (vGuard true v72 (fun k => vFld 7 v0 fun v73 =>
 k v73 σ) σ fun v74 σ =>
 shutP x.most (vGuard true v72 (fun k => vLd v74 σ fun v75 σ =>
 k v75 σ) σ fun v76 σ =>
 shutP x.most (vGuard true v72 (fun k => vFld 7 v1 fun v77 =>
 k v77 σ) σ fun v78 σ =>
 shutP x.most (vGuard true v72 (fun k => vLd v78 σ fun v79 σ =>
 k v79 σ) σ fun v80 σ =>
 shutP x.most (vGuard true v72 (fun k => vBin PP .eql 9 v76 v80 fun v81 =>
 k v81 σ) σ fun v82 σ =>
 shutP x.most (vPick v72 v82 (.bool false) fun v83 =>
 shutP x.most (vGuard true v83 (fun k => vFld 8 v0 fun v84 =>
 k v84 σ) σ fun v85 σ =>
 shutP x.most (vGuard true v83 (fun k => vLd v85 σ fun v86 σ =>
 k v86 σ) σ fun v87 σ =>
 shutP x.most (vGuard true v83 (fun k => vFld 8 v1 fun v88 =>
 k v88 σ) σ fun v89 σ =>
 shutP x.most (vGuard true v83 (fun k => vLd v89 σ fun v90 σ =>
 k v90 σ) σ fun v91 σ =>
 shutP x.most (vGuard true v83 (fun k => vBin PP .eql 9 v87 v91 fun v92 =>
 k v92 σ) σ fun v93 σ =>
 shutP x.most (vPick v83 v93 (.bool false) fun v94 =>
 shutP x.most (vGuard true v94 (fun k => vFld 9 v0 fun v95 =>
 k v95 σ) σ fun v96 σ =>
 shutP x.most (vGuard true v94 (fun k => vLd v96 σ fun v97 σ =>
 k v97 σ) σ fun v98 σ =>
 shutP x.most (vGuard true v94 (fun k => vFld 9 v1 fun v99 =>
 k v99 σ) σ fun v100 σ =>
 shutP x.most (vGuard true v94 (fun k => vLd v100 σ fun v101 σ =>
 k v101 σ) σ fun v102 σ =>
 shutP x.most (vGuard true v94 (fun k => vBin PP .eql 3 v98 v102 fun v103 =>
 k v103 σ) σ fun v104 σ =>
 shutP x.most (vPick v94 v104 (.bool false) fun v105 =>
 shutP x.most (vGuard true v105 (fun k => vFld 10 v0 fun v106 =>
 k v106 σ) σ fun v107 σ =>
 shutP x.most (vGuard true v105 (fun k => vLd v107 σ fun v108 σ =>
 k v108 σ) σ fun v109 σ =>
 shutP x.most (vGuard true v105 (fun k => vFld 10 v1 fun v110 =>
 k v110 σ) σ fun v111 σ =>
 shutP x.most (vGuard true v105 (fun k => vLd v111 σ fun v112 σ =>
 k v112 σ) σ fun v113 σ =>
 shutP x.most (vGuard true v105 (fun k => vBin PP .eql 3 v109 v113 fun v114 =>
 k v114 σ) σ fun v115 σ =>
 shutP x.most (vPick v105 v115 (.bool false) fun v116 =>
 shutP x.most (vGuard true v116 (fun k => vFld 11 v0 fun v117 =>
 k v117 σ) σ fun v118 σ =>
 shutP x.most (vGuard true v116 (fun k => vLd v118 σ fun v119 σ =>
 k v119 σ) σ fun v120 σ =>
 shutP x.most (vGuard true v116 (fun k => vFld 11 v1 fun v121 =>
 k v121 σ) σ fun v122 σ =>
 shutP x.most (vGuard true v116 (fun k => vLd v122 σ fun v123 σ =>
 k v123 σ) σ fun v124 σ =>
 shutP x.most (vGuard true v116 (fun k => vBin PP .eql 4 v120 v124 fun v125 =>
 k v125 σ) σ fun v126 σ =>
 shutP x.most (vPick v116 v126 (.bool false) fun v127 =>
 shutP x.most (vGuard true v127 (fun k => vFld 12 v0 fun v128 =>
 k v128 σ) σ fun v129 σ =>
 shutP x.most (vGuard true v127 (fun k => vLd v129 σ fun v130 σ =>
 k v130 σ) σ fun v131 σ =>
 shutP x.most (vGuard true v127 (fun k => vFld 12 v1 fun v132 =>
 k v132 σ) σ fun v133 σ =>
 shutP x.most (vGuard true v127 (fun k => vLd v133 σ fun v134 σ =>
 k v134 σ) σ fun v135 σ =>
 shutP x.most (vGuard true v127 (fun k => vBin PP .eql 4 v131 v135 fun v136 =>
 k v136 σ) σ fun v137 σ =>
 shutP x.most (vPick v127 v137 (.bool false) fun v138 =>
 shutP x.most (vGuard true v138 (fun k => vFld 13 v0 fun v139 =>
 k v139 σ) σ fun v140 σ =>
 shutP x.most (vGuard true v138 (fun k => vLd v140 σ fun v141 σ =>
 k v141 σ) σ fun v142 σ =>
 shutP x.most (vGuard true v138 (fun k => vFld 13 v1 fun v143 =>
 k v143 σ) σ fun v144 σ =>
 shutP x.most (vGuard true v138 (fun k => vLd v144 σ fun v145 σ =>
 k v145 σ) σ fun v146 σ =>
 shutP x.most (vGuard true v138 (fun k => vBin PP .eql 9 v142 v146 fun v147 =>
 k v147 σ) σ fun v148 σ =>
 shutP x.most (vPick v138 v148 (.bool false) fun v149 =>
 shutP x.most (vGuard true v149 (fun k => vFld 14 v0 fun v150 =>
 k v150 σ) σ fun v151 σ =>
 shutP x.most (vGuard true v149 (fun k => vLd v151 σ fun v152 σ =>
 k v152 σ) σ fun v153 σ =>
 shutP x.most (vGuard true v149 (fun k => vFld 14 v1 fun v154 =>
 k v154 σ) σ fun v155 σ =>
 shutP x.most (vGuard true v149 (fun k => vLd v155 σ fun v156 σ =>
 k v156 σ) σ fun v157 σ =>
 shutP x.most (vGuard true v149 (fun k => x.call c_ref15_Same [v153, v157] σ fun v158 σ =>
 k v158 σ) σ fun v159 σ =>
 shutP x.most (vPick v149 v159 (.bool false) fun v160 =>
 vRet v160 σ K))))))))))))))))))))))))))))))))))))))))))))))))))))))))))))))))))))))))))))))))))))
theorem f_ref16_Same (x : VE) (a0 a1 : V) (σ : Hp) (K : KV) : fnV PP tbS c_ref16_Same x [a0, a1] σ K = r_ref16_Same x a0 a1 σ K := by kernel_rfl

/-! consistory/consistorylaw16.back -/
noncomputable def r_law16_back (x : VE) (a0 : V) (σ : Hp) (K : KV) : Prop :=
 vBox 41 a0 σ fun v0 σ =>
 vAlloc [(.int .i64 (.ofNat 0)), (.int .i64 (.ofNat 0)), (.int .i64 (.ofNat 0)), (.int .i64 (.ofNat 0)), (.int .i64 (.ofNat 0)), (.int .i64 (.ofNat 0)), (.int .i64 (.ofNat 0)), (.string ⟨⟨[]⟩⟩), (.string ⟨⟨[]⟩⟩), (.int .i64 (.ofNat 0)), (.int .i64 (.ofNat 0)), (.bool false), (.bool false), (.string ⟨⟨[]⟩⟩), (.slice none 0 0)] 48 σ fun v1 σ =>
 vFld 0 v0 fun v2 =>
 vLd v2 σ fun v3 σ =>
 vFld 1 v0 fun v4 =>
 vLd v4 σ fun v5 σ =>
 vFld 2 v0 fun v6 =>
 vLd v6 σ fun v7 σ =>
 vFld 3 v0 fun v8 =>
 vLd v8 σ fun v9 σ =>
 vFld 4 v0 fun v10 =>
 vLd v10 σ fun v11 σ =>
 vFld 5 v0 fun v12 =>
 vLd v12 σ fun v13 σ =>
 vFld 6 v0 fun v14 =>
 vLd v14 σ fun v15 σ =>
 vFld 7 v0 fun v16 =>
 vLd v16 σ fun v17 σ =>
 vFld 8 v0 fun v18 =>
 vLd v18 σ fun v19 σ =>
 vFld 9 v0 fun v20 =>
 vLd v20 σ fun v21 σ =>
 vFld 10 v0 fun v22 =>
 vLd v22 σ fun v23 σ =>
 vFld 11 v0 fun v24 =>
 vLd v24 σ fun v25 σ =>
 vFld 12 v0 fun v26 =>
 vLd v26 σ fun v27 σ =>
 vFld 13 v0 fun v28 =>
 vLd v28 σ fun v29 σ =>
 vFld 14 v0 fun v30 =>
 vLd v30 σ fun v31 σ =>
 x.call c_law16_votes [v31] σ fun v32 σ =>
 vLd v28 σ fun v33 _ =>
 vSame v33 v29 (vLd v26 σ fun v34 _ =>
 vSame v34 v27 (vLd v24 σ fun v35 _ =>
 vSame v35 v25 (vLd v22 σ fun v36 _ =>
 vSame v36 v23 (vLd v20 σ fun v37 _ =>
 vSame v37 v21 (vLd v18 σ fun v38 _ =>
 vSame v38 v19 (vLd v16 σ fun v39 _ =>
 vSame v39 v17 (vLd v14 σ fun v40 _ =>
 vSame v40 v15 (vLd v12 σ fun v41 _ =>
 vSame v41 v13 (vLd v10 σ fun v42 _ =>
 vSame v42 v11 (vLd v8 σ fun v43 _ =>
 vSame v43 v9 (vLd v6 σ fun v44 _ =>
 vSame v44 v7 (vLd v4 σ fun v45 _ =>
 vSame v45 v5 (vLd v2 σ fun v46 _ =>
 vSame v46 v3 (vBuild [(.int .i64 (.ofNat 0)), (.int .i64 (.ofNat 0)), (.int .i64 (.ofNat 0)), (.int .i64 (.ofNat 0)), (.int .i64 (.ofNat 0)), (.int .i64 (.ofNat 0)), (.int .i64 (.ofNat 0)), (.string ⟨⟨[]⟩⟩), (.string ⟨⟨[]⟩⟩), (.int .i64 (.ofNat 0)), (.int .i64 (.ofNat 0)), (.bool false), (.bool false), (.string ⟨⟨[]⟩⟩), (.slice none 0 0)] [(0, 1, v3), (1, 1, v5), (2, 1, v7), (3, 1, v9), (4, 1, v11), (5, 1, v13), (6, 1, v15), (7, 1, v17), (8, 1, v19), (9, 1, v21), (10, 1, v23), (11, 1, v25), (12, 1, v27), (13, 1, v29), (14, 1, v32)] fun v47 =>
 vSt 15 v1 v47 σ fun σ =>
 vLdN 15 v1 σ fun v48 _ =>
 vRet v48 σ K))))))))))))))
theorem f_law16_back (x : VE) (a0 : V) (σ : Hp) (K : KV) : fnV PP tbS c_law16_back x [a0] σ K = r_law16_back x a0 σ K := by kernel_rfl

/-! consistory/consistoryref14.Msgs -/
noncomputable def l_ref14_Msgs_rrlrd (x : VE) (m : Nat) (t0 t1 t5 : V) (σ : Hp) (K : KV) : Prop := vjmpL PP tbS c_ref14_Msgs x [.r, .r, .l, .r, .d] m [] [t0, t1, t5] σ K
noncomputable def r_ref14_Msgs (x : VE) (a0 a1 : V) (σ : Hp) (K : KV) : Prop :=
 vLenS a0 fun v0 =>
 vLenS a1 fun v1 =>
 vBin PP .neq 3 v0 v1 fun v2 =>
 vIf v2 (vRet (.bool false) σ K) (l_ref14_Msgs_rrlrd x x.most a0 a1 (.int .i64 (.ofNat 0)) σ K)
theorem f_ref14_Msgs (x : VE) (a0 a1 : V) (σ : Hp) (K : KV) : fnV PP tbS c_ref14_Msgs x [a0, a1] σ K = r_ref14_Msgs x a0 a1 σ K := by kernel_rfl
noncomputable def l_ref14_Msgs_rrlrdB (x : VE) (m0 : Nat) (t0 t1 t5 : V) (σ : Hp) (K : KV) : Prop :=
 vDrop σ fun σ =>
 vLenS t0 fun v0 =>
 vBin PP .lss 3 t5 v0 fun v1 =>
 vIf v1 (vIdx 11 t0 t5 fun v2 =>
 vLdN 11 v2 σ fun v3 σ =>
 vIdx 11 t1 t5 fun v4 =>
 vLdN 11 v4 σ fun v5 σ =>
 x.call c_ref14_Same [v3, v5] σ fun v6 σ =>
 vUn .not v6 fun v7 =>
 vIf v7 (vRet (.bool false) σ K) (vBin PP .add 3 t5 (.int .i64 (.ofNat 1)) fun v8 =>
 l_ref14_Msgs_rrlrd x m0 t0 t1 v8 σ K)) (vRet (.bool true) σ K)
theorem l_ref14_Msgs_rrlrdE (x : VE) (m0 : Nat) (t0 t1 t5 : V) (σ : Hp) (K : KV) : l_ref14_Msgs_rrlrd x (m0 + 1) t0 t1 t5 σ K = l_ref14_Msgs_rrlrdB x m0 t0 t1 t5 σ K := by kernel_rfl

end Go.Am

set_option linter.unusedVariables false
set_option maxRecDepth 4000
namespace Go.Am
variable {ov : OvV} {M n : Nat} {x : VE} {σ : Hp} {K : KV}
theorem vAgg_neq {P : Program} {t : TypeId} {l : List CT} {a b : List V} {k : V → Prop} (hs : keyS P t = some (.many l)) (ha : ctsOk l a) (hb : ctsOk l b) (h1 : a = b → k (.bool false)) (h2 : a ≠ b → k (.bool true)) : vAgg P .neq t (.agg a) (.agg b) k := by
 unfold vAgg
 rw [hs]
 exact ⟨ha, hb, h1, h2⟩
theorem key100 : keyS PP 100 = some (.many [.int .i64, .int .i64, .int .u8, .int .i64, .str]) := by kernel_rfl
theorem vv_inj {u v : Vo} (h : u.vv = v.vv) : u = v := by
 obtain ⟨a, b, c, d, e⟩ := u
 obtain ⟨a', b', c', d', e'⟩ := v
 simp [Vo.vv] at h
 obtain ⟨h1, h2, h3, h4, h5⟩ := h
 have h3 : c = c' := Int.ofNat.inj h3
 simp [h1, h2, h3, h4, h5]
theorem same15_go {l l' : List Vo} {τ τ' : Tag} (hl : l.length ≤ 1000000) (he : l.length = l'.length) {b : Bool} (hb : b = true ↔ l = l') (hk : K (.bool b) σ) : ∀ (m i : Nat), l.length ≤ i + m → i ≤ l.length → l.take i = l'.take i → l_ref15_Same_rrlrd x (m + 1) (.list τ (voD l) l.length) (.list τ' (voD l') l'.length) (.int .i64 (.ofNat i)) σ K := by
 intro m
 have fin : ∀ {i : Nat}, l.length ≤ i → l.take i = l'.take i → K (.bool true) σ := fun h1 h2 => by
  rw [List.take_of_length_le h1, List.take_of_length_le (by omega)] at h2
  rwa [hb.2 h2] at hk
 induction m with
 | zero =>
  intro i hm hi ht
  rw [l_ref15_Same_rrlrdE]
  unfold l_ref15_Same_rrlrdB
  refine vDrop_here ?_
  rw [vLenS_l, vBinI_lss, vIf_b, if_neg (by simp; omega)]
  exact vRet_here (fin (i := i) (by omega) ht)
 | succ m ih =>
  intro i hm hi ht
  rw [l_ref15_Same_rrlrdE]
  unfold l_ref15_Same_rrlrdB
  refine vDrop_here ?_
  rw [vLenS_l, vBinI_lss, vIf_b]
  by_cases hlt : i < l.length
  · have hlt' : i < l'.length := by omega
    rw [if_pos (by simp; omega), vIdx_l hlt, vLdN_l, vPart_ok (by rw [voD_len]; omega), voD_at l i l[i] (List.getElem?_eq_getElem hlt),
     vIdx_l hlt', vLdN_l, vPart_ok (by rw [voD_len]; omega), voD_at l' i l'[i] (List.getElem?_eq_getElem hlt')]
    refine vAgg_neq (a := l[i].vv) (b := l'[i].vv) key100 ⟨rfl, rfl, rfl, rfl, trivial, trivial⟩ ⟨rfl, rfl, rfl, rfl, trivial, trivial⟩ (fun e => ?_) (fun e => ?_)
    · rw [vIf_b, if_neg (by simp), vBinI_add, next_i (by omega)]
      refine ih (i + 1) (by omega) (by omega) ?_
      rw [List.take_add_one, List.take_add_one, ht, List.getElem?_eq_getElem hlt, List.getElem?_eq_getElem hlt', vv_inj e]
    · rw [vIf_b, if_pos rfl]
      refine vRet_here ?_
      have : b = false := by
       cases hq : b with
       | false => rfl
       | true =>
        have h := hb.1 hq
        subst h
        exact absurd rfl e
      rwa [this] at hk
  · rw [if_neg (by simp; omega)]
    exact vRet_here (fin (i := i) (by omega) ht)
theorem same15_s (hf : ov c_ref15_Same = none) {l l' : List Vo} {τ τ' : Tag} (hM : l.length < M) (hx : Deep PP tbS ov M (n + 1) x) (hl : l.length ≤ 1000000) {b : Bool} (hb : b = true ↔ l = l') (hk : K (.bool b) σ) : x.call c_ref15_Same [.list τ (voD l) l.length, .list τ' (voD l') l'.length] σ K := by
 refine hx.call hf fun y hy => ?_
 rw [f_ref15_Same]
 unfold r_ref15_Same
 rw [vLenS_l, vLenS_l, vBinI_neq, vIf_b]
 by_cases he : l.length = l'.length
 · rw [if_neg (by simp [he])]
   obtain ⟨m, e⟩ := Nat.exists_eq_succ_of_ne_zero (show y.most ≠ 0 by rw [hy.most]; omega)
   rw [e]
   exact same15_go hl he hb hk m 0 (by have := hy.most; omega) (by omega) rfl
 · rw [if_pos (by simp; omega)]
   have : b = false := by
    cases hq : b with
    | false => rfl
    | true => exact absurd (by rw [hb.1 hq]) he
   rw [this] at hk
   exact vRet_here hk
end Go.Am

set_option linter.unusedVariables false
set_option maxRecDepth 8000
namespace Go.Am
variable {ov : OvV} {M n : Nat} {x : VE} {σ : Hp} {K : KV}
theorem vFill_one {o : Nat} {v : V} {ps : List (Nat × Nat × V)} {cs : List V} {k : List V → Prop} (ho : oneV v = true) (hl : o + 1 ≤ cs.length) (hk : vFill ps (cs.set o v) k) : vFill ((o, 1, v) :: ps) cs k := by
 have e : splice o [v] cs = cs.set o v := by
  rw [List.set_eq_take_append_cons_drop, if_pos (by omega)]
  simp [splice]
 rw [← e] at hk
 unfold vFill
 unfold vCells
 cases v <;> first | (cases ho; done) | exact ⟨rfl, hl, hk⟩
theorem vFill_all {n : Nat} {new : List V} {ps : List (Nat × Nat × V)} {cs : List V} {k : List V → Prop} (ho : new.all oneV = true) (hn : new.length = n) (hl : n ≤ cs.length) (hk : vFill ps (new ++ cs.drop n) k) : vFill ((0, n, .agg new) :: ps) cs k := by
 refine ⟨ho, hn, by omega, ?_⟩
 have e : splice 0 new cs = new ++ cs.drop n := by simp [splice, hn]
 rw [e]
 exact hk
theorem vFill_end {cs : List V} {k : List V → Prop} (hk : k cs) : vFill [] cs k := hk
theorem vBuild_to {zero : List Value} {z : List V} {ps : List (Nat × Nat × V)} {K : V → Prop} (hz : ofVs zero = some z) (h : vFill ps z fun cs => K (.agg cs)) : vBuild zero ps K := by
 unfold vBuild vZero
 rw [hz]
 exact h
def Bs.start (h n t me : Int) : Bs := ⟨h, n, t, me, 0, 1, 0, [], [], -1, -1, false, false, []⟩
def bOk (h n t me : Int) : Prop := (1 ≤ n ∧ n ≤ 7) ∧ (1 ≤ h ∧ h ≤ 64) ∧ (0 ≤ t ∧ t ≤ n) ∧ 3 * t + 1 ≤ n ∧ 0 ≤ me ∧ me ≤ n
theorem bnew_s (hf : ov c_ballot_New = none) (hf2 : ov c_tally_New = none) (hx : Deep PP tbS ov M (n + 2) x) {h z q me : Int} (h1 : ¬ bOk h z q me → K (.tuple [.nilp, .int .i64 1]) σ)
 (h2 : bOk h z q me → ∀ m t b, σ m = none → t ≠ m → σ t = none → b ≠ t → b ≠ m → σ b = none → K (.tuple [.ptr b 0, .int .i64 0]) (upd (upd (upd σ m (.map [])) t (.row [.int .i64 z, .mapv m] 78)) b (.row (bRow (.start h z q me) t) 61))) : x.call c_ballot_New [.int .i64 h, .int .i64 z, .int .i64 q, .int .i64 me] σ K := by
 refine hx.call hf fun y hy => ?_
 rw [f_ballot_New]
 unfold r_ballot_New
 refine tnew_s hf2 hy (fun e => ?_) (fun e1 e2 m t hm ht ht0 => ?_)
 · refine vExt_to rfl (vExt_to rfl ?_)
   simp only [vBinI_neq, shutP_eq, show (!decide ((1 : Int) = Int.ofNat 0)) = true from rfl, vGuard_ft, vPick_b, if_true, vIf_b]
   exact vRet_here (h1 fun o => e o.1)
 · refine vExt_to rfl (vExt_to rfl ?_)
   have le1 : Hle σ (upd (upd σ m (.map [])) t (.row [.int .i64 z, .mapv m] 78)) := (Hle.upd_new hm).trans (.upd_new (by rw [upd_other ht]; exact ht0))
   generalize hσ1 : upd (upd σ m (.map [])) t (.row [.int .i64 z, .mapv m] 78) = σ1 at le1
   have bad : ¬ bOk h z q me → vRet (.tuple [.nilp, (.int .i64 (.ofNat 1))]) σ1 K := fun e => vRet_drop le1 (h1 e)
   simp only [vBinI_neq, shutP_eq, show (!decide ((0 : Int) = Int.ofNat 0)) = false from rfl, vGuard_t, vBinI_lss, vPick_b, Bool.false_eq_true, if_false]
   by_cases c1 : h < 1
   · simp only [show decide (h < Int.ofNat 1) = true from decide_eq_true c1, vGuard_ft, vPick_b, if_true, vIf_b]
     exact bad fun o => by have := o.2.1; omega
   simp only [show decide (h < Int.ofNat 1) = false from decide_eq_false c1, vGuard_t, vBinI_gtr, vPick_b, Bool.false_eq_true, if_false]
   by_cases c2 : 64 < h
   · simp only [show decide (Int.ofNat 64 < h) = true from decide_eq_true c2, vGuard_ft, vPick_b, if_true, vIf_b]
     exact bad fun o => by have := o.2.1; omega
   simp only [show decide (Int.ofNat 64 < h) = false from decide_eq_false c2, vGuard_t, vBinI_lss, vPick_b, Bool.false_eq_true, if_false]
   by_cases c3 : q < 0
   · simp only [show decide (q < Int.ofNat 0) = true from decide_eq_true c3, vGuard_ft, vPick_b, if_true, vIf_b]
     exact bad fun o => by have := o.2.2.1; omega
   simp only [show decide (q < Int.ofNat 0) = false from decide_eq_false c3, vGuard_t, vBinI_gtr, vPick_b, Bool.false_eq_true, if_false]
   by_cases c4 : z < q
   · simp only [decide_eq_true c4, vGuard_ft, vPick_b, if_true, vIf_b]
     exact bad fun o => by have := o.2.2.1; omega
   have w1 : wrapI .i64 (Int.ofNat 3 * q) = 3 * q := by rw [wrap_small] <;> simp <;> omega
   have w2 : wrapI .i64 (3 * q + Int.ofNat 1) = 3 * q + 1 := by rw [wrap_small] <;> simp <;> omega
   simp only [decide_eq_false c4, vGuard_t, vBinI_mul, w1, vBinI_add, w2, vBinI_lss, vPick_b, Bool.false_eq_true, if_false]
   by_cases c5 : z < 3 * q + 1
   · simp only [decide_eq_true c5, vGuard_ft, vPick_b, if_true, vIf_b]
     exact bad fun o => by have := o.2.2.2.1; omega
   simp only [decide_eq_false c5, vGuard_t, vBinI_lss, vPick_b, Bool.false_eq_true, if_false]
   by_cases c6 : me < 0
   · simp only [show decide (me < Int.ofNat 0) = true from decide_eq_true c6, vGuard_ft, if_true, vIf_b]
     exact bad fun o => by have := o.2.2.2.2; omega
   simp only [show decide (me < Int.ofNat 0) = false from decide_eq_false c6, vGuard_t, vBinI_gtr, Bool.false_eq_true, if_false]
   by_cases c7 : z < me
   · simp only [decide_eq_true c7, vIf_b, if_true]
     exact bad fun o => by have := o.2.2.2.2; omega
   simp only [decide_eq_false c7, vIf_b, Bool.false_eq_true, if_false]
   refine vBuild_to (by rfl) ?_
   refine vFill_one rfl (by simp) (vFill_one rfl (by simp) (vFill_one rfl (by simp) (vFill_one rfl (by simp) (vFill_one rfl (by simp) (vFill_one rfl (by simp) (vFill_one rfl (by simp) (vFill_end ?_)))))))
   refine vBuild_to (by rfl) ?_
   refine vFill_all (by rfl) (by rfl) (by simp) (vFill_one rfl (by simp) (vFill_end ?_))
   refine vBox_agg (cs := bRow (.start h z q me) t) rfl fun b hb => ?_
   rw [← hσ1] at hb ⊢
   obtain ⟨hbt, hb⟩ := upd_none hb
   obtain ⟨hbm, hb⟩ := upd_none hb
   exact vRet_here (h2 ⟨⟨e1, e2⟩, ⟨by omega, by omega⟩, ⟨by omega, by omega⟩, by omega, by omega, by omega⟩ m t b hm ht ht0 hbt hbm hb)
end Go.Am

set_option linter.unusedVariables false
set_option maxRecDepth 8000
namespace Go.Am
variable {ov : OvV} {M n b t : Nat} {x : VE} {σ : Hp} {K : KV} {s : Bs} {ty : TypeId}
def placeB (tx : List UInt8) (r now : Int) : Bool := decide (tx.length ≤ 2048) && decide (-1 ≤ r) && decide (r ≤ now) && decide (decide (tx = []) = decide (r = -1))
theorem bool4 : isBoolT PP 4 = true := by kernel_rfl
theorem vBinB_eql {P : Program} {t : TypeId} {x y : Bool} {K : V → Prop} (h : isBoolT P t = true) : vBin P .eql t (.bool x) (.bool y) K = K (.bool (decide (x = y))) := by simp [vBin, vBinB, h]
theorem place_s (hf : ov c_ballot_place = none) (hx : Deep PP tbS ov M (n + 1) x) {tx : List UInt8} {r now : Int} (hk : K (.bool (placeB tx r now)) σ) : x.call c_ballot_place [.str tx, .int .i64 r, .int .i64 now] σ K := by
 refine hx.call hf fun y hy => ?_
 rw [f_ballot_place]
 unfold r_ballot_place
 have fin : ∀ {bb : Bool}, placeB tx r now = bb → vRet (.bool bb) σ K := fun e => vRet_here (by rw [← e]; exact hk)
 simp only [vLenT_s, vBinI_leq, shutP_eq]
 by_cases c1 : tx.length ≤ 2048
 · simp only [show decide (Int.ofNat tx.length ≤ Int.ofNat 2048) = true from decide_eq_true (by simp; omega), vGuard_t, vBinI_geq, vPick_b, if_true]
   by_cases c2 : -1 ≤ r
   · simp only [show decide (Int.negSucc 0 ≤ r) = true from decide_eq_true c2, vGuard_t, vBinI_leq, vPick_b, if_true]
     by_cases c3 : r ≤ now
     · simp only [decide_eq_true c3, vGuard_t, vBinS_eql, vBinI_eql, vBinB_eql bool4, if_true]
       refine fin ?_
       have : (decide (r = -1)) = decide (r = Int.negSucc 0) := rfl
       simp [placeB, c1, c2, c3, this]
     · simp only [decide_eq_false c3, vGuard_tf, Bool.false_eq_true, if_false]
       refine fin ?_; simp [placeB, c3]
   · simp only [show decide (Int.negSucc 0 ≤ r) = false from decide_eq_false c2, vGuard_tf, vPick_b, Bool.false_eq_true, if_false]
     refine fin ?_; simp [placeB, c2]
 · simp only [show decide (Int.ofNat tx.length ≤ Int.ofNat 2048) = false from decide_eq_false (by simp; omega), vGuard_tf, vPick_b, Bool.false_eq_true, if_false]
   refine fin ?_; simp [placeB, c1]
theorem kind25 : kindT PP 25 = some .ptr := by kernel_rfl
end Go.Am

set_option linter.unusedVariables false
namespace Go.Am
structure Mg where
 kd : Nat
 h : Int
 r : Int
 vl : Int
 tx : List UInt8
structure Ba where
 s : Bs
 l : List Vo
abbrev R3 := Ba × List Mg × Bool
namespace Ba
def put (a : Ba) (v : Vo) : Ba := if a.s.takes a.l v then ⟨a.s, insV v a.l⟩ else a
def to (a : Ba) (z : Int) : Ba := ⟨{ a.s with st := z, age := 0 }, a.l⟩
def begin_ (a : Ba) (r : Int) : Ba := ⟨{ a.s with st := 1, age := 0, rd := r, prop := false, seen := false }, a.l⟩
def say (a : Ba) (k : Nat) (vl : Int) (tx : List UInt8) : Ba × List Mg := (a.put ⟨a.s.me, a.s.rd, k, vl, tx⟩, [⟨k, a.s.h, a.s.rd, vl, tx⟩])
def pr (a : Ba) (r : Int) : Option Vo := a.l.find? fun v => v.at r (a.s.pro r) 2
def cnt (a : Ba) (r : Int) (k : Nat) (tx : List UInt8) : Nat := memV (fun v => decide (v.rd = r) && decide (v.kd = k) && decide (v.tx = tx)) a.s.n.toNat a.l
def all (a : Ba) (r : Int) (k : Nat) : Nat := memV (fun v => decide (v.rd = r) && decide (v.kd = k)) a.s.n.toNat a.l
def sent (a : Ba) (r : Int) : Nat := memV (fun v => decide (v.rd = r)) a.s.n.toNat a.l
def agreed (a : Ba) (r : Int) (k : Nat) (tx : List UInt8) : Bool := decide (a.s.n - a.s.t ≤ (a.cnt r k tx : Int))
def rounds (a : Ba) : List Int := dd (a.l.map (·.rd))
def no (a : Ba) : R3 := (a, [], false)
def yes (p : Ba × List Mg) : R3 := (p.1, p.2, true)
def decAt (a : Ba) (r : Int) : Option (List UInt8) := match a.pr r with
 | some v => if a.agreed r 4 v.tx then some v.tx else none
 | none => none
def decide_ (a : Ba) : R3 := match a.rounds.findSome? a.decAt with
 | some tx => (⟨{ a.s with dec := tx }, a.l⟩, [], true)
 | none => a.no
def skips (a : Ba) (r : Int) : Bool := decide (a.s.rd < r) && decide (a.s.t < (a.sent r : Int))
def skip (a : Ba) : R3 := match a.rounds.reverse.find? a.skips with
 | some r => (a.begin_ r, [], true)
 | none => a.no
def prevote (a : Ba) (tx : List UInt8) (free : Bool) : Ba × List Mg := (a.to 2).say 3 0 (if !free && !decide (a.s.lock = tx) then [] else tx)
def fresh (a : Ba) (may : List (List UInt8)) : R3 := match a.pr a.s.rd with
 | some v => if decide (a.s.st = 1) && decide (v.vl = -1) && may.contains v.tx then yes (a.prevote v.tx (decide (a.s.lock = []))) else a.no
 | none => a.no
def old (a : Ba) : R3 := match a.pr a.s.rd with
 | some v => if decide (a.s.st = 1) && !decide (v.vl = -1) && a.agreed v.vl 3 v.tx then yes (a.prevote v.tx (decide (a.s.lockR ≤ v.vl))) else a.no
 | none => a.no
def lock (a : Ba) : R3 := match a.pr a.s.rd with
 | some v => if !decide (a.s.st = 1) && !a.s.seen && a.agreed a.s.rd 3 v.tx then
  (if a.s.st = 3 then (⟨{ a.s with seen := true, valid := v.tx, validR := a.s.rd }, a.l⟩, [], true)
   else yes ((⟨{ a.s with seen := true, valid := v.tx, validR := a.s.rd, lock := v.tx, lockR := a.s.rd, st := 3, age := 0 }, a.l⟩ : Ba).say 4 0 v.tx))
  else a.no
 | none => a.no
def nothing (a : Ba) : R3 := if decide (a.s.st = 2) && a.agreed a.s.rd 3 [] then yes ((a.to 3).say 4 0 []) else a.no
def wants (a : Ba) (want : List UInt8) : List UInt8 × Int := if a.s.valid = [] then (want, -1) else (a.s.valid, a.s.validR)
def propose (a : Ba) (want : List UInt8) : R3 :=
 if decide (a.s.st = 1) && !a.s.prop && decide (a.s.pro a.s.rd = a.s.me) && !decide ((a.wants want).1 = []) then yes ((⟨{ a.s with prop := true }, a.l⟩ : Ba).say 2 (a.wants want).2 (a.wants want).1) else a.no
def rule (a : Ba) (want : List UInt8) (may : List (List UInt8)) : Nat → R3
 | 0 => a.decide_
 | 1 => a.skip
 | 2 => a.fresh may
 | 3 => a.old
 | 4 => a.lock
 | 5 => a.nothing
 | _ => a.propose want
def from_ (a : Ba) (want : List UInt8) (may : List (List UInt8)) : Nat → Nat → R3
 | 0, _ => a.no
 | n + 1, i => if (a.rule want may i).2.2 then a.rule want may i else from_ a want may n (i + 1)
def mine (a : Ba) : Nat := if a.s.me = 0 then 1 else 7
def run (want : List UInt8) (may : List (List UInt8)) : Nat → Ba → List Mg → Ba × List Mg
 | 0, a, out => (a, out)
 | n + 1, a, out => if a.s.dec = [] then (if (a.from_ want may a.mine 0).2.2 then run want may n (a.from_ want may a.mine 0).1 (out ++ (a.from_ want may a.mine 0).2.1) else (a, out)) else (a, out)
def do_ (a : Ba) (want : List UInt8) (may : List (List UInt8)) : Ba × List Mg := run want may 1000 a []
def late (a : Ba) : Ba × List Mg :=
 if a.s.st = 1 then (a.to 2).say 3 0 []
 else if a.s.st = 2 then (if decide (a.s.n - a.s.t ≤ (a.all a.s.rd 3 : Int)) then (a.to 3).say 4 0 [] else (a, []))
 else if decide (a.s.n - a.s.t ≤ (a.all a.s.rd 4 : Int)) && decide (a.s.rd < 99) then (a.begin_ (a.s.rd + 1), []) else (a, [])
def ticks (a : Ba) (want : List UInt8) : Bool := !decide (a.s.me = 0) && decide (a.s.dec = []) && (!decide (want = []) || decide (0 < a.rounds.length))
def older (a : Ba) : Ba := ⟨{ a.s with age := min (a.s.age + 1) 1099511627776 }, a.l⟩
def tick0 (a : Ba) (want : List UInt8) : Ba × List Mg := if a.ticks want then (if 4 + 2 * a.s.rd ≤ a.older.s.age then a.older.late else (a.older, [])) else (a, [])
def tick (a : Ba) (want : List UInt8) (may : List (List UInt8)) : Ba × List Mg := (((a.tick0 want).1.do_ want may).1, (a.tick0 want).2 ++ ((a.tick0 want).1.do_ want may).2)
def give (a : Ba) (fr : Int) (k : Nat) (h r vl : Int) (tx : List UInt8) : Ba := if decide (h = a.s.h) && decide (2 ≤ k) && decide (k ≤ 4) && decide (r < 100) then a.put ⟨fr, r, k, vl, tx⟩ else a
end Ba
/-! what is always so -/
structure InvB (a : Ba) : Prop where
 ok : bOk a.s.h a.s.n a.s.t a.s.me
 rd : 0 ≤ a.s.rd ∧ a.s.rd ≤ 99
 st : 1 ≤ a.s.st ∧ a.s.st ≤ 3
 age : 0 ≤ a.s.age ∧ a.s.age ≤ 1099511627776
 lk : placeB a.s.lock a.s.lockR a.s.rd = true
 vl : placeB a.s.valid a.s.validR a.s.rd = true
 dec : a.s.dec.length ≤ 2048
 srt : a.l.Pairwise fun u v => u.lt v = true
 vs : ∀ v ∈ a.l, v.may a.s.n = true ∧ (v.kd = 2 → v.fr = a.s.pro v.rd)
theorem lt_iff (a b : Vo) : a.lt b = true ↔ (a.rd < b.rd ∨ (a.rd = b.rd ∧ (a.fr < b.fr ∨ (a.fr = b.fr ∧ a.kd < b.kd)))) := by unfold Vo.lt; simp
theorem at_iff (v : Vo) (r f : Int) (k : Nat) : v.at r f k = true ↔ (v.rd = r ∧ v.fr = f ∧ v.kd = k) := by unfold Vo.at; simp [and_assoc]
theorem may_iff (v : Vo) (n : Int) : v.may n = true ↔ (1 ≤ v.fr ∧ v.fr ≤ n ∧ 0 ≤ v.rd ∧ v.rd < 100 ∧ v.tx.length ≤ 2048) ∧ ((v.kd = 2 ∧ v.tx ≠ [] ∧ -1 ≤ v.vl ∧ v.vl < v.rd) ∨ ((v.kd = 3 ∨ v.kd = 4) ∧ v.vl = 0)) := by
 unfold Vo.may
 simp only [Bool.and_eq_true, Bool.not_eq_true', Bool.or_eq_false_iff, decide_eq_false_iff_not]
 by_cases h2 : v.kd = 2
 · rw [if_pos h2]
   simp only [Bool.and_eq_true, decide_eq_true_eq, Bool.not_eq_true', decide_eq_false_iff_not]
   constructor
   · rintro ⟨⟨⟨⟨⟨q1, q2⟩, q3⟩, q4⟩, q5⟩, ⟨⟨q6, q7⟩, q8⟩⟩
     exact ⟨⟨by omega, by omega, by omega, by omega, by omega⟩, .inl ⟨h2, q6, q7, q8⟩⟩
   · rintro ⟨⟨q1, q2, q3, q4, q5⟩, ⟨_, q6, q7, q8⟩ | ⟨q6, _⟩⟩
     · exact ⟨⟨⟨⟨⟨by omega, by omega⟩, by omega⟩, by omega⟩, by omega⟩, ⟨⟨q6, q7⟩, q8⟩⟩
     · omega
 · rw [if_neg h2]
   by_cases h3 : v.kd = 3 ∨ v.kd = 4
   · rw [if_pos h3]
     simp only [decide_eq_true_eq]
     constructor
     · rintro ⟨⟨⟨⟨⟨q1, q2⟩, q3⟩, q4⟩, q5⟩, q6⟩
       exact ⟨⟨by omega, by omega, by omega, by omega, by omega⟩, .inr ⟨h3, q6⟩⟩
     · rintro ⟨⟨q1, q2, q3, q4, q5⟩, ⟨q6, _⟩ | ⟨_, q6⟩⟩
       · exact absurd q6 h2
       · exact ⟨⟨⟨⟨⟨by omega, by omega⟩, by omega⟩, by omega⟩, by omega⟩, q6⟩
   · rw [if_neg h3]
     simp only [Bool.false_eq_true, and_false, false_iff]
     rintro ⟨_, ⟨q6, _⟩ | ⟨q6, _⟩⟩
     · exact h2 q6
     · exact h3 q6
theorem insV_perm (v : Vo) (l : List Vo) : (insV v l).Perm (l ++ [v]) := by
 induction l with
 | nil => exact .refl _
 | cons u l ih =>
  unfold insV
  split
  · exact (List.perm_append_comm (l₁ := [v]) (l₂ := u :: l))
  · exact ih.cons u
theorem sortV_perm (l : List Vo) : (sortV l).Perm l := by
 induction l with
 | nil => exact .refl _
 | cons v l ih =>
  unfold sortV
  exact (insV_perm v _).trans (List.perm_append_comm.trans (ih.cons v))
theorem lt_tri {u v : Vo} (h : ¬ (u.rd = v.rd ∧ u.fr = v.fr ∧ u.kd = v.kd)) : u.lt v = true ∨ v.lt u = true := by
 rw [lt_iff, lt_iff]; omega
theorem insV_srt {v : Vo} {l : List Vo} (h : l.Pairwise fun u v => u.lt v = true) (hf : v.free l = true) : (insV v l).Pairwise fun u v => u.lt v = true := by
 have hne : ∀ u ∈ l, ¬ (u.rd = v.rd ∧ u.fr = v.fr ∧ u.kd = v.kd) := by
  intro u hu e
  unfold Vo.free at hf
  rw [Option.isNone_iff_eq_none, List.find?_eq_none] at hf
  exact hf u hu ((at_iff _ _ _ _).2 e)
 clear hf
 induction l with
 | nil => exact List.pairwise_singleton _ _
 | cons u l ih =>
  rw [List.pairwise_cons] at h
  unfold insV
  split
  · rename_i hlt
    rw [List.pairwise_cons]
    refine ⟨fun w hw => ?_, List.pairwise_cons.2 h⟩
    rcases List.mem_cons.1 hw with rfl | hw
    · exact hlt
    · have := h.1 w hw
      rw [lt_iff] at hlt this ⊢; omega
  · rename_i hlt
    rw [List.pairwise_cons]
    refine ⟨fun w hw => ?_, ih h.2 fun w hw => hne w (.tail _ hw)⟩
    rcases List.mem_append.1 ((insV_perm v l).mem_iff.1 hw) with hw | hw
    · exact h.1 w hw
    · simp at hw; subst hw
      rcases lt_tri (hne u (.head _)) with q | q
      · exact q
      · exact absurd q hlt
theorem srt_eq : ∀ {l l' : List Vo}, l.Pairwise (fun u v => u.lt v = true) → l'.Pairwise (fun u v => u.lt v = true) → l.Perm l' → l = l' := by
 intro l
 induction l with
 | nil => intro l' _ _ p; exact (List.nil_perm.1 p).symm
 | cons a l ih =>
  intro l' h h' p
  cases l' with
  | nil => exact absurd p (by intro p; have := p.length_eq; simp at this)
  | cons b l' =>
   rw [List.pairwise_cons] at h h'
   have irr : ∀ v : Vo, ¬ v.lt v = true := fun v q => by rw [lt_iff] at q; omega
   have e : a = b := by
    rcases List.mem_cons.1 (p.mem_iff.1 (.head l)) with q | q
    · exact q
    · rcases List.mem_cons.1 (p.symm.mem_iff.1 (.head l')) with q2 | q2
      · exact q2.symm
      · have h1 := h'.1 a q
        have h2 := h.1 b q2
        rw [lt_iff] at h1 h2; omega
   subst e
   rw [ih h.2 h'.2 p.cons_inv]
theorem nodupK {l : List Vo} (h : l.Pairwise fun u v => u.lt v = true) {u v : Vo} (hu : u ∈ l) (hv : v ∈ l) (e : u.rd = v.rd ∧ u.fr = v.fr ∧ u.kd = v.kd) : u = v := by
 induction l with
 | nil => cases hu
 | cons a l ih =>
  rw [List.pairwise_cons] at h
  rcases List.mem_cons.1 hu with rfl | hu'
  · rcases List.mem_cons.1 hv with rfl | hv
    · rfl
    · have := h.1 v hv; rw [lt_iff] at this; omega
  · rcases List.mem_cons.1 hv with e2 | hv'
    · subst e2; have := h.1 u hu'; rw [lt_iff] at this; omega
    · exact ih h.2 hu' hv'
theorem find_perm {l l' : List Vo} (h : l.Pairwise fun u v => u.lt v = true) (p : l'.Perm l) (r f : Int) (k : Nat) : (l'.find? fun v => v.at r f k) = l.find? fun v => v.at r f k := by
 cases e : l.find? fun v => v.at r f k with
 | none =>
  rw [List.find?_eq_none] at e ⊢
  exact fun v hv => e v (p.mem_iff.1 hv)
 | some u =>
  cases e' : l'.find? fun v => v.at r f k with
  | none =>
   rw [List.find?_eq_none] at e'
   exact absurd (List.find?_some (p := fun v : Vo => v.at r f k) e) (e' u (p.mem_iff.2 (List.mem_of_find?_eq_some e)))
  | some u' =>
   congr 1
   have h1 := (at_iff _ _ _ _).1 (List.find?_some (p := fun v : Vo => v.at r f k) e)
   have h2 := (at_iff _ _ _ _).1 (List.find?_some (p := fun v : Vo => v.at r f k) e')
   exact nodupK h (p.mem_iff.1 (List.mem_of_find?_eq_some e')) (List.mem_of_find?_eq_some e) (by omega)
theorem any_perm {l l' : List Vo} (p : l'.Perm l) (f : Vo → Bool) : l'.any f = l.any f := by
 rw [Bool.eq_iff_iff, List.any_eq_true, List.any_eq_true]
 exact ⟨fun ⟨v, h1, h2⟩ => ⟨v, p.mem_iff.1 h1, h2⟩, fun ⟨v, h1, h2⟩ => ⟨v, p.mem_iff.2 h1, h2⟩⟩
theorem memV_perm {l l' : List Vo} (p : l'.Perm l) (f : Vo → Bool) (n : Nat) : memV f n l' = memV f n l := by
 unfold memV
 congr 2
 funext i
 exact any_perm p _
theorem takes_perm {s : Bs} {l l' : List Vo} (h : l.Pairwise fun u v => u.lt v = true) (p : l'.Perm l) (v : Vo) : s.takes l' v = s.takes l v := by
 unfold Bs.takes Vo.free
 rw [find_perm h p]
theorem sortV_srt {l l' : List Vo} (h : l.Pairwise fun u v => u.lt v = true) (p : l'.Perm l) : sortV l' = l := by
 refine srt_eq ?_ h ((sortV_perm l').trans p)
 have hk : ∀ l2 : List Vo, (l2.Pairwise fun u v => ¬ (u.rd = v.rd ∧ u.fr = v.fr ∧ u.kd = v.kd)) → (sortV l2).Pairwise fun u v => u.lt v = true := by
  intro l2
  induction l2 with
  | nil => intro _; exact .nil
  | cons v l2 ih =>
   intro q
   rw [List.pairwise_cons] at q
   unfold sortV
   refine insV_srt (ih q.2) ?_
   unfold Vo.free
   rw [Option.isNone_iff_eq_none, List.find?_eq_none]
   intro u hu e
   have e := (at_iff _ _ _ _).1 e
   exact q.1 u ((sortV_perm l2).mem_iff.1 hu) (by omega)
 refine hk l' ?_
 refine (p.symm.pairwise_iff (R := fun u v : Vo => ¬ (u.rd = v.rd ∧ u.fr = v.fr ∧ u.kd = v.kd)) (fun {a b} q => by omega)).1 (h.imp fun {a b} q => ?_)
 rw [lt_iff] at q; omega
theorem len_of {l : List Vo} {n : Int} (h : l.Pairwise fun u v => u.lt v = true) (hn : n ≤ 7) (hv : ∀ v ∈ l, v.may n = true) : l.length ≤ 2400 := by
 let code : Vo → Nat := fun v => (v.rd.toNat * 8 + v.fr.toNat) * 3 + (v.kd - 2)
 have hb : ∀ v ∈ l, code v < 2400 := fun v hm => by
  obtain ⟨⟨a1, a2, a3, a4, _⟩, q⟩ := (may_iff v n).1 (hv v hm)
  show (v.rd.toNat * 8 + v.fr.toNat) * 3 + (v.kd - 2) < 2400
  rcases q with ⟨q, _⟩ | ⟨q, _⟩ <;> omega
 have hp : l.Pairwise fun u v => code u < code v := by
  refine List.Pairwise.imp_of_mem ?_ h
  intro u v hu hv2 q
  obtain ⟨⟨a1, a2, a3, a4, _⟩, q1⟩ := (may_iff u n).1 (hv u hu)
  obtain ⟨⟨b1, b2, b3, b4, _⟩, q2⟩ := (may_iff v n).1 (hv v hv2)
  rw [lt_iff] at q
  show (u.rd.toNat * 8 + u.fr.toNat) * 3 + (u.kd - 2) < (v.rd.toNat * 8 + v.fr.toNat) * 3 + (v.kd - 2)
  rcases q1 with ⟨q1, _⟩ | ⟨q1, _⟩ <;> rcases q2 with ⟨q2, _⟩ | ⟨q2, _⟩ <;> omega
 have go : ∀ (l : List Vo) (a : Nat), (l.Pairwise fun u v => code u < code v) → (∀ v ∈ l, a ≤ code v ∧ code v < 2400) → l.length + a ≤ 2400 ∨ l = [] := by
  intro l
  induction l with
  | nil => intro a _ _; exact .inr rfl
  | cons v l ih =>
   intro a hp hb
   rw [List.pairwise_cons] at hp
   have hv := hb v (.head _)
   rcases ih (code v + 1) hp.2 (fun u hu => ⟨hp.1 u hu, (hb u (.tail _ hu)).2⟩) with q | q
   · left; simp; omega
   · subst q; left; simp; omega
 rcases go l 0 hp (fun v hv => ⟨Nat.zero_le _, hb v hv⟩) with q | q
 · omega
 · subst q; simp
end Go.Am

set_option linter.unusedVariables false
namespace Go.Am
theorem placeB_iff (tx : List UInt8) (r now : Int) : placeB tx r now = true ↔ (tx.length ≤ 2048 ∧ -1 ≤ r ∧ r ≤ now ∧ (tx = [] ↔ r = -1)) := by
 unfold placeB
 simp only [Bool.and_eq_true, decide_eq_true_eq, decide_eq_decide, and_assoc]
theorem takes_iff (s : Bs) (l : List Vo) (v : Vo) : s.takes l v = true ↔ (¬ (v.kd = 2 ∧ (v.rd < 0 ∨ v.fr ≠ s.pro v.rd)) ∧ v.may s.n = true ∧ v.free l = true) := by
 unfold Bs.takes
 simp only [Bool.and_eq_true, Bool.not_eq_true', Bool.and_eq_false_iff, Bool.or_eq_false_iff, decide_eq_false_iff_not, Bool.not_eq_false', decide_eq_true_eq]
 constructor
 · rintro ⟨h, h2, h3⟩
   refine ⟨fun ⟨q1, q2⟩ => ?_, h2, h3⟩
   rcases h with h | ⟨h4, h5⟩
   · exact h q1
   · rcases q2 with q2 | q2
     · exact h4 q2
     · exact q2 h5
 · rintro ⟨h, h2, h3⟩
   refine ⟨?_, h2, h3⟩
   by_cases q : v.kd = 2
   · refine .inr ⟨fun q2 => h ⟨q, .inl q2⟩, ?_⟩
     by_cases q3 : v.fr = s.pro v.rd
     · exact q3
     · exact absurd ⟨q, .inr q3⟩ h
   · exact .inl q
namespace InvB
variable {a : Ba}
theorem put (i : InvB a) (v : Vo) : InvB (a.put v) := by
 unfold Ba.put
 by_cases h : a.s.takes a.l v = true
 · rw [if_pos h]
   obtain ⟨h1, h2, h3⟩ := (takes_iff _ _ _).1 h
   refine ⟨i.ok, i.rd, i.st, i.age, i.lk, i.vl, i.dec, insV_srt i.srt h3, fun u hu => ?_⟩
   rcases List.mem_append.1 ((insV_perm v a.l).mem_iff.1 hu) with hu | hu
   · exact i.vs u hu
   · simp at hu; subst hu
     refine ⟨h2, fun q => ?_⟩
     by_cases e : u.fr = a.s.pro u.rd
     · exact e
     · exact absurd ⟨q, .inr e⟩ h1
 · rw [if_neg h]; exact i
theorem put_s (a : Ba) (v : Vo) : (a.put v).s = a.s := by
 unfold Ba.put
 split <;> rfl
theorem to (i : InvB a) {z : Int} (h1 : 1 ≤ z) (h2 : z ≤ 3) : InvB (a.to z) :=
 ⟨i.ok, i.rd, ⟨h1, h2⟩, ⟨Int.le_refl _, by show (0 : Int) ≤ 1099511627776; decide⟩, i.lk, i.vl, i.dec, i.srt, i.vs⟩
theorem begin_ (i : InvB a) {r : Int} (h1 : a.s.rd ≤ r) (h2 : r ≤ 99) : InvB (a.begin_ r) := by
 refine ⟨i.ok, ⟨?_, h2⟩, ⟨by show (1 : Int) ≤ 1; decide, by show (1 : Int) ≤ 3; decide⟩, ⟨Int.le_refl _, by show (0 : Int) ≤ 1099511627776; decide⟩, ?_, ?_, i.dec, i.srt, i.vs⟩
 · show 0 ≤ r; have := i.rd; omega
 · have := (placeB_iff _ _ _).1 i.lk
   exact (placeB_iff _ _ _).2 ⟨this.1, this.2.1, Int.le_trans this.2.2.1 h1, this.2.2.2⟩
 · have := (placeB_iff _ _ _).1 i.vl
   exact (placeB_iff _ _ _).2 ⟨this.1, this.2.1, Int.le_trans this.2.2.1 h1, this.2.2.2⟩
theorem say (i : InvB a) (k : Nat) (vl : Int) (tx : List UInt8) : InvB (a.say k vl tx).1 := i.put _
theorem pr_mem (i : InvB a) {r : Int} {v : Vo} (h : a.pr r = some v) : v ∈ a.l ∧ v.rd = r ∧ v.kd = 2 ∧ v.tx ≠ [] ∧ v.tx.length ≤ 2048 ∧ v.may a.s.n = true := by
 unfold Ba.pr at h
 have h1 := List.mem_of_find?_eq_some h
 have h2 := (at_iff _ _ _ _).1 (List.find?_some (p := fun v : Vo => v.at r (a.s.pro r) 2) h)
 have h3 := i.vs v h1
 obtain ⟨q1, q2⟩ := (may_iff _ _).1 h3.1
 refine ⟨h1, h2.1, h2.2.2, ?_, q1.2.2.2.2, h3.1⟩
 rcases q2 with q2 | q2
 · exact q2.2.1
 · omega
theorem decide_ (i : InvB a) : InvB a.decide_.1 := by
 unfold Ba.decide_
 cases h : a.rounds.findSome? a.decAt with
 | none => exact i
 | some tx =>
  obtain ⟨r, _, hr⟩ := List.exists_of_findSome?_eq_some h
  refine ⟨i.ok, i.rd, i.st, i.age, i.lk, i.vl, ?_, i.srt, i.vs⟩
  unfold Ba.decAt at hr
  split at hr
  · rename_i v hv
    split at hr
    · injection hr with hr; subst hr; exact (i.pr_mem hv).2.2.2.2.1
    · cases hr
  · cases hr
theorem dq_mem (zs : List Int) : ∀ (j : Nat) (z : Int), z ∈ dq zs j → j ≤ zs.length → z ∈ zs := by
 intro j
 induction j with
 | zero => intro z h; cases h
 | succ j ih =>
  intro z h hj
  unfold dq at h
  split at h
  · rcases List.mem_append.1 h with h | h
    · exact ih z h (by omega)
    · simp at h; subst h
      rw [List.getElem?_eq_getElem (by omega)]
      exact List.getElem_mem _
  · exact ih z h (by omega)
theorem rounds_mem (i : InvB a) {r : Int} (h : r ∈ a.rounds) : 0 ≤ r ∧ r ≤ 99 := by
 have := dq_mem _ _ _ h (Nat.le_refl _)
 obtain ⟨v, hv, rfl⟩ := List.mem_map.1 this
 obtain ⟨⟨_, _, q3, q4, _⟩, _⟩ := (may_iff _ _).1 (i.vs v hv).1
 omega
theorem skip (i : InvB a) : InvB a.skip.1 := by
 unfold Ba.skip
 cases h : a.rounds.reverse.find? a.skips with
 | none => exact i
 | some r =>
  have h1 := List.find?_some (p := a.skips) h
  have h2 := i.rounds_mem (List.mem_reverse.1 (List.mem_of_find?_eq_some h))
  unfold Ba.skips at h1
  simp only [Bool.and_eq_true, decide_eq_true_eq] at h1
  exact i.begin_ (by omega) h2.2
theorem prevote (i : InvB a) (tx : List UInt8) (f : Bool) : InvB (a.prevote tx f).1 := (i.to (by decide) (by decide)).say _ _ _
theorem fresh (i : InvB a) (may : List (List UInt8)) : InvB (a.fresh may).1 := by
 unfold Ba.fresh
 split
 · split
   · exact i.prevote _ _
   · exact i
 · exact i
theorem old (i : InvB a) : InvB a.old.1 := by
 unfold Ba.old
 split
 · split
   · exact i.prevote _ _
   · exact i
 · exact i
theorem lock (i : InvB a) : InvB a.lock.1 := by
 unfold Ba.lock
 split
 · rename_i v hv
   obtain ⟨_, _, _, h1, h2, _⟩ := i.pr_mem hv
   have hp : placeB v.tx a.s.rd a.s.rd = true := (placeB_iff _ _ _).2 ⟨h2, by have := i.rd; omega, Int.le_refl _, ⟨fun e => absurd e h1, fun e => by have := i.rd; omega⟩⟩
   split
   · split
     · exact ⟨i.ok, i.rd, i.st, i.age, i.lk, hp, i.dec, i.srt, i.vs⟩
     · show InvB (Ba.say _ _ _ _).1
       refine InvB.say ?_ _ _ _
       exact ⟨i.ok, i.rd, ⟨by show (1 : Int) ≤ 3; decide, by show (3 : Int) ≤ 3; decide⟩, ⟨Int.le_refl _, by show (0 : Int) ≤ 1099511627776; decide⟩, hp, hp, i.dec, i.srt, i.vs⟩
   · exact i
 · exact i
theorem nothing (i : InvB a) : InvB a.nothing.1 := by
 unfold Ba.nothing
 split
 · exact (i.to (by decide) (by decide)).say _ _ _
 · exact i
theorem propose (i : InvB a) (want : List UInt8) : InvB (a.propose want).1 := by
 unfold Ba.propose
 split
 · show InvB (Ba.say _ _ _ _).1
   refine InvB.say ?_ _ _ _
   exact ⟨i.ok, i.rd, i.st, i.age, i.lk, i.vl, i.dec, i.srt, i.vs⟩
 · exact i
theorem rule (i : InvB a) (want : List UInt8) (may : List (List UInt8)) (k : Nat) : InvB (a.rule want may k).1 := by
 unfold Ba.rule
 split
 · exact i.decide_
 · exact i.skip
 · exact i.fresh may
 · exact i.old
 · exact i.lock
 · exact i.nothing
 · exact i.propose want
theorem from_ (i : InvB a) (want : List UInt8) (may : List (List UInt8)) : ∀ (n k : Nat), InvB (a.from_ want may n k).1 := by
 intro n
 induction n with
 | zero => intro k; exact i
 | succ n ih =>
  intro k
  unfold Ba.from_
  split
  · exact i.rule want may k
  · exact ih (k + 1)
theorem run (want : List UInt8) (may : List (List UInt8)) : ∀ (n : Nat) {a : Ba} (out : List Mg), InvB a → InvB (Ba.run want may n a out).1 := by
 intro n
 induction n with
 | zero => intro a out i; exact i
 | succ n ih =>
  intro a out i
  unfold Ba.run
  split
  · split
    · exact ih _ (i.from_ want may _ _)
    · exact i
  · exact i
theorem do_ (i : InvB a) (want : List UInt8) (may : List (List UInt8)) : InvB (a.do_ want may).1 := InvB.run want may 1000 [] i
theorem late (i : InvB a) : InvB a.late.1 := by
 unfold Ba.late
 split
 · exact (i.to (by decide) (by decide)).say _ _ _
 · split
   · split
     · exact (i.to (by decide) (by decide)).say _ _ _
     · exact i
   · split
     · rename_i h
       simp only [Bool.and_eq_true, decide_eq_true_eq] at h
       exact i.begin_ (by omega) (by omega)
     · exact i
theorem older (i : InvB a) : InvB a.older := by
 refine ⟨i.ok, i.rd, i.st, ?_, i.lk, i.vl, i.dec, i.srt, i.vs⟩
 show 0 ≤ min (a.s.age + 1) 1099511627776 ∧ min (a.s.age + 1) 1099511627776 ≤ 1099511627776
 have := i.age; omega
theorem tick0 (i : InvB a) (want : List UInt8) : InvB (a.tick0 want).1 := by
 unfold Ba.tick0
 split
 · split
   · exact i.older.late
   · exact i.older
 · exact i
theorem tick (i : InvB a) (want : List UInt8) (may : List (List UInt8)) : InvB (a.tick want may).1 := (i.tick0 want).do_ want may
theorem give (i : InvB a) (fr : Int) (k : Nat) (h r vl : Int) (tx : List UInt8) : InvB (a.give fr k h r vl tx) := by
 unfold Ba.give
 split
 · exact i.put _
 · exact i
theorem start {h n t me : Int} (ok : bOk h n t me) : InvB ⟨.start h n t me, []⟩ :=
 ⟨ok, ⟨by show (0 : Int) ≤ 0; decide, by show (0 : Int) ≤ 99; decide⟩, ⟨by show (1 : Int) ≤ 1; decide, by show (1 : Int) ≤ 3; decide⟩, ⟨by show (0 : Int) ≤ 0; decide, by show (0 : Int) ≤ 1099511627776; decide⟩, (placeB_iff _ _ _).2 ⟨by show 0 ≤ 2048; decide, by show (-1 : Int) ≤ -1; decide, by show (-1 : Int) ≤ 0; decide, ⟨fun _ => rfl, fun _ => rfl⟩⟩, (placeB_iff _ _ _).2 ⟨by show 0 ≤ 2048; decide, by show (-1 : Int) ≤ -1; decide, by show (-1 : Int) ≤ 0; decide, ⟨fun _ => rfl, fun _ => rfl⟩⟩, by show 0 ≤ 2048; decide, .nil, fun v hv => by cases hv⟩
end InvB
/-! each rule brings a ballot on -/
def bz (b : Bool) : Int := if b then 1 else 0
def Ba.mu (a : Ba) : Int := 10 * a.s.rd + 2 * a.s.st + bz a.s.seen + bz a.s.prop
theorem bz_b (b : Bool) : 0 ≤ bz b ∧ bz b ≤ 1 := by cases b <;> simp [bz]
theorem Ba.mu_say (a : Ba) (k : Nat) (vl : Int) (tx : List UInt8) : (a.say k vl tx).1.mu = a.mu := by
 unfold Ba.mu Ba.say; rw [InvB.put_s]
theorem InvB.mu_bd {a : Ba} (i : InvB a) : 0 ≤ a.mu ∧ a.mu < 1000 := by
 have h1 := i.rd; have h2 := i.st; have h3 := bz_b a.s.seen; have h4 := bz_b a.s.prop
 unfold Ba.mu; omega
theorem rule_mu {a : Ba} (i : InvB a) (want : List UInt8) (may : List (List UInt8)) (k : Nat) (h : (a.rule want may k).2.2 = true) : a.mu < (a.rule want may k).1.mu ∨ (a.rule want may k).1.s.dec ≠ [] := by
 unfold Ba.rule at h ⊢
 have h3 := bz_b a.s.seen; have h4 := bz_b a.s.prop; have h5 := i.st
 split at h
 · unfold Ba.decide_ at h ⊢
   cases q : a.rounds.findSome? a.decAt with
   | none => rw [q] at h; cases h
   | some tx =>
    right
    obtain ⟨r, _, hr⟩ := List.exists_of_findSome?_eq_some q
    unfold Ba.decAt at hr
    split at hr
    · rename_i v hv
      split at hr
      · injection hr with hr; subst hr; exact (i.pr_mem hv).2.2.2.1
      · cases hr
    · cases hr
 · unfold Ba.skip at h ⊢
   cases q : a.rounds.reverse.find? a.skips with
   | none => rw [q] at h; cases h
   | some r =>
    left
    have h1 := List.find?_some (p := a.skips) q
    unfold Ba.skips at h1
    simp only [Bool.and_eq_true, decide_eq_true_eq] at h1
    show a.mu < 10 * r + 2 * 1 + bz false + bz false
    unfold Ba.mu
    have : bz false = 0 := rfl
    omega
 · left
   unfold Ba.fresh at h ⊢
   split at h
   · split at h
     · rename_i h1
       simp only [Bool.and_eq_true, decide_eq_true_eq] at h1
       simp only [h1, decide_true, Bool.and_self, if_true]
       show a.mu < (a.prevote _ _).1.mu
       unfold Ba.prevote
       rw [Ba.mu_say]
       show a.mu < 10 * a.s.rd + 2 * 2 + bz a.s.seen + bz a.s.prop
       unfold Ba.mu; omega
     · cases h
   · cases h
 · left
   unfold Ba.old at h ⊢
   split at h
   · split at h
     · rename_i h1
       have h2 := h1
       simp only [Bool.and_eq_true, decide_eq_true_eq] at h2
       simp only [h1, if_true]
       show a.mu < (a.prevote _ _).1.mu
       unfold Ba.prevote
       rw [Ba.mu_say]
       show a.mu < 10 * a.s.rd + 2 * 2 + bz a.s.seen + bz a.s.prop
       unfold Ba.mu; omega
     · cases h
   · cases h
 · left
   unfold Ba.lock at h ⊢
   split at h
   · split at h
     · rename_i h1
       have h2 := h1
       simp only [Bool.and_eq_true, Bool.not_eq_true', decide_eq_false_iff_not] at h2
       simp only [h1, if_true]
       have e1 : bz true = 1 := rfl
       have e2 : bz a.s.seen = 0 := by rw [h2.1.2]; rfl
       split
       · show a.mu < 10 * a.s.rd + 2 * a.s.st + bz true + bz a.s.prop
         unfold Ba.mu; omega
       · show a.mu < (Ba.say _ _ _ _).1.mu
         rw [Ba.mu_say]
         show a.mu < 10 * a.s.rd + 2 * 3 + bz true + bz a.s.prop
         unfold Ba.mu; omega
     · cases h
   · cases h
 · left
   unfold Ba.nothing at h ⊢
   split at h
   · rename_i h1
     have h2 := h1
     simp only [Bool.and_eq_true, decide_eq_true_eq] at h2
     simp only [h1, if_true]
     show a.mu < (Ba.say _ _ _ _).1.mu
     rw [Ba.mu_say]
     show a.mu < 10 * a.s.rd + 2 * 3 + bz a.s.seen + bz a.s.prop
     unfold Ba.mu; omega
   · cases h
 · left
   unfold Ba.propose at h ⊢
   split at h
   · rename_i h1
     have h2 := h1
     simp only [Bool.and_eq_true, Bool.not_eq_true'] at h2
     simp only [h1, if_true]
     show a.mu < (Ba.say _ _ _ _).1.mu
     rw [Ba.mu_say]
     have e1 : bz true = 1 := rfl
     have e2 : bz a.s.prop = 0 := by rw [h2.1.1.2]; rfl
     show a.mu < 10 * a.s.rd + 2 * a.s.st + bz a.s.seen + bz true
     unfold Ba.mu; omega
   · cases h
end Go.Am

set_option linter.unusedVariables false
set_option maxRecDepth 4000
namespace Go.Am
structure Bal (σ : Hp) (b t m : Nat) (ty : TypeId) (a : Ba) : Prop where
 row : σ b = some (.row (bRow a.s t) ty)
 tal : ∃ l0, Tal σ t m a.s.n l0 ∧ l0.Perm a.l
 inv : InvB a
 bt : b ≠ t
 bm : b ≠ m
 tm : t ≠ m
def Ch (σ σ' : Hp) (b m : Nat) : Prop := ∀ i, i ≠ b → i ≠ m → σ' i = σ i
theorem Ch.refl {σ : Hp} {b m : Nat} : Ch σ σ b m := fun _ _ _ => rfl
theorem Ch.trans {σ σ1 σ2 : Hp} {b m : Nat} (h : Ch σ σ1 b m) (k : Ch σ1 σ2 b m) : Ch σ σ2 b m := fun i h1 h2 => (k i h1 h2).trans (h i h1 h2)
theorem Ch.updb {σ : Hp} {b m : Nat} {o : Ob} : Ch σ (upd σ b o) b m := fun i h1 _ => upd_other h1
theorem Ch.updm {σ : Hp} {b m : Nat} {o : Ob} : Ch σ (upd σ m o) b m := fun i _ h1 => upd_other h1
def After (σ : Hp) (b t m : Nat) (ty : TypeId) (a : Ba) (K : Hp → Prop) : Prop := ∀ σ', Ch σ σ' b m → Bal σ' b t m ty a → K σ'
section
variable {ov : OvV} {M n b t m : Nat} {x : VE} {σ σ' : Hp} {K : KV} {ty : TypeId} {a : Ba}
theorem Bal.le (k : Bal σ b t m ty a) (h : Hle σ σ') : Bal σ' b t m ty a := by
 obtain ⟨l0, h1, h2⟩ := k.tal
 exact ⟨h _ _ k.row, ⟨l0, h1.le h, h2⟩, k.inv, k.bt, k.bm, k.tm⟩
theorem Bal.okl (k : Bal σ b t m ty a) : ∃ l0, Tal σ t m (a.s.n.toNat : Int) l0 ∧ Okl a.s.n.toNat l0 ∧ l0.Perm a.l := by
 obtain ⟨l0, h1, h2⟩ := k.tal
 have hn := k.inv.ok.1
 have e : (a.s.n.toNat : Int) = a.s.n := by omega
 refine ⟨l0, by rw [e]; exact h1, ⟨by omega, ?_, fun v hv => ?_⟩, h2⟩
 · rw [h2.length_eq]
   have := len_of k.inv.srt hn.2 fun v hv => (k.inv.vs v hv).1
   omega
 · have := (may_iff _ _).1 (k.inv.vs v (h2.mem_iff.1 hv)).1
   omega
theorem Bal.set (k : Bal σ b t m ty a) {s : Bs} (hn : s.n = a.s.n) (i : InvB ⟨s, a.l⟩) : Bal (upd σ b (.row (bRow s t) ty)) b t m ty ⟨s, a.l⟩ := by
 obtain ⟨l0, h1, h2⟩ := k.tal
 refine ⟨upd_same, ⟨l0, ⟨?_, ?_⟩, h2⟩, i, k.bt, k.bm, k.tm⟩
 · rw [upd_other (Ne.symm k.bt)]
   show σ t = some (.row [.int .i64 s.n, .mapv m] 78)
   rw [hn]; exact h1.row
 · rw [upd_other (Ne.symm k.bm)]; exact h1.map
theorem bput2 (hM : M ≠ 0) (hf : ov c_ballot_Ballot_put = none) (hf1 : ov c_ballot_Ballot_proposer = none) (hf2 : ov c_tally_Tally_Put = none) (hf3 : ov c_tally_Vote_may = none) (hx : Deep PP tbS ov M (n + 3) x) (k : Bal σ b t m ty a) {v : Vo} (hr : v.rd ≤ 1000000) (hk : After σ b t m ty (a.put v) fun σ' => K (.bool (a.s.takes a.l v)) σ') : x.call c_ballot_Ballot_put [.ptr b 0, .agg v.vv] σ K := by
 obtain ⟨l0, h1, h2⟩ := k.tal
 have hok := k.inv.ok
 refine bput_s hM hf hf1 hf2 hf3 hx k.row h1 (by have := hok.2.1; omega) (by have := hok.1; omega) hr (fun e => ?_) (fun e => ?_)
 · rw [takes_perm k.inv.srt h2] at e
   have := hk σ .refl (by unfold Ba.put; rw [e]; exact k)
   rwa [e] at this
 · rw [takes_perm k.inv.srt h2] at e
   have := hk (upd σ m (.map ((l0 ++ [v]).map eV))) .updm ?_
   · rwa [e] at this
   · have i := k.inv.put v
     unfold Ba.put at i ⊢
     rw [e] at i ⊢
     refine ⟨by rw [upd_other k.bm]; exact k.row, ⟨l0 ++ [v], ⟨by rw [upd_other k.tm]; exact h1.row, upd_same⟩, ?_⟩, i, k.bt, k.bm, k.tm⟩
     exact ((List.Perm.append_right [v] h2)).trans (insV_perm v a.l).symm
end
def Mg.dt (g : Mg) : List Dt := [.int .u8 (.ofNat g.kd), .int .i64 0, .int .i64 0, .int .i64 g.h, .int .i64 g.r, .int .i64 g.vl, .int .i64 0, .int .i64 0, .int .i64 0, .str g.tx, .list [] 0]
def Mg.vv (g : Mg) : List V := [.int .u8 (.ofNat g.kd), .int .i64 0, .int .i64 0, .int .i64 g.h, .int .i64 g.r, .int .i64 g.vl, .int .i64 0, .int .i64 0, .int .i64 0, .str g.tx, .nil]
def mgD (l : List Mg) : List Dt := l.flatMap Mg.dt
theorem mgD_len (l : List Mg) : (mgD l).length = l.length * 11 := by
 induction l with
 | nil => rfl
 | cons v l ih => simp [mgD, Mg.dt] at ih ⊢; omega
section
variable {ov : OvV} {M n b t m : Nat} {x : VE} {σ σ' : Hp} {K : KV} {ty : TypeId} {a : Ba}
theorem vv_frz {g : Mg} {σ σ' : Hp} (q : Nat) (v : V) (d : Dt) (e1 : g.vv[q]? = some v) (e2 : g.dt[q]? = some d) : Frz σ' σ v d := by
 match q with
 | 0 | 1 | 2 | 3 | 4 | 5 | 6 | 7 | 8 => injection e1 with e1; injection e2 with e2; subst e1 e2; exact .int
 | 9 => injection e1 with e1; injection e2 with e2; subst e1 e2; exact .str
 | 10 => injection e1 with e1; injection e2 with e2; subst e1 e2; exact .nil
 | q + 11 => simp [Mg.vv] at e1
theorem mgD_one (g : Mg) : mgD [g] = g.dt := by simp [mgD]
theorem own_ret {g : Mg} {σ σ' : Hp} {K : KV} {j : Nat} (h : σ j = some (.row g.vv 31)) (hn : σ' j = none) (hl : Hle σ' σ) (hk : ∀ τ, K (.list τ (mgD [g]) 1) σ') : vRet (.own j 0 1 1) σ K := by
 refine vRet_val (σ' := σ') (cs := mgD [g]) hl (.own h hn (Nat.le_refl _) (by rw [mgD_one]; simp [Mg.dt, Mg.vv]) fun q v d e1 e2 => ?_) hk
 rw [Nat.zero_add] at e1
 rw [mgD_one] at e2
 exact vv_frz q v d e1 e2
theorem say_core (hM : M ≠ 0) (hf0 : ov c_ballot_Ballot_say = none) (hf : ov c_ballot_Ballot_put = none) (hf1 : ov c_ballot_Ballot_proposer = none) (hf2 : ov c_tally_Tally_Put = none) (hf3 : ov c_tally_Vote_may = none) (hx : Deep PP tbS ov M (n + 4) x) (k : Bal σ b t m ty a) {kd : Nat} {vl : Int} {tx : List UInt8}
 (hk : After σ b t m ty (a.say kd vl tx).1 fun σ' => ∀ j, σ' j = none → vRet (.own j 0 1 1) (upd σ' j (.row (Mg.vv ⟨kd, a.s.h, a.s.rd, vl, tx⟩) 31)) K) : x.call c_ballot_Ballot_say [.ptr b 0, .int .u8 (.ofNat kd), .int .i64 vl, .str tx] σ K := by
 refine hx.call hf0 fun y hy => ?_
 rw [f_ballot_Ballot_say]
 unfold r_ballot_Ballot_say
 have l3 : ∀ {K : KV}, vLd (.ptr b 3) σ K = K (.int .i64 a.s.me) σ := vLd_p k.row
 have l4 : ∀ {K : KV}, vLd (.ptr b 4) σ K = K (.int .i64 a.s.rd) σ := vLd_p k.row
 simp only [vNil_p, vFld_p, Nat.zero_add, l3, l4]
 refine vBuild_to rfl (vFill_one rfl (by simp) (vFill_one rfl (by simp) (vFill_one rfl (by simp) (vFill_one rfl (by simp) (vFill_one rfl (by simp) (vFill_end ?_))))))
 refine bput2 (v := ⟨a.s.me, a.s.rd, kd, vl, tx⟩) hM hf hf1 hf2 hf3 hy k (show a.s.rd ≤ 1000000 by have := k.inv.rd; omega) fun σ1 c1 k1 => ?_
 have es : (a.put ⟨a.s.me, a.s.rd, kd, vl, tx⟩).s = a.s := InvB.put_s _ _
 have r1 := k1.row
 rw [es] at r1
 have l0' : ∀ {K : KV}, vLd (.ptr b 0) σ1 K = K (.int .i64 a.s.h) σ1 := vLd_p r1
 have l3' : ∀ {K : KV}, vLd (.ptr b 3) σ1 K = K (.int .i64 a.s.me) σ1 := vLd_p r1
 have l4' : ∀ {K : KV}, vLd (.ptr b 4) σ1 K = K (.int .i64 a.s.rd) σ1 := vLd_p r1
 simp only [l0', l3', l4', vSame_i]
 refine vBuild_to rfl (vFill_one rfl (by simp) (vFill_one rfl (by simp) (vFill_one rfl (by simp) (vFill_one rfl (by simp) (vFill_one rfl (by simp) (vFill_end ?_))))))
 have hb : ∀ {K : KV}, (∀ j, σ1 j = none → K (.own j 0 1 1) (upd σ1 j (.row (Mg.vv ⟨kd, a.s.h, a.s.rd, vl, tx⟩) 31))) → vBuildS 31 1 [(.int .u8 (.ofNat 0)), (.int .i64 (.ofNat 0)), (.int .i64 (.ofNat 0)), (.int .i64 (.ofNat 0)), (.int .i64 (.ofNat 0)), (.int .i64 (.ofNat 0)), (.int .i64 (.ofNat 0)), (.int .i64 (.ofNat 0)), (.int .i64 (.ofNat 0)), (.string ⟨⟨[]⟩⟩), (.slice none 0 0)] [(0, 11, .agg (Mg.vv ⟨kd, a.s.h, a.s.rd, vl, tx⟩))] σ1 K := fun h => vBuildS_one rfl rfl rfl rfl h
 refine ⟨hb fun j hj => trivial, hb fun j hj => ?_⟩
 exact hk σ1 c1 k1 j hj
theorem say_s (hM : M ≠ 0) (hf0 : ov c_ballot_Ballot_say = none) (hf : ov c_ballot_Ballot_put = none) (hf1 : ov c_ballot_Ballot_proposer = none) (hf2 : ov c_tally_Tally_Put = none) (hf3 : ov c_tally_Vote_may = none) (hx : Deep PP tbS ov M (n + 4) x) (k : Bal σ b t m ty a) {kd : Nat} {vl : Int} {tx : List UInt8}
 (hk : After σ b t m ty (a.say kd vl tx).1 fun σ' => ∀ τ, K (.list τ (mgD (a.say kd vl tx).2) 1) σ') : x.call c_ballot_Ballot_say [.ptr b 0, .int .u8 (.ofNat kd), .int .i64 vl, .str tx] σ K :=
 say_core hM hf0 hf hf1 hf2 hf3 hx k fun σ1 c1 k1 j hj => own_ret upd_same hj (.upd_new hj) fun τ => hk σ1 c1 k1 τ
end
end Go.Am

set_option linter.unusedVariables false
set_option maxRecDepth 4000
namespace Go.Am
theorem o_Rounds : gT c_tally_Tally_Rounds = none := rfl
theorem o_Compact : gT c_slices_Compact_list_int_int = none := rfl
theorem o_put : gT c_ballot_Ballot_put = none := rfl
theorem o_say : gT c_ballot_Ballot_say = none := rfl
theorem o_proposer : gT c_ballot_Ballot_proposer = none := rfl
theorem o_Put : gT c_tally_Tally_Put = none := rfl
theorem o_may : gT c_tally_Vote_may = none := rfl
theorem o_proposal : gT c_ballot_Ballot_proposal = none := rfl
theorem o_Proposal : gT c_tally_Tally_Proposal = none := rfl
theorem o_agreed : gT c_ballot_Ballot_agreed = none := rfl
theorem o_enough : gT c_ballot_Ballot_enough = none := rfl
theorem o_Index : gT c_slices_Index_list_string_string = none := rfl
theorem o_Contains : gT c_slices_Contains_list_string_string = none := rfl
theorem o_to : gT c_ballot_Ballot_to = none := rfl
theorem o_begin : gT c_ballot_Ballot_begin = none := rfl
theorem vLdN_g {n i q o : Nat} {vs : List V} {t : TypeId} {σ : Hp} {K : KV} (h : σ i = some (.gro vs t q)) (hl : o + n ≤ vs.length) (hk : K (.agg ((vs.drop o).take n)) σ) : vLdN n (.gptr i q o) σ K := by
 unfold vLdN
 simp only [h]
 exact ⟨trivial, by rw [vPart_ok hl]; exact hk⟩
theorem voV_at (l : List Vo) (i : Nat) (v : Vo) (h : l[i]? = some v) : ((voV l).drop (i * 5)).take 5 = v.vv := by
 rw [voV_T l (.root 0), ← List.map_drop, ← List.map_take, voD_at l i v h]
 rfl
theorem vBuildS_int {el : TypeId} {k : IntKind} {z0 z : Int} {σ : Hp} {K : KV} (hk : ∀ j, σ j = none → K (.own j 0 1 1) (upd σ j (.row [.int k z] el))) : vBuildS el 1 [.int k z0] [(0, 1, .int k z)] σ K := by
 unfold vBuildS
 show vFill [(0, 1, .int k z)] [.int k z0] _
 exact ⟨rfl, by simp, hk⟩
theorem ints_take (l : List Vo) (i : Nat) (h : i < l.length) : ints ((l.map (·.rd)).take (i + 1)) = ints ((l.map (·.rd)).take i) ++ [.int .i64 l[i].rd] := by
 rw [List.take_add_one, List.getElem?_map, List.getElem?_eq_getElem h]
 simp [ints]
section
variable {M n b t m : Nat} {x : VE} {σ : Hp} {K : KV} {ty : TypeId} {a : Ba}
theorem rounds_go {l : List Vo} {j N : Nat} (hx : Deep PP tbS gT M (n + 1) x) (hN : l.length = N) (h0 : 1 ≤ N) (hM : N < M) (hb : N ≤ 100000) (hj : σ j = none) (hk : ∀ τ, K (.list τ (intsD (dd (l.map (·.rd)))) (dd (l.map (·.rd))).length) σ) :
 ∀ (q i : Nat) (t3 : V) (σ1 σ2 : Hp), N ≤ i + q → i ≤ N → Made 3 1 (upd σ j (.gro (voV l) 64 N)) t3 σ1 (ints ((l.map (·.rd)).take i)) i → Hle σ1 σ2 → l_tally_Tally_Rounds_rrlrd x (q + 1) t3 (.acc j N) (.int .i64 (.ofNat N)) (.int .i64 (.ofNat i)) σ2 K := by
 intro q
 have hle0 : Hle σ (upd σ j (.gro (voV l) 64 N)) := .upd_new hj
 have fin : ∀ {i : Nat} {t3 : V} {σ1 : Hp}, N ≤ i → i ≤ N → Made 3 1 (upd σ j (.gro (voV l) 64 N)) t3 σ1 (ints ((l.map (·.rd)).take i)) i → (x.call c_slices_Compact_list_int_int [t3] σ1 fun v9 σ => vRet v9 σ K) := by
  intro i t3 σ1 h1 h2 a
  have : i = N := by omega
  subst this
  rw [List.take_of_length_le (by rw [List.length_map]; omega)] at a
  have hle1 := hle0.trans a.le
  rcases a.is with ⟨h3, _, _⟩ | ⟨k, rfl, h4, rfl⟩
  · omega
  · refine compact_s (σ' := σ) o_Compact hx (by rw [List.length_map, hN]) hM (by omega) (hle0.none h4) hle1 h0 upd_same fun τ => vRet_here (hk τ)
 induction q with
 | zero =>
  intro i t3 σ1 σ2 hq hi a hs
  rw [l_tally_Tally_Rounds_rrlrdE]
  unfold l_tally_Tally_Rounds_rrlrdB
  refine vDrop_to σ1 hs ?_
  rw [vBinI_lss, vIf_b, if_neg (by simp; omega)]
  exact fin hq hi a
 | succ q ih =>
  intro i t3 σ1 σ2 hq hi a hs
  rw [l_tally_Tally_Rounds_rrlrdE]
  unfold l_tally_Tally_Rounds_rrlrdB
  refine vDrop_to σ1 hs ?_
  rw [vBinI_lss, vIf_b]
  by_cases hlt : i < N
  · have hj1 : σ1 j = some (.gro (voV l) 64 N) := a.le _ _ upd_same
    rw [if_pos (by simp; omega), vIdx_acc hlt]
    refine vLdN_g hj1 (by rw [voV_len]; omega) ?_
    rw [voV_at l i l[i] (List.getElem?_eq_getElem (by omega))]
    refine vAlloc_to (l := voZ.vv) rfl fun k hk0 => ?_
    refine vSt_all upd_same (by rfl) (by rfl) (by rfl) ?_
    rw [upd_upd, vFld_p]
    refine vLd_one upd_same rfl ?_
    refine vBuildS_int fun k2 hk2 => ?_
    obtain ⟨_, hk3⟩ := upd_none hk2
    refine a.app (bytes := 8) (m := 1) (new := [.int .i64 l[i].rd]) ((Hle.upd_new hk0).trans (.upd_new hk2)) (fun p hp => a.le.none (upd_none (upd_none hp).2).2) (fun r hr => vSrc_own upd_same rfl hr) (by omega) rfl rfl (by omega) ?_
    intro t4 σ4 σ3 b hle
    rw [vBinI_add, next_i (by omega)]
    rw [← ints_take l i (by omega)] at b
    exact ih (i + 1) t4 σ3 σ4 (by omega) (by omega) b hle
  · rw [if_neg (by simp; omega)]
    exact fin (by omega) hi a
theorem rounds_s (hx : Deep PP tbS gT M (n + 2) x) (hM : 100000 < M) (k : Bal σ b t m ty a) (hk : ∀ τ, K (.list τ (intsD a.rounds) a.rounds.length) σ) : x.call c_tally_Tally_Rounds [.ptr t 0] σ K := by
 refine hx.call o_Rounds fun y hy => ?_
 rw [f_tally_Tally_Rounds]
 unfold r_tally_Tally_Rounds
 obtain ⟨l0, h1, h2, h3⟩ := k.okl
 have hs := sortV_srt k.inv.srt h3
 have hlen : a.l.length ≤ 2400 := len_of k.inv.srt k.inv.ok.1.2 fun v hv => (k.inv.vs v hv).1
 have hm : y.most = M := hy.most
 obtain ⟨p, hp⟩ := Nat.exists_eq_succ_of_ne_zero (show y.most ≠ 0 by omega)
 refine hy.callOv (f := c_tally_Tally_Votes) (g := gVotes) rfl ⟨t, m, a.s.n.toNat, l0, rfl, h1, h2, by rw [hs]; exact k.inv.srt, fun e => ?_, fun e j hj => ?_⟩
 · rw [hs] at e
   simp only [vLenS_nil, hp]
   rw [ l_tally_Tally_Rounds_rrlrdE]
   unfold l_tally_Tally_Rounds_rrlrdB
   refine vDrop_here ?_
   rw [vBinI_lss, vIf_b, if_neg (by simp)]
   refine hy.call o_Compact fun z hz => ?_
   rw [f_slices_Compact_list_int_int]
   unfold r_slices_Compact_list_int_int
   rw [vLenS_nil, vBinI_lss, vIf_b, if_pos (by simp)]
   have e2 : a.rounds = [] := by unfold Ba.rounds; rw [e]; rfl
   rw [e2] at hk
   exact vRet_val (cs := []) (n := 0) (.refl σ) .nil fun τ => vRet_here (hk τ)
 · rw [hs]
   simp only [vLenS_acc, hp]
   rw [hs] at e
   have h0 : 1 ≤ a.l.length := by
    cases q : a.l with
    | nil => exact absurd q e
    | cons => simp
   exact rounds_go hy rfl h0 (by omega) (by omega) hj hk p 0 .nil _ _ (by omega) (by omega) .nil (.refl _)
theorem proposal_s (hx : Deep PP tbS gT M (n + 2) x) (k : Bal σ b t m ty a) {r : Int} (hr : 0 ≤ r ∧ r ≤ 1000000) (hk : K (.tuple [.agg ((a.pr r).getD voZ).vv, .bool (a.pr r).isSome]) σ) : x.call c_ballot_Ballot_proposal [.ptr b 0, .int .i64 r] σ K := by
 refine hx.call o_proposal fun y hy => ?_
 rw [f_ballot_Ballot_proposal]
 unfold r_ballot_Ballot_proposal
 refine vAlloc_to (l := voZ.vv) rfl fun i hi => ?_
 have le1 : Hle σ (upd σ i (.row voZ.vv 64)) := .upd_new hi
 have k1 := k.le le1
 have l15 : ∀ {K : KV}, vLd (.ptr b 15) (upd σ i (.row voZ.vv 64)) K = K (.ptr t 0) (upd σ i (.row voZ.vv 64)) := vLd_p k1.row
 simp only [vNil_p, vFld_p, Nat.zero_add, l15]
 have hok := k.inv.ok
 refine proposer_s o_proposer hy k1.row (by have := hok.2.1; omega) hr (by have := hok.1; omega) ?_
 simp only [l15, vSame_p]
 obtain ⟨l0, h1, h2⟩ := k1.tal
 refine prop_s o_Proposal hy h1 ?_
 rw [find_perm k.inv.srt h2]
 simp only [vExt_0, vExt_1]
 refine vSt_all upd_same (by rfl) (by rfl) (by rfl) ?_
 rw [upd_upd]
 refine vLdN_all upd_same rfl ?_
 exact vRet_drop (.upd_new hi) hk
theorem agreed_s (hx : Deep PP tbS gT M (n + 2) x) (k : Bal σ b t m ty a) {r : Int} {kd : Nat} {tx : List UInt8} (hk : K (.bool (a.agreed r kd tx)) σ) : x.call c_ballot_Ballot_agreed [.ptr b 0, .int .i64 r, .int .u8 (.ofNat kd), .str tx] σ K := by
 refine hx.call o_agreed fun y hy => ?_
 rw [f_ballot_Ballot_agreed]
 unfold r_ballot_Ballot_agreed
 have l15 : ∀ {K : KV}, vLd (.ptr b 15) σ K = K (.ptr t 0) σ := vLd_p k.row
 simp only [vNil_p, vFld_p, Nat.zero_add, l15]
 obtain ⟨l0, h1, h2, h3⟩ := k.okl
 refine hy.callOv (f := c_tally_Tally_Count) (g := gCount) rfl ⟨t, m, a.s.n.toNat, l0, r, kd, tx, rfl, h1, h2, ?_⟩
 rw [memV_perm h3]
 refine enough_s o_enough hy k.row (by have := k.inv.ok; have := this.1; have := k.inv.ok.2.2.1; omega) ?_
 exact vRet_here hk
end
def strsD (l : List (List UInt8)) : List Dt := l.map Dt.str
section
variable {M n b t m : Nat} {x : VE} {σ : Hp} {K : KV} {ty : TypeId} {a : Ba}
theorem index_go {l : List (List UInt8)} {tx : List UInt8} {τ : Tag} (hl : l.length ≤ 1000000) (hk : ∀ i : Int, decide (0 ≤ i) = l.contains tx → K (.int .i64 i) σ) : ∀ (q i : Nat), l.length ≤ i + q → i ≤ l.length → (∀ j, j < i → l[j]? ≠ some tx) → l_slices_Index_list_string_string_rlrd x (q + 1) (.list τ (strsD l) l.length) (.str tx) (.int .i64 (.ofNat l.length)) (.int .i64 (.ofNat i)) σ K := by
 have fin : ∀ i, l.length ≤ i → (∀ j, j < i → l[j]? ≠ some tx) → vRet (.int .i64 (.negSucc 0)) σ K := by
  intro i h1 h2
  refine vRet_here (hk _ ?_)
  rw [Bool.eq_iff_iff, List.contains_iff_mem]
  simp only [decide_eq_true_eq]
  constructor
  · intro h; exact absurd h (by decide)
  · intro h
    obtain ⟨j, hj⟩ := List.getElem?_of_mem h
    have := (List.getElem?_eq_some_iff.1 hj).1
    exact absurd hj (h2 j (by omega))
 intro q
 induction q with
 | zero =>
  intro i h1 h2 h3
  rw [l_slices_Index_list_string_string_rlrdE]
  unfold l_slices_Index_list_string_string_rlrdB
  refine vDrop_here ?_
  rw [vBinI_lss, vIf_b, if_neg (by simp; omega)]
  exact fin i h1 h3
 | succ q ih =>
  intro i h1 h2 h3
  rw [l_slices_Index_list_string_string_rlrdE]
  unfold l_slices_Index_list_string_string_rlrdB
  refine vDrop_here ?_
  rw [vBinI_lss, vIf_b]
  by_cases hlt : i < l.length
  · rw [if_pos (by simp; omega), vIdx_l hlt, vLd_l, Nat.mul_one, vNth_some (a := .str l[i]) (by unfold strsD; rw [List.getElem?_map, List.getElem?_eq_getElem hlt]; rfl)]
    show vBin PP .eql 9 (.str tx) (.str l[i]) _
    rw [vBinS_eql, vIf_b]
    by_cases e : tx = l[i]
    · rw [if_pos (by simp [e])]
      refine vRet_here (hk _ ?_)
      rw [Bool.eq_iff_iff, List.contains_iff_mem]
      simp only [decide_eq_true_eq]
      exact ⟨fun _ => by rw [e]; exact List.getElem_mem hlt, fun _ => Int.natCast_nonneg _⟩
    · rw [if_neg (by simp [e]), vBinI_add, next_i (by omega)]
      refine ih (i + 1) (by omega) (by omega) fun j hj => ?_
      by_cases hji : j = i
      · subst hji; rw [List.getElem?_eq_getElem hlt]; intro q; injection q with q; exact e q.symm
      · exact h3 j (by omega)
  · rw [if_neg (by simp; omega)]
    exact fin i (by omega) h3
theorem contains_s (hx : Deep PP tbS gT M (n + 2) x) {l : List (List UInt8)} {tx : List UInt8} {τ : Tag} (hl : l.length ≤ 1000000) (hM : l.length < M) (hk : K (.bool (l.contains tx)) σ) : x.call c_slices_Contains_list_string_string [.list τ (strsD l) l.length, .str tx] σ K := by
 refine hx.call o_Contains fun y hy => ?_
 rw [f_slices_Contains_list_string_string]
 unfold r_slices_Contains_list_string_string
 refine hy.call o_Index fun z hz => ?_
 rw [f_slices_Index_list_string_string]
 unfold r_slices_Index_list_string_string
 have hm : z.most = M := hz.most
 obtain ⟨p, hp⟩ := Nat.exists_eq_succ_of_ne_zero (show z.most ≠ 0 by omega)
 rw [vLenS_l, hp]
 refine index_go hl (fun i e => ?_) p 0 (by omega) (by omega) (fun j hj => by omega)
 rw [vBinI_geq]
 refine vRet_here ?_
 have : decide (Int.ofNat 0 ≤ i) = l.contains tx := e
 rw [this]; exact hk
theorem to2 (hx : Deep PP tbS gT M (n + 1) x) (k : Bal σ b t m ty a) {z : Int} (h1 : 1 ≤ z) (h2 : z ≤ 3) (hk : After σ b t m ty (a.to z) fun σ' => K (.tuple []) σ') : x.call c_ballot_Ballot_to [.ptr b 0, .int .i64 z] σ K :=
 to_s o_to hx k.row (hk _ .updb (k.set rfl (k.inv.to h1 h2)))
theorem begin2 (hx : Deep PP tbS gT M (n + 2) x) (k : Bal σ b t m ty a) {r : Int} (h1 : a.s.rd ≤ r) (h2 : r ≤ 99) (hk : After σ b t m ty (a.begin_ r) fun σ' => K (.tuple []) σ') : x.call c_ballot_Ballot_begin [.ptr b 0, .int .i64 r] σ K :=
 begin_s o_begin o_to hx k.row (hk _ .updb (k.set rfl (k.inv.begin_ h1 h2)))
theorem say2 (hM : M ≠ 0) (hx : Deep PP tbS gT M (n + 4) x) (k : Bal σ b t m ty a) {kd : Nat} {vl : Int} {tx : List UInt8}
 (hk : After σ b t m ty (a.say kd vl tx).1 fun σ' => ∀ τ, K (.list τ (mgD (a.say kd vl tx).2) 1) σ') : x.call c_ballot_Ballot_say [.ptr b 0, .int .u8 (.ofNat kd), .int .i64 vl, .str tx] σ K := say_s hM o_say o_put o_proposer o_Put o_may hx k hk
end
end Go.Am

set_option linter.unusedVariables false
set_option maxRecDepth 4000
namespace Go.Am
theorem o_decide : gT c_ballot_Ballot_decide = none := rfl
theorem o_prevote : gT c_ballot_Ballot_prevote = none := rfl
theorem o_fresh : gT c_ballot_Ballot_fresh = none := rfl
theorem o_old : gT c_ballot_Ballot_old = none := rfl
theorem o_lock : gT c_ballot_Ballot_lock = none := rfl
theorem o_nothing : gT c_ballot_Ballot_nothing = none := rfl
theorem o_propose : gT c_ballot_Ballot_propose = none := rfl
section
variable {M n b t m : Nat} {x : VE} {σ : Hp} {K : KV} {ty : TypeId} {a : Ba}
theorem row_lds {s : Bs} (h : σ b = some (.row (bRow s t) ty)) : (∀ {K : KV}, vLd (.ptr b 0) σ K = K (.int .i64 s.h) σ) ∧ (∀ {K : KV}, vLd (.ptr b 1) σ K = K (.int .i64 s.n) σ) ∧ (∀ {K : KV}, vLd (.ptr b 2) σ K = K (.int .i64 s.t) σ) ∧ (∀ {K : KV}, vLd (.ptr b 3) σ K = K (.int .i64 s.me) σ) ∧ (∀ {K : KV}, vLd (.ptr b 4) σ K = K (.int .i64 s.rd) σ) ∧ (∀ {K : KV}, vLd (.ptr b 5) σ K = K (.int .i64 s.st) σ) ∧ (∀ {K : KV}, vLd (.ptr b 6) σ K = K (.int .i64 s.age) σ) ∧ (∀ {K : KV}, vLd (.ptr b 7) σ K = K (.str s.lock) σ) ∧ (∀ {K : KV}, vLd (.ptr b 8) σ K = K (.str s.valid) σ) ∧ (∀ {K : KV}, vLd (.ptr b 9) σ K = K (.int .i64 s.lockR) σ) ∧ (∀ {K : KV}, vLd (.ptr b 10) σ K = K (.int .i64 s.validR) σ) ∧ (∀ {K : KV}, vLd (.ptr b 11) σ K = K (.bool s.prop) σ) ∧ (∀ {K : KV}, vLd (.ptr b 12) σ K = K (.bool s.seen) σ) ∧ (∀ {K : KV}, vLd (.ptr b 13) σ K = K (.str s.dec) σ) ∧ (∀ {K : KV}, vLd (.ptr b 14) σ K = K .nil σ) ∧ (∀ {K : KV}, vLd (.ptr b 15) σ K = K (.ptr t 0) σ) :=
 ⟨vLd_p h, vLd_p h, vLd_p h, vLd_p h, vLd_p h, vLd_p h, vLd_p h, vLd_p h, vLd_p h, vLd_p h, vLd_p h, vLd_p h, vLd_p h, vLd_p h, vLd_p h, vLd_p h⟩
theorem vo_lds {i : Nat} {v : Vo} {ty : TypeId} (h : σ i = some (.row v.vv ty)) : (∀ {K : KV}, vLd (.ptr i 0) σ K = K (.int .i64 v.fr) σ) ∧ (∀ {K : KV}, vLd (.ptr i 1) σ K = K (.int .i64 v.rd) σ) ∧ (∀ {K : KV}, vLd (.ptr i 2) σ K = K (.int .u8 (.ofNat v.kd)) σ) ∧ (∀ {K : KV}, vLd (.ptr i 3) σ K = K (.int .i64 v.vl) σ) ∧ (∀ {K : KV}, vLd (.ptr i 4) σ K = K (.str v.tx) σ) :=
 ⟨vLd_p h, vLd_p h, vLd_p h, vLd_p h, vLd_p h⟩
def Res (K : KV) (r : R3) (σ' : Hp) : Prop := ∀ τ, K (.tuple [.list τ (mgD r.2.1) r.2.1.length, .bool r.2.2]) σ'
theorem res_no {r : R3} (hk : After σ b t m ty r.1 (Res K r)) (k : Bal σ b t m ty a) (e : r = a.no) {σ1 : Hp} (l : Hle σ σ1) : vRet (.tuple [.nil, .bool false]) σ1 K := by
 subst e
 exact vRet_tup2 (cs := []) (n := 0) l .nil fun τ => hk σ .refl k τ
theorem shrink {a' : Ba} {σ2 σ3 : Hp} {K0 : Hp → Prop} (k : Bal σ b t m ty a) (le : Hle σ σ2) (hk : After σ b t m ty a' K0) (c : Ch σ2 σ3 b m) (k3 : Bal σ3 b t m ty a') : ∃ σ', Hle σ' σ3 ∧ (∀ q, q ≠ b → q ≠ m → σ' q = σ q) ∧ K0 σ' := by
 have h : ∀ q, q ≠ b → q ≠ m → ∀ o, σ q = some o → σ3 q = some o := fun q h1 h2 o e => by rw [c q h1 h2]; exact le q o e
 refine ⟨fun q => if q = b ∨ q = m then σ3 q else σ q, fun q o e => ?_, fun q h1 h2 => if_neg (by simp [h1, h2]), hk _ (fun q h1 h2 => if_neg (by simp [h1, h2])) ?_⟩
 · have e : (if q = b ∨ q = m then σ3 q else σ q) = some o := e
   by_cases hq : q = b ∨ q = m
   · rw [if_pos hq] at e; exact e
   · rw [if_neg hq] at e
     simp only [not_or] at hq
     exact h q hq.1 hq.2 o e
 · obtain ⟨l0, h1, h2⟩ := k3.tal
   obtain ⟨l1, g1, g2⟩ := k.tal
   have et : σ t = some (.row [.int .i64 a'.s.n, .mapv m] 78) := by
    have q1 := h t (Ne.symm k.bt) k.tm _ g1.row
    rw [h1.row] at q1
    rw [g1.row, ← q1]
   refine ⟨?_, ⟨l0, ⟨?_, ?_⟩, h2⟩, k3.inv, k.bt, k.bm, k.tm⟩
   · show (if b = b ∨ b = m then σ3 b else σ b) = _
     rw [if_pos (.inl rfl)]; exact k3.row
   · show (if t = b ∨ t = m then σ3 t else σ t) = _
     rw [if_neg (by simp [Ne.symm k.bt, k.tm])]; exact et
   · show (if m = b ∨ m = m then σ3 m else σ m) = _
     rw [if_pos (.inr rfl)]; exact h1.map
theorem shrink_ret {r : R3} {σ2 σ3 : Hp} (k : Bal σ b t m ty a) (le : Hle σ σ2) (hk : After σ b t m ty r.1 (Res K r)) (c : Ch σ2 σ3 b m) (k3 : Bal σ3 b t m ty r.1) {τ : Tag} (hb : r.2.2 = true) : vRet (.tuple [.list τ (mgD r.2.1) r.2.1.length, .bool true]) σ3 K := by
 obtain ⟨σ', q1, _, q2⟩ := shrink k le hk c k3
 exact vRet_tup2 q1 .list fun τ => by have := q2 τ; rwa [hb] at this
theorem say_str (a : Ba) (k : Nat) (vl : Int) (tx : List UInt8) : (a.say k vl tx).1.s = a.s := InvB.put_s _ _
def wV (want : List UInt8) (may : List (List UInt8)) (τ : Tag) : List V := [.str want, .list τ (strsD may) may.length]
theorem wBox {want : List UInt8} {may : List (List UInt8)} {τ : Tag} {K : KV} (hk : ∀ i, σ i = none → K (.ptr i 0) (upd σ i (.row (wV want may τ) 67))) : vBox 67 (.agg (wV want may τ)) σ K := vBox_agg rfl hk
theorem decide_go {rs : List Int} {τ : Tag} (hx : Deep PP tbS gT M (n + 2) x) (k : Bal σ b t m ty a) (hr : ∀ r ∈ rs, 0 ≤ r ∧ r ≤ 99) (hl : rs.length ≤ 100000) (hk : match rs.findSome? a.decAt with
 | some tx => After σ b t m ty ⟨{ a.s with dec := tx }, a.l⟩ (Res K (⟨{ a.s with dec := tx }, a.l⟩, [], true))
 | none => After σ b t m ty a (Res K a.no)) : ∀ (q i : Nat) (σ1 : Hp), rs.length ≤ i + q → i ≤ rs.length → (rs.take i).findSome? a.decAt = none → Hle σ σ1 → l_ballot_Ballot_decide_rlrd x (q + 1) (.ptr b 0) (.list τ (intsD rs) rs.length) (.int .i64 (.ofNat rs.length)) (.int .i64 (.ofNat i)) σ1 K := by
 have fin : ∀ i, rs.length ≤ i → (rs.take i).findSome? a.decAt = none → vRet (.tuple [.nil, .bool false]) σ K := by
  intro i h1 h2
  rw [List.take_of_length_le h1] at h2
  rw [h2] at hk
  exact res_no hk k rfl (.refl σ)
 intro q
 induction q with
 | zero =>
  intro i σ1 h1 h2 h3 hle
  rw [l_ballot_Ballot_decide_rlrdE]
  unfold l_ballot_Ballot_decide_rlrdB
  refine vDrop_to σ hle ?_
  rw [vBinI_lss, vIf_b, if_neg (by simp; omega)]
  exact fin i h1 h3
 | succ q ih =>
  intro i σ1 h1 h2 h3 hle
  rw [l_ballot_Ballot_decide_rlrdE]
  unfold l_ballot_Ballot_decide_rlrdB
  refine vDrop_to σ hle ?_
  rw [vBinI_lss, vIf_b]
  by_cases hlt : i < rs.length
  · rw [if_pos (by simp; omega), vIdx_l hlt, vLd_l, Nat.mul_one, vNth_some (a := .int .i64 rs[i]) (by unfold intsD; rw [List.getElem?_map, List.getElem?_eq_getElem hlt]; rfl)]
    have hri := hr rs[i] (List.getElem_mem hlt)
    show x.call c_ballot_Ballot_proposal [.ptr b 0, .int .i64 rs[i]] σ _
    refine proposal_s hx k ⟨hri.1, by omega⟩ ?_
    simp only [vExt_0, vExt_1]
    refine vAlloc_to (l := voZ.vv) rfl fun j hj => ?_
    refine vSt_all upd_same (by rfl) (by rfl) (by rfl) ?_
    rw [upd_upd]
    have le1 : Hle σ (upd σ j (.row ((a.pr rs[i]).getD voZ).vv 64)) := .upd_new hj
    have rj : upd σ j (.row ((a.pr rs[i]).getD voZ).vv 64) j = some (.row ((a.pr rs[i]).getD voZ).vv 64) := upd_same
    have hbj : b ≠ j := fun e => by have := k.row; rw [e, hj] at this; cases this
    generalize hσ2 : upd σ j (.row ((a.pr rs[i]).getD voZ).vv 64) = σ2 at le1 rj
    have k2 := k.le le1
    obtain ⟨m0, m1, m2, m3, m4⟩ := vo_lds rj
    have stepn : a.decAt rs[i] = none → vBin PP .add 3 (.int .i64 (.ofNat i)) (.int .i64 (.ofNat 1)) fun v21 => l_ballot_Ballot_decide_rlrd x (q + 1) (.ptr b 0) (.list τ (intsD rs) rs.length) (.int .i64 (.ofNat rs.length)) v21 σ2 K := by
     intro e
     rw [vBinI_add, next_i (by omega)]
     refine ih (i + 1) σ2 (by omega) (by omega) ?_ le1
     rw [List.take_add_one, List.getElem?_eq_getElem hlt, List.findSome?_append, h3]
     simp [e]
    cases hp : a.pr rs[i] with
    | none =>
     rw [hp] at m0 m1 m2 m3 m4
     simp only [Option.isSome_none, vNil_p, vFld_z, shutP_eq, vGuard_tf, vPick_b, vIf_b, if_false, Bool.false_eq_true]
     exact stepn (by unfold Ba.decAt; rw [hp])
    | some v =>
     rw [hp] at m0 m1 m2 m3 m4
     have m4 : ∀ {K : KV}, vLd (.ptr j 4) σ2 K = K (.str v.tx) σ2 := m4
     simp only [Option.isSome_some, vNil_p, vFld_z, shutP_eq, vGuard_t, vPick_b, if_true, m4]
     refine agreed_s hx k2 ?_
     simp only [vIf_b]
     cases ha : a.agreed rs[i] 4 v.tx with
     | false =>
      simp only [if_false, Bool.false_eq_true]
      exact stepn (by unfold Ba.decAt; simp [hp, ha])
     | true =>
      have hd : rs.findSome? a.decAt = some v.tx := by
       have : a.decAt rs[i] = some v.tx := by unfold Ba.decAt; simp [hp, ha]
       have e3 : (rs.drop i).findSome? a.decAt = some v.tx := by rw [List.drop_eq_getElem_cons hlt, List.findSome?_cons, this]
       have e4 := congrArg (fun l => List.findSome? a.decAt l) (List.take_append_drop i rs)
       simp only [List.findSome?_append, h3, e3] at e4
       exact e4.symm
      rw [hd] at hk
      simp only [if_true, m4]
      refine vSt_one k2.row rfl (by simp [bRow]) ?_
      refine vRet_tup2 (σ' := upd σ b (.row (bRow { a.s with dec := v.tx } t) ty)) (cs := []) (n := 0) (Hle.upd le1) .nil fun τ => ?_
      have i2 : InvB ⟨{ a.s with dec := v.tx }, a.l⟩ := ⟨k.inv.ok, k.inv.rd, k.inv.st, k.inv.age, k.inv.lk, k.inv.vl, (k.inv.pr_mem hp).2.2.2.2.1, k.inv.srt, k.inv.vs⟩
      exact hk _ .updb (k.set rfl i2) τ
  · rw [if_neg (by simp; omega)]
    exact fin i (by omega) h3
theorem rounds_len (k : InvB a) : a.rounds.length ≤ 2400 := by
 have h1 := dq_len (a.l.map (·.rd)) (a.l.map (·.rd)).length
 have h2 := len_of k.srt k.ok.1.2 fun v hv => (k.vs v hv).1
 rw [List.length_map] at h1
 unfold Ba.rounds dd
 rw [List.length_map]
 omega
theorem decide_s (hM : 100000 < M) (hx : Deep PP tbS gT M (n + 3) x) (k : Bal σ b t m ty a) {want : List UInt8} {may : List (List UInt8)} {τw : Tag} (hk : After σ b t m ty a.decide_.1 (Res K a.decide_)) : x.call c_ballot_Ballot_decide [.ptr b 0, .agg (wV want may τw)] σ K := by
 refine hx.call o_decide fun y hy => ?_
 rw [f_ballot_Ballot_decide]
 unfold r_ballot_Ballot_decide
 refine wBox fun i hi => ?_
 have le1 : Hle σ (upd σ i (.row (wV want may τw) 67)) := .upd_new hi
 generalize hσ1 : upd σ i (.row (wV want may τw) 67) = σ1 at le1
 have k1 := k.le le1
 obtain ⟨l0, l1, l2, l3, l4, l5, l6, l7, l8, l9, l10, l11, l12, l13, l14, l15⟩ := row_lds k1.row
 simp only [vNil_p, vFld_z, l15]
 refine rounds_s hy hM k1 fun τ => ?_
 have hm : y.most = M := hy.most
 have hlen := rounds_len k.inv
 obtain ⟨p, hp⟩ := Nat.exists_eq_succ_of_ne_zero (show y.most ≠ 0 by omega)
 simp only [vLenS_l, hp]
 refine decide_go hy k (fun r hr => k.inv.rounds_mem hr) (by omega) ?_ p 0 σ1 (by omega) (by omega) rfl le1
 unfold Ba.decide_ at hk
 cases e : a.rounds.findSome? a.decAt with
 | none => rw [e] at hk; exact hk
 | some tx => rw [e] at hk; exact hk
theorem prevote_s (hM : 100000 < M) (hx : Deep PP tbS gT M (n + 5) x) (k : Bal σ b t m ty a) {tx : List UInt8} {free : Bool} (hk : After σ b t m ty (a.prevote tx free).1 (Res K (Ba.yes (a.prevote tx free)))) : x.call c_ballot_Ballot_prevote [.ptr b 0, .str tx, .bool free] σ K := by
 refine hx.call o_prevote fun y hy => ?_
 rw [f_ballot_Ballot_prevote]
 unfold r_ballot_Ballot_prevote
 have hm : y.most ≠ 0 := by rw [hy.most]; omega
 refine to2 hy k (by decide) (by decide) fun σ1 c1 k1 => ?_
 have jo : ∀ u, (if !free && !decide (a.s.lock = tx) then [] else tx) = u → j_ballot_Ballot_prevote_rrr y (.ptr b 0) (.str u) σ1 K := by
  intro u e
  rw [j_ballot_Ballot_prevote_rrrE y hm]
  unfold j_ballot_Ballot_prevote_rrrB
  refine vDrop_here ?_
  refine say2 (by omega) hy k1 fun σ2 c2 k2 τ => ?_
  have e2 : a.prevote tx free = (a.to 2).say 3 0 u := by unfold Ba.prevote; rw [e]
  rw [e2] at hk
  exact vRet_tup2 (.refl σ2) .list fun τ => hk σ2 (c1.trans c2) k2 τ
 obtain ⟨l0, l1, l2, l3, l4, l5, l6, l7, l8, l9, l10, l11, l12, l13, l14, l15⟩ := row_lds k1.row
 have l7 : ∀ {K : KV}, vLd (.ptr b 7) σ1 K = K (.str a.s.lock) σ1 := l7
 cases free with
 | true =>
  simp only [shutP_eq, vGuard_tf, vPick_b, vIf_b, vNot_b, Bool.not_true, if_false, Bool.false_eq_true]
  exact jo tx rfl
 | false =>
  simp only [vNil_p, vFld_z, shutP_eq, vGuard_t, vPick_b, vIf_b, vNot_b, Bool.not_false, if_true, l7, vBinS_neq]
  by_cases e : a.s.lock = tx
  · simp only [e, decide_true, Bool.not_true, if_false, Bool.false_eq_true]
    exact jo tx (by simp [e])
  · simp only [e, decide_false, Bool.not_false, if_true]
    exact jo [] (by simp [e])
theorem fresh_s (hM : 100000 < M) (hx : Deep PP tbS gT M (n + 6) x) (k : Bal σ b t m ty a) {want : List UInt8} {may : List (List UInt8)} {τw : Tag} (hmay : may.length ≤ 100000) (hk : After σ b t m ty (a.fresh may).1 (Res K (a.fresh may))) : x.call c_ballot_Ballot_fresh [.ptr b 0, .agg (wV want may τw)] σ K := by
 refine hx.call o_fresh fun y hy => ?_
 rw [f_ballot_Ballot_fresh]
 unfold r_ballot_Ballot_fresh
 have hm : y.most ≠ 0 := by rw [hy.most]; omega
 refine wBox fun i hi => ?_
 have le1 : Hle σ (upd σ i (.row (wV want may τw) 67)) := .upd_new hi
 have ri : upd σ i (.row (wV want may τw) 67) i = some (.row (wV want may τw) 67) := upd_same
 generalize hσ1 : upd σ i (.row (wV want may τw) 67) = σ1 at le1 ri
 have k1 := k.le le1
 obtain ⟨l0, l1, l2, l3, l4, l5, l6, l7, l8, l9, l10, l11, l12, l13, l14, l15⟩ := row_lds k1.row
 simp only [vNil_p, vFld_z, shutP_eq, l4]
 have hrd := k.inv.rd
 refine proposal_s hy k1 (by omega) ?_
 simp only [vExt_0, vExt_1]
 refine vAlloc_to (l := voZ.vv) rfl fun j hj => ?_
 refine vSt_all upd_same (by rfl) (by rfl) (by rfl) ?_
 rw [upd_upd]
 have hij : i ≠ j := fun e => by rw [← e, ri] at hj; cases hj
 have hbj : b ≠ j := fun e => by have := k1.row; rw [e, hj] at this; cases this
 have le2 : Hle σ1 (upd σ1 j (.row ((a.pr a.s.rd).getD voZ).vv 64)) := .upd_new hj
 have rj : upd σ1 j (.row ((a.pr a.s.rd).getD voZ).vv 64) j = some (.row ((a.pr a.s.rd).getD voZ).vv 64) := upd_same
 generalize hσ2 : upd σ1 j (.row ((a.pr a.s.rd).getD voZ).vv 64) = σ2 at le2 rj
 have le := le1.trans le2
 have k2 := k1.le le2
 have ri2 := le2 _ _ ri
 obtain ⟨m0, m1, m2, m3, m4⟩ := vo_lds rj
 obtain ⟨l0, l1, l2, l3, l4, l5, l6, l7, l8, l9, l10, l11, l12, l13, l14, l15⟩ := row_lds k2.row
 have w1 : ∀ {K : KV}, vLd (.ptr i 1) σ2 K = K (.list τw (strsD may) may.length) σ2 := vLd_p ri2
 have no : a.fresh may = a.no → vRet (.tuple [.nil, .bool false]) σ2 K := fun e => res_no hk k e le
 unfold Ba.fresh at no hk
 simp only [l5, vBinI_neq, vFld_z, vPick_b]
 by_cases h1 : a.s.st = 1
 · have e1 : decide (a.s.st = Int.ofNat 1) = true := decide_eq_true h1
   cases hp : a.pr a.s.rd with
   | none =>
    rw [hp] at no
    simp only [e1, Option.isSome_none, vGuard_t, vGuard_ft, vPick_b, vIf_b, vNot_b, Bool.not_true, Bool.not_false, if_true, if_false, Bool.false_eq_true]
    exact no rfl
   | some v =>
    rw [hp] at m3 m4 no hk
    have m3 : ∀ {K : KV}, vLd (.ptr j 3) σ2 K = K (.int .i64 v.vl) σ2 := m3
    have m4 : ∀ {K : KV}, vLd (.ptr j 4) σ2 K = K (.str v.tx) σ2 := m4
    simp only [e1, Option.isSome_some, vGuard_t, vPick_b, vNot_b, Bool.not_true, if_false, Bool.false_eq_true, m3, vBinI_neq]
    by_cases h2 : v.vl = -1
    · have e2 : decide (v.vl = Int.negSucc 0) = true := decide_eq_true h2
      simp only [e2, vGuard_t, Bool.not_true, if_false, Bool.false_eq_true, w1, m4]
      refine contains_s hy (by omega) (by omega) ?_
      cases h3 : may.contains v.tx with
      | false =>
       simp only [vIf_b, vNot_b, Bool.not_false, if_true]
       exact no (by simp only [h3, Bool.and_false]; rfl)
      | true =>
       simp only [vIf_b, vNot_b, Bool.not_true, if_false, Bool.false_eq_true, m4, l7, vBinS_eql]
       have h4 : (decide (a.s.st = 1) && decide (v.vl = -1) && may.contains v.tx) = true := by simp [h1, h2]; simpa using h3
       simp only [h4, if_true] at hk
       refine prevote_s hM hy k2 fun σ3 c3 k3 τ => ?_
       have e5 : (a.prevote v.tx (decide (a.s.lock = []))).1.s = (a.to 2).s := say_str _ _ _ _
       have r3 := k3.row
       rw [e5] at r3
       have l7 : ∀ {K : KV}, vLd (.ptr b 7) σ3 K = K (.str a.s.lock) σ3 := vLd_p r3
       simp only [vSame_s, vExt_0, vExt_1, l7]
       exact shrink_ret k le hk c3 k3 rfl
    · have e2 : decide (v.vl = Int.negSucc 0) = false := decide_eq_false h2
      simp only [e2, vGuard_ft, vIf_b, Bool.not_false, if_true]
      exact no (by simp [h2])
 · have e1 : decide (a.s.st = Int.ofNat 1) = false := decide_eq_false h1
   simp only [e1, vGuard_ft, vPick_b, vIf_b, Bool.not_false, if_true]
   refine no ?_
   cases a.pr a.s.rd <;> simp [h1]
theorem old_s (hM : 100000 < M) (hx : Deep PP tbS gT M (n + 6) x) (k : Bal σ b t m ty a) {want : List UInt8} {may : List (List UInt8)} {τw : Tag} (hk : After σ b t m ty (a.old).1 (Res K (a.old))) : x.call c_ballot_Ballot_old [.ptr b 0, .agg (wV want may τw)] σ K := by
 refine hx.call o_old fun y hy => ?_
 rw [f_ballot_Ballot_old]
 unfold r_ballot_Ballot_old
 have hm : y.most ≠ 0 := by rw [hy.most]; omega
 refine wBox fun i hi => ?_
 have le1 : Hle σ (upd σ i (.row (wV want may τw) 67)) := .upd_new hi
 have ri : upd σ i (.row (wV want may τw) 67) i = some (.row (wV want may τw) 67) := upd_same
 generalize hσ1 : upd σ i (.row (wV want may τw) 67) = σ1 at le1 ri
 have k1 := k.le le1
 obtain ⟨l0, l1, l2, l3, l4, l5, l6, l7, l8, l9, l10, l11, l12, l13, l14, l15⟩ := row_lds k1.row
 simp only [vNil_p, vFld_z, shutP_eq, l4]
 have hrd := k.inv.rd
 refine proposal_s hy k1 (by omega) ?_
 simp only [vExt_0, vExt_1]
 refine vAlloc_to (l := voZ.vv) rfl fun j hj => ?_
 refine vSt_all upd_same (by rfl) (by rfl) (by rfl) ?_
 rw [upd_upd]
 have hij : i ≠ j := fun e => by rw [← e, ri] at hj; cases hj
 have hbj : b ≠ j := fun e => by have := k1.row; rw [e, hj] at this; cases this
 have le2 : Hle σ1 (upd σ1 j (.row ((a.pr a.s.rd).getD voZ).vv 64)) := .upd_new hj
 have rj : upd σ1 j (.row ((a.pr a.s.rd).getD voZ).vv 64) j = some (.row ((a.pr a.s.rd).getD voZ).vv 64) := upd_same
 generalize hσ2 : upd σ1 j (.row ((a.pr a.s.rd).getD voZ).vv 64) = σ2 at le2 rj
 have le := le1.trans le2
 have k2 := k1.le le2
 have ri2 := le2 _ _ ri
 obtain ⟨m0, m1, m2, m3, m4⟩ := vo_lds rj
 obtain ⟨l0, l1, l2, l3, l4, l5, l6, l7, l8, l9, l10, l11, l12, l13, l14, l15⟩ := row_lds k2.row
 have no : a.old = a.no → vRet (.tuple [.nil, .bool false]) σ2 K := fun e => res_no hk k e le
 unfold Ba.old at no hk
 simp only [l5, vBinI_neq, vFld_z, vPick_b]
 by_cases h1 : a.s.st = 1
 · have e1 : decide (a.s.st = Int.ofNat 1) = true := decide_eq_true h1
   cases hp : a.pr a.s.rd with
   | none =>
    rw [hp] at no
    simp only [e1, Option.isSome_none, vGuard_t, vGuard_ft, vPick_b, vIf_b, vNot_b, Bool.not_true, Bool.not_false, if_true, if_false, Bool.false_eq_true]
    exact no rfl
   | some v =>
    rw [hp] at m3 m4 no hk
    have m3 : ∀ {K : KV}, vLd (.ptr j 3) σ2 K = K (.int .i64 v.vl) σ2 := m3
    have m4 : ∀ {K : KV}, vLd (.ptr j 4) σ2 K = K (.str v.tx) σ2 := m4
    simp only [e1, Option.isSome_some, vGuard_t, vPick_b, vNot_b, Bool.not_true, if_false, Bool.false_eq_true, m3, vBinI_eql]
    by_cases h2 : v.vl = -1
    · have e2 : decide (v.vl = Int.negSucc 0) = true := decide_eq_true h2
      simp only [e2, vGuard_ft, vIf_b, if_true]
      exact no (by simp [h2])
    · have e2 : decide (v.vl = Int.negSucc 0) = false := decide_eq_false h2
      simp only [e2, vGuard_t, if_false, Bool.false_eq_true, m3, m4]
      refine agreed_s hy k2 ?_
      cases h3 : a.agreed v.vl 3 v.tx with
      | false =>
       simp only [vIf_b, vNot_b, Bool.not_false, if_true]
       exact no (by simp [h3])
      | true =>
       simp only [vIf_b, vNot_b, Bool.not_true, if_false, Bool.false_eq_true, m3, m4, l9, vBinI_leq]
       have h4 : (decide (a.s.st = 1) && !decide (v.vl = -1) && a.agreed v.vl 3 v.tx) = true := by simp [h1, h2, h3]
       simp only [h4, if_true] at hk
       refine prevote_s hM hy k2 fun σ3 c3 k3 τ => ?_
       have e5 : (a.prevote v.tx (decide (a.s.lockR ≤ v.vl))).1.s = (a.to 2).s := say_str _ _ _ _
       have r3 := k3.row
       rw [e5] at r3
       have l9 : ∀ {K : KV}, vLd (.ptr b 9) σ3 K = K (.int .i64 a.s.lockR) σ3 := vLd_p r3
       have hjm : j ≠ m := fun e => by
        obtain ⟨_, q1, _⟩ := k1.tal
        have := q1.map; rw [← e, hj] at this; cases this
       have rj3 : σ3 j = some (.row v.vv 64) := by rw [c3 j (Ne.symm hbj) hjm, rj, hp]; rfl
       have m3 : ∀ {K : KV}, vLd (.ptr j 3) σ3 K = K (.int .i64 v.vl) σ3 := vLd_p rj3
       simp only [vSame_i, vExt_0, vExt_1, l9, m3]
       exact shrink_ret k le hk c3 k3 rfl
 · have e1 : decide (a.s.st = Int.ofNat 1) = false := decide_eq_false h1
   simp only [e1, vGuard_ft, vPick_b, vIf_b, Bool.not_false, if_true]
   refine no ?_
   cases a.pr a.s.rd <;> simp [h1]
theorem nothing_s (hM : 100000 < M) (hx : Deep PP tbS gT M (n + 6) x) (k : Bal σ b t m ty a) {want : List UInt8} {may : List (List UInt8)} {τw : Tag} (hk : After σ b t m ty (a.nothing).1 (Res K (a.nothing))) : x.call c_ballot_Ballot_nothing [.ptr b 0, .agg (wV want may τw)] σ K := by
 refine hx.call o_nothing fun y hy => ?_
 rw [f_ballot_Ballot_nothing]
 unfold r_ballot_Ballot_nothing
 have hm : y.most ≠ 0 := by rw [hy.most]; omega
 refine wBox fun i hi => ?_
 have le1 : Hle σ (upd σ i (.row (wV want may τw) 67)) := .upd_new hi
 have ri : upd σ i (.row (wV want may τw) 67) i = some (.row (wV want may τw) 67) := upd_same
 generalize hσ1 : upd σ i (.row (wV want may τw) 67) = σ1 at le1 ri
 have k1 := k.le le1
 obtain ⟨l0, l1, l2, l3, l4, l5, l6, l7, l8, l9, l10, l11, l12, l13, l14, l15⟩ := row_lds k1.row
 have no : a.nothing = a.no → vRet (.tuple [.nil, .bool false]) σ1 K := fun e => res_no hk k e le1
 unfold Ba.nothing at no hk
 simp only [l5, vBinI_neq, vNil_p, vFld_z, shutP_eq, vPick_b]
 by_cases h1 : a.s.st = 2
 · have e1 : decide (a.s.st = Int.ofNat 2) = true := decide_eq_true h1
   simp only [e1, l4, vNil_p, vFld_z, vGuard_t, Bool.not_true, if_false, Bool.false_eq_true]
   refine agreed_s hy k1 ?_
   cases h3 : a.agreed a.s.rd 3 [] with
   | false =>
    simp only [vIf_b, vNot_b, Bool.not_false, if_true]
    exact no (by simp [h3])
   | true =>
    simp only [vIf_b, vNot_b, Bool.not_true, if_false, Bool.false_eq_true]
    rw [if_pos (by simp [h1, h3])] at hk
    refine to2 hy k1 (by decide) (by decide) fun σ2 c2 k2 => ?_
    refine say2 (by omega) hy k2 fun σ3 c3 k3 τ => ?_
    exact shrink_ret k le1 hk (c2.trans c3) k3 rfl
 · have e1 : decide (a.s.st = Int.ofNat 2) = false := decide_eq_false h1
   simp only [e1, vGuard_ft, vIf_b, Bool.not_false, if_true]
   exact no (by simp [h1])
theorem propose_s (hM : 100000 < M) (hx : Deep PP tbS gT M (n + 6) x) (k : Bal σ b t m ty a) {want : List UInt8} {may : List (List UInt8)} {τw : Tag} (hk : After σ b t m ty (a.propose want).1 (Res K (a.propose want))) : x.call c_ballot_Ballot_propose [.ptr b 0, .agg (wV want may τw)] σ K := by
 refine hx.call o_propose fun y hy => ?_
 rw [f_ballot_Ballot_propose]
 unfold r_ballot_Ballot_propose
 have hm : y.most ≠ 0 := by rw [hy.most]; omega
 refine wBox fun i hi => ?_
 have le1 : Hle σ (upd σ i (.row (wV want may τw) 67)) := .upd_new hi
 have ri : upd σ i (.row (wV want may τw) 67) i = some (.row (wV want may τw) 67) := upd_same
 generalize hσ1 : upd σ i (.row (wV want may τw) 67) = σ1 at le1 ri
 have k1 := k.le le1
 obtain ⟨l0, l1, l2, l3, l4, l5, l6, l7, l8, l9, l10, l11, l12, l13, l14, l15⟩ := row_lds k1.row
 have w0 : ∀ {K : KV}, vLd (.ptr i 0) σ1 K = K (.str want) σ1 := vLd_p ri
 have hrd := k.inv.rd
 have hok := k.inv.ok
 simp only [l8, l10, vBinS_eql, vNil_p, vFld_z, vIf_b]
 have jo : ∀ (u : List UInt8) (w : Int), a.wants want = (u, w) → j_ballot_Ballot_propose_rrr y (.ptr b 0) (.str u) (.int .i64 w) σ1 K := by
  intro u w e
  have no : a.propose want = a.no → vRet (.tuple [.nil, .bool false]) σ1 K := fun e => res_no hk k e le1
  unfold Ba.propose at no hk
  rw [e] at no hk
  rw [j_ballot_Ballot_propose_rrrE y hm]
  unfold j_ballot_Ballot_propose_rrrB
  refine vDrop_here ?_
  simp only [l5, vBinI_neq, vNil_p, vFld_z, shutP_eq, vPick_b]
  by_cases h1 : a.s.st = 1
  · have e1 : decide (a.s.st = Int.ofNat 1) = true := decide_eq_true h1
    simp only [e1, l11, vNil_p, vFld_z, vGuard_t, vGuardC_t, vPick_b, Bool.not_true, if_false, Bool.false_eq_true]
    cases h2 : a.s.prop with
    | true =>
     simp only [l11, h2, l5, vGuard_ft, vGuardC_ft, vPick_b, vIf_b, if_true, vSame_i, vSame_b]
     exact no (by simp [h2])
    | false =>
     simp only [l3, l4, vNil_p, vFld_z, vGuard_t, vGuardC_t, if_false, Bool.false_eq_true]
     refine proposer_s (z := a.s.rd) o_proposer hy k1.row (by have := hok.2.1; omega) (by omega) (by have := hok.1; omega) ?_
     simp only [l3, l5, l11, h2, vBinI_neq, vPick_b, vSame_i, vSame_b]
     by_cases h3 : 1 + (a.s.h + a.s.rd) % a.s.n = a.s.me
     · have e3 : decide (1 + (a.s.h + a.s.rd) % a.s.n = a.s.me) = true := decide_eq_true h3
       simp only [e3, vBinS_eql, vGuard_t, vIf_b, Bool.not_true, if_false, Bool.false_eq_true]
       by_cases h4 : u = []
       · simp only [h4, decide_true, if_true]
         exact no (by simp [h4])
       · simp only [h4, decide_false, if_false, Bool.false_eq_true]
         have h5 : (decide (a.s.st = 1) && !a.s.prop && decide (a.s.pro a.s.rd = a.s.me) && !decide (u = [])) = true := by
          have : a.s.pro a.s.rd = a.s.me := h3
          simp [h1, h2, this, h4]
         simp only [h5, if_true] at hk
         refine vSt_one k1.row rfl (by simp [bRow]) ?_
         have k2 := k1.set (s := { a.s with prop := true }) rfl ⟨k.inv.ok, k.inv.rd, k.inv.st, k.inv.age, k.inv.lk, k.inv.vl, k.inv.dec, k.inv.srt, k.inv.vs⟩
         refine say2 (by omega) hy k2 fun σ3 c3 k3 τ => ?_
         exact shrink_ret k le1 hk (Ch.updb.trans c3) k3 rfl
     · have e3 : decide (1 + (a.s.h + a.s.rd) % a.s.n = a.s.me) = false := decide_eq_false h3
       simp only [e3, vGuard_ft, vIf_b, Bool.not_false, if_true]
       refine no ?_
       have : ¬ a.s.pro a.s.rd = a.s.me := h3
       simp [this]
  · have e1 : decide (a.s.st = Int.ofNat 1) = false := decide_eq_false h1
    simp only [e1, l5, vGuard_ft, vGuardC_ft, vPick_b, vIf_b, Bool.not_false, if_true, vSame_i]
    exact no (by simp [h1])
 by_cases h0 : a.s.valid = []
 · rw [if_pos (by simp [h0])]
   simp only [w0]
   exact jo want (.negSucc 0) (by unfold Ba.wants; rw [if_pos h0]; rfl)
 · rw [if_neg (by simp [h0])]
   exact jo _ _ (by unfold Ba.wants; rw [if_neg h0])
theorem lock_s (hM : 100000 < M) (hx : Deep PP tbS gT M (n + 6) x) (k : Bal σ b t m ty a) {want : List UInt8} {may : List (List UInt8)} {τw : Tag} (hk : After σ b t m ty (a.lock).1 (Res K (a.lock))) : x.call c_ballot_Ballot_lock [.ptr b 0, .agg (wV want may τw)] σ K := by
 refine hx.call o_lock fun y hy => ?_
 rw [f_ballot_Ballot_lock]
 unfold r_ballot_Ballot_lock
 have hm : y.most ≠ 0 := by rw [hy.most]; omega
 refine wBox fun i hi => ?_
 have le1 : Hle σ (upd σ i (.row (wV want may τw) 67)) := .upd_new hi
 have ri : upd σ i (.row (wV want may τw) 67) i = some (.row (wV want may τw) 67) := upd_same
 generalize hσ1 : upd σ i (.row (wV want may τw) 67) = σ1 at le1 ri
 have k1 := k.le le1
 obtain ⟨l0, l1, l2, l3, l4, l5, l6, l7, l8, l9, l10, l11, l12, l13, l14, l15⟩ := row_lds k1.row
 simp only [vNil_p, vFld_z, shutP_eq, l4]
 have hrd := k.inv.rd
 refine proposal_s hy k1 (by omega) ?_
 simp only [vExt_0, vExt_1]
 refine vAlloc_to (l := voZ.vv) rfl fun j hj => ?_
 refine vSt_all upd_same (by rfl) (by rfl) (by rfl) ?_
 rw [upd_upd]
 have hij : i ≠ j := fun e => by rw [← e, ri] at hj; cases hj
 have hbj : b ≠ j := fun e => by have := k1.row; rw [e, hj] at this; cases this
 have le2 : Hle σ1 (upd σ1 j (.row ((a.pr a.s.rd).getD voZ).vv 64)) := .upd_new hj
 have rj : upd σ1 j (.row ((a.pr a.s.rd).getD voZ).vv 64) j = some (.row ((a.pr a.s.rd).getD voZ).vv 64) := upd_same
 generalize hσ2 : upd σ1 j (.row ((a.pr a.s.rd).getD voZ).vv 64) = σ2 at le2 rj
 have le := le1.trans le2
 have k2 := k1.le le2
 have ri2 := le2 _ _ ri
 obtain ⟨m0, m1, m2, m3, m4⟩ := vo_lds rj
 obtain ⟨l0, l1, l2, l3, l4, l5, l6, l7, l8, l9, l10, l11, l12, l13, l14, l15⟩ := row_lds k2.row
 have no : a.lock = a.no → vRet (.tuple [.nil, .bool false]) σ2 K := fun e => res_no hk k e le
 unfold Ba.lock at no hk
 simp only [l5, vBinI_eql, vFld_z, vPick_b]
 by_cases h1 : a.s.st = 1
 · have e1 : decide (a.s.st = Int.ofNat 1) = true := decide_eq_true h1
   simp only [e1, l5, vGuard_ft, vGuardC_ft, vPick_b, vIf_b, if_true, vSame_i]
   refine no ?_
   cases a.pr a.s.rd <;> simp [h1]
 · have e1 : decide (a.s.st = Int.ofNat 1) = false := decide_eq_false h1
   simp only [e1, l12, vNil_p, vFld_z, vGuard_t, vGuardC_t, vPick_b, if_false, Bool.false_eq_true]
   cases h2 : a.s.seen with
   | true =>
    simp only [l12, h2, l5, vGuard_ft, vPick_b, vIf_b, if_true, vSame_i, vSame_b]
    refine no ?_
    cases a.pr a.s.rd <;> simp [h2]
   | false =>
    simp only [vGuard_t, vPick_b, vNot_b, if_false, Bool.false_eq_true]
    cases hp : a.pr a.s.rd with
    | none =>
     rw [hp] at no
     simp only [Option.isSome_none, l12, h2, l5, vGuard_ft, vIf_b, Bool.not_false, if_true, vSame_i, vSame_b]
     exact no rfl
    | some v =>
     rw [hp] at m4 no hk
     have m4 : ∀ {K : KV}, vLd (.ptr j 4) σ2 K = K (.str v.tx) σ2 := m4
     simp only [Option.isSome_some, vNil_p, vFld_z, vGuard_t, Bool.not_true, if_false, Bool.false_eq_true, l4, m4]
     refine agreed_s hy k2 ?_
     cases h3 : a.agreed a.s.rd 3 v.tx with
     | false =>
      simp only [vIf_b, vNot_b, Bool.not_false, if_true, vSame_i, vSame_b, l12, h2, l5]
      exact no (by simp [h3])
     | true =>
      simp only [vIf_b, vNot_b, Bool.not_true, if_false, Bool.false_eq_true, vSame_i, vSame_b, l12, h2, l5, m4, l4]
      have h4 : (!decide (a.s.st = 1) && !a.s.seen && a.agreed a.s.rd 3 v.tx) = true := by simp [h1, h2, h3]
      simp only [h4, if_true] at hk
      obtain ⟨_, _, _, q1, q2, _⟩ := k.inv.pr_mem hp
      have hp3 : placeB v.tx a.s.rd a.s.rd = true := (placeB_iff _ _ _).2 ⟨q2, by omega, Int.le_refl _, ⟨fun e => absurd e q1, fun e => by omega⟩⟩
      refine vSt_one k2.row rfl (by simp [bRow]) ?_
      have rj3 : upd σ2 b (.row (splice 12 [.bool true] (bRow a.s t)) ty) j = some (.row v.vv 64) := by rw [upd_other (Ne.symm hbj), rj, hp]; rfl
      have m4' : ∀ {K : KV}, vLd (.ptr j 4) (upd σ2 b (.row (splice 12 [.bool true] (bRow a.s t)) ty)) K = K (.str v.tx) (upd σ2 b (.row (splice 12 [.bool true] (bRow a.s t)) ty)) := vLd_p rj3
      simp only [m4', vSame_s]
      refine vSt_one upd_same rfl (by simp [bRow, splice]) ?_
      rw [upd_upd]
      refine vSt_one upd_same rfl (by simp [bRow, splice]) ?_
      rw [upd_upd]
      have a1 : InvB ⟨{ a.s with seen := true, valid := v.tx, validR := a.s.rd }, a.l⟩ := ⟨k.inv.ok, k.inv.rd, k.inv.st, k.inv.age, k.inv.lk, hp3, k.inv.dec, k.inv.srt, k.inv.vs⟩
      have k3 := k2.set (s := { a.s with seen := true, valid := v.tx, validR := a.s.rd }) rfl a1
      show vLd (.ptr b 5) (upd σ2 b (.row (bRow { a.s with seen := true, valid := v.tx, validR := a.s.rd } t) ty)) _
      have rj4 : upd σ2 b (.row (bRow { a.s with seen := true, valid := v.tx, validR := a.s.rd } t) ty) j = some (.row v.vv 64) := by rw [upd_other (Ne.symm hbj), rj, hp]; rfl
      have c3 : Ch σ2 (upd σ2 b (.row (bRow { a.s with seen := true, valid := v.tx, validR := a.s.rd } t) ty)) b m := .updb
      generalize upd σ2 b (.row (bRow { a.s with seen := true, valid := v.tx, validR := a.s.rd } t) ty) = σ3 at k3 rj4 c3
      have l5 : ∀ {K : KV}, vLd (.ptr b 5) σ3 K = K (.int .i64 a.s.st) σ3 := vLd_p k3.row
      have l4 : ∀ {K : KV}, vLd (.ptr b 4) σ3 K = K (.int .i64 a.s.rd) σ3 := vLd_p k3.row
      have m4 : ∀ {K : KV}, vLd (.ptr j 4) σ3 K = K (.str v.tx) σ3 := vLd_p rj4
      simp only [l5, l4, m4, vBinI_eql, vIf_b]
      by_cases h5 : a.s.st = 3
      · rw [if_pos (by exact decide_eq_true h5)]
        rw [if_pos h5] at hk
        obtain ⟨σ', g1, _, g2⟩ := shrink k le hk c3 k3
        exact vRet_tup2 (cs := []) (n := 0) g1 .nil g2
      · rw [if_neg (by simpa using h5)]
        rw [if_neg h5] at hk
        refine vSt_one k3.row rfl (by simp [bRow]) ?_
        refine vSt_one upd_same rfl (by simp [bRow, splice]) ?_
        rw [upd_upd]
        have a2 : InvB ⟨{ a.s with seen := true, valid := v.tx, validR := a.s.rd, lock := v.tx, lockR := a.s.rd }, a.l⟩ := ⟨k.inv.ok, k.inv.rd, k.inv.st, k.inv.age, hp3, hp3, k.inv.dec, k.inv.srt, k.inv.vs⟩
        have k4 := k3.set (s := { a.s with seen := true, valid := v.tx, validR := a.s.rd, lock := v.tx, lockR := a.s.rd }) rfl a2
        show y.call c_ballot_Ballot_to [.ptr b 0, .int .i64 3] (upd σ3 b (.row (bRow { a.s with seen := true, valid := v.tx, validR := a.s.rd, lock := v.tx, lockR := a.s.rd } t) ty)) _
        have rj5 : upd σ3 b (.row (bRow { a.s with seen := true, valid := v.tx, validR := a.s.rd, lock := v.tx, lockR := a.s.rd } t) ty) j = some (.row v.vv 64) := by rw [upd_other (Ne.symm hbj)]; exact rj4
        have c4 : Ch σ2 (upd σ3 b (.row (bRow { a.s with seen := true, valid := v.tx, validR := a.s.rd, lock := v.tx, lockR := a.s.rd } t) ty)) b m := c3.trans .updb
        generalize upd σ3 b (.row (bRow { a.s with seen := true, valid := v.tx, validR := a.s.rd, lock := v.tx, lockR := a.s.rd } t) ty) = σ4 at k4 rj5 c4
        refine to2 hy k4 (by decide) (by decide) fun σ5 c5 k5 => ?_
        have hjm : j ≠ m := fun e => by
         obtain ⟨_, q1, _⟩ := k1.tal
         have := q1.map; rw [← e, hj] at this; cases this
        have rj6 : σ5 j = some (.row v.vv 64) := by rw [c5 j (Ne.symm hbj) hjm]; exact rj5
        have m4 : ∀ {K : KV}, vLd (.ptr j 4) σ5 K = K (.str v.tx) σ5 := vLd_p rj6
        simp only [m4]
        refine say2 (by omega) hy k5 fun σ6 c6 k6 τ => ?_
        exact shrink_ret k le hk ((c4.trans c5).trans c6) k6 rfl
end
end Go.Am

set_option linter.unusedVariables false
set_option maxRecDepth 4000
namespace Go.Am
theorem o_skip : gT c_ballot_Ballot_skip = none := rfl
theorem o_Backward : gT c_slices_Backward_list_int_int = none := rfl
theorem o_Backward1 : gT c_slices_Backward_list_int_int_1 = none := rfl
section
variable {M n b t m : Nat} {x : VE} {σ : Hp} {K : KV} {ty : TypeId} {a : Ba}
theorem back_go {l bk : Nat} {rs : List Int} {τ : Tag} {J : Nat → Hp → Prop} {E : Hp → Prop} (hl : rs.length ≤ 1000000) (hrow : ∀ i σ, J i σ → σ bk = some (.row [.list τ (intsD rs) rs.length] 68))
 (hstep : ∀ (i : Nat) (σ : Hp) (K' : KV) (hi : i < rs.length), J (i + 1) σ → (∀ σ', J i σ' → K' (.bool true) σ') → (∀ σ', E σ' → K' (.bool false) σ') → x.R l [.int .i64 (.ofNat i), .int .i64 rs[i]] σ K')
 (h0 : ∀ σ, J 0 σ → K (.tuple []) σ) (hE : ∀ σ, E σ → K (.tuple []) σ) : ∀ (q i : Nat) (σ : Hp) (z : Int), i ≤ q → i ≤ rs.length → z = (i : Int) - 1 → J i σ → l_slices_Backward_list_int_int_1_rd x (q + 1) (.yield l) (.ptr bk 0) (.int .i64 z) σ K := by
 have fin : ∀ (q : Nat) (σ : Hp) (z : Int), z = -1 → J 0 σ → l_slices_Backward_list_int_int_1_rd x (q + 1) (.yield l) (.ptr bk 0) (.int .i64 z) σ K := by
  intro q σ z hz j
  rw [l_slices_Backward_list_int_int_1_rdE]
  unfold l_slices_Backward_list_int_int_1_rdB
  refine vDrop_here ?_
  rw [vBinI_geq, vIf_b, if_neg (by rw [hz]; decide)]
  exact vRet_here (h0 σ j)
 intro q
 induction q with
 | zero =>
  intro i σ z h1 h2 hz j
  obtain rfl : i = 0 := by omega
  exact fin _ σ z (by omega) j
 | succ q ih =>
  intro i σ z h1 h2 hz j
  cases i with
  | zero => exact fin _ σ z (by omega) j
  | succ i =>
   obtain rfl : z = Int.ofNat i := by simp at hz; exact hz
   rw [l_slices_Backward_list_int_int_1_rdE]
   unfold l_slices_Backward_list_int_int_1_rdB
   refine vDrop_here ?_
   rw [vBinI_geq, vIf_b, if_pos (by simp)]
   refine vLd_one (hrow _ _ j) rfl ?_
   have hi : i < rs.length := by omega
   rw [vIdx_l hi, vLd_l, Nat.mul_one, vNth_some (a := .int .i64 rs[i]) (by unfold intsD; rw [List.getElem?_map, List.getElem?_eq_getElem hi]; rfl)]
   show vCallV x (.yield l) [.int .i64 (.ofNat i), .int .i64 rs[i]] σ _
   rw [vCallV_y]
   refine hstep i σ _ hi j (fun σ' j' => ?_) (fun σ' e' => ?_)
   · simp only [vNot_b, vIf_b, Bool.not_true, Bool.false_eq_true, if_false, vBinI_sub]
     rw [wrap_small (by simp; omega) (by simp; omega)]
     exact ih i σ' _ (by omega) (by omega) (by simp) j'
   · simp only [vNot_b, vIf_b, Bool.not_false, if_true]
     exact vRet_here (hE σ' e')
theorem skip_s (hM : 100000 < M) (hx : Deep PP tbS gT M (n + 5) x) (k : Bal σ b t m ty a) {want : List UInt8} {may : List (List UInt8)} {τw : Tag} (hk : After σ b t m ty a.skip.1 (Res K a.skip)) : x.call c_ballot_Ballot_skip [.ptr b 0, .agg (wV want may τw)] σ K := by
 refine hx.call o_skip fun y hy => ?_
 rw [f_ballot_Ballot_skip]
 unfold r_ballot_Ballot_skip
 have hbox : ∀ {σ : Hp} {K : KV}, (∀ i, σ i = none → K (.ptr i 0) (upd σ i (.row [.ptr b 0] 25))) → vBox 25 (.ptr b 0) σ K := fun h => h
 refine hbox fun ib hib => ?_
 have le1 : Hle σ (upd σ ib (.row [.ptr b 0] 25)) := .upd_new hib
 have r1 : upd σ ib (.row [.ptr b 0] 25) ib = some (.row [.ptr b 0] 25) := upd_same
 generalize upd σ ib (.row [.ptr b 0] 25) = σ1 at le1 r1
 refine wBox fun iw hiw => ?_
 have le2 : Hle σ1 (upd σ1 iw (.row (wV want may τw) 67)) := .upd_new hiw
 generalize upd σ1 iw (.row (wV want may τw) 67) = σ2 at le2
 refine vAlloc_to (l := [.nil]) rfl fun il hil => ?_
 have le3 : Hle σ2 (upd σ2 il (.row [.nil] 35)) := .upd_new hil
 have r3 : upd σ2 il (.row [.nil] 35) il = some (.row [.nil] 35) := upd_same
 generalize upd σ2 il (.row [.nil] 35) = σ3 at le3 r3
 refine vAlloc_to (l := [.bool false]) rfl fun id hid => ?_
 have le4 : Hle σ3 (upd σ3 id (.row [.bool false] 4)) := .upd_new hid
 have r4 : upd σ3 id (.row [.bool false] 4) id = some (.row [.bool false] 4) := upd_same
 generalize upd σ3 id (.row [.bool false] 4) = σ4 at le4 r4
 have k4 := k.le (((le1.trans le2).trans le3).trans le4)
 have q1 := le4 _ _ (le3 _ _ (le2 _ _ r1))
 have q3 := le4 _ _ r3
 refine vLd_one q1 rfl ?_
 have l15 : ∀ {K : KV}, vLd (.ptr b 15) σ4 K = K (.ptr t 0) σ4 := vLd_p k4.row
 simp only [vNil_p, vFld_z, l15]
 refine rounds_s hy hM k4 fun τ => ?_
 refine hy.call o_Backward fun z hz => ?_
 rw [f_slices_Backward_list_int_int]
 unfold r_slices_Backward_list_int_int
 have hbox2 : ∀ {σ : Hp} {K : KV}, (∀ i, σ i = none → K (.ptr i 0) (upd σ i (.row [.list τ (intsD a.rounds) a.rounds.length] 68))) → vBox 68 (.list τ (intsD a.rounds) a.rounds.length) σ K := fun h => h
 refine hbox2 fun bk hbk => vRet_here ?_
 have le5 : Hle σ4 (upd σ4 bk (.row [.list τ (intsD a.rounds) a.rounds.length] 68)) := .upd_new hbk
 have r5 : upd σ4 bk (.row [.list τ (intsD a.rounds) a.rounds.length] 68) bk = some (.row [.list τ (intsD a.rounds) a.rounds.length] 68) := upd_same
 generalize upd σ4 bk (.row [.list τ (intsD a.rounds) a.rounds.length] 68) = σ5 at le5 r5
 have p1 := le5 _ _ q1
 have p3 := le5 _ _ q3
 have p4 := le5 _ _ r4
 have k5 := k4.le le5
 refine vRange_to fun l hl => ?_
 -- names differ
 obtain ⟨l0, tl, tp⟩ := k.tal
 have ne : ∀ {i j : Nat} {o : Ob} {σ' : Hp}, σ' i = none → σ' j = some o → i ≠ j := fun h1 h2 e => by rw [e, h2] at h1; cases h1
 have hb3 : σ2 b = some (.row (bRow a.s t) ty) := (le1.trans le2) _ _ k.row
 have ilb : il ≠ b := ne hil hb3
 have ilm : il ≠ m := ne hil ((le1.trans le2) _ _ tl.map)
 have ilt : il ≠ t := ne hil ((le1.trans le2) _ _ tl.row)
 have idb : id ≠ b := ne hid (le3 _ _ hb3)
 have idm : id ≠ m := ne hid (((le1.trans le2).trans le3) _ _ tl.map)
 have idt : id ≠ t := ne hid (((le1.trans le2).trans le3) _ _ tl.row)
 have idl : id ≠ il := ne hid r3
 have ibb : ib ≠ b := ne hib k.row
 have ibm : ib ≠ m := ne hib tl.map
 have lb : l ≠ b := ne hl k5.row
 have lm : l ≠ m := ne hl ((((le1.trans le2).trans le3).trans (le4.trans le5)) _ _ tl.map)
 have lt : l ≠ t := ne hl ((((le1.trans le2).trans le3).trans (le4.trans le5)) _ _ tl.row)
 have lib : l ≠ ib := ne hl p1
 have lil : l ≠ il := ne hl p3
 have lid : l ≠ id := ne hl p4
 have lbk : l ≠ bk := ne hl r5
 have leT : Hle σ σ5 := (((le1.trans le2).trans le3).trans le4).trans le5
 let lo : LoopState → Option Code → Ob := fun st pe => .loop [2, 4, 5] [.ptr ib 0, .ptr il 0, .ptr id 0] 40 (rgPs PP c_ballot_Ballot_skip [.r, .l, .r, .d]) (rgAs PP c_ballot_Ballot_skip [.r, .l, .r, .d]) (rgBo PP c_ballot_Ballot_skip [.r, .l, .r, .d]) st pe
 let σ6 := upd σ5 l (lo .ready none)
 have h6 : ∀ j o, j ≠ l → σ5 j = some o → σ6 j = some o := fun j o hj e => by show upd σ5 l _ j = _; rw [upd_other hj]; exact e
 have hm : y.most = M := hy.most
 have hlen := rounds_len k.inv
 show y.call c_slices_Backward_list_int_int_1 [.yield l, .ptr bk 0] σ6 _
 refine hy.call o_Backward1 fun w hw => ?_
 rw [f_slices_Backward_list_int_int_1]
 unfold r_slices_Backward_list_int_int_1
 refine vLd_one (h6 _ _ (Ne.symm lbk) r5) rfl ?_
 obtain ⟨p, hp⟩ := Nat.exists_eq_succ_of_ne_zero (show w.most ≠ 0 by have := hw.most; omega)
 simp only [vLenS_l, vBinI_sub, hp]
 rw [wrap_small (by simp; omega) (by simp; omega)]
 -- what is known behind i rounds that did nothing; where one did
 refine back_go (J := fun i σ' => σ' = σ6 ∧ ∀ r ∈ a.rounds.drop i, a.skips r = false)
  (E := fun σ' => ∃ r, a.rounds.reverse.find? a.skips = some r ∧ ∃ σ7, Ch (upd σ6 l (lo .busy none)) σ7 b m ∧ Bal σ7 b t m ty (a.begin_ r) ∧ σ' = upd (upd (upd σ7 il (.row [.nil] 35)) id (.row [.bool true] 4)) l (lo .done (some .ret)))
  (by omega) (fun i σ' h => by rw [h.1]; exact h6 _ _ (Ne.symm lbk) r5) ?_ ?_ ?_ p a.rounds.length σ6 _ (by have := hw.most; omega) (Nat.le_refl _) rfl ⟨rfl, fun r hr => by rw [List.drop_length] at hr; cases hr⟩
 · -- a round
   rintro i _ K' hi ⟨rfl, hj⟩ hT hF
   refine hw.round fun v hv => ?_
   refine roundV_at (st := .ready) (pe := none) (show σ6 l = some (lo .ready none) from upd_same) h_ballot_Ballot_skip_rlrd ?_
   rw [g_ballot_Ballot_skip_rlrd]
   unfold rd_ballot_Ballot_skip_rlrd
   refine vBusy_at (show σ6 l = some (lo .ready none) from upd_same) ?_
   have hbz : upd σ6 l (.loop [2, 4, 5] [.ptr ib 0, .ptr il 0, .ptr id 0] 40 (rgPs PP c_ballot_Ballot_skip [.r, .l, .r, .d]) (rgAs PP c_ballot_Ballot_skip [.r, .l, .r, .d]) (rgBo PP c_ballot_Ballot_skip [.r, .l, .r, .d]) .busy none) = upd σ6 l (lo .busy none) := rfl
   rw [hbz]
   have hσb : ∀ j o, j ≠ l → σ5 j = some o → upd σ6 l (lo .busy none) j = some o := fun j o hj e => by rw [upd_other hj]; exact h6 j o hj e
   have kb : Bal (upd σ6 l (lo .busy none)) b t m ty a := by
    obtain ⟨l2, t2, u2⟩ := k5.tal
    exact ⟨hσb _ _ (Ne.symm lb) k5.row, ⟨l2, ⟨hσb _ _ (Ne.symm lt) t2.row, hσb _ _ (Ne.symm lm) t2.map⟩, u2⟩, k5.inv, k5.bt, k5.bm, k5.tm⟩
   have lbz : upd σ6 l (lo .busy none) l = some (lo .busy none) := upd_same
   have eback : upd (upd σ6 l (lo .busy none)) l (lo .ready none) = σ6 := by
    rw [upd_upd]
    show upd (upd σ5 l (lo .ready none)) l (lo .ready none) = _
    rw [upd_upd]
   have ib' : ∀ {K : KV}, vLd (.ptr ib 0) (upd σ6 l (lo .busy none)) K = K (.ptr b 0) (upd σ6 l (lo .busy none)) := vLd_p (hσb _ _ (Ne.symm lib) p1)
   have l4 : ∀ {K : KV}, vLd (.ptr b 4) (upd σ6 l (lo .busy none)) K = K (.int .i64 a.s.rd) (upd σ6 l (lo .busy none)) := vLd_p kb.row
   have l2 : ∀ {K : KV}, vLd (.ptr b 2) (upd σ6 l (lo .busy none)) K = K (.int .i64 a.s.t) (upd σ6 l (lo .busy none)) := vLd_p kb.row
   have l15 : ∀ {K : KV}, vLd (.ptr b 15) (upd σ6 l (lo .busy none)) K = K (.ptr t 0) (upd σ6 l (lo .busy none)) := vLd_p kb.row
   have il' : upd σ6 l (lo .busy none) il = some (.row [.nil] 35) := hσb _ _ (Ne.symm lil) p3
   have id' : upd σ6 l (lo .busy none) id = some (.row [.bool false] 4) := hσb _ _ (Ne.symm lid) p4
   generalize hσ7 : upd σ6 l (lo .busy none) = σ7 at kb lbz eback ib' l4 l2 l15 il' id'
   have no : a.skips a.rounds[i] = false → vOver l .ready none true σ7 K' := by
    intro e
    refine vOver_at lbz (hT _ ⟨eback, fun r hr => ?_⟩)
    rw [List.drop_eq_getElem_cons hi] at hr
    rcases List.mem_cons.1 hr with rfl | hr
    · exact e
    · exact hj r hr
   simp only [ib', l4, vNil_p, vFld_z, vBinI_gtr, shutP_eq]
   by_cases h1 : a.s.rd < a.rounds[i]
   · simp only [decide_eq_true h1, vGuard_t, ib', l2, l15, vNil_p, vFld_z]
     obtain ⟨l0', t1, t2, t3⟩ := kb.okl
     refine hv.callOv (f := c_tally_Tally_Sent) (g := gSent) rfl ⟨t, m, a.s.n.toNat, l0', a.rounds[i], rfl, t1, t2, ?_⟩
     rw [memV_perm t3]
     simp only [vGuardC_t, ib', l4, l2, vSame_i, vSame_p, vBinI_gtr, vPick_b, if_true, vIf_b]
     have hc : (decide (a.s.t < Int.ofNat (memV (fun v => decide (v.rd = a.rounds[i])) a.s.n.toNat a.l))) = decide (a.s.t < (a.sent a.rounds[i] : Int)) := rfl
     rw [hc]
     by_cases h2 : a.s.t < (a.sent a.rounds[i] : Int)
     · rw [if_pos (decide_eq_true h2)]
       have hs : a.skips a.rounds[i] = true := by unfold Ba.skips; simp [h1, h2]
       have hfd : a.rounds.reverse.find? a.skips = some a.rounds[i] := by
        have e1 : a.rounds = a.rounds.take i ++ (a.rounds[i] :: a.rounds.drop (i + 1)) := by
         rw [← List.drop_eq_getElem_cons hi, List.take_append_drop]
        have e2 : (a.rounds.drop (i + 1)).reverse.find? a.skips = none := by
         rw [List.find?_eq_none]
         intro r hr
         rw [hj r (List.mem_reverse.1 hr)]; simp
        have e3 := congrArg (fun q => List.find? a.skips (List.reverse q)) e1
        simp only [List.reverse_append, List.reverse_cons, List.append_assoc, List.find?_append, e2] at e3
        rw [e3]
        simp [hs]
       have hrr := k.inv.rounds_mem (List.getElem_mem hi)
       refine begin2 hv kb (by omega) hrr.2 fun σ8 c8 k8 => ?_
       have e8 : σ8 il = some (.row [.nil] 35) := by rw [c8 il ilb ilm]; exact il'
       refine vSt_one e8 rfl (by simp) ?_
       have e9 : upd σ8 il (.row (splice 0 [.nil] [.nil]) 35) id = some (.row [.bool false] 4) := by rw [upd_other idl, c8 id idb idm]; exact id'
       refine vSt_one e9 rfl (by simp) ?_
       have e10 : upd (upd σ8 il (.row (splice 0 [.nil] [.nil]) 35)) id (.row (splice 0 [.bool true] [.bool false]) 4) l = some (lo .busy none) := by
        rw [upd_other lid, upd_other lil, c8 l lb lm]; exact lbz
       refine vOver_at e10 (hF _ ⟨_, hfd, σ8, by rw [hσ7]; exact c8, k8, rfl⟩)
     · rw [if_neg (by simpa using h2)]
       exact no (by unfold Ba.skips; simp [h2])
   · simp only [decide_eq_false h1, vGuard_tf, vGuardC_tf, ib', l4, vSame_i, vSame_p, vPick_b, vIf_b, Bool.false_eq_true, if_false]
     exact no (by unfold Ba.skips; simp [h1])
 · -- nothing was done
   rintro _ ⟨rfl, hj⟩
   refine vLeft_at (show σ6 l = some (lo .ready none) from upd_same) (by simp) ?_
   rw [vPend_n]
   have hn : a.rounds.reverse.find? a.skips = none := by
    rw [List.find?_eq_none]
    intro r hr
    rw [hj r (by simpa using hr)]; simp
   have hno : a.skip = a.no := by unfold Ba.skip; rw [hn]
   have f : ∀ j o, j ≠ l → σ5 j = some o → upd σ6 l (lo .exhausted none) j = some o := fun j o hj e => by rw [upd_other hj]; exact h6 j o hj e
   show vSt 1 (.ptr il 0) .nil (upd σ6 l (lo .exhausted none)) _
   refine vSt_one (f _ _ (Ne.symm lil) p3) rfl (by simp) ?_
   refine vSt_one (by rw [upd_other idl]; exact f _ _ (Ne.symm lid) p4) rfl (by simp) ?_
   refine vLd_one (by rw [upd_other (Ne.symm idl)]; exact upd_same) rfl ?_
   refine vLd_one upd_same rfl ?_
   refine res_no hk k hno ?_
   intro j o e
   have e5 := leT j o e
   have : j ≠ il := fun q => by rw [q, (((le1.trans le2)).none hil)] at e; cases e
   have h2 : j ≠ id := fun q => by rw [q, ((((le1.trans le2).trans le3)).none hid)] at e; cases e
   have h3 : j ≠ l := fun q => by rw [q, leT.none hl] at e; cases e
   rw [upd_other h2, upd_other this]
   exact f j o h3 e5
 · -- a round was begun
   rintro _ ⟨r, hr, σ7, c7, k7, rfl⟩
   refine vLeft_at (show upd _ l (lo .done (some .ret)) l = some (lo .done (some .ret)) from upd_same) (by simp) ?_
   rw [vPend_r]
   show vLd (.ptr il 0) (upd (upd (upd (upd σ7 il (.row [.nil] 35)) id (.row [.bool true] 4)) l (lo .done (some .ret))) l (lo .exhausted (some .ret))) _
   rw [upd_upd]
   refine vLd_one (by rw [upd_other (Ne.symm lil), upd_other (Ne.symm idl)]; exact upd_same) rfl ?_
   refine vLd_one (by rw [upd_other (Ne.symm lid)]; exact upd_same) rfl ?_
   have hyes : a.skip = (a.begin_ r, [], true) := by unfold Ba.skip; rw [hr]
   rw [hyes] at hk
   -- what lay in σ still lies there
   have hle : Hle σ (upd σ6 l (lo .busy none)) := fun j o e => by
    have h3 : j ≠ l := fun q => by rw [q, leT.none hl] at e; cases e
    rw [upd_other h3]; exact h6 j o h3 (leT j o e)
   obtain ⟨σ', g1, g3, g2⟩ := shrink k hle hk c7 k7
   have n1 : σ' il = none := by rw [g3 il ilb ilm]; exact (le1.trans le2).none hil
   have n2 : σ' id = none := by rw [g3 id idb idm]; exact ((le1.trans le2).trans le3).none hid
   have n3 : σ' l = none := by rw [g3 l lb lm]; exact leT.none hl
   exact vRet_tup2 (cs := []) (n := 0) (upd_le (upd_le (upd_le g1 n1) n2) n3) .nil g2
end
end Go.Am

set_option linter.unusedVariables false
set_option maxRecDepth 4000
namespace Go.Am
theorem o_do : gT c_ballot_Ballot_do = none := rfl
theorem o_Do : gT c_ballot_Ballot_Do = none := rfl
def Cel (vs : List V) (cs : List Dt) : Prop := vs.length = cs.length ∧ ∀ (j : Nat) (v : V) (d : Dt), vs[j]? = some v → cs[j]? = some d → ∃ τ, v = T τ d
theorem Cel.nil : Cel [] [] := ⟨rfl, fun j v d e => by simp at e⟩
theorem Cel.app {a c : List V} {b d : List Dt} (h : Cel a b) (k : Cel c d) : Cel (a ++ c) (b ++ d) := by
 refine ⟨by simp [h.1, k.1], fun j v x e1 e2 => ?_⟩
 have hl := h.1
 by_cases hj : j < a.length
 · rw [List.getElem?_append_left hj] at e1
   rw [List.getElem?_append_left (by omega)] at e2
   exact h.2 j v x e1 e2
 · rw [List.getElem?_append_right (by omega)] at e1 e2
   rw [← hl] at e2
   exact k.2 _ v x e1 e2
theorem Cel.tl {τ : Tag} {cs : List Dt} : Cel (Tl τ 0 cs) cs := by
 refine ⟨Tl_len _ _ _, fun j v d e1 e2 => ?_⟩
 rw [Tl_get, e2] at e1
 injection e1 with e1
 exact ⟨_, e1.symm⟩
structure AccF (σ0 σ : Hp) (el size : Nat) (t : V) (vs : List V) (n : Nat) : Prop where
 is : (n = 0 ∧ t = .nil ∧ vs = []) ∨ ∃ i, t = .acc i n ∧ σ i = some (.gro vs el n) ∧ σ0 i = none
 len : vs.length = n * size
theorem AccF.nil {σ0 σ : Hp} {el size : Nat} : AccF σ0 σ el size .nil [] 0 := ⟨.inl ⟨rfl, rfl, rfl⟩, by simp⟩
theorem AccF.keep {σ0 σ σ' : Hp} {el size n : Nat} {t : V} {vs : List V} (a : AccF σ0 σ el size t vs n) (h : ∀ i, σ i = some (.gro vs el n) → σ' i = σ i) : AccF σ0 σ' el size t vs n := by
 refine ⟨?_, a.len⟩
 rcases a.is with q | ⟨i, h1, h2, h3⟩
 · exact .inl q
 · exact .inr ⟨i, h1, by rw [h i h2]; exact h2, h3⟩
theorem AccF.app {σ0 σ : Hp} {el size bytes n m : Nat} {t : V} {vs : List V} {τ : Tag} {cs : List Dt} {K : KV} (a : AccF σ0 σ el size t vs n) (hle : ∀ i, σ i = none → σ0 i = none) (hs : 0 < size) (hc : cs.length = m * size) (ho : ∀ d ∈ cs, ∀ τ, oneV (T τ d) = true) (hb : (n + m) * (bytes + 1) ≤ 1099511627776)
 (hk : ∀ t2 σ2 vs2, AccF σ0 σ2 el size t2 vs2 (n + m) → vs2 = vs ++ Tl τ 0 cs → (∀ j o, σ j = some o → isGro o = false → σ2 j = some o) → (∀ j, σ0 j ≠ none → σ2 j = σ j) → K t2 σ2) : vApp el size bytes t (.list τ cs m) σ K := by
 unfold vApp vSrc
 refine ⟨by omega, ?_⟩
 rw [List.take_of_length_le (by omega)]
 cases m with
 | zero =>
  have hcs : cs = [] := List.eq_nil_of_length_eq_zero (by simpa using hc)
  subst hcs
  have h := hk t σ vs a (by simp [Tl]) (fun _ _ e _ => e) (fun _ _ => rfl)
  rcases a.is with ⟨rfl, rfl, _⟩ | ⟨i, rfl, _, _⟩
  · exact h
  · exact h
 | succ m =>
  have hall : (Tl τ 0 cs).all oneV = true := by
   rw [List.all_eq_true]
   intro v hv
   obtain ⟨j, hj⟩ := List.getElem?_of_mem hv
   rw [Tl_get] at hj
   cases hq : cs[j]? with
   | none => rw [hq] at hj; cases hj
   | some d => rw [hq] at hj; injection hj with hj; subst hj; exact ho d (List.mem_of_getElem? hq) _
  have hlen : (vs ++ Tl τ 0 cs).length = (n + (m + 1)) * size := by rw [List.length_append, Tl_len, a.len, hc]; exact (Nat.add_mul _ _ _).symm
  refine ⟨hall, ?_⟩
  rcases a.is with ⟨rfl, rfl, rfl⟩ | ⟨i, rfl, h1, h2⟩
  · refine ⟨by simpa using hb, fun i hi => ?_⟩
    have := hk (.acc i (0 + (m + 1))) (upd σ i (.gro ([] ++ Tl τ 0 cs) el (0 + (m + 1)))) _ ⟨.inr ⟨i, rfl, upd_same, hle i hi⟩, hlen⟩ rfl (fun j o e _ => by
     rw [upd_other (fun q => by rw [q, hi] at e; cases e)]; exact e) (fun j hj => upd_other (fun q => hj (by rw [q]; exact hle i hi)))
    simpa using this
  · simp only [h1]
    refine ⟨trivial, trivial, a.len, hb, ?_⟩
    refine hk _ _ _ ⟨.inr ⟨i, rfl, upd_same, h2⟩, hlen⟩ rfl (fun j o e hg => ?_) (fun j hj => upd_other (fun q => hj (by rw [q]; exact h2)))
    rw [upd_other (fun q => by rw [q, h1] at e; injection e with e; subst e; cases hg)]; exact e
theorem AccF.ret {σ0 σ σ' : Hp} {el size n : Nat} {t : V} {vs : List V} {cs : List Dt} {K : KV} (a : AccF σ0 σ el size t vs n) (hc : Cel vs cs) (l : Hle σ' σ) (h0 : ∀ i, σ0 i = none → (∃ o, σ i = some o ∧ isGro o = true) → σ' i = none) (hk : ∀ τ, K (.list τ cs n) σ') : vRet t σ K := by
 rcases a.is with ⟨rfl, rfl, rfl⟩ | ⟨i, rfl, h1, h2⟩
 · have : cs = [] := List.eq_nil_of_length_eq_zero (by simpa using hc.1.symm)
   subst this
   exact vRet_val l .nil hk
 · refine vRet_val l (.acc h1 (h0 i h2 ⟨_, h1, rfl⟩) hc.1 fun j v d e1 e2 => ?_) hk
   obtain ⟨τ, rfl⟩ := hc.2 j v d e1 e2
   exact .T
theorem mg_one (ms : List Mg) : ∀ d ∈ mgD ms, ∀ τ, oneV (T τ d) = true := by
 intro d hd τ
 obtain ⟨g, _, hg⟩ := List.mem_flatMap.1 hd
 simp only [Mg.dt, List.mem_cons, List.not_mem_nil, or_false] at hg
 rcases hg with rfl | rfl | rfl | rfl | rfl | rfl | rfl | rfl | rfl | rfl | rfl <;> rfl
theorem mgD_app (a b : List Mg) : mgD (a ++ b) = mgD a ++ mgD b := by unfold mgD; rw [List.flatMap_append]
def cR : Nat → FuncId
 | 0 => c_ballot_Ballot_decide
 | 1 => c_ballot_Ballot_skip
 | 2 => c_ballot_Ballot_fresh
 | 3 => c_ballot_Ballot_old
 | 4 => c_ballot_Ballot_lock
 | 5 => c_ballot_Ballot_nothing
 | _ => c_ballot_Ballot_propose
def fns : List V := [.func c_ballot_Ballot_decide [] [], .func c_ballot_Ballot_skip [] [], .func c_ballot_Ballot_fresh [] [], .func c_ballot_Ballot_old [] [], .func c_ballot_Ballot_lock [] [], .func c_ballot_Ballot_nothing [] [], .func c_ballot_Ballot_propose [] []]
theorem fns_at {i : Nat} (h : i < 7) : fns[i]? = some (.func (cR i) [] []) := by
 match i, h with
 | 0, _ | 1, _ | 2, _ | 3, _ | 4, _ | 5, _ | 6, _ => rfl
section
variable {M n b t m : Nat} {x : VE} {σ : Hp} {K : KV} {ty : TypeId} {a : Ba}
theorem rule_s (hM : 100000 < M) (hx : Deep PP tbS gT M (n + 6) x) (k : Bal σ b t m ty a) {want : List UInt8} {may : List (List UInt8)} {τw : Tag} (hmay : may.length ≤ 100000) {i : Nat} (hi : i < 7) (hk : After σ b t m ty (a.rule want may i).1 (Res K (a.rule want may i))) : x.call (cR i) [.ptr b 0, .agg (wV want may τw)] σ K := by
 match i, hi with
 | 0, _ => exact decide_s hM hx.less.less.less k hk
 | 1, _ => exact skip_s hM hx.less k hk
 | 2, _ => exact fresh_s hM hx k hmay hk
 | 3, _ => exact old_s hM hx k hk
 | 4, _ => exact lock_s hM hx k hk
 | 5, _ => exact nothing_s hM hx k hk
 | 6, _ => exact propose_s hM hx k hk
theorem Bal.keep {σ' : Hp} (k : Bal σ b t m ty a) (h : ∀ j o, σ j = some o → isGro o = false → σ' j = some o) : Bal σ' b t m ty a := by
 obtain ⟨l0, h1, h2⟩ := k.tal
 exact ⟨h _ _ k.row rfl, ⟨l0, ⟨h _ _ h1.row rfl, h _ _ h1.map rfl⟩, h2⟩, k.inv, k.bt, k.bm, k.tm⟩
theorem Bal.grob (k : Bal σ b t m ty a) {i : Nat} {vs : List V} {el q : Nat} (h : σ i = some (.gro vs el q)) : i ≠ b ∧ i ≠ m := by
 obtain ⟨l0, h1, _⟩ := k.tal
 exact ⟨fun e => (by rw [e, k.row] at h; cases h), fun e => (by rw [e, h1.map] at h; cases h)⟩
end
structure DoM (σ0 σ : Hp) (b t m : Nat) (ty : TypeId) (a : Ba) (iw ia : Nat) (want : List UInt8) (may : List (List UInt8)) (τw : Tag) : Prop where
 bal : Bal σ b t m ty a
 w : σ iw = some (.row (wV want may τw) 67)
 f : σ ia = some (.row fns 82)
 same : ∀ j, σ0 j ≠ none → j ≠ b → j ≠ m → σ j = σ0 j
 fw : σ0 iw = none
 fa : σ0 ia = none
 none : ∀ j, σ j = none → σ0 j = none
section
variable {M n b t m : Nat} {x : VE} {σ0 σ : Hp} {K : KV} {ty : TypeId} {a : Ba}
theorem DoM.step {a' : Ba} {iw ia : Nat} {want : List UInt8} {may : List (List UInt8)} {τw : Tag} {σ2 : Hp} (k0 : Bal σ0 b t m ty a) {a1 : Ba} (d : DoM σ0 σ b t m ty a1 iw ia want may τw) (c : Ch σ σ2 b m) (k : Bal σ2 b t m ty a') : DoM σ0 σ2 b t m ty a' iw ia want may τw := by
 obtain ⟨l1, g1, _⟩ := k0.tal
 obtain ⟨l2, g2, _⟩ := k.tal
 have nw : iw ≠ b ∧ iw ≠ m := ⟨fun q => (by have := d.fw; rw [q, k0.row] at this; cases this), fun q => (by have := d.fw; rw [q, g1.map] at this; cases this)⟩
 have nf : ia ≠ b ∧ ia ≠ m := ⟨fun q => (by have := d.fa; rw [q, k0.row] at this; cases this), fun q => (by have := d.fa; rw [q, g1.map] at this; cases this)⟩
 refine ⟨k, by rw [c iw nw.1 nw.2]; exact d.w, by rw [c ia nf.1 nf.2]; exact d.f, fun j h1 h2 h3 => by rw [c j h2 h3]; exact d.same j h1 h2 h3, d.fw, d.fa, fun j e => ?_⟩
 by_cases q1 : j = b
 · rw [q1, k.row] at e; cases e
 · by_cases q2 : j = m
   · rw [q2, g2.map] at e; cases e
   · exact d.none j (by rw [← c j q1 q2]; exact e)
theorem AccF.step {el size q : Nat} {t7 : V} {vs : List V} {σ2 : Hp} (ac : AccF σ0 σ el size t7 vs q) (k : Bal σ b t m ty a) (c : Ch σ σ2 b m) : AccF σ0 σ2 el size t7 vs q :=
 ac.keep fun i h => c i (k.grob h).1 (k.grob h).2
theorem rule_no {want : List UInt8} {may : List (List UInt8)} {j : Nat} (h : (a.rule want may j).2.2 = false) : a.rule want may j = a.no := by
 unfold Ba.rule at h ⊢
 split at h
 · unfold Ba.decide_ at h ⊢
   cases q : a.rounds.findSome? a.decAt with
   | none => rfl
   | some tx => rw [q] at h; cases h
 · unfold Ba.skip at h ⊢
   cases q : a.rounds.reverse.find? a.skips with
   | none => rfl
   | some tx => rw [q] at h; cases h
 · unfold Ba.fresh at h ⊢
   split
   · split
     · rename_i v hv hc; rw [hv] at h; simp only [hc, if_true] at h; cases h
     · rfl
   · rfl
 · unfold Ba.old at h ⊢
   split
   · split
     · rename_i v hv hc; rw [hv] at h; simp only [hc, if_true] at h; cases h
     · rfl
   · rfl
 · unfold Ba.lock at h ⊢
   split
   · split
     · rename_i v hv hc
       rw [hv] at h
       simp only [hc, if_true] at h
       split at h <;> cases h
     · rfl
   · rfl
 · unfold Ba.nothing at h ⊢
   split
   · rename_i hc; rw [if_pos hc] at h; cases h
   · rfl
 · unfold Ba.propose at h ⊢
   split
   · rename_i hc; rw [if_pos hc] at h; cases h
   · rfl
theorem yes_sm {a0 : Ba} {k : Nat} {vl : Int} {tx : List UInt8} {me : Int} (h : a0.s.me = me) : (Ba.yes (a0.say k vl tx)).1.s.me = me ∧ (Ba.yes (a0.say k vl tx)).2.1.length ≤ 1 :=
 ⟨by show (a0.say k vl tx).1.s.me = _; rw [say_str]; exact h, Nat.le_refl 1⟩
theorem rule_sm {want : List UInt8} {may : List (List UInt8)} {j : Nat} : (a.rule want may j).1.s.me = a.s.me ∧ (a.rule want may j).2.1.length ≤ 1 := by
 unfold Ba.rule
 split
 · unfold Ba.decide_; split <;> exact ⟨rfl, Nat.zero_le 1⟩
 · unfold Ba.skip; split <;> exact ⟨rfl, Nat.zero_le 1⟩
 · unfold Ba.fresh Ba.prevote
   split
   · split
     · exact yes_sm rfl
     · exact ⟨rfl, Nat.zero_le 1⟩
   · exact ⟨rfl, Nat.zero_le 1⟩
 · unfold Ba.old Ba.prevote
   split
   · split
     · exact yes_sm rfl
     · exact ⟨rfl, Nat.zero_le 1⟩
   · exact ⟨rfl, Nat.zero_le 1⟩
 · unfold Ba.lock
   split
   · split
     · split
       · exact ⟨rfl, Nat.zero_le 1⟩
       · exact yes_sm rfl
     · exact ⟨rfl, Nat.zero_le 1⟩
   · exact ⟨rfl, Nat.zero_le 1⟩
 · unfold Ba.nothing
   split
   · exact yes_sm rfl
   · exact ⟨rfl, Nat.zero_le 1⟩
 · unfold Ba.propose
   split
   · exact yes_sm rfl
   · exact ⟨rfl, Nat.zero_le 1⟩
theorem do_end {a0 : Ba} {σ1 : Hp} {iw ia : Nat} {want : List UInt8} {may : List (List UInt8)} {τw : Tag} {t7 : V} {vs : List V} {out : List Mg} (k0 : Bal σ0 b t m ty a0) (d : DoM σ0 σ1 b t m ty a iw ia want may τw) (ac : AccF σ0 σ1 31 11 t7 vs out.length) (cl : Cel vs (mgD out)) (hk : After σ0 b t m ty a fun σ' => ∀ τ, K (.list τ (mgD out) out.length) σ') : vRet t7 σ1 K := by
 obtain ⟨l1, g1, _⟩ := k0.tal
 obtain ⟨l2, h1, h2⟩ := d.bal.tal
 let σ' : Hp := fun q => if q = b ∨ q = m then σ1 q else σ0 q
 have same' : ∀ q, q ≠ b → q ≠ m → σ' q = σ0 q := fun q q1 q2 => if_neg (by simp [q1, q2])
 have sb : σ' b = σ1 b := if_pos (.inl rfl)
 have sm : σ' m = σ1 m := if_pos (.inr rfl)
 have bal' : Bal σ' b t m ty a := by
  refine ⟨by rw [sb]; exact d.bal.row, ⟨l2, ⟨?_, by rw [sm]; exact h1.map⟩, h2⟩, d.bal.inv, k0.bt, k0.bm, k0.tm⟩
  rw [same' t (Ne.symm k0.bt) k0.tm]
  have := d.same t (by rw [g1.row]; simp) (Ne.symm k0.bt) k0.tm
  rw [← this]; exact h1.row
 have hle : Hle σ' σ1 := fun q o e => by
  by_cases q1 : q = b
  · subst q1; rw [sb] at e; exact e
  · by_cases q2 : q = m
    · subst q2; rw [sm] at e; exact e
    · rw [same' q q1 q2] at e
      rw [d.same q (by rw [e]; simp) q1 q2]; exact e
 refine ac.ret cl hle (fun i h0 ⟨o, ho, hg⟩ => ?_) (hk σ' (fun q q1 q2 => same' q q1 q2) bal')
 have ne1 : i ≠ b := fun q => by rw [q, k0.row] at h0; cases h0
 have ne2 : i ≠ m := fun q => by rw [q, g1.map] at h0; cases h0
 rw [same' i ne1 ne2]; exact h0
theorem do_go {a0 : Ba} {iw ia cnt : Nat} {want : List UInt8} {may : List (List UInt8)} {τw : Tag} (hM : 100000 < M) (hx : Deep PP tbS gT M (n + 6) x) (k0 : Bal σ0 b t m ty a0) (hmay : may.length ≤ 100000) (hcnt : cnt ≤ 7) :
 ∀ (q f : Nat) (σ1 : Hp) (a : Ba) (t7 : V) (vs : List V) (out : List Mg), DoM σ0 σ1 b t m ty a iw ia want may τw → AccF σ0 σ1 31 11 t7 vs out.length → Cel vs (mgD out) → a.mine = cnt → (a.s.dec = [] → 1000 - a.mu ≤ (q : Int)) → (a.s.dec = [] → 1000 - a.mu ≤ (f : Int)) → out.length + 8 * q ≤ 1000000 →
  After σ0 b t m ty (Ba.run want may f a out).1 (fun σ' => ∀ τ, K (.list τ (mgD (Ba.run want may f a out).2) (Ba.run want may f a out).2.length) σ') →
  l_ballot_Ballot_do_rdrrrrrld x (q + 1) (.ptr b 0) (.ptr iw 0) (.own ia 0 cnt 7) t7 σ1 K := by
 have hm : x.most = M := hx.most
 intro q
 induction q with
 | zero =>
  intro f σ1 a t7 vs out d ac cl hmine hq hf ho hk
  have i := d.bal.inv
  have hmu := i.mu_bd
  rw [l_ballot_Ballot_do_rdrrrrrldE]
  unfold l_ballot_Ballot_do_rdrrrrrldB
  refine vDrop_here ?_
  have l13 : ∀ {K : KV}, vLd (.ptr b 13) σ1 K = K (.str a.s.dec) σ1 := vLd_p d.bal.row
  simp only [vNil_p, vFld_z, l13, vBinS_eql, vIf_b]
  by_cases hd : a.s.dec = []
  · have := hq hd; omega
  · rw [if_neg (by simpa using hd)]
    have e : Ba.run want may f a out = (a, out) := by cases f with
     | zero => rfl
     | succ f => unfold Ba.run; rw [if_neg hd]
    rw [e] at hk
    exact do_end k0 d ac cl hk
 | succ q ih =>
  intro f σ1 a t7 vs out d ac cl hmine hq hf ho hk
  have i := d.bal.inv
  have hmu := i.mu_bd
  rw [l_ballot_Ballot_do_rdrrrrrldE]
  unfold l_ballot_Ballot_do_rdrrrrrldB
  refine vDrop_here ?_
  have l13 : ∀ {K : KV}, vLd (.ptr b 13) σ1 K = K (.str a.s.dec) σ1 := vLd_p d.bal.row
  simp only [vNil_p, vFld_z, l13, vBinS_eql, vIf_b]
  by_cases hd : a.s.dec = []
  · rw [if_pos (by simpa using hd)]
    obtain ⟨f, rfl⟩ := Nat.exists_eq_succ_of_ne_zero (show f ≠ 0 by have := hf hd; omega)
    have e1 : Ba.run want may (f + 1) a out = if (a.from_ want may cnt 0).2.2 then Ba.run want may f (a.from_ want may cnt 0).1 (out ++ (a.from_ want may cnt 0).2.1) else (a, out) := by
     conv => lhs; unfold Ba.run
     rw [if_pos hd, hmine]
    -- the rules, one after the other
    have inner : ∀ (p j : Nat) (σ1 : Hp), DoM σ0 σ1 b t m ty a iw ia want may τw → AccF σ0 σ1 31 11 t7 vs out.length → cnt ≤ j + p → j ≤ cnt → (a.from_ want may cnt 0 = a.from_ want may (cnt - j) j) → l_ballot_Ballot_do_rdrrrrrlddrdlrd x (p + 1) (q + 1) (.ptr b 0) (.ptr iw 0) (.own ia 0 cnt 7) t7 (.own ia 0 cnt 7) (.int .i64 (.ofNat cnt)) (.int .i64 (.ofNat j)) σ1 K := by
     intro p
     have fin : ∀ j σ1, DoM σ0 σ1 b t m ty a iw ia want may τw → AccF σ0 σ1 31 11 t7 vs out.length → cnt ≤ j → (a.from_ want may cnt 0 = a.from_ want may (cnt - j) j) → vRet t7 σ1 K := by
      intro j σ1 d ac h1 h2
      have e2 : a.from_ want may cnt 0 = a.no := by rw [h2, show cnt - j = 0 by omega]; rfl
      rw [e1, e2, if_neg (by simp [Ba.no])] at hk
      exact do_end k0 d ac cl hk
     induction p with
     | zero =>
      intro j σ1 d ac h1 h2 h3
      rw [l_ballot_Ballot_do_rdrrrrrlddrdlrdE]
      unfold l_ballot_Ballot_do_rdrrrrrlddrdlrdB
      refine vDrop_here ?_
      rw [vBinI_lss, vIf_b, if_neg (by simp; omega)]
      exact fin j σ1 d ac (by omega) h3
     | succ p ihp =>
      intro j σ1 d ac h1 h2 h3
      rw [l_ballot_Ballot_do_rdrrrrrlddrdlrdE]
      unfold l_ballot_Ballot_do_rdrrrrrlddrdlrdB
      refine vDrop_here ?_
      rw [vBinI_lss, vIf_b]
      by_cases hlt : j < cnt
      · rw [if_pos (by simp; omega)]
        have hix : ∀ {k : V → Prop}, k (.ptr ia j) → vIdx 1 (.own ia 0 cnt 7) (.int .i64 (.ofNat j)) k := fun h => ⟨hlt, by rw [Nat.zero_add, Nat.mul_one]; exact h⟩
        refine hix (vLd_one d.f (fns_at (by omega)) ?_)
        refine vLdN_all d.w rfl ?_
        show x.call (cR j) ([] ++ [.ptr b 0, .agg (wV want may τw)] ++ []) σ1 _
        rw [List.nil_append, List.append_nil]
        have e3 : a.from_ want may (cnt - j) j = if (a.rule want may j).2.2 then a.rule want may j else a.from_ want may (cnt - (j + 1)) (j + 1) := by
         rw [show cnt - j = (cnt - (j + 1)) + 1 by omega]; rfl
        refine rule_s hM hx d.bal hmay (by omega) fun σ2 c2 k2 τ => ?_
        simp only [vExt_0, vExt_1, vIf_b]
        cases hr : (a.rule want may j).2.2 with
        | false =>
         have e4 := rule_no hr
         rw [e4] at k2
         rw [if_neg (by simp), vBinI_add, next_i (by omega)]
         refine ihp (j + 1) σ2 (d.step k0 c2 k2) (ac.step d.bal c2) (by omega) (by omega) ?_
         rw [h3, e3, hr]; rfl
        | true =>
         have e5 : a.from_ want may cnt 0 = a.rule want may j := by rw [h3, e3, if_pos hr]
         rw [e1, e5, if_pos hr] at hk
         obtain ⟨sm1, sm2⟩ := rule_sm (a := a) (want := want) (may := may) (j := j)
         have d2 := d.step k0 c2 k2
         rw [if_pos rfl]
         refine (ac.step d.bal c2).app d2.none (by omega) (by rw [mgD_len]) (mg_one _) (by omega) ?_
         intro t9 σ3 vs3 ac3 e6 f1 f2
         have hmu2 := rule_mu i want may j hr
         refine ih f σ3 (a.rule want may j).1 t9 vs3 (out ++ (a.rule want may j).2.1) ⟨d2.bal.keep f1, f1 _ _ d2.w rfl, f1 _ _ d2.f rfl, fun z h1 h2 h3 => by rw [f2 z h1]; exact d2.same z h1 h2 h3, d.fw, d.fa, fun z e => ?_⟩ (by rw [List.length_append]; exact ac3) (by rw [e6, mgD_app]; exact cl.app .tl) (by unfold Ba.mine; rw [sm1]; exact hmine) (fun hdd => ?_) (fun hdd => ?_) (by rw [List.length_append]; omega) hk
         · cases hz : σ0 z with
           | none => rfl
           | some o => have := f2 z (by rw [hz]; simp); rw [e] at this; rw [d2.none z this.symm] at hz; cases hz
         · rcases hmu2 with q1 | q1
           · have := hq hd; omega
           · exact absurd hdd q1
         · rcases hmu2 with q1 | q1
           · have := hf hd; omega
           · exact absurd hdd q1
      · rw [if_neg (by simp; omega)]
        exact fin j σ1 d ac (by omega) h3
    refine (show ∀ {k : V → Prop}, k (.int .i64 (.ofNat cnt)) → vLenS (.own ia 0 cnt 7) k from fun h => h) ?_
    obtain ⟨p, hp⟩ := Nat.exists_eq_succ_of_ne_zero (show x.most ≠ 0 by omega)
    rw [hp]
    exact inner p 0 σ1 d ac (by omega) (by omega) rfl
  · rw [if_neg (by simpa using hd)]
    have e : Ba.run want may f a out = (a, out) := by cases f with
     | zero => rfl
     | succ f => unfold Ba.run; rw [if_neg hd]
    rw [e] at hk
    exact do_end k0 d ac cl hk
end
end Go.Am

set_option linter.unusedVariables false
set_option maxRecDepth 4000
namespace Go.Am
theorem o_late : gT c_ballot_Ballot_late = none := rfl
theorem o_Tick : gT c_ballot_Ballot_Tick = none := rfl
theorem o_BPut : gT c_ballot_Ballot_Put = none := rfl
section
variable {M n b t m : Nat} {x : VE} {σ : Hp} {K : KV} {ty : TypeId} {a : Ba}
theorem vSlA_all {len size i : Nat} {k : V → Prop} (h : 0 < len) (hk : k (.own i 0 len len)) : vSlA len size (.ptr i 0) none none none k := by
 show 0 ≤ len ∧ len ≤ len ∧ len ≤ len ∧ k (.own i (if len = 0 then 0 else 0 + 0 * size) (len - 0) (len - 0))
 rw [if_neg (by omega)]
 exact ⟨by omega, Nat.le_refl _, Nat.le_refl _, by simpa using hk⟩
theorem vSlA_hi {len size i h : Nat} {j : IntKind} {k : V → Prop} (h0 : 0 < len) (h1 : h ≤ len) (hk : k (.own i 0 h len)) : vSlA len size (.ptr i 0) none (some (.int j (.ofNat h))) none k := by
 show 0 ≤ h ∧ h ≤ len ∧ len ≤ len ∧ k (.own i (if len = 0 then 0 else 0 + 0 * size) (h - 0) (len - 0))
 rw [if_neg (by omega)]
 exact ⟨by omega, h1, Nat.le_refl _, by simpa using hk⟩
theorem do_s (hM : 100000 < M) (hM2 : M ≤ 125000) (hx : Deep PP tbS gT M (n + 7) x) (k : Bal σ b t m ty a) {want : List UInt8} {may : List (List UInt8)} {τw : Tag} (hmay : may.length ≤ 100000) (hk : After σ b t m ty (a.do_ want may).1 fun σ' => ∀ τ, K (.list τ (mgD (a.do_ want may).2) (a.do_ want may).2.length) σ') : x.call c_ballot_Ballot_do [.ptr b 0, .agg (wV want may τw)] σ K := by
 refine hx.call o_do fun y hy => ?_
 rw [f_ballot_Ballot_do]
 unfold r_ballot_Ballot_do
 have hm : y.most = M := hy.most
 refine wBox fun iw hiw => ?_
 have le1 : Hle σ (upd σ iw (.row (wV want may τw) 67)) := .upd_new hiw
 have r1 : upd σ iw (.row (wV want may τw) 67) iw = some (.row (wV want may τw) 67) := upd_same
 have n1 : ∀ j, upd σ iw (.row (wV want may τw) 67) j = none → σ j = none := fun j e => (upd_none e).2
 generalize upd σ iw (.row (wV want may τw) 67) = σ1 at le1 r1 n1
 refine vBuild_to rfl (vFill_one rfl (by simp) (vFill_one rfl (by simp) (vFill_one rfl (by simp) (vFill_one rfl (by simp) (vFill_one rfl (by simp) (vFill_one rfl (by simp) (vFill_one rfl (by simp) (vFill_end ?_))))))))
 refine vAlloc_to (l := [.nilF, .nilF, .nilF, .nilF, .nilF, .nilF, .nilF]) rfl fun ia hia => ?_
 refine vSt_all upd_same (by rfl) (by rfl) (by rfl) ?_
 rw [upd_upd]
 show vSlA 7 1 (.ptr ia 0) none none none _
 refine vSlA_all (by omega) ?_
 have le2 : Hle σ1 (upd σ1 ia (.row fns 82)) := .upd_new hia
 have r2 : upd σ1 ia (.row fns 82) ia = some (.row fns 82) := upd_same
 have n2 : ∀ j, upd σ1 ia (.row fns 82) j = none → σ j = none := fun j e => n1 j (upd_none e).2
 show vNil PP (.ptr b 0) fun v4 => vFld 0 v4 fun v5 => vFld 3 v5 fun v6 => vLd v6 (upd σ1 ia (.row fns 82)) _
 generalize upd σ1 ia (.row fns 82) = σ2 at le2 r2 n2
 have le := le1.trans le2
 have k2 := k.le le
 have l3 : ∀ {K : KV}, vLd (.ptr b 3) σ2 K = K (.int .i64 a.s.me) σ2 := vLd_p k2.row
 simp only [vNil_p, vFld_z, l3, vBinI_eql, vIf_b]
 have d : DoM σ σ2 b t m ty a iw ia want may τw := ⟨k2, le2 _ _ r1, r2, fun j h1 _ _ => by
  cases hj : σ j with
  | none => exact absurd hj h1
  | some o => exact le _ _ hj, hiw, le1.none hia, n2⟩
 have jo : ∀ cnt, a.mine = cnt → j_ballot_Ballot_do_rdrrr y (.ptr b 0) (.ptr iw 0) (.own ia 0 cnt 7) σ2 K := by
  intro cnt hc
  rw [j_ballot_Ballot_do_rdrrrE y (by omega)]
  unfold j_ballot_Ballot_do_rdrrrB
  refine vDrop_here ?_
  obtain ⟨p, hp⟩ := Nat.exists_eq_succ_of_ne_zero (show y.most ≠ 0 by omega)
  rw [hp]
  have hmu := k.inv.mu_bd
  have hcnt : cnt ≤ 7 := by rw [← hc]; unfold Ba.mine; split <;> omega
  exact do_go hM hy k hmay hcnt p 1000 σ2 a .nil [] [] d .nil .nil hc (fun _ => by omega) (fun _ => by omega) (by simp; omega) hk
 by_cases h0 : a.s.me = 0
 · rw [if_pos (by exact decide_eq_true h0)]
   refine vSlA_hi (by omega) (by omega) ?_
   exact jo 1 (by unfold Ba.mine; rw [if_pos h0])
 · rw [if_neg (by simpa using h0)]
   exact jo 7 (by unfold Ba.mine; rw [if_neg h0])
theorem Do_s (hM : 100000 < M) (hM2 : M ≤ 125000) (hx : Deep PP tbS gT M (n + 8) x) (k : Bal σ b t m ty a) {want : List UInt8} {may : List (List UInt8)} {τw : Tag} (hmay : may.length ≤ 100000) (hk : After σ b t m ty (a.do_ want may).1 fun σ' => ∀ τ, K (.list τ (mgD (a.do_ want may).2) (a.do_ want may).2.length) σ') : x.call c_ballot_Ballot_Do [.ptr b 0, .str want, .list τw (strsD may) may.length] σ K := by
 refine hx.call o_Do fun y hy => ?_
 rw [f_ballot_Ballot_Do]
 unfold r_ballot_Ballot_Do
 refine vBin_pn kind25 ?_
 rw [vIf_b, if_neg (by simp)]
 refine vBuild_to rfl (vFill_one rfl (by simp) (vFill_one rfl (by simp) (vFill_end ?_)))
 show y.call c_ballot_Ballot_do [.ptr b 0, .agg (wV want may τw)] σ _
 refine do_s hM hM2 hy k hmay fun σ' c' k' τ => ?_
 exact vRet_here (hk σ' c' k' τ)
theorem all_s (hx : Deep PP tbS gT M (n + 1) x) (k : Bal σ b t m ty a) {r : Int} {kd : Nat} (hk : K (.int .i64 (.ofNat (a.all r kd))) σ) : x.call c_tally_Tally_All [.ptr t 0, .int .i64 r, .int .u8 (.ofNat kd)] σ K := by
 obtain ⟨l0, h1, h2, h3⟩ := k.okl
 refine hx.callOv (f := c_tally_Tally_All) (g := gAll) rfl ⟨t, m, a.s.n.toNat, l0, r, kd, rfl, h1, h2, ?_⟩
 rw [memV_perm h3]; exact hk
def Outs (K : KV) (ms : List Mg) (σ' : Hp) : Prop := match ms with
 | [] => K .nil σ'
 | [g] => ∀ i, σ' i = none → K (.own i 0 1 1) (upd σ' i (.row g.vv 31))
 | _ => False
theorem say3 (hM : M ≠ 0) (hx : Deep PP tbS gT M (n + 4) x) (k : Bal σ b t m ty a) {kd : Nat} {vl : Int} {tx : List UInt8}
 (hk : After σ b t m ty (a.say kd vl tx).1 (Outs K (a.say kd vl tx).2)) : x.call c_ballot_Ballot_say [.ptr b 0, .int .u8 (.ofNat kd), .int .i64 vl, .str tx] σ K :=
 say_core hM o_say o_put o_proposer o_Put o_may hx k fun σ1 c1 k1 j hj => vRet_here (hk σ1 c1 k1 j hj)
theorem late_s (hM : 100000 < M) (hx : Deep PP tbS gT M (n + 5) x) (k : Bal σ b t m ty a) (hk : After σ b t m ty a.late.1 (Outs K a.late.2)) : x.call c_ballot_Ballot_late [.ptr b 0] σ K := by
 refine hx.call o_late fun y hy => ?_
 rw [f_ballot_Ballot_late]
 unfold r_ballot_Ballot_late
 have hst := k.inv.st
 have hok := k.inv.ok
 have hnt : -9223372036854775808 ≤ a.s.n - a.s.t ∧ a.s.n - a.s.t ≤ 9223372036854775807 := by have := hok.1; have := hok.2.2.1; omega
 have l2 : ∀ {K : KV}, vLd (.ptr b 4) σ K = K (.int .i64 a.s.rd) σ := vLd_p k.row
 have l5 : ∀ {K : KV}, vLd (.ptr b 5) σ K = K (.int .i64 a.s.st) σ := vLd_p k.row
 have l15 : ∀ {K : KV}, vLd (.ptr b 15) σ K = K (.ptr t 0) σ := vLd_p k.row
 have no : a.late = (a, []) → vRet .nil σ K := fun e => by
  rw [e] at hk
  exact vRet_here (hk σ .refl k)
 unfold Ba.late at no hk
 simp only [vNil_p, vFld_z, l5, vBinI_eql, vIf_b]
 by_cases h1 : a.s.st = 1
 · rw [if_pos (by exact decide_eq_true h1)]
   rw [if_pos h1] at hk
   refine to2 hy k (by decide) (by decide) fun σ2 c2 k2 => ?_
   refine say3 (by omega) hy k2 fun σ3 c3 k3 j hj => ?_
   exact vRet_here (hk σ3 (c2.trans c3) k3 j hj)
 · rw [if_neg (by simpa using h1)]
   rw [if_neg h1] at hk no
   by_cases h2 : a.s.st = 2
   · rw [if_pos (by exact decide_eq_true h2)]
     rw [if_pos h2] at hk no
     simp only [l2, l15]
     refine all_s hy k ?_
     refine enough_s o_enough hy k.row hnt ?_
     rw [vIf_b]
     by_cases h3 : a.s.n - a.s.t ≤ (a.all a.s.rd 3 : Int)
     · rw [if_pos (by exact decide_eq_true h3)]
       rw [if_pos (by exact decide_eq_true h3)] at hk
       refine to2 hy k (by decide) (by decide) fun σ2 c2 k2 => ?_
       refine say3 (by omega) hy k2 fun σ3 c3 k3 j hj => ?_
       exact vRet_here (hk σ3 (c2.trans c3) k3 j hj)
     · rw [if_neg (by simpa using h3)]
       exact no (by rw [if_neg (by simpa using h3)])
   · rw [if_neg (by simpa using h2)]
     rw [if_neg h2] at hk no
     have h3 : a.s.st = 3 := by omega
     rw [if_pos (by exact decide_eq_true h3)]
     simp only [l2, l15]
     refine all_s hy k ?_
     refine enough_s o_enough hy k.row hnt ?_
     by_cases h4 : a.s.n - a.s.t ≤ (a.all a.s.rd 4 : Int)
     · have e4 : decide (a.s.n - a.s.t ≤ Int.ofNat (a.all a.s.rd 4)) = true := decide_eq_true h4
       simp only [e4, vNil_p, vFld_z, shutP_eq, vGuard_t, l2, vBinI_lss, vPick_b, vIf_b, if_true]
       by_cases h5 : a.s.rd < 99
       · have e5 : decide (a.s.rd < Int.ofNat 99) = true := decide_eq_true h5
         simp only [e5, if_true, vBinI_add]
         have e6 : wrapI .i64 (a.s.rd + Int.ofNat 1) = a.s.rd + 1 := by have := k.inv.rd; rw [wrap_small] <;> simp <;> omega
         rw [e6]
         rw [if_pos (by simp [h4, h5])] at hk
         refine begin2 hy k (by omega) (by omega) fun σ2 c2 k2 => ?_
         exact vRet_here (hk σ2 c2 k2)
       · have e5 : decide (a.s.rd < Int.ofNat 99) = false := decide_eq_false h5
         simp only [e5, Bool.false_eq_true, if_false]
         exact no (by rw [if_neg (by simp [h5])])
     · have e4 : decide (a.s.n - a.s.t ≤ Int.ofNat (a.all a.s.rd 4)) = false := decide_eq_false h4
       simp only [e4, shutP_eq, vGuard_tf, vPick_b, vIf_b, Bool.false_eq_true, if_false]
       exact no (by rw [if_neg (by simp [h4])])
theorem vGrow_ret {σ' : Hp} {pre ms : List Mg} {cells : List V} (hl : Hle σ' σ) (hc : cells.length = (pre ++ ms).length * 11) (hf : ∀ (j : Nat) (v : V) (d : Dt) (σ2 : Hp), cells[j]? = some v → (mgD (pre ++ ms))[j]? = some d → Frz σ' σ2 v d) (hk : ∀ τ, K (.list τ (mgD (pre ++ ms)) (pre ++ ms).length) σ') : vGrow 31 cells (pre ++ ms).length σ fun v σ => vRet v σ K := by
 intro i hi
 refine vRet_val (upd_le hl (hl.none hi)) (.acc upd_same (hl.none hi) (by rw [hc, mgD_len]) fun j v d e1 e2 => hf j v d _ e1 e2) hk
theorem app_ret {σ' : Hp} {s : V} {pre ms : List Mg} {τ : Tag} (hs : (pre = [] ∧ s = .nil) ∨ ∃ i g, pre = [g] ∧ s = .own i 0 1 1 ∧ σ i = some (.row g.vv 31) ∧ σ' i = none) (hl : Hle σ' σ) (hm : ms.length ≤ 1000000) (hk : ∀ τ, K (.list τ (mgD (pre ++ ms)) (pre ++ ms).length) σ') : vApp 31 11 112 s (.list τ (mgD ms) ms.length) σ fun v σ => vRet v σ K := by
 unfold vApp vSrc
 refine ⟨by rw [mgD_len]; exact Nat.le_refl _, ?_⟩
 rw [List.take_of_length_le (by rw [mgD_len]; exact Nat.le_refl _)]
 have tl : ∀ (j : Nat) (v : V) (d : Dt) (σ2 : Hp), (Tl τ 0 (mgD ms))[j]? = some v → (mgD ms)[j]? = some d → Frz σ' σ2 v d := fun j v d σ2 e1 e2 => by
  obtain ⟨τ2, rfl⟩ := (Cel.tl (τ := τ) (cs := mgD ms)).2 j v d e1 e2
  exact .T
 have hall : (Tl τ 0 (mgD ms)).all oneV = true := by
  rw [List.all_eq_true]
  intro v hv
  obtain ⟨j, hj⟩ := List.getElem?_of_mem hv
  rw [Tl_get] at hj
  cases hq : (mgD ms)[j]? with
  | none => rw [hq] at hj; cases hj
  | some d => rw [hq] at hj; injection hj with hj; subst hj; exact mg_one ms d (List.mem_of_getElem? hq) _
 rcases hs with ⟨rfl, rfl⟩ | ⟨i, g, rfl, rfl, hi, hn⟩
 · cases ms with
   | nil => exact vRet_val hl .nil hk
   | cons g ms =>
    refine ⟨hall, by simp only [List.length_cons] at hm ⊢; omega, ?_⟩
    exact vGrow_ret (pre := []) (ms := g :: ms) hl (by rw [Tl_len, mgD_len]; rfl) tl hk
 · cases ms with
   | nil => exact ⟨Nat.le_refl _, own_ret hi hn hl hk⟩
   | cons g2 ms =>
    refine ⟨hall, ?_⟩
    simp only [hi]
    refine ⟨by simp only [List.length_cons] at hm ⊢; omega, by simp [Mg.vv], fun h => absurd h (by show ¬ (1 + (ms.length + 1) ≤ 1); omega), fun _ => ?_⟩
    have e1 : (List.drop 0 g.vv).take (1 * 11) = g.vv := by simp [Mg.vv]
    rw [e1]
    have e2 : 1 + (ms.length + 1) = ([g] ++ (g2 :: ms)).length := by simp; omega
    show vGrow 31 (g.vv ++ Tl τ 0 (mgD (g2 :: ms))) (1 + (ms.length + 1)) σ _
    rw [e2]
    refine vGrow_ret (pre := [g]) (ms := g2 :: ms) hl (by rw [List.length_append, Tl_len, mgD_len]; simp [Mg.vv]; omega) (fun j v d σ2 h1 h2 => ?_) hk
    rw [mgD_app, mgD_one] at h2
    have hgl : g.vv.length = g.dt.length := rfl
    by_cases hj : j < g.vv.length
    · rw [List.getElem?_append_left hj] at h1
      rw [List.getElem?_append_left (by omega)] at h2
      exact vv_frz j v d h1 h2
    · rw [List.getElem?_append_right (by omega)] at h1 h2
      rw [← hgl] at h2
      exact tl _ v d σ2 h1 h2
theorem from_len (want : List UInt8) (may : List (List UInt8)) : ∀ (n i : Nat), (a.from_ want may n i).2.1.length ≤ 1 := by
 intro n
 induction n with
 | zero => intro i; exact Nat.zero_le 1
 | succ n ih =>
  intro i
  unfold Ba.from_
  split
  · exact rule_sm.2
  · exact ih (i + 1)
theorem run_len (want : List UInt8) (may : List (List UInt8)) : ∀ (f : Nat) (a : Ba) (out : List Mg), (Ba.run want may f a out).2.length ≤ out.length + f := by
 intro f
 induction f with
 | zero => intro a out; exact Nat.le_refl _
 | succ f ih =>
  intro a out
  unfold Ba.run
  split
  · split
    · have := ih (a.from_ want may a.mine 0).1 (out ++ (a.from_ want may a.mine 0).2.1)
      have h2 := from_len (a := a) want may a.mine 0
      rw [List.length_append] at this
      omega
    · show out.length ≤ _; omega
  · show out.length ≤ _; omega
theorem do_len (want : List UInt8) (may : List (List UInt8)) : (a.do_ want may).2.length ≤ 1000 := by
 have := run_len want may 1000 a []
 show (Ba.run want may 1000 a []).2.length ≤ 1000
 simpa using this
theorem Tick_s (hM : 100000 < M) (hM2 : M ≤ 125000) (hx : Deep PP tbS gT M (n + 9) x) (k : Bal σ b t m ty a) {want : List UInt8} {may : List (List UInt8)} {τw : Tag} (hmay : may.length ≤ 100000) (hk : After σ b t m ty (a.tick want may).1 fun σ' => ∀ τ, K (.list τ (mgD (a.tick want may).2) (a.tick want may).2.length) σ') : x.call c_ballot_Ballot_Tick [.ptr b 0, .str want, .list τw (strsD may) may.length] σ K := by
 refine hx.call o_Tick fun y hy => ?_
 rw [f_ballot_Ballot_Tick]
 unfold r_ballot_Ballot_Tick
 have hm : y.most ≠ 0 := by rw [hy.most]; omega
 refine vBin_pn kind25 ?_
 rw [vIf_b, if_neg (by simp)]
 have l3 : ∀ {K : KV}, vLd (.ptr b 3) σ K = K (.int .i64 a.s.me) σ := vLd_p k.row
 have l4 : ∀ {K : KV}, vLd (.ptr b 4) σ K = K (.int .i64 a.s.rd) σ := vLd_p k.row
 have l6 : ∀ {K : KV}, vLd (.ptr b 6) σ K = K (.int .i64 a.s.age) σ := vLd_p k.row
 have l13 : ∀ {K : KV}, vLd (.ptr b 13) σ K = K (.str a.s.dec) σ := vLd_p k.row
 have l15 : ∀ {K : KV}, vLd (.ptr b 15) σ K = K (.ptr t 0) σ := vLd_p k.row
 -- behind what the tick itself does
 have jo : ∀ (a1 : Ba) (pre : List Mg) (σ1 σ2 : Hp) (s : V), a.tick0 want = (a1, pre) → Ch σ σ1 b m → Bal σ1 b t m ty a1 → ((pre = [] ∧ s = .nil ∧ σ2 = σ1) ∨ ∃ i g, pre = [g] ∧ s = .own i 0 1 1 ∧ σ2 = upd σ1 i (.row g.vv 31) ∧ σ1 i = none) → j_ballot_Ballot_Tick_rrrr y (.ptr b 0) (.str want) (.list τw (strsD may) may.length) s σ2 K := by
  intro a1 pre σ1 σ2 s e c k1 hs
  rw [j_ballot_Ballot_Tick_rrrrE y hm]
  unfold j_ballot_Ballot_Tick_rrrrB
  refine vDrop_here ?_
  have le : Hle σ1 σ2 := by
   rcases hs with ⟨_, _, rfl⟩ | ⟨i, g, _, _, rfl, h0⟩
   · exact .refl _
   · exact .upd_new h0
  have hk1 : After σ1 b t m ty (a1.do_ want may).1 fun σ' => ∀ τ, K (.list τ (mgD (pre ++ (a1.do_ want may).2)) (pre ++ (a1.do_ want may).2).length) σ' := fun σ' c' k' τ => by
   have e1 : a.tick want may = ((a1.do_ want may).1, pre ++ (a1.do_ want may).2) := by unfold Ba.tick; rw [e]
   rw [e1] at hk
   exact hk σ' (c.trans c') k' τ
  refine Do_s hM hM2 hy (k1.le le) hmay fun σ3 c3 k3 τ => ?_
  obtain ⟨σ4, g1, g2, g3⟩ := shrink k1 le hk1 c3 k3
  refine app_ret ?_ g1 (by have := do_len (a := a1) want may; omega) g3
  rcases hs with ⟨rfl, rfl, _⟩ | ⟨i, g, rfl, rfl, rfl, h0⟩
  · exact .inl ⟨rfl, rfl⟩
  · have hib : i ≠ b := fun q => by rw [q, k1.row] at h0; cases h0
    obtain ⟨_, t1, _⟩ := k1.tal
    have him : i ≠ m := fun q => by rw [q, t1.map] at h0; cases h0
    exact .inr ⟨i, g, rfl, rfl, by rw [c3 i hib him]; exact upd_same, by rw [g2 i hib him]; exact h0⟩
 have no : a.ticks want = false → j_ballot_Ballot_Tick_rrrr y (.ptr b 0) (.str want) (.list τw (strsD may) may.length) .nil σ K := fun e => jo a [] σ σ .nil (by unfold Ba.tick0; rw [if_neg (by rw [e]; simp)]) .refl k (.inl ⟨rfl, rfl, rfl⟩)
 have yes : a.ticks want = true → (vNil PP (.ptr b 0) fun v38 => vFld 0 v38 fun v39 => vFld 6 v39 fun v40 => vLd v40 σ fun v41 σ => vBin PP .add 3 v41 (.int .i64 (.ofNat 1)) fun v42 => vMin false v42 (.int .i64 (.ofNat 1099511627776)) fun v43 => vNil PP (.ptr b 0) fun v44 => vFld 0 v44 fun v45 => vFld 6 v45 fun v46 => vSt 1 v46 v43 σ fun σ => vNil PP (.ptr b 0) fun v47 => vFld 0 v47 fun v48 => vFld 6 v48 fun v49 => vLd v49 σ fun v50 σ => vNil PP (.ptr b 0) fun v51 => vFld 0 v51 fun v52 => vFld 4 v52 fun v53 => vLd v53 σ fun v54 σ => vBin PP .mul 3 (.int .i64 (.ofNat 2)) v54 fun v55 => vBin PP .add 3 (.int .i64 (.ofNat 4)) v55 fun v56 => vBin PP .geq 3 v50 v56 fun v57 => vIf v57 (y.call c_ballot_Ballot_late [.ptr b 0] σ fun v58 σ => j_ballot_Ballot_Tick_rrrr y (.ptr b 0) (.str want) (.list τw (strsD may) may.length) v58 σ K) (j_ballot_Ballot_Tick_rrrr y (.ptr b 0) (.str want) (.list τw (strsD may) may.length) .nil σ K)) := by
  intro e
  have hage := k.inv.age
  have hrd := k.inv.rd
  simp only [vNil_p, vFld_z, l6, vBinI_add]
  have vMin_i : ∀ {x y : Int} {k : V → Prop}, vMin false (.int .i64 x) (.int .i64 y) k = k (.int .i64 (min x y)) := rfl
  have e1 : wrapI .i64 (a.s.age + Int.ofNat 1) = a.s.age + 1 := by rw [wrap_small] <;> simp <;> omega
  rw [e1]
  simp only [vMin_i]
  have e0 : Int.ofNat 1099511627776 = 1099511627776 := rfl
  rw [e0]
  refine vSt_one k.row rfl (by simp [bRow]) ?_
  have k1 := k.set (s := a.older.s) rfl k.inv.older
  have c1 : Ch σ (upd σ b (.row (bRow a.older.s t) ty)) b m := .updb
  show vLd (.ptr b 6) (upd σ b (.row (bRow a.older.s t) ty)) _
  generalize upd σ b (.row (bRow a.older.s t) ty) = σ1 at k1 c1
  have k1 : Bal σ1 b t m ty a.older := k1
  have l6 : ∀ {K : KV}, vLd (.ptr b 6) σ1 K = K (.int .i64 a.older.s.age) σ1 := vLd_p k1.row
  have l4 : ∀ {K : KV}, vLd (.ptr b 4) σ1 K = K (.int .i64 a.s.rd) σ1 := vLd_p k1.row
  simp only [l6, l4, vBinI_mul, vBinI_add, vBinI_geq, vIf_b]
  have e2 : wrapI .i64 (Int.ofNat 2 * a.s.rd) = 2 * a.s.rd := by rw [wrap_small] <;> simp <;> omega
  have e3 : wrapI .i64 (Int.ofNat 4 + 2 * a.s.rd) = 4 + 2 * a.s.rd := by rw [wrap_small] <;> simp <;> omega
  rw [e2, e3]
  by_cases h : 4 + 2 * a.s.rd ≤ a.older.s.age
  · rw [if_pos (by exact decide_eq_true h)]
    refine late_s hM hy.less.less.less k1 fun σ2 c2 k2 => ?_
    have e4 : a.tick0 want = (a.older.late.1, a.older.late.2) := by unfold Ba.tick0; rw [if_pos e, if_pos h]
    have hl : a.older.late.2 = [] ∨ ∃ g, a.older.late.2 = [g] := by
     unfold Ba.late
     split
     · exact .inr ⟨_, rfl⟩
     · split
       · split
         · exact .inr ⟨_, rfl⟩
         · exact .inl rfl
       · split <;> exact .inl rfl
    rcases hl with hl | ⟨g, hl⟩
    · rw [hl] at e4 ⊢
      exact jo _ [] σ2 σ2 .nil e4 (c1.trans c2) k2 (.inl ⟨rfl, rfl, rfl⟩)
    · rw [hl] at e4 ⊢
      intro i hi
      exact jo _ [g] σ2 _ _ e4 (c1.trans c2) k2 (.inr ⟨i, g, rfl, rfl, rfl, hi⟩)
  · rw [if_neg (by simpa using h)]
    exact jo a.older [] σ1 σ1 .nil (by unfold Ba.tick0; rw [if_pos e, if_neg h]) c1 k1 (.inl ⟨rfl, rfl, rfl⟩)
 simp only [vNil_p, vFld_z, shutP_eq, l3, vBinI_neq]
 by_cases h0 : a.s.me = 0
 · have e0 : decide (a.s.me = Int.ofNat 0) = true := decide_eq_true h0
   simp only [e0, vGuard_tf, vGuard_u, vPick_b, vIf_b, Bool.not_true, if_false, Bool.false_eq_true]
   exact no (by unfold Ba.ticks; simp [h0])
 · have e0 : decide (a.s.me = Int.ofNat 0) = false := decide_eq_false h0
   simp only [e0, vNil_p, vFld_z, vGuard_t, vPick_b, Bool.not_false, if_true, l13, vBinS_eql]
   by_cases h1 : a.s.dec = []
   · have e1 : decide (a.s.dec = []) = true := decide_eq_true h1
     simp only [e1, vGuard_t, vPick_b, if_true, vBinS_neq]
     by_cases h2 : want = []
     · have e2 : decide (want = []) = true := decide_eq_true h2
       simp only [e2, vNil_p, vFld_z, vGuard_t, Bool.not_true, if_false, Bool.false_eq_true, l15]
       refine rounds_s hy.less hM k fun τ => ?_
       simp only [vLenS_l, vBinI_gtr, vIf_b]
       by_cases h3 : 0 < a.rounds.length
       · have e3 : decide (Int.ofNat 0 < Int.ofNat a.rounds.length) = true := decide_eq_true (by simpa using h3)
         simp only [e3, if_true]
         exact yes (by unfold Ba.ticks; simp [h0, h1, h3])
       · have e3 : decide (Int.ofNat 0 < Int.ofNat a.rounds.length) = false := decide_eq_false (by simpa using h3)
         simp only [e3, if_false, Bool.false_eq_true]
         exact no (by unfold Ba.ticks; simp [h2]; intro _ _; simpa using h3)
     · have e2 : decide (want = []) = false := decide_eq_false h2
       simp only [e2, vGuard_ft, vIf_b, Bool.not_false, if_true]
       exact yes (by unfold Ba.ticks; simp [h0, h1, h2])
   · have e1 : decide (a.s.dec = []) = false := decide_eq_false h1
     simp only [e1, vGuard_tf, vGuard_u, vIf_b, if_false, Bool.false_eq_true]
     exact no (by unfold Ba.ticks; simp [h1])
end
end Go.Am

set_option linter.unusedVariables false
set_option maxRecDepth 4000
namespace Go.Am
theorem o_step : gT c_law16_BallotState_1 = none := rfl
theorem o_State : gT c_ballot_Ballot_State = none := rfl
theorem o_back : gT c_law16_back = none := rfl
theorem o_votes : gT c_law16_votes = none := rfl
structure Mi where
 kd : Nat
 e1 : Int
 e2 : Int
 h : Int
 r : Int
 vl : Int
 e3 : Int
 e4 : Int
 e5 : Int
 tx : List UInt8
 nums : List Dt
 many : Nat
def Mi.dt (g : Mi) : List Dt := [.int .u8 (.ofNat g.kd), .int .i64 g.e1, .int .i64 g.e2, .int .i64 g.h, .int .i64 g.r, .int .i64 g.vl, .int .i64 g.e3, .int .i64 g.e4, .int .i64 g.e5, .str g.tx, .list g.nums g.many]
def Mi.vv (g : Mi) (τ : Tag) : List V := [.int .u8 (.ofNat g.kd), .int .i64 g.e1, .int .i64 g.e2, .int .i64 g.h, .int .i64 g.r, .int .i64 g.vl, .int .i64 g.e3, .int .i64 g.e4, .int .i64 g.e5, .str g.tx, .list τ g.nums g.many]
structure Sp where
 what : Nat
 fr : Int
 g : Mi
 want : List UInt8
 may : List (List UInt8)
def Sp.dt (s : Sp) : List Dt := [.int .u8 (.ofNat s.what), .int .i64 s.fr] ++ s.g.dt ++ [.str s.want, .list (strsD s.may) s.may.length]
def Sp.vv (s : Sp) (τ1 τ2 : Tag) : List V := [.int .u8 (.ofNat s.what), .int .i64 s.fr] ++ s.g.vv τ1 ++ [.str s.want, .list τ2 (strsD s.may) s.may.length]
def Ba.step (a : Ba) (s : Sp) : Ba × List Mg :=
 if s.what = 0 then (a.give s.fr s.g.kd s.g.h s.g.r s.g.vl s.g.tx, []) else if s.what = 1 then a.do_ s.want s.may else a.tick s.want s.may
section
variable {M n b t m : Nat} {x : VE} {σ : Hp} {K : KV} {ty : TypeId} {a : Ba}
theorem vBinI8_eql {t : TypeId} {p q : Nat} {K : V → Prop} : vBin PP .eql t (.int .u8 (.ofNat p)) (.int .u8 (.ofNat q)) K = K (.bool (decide (p = q))) := by
 rw [vBinI_eql]
 congr 2
 rw [Bool.eq_iff_iff]; simp only [decide_eq_true_eq]; exact ⟨Int.ofNat.inj, fun e => by rw [e]⟩
theorem vBinI8_lss {t : TypeId} {p q : Nat} {K : V → Prop} : vBin PP .lss t (.int .u8 (.ofNat p)) (.int .u8 (.ofNat q)) K = K (.bool (decide (p < q))) := by
 rw [vBinI_lss]
 congr 2
 rw [Bool.eq_iff_iff]; simp
theorem vBinI8_gtr {t : TypeId} {p q : Nat} {K : V → Prop} : vBin PP .gtr t (.int .u8 (.ofNat p)) (.int .u8 (.ofNat q)) K = K (.bool (decide (q < p))) := by
 rw [vBinI_gtr]
 congr 2
 rw [Bool.eq_iff_iff]; simp
theorem Put_s (hM : M ≠ 0) (hx : Deep PP tbS gT M (n + 4) x) (k : Bal σ b t m ty a) {fr : Int} {g : Mi} {τ : Tag} (hk : After σ b t m ty (a.give fr g.kd g.h g.r g.vl g.tx) fun σ' => K (.bool (decide (g.h = a.s.h) && decide (2 ≤ g.kd) && decide (g.kd ≤ 4) && decide (g.r < 100) && a.s.takes a.l ⟨fr, g.r, g.kd, g.vl, g.tx⟩)) σ') : x.call c_ballot_Ballot_Put [.ptr b 0, .int .i64 fr, .agg (g.vv τ)] σ K := by
 refine hx.call o_BPut fun y hy => ?_
 rw [f_ballot_Ballot_Put]
 unfold r_ballot_Ballot_Put
 refine vBox_agg rfl fun i hi => ?_
 have le1 : Hle σ (upd σ i (.row (g.vv τ) 31)) := .upd_new hi
 have ri : upd σ i (.row (g.vv τ) 31) i = some (.row (g.vv τ) 31) := upd_same
 generalize upd σ i (.row (g.vv τ) 31) = σ1 at le1 ri
 have k1 := k.le le1
 refine vBin_pn kind25 ?_
 have l0 : ∀ {K : KV}, vLd (.ptr b 0) σ1 K = K (.int .i64 a.s.h) σ1 := vLd_p k1.row
 have m0 : ∀ {K : KV}, vLd (.ptr i 0) σ1 K = K (.int .u8 (.ofNat g.kd)) σ1 := vLd_p ri
 have m3 : ∀ {K : KV}, vLd (.ptr i 3) σ1 K = K (.int .i64 g.h) σ1 := vLd_p ri
 have m4 : ∀ {K : KV}, vLd (.ptr i 4) σ1 K = K (.int .i64 g.r) σ1 := vLd_p ri
 have m5 : ∀ {K : KV}, vLd (.ptr i 5) σ1 K = K (.int .i64 g.vl) σ1 := vLd_p ri
 have m9 : ∀ {K : KV}, vLd (.ptr i 9) σ1 K = K (.str g.tx) σ1 := vLd_p ri
 have no : (decide (g.h = a.s.h) && decide (2 ≤ g.kd) && decide (g.kd ≤ 4) && decide (g.r < 100)) = false → vRet (.bool false) σ1 K := fun e => by
  unfold Ba.give at hk
  rw [if_neg (by rw [e]; simp)] at hk
  have := hk σ .refl k
  rw [e, Bool.false_and] at this
  exact vRet_drop le1 this
 simp only [vNil_p, vFld_z, shutP_eq, vGuard_t, l0, m3, vBinI_neq, vPick_b, Bool.false_eq_true, if_false]
 by_cases c1 : g.h = a.s.h
 · simp only [decide_eq_true c1, Bool.not_true, vGuard_t, m0, vBinI8_lss, vPick_b, Bool.false_eq_true, if_false]
   by_cases c2 : g.kd < 2
   · simp only [decide_eq_true c2, vGuard_ft, vPick_b, if_true, vIf_b]
     exact no (by simp; omega)
   · simp only [decide_eq_false c2, vGuard_t, m0, vBinI8_gtr, vPick_b, Bool.false_eq_true, if_false]
     by_cases c3 : 4 < g.kd
     · simp only [decide_eq_true c3, vGuard_ft, if_true, vIf_b]
       exact no (by simp; omega)
     · simp only [decide_eq_false c3, vGuard_t, m4, vBinI_geq, Bool.false_eq_true, if_false]
       by_cases c4 : 100 ≤ g.r
       · simp only [show decide (Int.ofNat 100 ≤ g.r) = true from decide_eq_true c4, if_true, vIf_b]
         exact no (by simp; omega)
       · simp only [show decide (Int.ofNat 100 ≤ g.r) = false from decide_eq_false c4, vIf_b, Bool.false_eq_true, if_false, m0, m5, m9]
         refine vBuild_to rfl (vFill_one rfl (by simp) (vFill_one rfl (by simp) (vFill_one rfl (by simp) (vFill_one rfl (by simp) (vFill_one rfl (by simp) (vFill_end ?_))))))
         have e : (decide (g.h = a.s.h) && decide (2 ≤ g.kd) && decide (g.kd ≤ 4) && decide (g.r < 100)) = true := by simp; omega
         unfold Ba.give at hk
         rw [if_pos e] at hk
         rw [e, Bool.true_and] at hk
         refine bput2 (v := ⟨fr, g.r, g.kd, g.vl, g.tx⟩) hM o_put o_proposer o_Put o_may hy k1 (show g.r ≤ 1000000 by omega) fun σ2 c2 k2 => ?_
         obtain ⟨σ', g1, _, g2⟩ := shrink k le1 hk c2 k2
         exact vRet_drop g1 g2
 · simp only [decide_eq_false c1, Bool.not_false, vGuard_ft, vPick_b, if_true, vIf_b]
   exact no (by simp [c1])
theorem step_s (hM : 100000 < M) (hM2 : M ≤ 125000) (hx : Deep PP tbS gT M (n + 10) x) (k : Bal σ b t m ty a) {s : Sp} {τ1 τ2 : Tag} (hmay : s.may.length ≤ 100000) (hk : After σ b t m ty (a.step s).1 fun σ' => ∀ τ, K (.list τ (mgD (a.step s).2) (a.step s).2.length) σ') : x.call c_law16_BallotState_1 [.ptr b 0, .agg (s.vv τ1 τ2)] σ K := by
 refine hx.call o_step fun y hy => ?_
 rw [f_law16_BallotState_1]
 unfold r_law16_BallotState_1
 refine vBox_agg rfl fun i hi => ?_
 have le1 : Hle σ (upd σ i (.row (s.vv τ1 τ2) 34)) := .upd_new hi
 have ri : upd σ i (.row (s.vv τ1 τ2) 34) i = some (.row (s.vv τ1 τ2) 34) := upd_same
 generalize upd σ i (.row (s.vv τ1 τ2) 34) = σ1 at le1 ri
 have k1 := k.le le1
 have m0 : ∀ {K : KV}, vLd (.ptr i 0) σ1 K = K (.int .u8 (.ofNat s.what)) σ1 := vLd_p ri
 have m1 : ∀ {K : KV}, vLd (.ptr i 1) σ1 K = K (.int .i64 s.fr) σ1 := vLd_p ri
 have m13 : ∀ {K : KV}, vLd (.ptr i 13) σ1 K = K (.str s.want) σ1 := vLd_p ri
 have m14 : ∀ {K : KV}, vLd (.ptr i 14) σ1 K = K (.list τ2 (strsD s.may) s.may.length) σ1 := vLd_p ri
 have m2 : ∀ {K : KV}, vLdN 11 (.ptr i 2) σ1 K = K (.agg (s.g.vv τ1)) σ1 := fun {K} => by
  rw [vLdN_p ri, vPart_ok (by simp [Sp.vv, Mi.vv])]; rfl
 simp only [vFld_z, m0, vBinI8_eql, vIf_b]
 unfold Ba.step at hk
 by_cases c0 : s.what = 0
 · rw [if_pos (by exact decide_eq_true c0)]
   rw [if_pos c0] at hk
   simp only [m1, m2]
   refine Put_s (by omega) hy k1 fun σ2 c2 k2 => ?_
   obtain ⟨σ', g1, _, g2⟩ := shrink k le1 hk c2 k2
   exact vRet_val g1 .nil g2
 · rw [if_neg (by simpa using c0)]
   rw [if_neg c0] at hk
   by_cases c1 : s.what = 1
   · rw [if_pos (by exact decide_eq_true c1)]
     rw [if_pos c1] at hk
     simp only [m13, m14]
     refine Do_s hM hM2 hy.less k1 hmay fun σ2 c2 k2 τ => ?_
     obtain ⟨σ', g1, _, g2⟩ := shrink k le1 hk c2 k2
     exact vRet_val g1 .list g2
   · rw [if_neg (by simpa using c1)]
     rw [if_neg c1] at hk
     simp only [m13, m14]
     refine Tick_s hM hM2 hy k1 hmay fun σ2 c2 k2 τ => ?_
     obtain ⟨σ', g1, _, g2⟩ := shrink k le1 hk c2 k2
     exact vRet_val g1 .list g2
def sRow (s : Bs) (v : V) : List V := [.int .i64 s.h, .int .i64 s.n, .int .i64 s.t, .int .i64 s.me, .int .i64 s.rd, .int .i64 s.st, .int .i64 s.age, .str s.lock, .str s.valid, .int .i64 s.lockR, .int .i64 s.validR, .bool s.prop, .bool s.seen, .str s.dec, v]
def stV (a : Ba) (τ : Tag) : V := .agg (sRow a.s (.list τ (voD a.l) a.l.length))
theorem vRet_st {σ' : Hp} {s : Bs} {v : V} {l : List Vo} (hl : Hle σ' σ) (hf : Frz σ' σ v (.list (voD l) l.length)) (hk : ∀ τ, K (.agg (sRow s (.list τ (voD l) l.length))) σ') : vRet (.agg (sRow s v)) σ K := by
 refine ⟨σ', fun τ => .agg (sRow s (.list (τ 14) (voD l) l.length)), hl, fun τ => .agg ⟨rfl, fun j v u e1 e2 => ?_⟩, fun τ => hk _⟩
 match j with
 | 14 => injection e1 with e1; injection e2 with e2; subst e1 e2; exact .dat hf
 | 0 | 1 | 2 | 3 | 4 | 5 | 6 | 7 | 8 | 9 | 10 | 11 | 12 | 13 => injection e1 with e1; injection e2 with e2; subst e1 e2; exact .keep _
 | j + 15 => simp [sRow] at e1
def zSt : List Value := [(.int .i64 (.ofNat 0)), (.int .i64 (.ofNat 0)), (.int .i64 (.ofNat 0)), (.int .i64 (.ofNat 0)), (.int .i64 (.ofNat 0)), (.int .i64 (.ofNat 0)), (.int .i64 (.ofNat 0)), (.string ⟨⟨[]⟩⟩), (.string ⟨⟨[]⟩⟩), (.int .i64 (.ofNat 0)), (.int .i64 (.ofNat 0)), (.bool false), (.bool false), (.string ⟨⟨[]⟩⟩), (.slice none 0 0)]
def zBs : Bs := ⟨0, 0, 0, 0, 0, 0, 0, [], [], 0, 0, false, false, []⟩
theorem State_s (hx : Deep PP tbS gT M (n + 2) x) (k : Bal σ b t m ty a) (hk : ∀ τ, K (stV a τ) σ) : x.call c_ballot_Ballot_State [.ptr b 0] σ K := by
 refine hx.call o_State fun y hy => ?_
 rw [f_ballot_Ballot_State]
 unfold r_ballot_Ballot_State
 refine vAlloc_to (l := sRow zBs .nil) rfl fun i hi => ?_
 have le1 : Hle σ (upd σ i (.row (sRow zBs .nil) 41)) := .upd_new hi
 have ri : upd σ i (.row (sRow zBs .nil) 41) i = some (.row (sRow zBs .nil) 41) := upd_same
 generalize upd σ i (.row (sRow zBs .nil) 41) = σ1 at le1 ri
 have k1 := k.le le1
 refine vBin_pn kind25 ?_
 rw [vIf_b, if_neg (by simp)]
 simp only [vNil_p, vFld_z]
 rw [vLdN_p k1.row, vPart_ok (by simp [bRow])]
 show vAlloc zSt 41 σ1 fun v7 σ => vSt 15 v7 (.agg (sRow a.s .nil)) σ _
 refine vAlloc_to (l := sRow zBs .nil) rfl fun j hj => ?_
 refine vSt_all upd_same (by rfl) (by rfl) (by rfl) ?_
 rw [upd_upd]
 have hij : i ≠ j := fun e => by rw [e, hj] at ri; cases ri
 have le2 : Hle σ1 (upd σ1 j (.row (sRow a.s .nil) 41)) := .upd_new hj
 have rj : upd σ1 j (.row (sRow a.s .nil) 41) j = some (.row (sRow a.s .nil) 41) := upd_same
 have ri2 := le2 _ _ ri
 generalize upd σ1 j (.row (sRow a.s .nil) 41) = σ2 at le2 rj ri2
 have k2 := k1.le le2
 have le := le1.trans le2
 have l15 : ∀ {K : KV}, vLd (.ptr b 15) σ2 K = K (.ptr t 0) σ2 := vLd_p k2.row
 simp only [l15]
 obtain ⟨l0, h1, h2, h3⟩ := k2.okl
 have hs := sortV_srt k.inv.srt h3
 have fin : ∀ (v : V) (σ3 : Hp), σ3 i = some (.row (sRow zBs .nil) 41) → σ3 j = some (.row (sRow a.s .nil) 41) → oneV v = true → Hle σ σ3 → (∀ σ4, Hle σ σ4 → (∀ q o, σ3 q = some o → isGro o = true → σ4 q = some o) → Frz σ σ4 v (.list (voD a.l) a.l.length)) →
  vSt 1 (.ptr j 14) v σ3 fun σ => vLdN 15 (.ptr j 0) σ fun v13 σ => vSt 15 (.ptr i 0) v13 σ fun σ => vLdN 15 (.ptr i 0) σ fun v14 _ => vRet v14 σ K := by
  intro v σ3 e1 e2 e3 e4 e5
  refine vSt_one e2 e3 (by simp [sRow]) ?_
  refine vLdN_all upd_same (by rfl) ?_
  refine vSt_all (by rw [upd_other hij]; exact e1) (by simp [splice, sRow, e3]; exact ⟨rfl, rfl, rfl, rfl, rfl, rfl, rfl, rfl, rfl, rfl, rfl, rfl, rfl, rfl⟩) (by rfl) (by rfl) ?_
  refine vLdN_all upd_same (by rfl) ?_
  have hi4 : σ i = none := hi
  have hj4 : σ j = none := le1.none hj
  refine vRet_st (l := a.l) (upd_le (upd_le e4 hj4) hi4) (e5 _ (upd_le (upd_le e4 hj4) hi4) fun q o q1 q2 => ?_) hk
  rw [upd_other (fun q3 => by rw [q3, e1] at q1; injection q1 with q1; subst q1; cases q2), upd_other (fun q3 => by rw [q3, e2] at q1; injection q1 with q1; subst q1; cases q2)]
  exact q1
 refine hy.callOv (f := c_tally_Tally_Votes) (g := gVotes) rfl ⟨t, m, a.s.n.toNat, l0, rfl, h1, h2, by rw [hs]; exact k.inv.srt, fun e => ?_, fun e q hq => ?_⟩
 · rw [hs] at e
   refine fin .nil σ2 ri2 rj rfl le fun σ4 q1 _ => ?_
   rw [e]; exact .nil
 · rw [hs]
   refine fin (.acc q a.l.length) _ (by rw [upd_other (fun e => by rw [← e, ri2] at hq; cases hq)]; exact ri2) (by rw [upd_other (fun e => by rw [← e, rj] at hq; cases hq)]; exact rj) rfl (upd_le le (le.none hq)) fun σ4 q1 q2 => ?_
   refine .acc (q2 q _ upd_same rfl) (le.none hq) (by rw [voV_len, voD_len]) fun z v d e1 e2 => ?_
   rw [voV_T a.l (.root 0), List.getElem?_map, e2] at e1
   injection e1 with e1
   subst e1
   exact .T
end
end Go.Am

set_option linter.unusedVariables false
set_option maxRecDepth 4000
namespace Go.Am
theorem o_Load : gT c_ballot_Load = none := rfl
theorem o_New : gT c_ballot_New = none := rfl
theorem o_TNew : gT c_tally_New = none := rfl
theorem o_place : gT c_ballot_place = none := rfl
theorem o_Same16 : gT c_ref16_Same = none := rfl
theorem o_Same15 : gT c_ref15_Same = none := rfl
theorem o_Msgs : gT c_ref14_Msgs = none := rfl
theorem o_Same14 : gT c_ref14_Same = none := rfl
theorem insV_last {v : Vo} : ∀ {l : List Vo}, (∀ u ∈ l, u.lt v = true) → insV v l = l ++ [v] := by
 intro l
 induction l with
 | nil => intro _; rfl
 | cons u l ih =>
  intro h
  unfold insV
  have := h u (.head _)
  rw [if_neg (by rw [lt_iff] at this; rw [lt_iff]; omega), ih fun w hw => h w (.tail _ hw)]
  rfl
theorem InvB.takes {a : Ba} (i : InvB a) {j : Nat} (hj : j < a.l.length) {s : Bs} (hh : s.h = a.s.h) (hn : s.n = a.s.n) : s.takes (a.l.take j) a.l[j] = true ∧ insV a.l[j] (a.l.take j) = a.l.take (j + 1) := by
 have hlt : ∀ u ∈ a.l.take j, u.lt a.l[j] = true := by
  intro u hu
  obtain ⟨q, hq⟩ := List.getElem?_of_mem hu
  have hq1 := (List.getElem?_eq_some_iff.1 hq).1
  rw [List.length_take] at hq1
  rw [List.getElem?_take, if_pos (by omega), List.getElem?_eq_getElem (by omega)] at hq
  injection hq with hq
  rw [← hq]
  exact List.pairwise_iff_getElem.1 i.srt q j (by omega) hj (by omega)
 have hp : s.pro = a.s.pro := by funext r; unfold Bs.pro; rw [hh, hn]
 obtain ⟨v1, v2⟩ := i.vs a.l[j] (List.getElem_mem hj)
 obtain ⟨q1, _⟩ := (may_iff _ _).1 v1
 refine ⟨(takes_iff _ _ _).2 ⟨fun ⟨e1, e2⟩ => ?_, by rw [hn]; exact v1, ?_⟩, ?_⟩
 · rcases e2 with e2 | e2
   · omega
   · exact e2 (by rw [hp]; exact v2 e1)
 · unfold Vo.free
   rw [Option.isNone_iff_eq_none, List.find?_eq_none]
   intro u hu e
   have e := (at_iff _ _ _ _).1 e
   have := hlt u hu
   rw [lt_iff] at this; omega
 · rw [insV_last hlt, List.take_add_one, List.getElem?_eq_getElem hj]; rfl
section
variable {M n b t m : Nat} {x : VE} {σ : Hp} {K : KV} {ty : TypeId} {a : Ba}
def startOf (a : Ba) : Bs := .start a.s.h a.s.n a.s.t a.s.me
theorem loadB_go {t1 : Nat} {τ : Tag} (hx : Deep PP tbS gT M (n + 3) x) (i : InvB a) (hM : 100000 < M)
 (hk : ∀ σ', (∀ j, σ j ≠ none → σ' j = σ j) → Bal σ' b t m 61 a → K (.tuple [.ptr b 0, .int .i64 0]) σ') (hb : σ b = none) (ht : σ t = none) (hm : σ m = none) (ht1 : σ t1 = none) :
 ∀ (q j : Nat) (σ1 : Hp), a.l.length ≤ j + q → j ≤ a.l.length → Bal σ1 b t m 61 ⟨startOf a, a.l.take j⟩ → σ1 t1 = some (.row (sRow a.s (.list τ (voD a.l) a.l.length)) 41) → (∀ z, σ z ≠ none → σ1 z = σ z) → l_ballot_Load_rrrlrd x (q + 1) (.ptr t1 0) (.ptr b 0) (.list τ (voD a.l) a.l.length) (.int .i64 (.ofNat a.l.length)) (.int .i64 (.ofNat j)) σ1 K := by
 have hlen := len_of i.srt i.ok.1.2 fun v hv => (i.vs v hv).1
 have fin : ∀ (j : Nat) (σ1 : Hp), a.l.length ≤ j → Bal σ1 b t m 61 ⟨startOf a, a.l.take j⟩ → σ1 t1 = some (.row (sRow a.s (.list τ (voD a.l) a.l.length)) 41) → (∀ z, σ z ≠ none → σ1 z = σ z) →
  (vFld 14 (.ptr t1 0) fun v16 => vSt 1 v16 .nil σ1 fun σ => vLdN 15 (.ptr t1 0) σ fun v17 σ => vNil PP (.ptr b 0) fun v18 => vFld 0 v18 fun v19 => vSt 15 v19 v17 σ fun σ => vRet (.tuple [.ptr b 0, (.int .i64 (.ofNat 0))]) σ K) := by
  intro j σ1 hj k e f
  rw [List.take_of_length_le hj] at k
  have hbt : b ≠ t1 := fun q => by have := k.row; rw [q, e] at this; injection this with this; injection this with this _; simp [sRow, bRow] at this
  simp only [vFld_z]
  refine vSt_one e rfl (by simp [sRow]) ?_
  refine vLdN_all upd_same (by rfl) ?_
  simp only [vNil_p, vFld_z]
  have r1 : upd σ1 t1 (.row (splice 14 [.nil] (sRow a.s (.list τ (voD a.l) a.l.length))) 41) b = some (.row (bRow (startOf a) t) 61) := by rw [upd_other hbt]; exact k.row
  have st : ∀ {k : Hp → Prop}, k (upd (upd σ1 t1 (.row (splice 14 [.nil] (sRow a.s (.list τ (voD a.l) a.l.length))) 41)) b (.row (bRow a.s t) 61)) → vSt 15 (.ptr b 0) (.agg (splice 14 [.nil] (sRow a.s (.list τ (voD a.l) a.l.length)))) (upd σ1 t1 (.row (splice 14 [.nil] (sRow a.s (.list τ (voD a.l) a.l.length))) 41)) k := fun {k} h => by
   unfold vSt
   simp only [r1]
   exact ⟨rfl, rfl, by simp [bRow], h⟩
  refine st ?_
  have k2 := k.set (s := a.s) rfl i
  -- forget the state's row
  have tt1 : t ≠ t1 := fun q => by obtain ⟨_, q1, _⟩ := k.tal; have := q1.row; rw [q, e] at this; injection this with this; injection this with this _; simp [sRow] at this
  have mt1 : m ≠ t1 := fun q => by obtain ⟨_, q1, _⟩ := k.tal; have := q1.map; rw [q, e] at this; cases this
  refine vRet_drop (σ' := del (upd σ1 b (.row (bRow a.s t) 61)) t1) ?_ (hk _ (fun z hz => ?_) ?_)
  · intro z o q
    unfold del at q
    by_cases h1 : z = t1
    · rw [if_pos h1] at q; cases q
    · rw [if_neg h1] at q
      by_cases h2 : z = b
      · subst h2; rw [upd_same] at q ⊢; exact q
      · rw [upd_other h2] at q ⊢; rw [upd_other h1]; exact q
  · unfold del
    rw [if_neg (fun q => hz (by rw [q]; exact ht1)), upd_other (fun q => hz (by rw [q]; exact hb))]
    exact f z hz
  · have un : ∀ {z : Nat}, z ≠ t1 → del (upd σ1 b (.row (bRow a.s t) 61)) t1 z = upd σ1 b (.row (bRow a.s t) 61) z := fun h => if_neg h
    obtain ⟨l0, q1, q2⟩ := k2.tal
    exact ⟨by rw [un hbt]; exact k2.row, ⟨l0, ⟨by rw [un tt1]; exact q1.row, by rw [un mt1]; exact q1.map⟩, q2⟩, k2.inv, k2.bt, k2.bm, k2.tm⟩
 intro q
 induction q with
 | zero =>
  intro j σ1 h1 h2 k e f
  rw [l_ballot_Load_rrrlrdE]
  unfold l_ballot_Load_rrrlrdB
  refine vDrop_here ?_
  rw [vBinI_lss, vIf_b, if_neg (by simp; omega)]
  exact fin j σ1 (by omega) k e f
 | succ q ih =>
  intro j σ1 h1 h2 k e f
  rw [l_ballot_Load_rrrlrdE]
  unfold l_ballot_Load_rrrlrdB
  refine vDrop_here ?_
  rw [vBinI_lss, vIf_b]
  by_cases hlt : j < a.l.length
  · rw [if_pos (by simp; omega), vIdx_l hlt, vLdN_l, vPart_ok (by rw [voD_len]; omega), voD_at a.l j a.l[j] (List.getElem?_eq_getElem hlt)]
    have hT : Tl τ (j * 5) a.l[j].dt = a.l[j].vv := rfl
    rw [hT]
    refine vAlloc_to (l := voZ.vv) rfl fun p hp => ?_
    refine vSt_all upd_same (by rfl) (by rfl) (by rfl) ?_
    rw [upd_upd]
    have le1 : Hle σ1 (upd σ1 p (.row a.l[j].vv 64)) := .upd_new hp
    have rp : upd σ1 p (.row a.l[j].vv 64) p = some (.row a.l[j].vv 64) := upd_same
    have fp : ∀ z, σ z ≠ none → upd σ1 p (.row a.l[j].vv 64) z = σ z := fun z hz => by
     rw [upd_other (fun q => hz (by have := f z hz; rw [q, hp] at this; rw [q]; exact this.symm))]; exact f z hz
    generalize upd σ1 p (.row a.l[j].vv 64) = σ2 at le1 rp fp
    have k2 := k.le le1
    obtain ⟨m0, m1, m2, m3, m4⟩ := vo_lds rp
    have hmay := (may_iff _ _).1 (i.vs a.l[j] (List.getElem_mem hlt)).1
    have e100 : decide (Int.ofNat 100 ≤ a.l[j].rd) = false := decide_eq_false (by have := hmay.1.2.2.2.1; show ¬ ((100 : Int) ≤ _); omega)
    simp only [vFld_z, m1, vBinI_geq, e100, shutP_eq, vGuard_t]
    refine vLdN_all rp (by rfl) ?_
    obtain ⟨tk, it⟩ := i.takes hlt (s := startOf a) rfl rfl
    refine bput2 (v := a.l[j]) (by omega) o_put o_proposer o_Put o_may hx k2 (by omega) fun σ3 c3 k3 => ?_
    rw [tk]
    simp only [vNot_b, Bool.not_true, vPick_b, Bool.false_eq_true, if_false, vIf_b, vBinI_add]
    rw [next_i (by omega)]
    have e4 : Ba.put ⟨startOf a, a.l.take j⟩ a.l[j] = ⟨startOf a, a.l.take (j + 1)⟩ := by
     unfold Ba.put
     rw [if_pos tk]
     exact congrArg _ it
    rw [e4] at k3
    have nb : b ≠ t1 := fun q => by have := k.row; rw [q, e] at this; injection this with this; injection this with this _; simp [sRow, bRow] at this
    have nm : m ≠ t1 := fun q => by obtain ⟨_, q1, _⟩ := k.tal; have := q1.map; rw [q, e] at this; cases this
    refine ih (j + 1) σ3 (by omega) (by omega) k3 (by rw [c3 t1 (Ne.symm nb) (Ne.symm nm)]; exact le1 _ _ e) fun z hz => ?_
    rw [c3 z (fun q => hz (by rw [q]; exact hb)) (fun q => hz (by rw [q]; exact hm))]
    exact fp z hz
  · rw [if_neg (by simp; omega)]
    exact fin j σ1 (by omega) k e f
theorem Load_s (hM : 100000 < M) (hx : Deep PP tbS gT M (n + 4) x) (i : InvB a) {τ : Tag} (hk : ∀ b t m σ', (∀ j, σ j ≠ none → σ' j = σ j) → σ b = none → σ t = none → σ m = none → Bal σ' b t m 61 a → K (.tuple [.ptr b 0, .int .i64 0]) σ') : x.call c_ballot_Load [stV a τ] σ K := by
 refine hx.call o_Load fun y hy => ?_
 rw [f_ballot_Load]
 unfold r_ballot_Load
 have hok := i.ok
 refine vBox_agg rfl fun t1 ht1 => ?_
 have le1 : Hle σ (upd σ t1 (.row (sRow a.s (.list τ (voD a.l) a.l.length)) 41)) := .upd_new ht1
 have r1 : upd σ t1 (.row (sRow a.s (.list τ (voD a.l) a.l.length)) 41) t1 = some (.row (sRow a.s (.list τ (voD a.l) a.l.length)) 41) := upd_same
 generalize upd σ t1 (.row (sRow a.s (.list τ (voD a.l) a.l.length)) 41) = σ1 at le1 r1
 have q0 : ∀ {K : KV}, vLd (.ptr t1 0) σ1 K = K (.int .i64 a.s.h) σ1 := vLd_p r1
 have q1 : ∀ {K : KV}, vLd (.ptr t1 1) σ1 K = K (.int .i64 a.s.n) σ1 := vLd_p r1
 have q2 : ∀ {K : KV}, vLd (.ptr t1 2) σ1 K = K (.int .i64 a.s.t) σ1 := vLd_p r1
 have q3 : ∀ {K : KV}, vLd (.ptr t1 3) σ1 K = K (.int .i64 a.s.me) σ1 := vLd_p r1
 simp only [vFld_z, q0, q1, q2, q3]
 refine bnew_s o_New o_TNew hy.less (fun e => absurd hok e) (fun _ m t b hm htm ht hbt hbm hb => ?_)
 have fr : ∀ z, σ1 z ≠ none → upd (upd (upd σ1 m (.map [])) t (.row [.int .i64 a.s.n, .mapv m] 78)) b (.row (bRow (.start a.s.h a.s.n a.s.t a.s.me) t) 61) z = σ1 z := fun z hz => by
  rw [upd_other (fun q => hz (by rw [q]; exact hb)), upd_other (fun q => hz (by rw [q]; exact ht)), upd_other (fun q => hz (by rw [q]; exact hm))]
 have kb : Bal (upd (upd (upd σ1 m (.map [])) t (.row [.int .i64 a.s.n, .mapv m] 78)) b (.row (bRow (.start a.s.h a.s.n a.s.t a.s.me) t) 61)) b t m 61 ⟨startOf a, []⟩ :=
  ⟨upd_same, ⟨[], ⟨by rw [upd_other (Ne.symm hbt)]; exact upd_same, by rw [upd_other (Ne.symm hbm), upd_other (Ne.symm htm)]; exact upd_same⟩, .refl _⟩, InvB.start hok, hbt, hbm, htm⟩
 have r2 : upd (upd (upd σ1 m (.map [])) t (.row [.int .i64 a.s.n, .mapv m] 78)) b (.row (bRow (.start a.s.h a.s.n a.s.t a.s.me) t) 61) t1 = some (.row (sRow a.s (.list τ (voD a.l) a.l.length)) 41) := by rw [fr t1 (by rw [r1]; simp)]; exact r1
 generalize upd (upd (upd σ1 m (.map [])) t (.row [.int .i64 a.s.n, .mapv m] 78)) b (.row (bRow (.start a.s.h a.s.n a.s.t a.s.me) t) 61) = σ2 at fr kb r2
 have l4 : ∀ {K : KV}, vLd (.ptr t1 4) σ2 K = K (.int .i64 a.s.rd) σ2 := vLd_p r2
 have l5 : ∀ {K : KV}, vLd (.ptr t1 5) σ2 K = K (.int .i64 a.s.st) σ2 := vLd_p r2
 have l6 : ∀ {K : KV}, vLd (.ptr t1 6) σ2 K = K (.int .i64 a.s.age) σ2 := vLd_p r2
 have l7 : ∀ {K : KV}, vLd (.ptr t1 7) σ2 K = K (.str a.s.lock) σ2 := vLd_p r2
 have l8 : ∀ {K : KV}, vLd (.ptr t1 8) σ2 K = K (.str a.s.valid) σ2 := vLd_p r2
 have l9 : ∀ {K : KV}, vLd (.ptr t1 9) σ2 K = K (.int .i64 a.s.lockR) σ2 := vLd_p r2
 have l10 : ∀ {K : KV}, vLd (.ptr t1 10) σ2 K = K (.int .i64 a.s.validR) σ2 := vLd_p r2
 have l13 : ∀ {K : KV}, vLd (.ptr t1 13) σ2 K = K (.str a.s.dec) σ2 := vLd_p r2
 have l14 : ∀ {K : KV}, vLd (.ptr t1 14) σ2 K = K (.list τ (voD a.l) a.l.length) σ2 := vLd_p r2
 have hrd := i.rd; have hst := i.st; have hage := i.age; have hdec := i.dec
 have d1 : decide (a.s.rd < Int.ofNat 0) = false := decide_eq_false (by show ¬ (a.s.rd < 0); omega)
 have d2 : decide (Int.ofNat 100 ≤ a.s.rd) = false := decide_eq_false (by show ¬ ((100 : Int) ≤ a.s.rd); omega)
 have d3 : decide (a.s.st < Int.ofNat 1) = false := decide_eq_false (by show ¬ (a.s.st < 1); omega)
 have d4 : decide (Int.ofNat 3 < a.s.st) = false := decide_eq_false (by show ¬ ((3 : Int) < a.s.st); omega)
 have d5 : decide (a.s.age < Int.ofNat 0) = false := decide_eq_false (by show ¬ (a.s.age < 0); omega)
 have d6 : decide (Int.ofNat 1099511627776 < a.s.age) = false := decide_eq_false (fun q => by have h : Int.ofNat 1099511627776 = 1099511627776 := rfl; rw [h] at q; omega)
 have d7 : decide (Int.ofNat 2048 < Int.ofNat a.s.dec.length) = false := decide_eq_false (by simp; omega)
 have d0 : (!decide ((0 : Int) = Int.ofNat 0)) = false := rfl
 simp only [vExt_0, vExt_1, vBinI_neq, d0, shutP_eq, vGuard_t, l4, l5, l6, vBinI_lss, vBinI_geq, vBinI_gtr, d1, d2, d3, d4, d5, d6, vPick_b, Bool.false_eq_true, if_false, l7, l9]
 refine place_s o_place hy ?_
 rw [i.lk]
 simp only [vNot_b, Bool.not_true, vPick_b, vGuard_t, Bool.false_eq_true, if_false, l4, l8, l10]
 refine place_s o_place hy ?_
 rw [i.vl]
 simp only [vNot_b, Bool.not_true, vPick_b, vGuard_t, Bool.false_eq_true, if_false, l13, vLenT_s, vBinI_gtr, d7, vIf_b, l14, vLenS_l]
 have hm2 : y.most = M := hy.most
 have hlen := len_of i.srt hok.1.2 fun v hv => (i.vs v hv).1
 obtain ⟨p, hp⟩ := Nat.exists_eq_succ_of_ne_zero (show y.most ≠ 0 by omega)
 rw [hp]
 refine loadB_go (σ := σ) (t1 := t1) hy i hM (fun σ' f k => hk b t m σ' f (le1.none hb) (le1.none ht) (le1.none hm) k) (le1.none hb) (le1.none ht) (le1.none hm) ht1 p 0 σ2 (by omega) (by omega) kb r2 fun z hz => ?_
 cases hz2 : σ z with
 | none => exact absurd hz2 hz
 | some o => rw [fr z (by rw [le1 z o hz2]; simp), le1 z o hz2]
end
end Go.Am
