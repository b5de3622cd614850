/- Functions' codes, written out (by a program), each seen to be so by the kernel. -/
import Derived.Test.YtcikbnhbihljmaaGreatGe
import Derived.Test.YtcikbnhbihljmaaGreatGd

set_option linter.unusedVariables false
set_option maxRecDepth 100000
namespace Go.Am
noncomputable def gW (x:VE) (m:Nat) (t1 t5 t6 t8 t10:V) (S:Hp) (K:KV):Prop:=kH PP bM gQ x [.r,.r,.r,.r,.r,.r,.l,.r,.d] m [] [t1,t5,t6,t8,t10] S K
noncomputable def xQ (x:VE) (a0 a1:V) (S:Hp) (K:KV):Prop:=
 nW 24 a0 S fun v0 S=>
 x.call qY [a1] S fun v1 S=>
 aC x.most (aB false v1 (fun k=>aD 14 v0 fun v2=>
 k v2 S) S fun v3 S=>
 aC x.most (aB false v1 (fun k=>aE v3 S fun v4 S=>
 k v4 S) S fun v5 S=>
 aC x.most (aB false v1 (fun k=>cY v5 fun v6=>
 k v6 S) S fun v7 S=>
 aC x.most (aB false v1 (fun k=>aF PP .gtr 3 v7 (.int .i64 (.ofNat 200)) fun v8=>
 k v8 S) S fun v9 S=>
 aC x.most (aL v1 (.bool true) v9 fun v10=>
 fC v10 (aS (.bool true) S K) (dK 15 v0 S fun v11 S=>
 x.call rV [v11] S fun v12 S=>
 fE [(.int .i64 (.ofNat 0)),(.int .i64 (.ofNat 0)),(.int .i64 (.ofNat 0)),(.int .i64 (.ofNat 0)),(.int .i64 (.ofNat 0)),(.int .i64 (.ofNat 0)),(.int .i64 (.ofNat 0)),(.string ⟨⟨[]⟩⟩),(.string ⟨⟨[]⟩⟩),(.int .i64 (.ofNat 0)),(.int .i64 (.ofNat 0)),(.bool false),(.bool false),(.string ⟨⟨[]⟩⟩),(.slice none 0 0)] 29 S fun v13 S=>
 jK 15 v13 v12 S fun S=>
 dK 15 v13 S fun v14 S=>
 x.call rW [v14] S fun v15 S=>
 lU 0 v15 fun v16=>
 lU 1 v15 fun v17=>
 dK 15 v0 S fun v18 S=>
 x.call tV [v18] S fun v19 S=>
 lU 0 v19 fun v20=>
 lU 1 v19 fun v21=>
 aF PP .neq 32 v17 v21 fun v22=>
 aC x.most (aB false v22 (fun k=>k v17 S) S fun v23 S=>
 aC x.most (aB false v22 (fun k=>aF PP .neq 32 v23 (.int .i64 (.ofNat 0)) fun v24=>
 k v24 S) S fun v25 S=>
 aC x.most (aL v22 (.bool true) v25 fun v26=>
 fC v26 (aF PP .eql 32 v17 v21 fun v27=>
 aC x.most (aB true v27 (fun k=>k v16 S) S fun v28 S=>
 aC x.most (aB true v27 (fun k=>aF PP .eql 31 v28 .pW fun v29=>
 k v29 S) S fun v30 S=>
 aC x.most (aL v27 v30 (.bool false) fun v31=>
 aS v31 S K)))) (gW x x.most a1 v13 v16 v20 (.int .i64 (.ofNat 0)) S K))))))))))
theorem IT (x:VE) (a0 a1:V) (S:Hp) (K:KV):nP PP bM gQ x [a0,a1] S K=xQ x a0 a1 S K:=by kernel_rfl
noncomputable def kB (x:VE) (m0:Nat) (t1 t5 t6 t8 t10:V) (S:Hp) (K:KV):Prop:=
 dX S fun S=>
 aD 14 t5 fun v0=>
 aE v0 S fun v1 S=>
 cY v1 fun v2=>
 aF PP .lss 3 t10 v2 fun v3=>
 fC v3 (aD 14 t5 fun v4=>
 aE v4 S fun v5 S=>
 fQ 5 v5 t10 fun v6=>
 aD 4 v6 fun v7=>
 jK 1 v7 (.str [115,112,111,105,108,116]) S fun S=>
 aF PP .add 3 t10 (.int .i64 (.ofNat 1)) fun v8=>
 gW x m0 t1 t5 t6 t8 v8 S K) (x.call mC [t8] S fun v9 S=>
 x.call gZ [t6,v9,t1] S fun v10 S=>
 aS v10 S K)
theorem oL (x:VE) (m0:Nat) (t1 t5 t6 t8 t10:V) (S:Hp) (K:KV):gW x (m0+1) t1 t5 t6 t8 t10 S K=kB x m0 t1 t5 t6 t8 t10 S K:=by kernel_rfl
noncomputable def mE (x:VE) (m:Nat) (t0 t3 t4:V) (S:Hp) (K:KV):Prop:=kH PP bM qY x [.r,.r,.l,.r,.d] m [] [t0,t3,t4] S K
noncomputable def jL (x:VE) (m:Nat) (m0:Nat) (t0 t3 t4 t5:V) (S:Hp) (K:KV):Prop:=kH PP bM qY x [.r,.r,.l,.r,.d,.d,.r,.l,.d,.r,.r,.d] m [m0] [t0,t3,t4,t5] S K
noncomputable def NE (x:VE) (a0:V) (S:Hp) (K:KV):Prop:=
 mE x x.most a0 (.int .i64 (.ofNat 0)) (.int .i64 (.ofNat 0)) S K
theorem Cc (x:VE) (a0:V) (S:Hp) (K:KV):nP PP bM qY x [a0] S K=NE x a0 S K:=by kernel_rfl
noncomputable def rJ (x:VE) (m0:Nat) (t0 t3 t4:V) (S:Hp) (K:KV):Prop:=
 dX S fun S=>
 cY t0 fun v0=>
 aF PP .lss 3 t4 v0 fun v1=>
 aC x.most (aB true v1 (fun k=>k t3 S) S fun v2 S=>
 aC x.most (aB true v1 (fun k=>aF PP .lss 3 v2 (.int .i64 (.ofNat 6000)) fun v3=>
 k v3 S) S fun v4 S=>
 aC x.most (aL v1 v4 (.bool false) fun v5=>
 fC v5 (aF PP .add 3 t3 (.int .i64 (.ofNat 40)) fun v6=>
 fQ 15 t0 t4 fun v7=>
 aD 2 v7 fun v8=>
 aD 9 v8 fun v9=>
 aE v9 S fun v10 S=>
 xN v10 fun v11=>
 aF PP .add 3 v6 v11 fun v12=>
 fQ 15 t0 t4 fun v13=>
 aD 13 v13 fun v14=>
 aE v14 S fun v15 S=>
 xN v15 fun v16=>
 aF PP .add 3 v12 v16 fun v17=>
 jL x x.most m0 t0 v17 t4 (.int .i64 (.ofNat 0)) S K) (aF PP .geq 3 t3 (.int .i64 (.ofNat 6000)) fun v18=>
 aS v18 S K))))
theorem xR (x:VE) (m0:Nat) (t0 t3 t4:V) (S:Hp) (K:KV):mE x (m0+1) t0 t3 t4 S K=rJ x m0 t0 t3 t4 S K:=by kernel_rfl
noncomputable def mF (x:VE) (m1:Nat) (m0:Nat) (t0 t3 t4 t5:V) (S:Hp) (K:KV):Prop:=
 dX S fun S=>
 fQ 15 t0 t4 fun v0=>
 aD 14 v0 fun v1=>
 aE v1 S fun v2 S=>
 cY v2 fun v3=>
 aF PP .lss 3 t5 v3 fun v4=>
 aC x.most (aB true v4 (fun k=>k t3 S) S fun v5 S=>
 aC x.most (aB true v4 (fun k=>aF PP .lss 3 v5 (.int .i64 (.ofNat 6000)) fun v6=>
 k v6 S) S fun v7 S=>
 aC x.most (aL v4 v7 (.bool false) fun v8=>
 fC v8 (aF PP .add 3 t3 (.int .i64 (.ofNat 1)) fun v9=>
 fQ 15 t0 t4 fun v10=>
 aD 14 v10 fun v11=>
 aE v11 S fun v12 S=>
 fQ 1 v12 t5 fun v13=>
 aE v13 S fun v14 S=>
 xN v14 fun v15=>
 aF PP .add 3 v9 v15 fun v16=>
 aF PP .add 3 t5 (.int .i64 (.ofNat 1)) fun v17=>
 jL x m1 m0 t0 v16 t4 v17 S K) (aF PP .add 3 t4 (.int .i64 (.ofNat 1)) fun v18=>
 mE x m0 t0 t3 v18 S K))))
theorem qO (x:VE) (m1:Nat) (m0:Nat) (t0 t3 t4 t5:V) (S:Hp) (K:KV):jL x (m1+1) m0 t0 t3 t4 t5 S K=mF x m1 m0 t0 t3 t4 t5 S K:=by kernel_rfl
noncomputable def oG (x:VE) (m:Nat) (t1 t2 t3 t4:V) (S:Hp) (K:KV):Prop:=kH PP bM rV x [.r,.r,.l,.r,.d] m [] [t1,t2,t3,t4] S K
noncomputable def JU (x:VE) (a0:V) (S:Hp) (K:KV):Prop:=
 nW 24 a0 S fun v0 S=>
 fE [(.int .i64 (.ofNat 0)),(.int .i64 (.ofNat 0)),(.int .i64 (.ofNat 0)),(.int .i64 (.ofNat 0)),(.int .i64 (.ofNat 0)),(.int .i64 (.ofNat 0)),(.int .i64 (.ofNat 0)),(.string ⟨⟨[]⟩⟩),(.string ⟨⟨[]⟩⟩),(.int .i64 (.ofNat 0)),(.int .i64 (.ofNat 0)),(.bool false),(.bool false),(.string ⟨⟨[]⟩⟩),(.slice none 0 0)] 29 S fun v1 S=>
 aD 0 v0 fun v2=>
 aE v2 S fun v3 S=>
 aD 1 v0 fun v4=>
 aE v4 S fun v5 S=>
 aD 2 v0 fun v6=>
 aE v6 S fun v7 S=>
 aD 3 v0 fun v8=>
 aE v8 S fun v9 S=>
 aD 4 v0 fun v10=>
 aE v10 S fun v11 S=>
 aD 5 v0 fun v12=>
 aE v12 S fun v13 S=>
 aD 6 v0 fun v14=>
 aE v14 S fun v15 S=>
 aD 7 v0 fun v16=>
 aE v16 S fun v17 S=>
 aD 8 v0 fun v18=>
 aE v18 S fun v19 S=>
 aD 9 v0 fun v20=>
 aE v20 S fun v21 S=>
 aD 10 v0 fun v22=>
 aE v22 S fun v23 S=>
 aD 11 v0 fun v24=>
 aE v24 S fun v25 S=>
 aD 12 v0 fun v26=>
 aE v26 S fun v27 S=>
 aD 13 v0 fun v28=>
 aE v28 S fun v29 S=>
 gP [(.int .i64 (.ofNat 0)),(.int .i64 (.ofNat 0)),(.int .i64 (.ofNat 0)),(.int .i64 (.ofNat 0)),(.int .i64 (.ofNat 0)),(.int .i64 (.ofNat 0)),(.int .i64 (.ofNat 0)),(.string ⟨⟨[]⟩⟩),(.string ⟨⟨[]⟩⟩),(.int .i64 (.ofNat 0)),(.int .i64 (.ofNat 0)),(.bool false),(.bool false),(.string ⟨⟨[]⟩⟩),(.slice none 0 0)] [(0,1,v3),(1,1,v5),(2,1,v7),(3,1,v9),(4,1,v11),(5,1,v13),(6,1,v15),(7,1,v17),(8,1,v19),(9,1,v21),(10,1,v23),(11,1,v25),(12,1,v27),(13,1,v29)] fun v30=>
 fE [(.int .i64 (.ofNat 0)),(.int .i64 (.ofNat 0)),(.int .i64 (.ofNat 0)),(.int .i64 (.ofNat 0)),(.int .i64 (.ofNat 0)),(.int .i64 (.ofNat 0)),(.int .i64 (.ofNat 0)),(.string ⟨⟨[]⟩⟩),(.string ⟨⟨[]⟩⟩),(.int .i64 (.ofNat 0)),(.int .i64 (.ofNat 0)),(.bool false),(.bool false),(.string ⟨⟨[]⟩⟩),(.slice none 0 0)] 29 S fun v31 S=>
 jK 15 v31 v30 S fun S=>
 oG x x.most v0 v1 v31 (.int .i64 (.ofNat 0)) S K
theorem XF (x:VE) (a0:V) (S:Hp) (K:KV):nP PP bM rV x [a0] S K=JU x a0 S K:=by kernel_rfl
noncomputable def qP (x:VE) (m0:Nat) (t1 t2 t3 t4:V) (S:Hp) (K:KV):Prop:=
 dX S fun S=>
 aD 14 t1 fun v0=>
 aE v0 S fun v1 S=>
 cY v1 fun v2=>
 aF PP .lss 3 t4 v2 fun v3=>
 fC v3 (aD 14 t3 fun v4=>
 aE v4 S fun v5 S=>
 aD 14 t1 fun v6=>
 aE v6 S fun v7 S=>
 fQ 5 v7 t4 fun v8=>
 dK 5 v8 S fun v9 S=>
 dK 5 v8 S fun v10 _=>
 aY v10 v9 (aE v6 S fun v11 _=>
 aY v11 v7 (aE v4 S fun v12 _=>
 aY v12 v5 ((dP 39 1 [(.int .i64 (.ofNat 0)),(.int .i64 (.ofNat 0)),(.int .u8 (.ofNat 0)),(.int .i64 (.ofNat 0)),(.string ⟨⟨[]⟩⟩)] [(0,5,v9)] S fun v13 S=>
 True)/\(dP 39 1 [(.int .i64 (.ofNat 0)),(.int .i64 (.ofNat 0)),(.int .u8 (.ofNat 0)),(.int .i64 (.ofNat 0)),(.string ⟨⟨[]⟩⟩)] [(0,5,v9)] S fun v14 S=>
 oP 39 5 48 v5 v14 S fun v15 S=>
 aE v6 S fun v16 _=>
 aY v16 v7 (aD 14 t3 fun v17=>
 jK 1 v17 v15 S fun S=>
 aF PP .add 3 t4 (.int .i64 (.ofNat 1)) fun v18=>
 oG x m0 t1 t2 t3 v18 S K)))))) (dK 15 t3 S fun v19 S=>
 jK 15 t2 v19 S fun S=>
 dK 15 t2 S fun v20 _=>
 aS v20 S K)
theorem wM (x:VE) (m0:Nat) (t1 t2 t3 t4:V) (S:Hp) (K:KV):oG x (m0+1) t1 t2 t3 t4 S K=qP x m0 t1 t2 t3 t4 S K:=by kernel_rfl
noncomputable def mG (x:VE) (m:Nat) (t0 t1 t2 t7:V) (S:Hp) (K:KV):Prop:=kH PP bM gZ x [.r,.l,.r,.d] m [] [t0,t1,t2,t7] S K
noncomputable def eG (x:VE) (m0:Nat) (t0 t1 t2 t7 t10:V) (S:Hp) (K:KV):Prop:=xO PP bM gZ x [.r,.l,.r,.d,.d,.r,.l,.d,.r,.r,.r,.r] [m0] [t0,t1,t2,t7,t10] S K
noncomputable def fL (x:VE) (m:Nat) (m0:Nat) (t0 t1 t2 t7 t13 t14:V) (S:Hp) (K:KV):Prop:=kH PP bM gZ x [.r,.l,.r,.d,.d,.r,.l,.d,.r,.r,.r,.r,.r,.r,.r,.l,.r,.r,.d] m [m0] [t0,t1,t2,t7,t13,t14] S K
noncomputable def jS (x:VE) (m0:Nat) (t0 t1 t2 t7:V) (S:Hp) (K:KV):Prop:=xO PP bM gZ x [.r,.l,.r,.d,.d,.r,.r] [m0] [t0,t1,t2,t7] S K
noncomputable def JV (x:VE) (a0 a1 a2:V) (S:Hp) (K:KV):Prop:=
 mG x x.most a0 a1 a2 (.int .i64 (.ofNat 0)) S K
theorem XG (x:VE) (a0 a1 a2:V) (S:Hp) (K:KV):nP PP bM gZ x [a0,a1,a2] S K=JV x a0 a1 a2 S K:=by kernel_rfl
noncomputable def rK (x:VE) (m0:Nat) (t0 t1 t2 t7:V) (S:Hp) (K:KV):Prop:=
 dX S fun S=>
 cY t2 fun v0=>
 aF PP .lss 3 t7 v0 fun v1=>
 fC v1 (fQ 15 t2 t7 fun v2=>
 dK 15 v2 S fun v3 S=>
 fE [(.int .u8 (.ofNat 0)),(.int .i64 (.ofNat 0)),(.int .u8 (.ofNat 0)),(.int .i64 (.ofNat 0)),(.int .i64 (.ofNat 0)),(.int .i64 (.ofNat 0)),(.int .i64 (.ofNat 0)),(.int .i64 (.ofNat 0)),(.int .i64 (.ofNat 0)),(.int .i64 (.ofNat 0)),(.int .i64 (.ofNat 0)),(.string ⟨⟨[]⟩⟩),(.slice none 0 0),(.string ⟨⟨[]⟩⟩),(.slice none 0 0)] 48 S fun v4 S=>
 jK 15 v4 v3 S fun S=>
 dP 9 0 [(.string ⟨⟨[]⟩⟩)] [] S fun v5 S=>
 aD 14 v4 fun v6=>
 aE v6 S fun v7 S=>
 oP 9 1 16 v5 v7 S fun v8 S=>
 aD 0 v4 fun v9=>
 aE v9 S fun v10 S=>
 aF PP .eql 5 v10 (.int .u8 (.ofNat 0)) fun v11=>
 fC v11 (aD 1 v4 fun v12=>
 aE v12 S fun v13 S=>
 aD 2 v4 fun v14=>
 dK 11 v14 S fun v15 S=>
 aD 1 v4 fun v16=>
 aE v16 S fun v17 S=>
 aD 2 v4 fun v18=>
 dK 11 v18 S fun v19 S=>
 x.call oF [t0,v13,v15] S fun v20 S=>
 dK 11 v18 S fun v21 _=>
 aY v21 v19 (aE v16 S fun v22 _=>
 aY v22 v17 (x.call qG [t1,v17,v19] S fun v23 S=>
 aF PP .eql 4 v20 v23 fun v24=>
 eG x m0 t0 t1 t2 t7 v24 S K))) (aF PP .eql 5 v10 (.int .u8 (.ofNat 1)) fun v25=>
 fC v25 (aD 13 v4 fun v26=>
 aE v26 S fun v27 S=>
 aD 13 v4 fun v28=>
 aE v28 S fun v29 S=>
 aD 14 v4 fun v30=>
 aE v30 S fun v31 S=>
 x.call jY [t0,v27,v8] S fun v32 S=>
 aE v30 S fun v33 _=>
 aY v33 v31 (aE v28 S fun v34 _=>
 aY v34 v29 (x.call gM [t1,v29,v31] S fun v35 S=>
 x.call qZ [v32,v35] S fun v36 S=>
 eG x m0 t0 t1 t2 t7 v36 S K))) (aD 13 v4 fun v37=>
 aE v37 S fun v38 S=>
 aD 13 v4 fun v39=>
 aE v39 S fun v40 S=>
 aD 14 v4 fun v41=>
 aE v41 S fun v42 S=>
 x.call iK [t0,v38,v8] S fun v43 S=>
 aE v41 S fun v44 _=>
 aY v44 v42 (aE v39 S fun v45 _=>
 aY v45 v40 (x.call jZ [t1,v40,v42] S fun v46 S=>
 x.call qZ [v43,v46] S fun v47 S=>
 eG x m0 t0 t1 t2 t7 v47 S K))))) (aS (.bool true) S K)
theorem xS (x:VE) (m0:Nat) (t0 t1 t2 t7:V) (S:Hp) (K:KV):mG x (m0+1) t0 t1 t2 t7 S K=rK x m0 t0 t1 t2 t7 S K:=by kernel_rfl
noncomputable def lM (x:VE) (m0:Nat) (t0 t1 t2 t7 t10:V) (S:Hp) (K:KV):Prop:=
 dX S fun S=>
 x.call nJ [t0] S fun v0 S=>
 lU 0 v0 fun v1=>
 lU 1 v0 fun v2=>
 GU .not t10 fun v3=>
 aC x.most (aB false v3 (fun k=>k v1 S) S fun v4 S=>
 aC x.most (aB false v3 (fun k=>k t1 S) S fun v5 S=>
 aC x.most (aB false v3 (fun k=>aQ PP v5 fun v6=>
 k v6 S) S fun v7 S=>
 aC x.most (aB false v3 (fun k=>aD 13 v7 fun v8=>
 k v8 S) S fun v9 S=>
 aC x.most (aB false v3 (fun k=>aE v9 S fun v10 S=>
 k v10 S) S fun v11 S=>
 aC x.most (aB false v3 (fun k=>aF PP .neq 9 v4 v11 fun v12=>
 k v12 S) S fun v13 S=>
 aC x.most (aL v3 (.bool true) v13 fun v14=>
 aC x.most (aB false v14 (fun k=>k v2 S) S fun v15 S=>
 aC x.most (aB false v14 (fun k=>k t1 S) S fun v16 S=>
 aC x.most (aB false v14 (fun k=>aQ PP v16 fun v17=>
 k v17 S) S fun v18 S=>
 aC x.most (aB false v14 (fun k=>aD 13 v18 fun v19=>
 k v19 S) S fun v20 S=>
 aC x.most (aB false v14 (fun k=>aE v20 S fun v21 S=>
 k v21 S) S fun v22 S=>
 aC x.most (aB false v14 (fun k=>aF PP .neq 9 v22 (.str []) fun v23=>
 k v23 S) S fun v24 S=>
 aC x.most (aB false v14 (fun k=>aF PP .neq 4 v15 v24 fun v25=>
 k v25 S) S fun v26 S=>
 aC x.most (aL v14 (.bool true) v26 fun v27=>
 aC x.most (aB false v27 (fun k=>k t0 S) S fun v28 S=>
 aC x.most (aB false v27 (fun k=>k t1 S) S fun v29 S=>
 aC x.most (aB false v27 (fun k=>x.call jR [v28] S fun v30 S=>
 k v30 S) S fun v31 S=>
 aC x.most (bN false v14 v22 (fun k=>aE v20 S fun v32 _=>
 aY v32 v22 k) (aC x.most (bN false v3 v11 (fun k=>aE v9 S fun v33 _=>
 aY v33 v11 k) (aC x.most (aB false v27 (fun k=>x.call eB [v29] S fun v34 S=>
 k v34 S) S fun v35 S=>
 aC x.most (bN false v14 v22 (fun k=>aE v20 S fun v36 _=>
 aY v36 v22 k) (aC x.most (bN false v3 v11 (fun k=>aE v9 S fun v37 _=>
 aY v37 v11 k) (aC x.most (aB false v27 (fun k=>x.call pN [v31,v35] S fun v38 S=>
 k v38 S) S fun v39 S=>
 aC x.most (bN false v14 v22 (fun k=>aE v20 S fun v40 _=>
 aY v40 v22 k) (aC x.most (bN false v3 v11 (fun k=>aE v9 S fun v41 _=>
 aY v41 v11 k) (aC x.most (aB false v27 (fun k=>GU .not v39 fun v42=>
 k v42 S) S fun v43 S=>
 aC x.most (aL v27 (.bool true) v43 fun v44=>
 aC x.most (aB false v44 (fun k=>k t0 S) S fun v45 S=>
 aC x.most (aB false v44 (fun k=>k t1 S) S fun v46 S=>
 aC x.most (aB false v44 (fun k=>aQ PP v46 fun v47=>
 k v47 S) S fun v48 S=>
 aC x.most (aB false v44 (fun k=>dK 15 v48 S fun v49 S=>
 k v49 S) S fun v50 S=>
 aC x.most (aB false v44 (fun k=>x.call gX [v45] S fun v51 S=>
 k v51 S) S fun v52 S=>
 aC x.most (bN false v44 v50 (fun k=>dK 15 v48 S fun v53 _=>
 aY v53 v50 k) (aC x.most (bN false v14 v22 (fun k=>aE v20 S fun v54 _=>
 aY v54 v22 k) (aC x.most (bN false v3 v11 (fun k=>aE v9 S fun v55 _=>
 aY v55 v11 k) (aC x.most (aB false v44 (fun k=>x.call yS [v52] S fun v56 S=>
 k v56 S) S fun v57 S=>
 aC x.most (bN false v44 v50 (fun k=>dK 15 v48 S fun v58 _=>
 aY v58 v50 k) (aC x.most (bN false v14 v22 (fun k=>aE v20 S fun v59 _=>
 aY v59 v22 k) (aC x.most (bN false v3 v11 (fun k=>aE v9 S fun v60 _=>
 aY v60 v11 k) (aC x.most (aB false v44 (fun k=>x.call yR [v57,v50] S fun v61 S=>
 k v61 S) S fun v62 S=>
 aC x.most (bN false v14 v22 (fun k=>aE v20 S fun v63 _=>
 aY v63 v22 k) (aC x.most (bN false v3 v11 (fun k=>aE v9 S fun v64 _=>
 aY v64 v11 k) (aC x.most (aB false v44 (fun k=>GU .not v62 fun v65=>
 k v65 S) S fun v66 S=>
 aC x.most (aL v44 (.bool true) v66 fun v67=>
 fC v67 (aS (.bool false) S K) (aF PP .rem 3 t7 (.int .i64 (.ofNat 4)) fun v68=>
 aF PP .eql 3 v68 (.int .i64 (.ofNat 3)) fun v69=>
 fC v69 (x.call gX [t0] S fun v70 S=>
 fE [(.int .i64 (.ofNat 0)),(.int .i64 (.ofNat 0)),(.int .i64 (.ofNat 0)),(.int .i64 (.ofNat 0)),(.int .i64 (.ofNat 0)),(.int .i64 (.ofNat 0)),(.int .i64 (.ofNat 0)),(.string ⟨⟨[]⟩⟩),(.string ⟨⟨[]⟩⟩),(.int .i64 (.ofNat 0)),(.int .i64 (.ofNat 0)),(.bool false),(.bool false),(.string ⟨⟨[]⟩⟩),(.slice none 0 0)] 29 S fun v71 S=>
 jK 15 v71 v70 S fun S=>
 fL x x.most m0 t0 t1 t2 t7 v71 (.int .i64 (.ofNat 0)) S K) (jS x m0 t0 t1 t2 t7 S K)))))))))))))))))))))))))))))))))))))))))))))))))))))))))))))
theorem xF (x:VE) (m0:Nat) (t0 t1 t2 t7 t10:V) (S:Hp) (K:KV):xP PP bM gZ x [.r,.l,.r,.d,.d,.r,.l,.d,.r,.r,.r,.r] [m0] [t0,t1,t2,t7,t10] S K=lM x m0 t0 t1 t2 t7 t10 S K:=by kernel_rfl
theorem yT (x:VE) (hm:x.most≠0) (m0:Nat) (t0 t1 t2 t7 t10:V) (S:Hp) (K:KV):eG x m0 t0 t1 t2 t7 t10 S K=lM x m0 t0 t1 t2 t7 t10 S K:=(nI (hm:=hm) ..).trans (xF x m0 t0 t1 t2 t7 t10 S K)
noncomputable def iG (x:VE) (m1:Nat) (m0:Nat) (t0 t1 t2 t7 t13 t14:V) (S:Hp) (K:KV):Prop:=
 dX S fun S=>
 aD 14 t13 fun v0=>
 aE v0 S fun v1 S=>
 cY v1 fun v2=>
 aF PP .lss 3 t14 v2 fun v3=>
 fC v3 (aD 14 t13 fun v4=>
 aE v4 S fun v5 S=>
 fQ 5 v5 t14 fun v6=>
 aD 4 v6 fun v7=>
 jK 1 v7 (.str [115,112,111,105,108,116]) S fun S=>
 aF PP .add 3 t14 (.int .i64 (.ofNat 1)) fun v8=>
 fL x m1 m0 t0 t1 t2 t7 t13 v8 S K) (jS x m0 t0 t1 t2 t7 S K)
theorem mH (x:VE) (m1:Nat) (m0:Nat) (t0 t1 t2 t7 t13 t14:V) (S:Hp) (K:KV):fL x (m1+1) m0 t0 t1 t2 t7 t13 t14 S K=iG x m1 m0 t0 t1 t2 t7 t13 t14 S K:=by kernel_rfl
noncomputable def pC (x:VE) (m0:Nat) (t0 t1 t2 t7:V) (S:Hp) (K:KV):Prop:=
 dX S fun S=>
 aF PP .add 3 t7 (.int .i64 (.ofNat 1)) fun v0=>
 mG x m0 t0 t1 t2 v0 S K
theorem CR (x:VE) (m0:Nat) (t0 t1 t2 t7:V) (S:Hp) (K:KV):xP PP bM gZ x [.r,.l,.r,.d,.d,.r,.r] [m0] [t0,t1,t2,t7] S K=pC x m0 t0 t1 t2 t7 S K:=by kernel_rfl
theorem EQ (x:VE) (hm:x.most≠0) (m0:Nat) (t0 t1 t2 t7:V) (S:Hp) (K:KV):jS x m0 t0 t1 t2 t7 S K=pC x m0 t0 t1 t2 t7 S K:=(nI (hm:=hm) ..).trans (CR x m0 t0 t1 t2 t7 S K)
noncomputable def NF (x:VE) (a0 a1 a2 a3:V) (S:Hp) (K:KV):Prop:=
 x.call tA [a1] S fun v0 S=>
 lU 0 v0 fun v1=>
 lU 1 v0 fun v2=>
 aF PP .neq 32 v2 (.int .i64 (.ofNat 0)) fun v3=>
 aC x.most (aB false v3 (fun k=>k a0 S) S fun v4 S=>
 aC x.most (aB false v3 (fun k=>aF PP .lss 3 v4 (.int .i64 (.ofNat 1)) fun v5=>
 k v5 S) S fun v6 S=>
 aC x.most (aL v3 (.bool true) v6 fun v7=>
 aC x.most (aB false v7 (fun k=>k a0 S) S fun v8 S=>
 aC x.most (aB false v7 (fun k=>aF PP .gtr 3 v8 (.int .i64 (.ofNat 64)) fun v9=>
 k v9 S) S fun v10 S=>
 aC x.most (aL v7 (.bool true) v10 fun v11=>
 aC x.most (aB false v11 (fun k=>k a2 S) S fun v12 S=>
 aC x.most (aB false v11 (fun k=>aF PP .lss 3 v12 (.int .i64 (.ofNat 0)) fun v13=>
 k v13 S) S fun v14 S=>
 aC x.most (aL v11 (.bool true) v14 fun v15=>
 aC x.most (aB false v15 (fun k=>k a2 S) S fun v16 S=>
 aC x.most (aB false v15 (fun k=>k a1 S) S fun v17 S=>
 aC x.most (aB false v15 (fun k=>aF PP .gtr 3 v16 v17 fun v18=>
 k v18 S) S fun v19 S=>
 aC x.most (aL v15 (.bool true) v19 fun v20=>
 aC x.most (aB false v20 (fun k=>k a1 S) S fun v21 S=>
 aC x.most (aB false v20 (fun k=>k a2 S) S fun v22 S=>
 aC x.most (aB false v20 (fun k=>aF PP .mul 3 (.int .i64 (.ofNat 3)) v22 fun v23=>
 k v23 S) S fun v24 S=>
 aC x.most (aB false v20 (fun k=>aF PP .add 3 v24 (.int .i64 (.ofNat 1)) fun v25=>
 k v25 S) S fun v26 S=>
 aC x.most (aB false v20 (fun k=>aF PP .lss 3 v21 v26 fun v27=>
 k v27 S) S fun v28 S=>
 aC x.most (aL v20 (.bool true) v28 fun v29=>
 aC x.most (aB false v29 (fun k=>k a3 S) S fun v30 S=>
 aC x.most (aB false v29 (fun k=>aF PP .lss 3 v30 (.int .i64 (.ofNat 0)) fun v31=>
 k v31 S) S fun v32 S=>
 aC x.most (aL v29 (.bool true) v32 fun v33=>
 aC x.most (aB false v33 (fun k=>k a3 S) S fun v34 S=>
 aC x.most (aB false v33 (fun k=>k a1 S) S fun v35 S=>
 aC x.most (aB false v33 (fun k=>aF PP .gtr 3 v34 v35 fun v36=>
 k v36 S) S fun v37 S=>
 aC x.most (aL v33 (.bool true) v37 fun v38=>
 fC v38 (aS (.tuple [.pW,(.int .i64 (.ofNat 1))]) S K) (gP [(.int .i64 (.ofNat 0)),(.int .i64 (.ofNat 0)),(.int .i64 (.ofNat 0)),(.int .i64 (.ofNat 0)),(.int .i64 (.ofNat 0)),(.int .i64 (.ofNat 0)),(.int .i64 (.ofNat 0)),(.string ⟨⟨[]⟩⟩),(.string ⟨⟨[]⟩⟩),(.int .i64 (.ofNat 0)),(.int .i64 (.ofNat 0)),(.bool false),(.bool false),(.string ⟨⟨[]⟩⟩),(.slice none 0 0)] [(0,1,a0),(1,1,a1),(2,1,a2),(3,1,a3),(5,1,(.int .i64 (.ofNat 1))),(9,1,(.int .i64 (.negSucc 0))),(10,1,(.int .i64 (.negSucc 0)))] fun v39=>
 gP [(.int .i64 (.ofNat 0)),(.int .i64 (.ofNat 0)),(.int .i64 (.ofNat 0)),(.int .i64 (.ofNat 0)),(.int .i64 (.ofNat 0)),(.int .i64 (.ofNat 0)),(.int .i64 (.ofNat 0)),(.string ⟨⟨[]⟩⟩),(.string ⟨⟨[]⟩⟩),(.int .i64 (.ofNat 0)),(.int .i64 (.ofNat 0)),(.bool false),(.bool false),(.string ⟨⟨[]⟩⟩),(.slice none 0 0),(.pointer none)] [(0,15,v39),(15,1,v1)] fun v40=>
 nW 55 v40 S fun v41 S=>
 aS (.tuple [v41,(.int .i64 (.ofNat 0))]) S K)))))))))))))))))))))))))))
theorem Cd (x:VE) (a0 a1 a2 a3:V) (S:Hp) (K:KV):nP PP bM tW x [a0,a1,a2,a3] S K=NF x a0 a1 a2 a3 S K:=by kernel_rfl
noncomputable def xU (x:VE) (a0 a1 a2:V) (S:Hp) (K:KV):Prop:=
 nW 45 a2 S fun v0 S=>
 aF PP .eql 31 a0 .pW fun v1=>
 aC x.most (aB false v1 (fun k=>aD 3 v0 fun v2=>
 k v2 S) S fun v3 S=>
 aC x.most (aB false v1 (fun k=>aE v3 S fun v4 S=>
 k v4 S) S fun v5 S=>
 aC x.most (aB false v1 (fun k=>k a0 S) S fun v6 S=>
 aC x.most (aB false v1 (fun k=>aQ PP v6 fun v7=>
 k v7 S) S fun v8 S=>
 aC x.most (aB false v1 (fun k=>aD 0 v8 fun v9=>
 k v9 S) S fun v10 S=>
 aC x.most (aB false v1 (fun k=>aD 0 v10 fun v11=>
 k v11 S) S fun v12 S=>
 aC x.most (aB false v1 (fun k=>aE v12 S fun v13 S=>
 k v13 S) S fun v14 S=>
 aC x.most (aB false v1 (fun k=>aF PP .neq 3 v5 v14 fun v15=>
 k v15 S) S fun v16 S=>
 aC x.most (aL v1 (.bool true) v16 fun v17=>
 aC x.most (aB false v17 (fun k=>aD 0 v0 fun v18=>
 k v18 S) S fun v19 S=>
 aC x.most (aB false v17 (fun k=>aE v19 S fun v20 S=>
 k v20 S) S fun v21 S=>
 aC x.most (aB false v17 (fun k=>aF PP .lss 5 v21 (.int .u8 (.ofNat 2)) fun v22=>
 k v22 S) S fun v23 S=>
 aC x.most (aL v17 (.bool true) v23 fun v24=>
 aC x.most (aB false v24 (fun k=>aD 0 v0 fun v25=>
 k v25 S) S fun v26 S=>
 aC x.most (aB false v24 (fun k=>aE v26 S fun v27 S=>
 k v27 S) S fun v28 S=>
 aC x.most (aB false v24 (fun k=>aF PP .gtr 5 v28 (.int .u8 (.ofNat 4)) fun v29=>
 k v29 S) S fun v30 S=>
 aC x.most (aL v24 (.bool true) v30 fun v31=>
 aC x.most (aB false v31 (fun k=>aD 4 v0 fun v32=>
 k v32 S) S fun v33 S=>
 aC x.most (aB false v31 (fun k=>aE v33 S fun v34 S=>
 k v34 S) S fun v35 S=>
 aC x.most (aB false v31 (fun k=>aF PP .geq 3 v35 (.int .i64 (.ofNat 100)) fun v36=>
 k v36 S) S fun v37 S=>
 aC x.most (aL v31 (.bool true) v37 fun v38=>
 fC v38 (aS (.bool false) S K) (aD 4 v0 fun v39=>
 aE v39 S fun v40 S=>
 aD 0 v0 fun v41=>
 aE v41 S fun v42 S=>
 aD 5 v0 fun v43=>
 aE v43 S fun v44 S=>
 aD 9 v0 fun v45=>
 aE v45 S fun v46 S=>
 gP [(.int .i64 (.ofNat 0)),(.int .i64 (.ofNat 0)),(.int .u8 (.ofNat 0)),(.int .i64 (.ofNat 0)),(.string ⟨⟨[]⟩⟩)] [(0,1,a1),(1,1,v40),(2,1,v42),(3,1,v44),(4,1,v46)] fun v47=>
 x.call cN [a0,v47] S fun v48 S=>
 aS v48 S K))))))))))))))))))))))
theorem IU (x:VE) (a0 a1 a2:V) (S:Hp) (K:KV):nP PP bM oF x [a0,a1,a2] S K=xU x a0 a1 a2 S K:=by kernel_rfl
noncomputable def AC (x:VE) (a0 a1 a2:V) (S:Hp) (K:KV):Prop:=
 aF PP .eql 31 a0 .pW fun v0=>
 fC v0 (aS .nil S K) (gP [(.string ⟨⟨[]⟩⟩),(.slice none 0 0)] [(0,1,a1),(1,1,a2)] fun v1=>
 x.call eU [a0,v1] S fun v2 S=>
 aS v2 S K)
theorem KZ (x:VE) (a0 a1 a2:V) (S:Hp) (K:KV):nP PP bM jY x [a0,a1,a2] S K=AC x a0 a1 a2 S K:=by kernel_rfl
noncomputable def cM (x:VE) (t0 t1 t2 t7:V) (S:Hp) (K:KV):Prop:=xO PP bM iK x [.r,.r,.r,.r] [] [t0,t1,t2,t7] S K
noncomputable def wN (x:VE) (a0 a1 a2:V) (S:Hp) (K:KV):Prop:=
 aF PP .eql 31 a0 .pW fun v0=>
 fC v0 (aS .nil S K) (aQ PP a0 fun v1=>
 aD 0 v1 fun v2=>
 aD 3 v2 fun v3=>
 aE v3 S fun v4 S=>
 aF PP .neq 3 v4 (.int .i64 (.ofNat 0)) fun v5=>
 aC x.most (aB true v5 (fun k=>k a0 S) S fun v6 S=>
 aC x.most (aB true v5 (fun k=>aQ PP v6 fun v7=>
 k v7 S) S fun v8 S=>
 aC x.most (aB true v5 (fun k=>aD 0 v8 fun v9=>
 k v9 S) S fun v10 S=>
 aC x.most (aB true v5 (fun k=>aD 13 v10 fun v11=>
 k v11 S) S fun v12 S=>
 aC x.most (aB true v5 (fun k=>aE v12 S fun v13 S=>
 k v13 S) S fun v14 S=>
 aC x.most (aB true v5 (fun k=>aF PP .eql 9 v14 (.str []) fun v15=>
 k v15 S) S fun v16 S=>
 aC x.most (aL v5 v16 (.bool false) fun v17=>
 aC x.most (aB true v17 (fun k=>k a1 S) S fun v18 S=>
 aC x.most (aB true v17 (fun k=>aF PP .neq 9 v18 (.str []) fun v19=>
 k v19 S) S fun v20 S=>
 aC x.most (aB true v17 (fun k=>k v20 S) S fun v21 S=>
 aC x.most (aB false v21 (fun k=>k a0 S) S fun v22 S=>
 aC x.most (aB false v21 (fun k=>aQ PP v22 fun v23=>
 k v23 S) S fun v24 S=>
 aC x.most (aB false v21 (fun k=>aD 15 v24 fun v25=>
 k v25 S) S fun v26 S=>
 aC x.most (aB false v21 (fun k=>aE v26 S fun v27 S=>
 k v27 S) S fun v28 S=>
 aC x.most (aB false v21 (fun k=>x.call gH [v28] S fun v29 S=>
 k v29 S) S fun v30 S=>
 aC x.most (aB false v21 (fun k=>cY v30 fun v31=>
 k v31 S) S fun v32 S=>
 aC x.most (aB false v21 (fun k=>aF PP .gtr 3 v32 (.int .i64 (.ofNat 0)) fun v33=>
 k v33 S) S fun v34 S=>
 aC x.most (aB true v17 (fun k=>aC x.most (aL v21 (.bool true) v34 fun v35=>
 k v35 S)) S fun v36 S=>
 aC x.most (aL v17 v36 (.bool false) fun v37=>
 fC v37 (aQ PP a0 fun v38=>
 aD 0 v38 fun v39=>
 aD 6 v39 fun v40=>
 aE v40 S fun v41 S=>
 aF PP .add 3 v41 (.int .i64 (.ofNat 1)) fun v42=>
 Bf false v42 (.int .i64 (.ofNat 1099511627776)) fun v43=>
 aQ PP a0 fun v44=>
 aD 0 v44 fun v45=>
 aD 6 v45 fun v46=>
 jK 1 v46 v43 S fun S=>
 aQ PP a0 fun v47=>
 aD 0 v47 fun v48=>
 aD 6 v48 fun v49=>
 aE v49 S fun v50 S=>
 aQ PP a0 fun v51=>
 aD 0 v51 fun v52=>
 aD 4 v52 fun v53=>
 aE v53 S fun v54 S=>
 aF PP .mul 3 (.int .i64 (.ofNat 2)) v54 fun v55=>
 aF PP .add 3 (.int .i64 (.ofNat 4)) v55 fun v56=>
 aF PP .geq 3 v50 v56 fun v57=>
 fC v57 (x.call kI [a0] S fun v58 S=>
 cM x a0 a1 a2 v58 S K) (cM x a0 a1 a2 .nil S K)) (cM x a0 a1 a2 .nil S K)))))))))))))))))))))
theorem GW (x:VE) (a0 a1 a2:V) (S:Hp) (K:KV):nP PP bM iK x [a0,a1,a2] S K=wN x a0 a1 a2 S K:=by kernel_rfl
noncomputable def mI (x:VE) (t0 t1 t2 t7:V) (S:Hp) (K:KV):Prop:=
 dX S fun S=>
 x.call jY [t0,t1,t2] S fun v0 S=>
 oP 45 11 112 t7 v0 S fun v1 S=>
 aS v1 S K
theorem yU (x:VE) (t0 t1 t2 t7:V) (S:Hp) (K:KV):xP PP bM iK x [.r,.r,.r,.r] [] [t0,t1,t2,t7] S K=mI x t0 t1 t2 t7 S K:=by kernel_rfl
theorem AD (x:VE) (hm:x.most≠0) (t0 t1 t2 t7:V) (S:Hp) (K:KV):cM x t0 t1 t2 t7 S K=mI x t0 t1 t2 t7 S K:=(nI (hm:=hm) ..).trans (yU x t0 t1 t2 t7 S K)
noncomputable def pX (x:VE) (a0:V) (S:Hp) (K:KV):Prop:=
 fE [(.int .i64 (.ofNat 0)),(.int .i64 (.ofNat 0)),(.int .i64 (.ofNat 0)),(.int .i64 (.ofNat 0)),(.int .i64 (.ofNat 0)),(.int .i64 (.ofNat 0)),(.int .i64 (.ofNat 0)),(.string ⟨⟨[]⟩⟩),(.string ⟨⟨[]⟩⟩),(.int .i64 (.ofNat 0)),(.int .i64 (.ofNat 0)),(.bool false),(.bool false),(.string ⟨⟨[]⟩⟩),(.slice none 0 0)] 29 S fun v0 S=>
 aF PP .eql 31 a0 .pW fun v1=>
 fC v1 (gP [(.int .i64 (.ofNat 0)),(.int .i64 (.ofNat 0)),(.int .i64 (.ofNat 0)),(.int .i64 (.ofNat 0)),(.int .i64 (.ofNat 0)),(.int .i64 (.ofNat 0)),(.int .i64 (.ofNat 0)),(.string ⟨⟨[]⟩⟩),(.string ⟨⟨[]⟩⟩),(.int .i64 (.ofNat 0)),(.int .i64 (.ofNat 0)),(.bool false),(.bool false),(.string ⟨⟨[]⟩⟩),(.slice none 0 0)] [] fun v2=>
 jK 15 v0 v2 S fun S=>
 dK 15 v0 S fun v3 _=>
 aS v3 S K) (aQ PP a0 fun v4=>
 aD 0 v4 fun v5=>
 dK 15 v5 S fun v6 S=>
 fE [(.int .i64 (.ofNat 0)),(.int .i64 (.ofNat 0)),(.int .i64 (.ofNat 0)),(.int .i64 (.ofNat 0)),(.int .i64 (.ofNat 0)),(.int .i64 (.ofNat 0)),(.int .i64 (.ofNat 0)),(.string ⟨⟨[]⟩⟩),(.string ⟨⟨[]⟩⟩),(.int .i64 (.ofNat 0)),(.int .i64 (.ofNat 0)),(.bool false),(.bool false),(.string ⟨⟨[]⟩⟩),(.slice none 0 0)] 29 S fun v7 S=>
 jK 15 v7 v6 S fun S=>
 aQ PP a0 fun v8=>
 aD 15 v8 fun v9=>
 aE v9 S fun v10 S=>
 x.call dJ [v10] S fun v11 S=>
 aD 14 v7 fun v12=>
 jK 1 v12 v11 S fun S=>
 dK 15 v7 S fun v13 S=>
 jK 15 v0 v13 S fun S=>
 dK 15 v0 S fun v14 _=>
 aS v14 S K)
theorem uS (x:VE) (a0:V) (S:Hp) (K:KV):nP PP bM gX x [a0] S K=pX x a0 S K:=by kernel_rfl
noncomputable def nK (x:VE) (m:Nat) (t1 t4 t79 t80 t81:V) (S:Hp) (K:KV):Prop:=kH PP bM rW x [.r,.r,.r,.l,.r,.d] m [] [t1,t4,t79,t80,t81] S K
noncomputable def JW (x:VE) (a0:V) (S:Hp) (K:KV):Prop:=
 nW 29 a0 S fun v0 S=>
 aD 0 v0 fun v1=>
 aE v1 S fun v2 S=>
 aD 1 v0 fun v3=>
 aE v3 S fun v4 S=>
 aD 2 v0 fun v5=>
 aE v5 S fun v6 S=>
 aD 3 v0 fun v7=>
 aE v7 S fun v8 S=>
 x.call tW [v2,v4,v6,v8] S fun v9 S=>
 lU 0 v9 fun v10=>
 lU 1 v9 fun v11=>
 aF PP .neq 32 v11 (.int .i64 (.ofNat 0)) fun v12=>
 aC x.most (aB false v12 (fun k=>aD 4 v0 fun v13=>
 k v13 S) S fun v14 S=>
 aC x.most (aB false v12 (fun k=>aE v14 S fun v15 S=>
 k v15 S) S fun v16 S=>
 aC x.most (aB false v12 (fun k=>aF PP .lss 3 v16 (.int .i64 (.ofNat 0)) fun v17=>
 k v17 S) S fun v18 S=>
 aC x.most (aL v12 (.bool true) v18 fun v19=>
 aC x.most (aB false v19 (fun k=>aD 4 v0 fun v20=>
 k v20 S) S fun v21 S=>
 aC x.most (aB false v19 (fun k=>aE v21 S fun v22 S=>
 k v22 S) S fun v23 S=>
 aC x.most (aB false v19 (fun k=>aF PP .geq 3 v23 (.int .i64 (.ofNat 100)) fun v24=>
 k v24 S) S fun v25 S=>
 aC x.most (aL v19 (.bool true) v25 fun v26=>
 aC x.most (aB false v26 (fun k=>aD 5 v0 fun v27=>
 k v27 S) S fun v28 S=>
 aC x.most (aB false v26 (fun k=>aE v28 S fun v29 S=>
 k v29 S) S fun v30 S=>
 aC x.most (aB false v26 (fun k=>aF PP .lss 3 v30 (.int .i64 (.ofNat 1)) fun v31=>
 k v31 S) S fun v32 S=>
 aC x.most (aL v26 (.bool true) v32 fun v33=>
 aC x.most (aB false v33 (fun k=>aD 5 v0 fun v34=>
 k v34 S) S fun v35 S=>
 aC x.most (aB false v33 (fun k=>aE v35 S fun v36 S=>
 k v36 S) S fun v37 S=>
 aC x.most (aB false v33 (fun k=>aF PP .gtr 3 v37 (.int .i64 (.ofNat 3)) fun v38=>
 k v38 S) S fun v39 S=>
 aC x.most (aL v33 (.bool true) v39 fun v40=>
 aC x.most (aB false v40 (fun k=>aD 6 v0 fun v41=>
 k v41 S) S fun v42 S=>
 aC x.most (aB false v40 (fun k=>aE v42 S fun v43 S=>
 k v43 S) S fun v44 S=>
 aC x.most (aB false v40 (fun k=>aF PP .lss 3 v44 (.int .i64 (.ofNat 0)) fun v45=>
 k v45 S) S fun v46 S=>
 aC x.most (aL v40 (.bool true) v46 fun v47=>
 aC x.most (aB false v47 (fun k=>aD 6 v0 fun v48=>
 k v48 S) S fun v49 S=>
 aC x.most (aB false v47 (fun k=>aE v49 S fun v50 S=>
 k v50 S) S fun v51 S=>
 aC x.most (aB false v47 (fun k=>aF PP .gtr 3 v51 (.int .i64 (.ofNat 1099511627776)) fun v52=>
 k v52 S) S fun v53 S=>
 aC x.most (aL v47 (.bool true) v53 fun v54=>
 aC x.most (aB false v54 (fun k=>aD 7 v0 fun v55=>
 k v55 S) S fun v56 S=>
 aC x.most (aB false v54 (fun k=>aE v56 S fun v57 S=>
 k v57 S) S fun v58 S=>
 aC x.most (aB false v54 (fun k=>aD 9 v0 fun v59=>
 k v59 S) S fun v60 S=>
 aC x.most (aB false v54 (fun k=>aE v60 S fun v61 S=>
 k v61 S) S fun v62 S=>
 aC x.most (aB false v54 (fun k=>aD 4 v0 fun v63=>
 k v63 S) S fun v64 S=>
 aC x.most (aB false v54 (fun k=>aE v64 S fun v65 S=>
 k v65 S) S fun v66 S=>
 aC x.most (aB false v54 (fun k=>x.call oK [v58,v62,v66] S fun v67 S=>
 k v67 S) S fun v68 S=>
 aC x.most (aB false v54 (fun k=>GU .not v68 fun v69=>
 k v69 S) S fun v70 S=>
 aC x.most (aL v54 (.bool true) v70 fun v71=>
 aC x.most (aB false v71 (fun k=>aD 8 v0 fun v72=>
 k v72 S) S fun v73 S=>
 aC x.most (aB false v71 (fun k=>aE v73 S fun v74 S=>
 k v74 S) S fun v75 S=>
 aC x.most (aB false v71 (fun k=>aD 10 v0 fun v76=>
 k v76 S) S fun v77 S=>
 aC x.most (aB false v71 (fun k=>aE v77 S fun v78 S=>
 k v78 S) S fun v79 S=>
 aC x.most (aB false v71 (fun k=>aD 4 v0 fun v80=>
 k v80 S) S fun v81 S=>
 aC x.most (aB false v71 (fun k=>aE v81 S fun v82 S=>
 k v82 S) S fun v83 S=>
 aC x.most (aB false v71 (fun k=>x.call oK [v75,v79,v83] S fun v84 S=>
 k v84 S) S fun v85 S=>
 aC x.most (aB false v71 (fun k=>GU .not v85 fun v86=>
 k v86 S) S fun v87 S=>
 aC x.most (aL v71 (.bool true) v87 fun Ce=>
 aC x.most (aB false Ce (fun k=>aD 13 v0 fun v89=>
 k v89 S) S fun Km S=>
 aC x.most (aB false Ce (fun k=>aE Km S fun v91 S=>
 k v91 S) S fun Ri S=>
 aC x.most (aB false Ce (fun k=>xN Ri fun v93=>
 k v93 S) S fun RT S=>
 aC x.most (aB false Ce (fun k=>aF PP .gtr 3 RT (.int .i64 (.ofNat 2048)) fun Ha=>
 k Ha S) S fun Hb S=>
 aC x.most (aL Ce (.bool true) Hb fun xG=>
 fC xG (aS (.tuple [.pW,(.int .i64 (.ofNat 4))]) S K) (aD 14 v0 fun Ko=>
 aE Ko S fun Nq S=>
 cY Nq fun PQ=>
 nK x x.most v0 v10 Nq PQ (.int .i64 (.ofNat 0)) S K))))))))))))))))))))))))))))))))))))))))))))))))
theorem XH (x:VE) (a0:V) (S:Hp) (K:KV):nP PP bM rW x [a0] S K=JW x a0 S K:=by kernel_rfl
noncomputable def pY (x:VE) (m0:Nat) (t1 t4 t79 t80 t81:V) (S:Hp) (K:KV):Prop:=
 dX S fun S=>
 aF PP .lss 3 t81 t80 fun v0=>
 fC v0 (fQ 5 t79 t81 fun v1=>
 dK 5 v1 S fun v2 S=>
 fE [(.int .i64 (.ofNat 0)),(.int .i64 (.ofNat 0)),(.int .u8 (.ofNat 0)),(.int .i64 (.ofNat 0)),(.string ⟨⟨[]⟩⟩)] 39 S fun v3 S=>
 jK 5 v3 v2 S fun S=>
 aD 1 v3 fun v4=>
 aE v4 S fun v5 S=>
 aF PP .geq 3 v5 (.int .i64 (.ofNat 100)) fun v6=>
 aC x.most (aB false v6 (fun k=>k t4 S) S fun v7 S=>
 aC x.most (aB false v6 (fun k=>dK 5 v3 S fun v8 S=>
 k v8 S) S fun v9 S=>
 aC x.most (aB false v6 (fun k=>x.call cN [v7,v9] S fun v10 S=>
 k v10 S) S fun v11 S=>
 aC x.most (aB false v6 (fun k=>GU .not v11 fun v12=>
 k v12 S) S fun v13 S=>
 aC x.most (aL v6 (.bool true) v13 fun v14=>
 fC v14 (aS (.tuple [.pW,(.int .i64 (.ofNat 4))]) S K) (aF PP .add 3 t81 (.int .i64 (.ofNat 1)) fun v15=>
 nK x m0 t1 t4 t79 t80 v15 S K))))))) (aD 14 t1 fun v16=>
 jK 1 v16 .nil S fun S=>
 dK 15 t1 S fun v17 S=>
 aQ PP t4 fun v18=>
 aD 0 v18 fun v19=>
 jK 15 v19 v17 S fun S=>
 aS (.tuple [t4,(.int .i64 (.ofNat 0))]) S K)
theorem uT (x:VE) (m0:Nat) (t1 t4 t79 t80 t81:V) (S:Hp) (K:KV):nK x (m0+1) t1 t4 t79 t80 t81 S K=pY x m0 t1 t4 t79 t80 t81 S K:=by kernel_rfl
noncomputable def NG (x:VE) (a0 a1:V) (S:Hp) (K:KV):Prop:=
 nW 24 a0 S fun v0 S=>
 nW 24 a1 S fun v1 S=>
 aD 0 v0 fun v2=>
 aE v2 S fun v3 S=>
 aD 0 v1 fun v4=>
 aE v4 S fun v5 S=>
 aF PP .eql 3 v3 v5 fun v6=>
 aC x.most (aB true v6 (fun k=>aD 1 v0 fun v7=>
 k v7 S) S fun v8 S=>
 aC x.most (aB true v6 (fun k=>aE v8 S fun v9 S=>
 k v9 S) S fun v10 S=>
 aC x.most (aB true v6 (fun k=>aD 1 v1 fun v11=>
 k v11 S) S fun v12 S=>
 aC x.most (aB true v6 (fun k=>aE v12 S fun v13 S=>
 k v13 S) S fun v14 S=>
 aC x.most (aB true v6 (fun k=>aF PP .eql 3 v10 v14 fun v15=>
 k v15 S) S fun v16 S=>
 aC x.most (aL v6 v16 (.bool false) fun v17=>
 aC x.most (aB true v17 (fun k=>aD 2 v0 fun v18=>
 k v18 S) S fun v19 S=>
 aC x.most (aB true v17 (fun k=>aE v19 S fun v20 S=>
 k v20 S) S fun v21 S=>
 aC x.most (aB true v17 (fun k=>aD 2 v1 fun v22=>
 k v22 S) S fun v23 S=>
 aC x.most (aB true v17 (fun k=>aE v23 S fun v24 S=>
 k v24 S) S fun v25 S=>
 aC x.most (aB true v17 (fun k=>aF PP .eql 3 v21 v25 fun v26=>
 k v26 S) S fun v27 S=>
 aC x.most (aL v17 v27 (.bool false) fun v28=>
 aC x.most (aB true v28 (fun k=>aD 3 v0 fun v29=>
 k v29 S) S fun v30 S=>
 aC x.most (aB true v28 (fun k=>aE v30 S fun v31 S=>
 k v31 S) S fun v32 S=>
 aC x.most (aB true v28 (fun k=>aD 3 v1 fun v33=>
 k v33 S) S fun v34 S=>
 aC x.most (aB true v28 (fun k=>aE v34 S fun v35 S=>
 k v35 S) S fun v36 S=>
 aC x.most (aB true v28 (fun k=>aF PP .eql 3 v32 v36 fun v37=>
 k v37 S) S fun v38 S=>
 aC x.most (aL v28 v38 (.bool false) fun v39=>
 aC x.most (aB true v39 (fun k=>aD 4 v0 fun v40=>
 k v40 S) S fun v41 S=>
 aC x.most (aB true v39 (fun k=>aE v41 S fun v42 S=>
 k v42 S) S fun v43 S=>
 aC x.most (aB true v39 (fun k=>aD 4 v1 fun v44=>
 k v44 S) S fun v45 S=>
 aC x.most (aB true v39 (fun k=>aE v45 S fun v46 S=>
 k v46 S) S fun v47 S=>
 aC x.most (aB true v39 (fun k=>aF PP .eql 3 v43 v47 fun v48=>
 k v48 S) S fun v49 S=>
 aC x.most (aL v39 v49 (.bool false) fun v50=>
 aC x.most (aB true v50 (fun k=>aD 5 v0 fun v51=>
 k v51 S) S fun v52 S=>
 aC x.most (aB true v50 (fun k=>aE v52 S fun v53 S=>
 k v53 S) S fun v54 S=>
 aC x.most (aB true v50 (fun k=>aD 5 v1 fun v55=>
 k v55 S) S fun v56 S=>
 aC x.most (aB true v50 (fun k=>aE v56 S fun v57 S=>
 k v57 S) S fun v58 S=>
 aC x.most (aB true v50 (fun k=>aF PP .eql 3 v54 v58 fun v59=>
 k v59 S) S fun v60 S=>
 aC x.most (aL v50 v60 (.bool false) fun v61=>
 aC x.most (aB true v61 (fun k=>aD 6 v0 fun v62=>
 k v62 S) S fun v63 S=>
 aC x.most (aB true v61 (fun k=>aE v63 S fun v64 S=>
 k v64 S) S fun v65 S=>
 aC x.most (aB true v61 (fun k=>aD 6 v1 fun v66=>
 k v66 S) S fun v67 S=>
 aC x.most (aB true v61 (fun k=>aE v67 S fun v68 S=>
 k v68 S) S fun v69 S=>
 aC x.most (aB true v61 (fun k=>aF PP .eql 3 v65 v69 fun v70=>
 k v70 S) S fun v71 S=>
 aC x.most (aL v61 v71 (.bool false) fun v72=>
 aC x.most (aB true v72 (fun k=>aD 7 v0 fun v73=>
 k v73 S) S fun v74 S=>
 aC x.most (aB true v72 (fun k=>aE v74 S fun v75 S=>
 k v75 S) S fun v76 S=>
 aC x.most (aB true v72 (fun k=>aD 7 v1 fun v77=>
 k v77 S) S fun v78 S=>
 aC x.most (aB true v72 (fun k=>aE v78 S fun v79 S=>
 k v79 S) S fun v80 S=>
 aC x.most (aB true v72 (fun k=>aF PP .eql 9 v76 v80 fun v81=>
 k v81 S) S fun v82 S=>
 aC x.most (aL v72 v82 (.bool false) fun v83=>
 aC x.most (aB true v83 (fun k=>aD 8 v0 fun v84=>
 k v84 S) S fun v85 S=>
 aC x.most (aB true v83 (fun k=>aE v85 S fun v86 S=>
 k v86 S) S fun v87 S=>
 aC x.most (aB true v83 (fun k=>aD 8 v1 fun Ce=>
 k Ce S) S fun v89 S=>
 aC x.most (aB true v83 (fun k=>aE v89 S fun Km S=>
 k Km S) S fun v91 S=>
 aC x.most (aB true v83 (fun k=>aF PP .eql 9 v87 v91 fun Ri=>
 k Ri S) S fun v93 S=>
 aC x.most (aL v83 v93 (.bool false) fun RT=>
 aC x.most (aB true RT (fun k=>aD 9 v0 fun Ha=>
 k Ha S) S fun Hb S=>
 aC x.most (aB true RT (fun k=>aE Hb S fun xG S=>
 k xG S) S fun Ko S=>
 aC x.most (aB true RT (fun k=>aD 9 v1 fun Nq=>
 k Nq S) S fun PQ S=>
 aC x.most (aB true RT (fun k=>aE PQ S fun UW S=>
 k UW S) S fun UX S=>
 aC x.most (aB true RT (fun k=>aF PP .eql 3 Ko UX fun UY=>
 k UY S) S fun UZ S=>
 aC x.most (aL RT UZ (.bool false) fun v105=>
 aC x.most (aB true v105 (fun k=>aD 10 v0 fun Cf=>
 k Cf S) S fun v107 S=>
 aC x.most (aB true v105 (fun k=>aE v107 S fun VB S=>
 k VB S) S fun v109 S=>
 aC x.most (aB true v105 (fun k=>aD 10 v1 fun PR=>
 k PR S) S fun VC S=>
 aC x.most (aB true v105 (fun k=>aE VC S fun tZ S=>
 k tZ S) S fun VD S=>
 aC x.most (aB true v105 (fun k=>aF PP .eql 3 v109 VD fun VF=>
 k VF S) S fun VG S=>
 aC x.most (aL v105 VG (.bool false) fun IV=>
 aC x.most (aB true IV (fun k=>aD 11 v0 fun v117=>
 k v117 S) S fun VH S=>
 aC x.most (aB true IV (fun k=>aE VH S fun LA S=>
 k LA S) S fun VI S=>
 aC x.most (aB true IV (fun k=>aD 11 v1 fun Cg=>
 k Cg S) S fun Ci S=>
 aC x.most (aB true IV (fun k=>aE Ci S fun Cj S=>
 k Cj S) S fun v124 S=>
 aC x.most (aB true IV (fun k=>aF PP .eql 4 VI v124 fun Ck=>
 k Ck S) S fun Cl S=>
 aC x.most (aL IV Cl (.bool false) fun v127=>
 aC x.most (aB true v127 (fun k=>aD 12 v0 fun Cm=>
 k Cm S) S fun ES S=>
 aC x.most (aB true v127 (fun k=>aE ES S fun v130 S=>
 k v130 S) S fun v131 S=>
 aC x.most (aB true v127 (fun k=>aD 12 v1 fun VJ=>
 k VJ S) S fun VL S=>
 aC x.most (aB true v127 (fun k=>aE VL S fun VM S=>
 k VM S) S fun Cn S=>
 aC x.most (aB true v127 (fun k=>aF PP .eql 4 v131 Cn fun BW=>
 k BW S) S fun Co S=>
 aC x.most (aL v127 Co (.bool false) fun v138=>
 aC x.most (aB true v138 (fun k=>aD 13 v0 fun v139=>
 k v139 S) S fun Cp S=>
 aC x.most (aB true v138 (fun k=>aE Cp S fun v141 S=>
 k v141 S) S fun Cq S=>
 aC x.most (aB true v138 (fun k=>aD 13 v1 fun v143=>
 k v143 S) S fun Kp S=>
 aC x.most (aB true v138 (fun k=>aE Kp S fun v145 S=>
 k v145 S) S fun v146 S=>
 aC x.most (aB true v138 (fun k=>aF PP .eql 9 Cq v146 fun Xn=>
 k Xn S) S fun v148 S=>
 aC x.most (aL v138 v148 (.bool false) fun XI=>
 aC x.most (aB true XI (fun k=>aD 14 v0 fun Xo=>
 k Xo S) S fun Xp S=>
 aC x.most (aB true XI (fun k=>aE Xp S fun v152 S=>
 k v152 S) S fun Xq S=>
 aC x.most (aB true XI (fun k=>aD 14 v1 fun v154=>
 k v154 S) S fun Xr S=>
 aC x.most (aB true XI (fun k=>aE Xr S fun Xs S=>
 k Xs S) S fun v157 S=>
 aC x.most (aB true XI (fun k=>x.call tY [Xq,v157] S fun Xt S=>
 k Xt S) S fun v159 S=>
 aC x.most (aL XI v159 (.bool false) fun v160=>
 aS v160 S K))))))))))))))))))))))))))))))))))))))))))))))))))))))))))))))))))))))))))))))))))))
theorem Cr (x:VE) (a0 a1:V) (S:Hp) (K:KV):nP PP bM yR x [a0,a1] S K=NG x a0 a1 S K:=by kernel_rfl
noncomputable def NH (x:VE) (a0:V) (S:Hp) (K:KV):Prop:=
 nW 29 a0 S fun v0 S=>
 fE [(.int .i64 (.ofNat 0)),(.int .i64 (.ofNat 0)),(.int .i64 (.ofNat 0)),(.int .i64 (.ofNat 0)),(.int .i64 (.ofNat 0)),(.int .i64 (.ofNat 0)),(.int .i64 (.ofNat 0)),(.string ⟨⟨[]⟩⟩),(.string ⟨⟨[]⟩⟩),(.int .i64 (.ofNat 0)),(.int .i64 (.ofNat 0)),(.bool false),(.bool false),(.string ⟨⟨[]⟩⟩),(.slice none 0 0)] 24 S fun v1 S=>
 aD 0 v0 fun v2=>
 aE v2 S fun v3 S=>
 aD 1 v0 fun v4=>
 aE v4 S fun v5 S=>
 aD 2 v0 fun v6=>
 aE v6 S fun v7 S=>
 aD 3 v0 fun v8=>
 aE v8 S fun v9 S=>
 aD 4 v0 fun v10=>
 aE v10 S fun v11 S=>
 aD 5 v0 fun v12=>
 aE v12 S fun v13 S=>
 aD 6 v0 fun v14=>
 aE v14 S fun v15 S=>
 aD 7 v0 fun v16=>
 aE v16 S fun v17 S=>
 aD 8 v0 fun v18=>
 aE v18 S fun v19 S=>
 aD 9 v0 fun v20=>
 aE v20 S fun v21 S=>
 aD 10 v0 fun v22=>
 aE v22 S fun v23 S=>
 aD 11 v0 fun v24=>
 aE v24 S fun v25 S=>
 aD 12 v0 fun v26=>
 aE v26 S fun v27 S=>
 aD 13 v0 fun v28=>
 aE v28 S fun v29 S=>
 aD 14 v0 fun v30=>
 aE v30 S fun v31 S=>
 x.call rY [v31] S fun v32 S=>
 aE v28 S fun v33 _=>
 aY v33 v29 (aE v26 S fun v34 _=>
 aY v34 v27 (aE v24 S fun v35 _=>
 aY v35 v25 (aE v22 S fun v36 _=>
 aY v36 v23 (aE v20 S fun v37 _=>
 aY v37 v21 (aE v18 S fun v38 _=>
 aY v38 v19 (aE v16 S fun v39 _=>
 aY v39 v17 (aE v14 S fun v40 _=>
 aY v40 v15 (aE v12 S fun v41 _=>
 aY v41 v13 (aE v10 S fun v42 _=>
 aY v42 v11 (aE v8 S fun v43 _=>
 aY v43 v9 (aE v6 S fun v44 _=>
 aY v44 v7 (aE v4 S fun v45 _=>
 aY v45 v5 (aE v2 S fun v46 _=>
 aY v46 v3 (gP [(.int .i64 (.ofNat 0)),(.int .i64 (.ofNat 0)),(.int .i64 (.ofNat 0)),(.int .i64 (.ofNat 0)),(.int .i64 (.ofNat 0)),(.int .i64 (.ofNat 0)),(.int .i64 (.ofNat 0)),(.string ⟨⟨[]⟩⟩),(.string ⟨⟨[]⟩⟩),(.int .i64 (.ofNat 0)),(.int .i64 (.ofNat 0)),(.bool false),(.bool false),(.string ⟨⟨[]⟩⟩),(.slice none 0 0)] [(0,1,v3),(1,1,v5),(2,1,v7),(3,1,v9),(4,1,v11),(5,1,v13),(6,1,v15),(7,1,v17),(8,1,v19),(9,1,v21),(10,1,v23),(11,1,v25),(12,1,v27),(13,1,v29),(14,1,v32)] fun v47=>
 jK 15 v1 v47 S fun S=>
 dK 15 v1 S fun v48 _=>
 aS v48 S K))))))))))))))
theorem Cs (x:VE) (a0:V) (S:Hp) (K:KV):nP PP bM yS x [a0] S K=NH x a0 S K:=by kernel_rfl
noncomputable def pD (x:VE) (m:Nat) (t0 t1 t5:V) (S:Hp) (K:KV):Prop:=kH PP bM qZ x [.r,.r,.l,.r,.d] m [] [t0,t1,t5] S K
noncomputable def NI (x:VE) (a0 a1:V) (S:Hp) (K:KV):Prop:=
 cY a0 fun v0=>
 cY a1 fun v1=>
 aF PP .neq 3 v0 v1 fun v2=>
 fC v2 (aS (.bool false) S K) (pD x x.most a0 a1 (.int .i64 (.ofNat 0)) S K)
theorem Ct (x:VE) (a0 a1:V) (S:Hp) (K:KV):nP PP bM qZ x [a0,a1] S K=NI x a0 a1 S K:=by kernel_rfl
noncomputable def rL (x:VE) (m0:Nat) (t0 t1 t5:V) (S:Hp) (K:KV):Prop:=
 dX S fun S=>
 cY t0 fun v0=>
 aF PP .lss 3 t5 v0 fun v1=>
 fC v1 (fQ 11 t0 t5 fun v2=>
 dK 11 v2 S fun v3 S=>
 fQ 11 t1 t5 fun v4=>
 dK 11 v4 S fun v5 S=>
 x.call tX [v3,v5] S fun v6 S=>
 GU .not v6 fun v7=>
 fC v7 (aS (.bool false) S K) (aF PP .add 3 t5 (.int .i64 (.ofNat 1)) fun v8=>
 pD x m0 t0 t1 v8 S K)) (aS (.bool true) S K)
theorem xV (x:VE) (m0:Nat) (t0 t1 t5:V) (S:Hp) (K:KV):pD x (m0+1) t0 t1 t5 S K=rL x m0 t0 t1 t5 S K:=by kernel_rfl
set_option maxRecDepth 4000
variable{ov:XE}{M n:Nat}{x:VE}{S:Hp}{K:KV}
theorem Xy{P:Program}{t:TypeId}{l:List CT}{a b:List V}{k:V->Prop} (hs:keyS P t=some (.many l)) (ha:JO l a) (hb:JO l b) (h1:a=b->k (.bool false)) (h2:a≠b->k (.bool true)):Qm P .neq t (.agg a) (.agg b) k:=by
 unfold Qm;rw [hs];exact⟨ha,hb,h1,h2⟩
theorem aEN:keyS PP 49=some (.many [.int .i64,.int .i64,.int .u8,.int .i64,.str]):=by kernel_rfl
set_option maxRecDepth 8000
variable{ov:XE}{M n:Nat}{x:VE}{S:Hp}{K:KV}
theorem bC{o:Nat}{v:V}{ps:List (Nat×Nat×V)}{cs:List V}{k:List V->Prop} (ho:lL v=true) (hl:o+1<=cs.length) (hk:wK ps (cs.set o v) k):wK ((o,1,v)::ps) cs k:=by
 have e:splice o [v] cs=cs.set o v:=by
  rw [List.set_eq_take_append_cons_drop,if_pos (by omega)];simp [splice]
 rw [<-e]at hk;unfold wK;unfold EC;cases v<;>first | (cases ho;done) | exact⟨rfl,hl,hk⟩
theorem Rj{n:Nat}{new:List V}{ps:List (Nat×Nat×V)}{cs:List V}{k:List V->Prop} (ho:new.all lL=true) (hn:new.length=n) (hl:n<=cs.length) (hk:wK ps (new++cs.drop n) k):wK ((0,n,.agg new)::ps) cs k:=by
 refine⟨ho,hn,by omega,?_⟩;have e:splice 0 new cs=new++cs.drop n:=by simp [splice,hn]
 rw [e];exact hk
theorem oO{cs:List V}{k:List V->Prop} (hk:k cs):wK [] cs k:=hk
theorem lW{zero:List Value}{z:List V}{ps:List (Nat×Nat×V)}{K:V->Prop} (hz:KO zero=some z) (h:wK ps z fun cs=>K (.agg cs)):gP zero ps K:=by
 unfold gP wJ;rw [hz];exact h
def Bs.start (h n t me:Int):Bs:=⟨h,n,t,me,0,1,0,[],[],-1,-1,false,false,[]⟩
def Do (h n t me:Int):Prop:=(1<=n/\n<=7)/\(1<=h/\h<=64)/\(0<=t/\t<=n)/\3*t+1<=n/\0<=me/\me<=n
theorem aEO (hf:ov tW=none) (hf2:ov tA=none) (hx:Deep PP bM ov M (n+2) x){h z q me:Int} (h1:¬Do h z q me->K (.tuple [.pW,.int .i64 1]) S)
 (h2:Do h z q me->∀m t b,S m=none->t≠m->S t=none->b≠t->b≠m->S b=none->K (.tuple [.ptr b 0,.int .i64 0]) (upd (upd (upd S m (.map [])) t (.row [.int .i64 z,.rS m] 96)) b (.row (kP (.start h z q me) t) 55))):x.call tW [.int .i64 h,.int .i64 z,.int .i64 q,.int .i64 me] S K:=by
 refine hx.call hf fun y hy=>?_;rw [Cd];unfold NF;refine aEP hf2 hy (fun e=>?_) (fun e1 e2 m t hm ht ht0=>?_)
 ·refine BH rfl (BH rfl ?_)
  simp only [cW,bD,show(!decide ((1:Int)=Int.ofNat 0))=true from rfl,bL,aR,if_true,aT];exact aK (h1 fun o=>e o.1)
 ·refine BH rfl (BH rfl ?_)
  have le1:dL S (upd (upd S m (.map [])) t (.row [.int .i64 z,.rS m] 96)):=(dL.aV hm).trans (.aV (by rw [aG ht];exact ht0));generalize hS1:upd (upd S m (.map [])) t (.row [.int .i64 z,.rS m] 96)=S1 at le1;have bad:¬Do h z q me->aS (.tuple [.pW,(.int .i64 (.ofNat 1))]) S1 K:=fun e=>cI le1 (h1 e);simp only [cW,bD,show(!decide ((0:Int)=Int.ofNat 0))=false from rfl,aH,aI,aR,Bool.false_eq_true,if_false];by_cases c1:h<1
  ·simp only [show decide (h<Int.ofNat 1)=true from decide_eq_true c1,bL,aR,if_true,aT]
   exact bad fun o=>by have:=o.2.1;omega
  simp only [show decide (h<Int.ofNat 1)=false from decide_eq_false c1,aH,dN,aR,Bool.false_eq_true,if_false];by_cases c2:64<h
  ·simp only [show decide (Int.ofNat 64<h)=true from decide_eq_true c2,bL,aR,if_true,aT]
   exact bad fun o=>by have:=o.2.1;omega
  simp only [show decide (Int.ofNat 64<h)=false from decide_eq_false c2,aH,aI,aR,Bool.false_eq_true,if_false];by_cases c3:q<0
  ·simp only [show decide (q<Int.ofNat 0)=true from decide_eq_true c3,bL,aR,if_true,aT]
   exact bad fun o=>by have:=o.2.2.1;omega
  simp only [show decide (q<Int.ofNat 0)=false from decide_eq_false c3,aH,dN,aR,Bool.false_eq_true,if_false];by_cases c4:z<q
  ·simp only [decide_eq_true c4,bL,aR,if_true,aT]
   exact bad fun o=>by have:=o.2.2.1;omega
  have w1:kC .i64 (Int.ofNat 3*q)=3*q:=by rw [wrap_small]<;>simp<;>omega
  have w2:kC .i64 (3*q+Int.ofNat 1)=3*q+1:=by rw [wrap_small]<;>simp<;>omega
  simp only [decide_eq_false c4,aH,HU,w1,bA,w2,aI,aR,Bool.false_eq_true,if_false];by_cases c5:z<3*q+1
  ·simp only [decide_eq_true c5,bL,aR,if_true,aT]
   exact bad fun o=>by have:=o.2.2.2.1;omega
  simp only [decide_eq_false c5,aH,aI,aR,Bool.false_eq_true,if_false];by_cases c6:me<0
  ·simp only [show decide (me<Int.ofNat 0)=true from decide_eq_true c6,bL,if_true,aT]
   exact bad fun o=>by have:=o.2.2.2.2;omega
  simp only [show decide (me<Int.ofNat 0)=false from decide_eq_false c6,aH,dN,Bool.false_eq_true,if_false];by_cases c7:z<me
  ·simp only [decide_eq_true c7,aT,if_true]
   exact bad fun o=>by have:=o.2.2.2.2;omega
  simp only [decide_eq_false c7,aT,Bool.false_eq_true,if_false];refine lW (by rfl) ?_;refine bC rfl (by simp) (bC rfl (by simp) (bC rfl (by simp) (bC rfl (by simp) (bC rfl (by simp) (bC rfl (by simp) (bC rfl (by simp) (oO ?_)))))));refine lW (by rfl) ?_;refine Rj (by rfl) (by rfl) (by simp) (bC rfl (by simp) (oO ?_));refine eQ (cs:=kP (.start h z q me) t) rfl fun b hb=>?_;rw [<-hS1]at hb ⊢;obtain⟨hbt,hb⟩:=pL hb;obtain⟨hbm,hb⟩:=pL hb;exact aK (h2 ⟨⟨e1,e2⟩,⟨by omega,by omega⟩,⟨by omega,by omega⟩,by omega,by omega,by omega⟩ m t b hm ht ht0 hbt hbm hb)
variable{ov:XE}{M n b t:Nat}{x:VE}{S:Hp}{K:KV}{s:Bs}{ty:TypeId}
def oN (tx:List UInt8) (r now:Int):Bool:=decide (tx.length<=2048)&&decide (-1<=r)&&decide (r<=now)&&decide (decide (tx=[])=decide (r= -1))
theorem Hf:SI PP 4=true:=by kernel_rfl
theorem IG{P:Program}{t:TypeId}{x y:Bool}{K:V->Prop} (h:SI P t=true):aF P .eql t (.bool x) (.bool y) K=K (.bool (decide (x=y))):=by simp [aF,Vr,h]
theorem Nt (hf:ov oK=none) (hx:Deep PP bM ov M (n+1) x){tx:List UInt8}{r now:Int} (hk:K (.bool (oN tx r now)) S):x.call oK [.str tx,.int .i64 r,.int .i64 now] S K:=by
 refine hx.call hf fun y hy=>?_;rw [VN];unfold GZ;have fin:∀{bb:Bool},oN tx r now=bb->aS (.bool bb) S K:=fun e=>aK (by rw [<-e];exact hk);simp only [yN,pU,bD];by_cases c1:tx.length<=2048
 ·simp only [show decide (Int.ofNat tx.length<=Int.ofNat 2048)=true from decide_eq_true (by simp;omega),aH,dG,aR,if_true]
  by_cases c2: -1<=r
  ·simp only [show decide (Int.negSucc 0<=r)=true from decide_eq_true c2,aH,pU,aR,if_true]
   by_cases c3:r<=now
   ·simp only [decide_eq_true c3,aH,gL,bW,IG Hf,if_true]
    refine fin ?_;have:(decide (r= -1))=decide (r=Int.negSucc 0):=rfl;simp [oN,c1,c2,c3,this]
   ·simp only [decide_eq_false c3,dF,Bool.false_eq_true,if_false]
    refine fin ?_;simp [oN,c3]
  ·simp only [show decide (Int.negSucc 0<=r)=false from decide_eq_false c2,dF,aR,Bool.false_eq_true,if_false]
   refine fin ?_;simp [oN,c2]
 ·simp only [show decide (Int.ofNat tx.length<=Int.ofNat 2048)=false from decide_eq_false (by simp;omega),dF,aR,Bool.false_eq_true,if_false]
  refine fin ?_;simp [oN,c1]
theorem kind25:YM PP 31=some .ptr:=by kernel_rfl
set_option maxRecDepth 4000
structure Mg where
 kd:Nat
 h:Int
 r:Int
 vl:Int
 tx:List UInt8
structure Ba where
 s:Bs
 l:List Vo
abbrev R3:=Ba×List Mg×Bool
namespace Ba
def put (a:Ba) (v:Vo):Ba:=if a.s.takes a.l v then⟨a.s,uP v a.l⟩else a
def to (a:Ba) (z:Int):Ba:=⟨{a.s with st:=z,age:=0},a.l⟩
def sS (a:Ba) (r:Int):Ba:=⟨{a.s with st:=1,age:=0,rd:=r,prop:=false,seen:=false},a.l⟩
def say (a:Ba) (k:Nat) (vl:Int) (tx:List UInt8):Ba×List Mg:=(a.put ⟨a.s.me,a.s.rd,k,vl,tx⟩,[⟨k,a.s.h,a.s.rd,vl,tx⟩])
def pr (a:Ba) (r:Int):Option Vo:=a.l.find? fun v=>v.at r (a.s.RW r) 2
def cnt (a:Ba) (r:Int) (k:Nat) (tx:List UInt8):Nat:=mO (fun v=>decide (v.rd=r)&&decide (v.kd=k)&&decide (v.tx=tx)) a.s.n.toNat a.l
def all (a:Ba) (r:Int) (k:Nat):Nat:=mO (fun v=>decide (v.rd=r)&&decide (v.kd=k)) a.s.n.toNat a.l
def sent (a:Ba) (r:Int):Nat:=mO (fun v=>decide (v.rd=r)) a.s.n.toNat a.l
def agreed (a:Ba) (r:Int) (k:Nat) (tx:List UInt8):Bool:=decide (a.s.n-a.s.t<=(a.cnt r k tx:Int))
def rounds (a:Ba):List Int:=dd (a.l.map (·.rd))
def no (a:Ba):R3:=(a,[],false)
def yes (p:Ba×List Mg):R3:=(p.1,p.2,true)
def nO (a:Ba) (r:Int):Option (List UInt8):=match a.pr r with
 | some v=>if a.agreed r 4 v.tx then some v.tx else none
 | none=>none
def rA (a:Ba):R3:=match a.rounds.findSome? a.nO with
 | some tx=>(⟨{a.s with dec:=tx},a.l⟩,[],true)
 | none=>a.no
def skips (a:Ba) (r:Int):Bool:=decide (a.s.rd<r)&&decide (a.s.t<(a.sent r:Int))
def skip (a:Ba):R3:=match a.rounds.reverse.find? a.skips with
 | some r=>(a.sS r,[],true)
 | none=>a.no
def iT (a:Ba) (tx:List UInt8) (free:Bool):Ba×List Mg:=(a.to 2).say 3 0 (if !free&& !decide (a.s.lock=tx)then []else tx)
def fresh (a:Ba) (may:List (List UInt8)):R3:=match a.pr a.s.rd with
 | some v=>if decide (a.s.st=1)&&decide (v.vl= -1)&&may.contains v.tx then yes (a.iT v.tx (decide (a.s.lock=[])))else a.no
 | none=>a.no
def old (a:Ba):R3:=match a.pr a.s.rd with
 | some v=>if decide (a.s.st=1)&& !decide (v.vl= -1)&&a.agreed v.vl 3 v.tx then yes (a.iT v.tx (decide (a.s.mW<=v.vl)))else a.no
 | none=>a.no
def lock (a:Ba):R3:=match a.pr a.s.rd with
 | some v=>if !decide (a.s.st=1)&& !a.s.seen&&a.agreed a.s.rd 3 v.tx then
  (if a.s.st=3 then(⟨{a.s with seen:=true,valid:=v.tx,gA:=a.s.rd},a.l⟩,[],true)
   else yes ((⟨{a.s with seen:=true,valid:=v.tx,gA:=a.s.rd,lock:=v.tx,mW:=a.s.rd,st:=3,age:=0},a.l⟩:Ba).say 4 0 v.tx))
  else a.no
 | none=>a.no
def nothing (a:Ba):R3:=if decide (a.s.st=2)&&a.agreed a.s.rd 3 []then yes ((a.to 3).say 4 0 [])else a.no
def wants (a:Ba) (want:List UInt8):List UInt8×Int:=if a.s.valid=[]then(want,-1)else(a.s.valid,a.s.gA)
def propose (a:Ba) (want:List UInt8):R3:=
 if decide (a.s.st=1)&& !a.s.prop&&decide (a.s.RW a.s.rd=a.s.me)&& !decide ((a.wants want).1=[])then yes ((⟨{a.s with prop:=true},a.l⟩:Ba).say 2 (a.wants want).2 (a.wants want).1)else a.no
def rule (a:Ba) (want:List UInt8) (may:List (List UInt8)):Nat->R3
 | 0=>a.rA
 | 1=>a.skip
 | 2=>a.fresh may
 | 3=>a.old
 | 4=>a.lock
 | 5=>a.nothing
 | _=>a.propose want
def from_ (a:Ba) (want:List UInt8) (may:List (List UInt8)):Nat->Nat->R3
 | 0,_=>a.no
 | n+1,i=>if(a.rule want may i).2.2 then a.rule want may i else from_ a want may n (i+1)
def mine (a:Ba):Nat:=if a.s.me=0 then 1 else 7
def run (want:List UInt8) (may:List (List UInt8)):Nat->Ba->List Mg->Ba×List Mg
 | 0,a,out=>(a,out)
 | n+1,a,out=>if a.s.dec=[]then(if(a.from_ want may a.mine 0).2.2 then run want may n (a.from_ want may a.mine 0).1 (out++(a.from_ want may a.mine 0).2.1)else(a,out))else(a,out)
def NW (a:Ba) (want:List UInt8) (may:List (List UInt8)):Ba×List Mg:=run want may 1000 a []
def late (a:Ba):Ba×List Mg:=
 if a.s.st=1 then(a.to 2).say 3 0 []
 else if a.s.st=2 then(if decide (a.s.n-a.s.t<=(a.all a.s.rd 3:Int))then(a.to 3).say 4 0 []else(a,[]))
 else if decide (a.s.n-a.s.t<=(a.all a.s.rd 4:Int))&&decide (a.s.rd<99)then(a.sS (a.s.rd+1),[])else(a,[])
def ticks (a:Ba) (want:List UInt8):Bool:= !decide (a.s.me=0)&&decide (a.s.dec=[])&&(!decide (want=[]) || decide (0<a.rounds.length))
def older (a:Ba):Ba:=⟨{a.s with age:=min (a.s.age+1) 1099511627776},a.l⟩
def sF (a:Ba) (want:List UInt8):Ba×List Mg:=if a.ticks want then(if 4+2*a.s.rd<=a.older.s.age then a.older.late else(a.older,[]))else(a,[])
def tick (a:Ba) (want:List UInt8) (may:List (List UInt8)):Ba×List Mg:=(((a.sF want).1.NW want may).1,(a.sF want).2++((a.sF want).1.NW want may).2)
def give (a:Ba) (fr:Int) (k:Nat) (h r vl:Int) (tx:List UInt8):Ba:=if decide (h=a.s.h)&&decide (2<=k)&&decide (k<=4)&&decide (r<100)then a.put ⟨fr,r,k,vl,tx⟩else a
end Ba
structure cA (a:Ba):Prop where
 ok:Do a.s.h a.s.n a.s.t a.s.me
 rd:0<=a.s.rd/\a.s.rd<=99
 st:1<=a.s.st/\a.s.st<=3
 age:0<=a.s.age/\a.s.age<=1099511627776
 lk:oN a.s.lock a.s.mW a.s.rd=true
 vl:oN a.s.valid a.s.gA a.s.rd=true
 dec:a.s.dec.length<=2048
 HI:a.l.Pairwise fun u v=>u.lt v=true
 vs:∀v∈a.l,v.may a.s.n=true/\(v.kd=2->v.fr=a.s.RW v.rd)
theorem lt_iff (a b:Vo):a.lt b=true↔(a.rd<b.rd\/(a.rd=b.rd/\(a.fr<b.fr\/(a.fr=b.fr/\a.kd<b.kd)))):=by unfold Vo.lt;simp
theorem AP (v:Vo) (r f:Int) (k:Nat):v.at r f k=true↔(v.rd=r/\v.fr=f/\v.kd=k):=by unfold Vo.at;simp [and_assoc]
theorem rB (v:Vo) (n:Int):v.may n=true↔(1<=v.fr/\v.fr<=n/\0<=v.rd/\v.rd<100/\v.tx.length<=2048)/\((v.kd=2/\v.tx≠[]/\ -1<=v.vl/\v.vl<v.rd)\/((v.kd=3\/v.kd=4)/\v.vl=0)):=by
 unfold Vo.may;simp only [Bool.and_eq_true,Bool.not_eq_true',Bool.or_eq_false_iff,decide_eq_false_iff_not];by_cases h2:v.kd=2
 ·rw [if_pos h2]
  simp only [Bool.and_eq_true,decide_eq_true_eq,Bool.not_eq_true',decide_eq_false_iff_not];constructor
  ·rintro⟨⟨⟨⟨⟨q1,q2⟩,q3⟩,q4⟩,q5⟩,⟨⟨q6,q7⟩,q8⟩⟩
   exact⟨⟨by omega,by omega,by omega,by omega,by omega⟩,.inl ⟨h2,q6,q7,q8⟩⟩
  ·rintro⟨⟨q1,q2,q3,q4,q5⟩,⟨_,q6,q7,q8⟩ | ⟨q6,_⟩⟩
   ·exact⟨⟨⟨⟨⟨by omega,by omega⟩,by omega⟩,by omega⟩,by omega⟩,⟨⟨q6,q7⟩,q8⟩⟩
   ·omega
 ·rw [if_neg h2]
  by_cases h3:v.kd=3\/v.kd=4
  ·rw [if_pos h3]
   simp only [decide_eq_true_eq];constructor
   ·rintro⟨⟨⟨⟨⟨q1,q2⟩,q3⟩,q4⟩,q5⟩,q6⟩
    exact⟨⟨by omega,by omega,by omega,by omega,by omega⟩,.inr ⟨h3,q6⟩⟩
   ·rintro⟨⟨q1,q2,q3,q4,q5⟩,⟨q6,_⟩ | ⟨_,q6⟩⟩
    ·exact absurd q6 h2
    ·exact⟨⟨⟨⟨⟨by omega,by omega⟩,by omega⟩,by omega⟩,by omega⟩,q6⟩
  ·rw [if_neg h3]
   simp only [Bool.false_eq_true,and_false,false_iff]
   rintro⟨_,⟨q6,_⟩ | ⟨q6,_⟩⟩
   ·exact h2 q6
   ·exact h3 q6
theorem IE (v:Vo) (l:List Vo):(uP v l).Perm (l++[v]):=by
 induction l with
 | nil=>exact .refl _
 | cons u l ih=>
  unfold uP;split
  ·exact(List.perm_append_comm (l₁:=[v]) (l₂:=u::l))
  ·exact ih.cons u
theorem VO (l:List Vo):(sortV l).Perm l:=by
 induction l with
 | nil=>exact .refl _
 | cons v l ih=>
  unfold sortV;exact(IE v _).trans (List.perm_append_comm.trans (ih.cons v))
theorem aEI{u v:Vo} (h:¬(u.rd=v.rd/\u.fr=v.fr/\u.kd=v.kd)):u.lt v=true\/v.lt u=true:=by
 rw [lt_iff,lt_iff];omega
theorem He{v:Vo}{l:List Vo} (h:l.Pairwise fun u v=>u.lt v=true) (hf:v.free l=true):(uP v l).Pairwise fun u v=>u.lt v=true:=by
 have hne:∀u∈l,¬(u.rd=v.rd/\u.fr=v.fr/\u.kd=v.kd):=by
  intro u hu e;unfold Vo.free at hf;rw [Option.isNone_iff_eq_none,List.find?_eq_none]at hf;exact hf u hu ((AP _ _ _ _).2 e)
 clear hf;induction l with
 | nil=>exact List.pairwise_singleton _ _
 | cons u l ih=>
  rw [List.pairwise_cons]at h;unfold uP;split
  ·rename_i hlt
   rw [List.pairwise_cons];refine⟨fun w hw=>?_,List.pairwise_cons.2 h⟩;rcases List.mem_cons.1 hw with rfl | hw
   ·exact hlt
   ·have:=h.1 w hw
    rw [lt_iff]at hlt this ⊢;omega
  ·rename_i hlt
   rw [List.pairwise_cons];refine⟨fun w hw=>?_,ih h.2 fun w hw=>hne w (.tail _ hw)⟩;rcases List.mem_append.1 ((IE v l).mem_iff.1 hw)with hw | hw
   ·exact h.1 w hw
   ·simp at hw;subst hw
    rcases aEI (hne u (.head _))with q | q
    ·exact q
    ·exact absurd q hlt
theorem aEJ:∀{l l':List Vo},l.Pairwise (fun u v=>u.lt v=true)->l'.Pairwise (fun u v=>u.lt v=true)->l.Perm l'->l=l':=by
 intro l;induction l with
 | nil=>intro l' _ _ p;exact(List.nil_perm.1 p).symm
 | cons a l ih=>
  intro l' h h' p;cases l' with
  | nil=>exact absurd p (by intro p;have:=p.length_eq;simp at this)
  | cons b l'=>
   rw [List.pairwise_cons]at h h';have irr:∀v:Vo,¬v.lt v=true:=fun v q=>by rw [lt_iff]at q;omega
   have e:a=b:=by
    rcases List.mem_cons.1 (p.mem_iff.1 (.head l))with q | q
    ·exact q
    ·rcases List.mem_cons.1 (p.symm.mem_iff.1 (.head l'))with q2 | q2
     ·exact q2.symm
     ·have h1:=h'.1 a q
      have h2:=h.1 b q2;rw [lt_iff]at h1 h2;omega
   subst e;rw [ih h.2 h'.2 p.cons_inv]
theorem aEK{l:List Vo} (h:l.Pairwise fun u v=>u.lt v=true){u v:Vo} (hu:u∈l) (hv:v∈l) (e:u.rd=v.rd/\u.fr=v.fr/\u.kd=v.kd):u=v:=by
 induction l with
 | nil=>cases hu
 | cons a l ih=>
  rw [List.pairwise_cons]at h;rcases List.mem_cons.1 hu with rfl | hu'
  ·rcases List.mem_cons.1 hv with rfl | hv
   ·rfl
   ·have:=h.1 v hv;rw [lt_iff]at this;omega
  ·rcases List.mem_cons.1 hv with e2 | hv'
   ·subst e2;have:=h.1 u hu';rw [lt_iff]at this;omega
   ·exact ih h.2 hu' hv'
theorem YT{l l':List Vo} (h:l.Pairwise fun u v=>u.lt v=true) (p:l'.Perm l) (r f:Int) (k:Nat):(l'.find? fun v=>v.at r f k)=l.find? fun v=>v.at r f k:=by
 cases e:l.find? fun v=>v.at r f k with
 | none=>
  rw [List.find?_eq_none]at e ⊢;exact fun v hv=>e v (p.mem_iff.1 hv)
 | some u=>
  cases e':l'.find? fun v=>v.at r f k with
  | none=>
   rw [List.find?_eq_none]at e';exact absurd (List.find?_some (p:=fun v:Vo=>v.at r f k) e) (e' u (p.mem_iff.2 (List.mem_of_find?_eq_some e)))
  | some u'=>
   congr 1
   have h1:=(AP _ _ _ _).1 (List.find?_some (p:=fun v:Vo=>v.at r f k) e);have h2:=(AP _ _ _ _).1 (List.find?_some (p:=fun v:Vo=>v.at r f k) e');exact aEK h (p.mem_iff.1 (List.mem_of_find?_eq_some e')) (List.mem_of_find?_eq_some e) (by omega)
theorem Xw{l l':List Vo} (p:l'.Perm l) (f:Vo->Bool):l'.any f=l.any f:=by
 rw [Bool.eq_iff_iff,List.any_eq_true,List.any_eq_true];exact⟨fun⟨v,h1,h2⟩=>⟨v,p.mem_iff.1 h1,h2⟩,fun⟨v,h1,h2⟩=>⟨v,p.mem_iff.2 h1,h2⟩⟩
theorem PU{l l':List Vo} (p:l'.Perm l) (f:Vo->Bool) (n:Nat):mO f n l'=mO f n l:=by
 unfold mO
 congr 2
 funext i
 exact Xw p _
theorem VP{s:Bs}{l l':List Vo} (h:l.Pairwise fun u v=>u.lt v=true) (p:l'.Perm l) (v:Vo):s.takes l' v=s.takes l v:=by
 unfold Bs.takes Vo.free;rw [YT h p]
theorem IF{l l':List Vo} (h:l.Pairwise fun u v=>u.lt v=true) (p:l'.Perm l):sortV l'=l:=by
 refine aEJ ?_ h ((VO l').trans p)
 have hk:∀l2:List Vo,(l2.Pairwise fun u v=>¬(u.rd=v.rd/\u.fr=v.fr/\u.kd=v.kd))->(sortV l2).Pairwise fun u v=>u.lt v=true:=by
  intro l2;induction l2 with
  | nil=>intro _;exact .nil
  | cons v l2 ih=>
   intro q;rw [List.pairwise_cons]at q;unfold sortV;refine He (ih q.2) ?_;unfold Vo.free;rw [Option.isNone_iff_eq_none,List.find?_eq_none];intro u hu e;have e:=(AP _ _ _ _).1 e;exact q.1 u ((VO l2).mem_iff.1 hu) (by omega)
 refine hk l' ?_;refine(p.symm.pairwise_iff (R:=fun u v:Vo=>¬(u.rd=v.rd/\u.fr=v.fr/\u.kd=v.kd)) (fun {a b} q=>by omega)).1 (h.imp fun {a b} q=>?_);rw [lt_iff]at q;omega
theorem Cz{l:List Vo}{n:Int} (h:l.Pairwise fun u v=>u.lt v=true) (hn:n<=7) (hv:∀v∈l,v.may n=true):l.length<=2400:=by
 let code:Vo->Nat:=fun v=>(v.rd.toNat*8+v.fr.toNat)*3+(v.kd-2)
 have hb:∀v∈l,code v<2400:=fun v hm=>by
  obtain⟨⟨a1,a2,a3,a4,_⟩,q⟩:=(rB v n).1 (hv v hm);show(v.rd.toNat*8+v.fr.toNat)*3+(v.kd-2)<2400;rcases q with ⟨q,_⟩ | ⟨q,_⟩<;>omega
 have hp:l.Pairwise fun u v=>code u<code v:=by
  refine List.Pairwise.imp_of_mem ?_ h;intro u v hu hv2 q;obtain⟨⟨a1,a2,a3,a4,_⟩,q1⟩:=(rB u n).1 (hv u hu);obtain⟨⟨b1,b2,b3,b4,_⟩,q2⟩:=(rB v n).1 (hv v hv2);rw [lt_iff]at q;show(u.rd.toNat*8+u.fr.toNat)*3+(u.kd-2)<(v.rd.toNat*8+v.fr.toNat)*3+(v.kd-2);rcases q1 with ⟨q1,_⟩ | ⟨q1,_⟩<;>rcases q2 with ⟨q2,_⟩ | ⟨q2,_⟩<;>omega
 have go:∀(l:List Vo) (a:Nat),(l.Pairwise fun u v=>code u<code v)->(∀v∈l,a<=code v/\code v<2400)->l.length+a<=2400\/l=[]:=by
  intro l;induction l with
  | nil=>intro a _ _;exact .inr rfl
  | cons v l ih=>
   intro a hp hb;rw [List.pairwise_cons]at hp;have hv:=hb v (.head _);rcases ih (code v+1) hp.2 (fun u hu=>⟨hp.1 u hu,(hb u (.tail _ hu)).2⟩)with q | q
   ·left;simp;omega
   ·subst q;left;simp;omega
 rcases go l 0 hp (fun v hv=>⟨Nat.zero_le _,hb v hv⟩)with q | q
 ·omega
 ·subst q;simp
set_option maxRecDepth 4000
theorem nZ (tx:List UInt8) (r now:Int):oN tx r now=true↔(tx.length<=2048/\ -1<=r/\r<=now/\(tx=[]↔r= -1)):=by
 unfold oN;simp only [Bool.and_eq_true,decide_eq_true_eq,decide_eq_decide,and_assoc]
theorem CZ (s:Bs) (l:List Vo) (v:Vo):s.takes l v=true↔(¬(v.kd=2/\(v.rd<0\/v.fr≠s.RW v.rd))/\v.may s.n=true/\v.free l=true):=by
 unfold Bs.takes;simp only [Bool.and_eq_true,Bool.not_eq_true',Bool.and_eq_false_iff,Bool.or_eq_false_iff,decide_eq_false_iff_not,Bool.not_eq_false',decide_eq_true_eq];constructor
 ·rintro⟨h,h2,h3⟩
  refine⟨fun⟨q1,q2⟩=>?_,h2,h3⟩;rcases h with h | ⟨h4,h5⟩
  ·exact h q1
  ·rcases q2 with q2 | q2
   ·exact h4 q2
   ·exact q2 h5
 ·rintro⟨h,h2,h3⟩
  refine⟨?_,h2,h3⟩;by_cases q:v.kd=2
  ·refine .inr ⟨fun q2=>h ⟨q,.inl q2⟩,?_⟩
   by_cases q3:v.fr=s.RW v.rd
   ·exact q3
   ·exact absurd ⟨q,.inr q3⟩ h
  ·exact .inl q
namespace cA
variable{a:Ba}
theorem put (i:cA a) (v:Vo):cA (a.put v):=by
 unfold Ba.put;by_cases h:a.s.takes a.l v=true
 ·rw [if_pos h]
  obtain⟨h1,h2,h3⟩:=(CZ _ _ _).1 h;refine⟨i.ok,i.rd,i.st,i.age,i.lk,i.vl,i.dec,He i.HI h3,fun u hu=>?_⟩;rcases List.mem_append.1 ((IE v a.l).mem_iff.1 hu)with hu | hu
  ·exact i.vs u hu
  ·simp at hu;subst hu
   refine⟨h2,fun q=>?_⟩;by_cases e:u.fr=a.s.RW u.rd
   ·exact e
   ·exact absurd ⟨q,.inr e⟩ h1
 ·rw [if_neg h];exact i
theorem YU (a:Ba) (v:Vo):(a.put v).s=a.s:=by
 unfold Ba.put;split<;>rfl
theorem to (i:cA a){z:Int} (h1:1<=z) (h2:z<=3):cA (a.to z):=
 ⟨i.ok,i.rd,⟨h1,h2⟩,⟨Int.le_refl _,by show(0:Int)<=1099511627776;decide⟩,i.lk,i.vl,i.dec,i.HI,i.vs⟩
theorem sS (i:cA a){r:Int} (h1:a.s.rd<=r) (h2:r<=99):cA (a.sS r):=by
 refine⟨i.ok,⟨?_,h2⟩,⟨by show(1:Int)<=1;decide,by show(1:Int)<=3;decide⟩,⟨Int.le_refl _,by show(0:Int)<=1099511627776;decide⟩,?_,?_,i.dec,i.HI,i.vs⟩
 ·show 0<=r;have:=i.rd;omega
 ·have:=(nZ _ _ _).1 i.lk
  exact(nZ _ _ _).2 ⟨this.1,this.2.1,Int.le_trans this.2.2.1 h1,this.2.2.2⟩
 ·have:=(nZ _ _ _).1 i.vl
  exact(nZ _ _ _).2 ⟨this.1,this.2.1,Int.le_trans this.2.2.1 h1,this.2.2.2⟩
theorem say (i:cA a) (k:Nat) (vl:Int) (tx:List UInt8):cA (a.say k vl tx).1:=i.put _
theorem HJ (i:cA a){r:Int}{v:Vo} (h:a.pr r=some v):v∈a.l/\v.rd=r/\v.kd=2/\v.tx≠[]/\v.tx.length<=2048/\v.may a.s.n=true:=by
 unfold Ba.pr at h;have h1:=List.mem_of_find?_eq_some h;have h2:=(AP _ _ _ _).1 (List.find?_some (p:=fun v:Vo=>v.at r (a.s.RW r) 2) h);have h3:=i.vs v h1;obtain⟨q1,q2⟩:=(rB _ _).1 h3.1;refine⟨h1,h2.1,h2.2.2,?_,q1.2.2.2.2,h3.1⟩;rcases q2 with q2 | q2
 ·exact q2.2.1
 ·omega
theorem rA (i:cA a):cA a.rA.1:=by
 unfold Ba.rA;cases h:a.rounds.findSome? a.nO with
 | none=>exact i
 | some tx=>
  obtain⟨r,_,hr⟩:=List.exists_of_findSome?_eq_some h;refine⟨i.ok,i.rd,i.st,i.age,i.lk,i.vl,?_,i.HI,i.vs⟩;unfold Ba.nO at hr;split at hr
  ·rename_i v hv
   split at hr
   ·injection hr with hr;subst hr;exact(i.HJ hv).2.2.2.2.1
   ·cases hr
  ·cases hr
theorem aEL (zs:List Int):∀(j:Nat) (z:Int),z∈dq zs j->j<=zs.length->z∈zs:=by
 intro j;induction j with
 | zero=>intro z h;cases h
 | succ j ih=>
  intro z h hj;unfold dq at h;split at h
  ·rcases List.mem_append.1 h with h | h
   ·exact ih z h (by omega)
   ·simp at h;subst h
    rw [List.getElem?_eq_getElem (by omega)];exact List.getElem_mem _
  ·exact ih z h (by omega)
theorem sU (i:cA a){r:Int} (h:r∈a.rounds):0<=r/\r<=99:=by
 have:=aEL _ _ _ h (Nat.le_refl _);obtain⟨v,hv,rfl⟩:=List.mem_map.1 this;obtain⟨⟨_,_,q3,q4,_⟩,_⟩:=(rB _ _).1 (i.vs v hv).1;omega
theorem skip (i:cA a):cA a.skip.1:=by
 unfold Ba.skip;cases h:a.rounds.reverse.find? a.skips with
 | none=>exact i
 | some r=>
  have h1:=List.find?_some (p:=a.skips) h;have h2:=i.sU (List.mem_reverse.1 (List.mem_of_find?_eq_some h));unfold Ba.skips at h1;simp only [Bool.and_eq_true,decide_eq_true_eq]at h1;exact i.sS (by omega) h2.2
theorem iT (i:cA a) (tx:List UInt8) (f:Bool):cA (a.iT tx f).1:=(i.to (by decide) (by decide)).say _ _ _
theorem fresh (i:cA a) (may:List (List UInt8)):cA (a.fresh may).1:=by
 unfold Ba.fresh;split
 ·split
  ·exact i.iT _ _
  ·exact i
 ·exact i
theorem old (i:cA a):cA a.old.1:=by
 unfold Ba.old;split
 ·split
  ·exact i.iT _ _
  ·exact i
 ·exact i
theorem lock (i:cA a):cA a.lock.1:=by
 unfold Ba.lock;split
 ·rename_i v hv
  obtain⟨_,_,_,h1,h2,_⟩:=i.HJ hv;have hp:oN v.tx a.s.rd a.s.rd=true:=(nZ _ _ _).2 ⟨h2,by have:=i.rd;omega,Int.le_refl _,⟨fun e=>absurd e h1,fun e=>by have:=i.rd;omega⟩⟩;split
  ·split
   ·exact⟨i.ok,i.rd,i.st,i.age,i.lk,hp,i.dec,i.HI,i.vs⟩
   ·show cA (Ba.say _ _ _ _).1
    refine cA.say ?_ _ _ _;exact⟨i.ok,i.rd,⟨by show(1:Int)<=3;decide,by show(3:Int)<=3;decide⟩,⟨Int.le_refl _,by show(0:Int)<=1099511627776;decide⟩,hp,hp,i.dec,i.HI,i.vs⟩
  ·exact i
 ·exact i
theorem nothing (i:cA a):cA a.nothing.1:=by
 unfold Ba.nothing;split
 ·exact(i.to (by decide) (by decide)).say _ _ _
 ·exact i
theorem propose (i:cA a) (want:List UInt8):cA (a.propose want).1:=by
 unfold Ba.propose;split
 ·show cA (Ba.say _ _ _ _).1
  refine cA.say ?_ _ _ _;exact⟨i.ok,i.rd,i.st,i.age,i.lk,i.vl,i.dec,i.HI,i.vs⟩
 ·exact i
theorem rule (i:cA a) (want:List UInt8) (may:List (List UInt8)) (k:Nat):cA (a.rule want may k).1:=by
 unfold Ba.rule;split
 ·exact i.rA
 ·exact i.skip
 ·exact i.fresh may
 ·exact i.old
 ·exact i.lock
 ·exact i.nothing
 ·exact i.propose want
theorem from_ (i:cA a) (want:List UInt8) (may:List (List UInt8)):∀(n k:Nat),cA (a.from_ want may n k).1:=by
 intro n;induction n with
 | zero=>intro k;exact i
 | succ n ih=>
  intro k;unfold Ba.from_;split
  ·exact i.rule want may k
  ·exact ih (k+1)
theorem run (want:List UInt8) (may:List (List UInt8)):∀(n:Nat) {a:Ba} (out:List Mg),cA a->cA (Ba.run want may n a out).1:=by
 intro n;induction n with
 | zero=>intro a out i;exact i
 | succ n ih=>
  intro a out i;unfold Ba.run;split
  ·split
   ·exact ih _ (i.from_ want may _ _)
   ·exact i
  ·exact i
theorem NW (i:cA a) (want:List UInt8) (may:List (List UInt8)):cA (a.NW want may).1:=cA.run want may 1000 [] i
theorem late (i:cA a):cA a.late.1:=by
 unfold Ba.late;split
 ·exact(i.to (by decide) (by decide)).say _ _ _
 ·split
  ·split
   ·exact(i.to (by decide) (by decide)).say _ _ _
   ·exact i
  ·split
   ·rename_i h
    simp only [Bool.and_eq_true,decide_eq_true_eq]at h;exact i.sS (by omega) (by omega)
   ·exact i
theorem older (i:cA a):cA a.older:=by
 refine⟨i.ok,i.rd,i.st,?_,i.lk,i.vl,i.dec,i.HI,i.vs⟩;show 0<=min (a.s.age+1) 1099511627776/\min (a.s.age+1) 1099511627776<=1099511627776;have:=i.age;omega
theorem sF (i:cA a) (want:List UInt8):cA (a.sF want).1:=by
 unfold Ba.sF;split
 ·split
  ·exact i.older.late
  ·exact i.older
 ·exact i
theorem tick (i:cA a) (want:List UInt8) (may:List (List UInt8)):cA (a.tick want may).1:=(i.sF want).NW want may
theorem give (i:cA a) (fr:Int) (k:Nat) (h r vl:Int) (tx:List UInt8):cA (a.give fr k h r vl tx):=by
 unfold Ba.give;split
 ·exact i.put _
 ·exact i
theorem start{h n t me:Int} (ok:Do h n t me):cA ⟨.start h n t me,[]⟩:=
 ⟨ok,⟨by show(0:Int)<=0;decide,by show(0:Int)<=99;decide⟩,⟨by show(1:Int)<=1;decide,by show(1:Int)<=3;decide⟩,⟨by show(0:Int)<=0;decide,by show(0:Int)<=1099511627776;decide⟩,(nZ _ _ _).2 ⟨by show 0<=2048;decide,by show(-1:Int)<= -1;decide,by show(-1:Int)<=0;decide,⟨fun _=>rfl,fun _=>rfl⟩⟩,(nZ _ _ _).2 ⟨by show 0<=2048;decide,by show(-1:Int)<= -1;decide,by show(-1:Int)<=0;decide,⟨fun _=>rfl,fun _=>rfl⟩⟩,by show 0<=2048;decide,.nil,fun v hv=>by cases hv⟩
end cA
def bz (b:Bool):Int:=if b then 1 else 0
def Ba.mu (a:Ba):Int:=10*a.s.rd+2*a.s.st+bz a.s.seen+bz a.s.prop
theorem aBa (b:Bool):0<=bz b/\bz b<=1:=by cases b<;>simp [bz]
theorem Ba.VQ (a:Ba) (k:Nat) (vl:Int) (tx:List UInt8):(a.say k vl tx).1.mu=a.mu:=by
 unfold Ba.mu Ba.say;rw [cA.YU]
theorem cA.YV{a:Ba} (i:cA a):0<=a.mu/\a.mu<1000:=by
 have h1:=i.rd;have h2:=i.st;have h3:=aBa a.s.seen;have h4:=aBa a.s.prop;unfold Ba.mu;omega
theorem Nr{a:Ba} (i:cA a) (want:List UInt8) (may:List (List UInt8)) (k:Nat) (h:(a.rule want may k).2.2=true):a.mu<(a.rule want may k).1.mu\/(a.rule want may k).1.s.dec≠[]:=by
 unfold Ba.rule at h ⊢;have h3:=aBa a.s.seen;have h4:=aBa a.s.prop;have h5:=i.st;split at h
 ·unfold Ba.rA at h ⊢
  cases q:a.rounds.findSome? a.nO with
  | none=>rw [q]at h;cases h
  | some tx=>
   right;obtain⟨r,_,hr⟩:=List.exists_of_findSome?_eq_some q;unfold Ba.nO at hr;split at hr
   ·rename_i v hv
    split at hr
    ·injection hr with hr;subst hr;exact(i.HJ hv).2.2.2.1
    ·cases hr
   ·cases hr
 ·unfold Ba.skip at h ⊢
  cases q:a.rounds.reverse.find? a.skips with
  | none=>rw [q]at h;cases h
  | some r=>
   left;have h1:=List.find?_some (p:=a.skips) q;unfold Ba.skips at h1;simp only [Bool.and_eq_true,decide_eq_true_eq]at h1;show a.mu<10*r+2*1+bz false+bz false;unfold Ba.mu;have:bz false=0:=rfl;omega
 ·left
  unfold Ba.fresh at h ⊢;split at h
  ·split at h
   ·rename_i h1
    simp only [Bool.and_eq_true,decide_eq_true_eq]at h1;simp only [h1,decide_true,Bool.and_self,if_true];show a.mu<(a.iT _ _).1.mu;unfold Ba.iT;rw [Ba.VQ];show a.mu<10*a.s.rd+2*2+bz a.s.seen+bz a.s.prop;unfold Ba.mu;omega
   ·cases h
  ·cases h
 ·left
  unfold Ba.old at h ⊢;split at h
  ·split at h
   ·rename_i h1
    have h2:=h1;simp only [Bool.and_eq_true,decide_eq_true_eq]at h2;simp only [h1,if_true];show a.mu<(a.iT _ _).1.mu;unfold Ba.iT;rw [Ba.VQ];show a.mu<10*a.s.rd+2*2+bz a.s.seen+bz a.s.prop;unfold Ba.mu;omega
   ·cases h
  ·cases h
 ·left
  unfold Ba.lock at h ⊢;split at h
  ·split at h
   ·rename_i h1
    have h2:=h1;simp only [Bool.and_eq_true,Bool.not_eq_true',decide_eq_false_iff_not]at h2;simp only [h1,if_true];have e1:bz true=1:=rfl;have e2:bz a.s.seen=0:=by rw [h2.1.2];rfl
    split
    ·show a.mu<10*a.s.rd+2*a.s.st+bz true+bz a.s.prop
     unfold Ba.mu;omega
    ·show a.mu<(Ba.say _ _ _ _).1.mu
     rw [Ba.VQ];show a.mu<10*a.s.rd+2*3+bz true+bz a.s.prop;unfold Ba.mu;omega
   ·cases h
  ·cases h
 ·left
  unfold Ba.nothing at h ⊢;split at h
  ·rename_i h1
   have h2:=h1;simp only [Bool.and_eq_true,decide_eq_true_eq]at h2;simp only [h1,if_true];show a.mu<(Ba.say _ _ _ _).1.mu;rw [Ba.VQ];show a.mu<10*a.s.rd+2*3+bz a.s.seen+bz a.s.prop;unfold Ba.mu;omega
  ·cases h
 ·left
  unfold Ba.propose at h ⊢;split at h
  ·rename_i h1
   have h2:=h1;simp only [Bool.and_eq_true,Bool.not_eq_true']at h2;simp only [h1,if_true];show a.mu<(Ba.say _ _ _ _).1.mu;rw [Ba.VQ];have e1:bz true=1:=rfl;have e2:bz a.s.prop=0:=by rw [h2.1.1.2];rfl
   show a.mu<10*a.s.rd+2*a.s.st+bz a.s.seen+bz true;unfold Ba.mu;omega
  ·cases h
theorem aBb{a:Ba} (i:cA a) (want:List UInt8) (may:List (List UInt8)):∀(n k:Nat),(a.from_ want may n k).2.2=true->a.mu<(a.from_ want may n k).1.mu\/(a.from_ want may n k).1.s.dec≠[]:=by
 intro n;induction n with
 | zero=>intro k h;cases h
 | succ n ih=>
  intro k h;unfold Ba.from_ at h ⊢;split
  ·rename_i h1;exact Nr i want may k h1
  ·rename_i h1;rw [if_neg h1]at h;exact ih (k+1) h
set_option maxRecDepth 4000
structure Bal (S:Hp) (b t m:Nat) (ty:TypeId) (a:Ba):Prop where
 row:S b=some (.row (kP a.s t) ty)
 LQ:∃l0,Tal S t m a.s.n l0/\l0.Perm a.l
 inv:cA a
 bt:b≠t
 bm:b≠m
 tm:t≠m
def Ch (S S':Hp) (b m:Nat):Prop:=∀i,i≠b->i≠m->S' i=S i
theorem Ch.refl{S:Hp}{b m:Nat}:Ch S S b m:=fun _ _ _=>rfl
theorem Ch.trans{S S1 S2:Hp}{b m:Nat} (h:Ch S S1 b m) (k:Ch S1 S2 b m):Ch S S2 b m:=fun i h1 h2=>(k i h1 h2).trans (h i h1 h2)
theorem Ch.Kx{S:Hp}{b m:Nat}{o:Ob}:Ch S (upd S b o) b m:=fun i h1 _=>aG h1
theorem Ch.aHs{S:Hp}{b m:Nat}{o:Ob}:Ch S (upd S m o) b m:=fun i _ h1=>aG h1
def After (S:Hp) (b t m:Nat) (ty:TypeId) (a:Ba) (K:Hp->Prop):Prop:=∀S',Ch S S' b m->Bal S' b t m ty a->K S'
section
variable{ov:XE}{M n b t m:Nat}{x:VE}{S S':Hp}{K:KV}{ty:TypeId}{a:Ba}
theorem Bal.le (k:Bal S b t m ty a) (h:dL S S'):Bal S' b t m ty a:=by
 obtain⟨l0,h1,h2⟩:=k.LQ;exact⟨h _ _ k.row,⟨l0,h1.le h,h2⟩,k.inv,k.bt,k.bm,k.tm⟩
theorem Bal.okl (k:Bal S b t m ty a):∃l0,Tal S t m (a.s.n.toNat:Int) l0/\Okl a.s.n.toNat l0/\l0.Perm a.l:=by
 obtain⟨l0,h1,h2⟩:=k.LQ;have hn:=k.inv.ok.1;have e:(a.s.n.toNat:Int)=a.s.n:=by omega
 refine⟨l0,by rw [e];exact h1,⟨by omega,?_,fun v hv=>?_⟩,h2⟩
 ·rw [h2.length_eq]
  have:=Cz k.inv.HI hn.2 fun v hv=>(k.inv.vs v hv).1;omega
 ·have:=(rB _ _).1 (k.inv.vs v (h2.mem_iff.1 hv)).1
  omega
theorem Bal.set (k:Bal S b t m ty a){s:Bs} (hn:s.n=a.s.n) (i:cA ⟨s,a.l⟩):Bal (upd S b (.row (kP s t) ty)) b t m ty ⟨s,a.l⟩:=by
 obtain⟨l0,h1,h2⟩:=k.LQ;refine⟨upd_same,⟨l0,⟨?_,?_⟩,h2⟩,i,k.bt,k.bm,k.tm⟩
 ·rw [aG (Ne.symm k.bt)]
  show S t=some (.row [.int .i64 s.n,.rS m] 96);rw [hn];exact h1.row
 ·rw [aG (Ne.symm k.bm)];exact h1.map
theorem Yg (hM:M≠0) (hf:ov cN=none) (hf1:ov bR=none) (hf2:ov eI=none) (hf3:ov dO=none) (hx:Deep PP bM ov M (n+3) x) (k:Bal S b t m ty a){v:Vo} (hr:v.rd<=1000000) (hk:After S b t m ty (a.put v) fun S'=>K (.bool (a.s.takes a.l v)) S'):x.call cN [.ptr b 0,.agg v.vv] S K:=by
 obtain⟨l0,h1,h2⟩:=k.LQ;have hok:=k.inv.ok;refine aEM hM hf hf1 hf2 hf3 hx k.row h1 (by have:=hok.2.1;omega) (by have:=hok.1;omega) hr (fun e=>?_) (fun e=>?_)
 ·rw [VP k.inv.HI h2]at e
  have:=hk S .refl (by unfold Ba.put;rw [e];exact k)
  rwa [e]at this
 ·rw [VP k.inv.HI h2]at e
  have:=hk (upd S m (.map ((l0++[v]).map eV))) .aHs ?_
  ·rwa [e]at this
  ·have i:=k.inv.put v
   unfold Ba.put at i ⊢;rw [e]at i ⊢;refine⟨by rw [aG k.bm];exact k.row,⟨l0++[v],⟨by rw [aG k.tm];exact h1.row,upd_same⟩,?_⟩,i,k.bt,k.bm,k.tm⟩;exact((List.Perm.append_right [v] h2)).trans (IE v a.l).symm
end
def Mg.dt (g:Mg):List Dt:=[.int .u8 (.ofNat g.kd),.int .i64 0,.int .i64 0,.int .i64 g.h,.int .i64 g.r,.int .i64 g.vl,.int .i64 0,.int .i64 0,.int .i64 0,.str g.tx,.list [] 0]
def Mg.vv (g:Mg):List V:=[.int .u8 (.ofNat g.kd),.int .i64 0,.int .i64 0,.int .i64 g.h,.int .i64 g.r,.int .i64 g.vl,.int .i64 0,.int .i64 0,.int .i64 0,.str g.tx,.nil]
def yZ (l:List Mg):List Dt:=l.flatMap Mg.dt
theorem zA (l:List Mg):(yZ l).length=l.length*11:=by
 induction l with
 | nil=>rfl
 | cons v l ih=>simp [yZ,Mg.dt]at ih ⊢;omega
section
variable{ov:XE}{M n b t m:Nat}{x:VE}{S S':Hp}{K:KV}{ty:TypeId}{a:Ba}
theorem Yh{g:Mg}{S S':Hp} (q:Nat) (v:V) (d:Dt) (e1:g.vv[q]? =some v) (e2:g.dt[q]? =some d):RQ S' S v d:=by
 match q with
 | 0 | 1 | 2 | 3 | 4 | 5 | 6 | 7 | 8=>injection e1 with e1;injection e2 with e2;subst e1 e2;exact .int
 | 9=>injection e1 with e1;injection e2 with e2;subst e1 e2;exact .str
 | 10=>injection e1 with e1;injection e2 with e2;subst e1 e2;exact .nil
 | q+11=>simp [Mg.vv]at e1
theorem Dc (g:Mg):yZ [g]=g.dt:=by simp [yZ]
theorem Dd{g:Mg}{S S':Hp}{K:KV}{j:Nat} (h:S j=some (.row g.vv 45)) (hn:S' j=none) (hl:dL S' S) (hk:∀O,K (.list O (yZ [g]) 1) S'):aS (.own j 0 1 1) S K:=by
 refine rU (S':=S') (cs:=yZ [g]) hl (.own h hn (Nat.le_refl _) (by rw [Dc];simp [Mg.dt,Mg.vv]) fun q v d e1 e2=>?_) hk;rw [Nat.zero_add]at e1;rw [Dc]at e2;exact Yh q v d e1 e2
theorem Hi (hM:M≠0) (hf0:ov bV=none) (hf:ov cN=none) (hf1:ov bR=none) (hf2:ov eI=none) (hf3:ov dO=none) (hx:Deep PP bM ov M (n+4) x) (k:Bal S b t m ty a){kd:Nat}{vl:Int}{tx:List UInt8}
 (hk:After S b t m ty (a.say kd vl tx).1 fun S'=>∀j,S' j=none->aS (.own j 0 1 1) (upd S' j (.row (Mg.vv ⟨kd,a.s.h,a.s.rd,vl,tx⟩) 45)) K):x.call bV [.ptr b 0,.int .u8 (.ofNat kd),.int .i64 vl,.str tx] S K:=by
 refine hx.call hf0 fun y hy=>?_;rw [IZ];unfold yA;have l3:∀{K:KV},aE (.ptr b 3) S K=K (.int .i64 a.s.me) S:=aJ k.row;have l4:∀{K:KV},aE (.ptr b 4) S K=K (.int .i64 a.s.rd) S:=aJ k.row;simp only [aP,eO,Nat.zero_add,l3,l4];refine lW rfl (bC rfl (by simp) (bC rfl (by simp) (bC rfl (by simp) (bC rfl (by simp) (bC rfl (by simp) (oO ?_))))));refine Yg (v:=⟨a.s.me,a.s.rd,kd,vl,tx⟩) hM hf hf1 hf2 hf3 hy k (show a.s.rd<=1000000 by have:=k.inv.rd;omega) fun S1 c1 k1=>?_;have es:(a.put ⟨a.s.me,a.s.rd,kd,vl,tx⟩).s=a.s:=cA.YU _ _;have r1:=k1.row;rw [es]at r1;have l0':∀{K:KV},aE (.ptr b 0) S1 K=K (.int .i64 a.s.h) S1:=aJ r1;have l3':∀{K:KV},aE (.ptr b 3) S1 K=K (.int .i64 a.s.me) S1:=aJ r1;have l4':∀{K:KV},aE (.ptr b 4) S1 K=K (.int .i64 a.s.rd) S1:=aJ r1;simp only [l0',l3',l4',cZ];refine lW rfl (bC rfl (by simp) (bC rfl (by simp) (bC rfl (by simp) (bC rfl (by simp) (bC rfl (by simp) (oO ?_))))));have hb:∀{K:KV},(∀j,S1 j=none->K (.own j 0 1 1) (upd S1 j (.row (Mg.vv ⟨kd,a.s.h,a.s.rd,vl,tx⟩) 45)))->dP 45 1 [(.int .u8 (.ofNat 0)),(.int .i64 (.ofNat 0)),(.int .i64 (.ofNat 0)),(.int .i64 (.ofNat 0)),(.int .i64 (.ofNat 0)),(.int .i64 (.ofNat 0)),(.int .i64 (.ofNat 0)),(.int .i64 (.ofNat 0)),(.int .i64 (.ofNat 0)),(.string ⟨⟨[]⟩⟩),(.slice none 0 0)] [(0,11,.agg (Mg.vv ⟨kd,a.s.h,a.s.rd,vl,tx⟩))] S1 K:=fun h=>oQ rfl rfl rfl rfl h;refine⟨hb fun j hj=>trivial,hb fun j hj=>?_⟩;exact hk S1 c1 k1 j hj
theorem aGo (hM:M≠0) (hf0:ov bV=none) (hf:ov cN=none) (hf1:ov bR=none) (hf2:ov eI=none) (hf3:ov dO=none) (hx:Deep PP bM ov M (n+4) x) (k:Bal S b t m ty a){kd:Nat}{vl:Int}{tx:List UInt8}
 (hk:After S b t m ty (a.say kd vl tx).1 fun S'=>∀O,K (.list O (yZ (a.say kd vl tx).2) 1) S'):x.call bV [.ptr b 0,.int .u8 (.ofNat kd),.int .i64 vl,.str tx] S K:=
 Hi hM hf0 hf hf1 hf2 hf3 hx k fun S1 c1 k1 j hj=>Dd upd_same hj (.aV hj) fun O=>hk S1 c1 k1 O
end
set_option maxRecDepth 4000
theorem Yk:gT gH=none:=rfl
theorem YW:gT bJ=none:=rfl
theorem Nz:gT cN=none:=rfl
theorem aCC:gT bV=none:=rfl
theorem vP:gT bR=none:=rfl
theorem Oa:gT eI=none:=rfl
theorem Oc:gT dO=none:=rfl
theorem Ky:gT cU=none:=rfl
theorem Kz:gT jB=none:=rfl
theorem Ym:gT eY=none:=rfl
theorem VW:gT eX=none:=rfl
theorem aBk:gT fK=none:=rfl
theorem La:gT eD=none:=rfl
theorem aGr:gT cH=none:=rfl
theorem aBl:gT fR=none:=rfl
theorem aEW{n i q o:Nat}{vs:List V}{t:TypeId}{S:Hp}{K:KV} (h:S i=some (.iD vs t q)) (hl:o+n<=vs.length) (hk:K (.agg ((vs.drop o).take n)) S):dK n (.nV i q o) S K:=by
 unfold dK;simp only [h];exact⟨trivial,by rw [eE hl];exact hk⟩
theorem VX (l:List Vo) (i:Nat) (v:Vo) (h:l[i]? =some v):((AT l).drop (i*5)).take 5=v.vv:=by
 rw [Ns l (.root 0),<-List.map_drop,<-List.map_take,PV l i v h];rfl
theorem Hk{el:TypeId}{k:IntKind}{z0 z:Int}{S:Hp}{K:KV} (hk:∀j,S j=none->K (.own j 0 1 1) (upd S j (.row [.int k z] el))):dP el 1 [.int k z0] [(0,1,.int k z)] S K:=by
 unfold dP;show wK [(0,1,.int k z)] [.int k z0] _;exact⟨rfl,by simp,hk⟩
theorem Rr (l:List Vo) (i:Nat) (h:i<l.length):ints ((l.map (·.rd)).take (i+1))=ints ((l.map (·.rd)).take i)++[.int .i64 l[i].rd]:=by
 rw [List.take_add_one,List.getElem?_map,List.getElem?_eq_getElem h];simp [ints]
section
variable{M n b t m:Nat}{x:VE}{S:Hp}{K:KV}{ty:TypeId}{a:Ba}
theorem Rs{l:List Vo}{j N:Nat} (hx:Deep PP bM gT M (n+1) x) (hN:l.length=N) (h0:1<=N) (hM:N<M) (hb:N<=100000) (hj:S j=none) (hk:∀O,K (.list O (pQ (dd (l.map (·.rd)))) (dd (l.map (·.rd))).length) S):
 ∀(q i:Nat) (t3:V) (S1 S2:Hp),N<=i+q->i<=N->Made 3 1 (upd S j (.iD (AT l) 39 N)) t3 S1 (ints ((l.map (·.rd)).take i)) i->dL S1 S2->jC x (q+1) t3 (.acc j N) (.int .i64 (.ofNat N)) (.int .i64 (.ofNat i)) S2 K:=by
 intro q;have hle0:dL S (upd S j (.iD (AT l) 39 N)):= .aV hj
 have fin:∀{i:Nat} {t3:V} {S1:Hp},N<=i->i<=N->Made 3 1 (upd S j (.iD (AT l) 39 N)) t3 S1 (ints ((l.map (·.rd)).take i)) i->(x.call bJ [t3] S1 fun v9 S=>aS v9 S K):=by
  intro i t3 S1 h1 h2 a;have:i=N:=by omega
  subst this;rw [List.take_of_length_le (by rw [List.length_map];omega)]at a;have hle1:=hle0.trans a.le;rcases a.is with ⟨h3,_,_⟩ | ⟨k,rfl,h4,rfl⟩
  ·omega
  ·refine Rl (S':=S) YW hx (by rw [List.length_map,hN]) hM (by omega) (hle0.none h4) hle1 h0 upd_same fun O=>aK (hk O)
 induction q with
 | zero=>
  intro i t3 S1 S2 hq hi a hs;rw [lN];unfold iR;refine lE S1 hs ?_;rw [aI,aT,if_neg (by simp;omega)];exact fin hq hi a
 | succ q ih=>
  intro i t3 S1 S2 hq hi a hs;rw [lN];unfold iR;refine lE S1 hs ?_;rw [aI,aT];by_cases hlt:i<N
  ·have hj1:S1 j=some (.iD (AT l) 39 N):=a.le _ _ upd_same
   rw [if_pos (by simp;omega),dR hlt];refine aEW hj1 (by rw [pH];omega) ?_;rw [VX l i l[i] (List.getElem?_eq_getElem (by omega))];refine cG (l:=tG.vv) rfl fun k hk0=>?_;refine gE upd_same (by rfl) (by rfl) (by rfl) ?_;rw [cP,eO];refine iO upd_same rfl ?_;refine Hk fun k2 hk2=>?_;obtain⟨_,hk3⟩:=pL hk2;refine a.app (bytes:=8) (m:=1) (new:=[.int .i64 l[i].rd]) ((dL.aV hk0).trans (.aV hk2)) (fun p hp=>a.le.none (pL (pL hp).2).2) (fun r hr=>zZ upd_same rfl hr) (by omega) rfl rfl (by omega) ?_;intro t4 S4 S3 b hle;rw [bA,fF (by omega)];rw [<-Rr l i (by omega)]at b;exact ih (i+1) t4 S3 S4 (by omega) (by omega) b hle
  ·rw [if_neg (by simp;omega)]
   exact fin (by omega) hi a
theorem VY (hx:Deep PP bM gT M (n+2) x) (hM:100000<M) (k:Bal S b t m ty a) (hk:∀O,K (.list O (pQ a.rounds) a.rounds.length) S):x.call gH [.ptr t 0] S K:=by
 refine hx.call Yk fun y hy=>?_;rw [HB];unfold wU;obtain⟨l0,h1,h2,h3⟩:=k.okl;have hs:=IF k.inv.HI h3;have hlen:a.l.length<=2400:=Cz k.inv.HI k.inv.ok.1.2 fun v hv=>(k.inv.vs v hv).1;have hm:y.most=M:=hy.most;obtain⟨p,hp⟩:=Nat.exists_eq_succ_of_ne_zero (show y.most≠0 by omega);refine hy.EG (f:=dJ) (g:=LJ) rfl ⟨t,m,a.s.n.toNat,l0,rfl,h1,h2,by rw [hs];exact k.inv.HI,fun e=>?_,fun e j hj=>?_⟩
 ·rw [hs]at e
  simp only [HW,hp];rw [lN];unfold iR;refine aN ?_;rw [aI,aT,if_neg (by simp)];refine hy.call YW fun z hz=>?_;rw [oS];unfold kK;rw [HW,aI,aT,if_pos (by simp)];have e2:a.rounds=[]:=by unfold Ba.rounds;rw [e];rfl
  rw [e2]at hk;exact rU (cs:=[]) (n:=0) (.refl S) .nil fun O=>aK (hk O)
 ·rw [hs]
  simp only [jW,hp];rw [hs]at e
  have h0:1<=a.l.length:=by
   cases q:a.l with
   | nil=>exact absurd q e
   | cons=>simp
  exact Rs hy rfl h0 (by omega) (by omega) hj hk p 0 .nil _ _ (by omega) (by omega) .nil (.refl _)
theorem FA (hx:Deep PP bM gT M (n+2) x) (k:Bal S b t m ty a){r:Int} (hr:0<=r/\r<=1000000) (hk:K (.tuple [.agg ((a.pr r).getD tG).vv,.bool (a.pr r).isSome]) S):x.call cU [.ptr b 0,.int .i64 r] S K:=by
 refine hx.call Ky fun y hy=>?_;rw [BY];unfold sB;refine cG (l:=tG.vv) rfl fun i hi=>?_;have le1:dL S (upd S i (.row tG.vv 39)):= .aV hi;have k1:=k.le le1;have l15:∀{K:KV},aE (.ptr b 15) (upd S i (.row tG.vv 39)) K=K (.ptr t 0) (upd S i (.row tG.vv 39)):=aJ k1.row;simp only [aP,eO,Nat.zero_add,l15];have hok:=k.inv.ok;refine LI vP hy k1.row (by have:=hok.2.1;omega) hr (by have:=hok.1;omega) ?_;simp only [l15,Bl];obtain⟨l0,h1,h2⟩:=k1.LQ;refine aEX Kz hy h1 ?_;rw [YT k.inv.HI h2];simp only [oZ,pA];refine gE upd_same (by rfl) (by rfl) (by rfl) ?_;rw [cP];refine fT upd_same rfl ?_;exact cI (.aV hi) hk
theorem NY (hx:Deep PP bM gT M (n+2) x) (k:Bal S b t m ty a){r:Int}{kd:Nat}{tx:List UInt8} (hk:K (.bool (a.agreed r kd tx)) S):x.call eY [.ptr b 0,.int .i64 r,.int .u8 (.ofNat kd),.str tx] S K:=by
 refine hx.call Ym fun y hy=>?_;rw [EV];unfold uC;have l15:∀{K:KV},aE (.ptr b 15) S K=K (.ptr t 0) S:=aJ k.row;simp only [aP,eO,Nat.zero_add,l15];obtain⟨l0,h1,h2,h3⟩:=k.okl;refine hy.EG (f:=lF) (g:=Db) rfl ⟨t,m,a.s.n.toNat,l0,r,kd,tx,rfl,h1,h2,?_⟩;rw [PU h3];refine VU VW hy k.row (by have:=k.inv.ok;have:=this.1;have:=k.inv.ok.2.2.1;omega) ?_;exact aK hk
end
def dV (l:List (List UInt8)):List Dt:=l.map Dt.str
theorem rC (l:List (List UInt8)):(dV l).length=l.length:=by simp [dV]
section
variable{M n b t m:Nat}{x:VE}{S:Hp}{K:KV}{ty:TypeId}{a:Ba}
theorem Yn{l:List (List UInt8)}{tx:List UInt8}{O:Tag} (hl:l.length<=1000000) (hk:∀i:Int,decide (0<=i)=l.contains tx->K (.int .i64 i) S):∀(q i:Nat),l.length<=i+q->i<=l.length->(∀j,j<i->l[j]? ≠some tx)->dU x (q+1) (.list O (dV l) l.length) (.str tx) (.int .i64 (.ofNat l.length)) (.int .i64 (.ofNat i)) S K:=by
 have fin:∀i,l.length<=i->(∀j,j<i->l[j]? ≠some tx)->aS (.int .i64 (.negSucc 0)) S K:=by
  intro i h1 h2;refine aK (hk _ ?_);rw [Bool.eq_iff_iff,List.contains_iff_mem];simp only [decide_eq_true_eq];constructor
  ·intro h;exact absurd h (by decide)
  ·intro h
   obtain⟨j,hj⟩:=List.getElem?_of_mem h;have:=(List.getElem?_eq_some_iff.1 hj).1;exact absurd hj (h2 j (by omega))
 intro q;induction q with
 | zero=>
  intro i h1 h2 h3;rw [kD];unfold fZ;refine aN ?_;rw [aI,aT,if_neg (by simp;omega)];exact fin i h1 h3
 | succ q ih=>
  intro i h1 h2 h3;rw [kD];unfold fZ;refine aN ?_;rw [aI,aT];by_cases hlt:i<l.length
  ·rw [if_pos (by simp;omega),qN hlt,JP,Nat.mul_one,jF (a:= .str l[i]) (by unfold dV;rw [List.getElem?_map,List.getElem?_eq_getElem hlt];rfl)]
   show aF PP .eql 9 (.str tx) (.str l[i]) _;rw [gL,aT];by_cases e:tx=l[i]
   ·rw [if_pos (by simp [e])]
    refine aK (hk _ ?_);rw [Bool.eq_iff_iff,List.contains_iff_mem];simp only [decide_eq_true_eq];exact⟨fun _=>by rw [e];exact List.getElem_mem hlt,fun _=>Int.natCast_nonneg _⟩
   ·rw [if_neg (by simp [e]),bA,fF (by omega)]
    refine ih (i+1) (by omega) (by omega) fun j hj=>?_;by_cases hji:j=i
    ·subst hji;rw [List.getElem?_eq_getElem hlt];intro q;injection q with q;exact e q.symm
    ·exact h3 j (by omega)
  ·rw [if_neg (by simp;omega)]
   exact fin i (by omega) h3
theorem Lb (hx:Deep PP bM gT M (n+2) x){l:List (List UInt8)}{tx:List UInt8}{O:Tag} (hl:l.length<=1000000) (hM:l.length<M) (hk:K (.bool (l.contains tx)) S):x.call eD [.list O (dV l) l.length,.str tx] S K:=by
 refine hx.call La fun y hy=>?_;rw [rN];unfold lG;refine hy.call aBk fun z hz=>?_;rw [tF];unfold mV;have hm:z.most=M:=hz.most;obtain⟨p,hp⟩:=Nat.exists_eq_succ_of_ne_zero (show z.most≠0 by omega);rw [iY,hp];refine Yn hl (fun i e=>?_) p 0 (by omega) (by omega) (fun j hj=>by omega);rw [dG];refine aK ?_;have:decide (Int.ofNat 0<=i)=l.contains tx:=e;rw [this];exact hk
theorem to2 (hx:Deep PP bM gT M (n+1) x) (k:Bal S b t m ty a){z:Int} (h1:1<=z) (h2:z<=3) (hk:After S b t m ty (a.to z) fun S'=>K (.tuple []) S'):x.call cH [.ptr b 0,.int .i64 z] S K:=
 aGk aGr hx k.row (hk _ .Kx (k.set rfl (k.inv.to h1 h2)))
theorem Yo (hx:Deep PP bM gT M (n+2) x) (k:Bal S b t m ty a){r:Int} (h1:a.s.rd<=r) (h2:r<=99) (hk:After S b t m ty (a.sS r) fun S'=>K (.tuple []) S'):x.call fR [.ptr b 0,.int .i64 r] S K:=
 aBd aBl aGr hx k.row (hk _ .Kx (k.set rfl (k.inv.sS h1 h2)))
theorem aBm (hM:M≠0) (hx:Deep PP bM gT M (n+4) x) (k:Bal S b t m ty a){kd:Nat}{vl:Int}{tx:List UInt8}
 (hk:After S b t m ty (a.say kd vl tx).1 fun S'=>∀O,K (.list O (yZ (a.say kd vl tx).2) 1) S'):x.call bV [.ptr b 0,.int .u8 (.ofNat kd),.int .i64 vl,.str tx] S K:=aGo hM aCC Nz vP Oa Oc hx k hk
end
set_option maxRecDepth 4000
theorem Yp:gT eW=none:=rfl
theorem Rt:gT eF=none:=rfl
theorem aBn:gT gY=none:=rfl
theorem aGs:gT jG=none:=rfl
theorem aEY:gT iL=none:=rfl
theorem Ru:gT gC=none:=rfl
theorem Rv:gT dH=none:=rfl
section
variable{M n b t m:Nat}{x:VE}{S:Hp}{K:KV}{ty:TypeId}{a:Ba}
theorem vW{s:Bs} (h:S b=some (.row (kP s t) ty)):(∀{K:KV},aE (.ptr b 0) S K=K (.int .i64 s.h) S)/\(∀{K:KV},aE (.ptr b 1) S K=K (.int .i64 s.n) S)/\(∀{K:KV},aE (.ptr b 2) S K=K (.int .i64 s.t) S)/\(∀{K:KV},aE (.ptr b 3) S K=K (.int .i64 s.me) S)/\(∀{K:KV},aE (.ptr b 4) S K=K (.int .i64 s.rd) S)/\(∀{K:KV},aE (.ptr b 5) S K=K (.int .i64 s.st) S)/\(∀{K:KV},aE (.ptr b 6) S K=K (.int .i64 s.age) S)/\(∀{K:KV},aE (.ptr b 7) S K=K (.str s.lock) S)/\(∀{K:KV},aE (.ptr b 8) S K=K (.str s.valid) S)/\(∀{K:KV},aE (.ptr b 9) S K=K (.int .i64 s.mW) S)/\(∀{K:KV},aE (.ptr b 10) S K=K (.int .i64 s.gA) S)/\(∀{K:KV},aE (.ptr b 11) S K=K (.bool s.prop) S)/\(∀{K:KV},aE (.ptr b 12) S K=K (.bool s.seen) S)/\(∀{K:KV},aE (.ptr b 13) S K=K (.str s.dec) S)/\(∀{K:KV},aE (.ptr b 14) S K=K .nil S)/\(∀{K:KV},aE (.ptr b 15) S K=K (.ptr t 0) S):=
 ⟨aJ h,aJ h,aJ h,aJ h,aJ h,aJ h,aJ h,aJ h,aJ h,aJ h,aJ h,aJ h,aJ h,aJ h,aJ h,aJ h⟩
theorem rO{i:Nat}{v:Vo}{ty:TypeId} (h:S i=some (.row v.vv ty)):(∀{K:KV},aE (.ptr i 0) S K=K (.int .i64 v.fr) S)/\(∀{K:KV},aE (.ptr i 1) S K=K (.int .i64 v.rd) S)/\(∀{K:KV},aE (.ptr i 2) S K=K (.int .u8 (.ofNat v.kd)) S)/\(∀{K:KV},aE (.ptr i 3) S K=K (.int .i64 v.vl) S)/\(∀{K:KV},aE (.ptr i 4) S K=K (.str v.tx) S):=
 ⟨aJ h,aJ h,aJ h,aJ h,aJ h⟩
def Rw (K:KV) (r:R3) (S':Hp):Prop:=∀O,K (.tuple [.list O (yZ r.2.1) r.2.1.length,.bool r.2.2]) S'
theorem LK{r:R3} (hk:After S b t m ty r.1 (Rw K r)) (k:Bal S b t m ty a) (e:r=a.no){S1:Hp} (l:dL S S1):aS (.tuple [.nil,.bool false]) S1 K:=by
 subst e;exact vK (cs:=[]) (n:=0) l .nil fun O=>hk S .refl k O
theorem shrink{a':Ba}{S2 S3:Hp}{K0:Hp->Prop} (k:Bal S b t m ty a) (le:dL S S2) (hk:After S b t m ty a' K0) (c:Ch S2 S3 b m) (k3:Bal S3 b t m ty a'):∃S',dL S' S3/\(∀q,q≠b->q≠m->S' q=S q)/\K0 S':=by
 have h:∀q,q≠b->q≠m->∀o,S q=some o->S3 q=some o:=fun q h1 h2 o e=>by rw [c q h1 h2];exact le q o e
 refine⟨fun q=>if q=b\/q=m then S3 q else S q,fun q o e=>?_,fun q h1 h2=>if_neg (by simp [h1,h2]),hk _ (fun q h1 h2=>if_neg (by simp [h1,h2])) ?_⟩
 ·have e:(if q=b\/q=m then S3 q else S q)=some o:=e
  by_cases hq:q=b\/q=m
  ·rw [if_pos hq]at e;exact e
  ·rw [if_neg hq]at e
   simp only [not_or]at hq;exact h q hq.1 hq.2 o e
 ·obtain⟨l0,h1,h2⟩:=k3.LQ
  obtain⟨l1,g1,g2⟩:=k.LQ
  have et:S t=some (.row [.int .i64 a'.s.n,.rS m] 96):=by
   have q1:=h t (Ne.symm k.bt) k.tm _ g1.row;rw [h1.row]at q1;rw [g1.row,<-q1]
  refine⟨?_,⟨l0,⟨?_,?_⟩,h2⟩,k3.inv,k.bt,k.bm,k.tm⟩
  ·show(if b=b\/b=m then S3 b else S b)=_
   rw [if_pos (.inl rfl)];exact k3.row
  ·show(if t=b\/t=m then S3 t else S t)=_
   rw [if_neg (by simp [Ne.symm k.bt,k.tm])];exact et
  ·show(if m=b\/m=m then S3 m else S m)=_
   rw [if_pos (.inr rfl)];exact h1.map
theorem AS{r:R3}{S2 S3:Hp} (k:Bal S b t m ty a) (le:dL S S2) (hk:After S b t m ty r.1 (Rw K r)) (c:Ch S2 S3 b m) (k3:Bal S3 b t m ty r.1){O:Tag} (hb:r.2.2=true):aS (.tuple [.list O (yZ r.2.1) r.2.1.length,.bool true]) S3 K:=by
 obtain⟨S',q1,_,q2⟩:=shrink k le hk c k3;exact vK q1 .list fun O=>by have:=q2 O;rwa [hb]at this
theorem Df (a:Ba) (k:Nat) (vl:Int) (tx:List UInt8):(a.say k vl tx).1.s=a.s:=cA.YU _ _
def wV (want:List UInt8) (may:List (List UInt8)) (O:Tag):List V:=[.str want,.list O (dV may) may.length]
theorem Hl{want:List UInt8}{may:List (List UInt8)}{O:Tag}{K:KV} (hk:∀i,S i=none->K (.ptr i 0) (upd S i (.row (wV want may O) 78))):nW 78 (.agg (wV want may O)) S K:=eQ rfl hk
theorem Rx{rs:List Int}{O:Tag} (hx:Deep PP bM gT M (n+2) x) (k:Bal S b t m ty a) (hr:∀r∈rs,0<=r/\r<=99) (hl:rs.length<=100000) (hk:match rs.findSome? a.nO with
 | some tx=>After S b t m ty ⟨{a.s with dec:=tx},a.l⟩ (Rw K (⟨{a.s with dec:=tx},a.l⟩,[],true))
 | none=>After S b t m ty a (Rw K a.no)):∀(q i:Nat) (S1:Hp),rs.length<=i+q->i<=rs.length->(rs.take i).findSome? a.nO=none->dL S S1->fU x (q+1) (.ptr b 0) (.list O (pQ rs) rs.length) (.int .i64 (.ofNat rs.length)) (.int .i64 (.ofNat i)) S1 K:=by
 have fin:∀i,rs.length<=i->(rs.take i).findSome? a.nO=none->aS (.tuple [.nil,.bool false]) S K:=by
  intro i h1 h2;rw [List.take_of_length_le h1]at h2;rw [h2]at hk;exact LK hk k rfl (.refl S)
 intro q;induction q with
 | zero=>
  intro i S1 h1 h2 h3 hle;rw [pO];unfold kZ;refine lE S hle ?_;rw [aI,aT,if_neg (by simp;omega)];exact fin i h1 h3
 | succ q ih=>
  intro i S1 h1 h2 h3 hle;rw [pO];unfold kZ;refine lE S hle ?_;rw [aI,aT];by_cases hlt:i<rs.length
  ·rw [if_pos (by simp;omega),qN hlt,JP,Nat.mul_one,jF (a:= .int .i64 rs[i]) (by unfold pQ;rw [List.getElem?_map,List.getElem?_eq_getElem hlt];rfl)]
   have hri:=hr rs[i] (List.getElem_mem hlt);show x.call cU [.ptr b 0,.int .i64 rs[i]] S _;refine FA hx k ⟨hri.1,by omega⟩ ?_;simp only [oZ,pA];refine cG (l:=tG.vv) rfl fun j hj=>?_;refine gE upd_same (by rfl) (by rfl) (by rfl) ?_;rw [cP];have le1:dL S (upd S j (.row ((a.pr rs[i]).getD tG).vv 39)):= .aV hj;have rj:upd S j (.row ((a.pr rs[i]).getD tG).vv 39) j=some (.row ((a.pr rs[i]).getD tG).vv 39):=upd_same;have hbj:b≠j:=fun e=>by have:=k.row;rw [e,hj]at this;cases this
   generalize hS2:upd S j (.row ((a.pr rs[i]).getD tG).vv 39)=S2 at le1 rj;have k2:=k.le le1;obtain⟨m0,m1,m2,m3,m4⟩:=rO rj
   have aCD:a.nO rs[i]=none->aF PP .add 3 (.int .i64 (.ofNat i)) (.int .i64 (.ofNat 1)) fun v21=>fU x (q+1) (.ptr b 0) (.list O (pQ rs) rs.length) (.int .i64 (.ofNat rs.length)) v21 S2 K:=by
    intro e;rw [bA,fF (by omega)];refine ih (i+1) S2 (by omega) (by omega) ?_ le1;rw [List.take_add_one,List.getElem?_eq_getElem hlt,List.findSome?_append,h3];simp [e]
   cases hp:a.pr rs[i]with
   | none=>
    rw [hp]at m0 m1 m2 m3 m4;simp only [Option.isSome_none,aP,aO,bD,dF,aR,aT,if_false,Bool.false_eq_true];exact aCD (by unfold Ba.nO;rw [hp])
   | some v=>
    rw [hp]at m0 m1 m2 m3 m4;have m4:∀{K:KV},aE (.ptr j 4) S2 K=K (.str v.tx) S2:=m4;simp only [Option.isSome_some,aP,aO,bD,aH,aR,if_true,m4];refine NY hx k2 ?_;simp only [aT];cases ha:a.agreed rs[i] 4 v.tx with
    | false=>
     simp only [if_false,Bool.false_eq_true];exact aCD (by unfold Ba.nO;simp [hp,ha])
    | true=>
     have hd:rs.findSome? a.nO=some v.tx:=by
      have:a.nO rs[i]=some v.tx:=by unfold Ba.nO;simp [hp,ha]
      have e3:(rs.drop i).findSome? a.nO=some v.tx:=by rw [List.drop_eq_getElem_cons hlt,List.findSome?_cons,this]
      have e4:=congrArg (fun l=>List.findSome? a.nO l) (List.take_append_drop i rs);simp only [List.findSome?_append,h3,e3]at e4;exact e4.symm
     rw [hd]at hk;simp only [if_true,m4];refine dQ k2.row rfl (by simp [kP]) ?_;refine vK (S':=upd S b (.row (kP {a.s with dec:=v.tx} t) ty)) (cs:=[]) (n:=0) (dL.upd le1) .nil fun O=>?_;have i2:cA ⟨{a.s with dec:=v.tx},a.l⟩:=⟨k.inv.ok,k.inv.rd,k.inv.st,k.inv.age,k.inv.lk,k.inv.vl,(k.inv.HJ hp).2.2.2.2.1,k.inv.HI,k.inv.vs⟩;exact hk _ .Kx (k.set rfl i2) O
  ·rw [if_neg (by simp;omega)]
   exact fin i (by omega) h3
theorem VZ (k:cA a):a.rounds.length<=2400:=by
 have h1:=Ya (a.l.map (·.rd)) (a.l.map (·.rd)).length;have h2:=Cz k.HI k.ok.1.2 fun v hv=>(k.vs v hv).1;rw [List.length_map]at h1;unfold Ba.rounds dd;rw [List.length_map];omega
theorem Yq (hM:100000<M) (hx:Deep PP bM gT M (n+3) x) (k:Bal S b t m ty a){want:List UInt8}{may:List (List UInt8)}{Ow:Tag} (hk:After S b t m ty a.rA.1 (Rw K a.rA)):x.call eW [.ptr b 0,.agg (wV want may Ow)] S K:=by
 refine hx.call Yp fun y hy=>?_;rw [ET];unfold uA;refine Hl fun i hi=>?_;have le1:dL S (upd S i (.row (wV want may Ow) 78)):= .aV hi;generalize hS1:upd S i (.row (wV want may Ow) 78)=S1 at le1;have k1:=k.le le1;obtain⟨l0,l1,l2,l3,l4,l5,l6,l7,l8,l9,l10,Ta,l12,XN,LS,l15⟩:=vW k1.row;simp only [aP,aO,l15];refine VY hy hM k1 fun O=>?_;have hm:y.most=M:=hy.most;have hlen:=VZ k.inv;obtain⟨p,hp⟩:=Nat.exists_eq_succ_of_ne_zero (show y.most≠0 by omega);simp only [iY,hp];refine Rx hy k (fun r hr=>k.inv.sU hr) (by omega) ?_ p 0 S1 (by omega) (by omega) rfl le1;unfold Ba.rA at hk;cases e:a.rounds.findSome? a.nO with
 | none=>rw [e]at hk;exact hk
 | some tx=>rw [e]at hk;exact hk
theorem YX (hM:100000<M) (hx:Deep PP bM gT M (n+5) x) (k:Bal S b t m ty a){tx:List UInt8}{free:Bool} (hk:After S b t m ty (a.iT tx free).1 (Rw K (Ba.yes (a.iT tx free)))):x.call eF [.ptr b 0,.str tx,.bool free] S K:=by
 refine hx.call Rt fun y hy=>?_;rw [CX];unfold tD;have hm:y.most≠0:=by rw [hy.most];omega
 refine to2 hy k (by decide) (by decide) fun S1 c1 k1=>?_
 have jo:∀u,(if !free&& !decide (a.s.lock=tx)then []else tx)=u->iQ y (.ptr b 0) (.str u) S1 K:=by
  intro u e;rw [xI y hm];unfold lB;refine aN ?_;refine aBm (by omega) hy k1 fun S2 c2 k2 O=>?_;have e2:a.iT tx free=(a.to 2).say 3 0 u:=by unfold Ba.iT;rw [e]
  rw [e2]at hk;exact vK (.refl S2) .list fun O=>hk S2 (c1.trans c2) k2 O
 obtain⟨l0,l1,l2,l3,l4,l5,l6,l7,l8,l9,l10,Ta,l12,XN,LS,l15⟩:=vW k1.row;have l7:∀{K:KV},aE (.ptr b 7) S1 K=K (.str a.s.lock) S1:=l7;cases free with
 | true=>
  simp only [bD,dF,aR,aT,fG,Bool.not_true,if_false,Bool.false_eq_true];exact jo tx rfl
 | false=>
  simp only [aP,aO,bD,aH,aR,aT,fG,Bool.not_false,if_true,l7,kT];by_cases e:a.s.lock=tx
  ·simp only [e,decide_true,Bool.not_true,if_false,Bool.false_eq_true]
   exact jo tx (by simp [e])
  ·simp only [e,decide_false,Bool.not_false,if_true]
   exact jo [] (by simp [e])
theorem aBo (hM:100000<M) (hx:Deep PP bM gT M (n+6) x) (k:Bal S b t m ty a){want:List UInt8}{may:List (List UInt8)}{Ow:Tag} (hmay:may.length<=100000) (hk:After S b t m ty (a.fresh may).1 (Rw K (a.fresh may))):x.call gY [.ptr b 0,.agg (wV want may Ow)] S K:=by
 refine hx.call aBn fun y hy=>?_;rw [FJ];unfold uU;have hm:y.most≠0:=by rw [hy.most];omega
 refine Hl fun i hi=>?_;have le1:dL S (upd S i (.row (wV want may Ow) 78)):= .aV hi;have ri:upd S i (.row (wV want may Ow) 78) i=some (.row (wV want may Ow) 78):=upd_same;generalize hS1:upd S i (.row (wV want may Ow) 78)=S1 at le1 ri;have k1:=k.le le1;obtain⟨l0,l1,l2,l3,l4,l5,l6,l7,l8,l9,l10,Ta,l12,XN,LS,l15⟩:=vW k1.row;simp only [aP,aO,bD,l4];have hrd:=k.inv.rd;refine FA hy k1 (by omega) ?_;simp only [oZ,pA];refine cG (l:=tG.vv) rfl fun j hj=>?_;refine gE upd_same (by rfl) (by rfl) (by rfl) ?_;rw [cP];have hij:i≠j:=fun e=>by rw [<-e,ri]at hj;cases hj
 have hbj:b≠j:=fun e=>by have:=k1.row;rw [e,hj]at this;cases this
 have jX:dL S1 (upd S1 j (.row ((a.pr a.s.rd).getD tG).vv 39)):= .aV hj;have rj:upd S1 j (.row ((a.pr a.s.rd).getD tG).vv 39) j=some (.row ((a.pr a.s.rd).getD tG).vv 39):=upd_same;generalize hS2:upd S1 j (.row ((a.pr a.s.rd).getD tG).vv 39)=S2 at jX rj;have le:=le1.trans jX;have k2:=k1.le jX;have Lc:=jX _ _ ri;obtain⟨m0,m1,m2,m3,m4⟩:=rO rj;obtain⟨l0,l1,l2,l3,l4,l5,l6,l7,l8,l9,l10,Ta,l12,XN,LS,l15⟩:=vW k2.row;have w1:∀{K:KV},aE (.ptr i 1) S2 K=K (.list Ow (dV may) may.length) S2:=aJ Lc;have no:a.fresh may=a.no->aS (.tuple [.nil,.bool false]) S2 K:=fun e=>LK hk k e le;unfold Ba.fresh at no hk;simp only [l5,cW,aO,aR];by_cases h1:a.s.st=1
 ·have e1:decide (a.s.st=Int.ofNat 1)=true:=decide_eq_true h1
  cases hp:a.pr a.s.rd with
  | none=>
   rw [hp]at no;simp only [e1,Option.isSome_none,aH,bL,aR,aT,fG,Bool.not_true,Bool.not_false,if_true,if_false,Bool.false_eq_true];exact no rfl
  | some v=>
   rw [hp]at m3 m4 no hk;have m3:∀{K:KV},aE (.ptr j 3) S2 K=K (.int .i64 v.vl) S2:=m3;have m4:∀{K:KV},aE (.ptr j 4) S2 K=K (.str v.tx) S2:=m4;simp only [e1,Option.isSome_some,aH,aR,fG,Bool.not_true,if_false,Bool.false_eq_true,m3,cW];by_cases h2:v.vl= -1
   ·have e2:decide (v.vl=Int.negSucc 0)=true:=decide_eq_true h2
    simp only [e2,aH,Bool.not_true,if_false,Bool.false_eq_true,w1,m4];refine Lb hy (by omega) (by omega) ?_;cases h3:may.contains v.tx with
    | false=>
     simp only [aT,fG,Bool.not_false,if_true];exact no (by simp only [h3,Bool.and_false];rfl)
    | true=>
     simp only [aT,fG,Bool.not_true,if_false,Bool.false_eq_true,m4,l7,gL];have h4:(decide (a.s.st=1)&&decide (v.vl= -1)&&may.contains v.tx)=true:=by simp [h1,h2];simpa using h3
     simp only [h4,if_true]at hk;refine YX hM hy k2 fun S3 c3 k3 O=>?_;have e5:(a.iT v.tx (decide (a.s.lock=[]))).1.s=(a.to 2).s:=Df _ _ _ _;have r3:=k3.row;rw [e5]at r3;have l7:∀{K:KV},aE (.ptr b 7) S3 K=K (.str a.s.lock) S3:=aJ r3;simp only [tU,oZ,pA,l7];exact AS k le hk c3 k3 rfl
   ·have e2:decide (v.vl=Int.negSucc 0)=false:=decide_eq_false h2
    simp only [e2,bL,aT,Bool.not_false,if_true];exact no (by simp [h2])
 ·have e1:decide (a.s.st=Int.ofNat 1)=false:=decide_eq_false h1
  simp only [e1,bL,aR,aT,Bool.not_false,if_true];refine no ?_;cases a.pr a.s.rd<;>simp [h1]
theorem aGt (hM:100000<M) (hx:Deep PP bM gT M (n+6) x) (k:Bal S b t m ty a){want:List UInt8}{may:List (List UInt8)}{Ow:Tag} (hk:After S b t m ty (a.old).1 (Rw K (a.old))):x.call jG [.ptr b 0,.agg (wV want may Ow)] S K:=by
 refine hx.call aGs fun y hy=>?_;rw [IY];unfold xZ;have hm:y.most≠0:=by rw [hy.most];omega
 refine Hl fun i hi=>?_;have le1:dL S (upd S i (.row (wV want may Ow) 78)):= .aV hi;have ri:upd S i (.row (wV want may Ow) 78) i=some (.row (wV want may Ow) 78):=upd_same;generalize hS1:upd S i (.row (wV want may Ow) 78)=S1 at le1 ri;have k1:=k.le le1;obtain⟨l0,l1,l2,l3,l4,l5,l6,l7,l8,l9,l10,Ta,l12,XN,LS,l15⟩:=vW k1.row;simp only [aP,aO,bD,l4];have hrd:=k.inv.rd;refine FA hy k1 (by omega) ?_;simp only [oZ,pA];refine cG (l:=tG.vv) rfl fun j hj=>?_;refine gE upd_same (by rfl) (by rfl) (by rfl) ?_;rw [cP];have hij:i≠j:=fun e=>by rw [<-e,ri]at hj;cases hj
 have hbj:b≠j:=fun e=>by have:=k1.row;rw [e,hj]at this;cases this
 have jX:dL S1 (upd S1 j (.row ((a.pr a.s.rd).getD tG).vv 39)):= .aV hj;have rj:upd S1 j (.row ((a.pr a.s.rd).getD tG).vv 39) j=some (.row ((a.pr a.s.rd).getD tG).vv 39):=upd_same;generalize hS2:upd S1 j (.row ((a.pr a.s.rd).getD tG).vv 39)=S2 at jX rj;have le:=le1.trans jX;have k2:=k1.le jX;have Lc:=jX _ _ ri;obtain⟨m0,m1,m2,m3,m4⟩:=rO rj;obtain⟨l0,l1,l2,l3,l4,l5,l6,l7,l8,l9,l10,Ta,l12,XN,LS,l15⟩:=vW k2.row;have no:a.old=a.no->aS (.tuple [.nil,.bool false]) S2 K:=fun e=>LK hk k e le;unfold Ba.old at no hk;simp only [l5,cW,aO,aR];by_cases h1:a.s.st=1
 ·have e1:decide (a.s.st=Int.ofNat 1)=true:=decide_eq_true h1
  cases hp:a.pr a.s.rd with
  | none=>
   rw [hp]at no;simp only [e1,Option.isSome_none,aH,bL,aR,aT,fG,Bool.not_true,Bool.not_false,if_true,if_false,Bool.false_eq_true];exact no rfl
  | some v=>
   rw [hp]at m3 m4 no hk;have m3:∀{K:KV},aE (.ptr j 3) S2 K=K (.int .i64 v.vl) S2:=m3;have m4:∀{K:KV},aE (.ptr j 4) S2 K=K (.str v.tx) S2:=m4;simp only [e1,Option.isSome_some,aH,aR,fG,Bool.not_true,if_false,Bool.false_eq_true,m3,bW];by_cases h2:v.vl= -1
   ·have e2:decide (v.vl=Int.negSucc 0)=true:=decide_eq_true h2
    simp only [e2,bL,aT,if_true];exact no (by simp [h2])
   ·have e2:decide (v.vl=Int.negSucc 0)=false:=decide_eq_false h2
    simp only [e2,aH,if_false,Bool.false_eq_true,m3,m4];refine NY hy k2 ?_;cases h3:a.agreed v.vl 3 v.tx with
    | false=>
     simp only [aT,fG,Bool.not_false,if_true];exact no (by simp [h3])
    | true=>
     simp only [aT,fG,Bool.not_true,if_false,Bool.false_eq_true,m3,m4,l9,pU];have h4:(decide (a.s.st=1)&& !decide (v.vl= -1)&&a.agreed v.vl 3 v.tx)=true:=by simp [h1,h2,h3]
     simp only [h4,if_true]at hk;refine YX hM hy k2 fun S3 c3 k3 O=>?_;have e5:(a.iT v.tx (decide (a.s.mW<=v.vl))).1.s=(a.to 2).s:=Df _ _ _ _;have r3:=k3.row;rw [e5]at r3;have l9:∀{K:KV},aE (.ptr b 9) S3 K=K (.int .i64 a.s.mW) S3:=aJ r3
     have hjm:j≠m:=fun e=>by
      obtain⟨_,q1,_⟩:=k1.LQ;have:=q1.map;rw [<-e,hj]at this;cases this
     have rj3:S3 j=some (.row v.vv 39):=by rw [c3 j (Ne.symm hbj) hjm,rj,hp];rfl
     have m3:∀{K:KV},aE (.ptr j 3) S3 K=K (.int .i64 v.vl) S3:=aJ rj3;simp only [cZ,oZ,pA,l9,m3];exact AS k le hk c3 k3 rfl
 ·have e1:decide (a.s.st=Int.ofNat 1)=false:=decide_eq_false h1
  simp only [e1,bL,aR,aT,Bool.not_false,if_true];refine no ?_;cases a.pr a.s.rd<;>simp [h1]
theorem Ry (hM:100000<M) (hx:Deep PP bM gT M (n+6) x) (k:Bal S b t m ty a){want:List UInt8}{may:List (List UInt8)}{Ow:Tag} (hk:After S b t m ty (a.nothing).1 (Rw K (a.nothing))):x.call gC [.ptr b 0,.agg (wV want may Ow)] S K:=by
 refine hx.call Ru fun y hy=>?_;rw [CS];unfold tB;have hm:y.most≠0:=by rw [hy.most];omega
 refine Hl fun i hi=>?_;have le1:dL S (upd S i (.row (wV want may Ow) 78)):= .aV hi;have ri:upd S i (.row (wV want may Ow) 78) i=some (.row (wV want may Ow) 78):=upd_same;generalize hS1:upd S i (.row (wV want may Ow) 78)=S1 at le1 ri;have k1:=k.le le1;obtain⟨l0,l1,l2,l3,l4,l5,l6,l7,l8,l9,l10,Ta,l12,XN,LS,l15⟩:=vW k1.row;have no:a.nothing=a.no->aS (.tuple [.nil,.bool false]) S1 K:=fun e=>LK hk k e le1;unfold Ba.nothing at no hk;simp only [l5,cW,aP,aO,bD,aR];by_cases h1:a.s.st=2
 ·have e1:decide (a.s.st=Int.ofNat 2)=true:=decide_eq_true h1
  simp only [e1,l4,aP,aO,aH,Bool.not_true,if_false,Bool.false_eq_true];refine NY hy k1 ?_;cases h3:a.agreed a.s.rd 3 []with
  | false=>
   simp only [aT,fG,Bool.not_false,if_true];exact no (by simp [h3])
  | true=>
   simp only [aT,fG,Bool.not_true,if_false,Bool.false_eq_true];rw [if_pos (by simp [h1,h3])]at hk;refine to2 hy k1 (by decide) (by decide) fun S2 c2 k2=>?_;refine aBm (by omega) hy k2 fun S3 c3 k3 O=>?_;exact AS k le1 hk (c2.trans c3) k3 rfl
 ·have e1:decide (a.s.st=Int.ofNat 2)=false:=decide_eq_false h1
  simp only [e1,bL,aT,Bool.not_false,if_true];exact no (by simp [h1])
theorem Rz (hM:100000<M) (hx:Deep PP bM gT M (n+6) x) (k:Bal S b t m ty a){want:List UInt8}{may:List (List UInt8)}{Ow:Tag} (hk:After S b t m ty (a.propose want).1 (Rw K (a.propose want))):x.call dH [.ptr b 0,.agg (wV want may Ow)] S K:=by
 refine hx.call Rv fun y hy=>?_;rw [CU];unfold tC;have hm:y.most≠0:=by rw [hy.most];omega
 refine Hl fun i hi=>?_;have le1:dL S (upd S i (.row (wV want may Ow) 78)):= .aV hi;have ri:upd S i (.row (wV want may Ow) 78) i=some (.row (wV want may Ow) 78):=upd_same;generalize hS1:upd S i (.row (wV want may Ow) 78)=S1 at le1 ri;have k1:=k.le le1;obtain⟨l0,l1,l2,l3,l4,l5,l6,l7,l8,l9,l10,Ta,l12,XN,LS,l15⟩:=vW k1.row;have w0:∀{K:KV},aE (.ptr i 0) S1 K=K (.str want) S1:=aJ ri;have hrd:=k.inv.rd;have hok:=k.inv.ok;simp only [l8,l10,gL,aP,aO,aT]
 have jo:∀(u:List UInt8) (w:Int),a.wants want=(u,w)->iP y (.ptr b 0) (.str u) (.int .i64 w) S1 K:=by
  intro u w e;have no:a.propose want=a.no->aS (.tuple [.nil,.bool false]) S1 K:=fun e=>LK hk k e le1;unfold Ba.propose at no hk;rw [e]at no hk;rw [xH y hm];unfold lA;refine aN ?_;simp only [l5,cW,aP,aO,bD,aR];by_cases h1:a.s.st=1
  ·have e1:decide (a.s.st=Int.ofNat 1)=true:=decide_eq_true h1
   simp only [e1,Ta,aP,aO,aH,gB,aR,Bool.not_true,if_false,Bool.false_eq_true];cases h2:a.s.prop with
   | true=>
    simp only [Ta,h2,l5,bL,EH,aR,aT,if_true,cZ,yP];exact no (by simp [h2])
   | false=>
    simp only [l3,l4,aP,aO,aH,gB,if_false,Bool.false_eq_true];refine LI (z:=a.s.rd) vP hy k1.row (by have:=hok.2.1;omega) (by omega) (by have:=hok.1;omega) ?_;simp only [l3,l5,Ta,h2,cW,aR,cZ,yP];by_cases h3:1+(a.s.h+a.s.rd)%a.s.n=a.s.me
    ·have e3:decide (1+(a.s.h+a.s.rd)%a.s.n=a.s.me)=true:=decide_eq_true h3
     simp only [e3,gL,aH,aT,Bool.not_true,if_false,Bool.false_eq_true];by_cases h4:u=[]
     ·simp only [h4,decide_true,if_true]
      exact no (by simp [h4])
     ·simp only [h4,decide_false,if_false,Bool.false_eq_true]
      have h5:(decide (a.s.st=1)&& !a.s.prop&&decide (a.s.RW a.s.rd=a.s.me)&& !decide (u=[]))=true:=by
       have:a.s.RW a.s.rd=a.s.me:=h3;simp [h1,h2,this,h4]
      simp only [h5,if_true]at hk;refine dQ k1.row rfl (by simp [kP]) ?_;have k2:=k1.set (s:={a.s with prop:=true}) rfl ⟨k.inv.ok,k.inv.rd,k.inv.st,k.inv.age,k.inv.lk,k.inv.vl,k.inv.dec,k.inv.HI,k.inv.vs⟩;refine aBm (by omega) hy k2 fun S3 c3 k3 O=>?_;exact AS k le1 hk (Ch.Kx.trans c3) k3 rfl
    ·have e3:decide (1+(a.s.h+a.s.rd)%a.s.n=a.s.me)=false:=decide_eq_false h3
     simp only [e3,bL,aT,Bool.not_false,if_true];refine no ?_;have:¬a.s.RW a.s.rd=a.s.me:=h3;simp [this]
  ·have e1:decide (a.s.st=Int.ofNat 1)=false:=decide_eq_false h1
   simp only [e1,l5,bL,EH,aR,aT,Bool.not_false,if_true,cZ];exact no (by simp [h1])
 by_cases h0:a.s.valid=[]
 ·rw [if_pos (by simp [h0])]
  simp only [w0];exact jo want (.negSucc 0) (by unfold Ba.wants;rw [if_pos h0];rfl)
 ·rw [if_neg (by simp [h0])]
  exact jo _ _ (by unfold Ba.wants;rw [if_neg h0])
theorem aEZ (hM:100000<M) (hx:Deep PP bM gT M (n+6) x) (k:Bal S b t m ty a){want:List UInt8}{may:List (List UInt8)}{Ow:Tag} (hk:After S b t m ty (a.lock).1 (Rw K (a.lock))):x.call iL [.ptr b 0,.agg (wV want may Ow)] S K:=by
 refine hx.call aEY fun y hy=>?_;rw [HA];unfold wR;have hm:y.most≠0:=by rw [hy.most];omega
 refine Hl fun i hi=>?_;have le1:dL S (upd S i (.row (wV want may Ow) 78)):= .aV hi;have ri:upd S i (.row (wV want may Ow) 78) i=some (.row (wV want may Ow) 78):=upd_same;generalize hS1:upd S i (.row (wV want may Ow) 78)=S1 at le1 ri;have k1:=k.le le1;obtain⟨l0,l1,l2,l3,l4,l5,l6,l7,l8,l9,l10,Ta,l12,XN,LS,l15⟩:=vW k1.row;simp only [aP,aO,bD,l4];have hrd:=k.inv.rd;refine FA hy k1 (by omega) ?_;simp only [oZ,pA];refine cG (l:=tG.vv) rfl fun j hj=>?_;refine gE upd_same (by rfl) (by rfl) (by rfl) ?_;rw [cP];have hij:i≠j:=fun e=>by rw [<-e,ri]at hj;cases hj
 have hbj:b≠j:=fun e=>by have:=k1.row;rw [e,hj]at this;cases this
 have jX:dL S1 (upd S1 j (.row ((a.pr a.s.rd).getD tG).vv 39)):= .aV hj;have rj:upd S1 j (.row ((a.pr a.s.rd).getD tG).vv 39) j=some (.row ((a.pr a.s.rd).getD tG).vv 39):=upd_same;generalize hS2:upd S1 j (.row ((a.pr a.s.rd).getD tG).vv 39)=S2 at jX rj;have le:=le1.trans jX;have k2:=k1.le jX;have Lc:=jX _ _ ri;obtain⟨m0,m1,m2,m3,m4⟩:=rO rj;obtain⟨l0,l1,l2,l3,l4,l5,l6,l7,l8,l9,l10,Ta,l12,XN,LS,l15⟩:=vW k2.row;have no:a.lock=a.no->aS (.tuple [.nil,.bool false]) S2 K:=fun e=>LK hk k e le;unfold Ba.lock at no hk;simp only [l5,bW,aO,aR];by_cases h1:a.s.st=1
 ·have e1:decide (a.s.st=Int.ofNat 1)=true:=decide_eq_true h1
  simp only [e1,l5,bL,EH,aR,aT,if_true,cZ];refine no ?_;cases a.pr a.s.rd<;>simp [h1]
 ·have e1:decide (a.s.st=Int.ofNat 1)=false:=decide_eq_false h1
  simp only [e1,l12,aP,aO,aH,gB,aR,if_false,Bool.false_eq_true];cases h2:a.s.seen with
  | true=>
   simp only [l12,h2,l5,bL,aR,aT,if_true,cZ,yP];refine no ?_;cases a.pr a.s.rd<;>simp [h2]
  | false=>
   simp only [aH,aR,fG,if_false,Bool.false_eq_true];cases hp:a.pr a.s.rd with
   | none=>
    rw [hp]at no;simp only [Option.isSome_none,l12,h2,l5,bL,aT,Bool.not_false,if_true,cZ,yP];exact no rfl
   | some v=>
    rw [hp]at m4 no hk;have m4:∀{K:KV},aE (.ptr j 4) S2 K=K (.str v.tx) S2:=m4;simp only [Option.isSome_some,aP,aO,aH,Bool.not_true,if_false,Bool.false_eq_true,l4,m4];refine NY hy k2 ?_;cases h3:a.agreed a.s.rd 3 v.tx with
    | false=>
     simp only [aT,fG,Bool.not_false,if_true,cZ,yP,l12,h2,l5];exact no (by simp [h3])
    | true=>
     simp only [aT,fG,Bool.not_true,if_false,Bool.false_eq_true,cZ,yP,l12,h2,l5,m4,l4];have h4:(!decide (a.s.st=1)&& !a.s.seen&&a.agreed a.s.rd 3 v.tx)=true:=by simp [h1,h2,h3]
     simp only [h4,if_true]at hk;obtain⟨_,_,_,q1,q2,_⟩:=k.inv.HJ hp;have hp3:oN v.tx a.s.rd a.s.rd=true:=(nZ _ _ _).2 ⟨q2,by omega,Int.le_refl _,⟨fun e=>absurd e q1,fun e=>by omega⟩⟩;refine dQ k2.row rfl (by simp [kP]) ?_;have rj3:upd S2 b (.row (splice 12 [.bool true] (kP a.s t)) ty) j=some (.row v.vv 39):=by rw [aG (Ne.symm hbj),rj,hp];rfl
     have m4':∀{K:KV},aE (.ptr j 4) (upd S2 b (.row (splice 12 [.bool true] (kP a.s t)) ty)) K=K (.str v.tx) (upd S2 b (.row (splice 12 [.bool true] (kP a.s t)) ty)):=aJ rj3;simp only [m4',tU];refine dQ upd_same rfl (by simp [kP,splice]) ?_;rw [cP];refine dQ upd_same rfl (by simp [kP,splice]) ?_;rw [cP];have a1:cA ⟨{a.s with seen:=true,valid:=v.tx,gA:=a.s.rd},a.l⟩:=⟨k.inv.ok,k.inv.rd,k.inv.st,k.inv.age,k.inv.lk,hp3,k.inv.dec,k.inv.HI,k.inv.vs⟩;have k3:=k2.set (s:={a.s with seen:=true,valid:=v.tx,gA:=a.s.rd}) rfl a1;show aE (.ptr b 5) (upd S2 b (.row (kP {a.s with seen:=true,valid:=v.tx,gA:=a.s.rd} t) ty)) _;have rj4:upd S2 b (.row (kP {a.s with seen:=true,valid:=v.tx,gA:=a.s.rd} t) ty) j=some (.row v.vv 39):=by rw [aG (Ne.symm hbj),rj,hp];rfl
     have c3:Ch S2 (upd S2 b (.row (kP {a.s with seen:=true,valid:=v.tx,gA:=a.s.rd} t) ty)) b m:= .Kx;generalize upd S2 b (.row (kP {a.s with seen:=true,valid:=v.tx,gA:=a.s.rd} t) ty)=S3 at k3 rj4 c3;have l5:∀{K:KV},aE (.ptr b 5) S3 K=K (.int .i64 a.s.st) S3:=aJ k3.row;have l4:∀{K:KV},aE (.ptr b 4) S3 K=K (.int .i64 a.s.rd) S3:=aJ k3.row;have m4:∀{K:KV},aE (.ptr j 4) S3 K=K (.str v.tx) S3:=aJ rj4;simp only [l5,l4,m4,bW,aT];by_cases h5:a.s.st=3
     ·rw [if_pos (by exact decide_eq_true h5)]
      rw [if_pos h5]at hk;obtain⟨S',g1,_,g2⟩:=shrink k le hk c3 k3;exact vK (cs:=[]) (n:=0) g1 .nil g2
     ·rw [if_neg (by simpa using h5)]
      rw [if_neg h5]at hk;refine dQ k3.row rfl (by simp [kP]) ?_;refine dQ upd_same rfl (by simp [kP,splice]) ?_;rw [cP];have a2:cA ⟨{a.s with seen:=true,valid:=v.tx,gA:=a.s.rd,lock:=v.tx,mW:=a.s.rd},a.l⟩:=⟨k.inv.ok,k.inv.rd,k.inv.st,k.inv.age,hp3,hp3,k.inv.dec,k.inv.HI,k.inv.vs⟩;have k4:=k3.set (s:={a.s with seen:=true,valid:=v.tx,gA:=a.s.rd,lock:=v.tx,mW:=a.s.rd}) rfl a2;show y.call cH [.ptr b 0,.int .i64 3] (upd S3 b (.row (kP {a.s with seen:=true,valid:=v.tx,gA:=a.s.rd,lock:=v.tx,mW:=a.s.rd} t) ty)) _;have rj5:upd S3 b (.row (kP {a.s with seen:=true,valid:=v.tx,gA:=a.s.rd,lock:=v.tx,mW:=a.s.rd} t) ty) j=some (.row v.vv 39):=by rw [aG (Ne.symm hbj)];exact rj4
      have c4:Ch S2 (upd S3 b (.row (kP {a.s with seen:=true,valid:=v.tx,gA:=a.s.rd,lock:=v.tx,mW:=a.s.rd} t) ty)) b m:=c3.trans .Kx;generalize upd S3 b (.row (kP {a.s with seen:=true,valid:=v.tx,gA:=a.s.rd,lock:=v.tx,mW:=a.s.rd} t) ty)=S4 at k4 rj5 c4;refine to2 hy k4 (by decide) (by decide) fun S5 c5 k5=>?_
      have hjm:j≠m:=fun e=>by
       obtain⟨_,q1,_⟩:=k1.LQ;have:=q1.map;rw [<-e,hj]at this;cases this
      have rj6:S5 j=some (.row v.vv 39):=by rw [c5 j (Ne.symm hbj) hjm];exact rj5
      have m4:∀{K:KV},aE (.ptr j 4) S5 K=K (.str v.tx) S5:=aJ rj6;simp only [m4];refine aBm (by omega) hy k5 fun S6 c6 k6 O=>?_;exact AS k le hk ((c4.trans c5).trans c6) k6 rfl
end
set_option maxRecDepth 4000
theorem aE0:gT bF=none:=rfl
theorem Ld:gT kA=none:=rfl
theorem Hm:gT dS=none:=rfl
section
variable{M n b t m:Nat}{x:VE}{S:Hp}{K:KV}{ty:TypeId}{a:Ba}
theorem aBp{l bk:Nat}{rs:List Int}{O:Tag}{J:Nat->Hp->Prop}{E:Hp->Prop} (hl:rs.length<=1000000) (hrow:∀i S,J i S->S bk=some (.row [.list O (pQ rs) rs.length] 81))
 (hstep:∀(i:Nat) (S:Hp) (K':KV) (hi:i<rs.length),J (i+1) S->(∀S',J i S'->K' (.bool true) S')->(∀S',E S'->K' (.bool false) S')->x.R l [.int .i64 (.ofNat i),.int .i64 rs[i]] S K')
 (h0:∀S,J 0 S->K (.tuple []) S) (hE:∀S,E S->K (.tuple []) S):∀(q i:Nat) (S:Hp) (z:Int),i<=q->i<=rs.length->z=(i:Int)-1->J i S->cV x (q+1) (.yield l) (.ptr bk 0) (.int .i64 z) S K:=by
 have fin:∀(q:Nat) (S:Hp) (z:Int),z= -1->J 0 S->cV x (q+1) (.yield l) (.ptr bk 0) (.int .i64 z) S K:=by
  intro q S z hz j;rw [lH];unfold gU;refine aN ?_;rw [dG,aT,if_neg (by rw [hz];decide)];exact aK (h0 S j)
 intro q;induction q with
 | zero=>
  intro i S z h1 h2 hz j;obtain rfl:i=0:=by omega
  exact fin _ S z (by omega) j
 | succ q ih=>
  intro i S z h1 h2 hz j;cases i with
  | zero=>exact fin _ S z (by omega) j
  | succ i=>
   obtain rfl:z=Int.ofNat i:=by simp at hz;exact hz
   rw [lH];unfold gU;refine aN ?_;rw [dG,aT,if_pos (by simp)];refine iO (hrow _ _ j) rfl ?_;have hi:i<rs.length:=by omega
   rw [qN hi,JP,Nat.mul_one,jF (a:= .int .i64 rs[i]) (by unfold pQ;rw [List.getElem?_map,List.getElem?_eq_getElem hi];rfl)];show PK x (.yield l) [.int .i64 (.ofNat i),.int .i64 rs[i]] S _;rw [Vx];refine hstep i S _ hi j (fun S' j'=>?_) (fun S' e'=>?_)
   ·simp only [fG,aT,Bool.not_true,Bool.false_eq_true,if_false,lV]
    rw [wrap_small (by simp;omega) (by simp;omega)];exact ih i S' _ (by omega) (by omega) (by simp) j'
   ·simp only [fG,aT,Bool.not_false,if_true]
    exact aK (hE S' e')
theorem aE1 (hM:100000<M) (hx:Deep PP bM gT M (n+5) x) (k:Bal S b t m ty a){want:List UInt8}{may:List (List UInt8)}{Ow:Tag} (hk:After S b t m ty a.skip.1 (Rw K a.skip)):x.call bF [.ptr b 0,.agg (wV want may Ow)] S K:=by
 refine hx.call aE0 fun y hy=>?_;rw [HE];unfold wW;have hbox:∀{S:Hp} {K:KV},(∀i,S i=none->K (.ptr i 0) (upd S i (.row [.ptr b 0] 31)))->nW 31 (.ptr b 0) S K:=fun h=>h;refine hbox fun ib hib=>?_;have le1:dL S (upd S ib (.row [.ptr b 0] 31)):= .aV hib;have r1:upd S ib (.row [.ptr b 0] 31) ib=some (.row [.ptr b 0] 31):=upd_same;generalize upd S ib (.row [.ptr b 0] 31)=S1 at le1 r1;refine Hl fun iw hiw=>?_;have jX:dL S1 (upd S1 iw (.row (wV want may Ow) 78)):= .aV hiw;generalize upd S1 iw (.row (wV want may Ow) 78)=S2 at jX;refine cG (l:=[.nil]) rfl fun il hil=>?_;have DC:dL S2 (upd S2 il (.row [.nil] 60)):= .aV hil;have r3:upd S2 il (.row [.nil] 60) il=some (.row [.nil] 60):=upd_same;generalize upd S2 il (.row [.nil] 60)=S3 at DC r3;refine cG (l:=[.bool false]) rfl fun id hid=>?_;have le4:dL S3 (upd S3 id (.row [.bool false] 4)):= .aV hid;have r4:upd S3 id (.row [.bool false] 4) id=some (.row [.bool false] 4):=upd_same;generalize upd S3 id (.row [.bool false] 4)=S4 at le4 r4;have k4:=k.le (((le1.trans jX).trans DC).trans le4);have q1:=le4 _ _ (DC _ _ (jX _ _ r1));have q3:=le4 _ _ r3;refine iO q1 rfl ?_;have l15:∀{K:KV},aE (.ptr b 15) S4 K=K (.ptr t 0) S4:=aJ k4.row;simp only [aP,aO,l15];refine VY hy hM k4 fun O=>?_;refine hy.call Ld fun z hz=>?_;rw [vM];unfold oM;have aGu:∀{S:Hp} {K:KV},(∀i,S i=none->K (.ptr i 0) (upd S i (.row [.list O (pQ a.rounds) a.rounds.length] 81)))->nW 81 (.list O (pQ a.rounds) a.rounds.length) S K:=fun h=>h;refine aGu fun bk hbk=>aK ?_;have le5:dL S4 (upd S4 bk (.row [.list O (pQ a.rounds) a.rounds.length] 81)):= .aV hbk;have r5:upd S4 bk (.row [.list O (pQ a.rounds) a.rounds.length] 81) bk=some (.row [.list O (pQ a.rounds) a.rounds.length] 81):=upd_same;generalize upd S4 bk (.row [.list O (pQ a.rounds) a.rounds.length] 81)=S5 at le5 r5;have p1:=le5 _ _ q1;have p3:=le5 _ _ q3;have p4:=le5 _ _ r4;have k5:=k4.le le5;refine Qq fun l hl=>?_;obtain⟨l0,tl,tp⟩:=k.LQ;have ne:∀{i j:Nat} {o:Ob} {S':Hp},S' i=none->S' j=some o->i≠j:=fun h1 h2 e=>by rw [e,h2]at h1;cases h1
 have hb3:S2 b=some (.row (kP a.s t) ty):=(le1.trans jX) _ _ k.row;have ilb:il≠b:=ne hil hb3;have ilm:il≠m:=ne hil ((le1.trans jX) _ _ tl.map);have ilt:il≠t:=ne hil ((le1.trans jX) _ _ tl.row);have idb:id≠b:=ne hid (DC _ _ hb3);have idm:id≠m:=ne hid (((le1.trans jX).trans DC) _ _ tl.map);have idt:id≠t:=ne hid (((le1.trans jX).trans DC) _ _ tl.row);have idl:id≠il:=ne hid r3;have ibb:ib≠b:=ne hib k.row;have ibm:ib≠m:=ne hib tl.map;have lb:l≠b:=ne hl k5.row;have lm:l≠m:=ne hl ((((le1.trans jX).trans DC).trans (le4.trans le5)) _ _ tl.map);have lt:l≠t:=ne hl ((((le1.trans jX).trans DC).trans (le4.trans le5)) _ _ tl.row);have lib:l≠ib:=ne hl p1;have lil:l≠il:=ne hl p3;have lid:l≠id:=ne hl p4;have lbk:l≠bk:=ne hl r5;have leT:dL S S5:=(((le1.trans jX).trans DC).trans le4).trans le5
 let lo:LoopState->Option Code->Ob:=fun st pe=> .loop [2,4,5] [.ptr ib 0,.ptr il 0,.ptr id 0] 40 (aAZ PP bF [.r,.l,.r,.d]) (aA0 PP bF [.r,.l,.r,.d]) (Wg PP bF [.r,.l,.r,.d]) st pe
 let S6:=upd S5 l (lo .ready none)
 have h6:∀j o,j≠l->S5 j=some o->S6 j=some o:=fun j o hj e=>by show upd S5 l _ j=_;rw [aG hj];exact e
 have hm:y.most=M:=hy.most;have hlen:=VZ k.inv;show y.call dS [.yield l,.ptr bk 0] S6 _;refine hy.call Hm fun w hw=>?_;rw [uE];unfold nL;refine iO (h6 _ _ (Ne.symm lbk) r5) rfl ?_;obtain⟨p,hp⟩:=Nat.exists_eq_succ_of_ne_zero (show w.most≠0 by have:=hw.most;omega);simp only [iY,lV,hp];rw [wrap_small (by simp;omega) (by simp;omega)]
 refine aBp (J:=fun i S'=>S'=S6/\∀r∈a.rounds.drop i,a.skips r=false)
  (E:=fun S'=>∃r,a.rounds.reverse.find? a.skips=some r/\∃S7,Ch (upd S6 l (lo .busy none)) S7 b m/\Bal S7 b t m ty (a.sS r)/\S'=upd (upd (upd S7 il (.row [.nil] 60)) id (.row [.bool true] 4)) l (lo .done (some .ret)))
  (by omega) (fun i S' h=>by rw [h.1];exact h6 _ _ (Ne.symm lbk) r5) ?_ ?_ ?_ p a.rounds.length S6 _ (by have:=hw.most;omega) (Nat.le_refl _) rfl ⟨rfl,fun r hr=>by rw [List.drop_length]at hr;cases hr⟩
 ·
   rintro i _ K' hi ⟨rfl,hj⟩ hT hF
   refine hw.round fun v hv=>?_;refine Qn (st:= .ready) (pe:=none) (show S6 l=some (lo .ready none)from upd_same) AW ?_;rw [AV];unfold qR;refine Vw (show S6 l=some (lo .ready none)from upd_same) ?_;have hbz:upd S6 l (.loop [2,4,5] [.ptr ib 0,.ptr il 0,.ptr id 0] 40 (aAZ PP bF [.r,.l,.r,.d]) (aA0 PP bF [.r,.l,.r,.d]) (Wg PP bF [.r,.l,.r,.d]) .busy none)=upd S6 l (lo .busy none):=rfl;rw [hbz];have hSb:∀j o,j≠l->S5 j=some o->upd S6 l (lo .busy none) j=some o:=fun j o hj e=>by rw [aG hj];exact h6 j o hj e
   have kb:Bal (upd S6 l (lo .busy none)) b t m ty a:=by
    obtain⟨l2,t2,u2⟩:=k5.LQ;exact⟨hSb _ _ (Ne.symm lb) k5.row,⟨l2,⟨hSb _ _ (Ne.symm lt) t2.row,hSb _ _ (Ne.symm lm) t2.map⟩,u2⟩,k5.inv,k5.bt,k5.bm,k5.tm⟩
   have lbz:upd S6 l (lo .busy none) l=some (lo .busy none):=upd_same
   have aCE:upd (upd S6 l (lo .busy none)) l (lo .ready none)=S6:=by
    rw [cP];show upd (upd S5 l (lo .ready none)) l (lo .ready none)=_;rw [cP]
   have ib':∀{K:KV},aE (.ptr ib 0) (upd S6 l (lo .busy none)) K=K (.ptr b 0) (upd S6 l (lo .busy none)):=aJ (hSb _ _ (Ne.symm lib) p1);have l4:∀{K:KV},aE (.ptr b 4) (upd S6 l (lo .busy none)) K=K (.int .i64 a.s.rd) (upd S6 l (lo .busy none)):=aJ kb.row;have l2:∀{K:KV},aE (.ptr b 2) (upd S6 l (lo .busy none)) K=K (.int .i64 a.s.t) (upd S6 l (lo .busy none)):=aJ kb.row;have l15:∀{K:KV},aE (.ptr b 15) (upd S6 l (lo .busy none)) K=K (.ptr t 0) (upd S6 l (lo .busy none)):=aJ kb.row;have il':upd S6 l (lo .busy none) il=some (.row [.nil] 60):=hSb _ _ (Ne.symm lil) p3;have id':upd S6 l (lo .busy none) id=some (.row [.bool false] 4):=hSb _ _ (Ne.symm lid) p4;generalize hS7:upd S6 l (lo .busy none)=S7 at kb lbz aCE ib' l4 l2 l15 il' id'
   have no:a.skips a.rounds[i]=false->JN l .ready none true S7 K':=by
    intro e;refine Gc lbz (hT _ ⟨aCE,fun r hr=>?_⟩);rw [List.drop_eq_getElem_cons hi]at hr;rcases List.mem_cons.1 hr with rfl | hr
    ·exact e
    ·exact hj r hr
   simp only [ib',l4,aP,aO,dN,bD];by_cases h1:a.s.rd<a.rounds[i]
   ·simp only [decide_eq_true h1,aH,ib',l2,l15,aP,aO]
    obtain⟨l0',t1,t2,t3⟩:=kb.okl;refine hv.EG (f:=mD) (g:=Nx) rfl ⟨t,m,a.s.n.toNat,l0',a.rounds[i],rfl,t1,t2,?_⟩;rw [PU t3];simp only [gB,ib',l4,l2,cZ,Bl,dN,aR,if_true,aT];have hc:(decide (a.s.t<Int.ofNat (mO (fun v=>decide (v.rd=a.rounds[i])) a.s.n.toNat a.l)))=decide (a.s.t<(a.sent a.rounds[i]:Int)):=rfl;rw [hc];by_cases h2:a.s.t<(a.sent a.rounds[i]:Int)
    ·rw [if_pos (decide_eq_true h2)]
     have hs:a.skips a.rounds[i]=true:=by unfold Ba.skips;simp [h1,h2]
     have hfd:a.rounds.reverse.find? a.skips=some a.rounds[i]:=by
      have e1:a.rounds=a.rounds.take i++(a.rounds[i]::a.rounds.drop (i+1)):=by
       rw [<-List.drop_eq_getElem_cons hi,List.take_append_drop]
      have e2:(a.rounds.drop (i+1)).reverse.find? a.skips=none:=by
       rw [List.find?_eq_none];intro r hr;rw [hj r (List.mem_reverse.1 hr)];simp
      have e3:=congrArg (fun q=>List.find? a.skips (List.reverse q)) e1;simp only [List.reverse_append,List.reverse_cons,List.append_assoc,List.find?_append,e2]at e3;rw [e3];simp [hs]
     have hrr:=k.inv.sU (List.getElem_mem hi);refine Yo hv kb (by omega) hrr.2 fun S8 c8 k8=>?_;have e8:S8 il=some (.row [.nil] 60):=by rw [c8 il ilb ilm];exact il'
     refine dQ e8 rfl (by simp) ?_;have e9:upd S8 il (.row (splice 0 [.nil] [.nil]) 60) id=some (.row [.bool false] 4):=by rw [aG idl,c8 id idb idm];exact id'
     refine dQ e9 rfl (by simp) ?_
     have e10:upd (upd S8 il (.row (splice 0 [.nil] [.nil]) 60)) id (.row (splice 0 [.bool true] [.bool false]) 4) l=some (lo .busy none):=by
      rw [aG lid,aG lil,c8 l lb lm];exact lbz
     refine Gc e10 (hF _ ⟨_,hfd,S8,by rw [hS7];exact c8,k8,rfl⟩)
    ·rw [if_neg (by simpa using h2)]
     exact no (by unfold Ba.skips;simp [h2])
   ·simp only [decide_eq_false h1,dF,vJ,ib',l4,cZ,Bl,aR,aT,Bool.false_eq_true,if_false]
    exact no (by unfold Ba.skips;simp [h1])
 ·
   rintro _ ⟨rfl,hj⟩
   refine Gd (show S6 l=some (lo .ready none)from upd_same) (by simp) ?_;rw [aAW]
   have hn:a.rounds.reverse.find? a.skips=none:=by
    rw [List.find?_eq_none];intro r hr;rw [hj r (by simpa using hr)];simp
   have hno:a.skip=a.no:=by unfold Ba.skip;rw [hn]
   have f:∀j o,j≠l->S5 j=some o->upd S6 l (lo .exhausted none) j=some o:=fun j o hj e=>by rw [aG hj];exact h6 j o hj e
   show jK 1 (.ptr il 0) .nil (upd S6 l (lo .exhausted none)) _;refine dQ (f _ _ (Ne.symm lil) p3) rfl (by simp) ?_;refine dQ (by rw [aG idl];exact f _ _ (Ne.symm lid) p4) rfl (by simp) ?_;refine iO (by rw [aG (Ne.symm idl)];exact upd_same) rfl ?_;refine iO upd_same rfl ?_;refine LK hk k hno ?_;intro j o e;have e5:=leT j o e;have:j≠il:=fun q=>by rw [q,(((le1.trans jX)).none hil)]at e;cases e
   have h2:j≠id:=fun q=>by rw [q,((((le1.trans jX).trans DC)).none hid)]at e;cases e
   have h3:j≠l:=fun q=>by rw [q,leT.none hl]at e;cases e
   rw [aG h2,aG this];exact f j o h3 e5
 ·
   rintro _ ⟨r,hr,S7,c7,k7,rfl⟩
   refine Gd (show upd _ l (lo .done (some .ret)) l=some (lo .done (some .ret))from upd_same) (by simp) ?_;rw [aAX];show aE (.ptr il 0) (upd (upd (upd (upd S7 il (.row [.nil] 60)) id (.row [.bool true] 4)) l (lo .done (some .ret))) l (lo .exhausted (some .ret))) _;rw [cP];refine iO (by rw [aG (Ne.symm lil),aG (Ne.symm idl)];exact upd_same) rfl ?_;refine iO (by rw [aG (Ne.symm lid)];exact upd_same) rfl ?_;have hyes:a.skip=(a.sS r,[],true):=by unfold Ba.skip;rw [hr]
   rw [hyes]at hk
   have hle:dL S (upd S6 l (lo .busy none)):=fun j o e=>by
    have h3:j≠l:=fun q=>by rw [q,leT.none hl]at e;cases e
    rw [aG h3];exact h6 j o h3 (leT j o e)
   obtain⟨S',g1,g3,g2⟩:=shrink k hle hk c7 k7;have n1:S' il=none:=by rw [g3 il ilb ilm];exact(le1.trans jX).none hil
   have n2:S' id=none:=by rw [g3 id idb idm];exact((le1.trans jX).trans DC).none hid
   have n3:S' l=none:=by rw [g3 l lb lm];exact leT.none hl
   exact vK (cs:=[]) (n:=0) (pI (pI (pI g1 n1) n2) n3) .nil g2
end
set_option maxRecDepth 4000
theorem aHt:gT eU=none:=rfl
theorem aGv:gT jY=none:=rfl
def Od (vs:List V) (cs:List Dt):Prop:=vs.length=cs.length/\∀(j:Nat) (v:V) (d:Dt),vs[j]? =some v->cs[j]? =some d->∃O,v=T O d
theorem Od.nil:Od [] []:=⟨rfl,fun j v d e=>by simp at e⟩
theorem Od.app{a c:List V}{b d:List Dt} (h:Od a b) (k:Od c d):Od (a++c) (b++d):=by
 refine⟨by simp [h.1,k.1],fun j v x e1 e2=>?_⟩;have hl:=h.1;by_cases hj:j<a.length
 ·rw [List.getElem?_append_left hj]at e1
  rw [List.getElem?_append_left (by omega)]at e2;exact h.2 j v x e1 e2
 ·rw [List.getElem?_append_right (by omega)]at e1 e2
  rw [<-hl]at e2;exact k.2 _ v x e1 e2
theorem Od.tl{O:Tag}{cs:List Dt}:Od (Tl O 0 cs) cs:=by
 refine⟨EM _ _ _,fun j v d e1 e2=>?_⟩;rw [GV,e2]at e1;injection e1 with e1;exact⟨_,e1.symm⟩
structure pR (S0 S:Hp) (el size:Nat) (t:V) (vs:List V) (n:Nat):Prop where
 is:(n=0/\t= .nil/\vs=[])\/∃i,t= .acc i n/\S i=some (.iD vs el n)/\S0 i=none
 len:vs.length=n*size
theorem pR.nil{S0 S:Hp}{el size:Nat}:pR S0 S el size .nil [] 0:=⟨.inl ⟨rfl,rfl,rfl⟩,by simp⟩
theorem pR.keep{S0 S S':Hp}{el size n:Nat}{t:V}{vs:List V} (a:pR S0 S el size t vs n) (h:∀i,S i=some (.iD vs el n)->S' i=S i):pR S0 S' el size t vs n:=by
 refine⟨?_,a.len⟩;rcases a.is with q | ⟨i,h1,h2,h3⟩
 ·exact .inl q
 ·exact .inr ⟨i,h1,by rw [h i h2];exact h2,h3⟩
theorem pR.app{S0 S:Hp}{el size bytes n m:Nat}{t:V}{vs:List V}{O:Tag}{cs:List Dt}{K:KV} (a:pR S0 S el size t vs n) (hle:∀i,S i=none->S0 i=none) (hs:0<size) (hc:cs.length=m*size) (ho:∀d∈cs,∀O,lL (T O d)=true) (hb:(n+m)*(bytes+1)<=1099511627776)
 (hk:∀t2 S2 vs2,pR S0 S2 el size t2 vs2 (n+m)->vs2=vs++Tl O 0 cs->(∀j o,S j=some o->GR o=false->S2 j=some o)->(∀j,S0 j≠none->S2 j=S j)->K t2 S2):oP el size bytes t (.list O cs m) S K:=by
 unfold oP zY;refine⟨by omega,?_⟩;rw [List.take_of_length_le (by omega)];cases m with
 | zero=>
  have hcs:cs=[]:=List.eq_nil_of_length_eq_zero (by simpa using hc);subst hcs;have h:=hk t S vs a (by simp [Tl]) (fun _ _ e _=>e) (fun _ _=>rfl);rcases a.is with ⟨rfl,rfl,_⟩ | ⟨i,rfl,_,_⟩
  ·exact h
  ·exact h
 | succ m=>
  have hall:(Tl O 0 cs).all lL=true:=by
   rw [List.all_eq_true];intro v hv;obtain⟨j,hj⟩:=List.getElem?_of_mem hv;rw [GV]at hj;cases hq:cs[j]? with
   | none=>rw [hq]at hj;cases hj
   | some d=>rw [hq]at hj;injection hj with hj;subst hj;exact ho d (List.mem_of_getElem? hq) _
  have hlen:(vs++Tl O 0 cs).length=(n+(m+1))*size:=by rw [List.length_append,EM,a.len,hc];exact(Nat.add_mul _ _ _).symm
  refine⟨hall,?_⟩;rcases a.is with ⟨rfl,rfl,rfl⟩ | ⟨i,rfl,h1,h2⟩
  ·refine⟨by simpa using hb,fun i hi=>?_⟩
   have:=hk (.acc i (0+(m+1))) (upd S i (.iD ([]++Tl O 0 cs) el (0+(m+1)))) _ ⟨.inr ⟨i,rfl,upd_same,hle i hi⟩,hlen⟩ rfl (fun j o e _=>by
    rw [aG (fun q=>by rw [q,hi]at e;cases e)];exact e) (fun j hj=>aG (fun q=>hj (by rw [q];exact hle i hi)))
   simpa using this
  ·simp only [h1]
   refine⟨trivial,trivial,a.len,hb,?_⟩;refine hk _ _ _ ⟨.inr ⟨i,rfl,upd_same,h2⟩,hlen⟩ rfl (fun j o e hg=>?_) (fun j hj=>aG (fun q=>hj (by rw [q];exact h2)));rw [aG (fun q=>by rw [q,h1]at e;injection e with e;subst e;cases hg)];exact e
theorem pR.ret{S0 S S':Hp}{el size n:Nat}{t:V}{vs:List V}{cs:List Dt}{K:KV} (a:pR S0 S el size t vs n) (hc:Od vs cs) (l:dL S' S) (h0:∀i,S0 i=none->(∃o,S i=some o/\GR o=true)->S' i=none) (hk:∀O,K (.list O cs n) S'):aS t S K:=by
 rcases a.is with ⟨rfl,rfl,rfl⟩ | ⟨i,rfl,h1,h2⟩
 ·have:cs=[]:=List.eq_nil_of_length_eq_zero (by simpa using hc.1.symm)
  subst this;exact rU l .nil hk
 ·refine rU l (.acc h1 (h0 i h2 ⟨_,h1,rfl⟩) hc.1 fun j v d e1 e2=>?_) hk
  obtain⟨O,rfl⟩:=hc.2 j v d e1 e2;exact .T
theorem Le (ms:List Mg):∀d∈yZ ms,∀O,lL (T O d)=true:=by
 intro d hd O;obtain⟨g,_,hg⟩:=List.mem_flatMap.1 hd;simp only [Mg.dt,List.mem_cons,List.not_mem_nil,or_false]at hg;rcases hg with rfl | rfl | rfl | rfl | rfl | rfl | rfl | rfl | rfl | rfl | rfl<;>rfl
theorem Dg (a b:List Mg):yZ (a++b)=yZ a++yZ b:=by unfold yZ;rw [List.flatMap_append]
def cR:Nat->FuncId
 | 0=>eW
 | 1=>bF
 | 2=>gY
 | 3=>jG
 | 4=>iL
 | 5=>gC
 | _=>dH
def fns:List V:=[.func eW [] [],.func bF [] [],.func gY [] [],.func jG [] [],.func iL [] [],.func gC [] [],.func dH [] []]
theorem aE2{i:Nat} (h:i<7):fns[i]? =some (.func (cR i) [] []):=by
 match i,h with
 | 0,_ | 1,_ | 2,_ | 3,_ | 4,_ | 5,_ | 6,_=>rfl
section
variable{M n b t m:Nat}{x:VE}{S:Hp}{K:KV}{ty:TypeId}{a:Ba}
theorem aE3 (hM:100000<M) (hx:Deep PP bM gT M (n+6) x) (k:Bal S b t m ty a){want:List UInt8}{may:List (List UInt8)}{Ow:Tag} (hmay:may.length<=100000){i:Nat} (hi:i<7) (hk:After S b t m ty (a.rule want may i).1 (Rw K (a.rule want may i))):x.call (cR i) [.ptr b 0,.agg (wV want may Ow)] S K:=by
 match i,hi with
 | 0,_=>exact Yq hM hx.less.less.less k hk
 | 1,_=>exact aE1 hM hx.less k hk
 | 2,_=>exact aBo hM hx k hmay hk
 | 3,_=>exact aGt hM hx k hk
 | 4,_=>exact aEZ hM hx k hk
 | 5,_=>exact Ry hM hx k hk
 | 6,_=>exact Rz hM hx k hk
theorem Bal.keep{S':Hp} (k:Bal S b t m ty a) (h:∀j o,S j=some o->GR o=false->S' j=some o):Bal S' b t m ty a:=by
 obtain⟨l0,h1,h2⟩:=k.LQ;exact⟨h _ _ k.row rfl,⟨l0,⟨h _ _ h1.row rfl,h _ _ h1.map rfl⟩,h2⟩,k.inv,k.bt,k.bm,k.tm⟩
theorem Bal.aGw (k:Bal S b t m ty a){i:Nat}{vs:List V}{el q:Nat} (h:S i=some (.iD vs el q)):i≠b/\i≠m:=by
 obtain⟨l0,h1,_⟩:=k.LQ;exact⟨fun e=>(by rw [e,k.row]at h;cases h),fun e=>(by rw [e,h1.map]at h;cases h)⟩
end
structure DoM (S0 S:Hp) (b t m:Nat) (ty:TypeId) (a:Ba) (iw ia:Nat) (want:List UInt8) (may:List (List UInt8)) (Ow:Tag):Prop where
 bal:Bal S b t m ty a
 w:S iw=some (.row (wV want may Ow) 78)
 f:S ia=some (.row fns 106)
 same:∀j,S0 j≠none->j≠b->j≠m->S j=S0 j
 fw:S0 iw=none
 fa:S0 ia=none
 none:∀j,S j=none->S0 j=none
section
variable{M n b t m:Nat}{x:VE}{S0 S:Hp}{K:KV}{ty:TypeId}{a:Ba}
theorem DoM.step{a':Ba}{iw ia:Nat}{want:List UInt8}{may:List (List UInt8)}{Ow:Tag}{S2:Hp} (k0:Bal S0 b t m ty a){a1:Ba} (d:DoM S0 S b t m ty a1 iw ia want may Ow) (c:Ch S S2 b m) (k:Bal S2 b t m ty a'):DoM S0 S2 b t m ty a' iw ia want may Ow:=by
 obtain⟨l1,g1,_⟩:=k0.LQ;obtain⟨l2,g2,_⟩:=k.LQ;have nw:iw≠b/\iw≠m:=⟨fun q=>(by have:=d.fw;rw [q,k0.row]at this;cases this),fun q=>(by have:=d.fw;rw [q,g1.map]at this;cases this)⟩;have nf:ia≠b/\ia≠m:=⟨fun q=>(by have:=d.fa;rw [q,k0.row]at this;cases this),fun q=>(by have:=d.fa;rw [q,g1.map]at this;cases this)⟩;refine⟨k,by rw [c iw nw.1 nw.2];exact d.w,by rw [c ia nf.1 nf.2];exact d.f,fun j h1 h2 h3=>by rw [c j h2 h3];exact d.same j h1 h2 h3,d.fw,d.fa,fun j e=>?_⟩;by_cases q1:j=b
 ·rw [q1,k.row]at e;cases e
 ·by_cases q2:j=m
  ·rw [q2,g2.map]at e;cases e
  ·exact d.none j (by rw [<-c j q1 q2];exact e)
theorem pR.step{el size q:Nat}{t7:V}{vs:List V}{S2:Hp} (ac:pR S0 S el size t7 vs q) (k:Bal S b t m ty a) (c:Ch S S2 b m):pR S0 S2 el size t7 vs q:=
 ac.keep fun i h=>c i (k.aGw h).1 (k.aGw h).2
theorem aBq{want:List UInt8}{may:List (List UInt8)}{j:Nat} (h:(a.rule want may j).2.2=false):a.rule want may j=a.no:=by
 unfold Ba.rule at h ⊢;split at h
 ·unfold Ba.rA at h ⊢
  cases q:a.rounds.findSome? a.nO with
  | none=>rfl
  | some tx=>rw [q]at h;cases h
 ·unfold Ba.skip at h ⊢
  cases q:a.rounds.reverse.find? a.skips with
  | none=>rfl
  | some tx=>rw [q]at h;cases h
 ·unfold Ba.fresh at h ⊢
  split
  ·split
   ·rename_i v hv hc;rw [hv]at h;simp only [hc,if_true]at h;cases h
   ·rfl
  ·rfl
 ·unfold Ba.old at h ⊢
  split
  ·split
   ·rename_i v hv hc;rw [hv]at h;simp only [hc,if_true]at h;cases h
   ·rfl
  ·rfl
 ·unfold Ba.lock at h ⊢
  split
  ·split
   ·rename_i v hv hc
    rw [hv]at h;simp only [hc,if_true]at h;split at h<;>cases h
   ·rfl
  ·rfl
 ·unfold Ba.nothing at h ⊢
  split
  ·rename_i hc;rw [if_pos hc]at h;cases h
  ·rfl
 ·unfold Ba.propose at h ⊢
  split
  ·rename_i hc;rw [if_pos hc]at h;cases h
  ·rfl
theorem WA{a0:Ba}{k:Nat}{vl:Int}{tx:List UInt8}{me:Int} (h:a0.s.me=me):(Ba.yes (a0.say k vl tx)).1.s.me=me/\(Ba.yes (a0.say k vl tx)).2.1.length<=1:=
 ⟨by show(a0.say k vl tx).1.s.me=_;rw [Df];exact h,Nat.le_refl 1⟩
theorem Oe{want:List UInt8}{may:List (List UInt8)}{j:Nat}:(a.rule want may j).1.s.me=a.s.me/\(a.rule want may j).2.1.length<=1:=by
 unfold Ba.rule;split
 ·unfold Ba.rA;split<;>exact⟨rfl,Nat.zero_le 1⟩
 ·unfold Ba.skip;split<;>exact⟨rfl,Nat.zero_le 1⟩
 ·unfold Ba.fresh Ba.iT
  split
  ·split
   ·exact WA rfl
   ·exact⟨rfl,Nat.zero_le 1⟩
  ·exact⟨rfl,Nat.zero_le 1⟩
 ·unfold Ba.old Ba.iT
  split
  ·split
   ·exact WA rfl
   ·exact⟨rfl,Nat.zero_le 1⟩
  ·exact⟨rfl,Nat.zero_le 1⟩
 ·unfold Ba.lock
  split
  ·split
   ·split
    ·exact⟨rfl,Nat.zero_le 1⟩
    ·exact WA rfl
   ·exact⟨rfl,Nat.zero_le 1⟩
  ·exact⟨rfl,Nat.zero_le 1⟩
 ·unfold Ba.nothing
  split
  ·exact WA rfl
  ·exact⟨rfl,Nat.zero_le 1⟩
 ·unfold Ba.propose
  split
  ·exact WA rfl
  ·exact⟨rfl,Nat.zero_le 1⟩
theorem Lf{a0:Ba}{S1:Hp}{iw ia:Nat}{want:List UInt8}{may:List (List UInt8)}{Ow:Tag}{t7:V}{vs:List V}{out:List Mg} (k0:Bal S0 b t m ty a0) (d:DoM S0 S1 b t m ty a iw ia want may Ow) (ac:pR S0 S1 45 11 t7 vs out.length) (cl:Od vs (yZ out)) (hk:After S0 b t m ty a fun S'=>∀O,K (.list O (yZ out) out.length) S'):aS t7 S1 K:=by
 obtain⟨l1,g1,_⟩:=k0.LQ;obtain⟨l2,h1,h2⟩:=d.bal.LQ
 let S':Hp:=fun q=>if q=b\/q=m then S1 q else S0 q
 have same':∀q,q≠b->q≠m->S' q=S0 q:=fun q q1 q2=>if_neg (by simp [q1,q2]);have sb:S' b=S1 b:=if_pos (.inl rfl);have sm:S' m=S1 m:=if_pos (.inr rfl)
 have aHu:Bal S' b t m ty a:=by
  refine⟨by rw [sb];exact d.bal.row,⟨l2,⟨?_,by rw [sm];exact h1.map⟩,h2⟩,d.bal.inv,k0.bt,k0.bm,k0.tm⟩;rw [same' t (Ne.symm k0.bt) k0.tm];have:=d.same t (by rw [g1.row];simp) (Ne.symm k0.bt) k0.tm;rw [<-this];exact h1.row
 have hle:dL S' S1:=fun q o e=>by
  by_cases q1:q=b
  ·subst q1;rw [sb]at e;exact e
  ·by_cases q2:q=m
   ·subst q2;rw [sm]at e;exact e
   ·rw [same' q q1 q2]at e
    rw [d.same q (by rw [e];simp) q1 q2];exact e
 refine ac.ret cl hle (fun i h0 ⟨o,ho,hg⟩=>?_) (hk S' (fun q q1 q2=>same' q q1 q2) aHu);have ne1:i≠b:=fun q=>by rw [q,k0.row]at h0;cases h0
 have ne2:i≠m:=fun q=>by rw [q,g1.map]at h0;cases h0
 rw [same' i ne1 ne2];exact h0
theorem aGx{a0:Ba}{iw ia cnt:Nat}{want:List UInt8}{may:List (List UInt8)}{Ow:Tag} (hM:100000<M) (hx:Deep PP bM gT M (n+6) x) (k0:Bal S0 b t m ty a0) (hmay:may.length<=100000) (hcnt:cnt<=7):
 ∀(q f:Nat) (S1:Hp) (a:Ba) (t7:V) (vs:List V) (out:List Mg),DoM S0 S1 b t m ty a iw ia want may Ow->pR S0 S1 45 11 t7 vs out.length->Od vs (yZ out)->a.mine=cnt->(a.s.dec=[]->1000-a.mu<=(q:Int))->(a.s.dec=[]->1000-a.mu<=(f:Int))->out.length+8*q<=1000000->
  After S0 b t m ty (Ba.run want may f a out).1 (fun S'=>∀O,K (.list O (yZ (Ba.run want may f a out).2) (Ba.run want may f a out).2.length) S')->
  iE x (q+1) (.ptr b 0) (.ptr iw 0) (.own ia 0 cnt 7) t7 S1 K:=by
 have hm:x.most=M:=hx.most;intro q;induction q with
 | zero=>
  intro f S1 a t7 vs out d ac cl Hn hq hf ho hk;have i:=d.bal.inv;have hmu:=i.YV;rw [oR];unfold kJ;refine aN ?_;have XN:∀{K:KV},aE (.ptr b 13) S1 K=K (.str a.s.dec) S1:=aJ d.bal.row;simp only [aP,aO,XN,gL,aT];by_cases hd:a.s.dec=[]
  ·have:=hq hd;omega
  ·rw [if_neg (by simpa using hd)]
   have e:Ba.run want may f a out=(a,out):=by cases f with
    | zero=>rfl
    | succ f=>unfold Ba.run;rw [if_neg hd]
   rw [e]at hk;exact Lf k0 d ac cl hk
 | succ q ih=>
  intro f S1 a t7 vs out d ac cl Hn hq hf ho hk;have i:=d.bal.inv;have hmu:=i.YV;rw [oR];unfold kJ;refine aN ?_;have XN:∀{K:KV},aE (.ptr b 13) S1 K=K (.str a.s.dec) S1:=aJ d.bal.row;simp only [aP,aO,XN,gL,aT];by_cases hd:a.s.dec=[]
  ·rw [if_pos (by simpa using hd)]
   obtain⟨f,rfl⟩:=Nat.exists_eq_succ_of_ne_zero (show f≠0 by have:=hf hd;omega)
   have e1:Ba.run want may (f+1) a out=if(a.from_ want may cnt 0).2.2 then Ba.run want may f (a.from_ want may cnt 0).1 (out++(a.from_ want may cnt 0).2.1)else(a,out):=by
    conv=>lhs;unfold Ba.run
    rw [if_pos hd,Hn]
   have inner:∀(p j:Nat) (S1:Hp),DoM S0 S1 b t m ty a iw ia want may Ow->pR S0 S1 45 11 t7 vs out.length->cnt<=j+p->j<=cnt->(a.from_ want may cnt 0=a.from_ want may (cnt-j) j)->eZ x (p+1) (q+1) (.ptr b 0) (.ptr iw 0) (.own ia 0 cnt 7) t7 (.own ia 0 cnt 7) (.int .i64 (.ofNat cnt)) (.int .i64 (.ofNat j)) S1 K:=by
    intro p
    have fin:∀j S1,DoM S0 S1 b t m ty a iw ia want may Ow->pR S0 S1 45 11 t7 vs out.length->cnt<=j->(a.from_ want may cnt 0=a.from_ want may (cnt-j) j)->aS t7 S1 K:=by
     intro j S1 d ac h1 h2;have e2:a.from_ want may cnt 0=a.no:=by rw [h2,show cnt-j=0 by omega];rfl
     rw [e1,e2,if_neg (by simp [Ba.no])]at hk;exact Lf k0 d ac cl hk
    induction p with
    | zero=>
     intro j S1 d ac h1 h2 h3;rw [lR];unfold hS;refine aN ?_;rw [aI,aT,if_neg (by simp;omega)];exact fin j S1 d ac (by omega) h3
    | succ p ihp=>
     intro j S1 d ac h1 h2 h3;rw [lR];unfold hS;refine aN ?_;rw [aI,aT];by_cases hlt:j<cnt
     ·rw [if_pos (by simp;omega)]
      have hix:∀{k:V->Prop},k (.ptr ia j)->fQ 1 (.own ia 0 cnt 7) (.int .i64 (.ofNat j)) k:=fun h=>⟨hlt,by rw [Nat.zero_add,Nat.mul_one];exact h⟩;refine hix (iO d.f (aE2 (by omega)) ?_);refine fT d.w rfl ?_;show x.call (cR j) ([]++[.ptr b 0,.agg (wV want may Ow)]++[]) S1 _;rw [List.nil_append,List.append_nil]
      have e3:a.from_ want may (cnt-j) j=if(a.rule want may j).2.2 then a.rule want may j else a.from_ want may (cnt-(j+1)) (j+1):=by
       rw [show cnt-j=(cnt-(j+1))+1 by omega];rfl
      refine aE3 hM hx d.bal hmay (by omega) fun S2 c2 k2 O=>?_;simp only [oZ,pA,aT];cases hr:(a.rule want may j).2.2 with
      | false=>
       have e4:=aBq hr;rw [e4]at k2;rw [if_neg (by simp),bA,fF (by omega)];refine ihp (j+1) S2 (d.step k0 c2 k2) (ac.step d.bal c2) (by omega) (by omega) ?_;rw [h3,e3,hr];rfl
      | true=>
       have e5:a.from_ want may cnt 0=a.rule want may j:=by rw [h3,e3,if_pos hr]
       rw [e1,e5,if_pos hr]at hk;obtain⟨sm1,sm2⟩:=Oe (a:=a) (want:=want) (may:=may) (j:=j);have d2:=d.step k0 c2 k2;rw [if_pos rfl];refine(ac.step d.bal c2).app d2.none (by omega) (by rw [zA]) (Le _) (by omega) ?_;intro t9 S3 vs3 ac3 e6 f1 f2;have hmu2:=Nr i want may j hr;refine ih f S3 (a.rule want may j).1 t9 vs3 (out++(a.rule want may j).2.1) ⟨d2.bal.keep f1,f1 _ _ d2.w rfl,f1 _ _ d2.f rfl,fun z h1 h2 h3=>by rw [f2 z h1];exact d2.same z h1 h2 h3,d.fw,d.fa,fun z e=>?_⟩ (by rw [List.length_append];exact ac3) (by rw [e6,Dg];exact cl.app .tl) (by unfold Ba.mine;rw [sm1];exact Hn) (fun hdd=>?_) (fun hdd=>?_) (by rw [List.length_append];omega) hk
       ·cases hz:S0 z with
        | none=>rfl
        | some o=>have:=f2 z (by rw [hz];simp);rw [e]at this;rw [d2.none z this.symm]at hz;cases hz
       ·rcases hmu2 with q1 | q1
        ·have:=hq hd;omega
        ·exact absurd hdd q1
       ·rcases hmu2 with q1 | q1
        ·have:=hf hd;omega
        ·exact absurd hdd q1
     ·rw [if_neg (by simp;omega)]
      exact fin j S1 d ac (by omega) h3
   refine(show ∀{k:V->Prop},k (.int .i64 (.ofNat cnt))->cY (.own ia 0 cnt 7) k from fun h=>h) ?_;obtain⟨p,hp⟩:=Nat.exists_eq_succ_of_ne_zero (show x.most≠0 by omega);rw [hp];exact inner p 0 S1 d ac (by omega) (by omega) rfl
  ·rw [if_neg (by simpa using hd)]
   have e:Ba.run want may f a out=(a,out):=by cases f with
    | zero=>rfl
    | succ f=>unfold Ba.run;rw [if_neg hd]
   rw [e]at hk;exact Lf k0 d ac cl hk
end
set_option maxRecDepth 4000
theorem aE4:gT kI=none:=rfl
theorem aE5:gT iK=none:=rfl
theorem aE6:gT oF=none:=rfl
section
variable{M n b t m:Nat}{x:VE}{S:Hp}{K:KV}{ty:TypeId}{a:Ba}
theorem Yr{len size i:Nat}{k:V->Prop} (h:0<len) (hk:k (.own i 0 len len)):Jv len size (.ptr i 0) none none none k:=by
 show 0<=len/\len<=len/\len<=len/\k (.own i (if len=0 then 0 else 0+0*size) (len-0) (len-0));rw [if_neg (by omega)];exact⟨by omega,Nat.le_refl _,Nat.le_refl _,by simpa using hk⟩
theorem aBr{len size i h:Nat}{j:IntKind}{k:V->Prop} (h0:0<len) (h1:h<=len) (hk:k (.own i 0 h len)):Jv len size (.ptr i 0) none (some (.int j (.ofNat h))) none k:=by
 show 0<=h/\h<=len/\len<=len/\k (.own i (if len=0 then 0 else 0+0*size) (h-0) (len-0));rw [if_neg (by omega)];exact⟨by omega,h1,Nat.le_refl _,by simpa using hk⟩
theorem aHv (hM:100000<M) (hM2:M<=125000) (hx:Deep PP bM gT M (n+7) x) (k:Bal S b t m ty a){want:List UInt8}{may:List (List UInt8)}{Ow:Tag} (hmay:may.length<=100000) (hk:After S b t m ty (a.NW want may).1 fun S'=>∀O,K (.list O (yZ (a.NW want may).2) (a.NW want may).2.length) S'):x.call eU [.ptr b 0,.agg (wV want may Ow)] S K:=by
 refine hx.call aHt fun y hy=>?_;rw [LB];unfold AE;have hm:y.most=M:=hy.most;refine Hl fun iw hiw=>?_;have le1:dL S (upd S iw (.row (wV want may Ow) 78)):= .aV hiw;have r1:upd S iw (.row (wV want may Ow) 78) iw=some (.row (wV want may Ow) 78):=upd_same;have n1:∀j,upd S iw (.row (wV want may Ow) 78) j=none->S j=none:=fun j e=>(pL e).2;generalize upd S iw (.row (wV want may Ow) 78)=S1 at le1 r1 n1;refine lW rfl (bC rfl (by simp) (bC rfl (by simp) (bC rfl (by simp) (bC rfl (by simp) (bC rfl (by simp) (bC rfl (by simp) (bC rfl (by simp) (oO ?_))))))));refine cG (l:=[.GQ,.GQ,.GQ,.GQ,.GQ,.GQ,.GQ]) rfl fun ia hia=>?_;refine gE upd_same (by rfl) (by rfl) (by rfl) ?_;rw [cP];show Jv 7 1 (.ptr ia 0) none none none _;refine Yr (by omega) ?_;have jX:dL S1 (upd S1 ia (.row fns 106)):= .aV hia;have r2:upd S1 ia (.row fns 106) ia=some (.row fns 106):=upd_same;have n2:∀j,upd S1 ia (.row fns 106) j=none->S j=none:=fun j e=>n1 j (pL e).2;show aQ PP (.ptr b 0) fun v4=>aD 0 v4 fun v5=>aD 3 v5 fun v6=>aE v6 (upd S1 ia (.row fns 106)) _;generalize upd S1 ia (.row fns 106)=S2 at jX r2 n2;have le:=le1.trans jX;have k2:=k.le le;have l3:∀{K:KV},aE (.ptr b 3) S2 K=K (.int .i64 a.s.me) S2:=aJ k2.row;simp only [aP,aO,l3,bW,aT]
 have d:DoM S S2 b t m ty a iw ia want may Ow:=⟨k2,jX _ _ r1,r2,fun j h1 _ _=>by
  cases hj:S j with
  | none=>exact absurd hj h1
  | some o=>exact le _ _ hj,hiw,le1.none hia,n2⟩
 have jo:∀cnt,a.mine=cnt->kF y (.ptr b 0) (.ptr iw 0) (.own ia 0 cnt 7) S2 K:=by
  intro cnt hc;rw [AU y (by omega)];unfold mX;refine aN ?_;obtain⟨p,hp⟩:=Nat.exists_eq_succ_of_ne_zero (show y.most≠0 by omega);rw [hp];have hmu:=k.inv.YV;have hcnt:cnt<=7:=by rw [<-hc];unfold Ba.mine;split<;>omega
  exact aGx hM hy k hmay hcnt p 1000 S2 a .nil [] [] d .nil .nil hc (fun _=>by omega) (fun _=>by omega) (by simp;omega) hk
 by_cases h0:a.s.me=0
 ·rw [if_pos (by exact decide_eq_true h0)]
  refine aBr (by omega) (by omega) ?_;exact jo 1 (by unfold Ba.mine;rw [if_pos h0])
 ·rw [if_neg (by simpa using h0)]
  exact jo 7 (by unfold Ba.mine;rw [if_neg h0])
theorem aGy{y:VE} (hM:100000<M) (hM2:M<=125000) (hy:Deep PP bM gT M (n+7) y) (k:Bal S b t m ty a){want:List UInt8}{may:List (List UInt8)}{Ow:Tag} (hmay:may.length<=100000) (hk:After S b t m ty (a.NW want may).1 fun S'=>∀O,K (.list O (yZ (a.NW want may).2) (a.NW want may).2.length) S'):nP PP bM jY y [.ptr b 0,.str want,.list Ow (dV may) may.length] S K:=by
 rw [KZ];unfold AC;refine yO kind25 ?_;rw [aT,if_neg (by simp)];refine lW rfl (bC rfl (by simp) (bC rfl (by simp) (oO ?_)));show y.call eU [.ptr b 0,.agg (wV want may Ow)] S _;refine aHv hM hM2 hy k hmay fun S' c' k' O=>?_;exact aK (hk S' c' k' O)
theorem aHw (hM:100000<M) (hM2:M<=125000) (hx:Deep PP bM gT M (n+8) x) (k:Bal S b t m ty a){want:List UInt8}{may:List (List UInt8)}{Ow:Tag} (hmay:may.length<=100000) (hk:After S b t m ty (a.NW want may).1 fun S'=>∀O,K (.list O (yZ (a.NW want may).2) (a.NW want may).2.length) S'):x.call jY [.ptr b 0,.str want,.list Ow (dV may) may.length] S K:=
 hx.call aGv fun y hy=>aGy hM hM2 hy k hmay hk
theorem aCF (hx:Deep PP bM gT M (n+1) x) (k:Bal S b t m ty a){r:Int}{kd:Nat} (hk:K (.int .i64 (.ofNat (a.all r kd))) S):x.call iZ [.ptr t 0,.int .i64 r,.int .u8 (.ofNat kd)] S K:=by
 obtain⟨l0,h1,h2,h3⟩:=k.okl;refine hx.EG (f:=iZ) (g:=aBi) rfl ⟨t,m,a.s.n.toNat,l0,r,kd,rfl,h1,h2,?_⟩;rw [PU h3];exact hk
def aGz (K:KV) (ms:List Mg) (S':Hp):Prop:=match ms with
 | []=>K .nil S'
 | [g]=>∀i,S' i=none->K (.own i 0 1 1) (upd S' i (.row g.vv 45))
 | _=>False
theorem aGA (hM:M≠0) (hx:Deep PP bM gT M (n+4) x) (k:Bal S b t m ty a){kd:Nat}{vl:Int}{tx:List UInt8}
 (hk:After S b t m ty (a.say kd vl tx).1 (aGz K (a.say kd vl tx).2)):x.call bV [.ptr b 0,.int .u8 (.ofNat kd),.int .i64 vl,.str tx] S K:=
 Hi hM aCC Nz vP Oa Oc hx k fun S1 c1 k1 j hj=>aK (hk S1 c1 k1 j hj)
theorem aE7 (hM:100000<M) (hx:Deep PP bM gT M (n+5) x) (k:Bal S b t m ty a) (hk:After S b t m ty a.late.1 (aGz K a.late.2)):x.call kI [.ptr b 0] S K:=by
 refine hx.call aE4 fun y hy=>?_;rw [GY];unfold wP;have hst:=k.inv.st;have hok:=k.inv.ok;have hnt: -9223372036854775808<=a.s.n-a.s.t/\a.s.n-a.s.t<=9223372036854775807:=by have:=hok.1;have:=hok.2.2.1;omega
 have l2:∀{K:KV},aE (.ptr b 4) S K=K (.int .i64 a.s.rd) S:=aJ k.row;have l5:∀{K:KV},aE (.ptr b 5) S K=K (.int .i64 a.s.st) S:=aJ k.row;have l15:∀{K:KV},aE (.ptr b 15) S K=K (.ptr t 0) S:=aJ k.row
 have no:a.late=(a,[])->aS .nil S K:=fun e=>by
  rw [e]at hk;exact aK (hk S .refl k)
 unfold Ba.late at no hk;simp only [aP,aO,l5,bW,aT];by_cases h1:a.s.st=1
 ·rw [if_pos (by exact decide_eq_true h1)]
  rw [if_pos h1]at hk;refine to2 hy k (by decide) (by decide) fun S2 c2 k2=>?_;refine aGA (by omega) hy k2 fun S3 c3 k3 j hj=>?_;exact aK (hk S3 (c2.trans c3) k3 j hj)
 ·rw [if_neg (by simpa using h1)]
  rw [if_neg h1]at hk no;by_cases h2:a.s.st=2
  ·rw [if_pos (by exact decide_eq_true h2)]
   rw [if_pos h2]at hk no;simp only [l2,l15];refine aCF hy k ?_;refine VU VW hy k.row hnt ?_;rw [aT];by_cases h3:a.s.n-a.s.t<=(a.all a.s.rd 3:Int)
   ·rw [if_pos (by exact decide_eq_true h3)]
    rw [if_pos (by exact decide_eq_true h3)]at hk;refine to2 hy k (by decide) (by decide) fun S2 c2 k2=>?_;refine aGA (by omega) hy k2 fun S3 c3 k3 j hj=>?_;exact aK (hk S3 (c2.trans c3) k3 j hj)
   ·rw [if_neg (by simpa using h3)]
    exact no (by rw [if_neg (by simpa using h3)])
  ·rw [if_neg (by simpa using h2)]
   rw [if_neg h2]at hk no;have h3:a.s.st=3:=by omega
   rw [if_pos (by exact decide_eq_true h3)];simp only [l2,l15];refine aCF hy k ?_;refine VU VW hy k.row hnt ?_;by_cases h4:a.s.n-a.s.t<=(a.all a.s.rd 4:Int)
   ·have e4:decide (a.s.n-a.s.t<=Int.ofNat (a.all a.s.rd 4))=true:=decide_eq_true h4
    simp only [e4,aP,aO,bD,aH,l2,aI,aR,aT,if_true];by_cases h5:a.s.rd<99
    ·have e5:decide (a.s.rd<Int.ofNat 99)=true:=decide_eq_true h5
     simp only [e5,if_true,bA];have e6:kC .i64 (a.s.rd+Int.ofNat 1)=a.s.rd+1:=by have:=k.inv.rd;rw [wrap_small]<;>simp<;>omega
     rw [e6];rw [if_pos (by simp [h4,h5])]at hk;refine Yo hy k (by omega) (by omega) fun S2 c2 k2=>?_;exact aK (hk S2 c2 k2)
    ·have e5:decide (a.s.rd<Int.ofNat 99)=false:=decide_eq_false h5
     simp only [e5,Bool.false_eq_true,if_false];exact no (by rw [if_neg (by simp [h5])])
   ·have e4:decide (a.s.n-a.s.t<=Int.ofNat (a.all a.s.rd 4))=false:=decide_eq_false h4
    simp only [e4,bD,dF,aR,aT,Bool.false_eq_true,if_false];exact no (by rw [if_neg (by simp [h4])])
theorem YY{S':Hp}{pre ms:List Mg}{cells:List V} (hl:dL S' S) (hc:cells.length=(pre++ms).length*11) (hf:∀(j:Nat) (v:V) (d:Dt) (S2:Hp),cells[j]? =some v->(yZ (pre++ms))[j]? =some d->RQ S' S2 v d) (hk:∀O,K (.list O (yZ (pre++ms)) (pre++ms).length) S'):Nc 45 cells (pre++ms).length S fun v S=>aS v S K:=by
 intro i hi;refine rU (pI hl (hl.none hi)) (.acc upd_same (hl.none hi) (by rw [hc,zA]) fun j v d e1 e2=>hf j v d _ e1 e2) hk
theorem Dh{S':Hp}{s:V}{pre ms:List Mg}{O:Tag} (hs:(pre=[]/\s= .nil)\/∃i g,pre=[g]/\s= .own i 0 1 1/\S i=some (.row g.vv 45)/\S' i=none) (hl:dL S' S) (hm:ms.length<=1000000) (hk:∀O,K (.list O (yZ (pre++ms)) (pre++ms).length) S'):oP 45 11 112 s (.list O (yZ ms) ms.length) S fun v S=>aS v S K:=by
 unfold oP zY;refine⟨by rw [zA];exact Nat.le_refl _,?_⟩;rw [List.take_of_length_le (by rw [zA];exact Nat.le_refl _)]
 have tl:∀(j:Nat) (v:V) (d:Dt) (S2:Hp),(Tl O 0 (yZ ms))[j]? =some v->(yZ ms)[j]? =some d->RQ S' S2 v d:=fun j v d S2 e1 e2=>by
  obtain⟨O2,rfl⟩:=(Od.tl (O:=O) (cs:=yZ ms)).2 j v d e1 e2;exact .T
 have hall:(Tl O 0 (yZ ms)).all lL=true:=by
  rw [List.all_eq_true];intro v hv;obtain⟨j,hj⟩:=List.getElem?_of_mem hv;rw [GV]at hj;cases hq:(yZ ms)[j]? with
  | none=>rw [hq]at hj;cases hj
  | some d=>rw [hq]at hj;injection hj with hj;subst hj;exact Le ms d (List.mem_of_getElem? hq) _
 rcases hs with ⟨rfl,rfl⟩ | ⟨i,g,rfl,rfl,hi,hn⟩
 ·cases ms with
  | nil=>exact rU hl .nil hk
  | cons g ms=>
   refine⟨hall,by simp only [List.length_cons]at hm ⊢;omega,?_⟩;exact YY (pre:=[]) (ms:=g::ms) hl (by rw [EM,zA];rfl) tl hk
 ·cases ms with
  | nil=>exact⟨Nat.le_refl _,Dd hi hn hl hk⟩
  | cons g2 ms=>
   refine⟨hall,?_⟩;simp only [hi];refine⟨by simp only [List.length_cons]at hm ⊢;omega,by simp [Mg.vv],fun h=>absurd h (by show ¬(1+(ms.length+1)<=1);omega),fun _=>?_⟩;have e1:(List.drop 0 g.vv).take (1*11)=g.vv:=by simp [Mg.vv]
   rw [e1];have e2:1+(ms.length+1)=([g]++(g2::ms)).length:=by simp;omega
   show Nc 45 (g.vv++Tl O 0 (yZ (g2::ms))) (1+(ms.length+1)) S _;rw [e2];refine YY (pre:=[g]) (ms:=g2::ms) hl (by rw [List.length_append,EM,zA];simp [Mg.vv];omega) (fun j v d S2 h1 h2=>?_) hk;rw [Dg,Dc]at h2;have hgl:g.vv.length=g.dt.length:=rfl;by_cases hj:j<g.vv.length
   ·rw [List.getElem?_append_left hj]at h1
    rw [List.getElem?_append_left (by omega)]at h2;exact Yh j v d h1 h2
   ·rw [List.getElem?_append_right (by omega)]at h1 h2
    rw [<-hgl]at h2;exact tl _ v d S2 h1 h2
theorem Ho (want:List UInt8) (may:List (List UInt8)):∀(n i:Nat),(a.from_ want may n i).2.1.length<=1:=by
 intro n;induction n with
 | zero=>intro i;exact Nat.zero_le 1
 | succ n ih=>
  intro i;unfold Ba.from_;split
  ·exact Oe.2
  ·exact ih (i+1)
theorem aBs (want:List UInt8) (may:List (List UInt8)):∀(f:Nat) (a:Ba) (out:List Mg),(Ba.run want may f a out).2.length<=out.length+f:=by
 intro f;induction f with
 | zero=>intro a out;exact Nat.le_refl _
 | succ f ih=>
  intro a out;unfold Ba.run;split
  ·split
   ·have:=ih (a.from_ want may a.mine 0).1 (out++(a.from_ want may a.mine 0).2.1)
    have h2:=Ho (a:=a) want may a.mine 0;rw [List.length_append]at this;omega
   ·show out.length<=_;omega
  ·show out.length<=_;omega
theorem Di (want:List UInt8) (may:List (List UInt8)):(a.NW want may).2.length<=1000:=by
 have:=aBs want may 1000 a [];show(Ba.run want may 1000 a []).2.length<=1000;simpa using this
theorem aE8{y:VE} (hM:100000<M) (hM2:M<=125000) (hy:Deep PP bM gT M (n+8) y) (k:Bal S b t m ty a){want:List UInt8}{may:List (List UInt8)}{Ow:Tag} (hmay:may.length<=100000) (hk:After S b t m ty (a.tick want may).1 fun S'=>∀O,K (.list O (yZ (a.tick want may).2) (a.tick want may).2.length) S'):nP PP bM iK y [.ptr b 0,.str want,.list Ow (dV may) may.length] S K:=by
 rw [GW];unfold wN;have hm:y.most≠0:=by rw [hy.most];omega
 refine yO kind25 ?_;rw [aT,if_neg (by simp)];have l3:∀{K:KV},aE (.ptr b 3) S K=K (.int .i64 a.s.me) S:=aJ k.row;have l4:∀{K:KV},aE (.ptr b 4) S K=K (.int .i64 a.s.rd) S:=aJ k.row;have l6:∀{K:KV},aE (.ptr b 6) S K=K (.int .i64 a.s.age) S:=aJ k.row;have XN:∀{K:KV},aE (.ptr b 13) S K=K (.str a.s.dec) S:=aJ k.row;have l15:∀{K:KV},aE (.ptr b 15) S K=K (.ptr t 0) S:=aJ k.row
 have jo:∀(a1:Ba) (pre:List Mg) (S1 S2:Hp) (s:V),a.sF want=(a1,pre)->Ch S S1 b m->Bal S1 b t m ty a1->((pre=[]/\s= .nil/\S2=S1)\/∃i g,pre=[g]/\s= .own i 0 1 1/\S2=upd S1 i (.row g.vv 45)/\S1 i=none)->cM y (.ptr b 0) (.str want) (.list Ow (dV may) may.length) s S2 K:=by
  intro a1 pre S1 S2 s e c k1 hs;rw [AD y hm];unfold mI;refine aN ?_
  have le:dL S1 S2:=by
   rcases hs with ⟨_,_,rfl⟩ | ⟨i,g,_,_,rfl,h0⟩
   ·exact .refl _
   ·exact .aV h0
  have hk1:After S1 b t m ty (a1.NW want may).1 fun S'=>∀O,K (.list O (yZ (pre++(a1.NW want may).2)) (pre++(a1.NW want may).2).length) S':=fun S' c' k' O=>by
   have e1:a.tick want may=((a1.NW want may).1,pre++(a1.NW want may).2):=by unfold Ba.tick;rw [e]
   rw [e1]at hk;exact hk S' (c.trans c') k' O
  refine aHw hM hM2 hy (k1.le le) hmay fun S3 c3 k3 O=>?_;obtain⟨S4,g1,g2,g3⟩:=shrink k1 le hk1 c3 k3;refine Dh ?_ g1 (by have:=Di (a:=a1) want may;omega) g3;rcases hs with ⟨rfl,rfl,_⟩ | ⟨i,g,rfl,rfl,rfl,h0⟩
  ·exact .inl ⟨rfl,rfl⟩
  ·have hib:i≠b:=fun q=>by rw [q,k1.row]at h0;cases h0
   obtain⟨_,t1,_⟩:=k1.LQ;have him:i≠m:=fun q=>by rw [q,t1.map]at h0;cases h0
   exact .inr ⟨i,g,rfl,rfl,by rw [c3 i hib him];exact upd_same,by rw [g2 i hib him];exact h0⟩
 have no:a.ticks want=false->cM y (.ptr b 0) (.str want) (.list Ow (dV may) may.length) .nil S K:=fun e=>jo a [] S S .nil (by unfold Ba.sF;rw [if_neg (by rw [e];simp)]) .refl k (.inl ⟨rfl,rfl,rfl⟩)
 have yes:a.ticks want=true->(aQ PP (.ptr b 0) fun v38=>aD 0 v38 fun v39=>aD 6 v39 fun v40=>aE v40 S fun v41 S=>aF PP .add 3 v41 (.int .i64 (.ofNat 1)) fun v42=>Bf false v42 (.int .i64 (.ofNat 1099511627776)) fun v43=>aQ PP (.ptr b 0) fun v44=>aD 0 v44 fun v45=>aD 6 v45 fun v46=>jK 1 v46 v43 S fun S=>aQ PP (.ptr b 0) fun v47=>aD 0 v47 fun v48=>aD 6 v48 fun v49=>aE v49 S fun v50 S=>aQ PP (.ptr b 0) fun v51=>aD 0 v51 fun v52=>aD 4 v52 fun v53=>aE v53 S fun v54 S=>aF PP .mul 3 (.int .i64 (.ofNat 2)) v54 fun v55=>aF PP .add 3 (.int .i64 (.ofNat 4)) v55 fun v56=>aF PP .geq 3 v50 v56 fun v57=>fC v57 (y.call kI [.ptr b 0] S fun v58 S=>cM y (.ptr b 0) (.str want) (.list Ow (dV may) may.length) v58 S K) (cM y (.ptr b 0) (.str want) (.list Ow (dV may) may.length) .nil S K)):=by
  intro e;have aHx:=k.inv.age;have hrd:=k.inv.rd;simp only [aP,aO,l6,bA];have Lg:∀{x y:Int} {k:V->Prop},Bf false (.int .i64 x) (.int .i64 y) k=k (.int .i64 (min x y)):=rfl;have e1:kC .i64 (a.s.age+Int.ofNat 1)=a.s.age+1:=by rw [wrap_small]<;>simp<;>omega
  rw [e1];simp only [Lg];have e0:Int.ofNat 1099511627776=1099511627776:=rfl;rw [e0];refine dQ k.row rfl (by simp [kP]) ?_;have k1:=k.set (s:=a.older.s) rfl k.inv.older;have c1:Ch S (upd S b (.row (kP a.older.s t) ty)) b m:= .Kx;show aE (.ptr b 6) (upd S b (.row (kP a.older.s t) ty)) _;generalize upd S b (.row (kP a.older.s t) ty)=S1 at k1 c1;have k1:Bal S1 b t m ty a.older:=k1;have l6:∀{K:KV},aE (.ptr b 6) S1 K=K (.int .i64 a.older.s.age) S1:=aJ k1.row;have l4:∀{K:KV},aE (.ptr b 4) S1 K=K (.int .i64 a.s.rd) S1:=aJ k1.row;simp only [l6,l4,HU,bA,dG,aT];have e2:kC .i64 (Int.ofNat 2*a.s.rd)=2*a.s.rd:=by rw [wrap_small]<;>simp<;>omega
  have e3:kC .i64 (Int.ofNat 4+2*a.s.rd)=4+2*a.s.rd:=by rw [wrap_small]<;>simp<;>omega
  rw [e2,e3];by_cases h:4+2*a.s.rd<=a.older.s.age
  ·rw [if_pos (by exact decide_eq_true h)]
   refine aE7 hM hy.less.less.less k1 fun S2 c2 k2=>?_;have e4:a.sF want=(a.older.late.1,a.older.late.2):=by unfold Ba.sF;rw [if_pos e,if_pos h]
   have hl:a.older.late.2=[]\/∃g,a.older.late.2=[g]:=by
    unfold Ba.late;split
    ·exact .inr ⟨_,rfl⟩
    ·split
     ·split
      ·exact .inr ⟨_,rfl⟩
      ·exact .inl rfl
     ·split<;>exact .inl rfl
   rcases hl with hl | ⟨g,hl⟩
   ·rw [hl]at e4 ⊢
    exact jo _ [] S2 S2 .nil e4 (c1.trans c2) k2 (.inl ⟨rfl,rfl,rfl⟩)
   ·rw [hl]at e4 ⊢
    intro i hi;exact jo _ [g] S2 _ _ e4 (c1.trans c2) k2 (.inr ⟨i,g,rfl,rfl,rfl,hi⟩)
  ·rw [if_neg (by simpa using h)]
   exact jo a.older [] S1 S1 .nil (by unfold Ba.sF;rw [if_pos e,if_neg h]) c1 k1 (.inl ⟨rfl,rfl,rfl⟩)
 simp only [aP,aO,bD,l3,cW];by_cases h0:a.s.me=0
 ·have e0:decide (a.s.me=Int.ofNat 0)=true:=decide_eq_true h0
  simp only [e0,dF,UH,aR,aT,Bool.not_true,if_false,Bool.false_eq_true];exact no (by unfold Ba.ticks;simp [h0])
 ·have e0:decide (a.s.me=Int.ofNat 0)=false:=decide_eq_false h0
  simp only [e0,aP,aO,aH,aR,Bool.not_false,if_true,XN,gL];by_cases h1:a.s.dec=[]
  ·have e1:decide (a.s.dec=[])=true:=decide_eq_true h1
   simp only [e1,aH,aR,if_true,kT];by_cases h2:want=[]
   ·have e2:decide (want=[])=true:=decide_eq_true h2
    simp only [e2,aP,aO,aH,Bool.not_true,if_false,Bool.false_eq_true,l15];refine VY hy.less hM k fun O=>?_;simp only [iY,dN,aT];by_cases h3:0<a.rounds.length
    ·have e3:decide (Int.ofNat 0<Int.ofNat a.rounds.length)=true:=decide_eq_true (by simpa using h3)
     simp only [e3,if_true];exact yes (by unfold Ba.ticks;simp [h0,h1,h3])
    ·have e3:decide (Int.ofNat 0<Int.ofNat a.rounds.length)=false:=decide_eq_false (by simpa using h3)
     simp only [e3,if_false,Bool.false_eq_true];exact no (by unfold Ba.ticks;simp [h2];intro _ _;simpa using h3)
   ·have e2:decide (want=[])=false:=decide_eq_false h2
    simp only [e2,bL,aT,Bool.not_false,if_true];exact yes (by unfold Ba.ticks;simp [h0,h1,h2])
  ·have e1:decide (a.s.dec=[])=false:=decide_eq_false h1
   simp only [e1,dF,UH,aT,if_false,Bool.false_eq_true];exact no (by unfold Ba.ticks;simp [h1])
end
set_option maxRecDepth 4000
theorem Of:gT gX=none:=rfl
theorem aE9:gT yS=none:=rfl
theorem aBt:gT rY=none:=rfl
structure Mi where
 kd:Nat
 e1:Int
 e2:Int
 h:Int
 r:Int
 vl:Int
 e3:Int
 e4:Int
 e5:Int
 tx:List UInt8
 nums:List Dt
 many:Nat
def Mi.dt (g:Mi):List Dt:=[.int .u8 (.ofNat g.kd),.int .i64 g.e1,.int .i64 g.e2,.int .i64 g.h,.int .i64 g.r,.int .i64 g.vl,.int .i64 g.e3,.int .i64 g.e4,.int .i64 g.e5,.str g.tx,.list g.nums g.many]
def Mi.vv (g:Mi) (O:Tag):List V:=[.int .u8 (.ofNat g.kd),.int .i64 g.e1,.int .i64 g.e2,.int .i64 g.h,.int .i64 g.r,.int .i64 g.vl,.int .i64 g.e3,.int .i64 g.e4,.int .i64 g.e5,.str g.tx,.list O g.nums g.many]
structure Sp where
 what:Nat
 fr:Int
 g:Mi
 want:List UInt8
 may:List (List UInt8)
def Sp.dt (s:Sp):List Dt:=[.int .u8 (.ofNat s.what),.int .i64 s.fr]++s.g.dt++[.str s.want,.list (dV s.may) s.may.length]
def Sp.vv (s:Sp) (O1 O2:Tag):List V:=[.int .u8 (.ofNat s.what),.int .i64 s.fr]++s.g.vv O1++[.str s.want,.list O2 (dV s.may) s.may.length]
def Ba.step (a:Ba) (s:Sp):Ba×List Mg:=
 if s.what=0 then(a.give s.fr s.g.kd s.g.h s.g.r s.g.vl s.g.tx,[])else if s.what=1 then a.NW s.want s.may else a.tick s.want s.may
section
variable{M n b t m:Nat}{x:VE}{S:Hp}{K:KV}{ty:TypeId}{a:Ba}
theorem qU{t:TypeId}{p q:Nat}{K:V->Prop}:aF PP .eql t (.int .u8 (.ofNat p)) (.int .u8 (.ofNat q)) K=K (.bool (decide (p=q))):=by
 rw [bW]
 congr 2
 rw [Bool.eq_iff_iff];simp only [decide_eq_true_eq];exact⟨Int.ofNat.inj,fun e=>by rw [e]⟩
theorem LL{t:TypeId}{p q:Nat}{K:V->Prop}:aF PP .lss t (.int .u8 (.ofNat p)) (.int .u8 (.ofNat q)) K=K (.bool (decide (p<q))):=by
 rw [aI]
 congr 2
 rw [Bool.eq_iff_iff];simp
theorem WB{t:TypeId}{p q:Nat}{K:V->Prop}:aF PP .gtr t (.int .u8 (.ofNat p)) (.int .u8 (.ofNat q)) K=K (.bool (decide (q<p))):=by
 rw [dN]
 congr 2
 rw [Bool.eq_iff_iff];simp
theorem aGB (hM:M≠0) (hx:Deep PP bM gT M (n+4) x) (k:Bal S b t m ty a){fr:Int}{g:Mi}{O:Tag} (hk:After S b t m ty (a.give fr g.kd g.h g.r g.vl g.tx) fun S'=>K (.bool (decide (g.h=a.s.h)&&decide (2<=g.kd)&&decide (g.kd<=4)&&decide (g.r<100)&&a.s.takes a.l ⟨fr,g.r,g.kd,g.vl,g.tx⟩)) S'):x.call oF [.ptr b 0,.int .i64 fr,.agg (g.vv O)] S K:=by
 refine hx.call aE6 fun y hy=>?_;rw [IU];unfold xU;refine eQ rfl fun i hi=>?_;have le1:dL S (upd S i (.row (g.vv O) 45)):= .aV hi;have ri:upd S i (.row (g.vv O) 45) i=some (.row (g.vv O) 45):=upd_same;generalize upd S i (.row (g.vv O) 45)=S1 at le1 ri;have k1:=k.le le1;refine yO kind25 ?_;have l0:∀{K:KV},aE (.ptr b 0) S1 K=K (.int .i64 a.s.h) S1:=aJ k1.row;have m0:∀{K:KV},aE (.ptr i 0) S1 K=K (.int .u8 (.ofNat g.kd)) S1:=aJ ri;have m3:∀{K:KV},aE (.ptr i 3) S1 K=K (.int .i64 g.h) S1:=aJ ri;have m4:∀{K:KV},aE (.ptr i 4) S1 K=K (.int .i64 g.r) S1:=aJ ri;have m5:∀{K:KV},aE (.ptr i 5) S1 K=K (.int .i64 g.vl) S1:=aJ ri;have m9:∀{K:KV},aE (.ptr i 9) S1 K=K (.str g.tx) S1:=aJ ri
 have no:(decide (g.h=a.s.h)&&decide (2<=g.kd)&&decide (g.kd<=4)&&decide (g.r<100))=false->aS (.bool false) S1 K:=fun e=>by
  unfold Ba.give at hk;rw [if_neg (by rw [e];simp)]at hk;have:=hk S .refl k;rw [e,Bool.false_and]at this;exact cI le1 this
 simp only [aP,aO,bD,aH,l0,m3,cW,aR,Bool.false_eq_true,if_false];by_cases c1:g.h=a.s.h
 ·simp only [decide_eq_true c1,Bool.not_true,aH,m0,LL,aR,Bool.false_eq_true,if_false]
  by_cases c2:g.kd<2
  ·simp only [decide_eq_true c2,bL,aR,if_true,aT]
   exact no (by simp;omega)
  ·simp only [decide_eq_false c2,aH,m0,WB,aR,Bool.false_eq_true,if_false]
   by_cases c3:4<g.kd
   ·simp only [decide_eq_true c3,bL,if_true,aT]
    exact no (by simp;omega)
   ·simp only [decide_eq_false c3,aH,m4,dG,Bool.false_eq_true,if_false]
    by_cases c4:100<=g.r
    ·simp only [show decide (Int.ofNat 100<=g.r)=true from decide_eq_true c4,if_true,aT]
     exact no (by simp;omega)
    ·simp only [show decide (Int.ofNat 100<=g.r)=false from decide_eq_false c4,aT,Bool.false_eq_true,if_false,m0,m5,m9]
     refine lW rfl (bC rfl (by simp) (bC rfl (by simp) (bC rfl (by simp) (bC rfl (by simp) (bC rfl (by simp) (oO ?_))))));have e:(decide (g.h=a.s.h)&&decide (2<=g.kd)&&decide (g.kd<=4)&&decide (g.r<100))=true:=by simp;omega
     unfold Ba.give at hk;rw [if_pos e]at hk;rw [e,Bool.true_and]at hk;refine Yg (v:=⟨fr,g.r,g.kd,g.vl,g.tx⟩) hM Nz vP Oa Oc hy k1 (show g.r<=1000000 by omega) fun S2 c2 k2=>?_;obtain⟨S',g1,_,g2⟩:=shrink k le1 hk c2 k2;exact cI g1 g2
 ·simp only [decide_eq_false c1,Bool.not_false,bL,aR,if_true,aT]
  exact no (by simp [c1])
def aU (s:Bs) (v:V):List V:=[.int .i64 s.h,.int .i64 s.n,.int .i64 s.t,.int .i64 s.me,.int .i64 s.rd,.int .i64 s.st,.int .i64 s.age,.str s.lock,.str s.valid,.int .i64 s.mW,.int .i64 s.gA,.bool s.prop,.bool s.seen,.str s.dec,v]
def stV (a:Ba) (O:Tag):V:= .agg (aU a.s (.list O (uQ a.l) a.l.length))
theorem aBu{S':Hp}{s:Bs}{v:V}{l:List Vo} (hl:dL S' S) (hf:RQ S' S v (.list (uQ l) l.length)) (hk:∀O,K (.agg (aU s (.list O (uQ l) l.length))) S'):aS (.agg (aU s v)) S K:=by
 refine⟨S',fun O=> .agg (aU s (.list (O 14) (uQ l) l.length)),hl,fun O=> .agg ⟨rfl,fun j v u e1 e2=>?_⟩,fun O=>hk _⟩
 match j with
 | 14=>injection e1 with e1;injection e2 with e2;subst e1 e2;exact .dat hf
 | 0 | 1 | 2 | 3 | 4 | 5 | 6 | 7 | 8 | 9 | 10 | 11 | 12 | 13=>injection e1 with e1;injection e2 with e2;subst e1 e2;exact .keep _
 | j+15=>simp [aU]at e1
def zSt:List Value:=[(.int .i64 (.ofNat 0)),(.int .i64 (.ofNat 0)),(.int .i64 (.ofNat 0)),(.int .i64 (.ofNat 0)),(.int .i64 (.ofNat 0)),(.int .i64 (.ofNat 0)),(.int .i64 (.ofNat 0)),(.string ⟨⟨[]⟩⟩),(.string ⟨⟨[]⟩⟩),(.int .i64 (.ofNat 0)),(.int .i64 (.ofNat 0)),(.bool false),(.bool false),(.string ⟨⟨[]⟩⟩),(.slice none 0 0)]
def KA:Bs:=⟨0,0,0,0,0,0,0,[],[],0,0,false,false,[]⟩
theorem aBv (hx:Deep PP bM gT M (n+2) x) (k:Bal S b t m ty a) (hk:∀O,K (stV a O) S):x.call gX [.ptr b 0] S K:=by
 refine hx.call Of fun y hy=>?_;rw [uS];unfold pX;refine cG (l:=aU KA .nil) rfl fun i hi=>?_;have le1:dL S (upd S i (.row (aU KA .nil) 29)):= .aV hi;have ri:upd S i (.row (aU KA .nil) 29) i=some (.row (aU KA .nil) 29):=upd_same;generalize upd S i (.row (aU KA .nil) 29)=S1 at le1 ri;have k1:=k.le le1;refine yO kind25 ?_;rw [aT,if_neg (by simp)];simp only [aP,aO];rw [BV k1.row,eE (by simp [kP])];show fE zSt 29 S1 fun v7 S=>jK 15 v7 (.agg (aU a.s .nil)) S _;refine cG (l:=aU KA .nil) rfl fun j hj=>?_;refine gE upd_same (by rfl) (by rfl) (by rfl) ?_;rw [cP];have hij:i≠j:=fun e=>by rw [e,hj]at ri;cases ri
 have jX:dL S1 (upd S1 j (.row (aU a.s .nil) 29)):= .aV hj;have rj:upd S1 j (.row (aU a.s .nil) 29) j=some (.row (aU a.s .nil) 29):=upd_same;have Lc:=jX _ _ ri;generalize upd S1 j (.row (aU a.s .nil) 29)=S2 at jX rj Lc;have k2:=k1.le jX;have le:=le1.trans jX;have l15:∀{K:KV},aE (.ptr b 15) S2 K=K (.ptr t 0) S2:=aJ k2.row;simp only [l15];obtain⟨l0,h1,h2,h3⟩:=k2.okl;have hs:=IF k.inv.HI h3
 have fin:∀(v:V) (S3:Hp),S3 i=some (.row (aU KA .nil) 29)->S3 j=some (.row (aU a.s .nil) 29)->lL v=true->dL S S3->(∀S4,dL S S4->(∀q o,S3 q=some o->GR o=true->S4 q=some o)->RQ S S4 v (.list (uQ a.l) a.l.length))->
  jK 1 (.ptr j 14) v S3 fun S=>dK 15 (.ptr j 0) S fun v13 S=>jK 15 (.ptr i 0) v13 S fun S=>dK 15 (.ptr i 0) S fun v14 _=>aS v14 S K:=by
  intro v S3 e1 e2 e3 e4 e5;refine dQ e2 e3 (by simp [aU]) ?_;refine fT upd_same (by rfl) ?_;refine gE (by rw [aG hij];exact e1) (by simp [splice,aU,e3];exact⟨rfl,rfl,rfl,rfl,rfl,rfl,rfl,rfl,rfl,rfl,rfl,rfl,rfl,rfl⟩) (by rfl) (by rfl) ?_;refine fT upd_same (by rfl) ?_;have hi4:S i=none:=hi;have hj4:S j=none:=le1.none hj;refine aBu (l:=a.l) (pI (pI e4 hj4) hi4) (e5 _ (pI (pI e4 hj4) hi4) fun q o q1 q2=>?_) hk;rw [aG (fun q3=>by rw [q3,e1]at q1;injection q1 with q1;subst q1;cases q2),aG (fun q3=>by rw [q3,e2]at q1;injection q1 with q1;subst q1;cases q2)];exact q1
 refine hy.EG (f:=dJ) (g:=LJ) rfl ⟨t,m,a.s.n.toNat,l0,rfl,h1,h2,by rw [hs];exact k.inv.HI,fun e=>?_,fun e q hq=>?_⟩
 ·rw [hs]at e
  refine fin .nil S2 Lc rj rfl le fun S4 q1 _=>?_;rw [e];exact .nil
 ·rw [hs]
  refine fin (.acc q a.l.length) _ (by rw [aG (fun e=>by rw [<-e,Lc]at hq;cases hq)];exact Lc) (by rw [aG (fun e=>by rw [<-e,rj]at hq;cases hq)];exact rj) rfl (pI le (le.none hq)) fun S4 q1 q2=>?_;refine .acc (q2 q _ upd_same rfl) (le.none hq) (by rw [pH,yY]) fun z v d e1 e2=>?_;rw [Ns a.l (.root 0),List.getElem?_map,e2]at e1;injection e1 with e1;subst e1;exact .T
end
set_option maxRecDepth 4000
theorem aFa:gT rW=none:=rfl
theorem aGC:gT tW=none:=rfl
theorem aFb:gT tA=none:=rfl
theorem Og:gT oK=none:=rfl
theorem Ys:gT yR=none:=rfl
theorem Yt:gT tY=none:=rfl
theorem aFc:gT qZ=none:=rfl
theorem Yu:gT tX=none:=rfl
section
variable{M n b t m:Nat}{x:VE}{S:Hp}{K:KV}{ty:TypeId}{a:Ba}
end
set_option maxRecDepth 4000
section
variable{M n:Nat}{x:VE}{S:Hp}{K:KV}{s:Bs}{l:List Vo}
def WC:Nat->List V->List (Nat×Nat×V)
 | _,[]=>[]
 | o,v::l=>(o,1,v)::WC (o+1) l
theorem Sa:∀(new pre rest:List V) {k:List V->Prop},new.all lL=true->rest.length=new.length->k (pre++new)->wK (WC pre.length new) (pre++rest) k:=by
 intro new;induction new with
 | nil=>
  intro pre rest k _ hl hk;obtain rfl:rest=[]:=List.eq_nil_of_length_eq_zero (by simpa using hl);exact hk
 | cons v new ih=>
  intro pre rest k ho hl hk;cases rest with
  | nil=>simp at hl
  | cons r rest=>
   simp only [List.all_cons,Bool.and_eq_true]at ho;refine bC ho.1 (by simp) ?_;have e:(pre++r::rest).set pre.length v=(pre++[v])++rest:=by simp
   rw [e];have:=ih (pre++[v]) rest (k:=k) ho.2 (by simpa using hl) (by simpa using hk)
   rwa [List.length_append]at this
theorem WD{new rest:List V}{k:List V->Prop} (ho:new.all lL=true) (hl:rest.length=new.length) (hk:k new):wK (WC 0 new) rest k:=Sa new [] rest ho hl hk
theorem aFd (hM:100000<M) (hx:Deep PP bM gT M (n+2) x) (hl:l.length<=10000){O:Tag} (hk:∀O,K (.agg (aU s (.list O (uQ l) l.length))) S):x.call yS [.agg (aU s (.list O (uQ l) l.length))] S K:=by
 refine hx.call aE9 fun y hy=>?_;rw [Cs];unfold NH;refine eQ rfl fun pi hpi=>?_;have le1:dL S (upd S pi (.row (aU s (.list O (uQ l) l.length)) 29)):= .aV hpi;have r1:upd S pi (.row (aU s (.list O (uQ l) l.length)) 29) pi=some (.row (aU s (.list O (uQ l) l.length)) 29):=upd_same;generalize upd S pi (.row (aU s (.list O (uQ l) l.length)) 29)=S1 at le1 r1;refine cG (l:=aU KA .nil) rfl fun j hj=>?_;have jX:dL S1 (upd S1 j (.row (aU KA .nil) 24)):= .aV hj;have rj:upd S1 j (.row (aU KA .nil) 24) j=some (.row (aU KA .nil) 24):=upd_same;have r2:=jX _ _ r1;generalize upd S1 j (.row (aU KA .nil) 24)=S2 at jX rj r2;have p0:∀{K:KV},aE (.ptr pi 0) S2 K=K (.int .i64 s.h) S2:=aJ r2;have p1:∀{K:KV},aE (.ptr pi 1) S2 K=K (.int .i64 s.n) S2:=aJ r2;have p2:∀{K:KV},aE (.ptr pi 2) S2 K=K (.int .i64 s.t) S2:=aJ r2;have p3:∀{K:KV},aE (.ptr pi 3) S2 K=K (.int .i64 s.me) S2:=aJ r2;have p4:∀{K:KV},aE (.ptr pi 4) S2 K=K (.int .i64 s.rd) S2:=aJ r2;have p5:∀{K:KV},aE (.ptr pi 5) S2 K=K (.int .i64 s.st) S2:=aJ r2;have p6:∀{K:KV},aE (.ptr pi 6) S2 K=K (.int .i64 s.age) S2:=aJ r2;have p7:∀{K:KV},aE (.ptr pi 7) S2 K=K (.str s.lock) S2:=aJ r2;have p8:∀{K:KV},aE (.ptr pi 8) S2 K=K (.str s.valid) S2:=aJ r2;have p9:∀{K:KV},aE (.ptr pi 9) S2 K=K (.int .i64 s.mW) S2:=aJ r2;have p10:∀{K:KV},aE (.ptr pi 10) S2 K=K (.int .i64 s.gA) S2:=aJ r2;have p11:∀{K:KV},aE (.ptr pi 11) S2 K=K (.bool s.prop) S2:=aJ r2;have p12:∀{K:KV},aE (.ptr pi 12) S2 K=K (.bool s.seen) S2:=aJ r2;have p13:∀{K:KV},aE (.ptr pi 13) S2 K=K (.str s.dec) S2:=aJ r2;have p14:∀{K:KV},aE (.ptr pi 14) S2 K=K (.list O (uQ l) l.length) S2:=aJ r2;simp only [aO,p0,p1,p2,p3,p4,p5,p6,p7,p8,p9,p10,p11,p12,p13,p14];refine hy.call aBt fun z hz=>?_;have hm:z.most=M:=hz.most;refine aBc (by omega) (by omega) fun O2=>?_;simp only [p0,p1,p2,p3,p4,p5,p6,p7,p8,p9,p10,p11,p12,p13,cZ,tU,yP];refine lW (z:=aU KA .nil) rfl ?_;refine WD (new:=aU s (.list O2 (uQ l) l.length)) rfl rfl ?_;refine gE rj (by rfl) (by rfl) (by rfl) ?_;refine fT upd_same (by rfl) ?_;refine cI (S':=S) (pI (le1.trans jX) (le1.none hj)) (hk O2)
def Mg.vt (g:Mg) (O:Tag):List V:=[.int .u8 (.ofNat g.kd),.int .i64 0,.int .i64 0,.int .i64 g.h,.int .i64 g.r,.int .i64 g.vl,.int .i64 0,.int .i64 0,.int .i64 0,.str g.tx,.list O [] 0]
theorem Yv (l:List Mg) (i:Nat) (g:Mg) (h:l[i]? =some g):((yZ l).drop (i*11)).take 11=g.dt:=by
 induction l generalizing i with
 | nil=>simp at h
 | cons a l ih=>
  cases i with
  | zero=>simp at h;subst h;simp [yZ,Mg.dt]
  | succ i=>
   have:=ih i (by simpa using h);rw [<-this];simp only [yZ,List.flatMap_cons];rw [show(i+1)*11=a.dt.length+i*11 by simp [Mg.dt];omega,<-List.drop_drop];simp
theorem Yw (hM:M≠0) (hx:Deep PP bM gT M (n+1) x){g:Mg}{O1 O2:Tag} (hk:K (.bool true) S):x.call tX [.agg (g.vt O1),.agg (g.vt O2)] S K:=by
 refine hx.call Yu fun y hy=>?_;rw [Cv];unfold NL;refine eQ rfl fun pi hpi=>?_;have le1:dL S (upd S pi (.row (g.vt O1) 45)):= .aV hpi;have r1:upd S pi (.row (g.vt O1) 45) pi=some (.row (g.vt O1) 45):=upd_same;generalize upd S pi (.row (g.vt O1) 45)=S1 at le1 r1;refine eQ rfl fun qi hqi=>?_;have jX:dL S1 (upd S1 qi (.row (g.vt O2) 45)):= .aV hqi;have r3:upd S1 qi (.row (g.vt O2) 45) qi=some (.row (g.vt O2) 45):=upd_same;have r2:=jX _ _ r1;generalize upd S1 qi (.row (g.vt O2) 45)=S2 at jX r3 r2;have p0:∀{K:KV},aE (.ptr pi 0) S2 K=K (.int .u8 (.ofNat g.kd)) S2:=aJ r2;have p1:∀{K:KV},aE (.ptr pi 1) S2 K=K (.int .i64 0) S2:=aJ r2;have p2:∀{K:KV},aE (.ptr pi 2) S2 K=K (.int .i64 0) S2:=aJ r2;have p3:∀{K:KV},aE (.ptr pi 3) S2 K=K (.int .i64 g.h) S2:=aJ r2;have p4:∀{K:KV},aE (.ptr pi 4) S2 K=K (.int .i64 g.r) S2:=aJ r2;have p5:∀{K:KV},aE (.ptr pi 5) S2 K=K (.int .i64 g.vl) S2:=aJ r2;have p6:∀{K:KV},aE (.ptr pi 6) S2 K=K (.int .i64 0) S2:=aJ r2;have p7:∀{K:KV},aE (.ptr pi 7) S2 K=K (.int .i64 0) S2:=aJ r2;have p8:∀{K:KV},aE (.ptr pi 8) S2 K=K (.int .i64 0) S2:=aJ r2;have p9:∀{K:KV},aE (.ptr pi 9) S2 K=K (.str g.tx) S2:=aJ r2;have p10:∀{K:KV},aE (.ptr pi 10) S2 K=K (.list O1 [] 0) S2:=aJ r2;have q0:∀{K:KV},aE (.ptr qi 0) S2 K=K (.int .u8 (.ofNat g.kd)) S2:=aJ r3;have q1:∀{K:KV},aE (.ptr qi 1) S2 K=K (.int .i64 0) S2:=aJ r3;have q2:∀{K:KV},aE (.ptr qi 2) S2 K=K (.int .i64 0) S2:=aJ r3;have q3:∀{K:KV},aE (.ptr qi 3) S2 K=K (.int .i64 g.h) S2:=aJ r3;have q4:∀{K:KV},aE (.ptr qi 4) S2 K=K (.int .i64 g.r) S2:=aJ r3;have q5:∀{K:KV},aE (.ptr qi 5) S2 K=K (.int .i64 g.vl) S2:=aJ r3;have q6:∀{K:KV},aE (.ptr qi 6) S2 K=K (.int .i64 0) S2:=aJ r3;have q7:∀{K:KV},aE (.ptr qi 7) S2 K=K (.int .i64 0) S2:=aJ r3;have q8:∀{K:KV},aE (.ptr qi 8) S2 K=K (.int .i64 0) S2:=aJ r3;have q9:∀{K:KV},aE (.ptr qi 9) S2 K=K (.str g.tx) S2:=aJ r3;have q10:∀{K:KV},aE (.ptr qi 10) S2 K=K (.list O2 [] 0) S2:=aJ r3;have hm:y.most=M:=hy.most;obtain⟨p,hp⟩:=Nat.exists_eq_succ_of_ne_zero (show y.most≠0 by omega);simp only [bD,aH,aR,aT,aO,Bool.not_true,if_false,Bool.false_eq_true,p0,p1,p2,p3,p4,p5,p6,p7,p8,p9,p10,q0,q1,q2,q3,q4,q5,q6,q7,q8,q9,q10,cW,kT,iY,decide_true,hp];rw [IX];unfold xY;refine aN ?_;have z0:decide (Int.ofNat 0<Int.ofNat 0)=false:=rfl;simp only [aO,p10,iY,aI,z0,aT,Bool.false_eq_true,if_false];exact cI (le1.trans jX) hk
theorem aBw{ms:List Mg}{O1 O2:Tag} (hM:M≠0) (hx:Deep PP bM gT M (n+1) x) (hl:ms.length<=1000000) (hk:K (.bool true) S):∀(q i:Nat) (S1:Hp),ms.length<=i+q->i<=ms.length->dL S S1->pD x (q+1) (.list O1 (yZ ms) ms.length) (.list O2 (yZ ms) ms.length) (.int .i64 (.ofNat i)) S1 K:=by
 intro q;induction q with
 | zero=>
  intro i S1 h1 h2 hle;rw [xV];unfold rL;refine lE S hle ?_;rw [iY,aI,aT,if_neg (by simp;omega)];exact aK hk
 | succ q ih=>
  intro i S1 h1 h2 hle;rw [xV];unfold rL;refine lE S hle ?_;rw [iY,aI,aT];by_cases hlt:i<ms.length
  ·have cell:∀O,Tl O (i*11) (ms[i].dt)=ms[i].vt (.sub O (i*11+10)):=fun O=>rfl
   rw [if_pos (by simp;omega),qN hlt,KT,eE (by rw [zA];omega),Yv ms i ms[i] (List.getElem?_eq_getElem hlt),cell,qN hlt,KT,eE (by rw [zA];omega),Yv ms i ms[i] (List.getElem?_eq_getElem hlt),cell];refine Yw hM hx ?_;simp only [fG,Bool.not_true,aT,Bool.false_eq_true,if_false,bA];rw [fF (by omega)];exact ih (i+1) S (by omega) (by omega) (.refl S)
  ·rw [if_neg (by simp;omega)]
   exact aK hk
theorem Yx (hx:Deep PP bM gT M (n+2) x){ms:List Mg}{O1 O2:Tag} (hl:ms.length<=100000) (hM:100000<M) (hk:K (.bool true) S):x.call qZ [.list O1 (yZ ms) ms.length,.list O2 (yZ ms) ms.length] S K:=by
 refine hx.call aFc fun y hy=>?_;rw [Ct];unfold NI;have hm:y.most=M:=hy.most;obtain⟨p,hp⟩:=Nat.exists_eq_succ_of_ne_zero (show y.most≠0 by omega);simp only [iY,cW,decide_true,Bool.not_true,aT,Bool.false_eq_true,if_false,hp];exact aBw (by omega) hy (by omega) hk p 0 S (by omega) (by omega) (.refl S)
end
set_option maxRecDepth 4000
theorem aBJ (f:Nat->Bool) (a:Nat):∀N,a<N->((List.range N).filter fun i=>f i || decide (a=i)).length=((List.range N).filter f).length+(if f a then 0 else 1):=by
 intro N;induction N with
 | zero=>intro h;omega
 | succ N ih=>
  intro h;rw [List.range_succ,List.filter_append,List.filter_append,List.length_append,List.length_append];by_cases e:a=N
  ·subst e
   have:((List.range a).filter fun i=>f i || decide (a=i))=(List.range a).filter f:=by
    apply List.filter_congr;intro i hi;have:=List.mem_range.1 hi;rw [decide_eq_false (by omega),Bool.or_false]
   rw [this];cases hf:f a<;>simp [hf]
  ·rw [ih (by omega)]
   have e2:(f N || decide (a=N))=f N:=by rw [decide_eq_false e,Bool.or_false]
   cases hf:f N
   ·rw [hf]at e2
    simp only [List.filter_cons,hf,e2,Bool.false_eq_true,if_false,List.filter_nil,List.length_nil];omega
   ·rw [hf]at e2
    simp only [List.filter_cons,hf,e2,if_true,List.filter_nil,List.length_cons,List.length_nil];omega
theorem Zc (p:Vo->Bool){n:Nat} (l:List Vo){v:Vo} (h:0<=v.fr/\v.fr<=n):mO p n (l++[v])=mO p n l+(if p v&& !(l.any fun u=>p u&&decide (u.fr=v.fr))then 1 else 0):=by
 unfold mO;cases hp:p v with
 | false=>simp [List.any_append,hp]
 | true=>
  have h1:(v.fr.toNat:Int)=v.fr:=by omega
  have e:(fun i:Nat=>(l++[v]).any fun u=>p u&&decide (u.fr=(i:Int)))=fun i:Nat=>(l.any fun u=>p u&&decide (u.fr=(i:Int))) || decide (v.fr.toNat=i):=by
   funext i
   rw [List.any_append]
   congr 1
   simp only [List.any_cons,List.any_nil,Bool.or_false,hp,Bool.true_and];rw [Bool.eq_iff_iff];simp only [decide_eq_true_eq];omega
  rw [e,aBJ (fun i:Nat=>l.any fun u=>p u&&decide (u.fr=(i:Int))) _ _ (by omega)];simp only [Bool.true_and,h1];cases l.any fun u=>p u&&decide (u.fr=v.fr)<;>rfl
theorem YZ (p:Vo->Bool){n:Nat}{l:List Vo}{i:Nat} (hi:i<l.length) (h:∀v∈l,0<=v.fr/\v.fr<=n):mO p n (l.take (i+1))=mO p n (l.take i)+(if p l[i]&& !((l.take i).any fun u=>p u&&decide (u.fr=l[i].fr))then 1 else 0):=by
 rw [List.take_add_one,List.getElem?_eq_getElem hi];exact Zc p _ (h _ (List.getElem_mem hi))
theorem ZA{p:Vo->Bool}{r:Int}{k:Nat} (hp:∀v,p v=true->v.rd=r/\v.kd=k){n:Nat}{l:List Vo} (hs:l.Pairwise fun u w=>u.lt w=true){i:Nat} (hi:i<l.length) (h:∀v∈l,0<=v.fr/\v.fr<=n):mO p n (l.take (i+1))=mO p n (l.take i)+(if p l[i]then 1 else 0):=by
 rw [YZ p hi h];cases hv:p l[i]with
 | false=>rfl
 | true=>
  have:((l.take i).any fun u=>p u&&decide (u.fr=l[i].fr))=false:=by
   rw [Bool.eq_false_iff];intro q;obtain⟨u,hu,q⟩:=List.any_eq_true.1 q;rw [Bool.and_eq_true,decide_eq_true_eq]at q;obtain⟨j,hj⟩:=List.getElem?_of_mem hu;have hj1:=(List.getElem?_eq_some_iff.1 hj).1;rw [List.length_take]at hj1;rw [List.getElem?_take,if_pos (by omega),List.getElem?_eq_getElem (by omega)]at hj;injection hj with hj;have hlt:=List.pairwise_iff_getElem.1 hs j i (by omega) hi (by omega);rw [hj,lt_iff]at hlt;have:=hp u q.1;have:=hp _ hv;omega
  rw [this];rfl
theorem Lh{r:Int}{n:Nat}{l:List Vo} (hs:l.Pairwise fun u w=>u.lt w=true){i:Nat} (hi:i<l.length) (h:∀v∈l,0<=v.fr/\v.fr<=n):mO (fun v=>decide (v.rd=r)) n (l.take (i+1))=mO (fun v=>decide (v.rd=r)) n (l.take i)+(if l[i].rd=r/\(i=0\/∀u,l[i-1]? =some u->u.rd≠r\/u.fr≠l[i].fr)then 1 else 0):=by
 rw [YZ _ hi h]
 congr 1
 by_cases hr:l[i].rd=r
 ·rw [decide_eq_true hr,Bool.true_and]
  by_cases h0:i=0
  ·subst h0
   exact Eq.trans rfl (if_pos ⟨hr,.inl rfl⟩).symm
  ·have hpi:i-1<l.length:=by omega
   have hlast:=List.pairwise_iff_getElem.1 hs (i-1) i hpi hi (by omega);rw [lt_iff]at hlast;by_cases q:l[i-1].rd≠r\/l[i-1].fr≠l[i].fr
   ·refine Eq.trans ?_ (if_pos ⟨hr,.inr fun u hu=>by rw [List.getElem?_eq_getElem hpi]at hu;injection hu with hu;rw [<-hu];exact q⟩).symm
    have:((l.take i).any fun u=>decide (u.rd=r)&&decide (u.fr=l[i].fr))=false:=by
     rw [Bool.eq_false_iff];intro z;obtain⟨u,hu,z⟩:=List.any_eq_true.1 z;rw [Bool.and_eq_true,decide_eq_true_eq,decide_eq_true_eq]at z;obtain⟨j,hj⟩:=List.getElem?_of_mem hu;have hj1:=(List.getElem?_eq_some_iff.1 hj).1;rw [List.length_take]at hj1;rw [List.getElem?_take,if_pos (by omega),List.getElem?_eq_getElem (by omega)]at hj;injection hj with hj;by_cases e:j=i-1
     ·subst e;rw [hj]at q;omega
     ·have h2:=List.pairwise_iff_getElem.1 hs j (i-1) (by omega) hpi (by omega)
      rw [hj,lt_iff]at h2;omega
    rw [this];rfl
   ·refine Eq.trans ?_ (if_neg (fun z=>by
     rcases z.2 with z | z
     ·exact h0 z
     ·exact q (z _ (List.getElem?_eq_getElem hpi)))).symm
    have:((l.take i).any fun u=>decide (u.rd=r)&&decide (u.fr=l[i].fr))=true:=by
     rw [List.any_eq_true];refine⟨l[i-1],?_,?_⟩
     ·rw [List.mem_iff_getElem?]
      exact⟨i-1,by rw [List.getElem?_take,if_pos (by omega)];exact List.getElem?_eq_getElem hpi⟩
     ·rw [Bool.and_eq_true,decide_eq_true_eq,decide_eq_true_eq];omega
    rw [this];rfl
 ·rw [decide_eq_false hr,Bool.false_and];exact Eq.trans rfl (if_neg (fun z=>hr z.1)).symm
theorem LR{a b:Nat} (h:a<b):decide (Int.ofNat a<Int.ofNat b)=true:=decide_eq_true (Int.ofNat_lt.2 h)
theorem nB{a b:Nat} (h:¬a<b):decide (Int.ofNat a<Int.ofNat b)=false:=decide_eq_false (fun q=>h (Int.ofNat_lt.1 q))
theorem WE (p:Vo->Bool) (n:Nat):mO p n []=0:=by
 unfold mO;rw [List.length_eq_zero_iff,List.filter_eq_nil_iff];intro i _ h;simp at h
set_option maxRecDepth 100000
noncomputable def nM (x:VE) (m:Nat) (t1 t4 t5:V) (S:Hp) (K:KV):Prop:=kH PP bM tV x [.r,.r,.r,.r,.l,.r,.d] m [] [t1,t4,t5] S K
noncomputable def NN (x:VE) (a0:V) (S:Hp) (K:KV):Prop:=
 nW 24 a0 S fun v0 S=>
 aD 0 v0 fun v1=>
 aE v1 S fun v2 S=>
 aD 1 v0 fun v3=>
 aE v3 S fun v4 S=>
 aD 2 v0 fun v5=>
 aE v5 S fun v6 S=>
 aD 3 v0 fun v7=>
 aE v7 S fun v8 S=>
 x.call yQ [v2,v4,v6,v8] S fun v9 S=>
 GU .not v9 fun v10=>
 aC x.most (aB false v10 (fun k=>aD 4 v0 fun v11=>
 k v11 S) S fun v12 S=>
 aC x.most (aB false v10 (fun k=>aE v12 S fun v13 S=>
 k v13 S) S fun v14 S=>
 aC x.most (aB false v10 (fun k=>aF PP .lss 3 v14 (.int .i64 (.ofNat 0)) fun v15=>
 k v15 S) S fun v16 S=>
 aC x.most (aL v10 (.bool true) v16 fun v17=>
 aC x.most (aB false v17 (fun k=>aD 4 v0 fun v18=>
 k v18 S) S fun v19 S=>
 aC x.most (aB false v17 (fun k=>aE v19 S fun v20 S=>
 k v20 S) S fun v21 S=>
 aC x.most (aB false v17 (fun k=>aF PP .gtr 3 v21 (.int .i64 (.ofNat 99)) fun v22=>
 k v22 S) S fun v23 S=>
 aC x.most (aL v17 (.bool true) v23 fun v24=>
 aC x.most (aB false v24 (fun k=>aD 5 v0 fun v25=>
 k v25 S) S fun v26 S=>
 aC x.most (aB false v24 (fun k=>aE v26 S fun v27 S=>
 k v27 S) S fun v28 S=>
 aC x.most (aB false v24 (fun k=>aF PP .lss 3 v28 (.int .i64 (.ofNat 1)) fun v29=>
 k v29 S) S fun v30 S=>
 aC x.most (aL v24 (.bool true) v30 fun v31=>
 aC x.most (aB false v31 (fun k=>aD 5 v0 fun v32=>
 k v32 S) S fun v33 S=>
 aC x.most (aB false v31 (fun k=>aE v33 S fun v34 S=>
 k v34 S) S fun v35 S=>
 aC x.most (aB false v31 (fun k=>aF PP .gtr 3 v35 (.int .i64 (.ofNat 3)) fun v36=>
 k v36 S) S fun v37 S=>
 aC x.most (aL v31 (.bool true) v37 fun v38=>
 aC x.most (aB false v38 (fun k=>aD 6 v0 fun v39=>
 k v39 S) S fun v40 S=>
 aC x.most (aB false v38 (fun k=>aE v40 S fun v41 S=>
 k v41 S) S fun v42 S=>
 aC x.most (aB false v38 (fun k=>aF PP .lss 3 v42 (.int .i64 (.ofNat 0)) fun v43=>
 k v43 S) S fun v44 S=>
 aC x.most (aL v38 (.bool true) v44 fun v45=>
 aC x.most (aB false v45 (fun k=>aD 6 v0 fun v46=>
 k v46 S) S fun v47 S=>
 aC x.most (aB false v45 (fun k=>aE v47 S fun v48 S=>
 k v48 S) S fun v49 S=>
 aC x.most (aB false v45 (fun k=>aF PP .gtr 3 v49 (.int .i64 (.ofNat 1099511627776)) fun v50=>
 k v50 S) S fun v51 S=>
 aC x.most (aL v45 (.bool true) v51 fun v52=>
 aC x.most (aB false v52 (fun k=>aD 7 v0 fun v53=>
 k v53 S) S fun v54 S=>
 aC x.most (aB false v52 (fun k=>aE v54 S fun v55 S=>
 k v55 S) S fun v56 S=>
 aC x.most (aB false v52 (fun k=>aD 9 v0 fun v57=>
 k v57 S) S fun v58 S=>
 aC x.most (aB false v52 (fun k=>aE v58 S fun v59 S=>
 k v59 S) S fun v60 S=>
 aC x.most (aB false v52 (fun k=>aD 4 v0 fun v61=>
 k v61 S) S fun v62 S=>
 aC x.most (aB false v52 (fun k=>aE v62 S fun v63 S=>
 k v63 S) S fun v64 S=>
 aC x.most (aB false v52 (fun k=>x.call rX [v56,v60,v64] S fun v65 S=>
 k v65 S) S fun v66 S=>
 aC x.most (aB false v52 (fun k=>GU .not v66 fun v67=>
 k v67 S) S fun v68 S=>
 aC x.most (aL v52 (.bool true) v68 fun v69=>
 aC x.most (aB false v69 (fun k=>aD 8 v0 fun v70=>
 k v70 S) S fun v71 S=>
 aC x.most (aB false v69 (fun k=>aE v71 S fun v72 S=>
 k v72 S) S fun v73 S=>
 aC x.most (aB false v69 (fun k=>aD 10 v0 fun v74=>
 k v74 S) S fun v75 S=>
 aC x.most (aB false v69 (fun k=>aE v75 S fun v76 S=>
 k v76 S) S fun v77 S=>
 aC x.most (aB false v69 (fun k=>aD 4 v0 fun v78=>
 k v78 S) S fun v79 S=>
 aC x.most (aB false v69 (fun k=>aE v79 S fun v80 S=>
 k v80 S) S fun v81 S=>
 aC x.most (aB false v69 (fun k=>x.call rX [v73,v77,v81] S fun v82 S=>
 k v82 S) S fun v83 S=>
 aC x.most (aB false v69 (fun k=>GU .not v83 fun v84=>
 k v84 S) S fun v85 S=>
 aC x.most (aL v69 (.bool true) v85 fun v86=>
 aC x.most (aB false v86 (fun k=>aD 13 v0 fun v87=>
 k v87 S) S fun Ce S=>
 aC x.most (aB false v86 (fun k=>aE Ce S fun v89 S=>
 k v89 S) S fun Km S=>
 aC x.most (aB false v86 (fun k=>xN Km fun v91=>
 k v91 S) S fun Ri S=>
 aC x.most (aB false v86 (fun k=>aF PP .gtr 3 Ri (.int .i64 (.ofNat 2048)) fun v93=>
 k v93 S) S fun RT S=>
 aC x.most (aL v86 (.bool true) RT fun Ha=>
 fC Ha (aS (.tuple [.pW,(.int .i64 (.ofNat 4))]) S K) (aD 14 v0 fun Hb=>
 aE Hb S fun xG S=>
 aD 14 v0 fun Ko=>
 jK 1 Ko .nil S fun S=>
 nM x x.most v0 xG (.int .i64 (.ofNat 0)) S K))))))))))))))))))))))))))))))))))))))))))))))))
theorem Cw (x:VE) (a0:V) (S:Hp) (K:KV):nP PP bM tV x [a0] S K=NN x a0 S K:=by kernel_rfl
noncomputable def pZ (x:VE) (m0:Nat) (t1 t4 t5:V) (S:Hp) (K:KV):Prop:=
 dX S fun S=>
 cY t4 fun v0=>
 aF PP .lss 3 t5 v0 fun v1=>
 fC v1 (fQ 5 t4 t5 fun v2=>
 dK 5 v2 S fun v3 S=>
 x.call kU [t1,v3] S fun v4 S=>
 GU .not v4 fun v5=>
 fC v5 (aS (.tuple [.pW,(.int .i64 (.ofNat 4))]) S K) (aF PP .add 3 t5 (.int .i64 (.ofNat 1)) fun v6=>
 nM x m0 t1 t4 v6 S K)) (aS (.tuple [t1,(.int .i64 (.ofNat 0))]) S K)
theorem uW (x:VE) (m0:Nat) (t1 t4 t5:V) (S:Hp) (K:KV):nM x (m0+1) t1 t4 t5 S K=pZ x m0 t1 t4 t5 S K:=by kernel_rfl
noncomputable def AI (x:VE) (a0:V) (S:Hp) (K:KV):Prop:=
 aQ PP a0 fun v0=>
 dK 15 v0 S fun v1 S=>
 fE [(.int .i64 (.ofNat 0)),(.int .i64 (.ofNat 0)),(.int .i64 (.ofNat 0)),(.int .i64 (.ofNat 0)),(.int .i64 (.ofNat 0)),(.int .i64 (.ofNat 0)),(.int .i64 (.ofNat 0)),(.string ⟨⟨[]⟩⟩),(.string ⟨⟨[]⟩⟩),(.int .i64 (.ofNat 0)),(.int .i64 (.ofNat 0)),(.bool false),(.bool false),(.string ⟨⟨[]⟩⟩),(.slice none 0 0)] 24 S fun v2 S=>
 jK 15 v2 v1 S fun S=>
 dP 49 0 [(.int .i64 (.ofNat 0)),(.int .i64 (.ofNat 0)),(.int .u8 (.ofNat 0)),(.int .i64 (.ofNat 0)),(.string ⟨⟨[]⟩⟩)] [] S fun v3 S=>
 aQ PP a0 fun v4=>
 aD 14 v4 fun v5=>
 aE v5 S fun v6 S=>
 oP 49 5 48 v3 v6 S fun v7 S=>
 aD 14 v2 fun v8=>
 jK 1 v8 v7 S fun S=>
 aS v2 S K
theorem LD (x:VE) (a0:V) (S:Hp) (K:KV):nP PP bM mC x [a0] S K=AI x a0 S K:=by kernel_rfl
noncomputable def NO (x:VE) (a0 a1 a2 a3:V) (S:Hp) (K:KV):Prop:=
 aF PP .geq 3 a0 (.int .i64 (.ofNat 1)) fun v0=>
 aC x.most (aB true v0 (fun k=>k a0 S) S fun v1 S=>
 aC x.most (aB true v0 (fun k=>aF PP .leq 3 v1 (.int .i64 (.ofNat 64)) fun v2=>
 k v2 S) S fun v3 S=>
 aC x.most (aL v0 v3 (.bool false) fun v4=>
 aC x.most (aB true v4 (fun k=>k a1 S) S fun v5 S=>
 aC x.most (aB true v4 (fun k=>aF PP .geq 3 v5 (.int .i64 (.ofNat 1)) fun v6=>
 k v6 S) S fun v7 S=>
 aC x.most (aL v4 v7 (.bool false) fun v8=>
 aC x.most (aB true v8 (fun k=>k a1 S) S fun v9 S=>
 aC x.most (aB true v8 (fun k=>aF PP .leq 3 v9 (.int .i64 (.ofNat 7)) fun v10=>
 k v10 S) S fun v11 S=>
 aC x.most (aL v8 v11 (.bool false) fun v12=>
 aC x.most (aB true v12 (fun k=>k a2 S) S fun v13 S=>
 aC x.most (aB true v12 (fun k=>aF PP .geq 3 v13 (.int .i64 (.ofNat 0)) fun v14=>
 k v14 S) S fun v15 S=>
 aC x.most (aL v12 v15 (.bool false) fun v16=>
 aC x.most (aB true v16 (fun k=>k a2 S) S fun v17 S=>
 aC x.most (aB true v16 (fun k=>aF PP .leq 3 v17 (.int .i64 (.ofNat 7)) fun v18=>
 k v18 S) S fun v19 S=>
 aC x.most (aL v16 v19 (.bool false) fun v20=>
 aC x.most (aB true v20 (fun k=>k a1 S) S fun v21 S=>
 aC x.most (aB true v20 (fun k=>k a2 S) S fun v22 S=>
 aC x.most (aB true v20 (fun k=>aF PP .mul 3 (.int .i64 (.ofNat 3)) v22 fun v23=>
 k v23 S) S fun v24 S=>
 aC x.most (aB true v20 (fun k=>aF PP .add 3 v24 (.int .i64 (.ofNat 1)) fun v25=>
 k v25 S) S fun v26 S=>
 aC x.most (aB true v20 (fun k=>aF PP .geq 3 v21 v26 fun v27=>
 k v27 S) S fun v28 S=>
 aC x.most (aL v20 v28 (.bool false) fun v29=>
 aC x.most (aB true v29 (fun k=>k a3 S) S fun v30 S=>
 aC x.most (aB true v29 (fun k=>aF PP .geq 3 v30 (.int .i64 (.ofNat 0)) fun v31=>
 k v31 S) S fun v32 S=>
 aC x.most (aL v29 v32 (.bool false) fun v33=>
 aC x.most (aB true v33 (fun k=>k a3 S) S fun v34 S=>
 aC x.most (aB true v33 (fun k=>k a1 S) S fun v35 S=>
 aC x.most (aB true v33 (fun k=>aF PP .leq 3 v34 v35 fun v36=>
 k v36 S) S fun v37 S=>
 aC x.most (aL v33 v37 (.bool false) fun v38=>
 aS v38 S K))))))))))))))))))))))))))))
theorem Cy (x:VE) (a0 a1 a2 a3:V) (S:Hp) (K:KV):nP PP bM yQ x [a0,a1,a2,a3] S K=NO x a0 a1 a2 a3 S K:=by kernel_rfl
noncomputable def JY (x:VE) (a0 a1 a2:V) (S:Hp) (K:KV):Prop:=
 xN a0 fun v0=>
 aF PP .leq 3 v0 (.int .i64 (.ofNat 2048)) fun v1=>
 aC x.most (aB true v1 (fun k=>k a1 S) S fun v2 S=>
 aC x.most (aB true v1 (fun k=>aF PP .geq 3 v2 (.int .i64 (.negSucc 0)) fun v3=>
 k v3 S) S fun v4 S=>
 aC x.most (aL v1 v4 (.bool false) fun v5=>
 aC x.most (aB true v5 (fun k=>k a1 S) S fun v6 S=>
 aC x.most (aB true v5 (fun k=>k a2 S) S fun v7 S=>
 aC x.most (aB true v5 (fun k=>aF PP .leq 3 v6 v7 fun v8=>
 k v8 S) S fun v9 S=>
 aC x.most (aL v5 v9 (.bool false) fun v10=>
 aC x.most (aB true v10 (fun k=>k a0 S) S fun v11 S=>
 aC x.most (aB true v10 (fun k=>aF PP .eql 9 v11 (.str []) fun v12=>
 k v12 S) S fun v13 S=>
 aC x.most (aB true v10 (fun k=>k a1 S) S fun v14 S=>
 aC x.most (aB true v10 (fun k=>aF PP .eql 3 v14 (.int .i64 (.negSucc 0)) fun v15=>
 k v15 S) S fun v16 S=>
 aC x.most (aB true v10 (fun k=>aF PP .eql 4 v13 v16 fun v17=>
 k v17 S) S fun v18 S=>
 aC x.most (aL v10 v18 (.bool false) fun v19=>
 aS v19 S K)))))))))))))
theorem XK (x:VE) (a0 a1 a2:V) (S:Hp) (K:KV):nP PP bM rX x [a0,a1,a2] S K=JY x a0 a1 a2 S K:=by kernel_rfl
noncomputable def BL (x:VE) (a0 a1:V) (S:Hp) (K:KV):Prop:=
 nW 49 a1 S fun v0 S=>
 aD 2 v0 fun v1=>
 aE v1 S fun v2 S=>
 aF PP .eql 5 v2 (.int .u8 (.ofNat 2)) fun v3=>
 aC x.most (aB true v3 (fun k=>aD 1 v0 fun v4=>
 k v4 S) S fun v5 S=>
 aC x.most (aB true v3 (fun k=>aE v5 S fun v6 S=>
 k v6 S) S fun v7 S=>
 aC x.most (aB true v3 (fun k=>aF PP .geq 3 v7 (.int .i64 (.ofNat 0)) fun v8=>
 k v8 S) S fun v9 S=>
 aC x.most (aL v3 v9 (.bool false) fun v10=>
 aC x.most (aB true v10 (fun k=>aD 1 v0 fun v11=>
 k v11 S) S fun v12 S=>
 aC x.most (aB true v10 (fun k=>aE v12 S fun v13 S=>
 k v13 S) S fun v14 S=>
 aC x.most (aB true v10 (fun k=>aF PP .lss 3 v14 (.int .i64 (.ofNat 100)) fun v15=>
 k v15 S) S fun v16 S=>
 aC x.most (aL v10 v16 (.bool false) fun v17=>
 aC x.most (aB true v17 (fun k=>aD 0 v0 fun v18=>
 k v18 S) S fun v19 S=>
 aC x.most (aB true v17 (fun k=>aE v19 S fun v20 S=>
 k v20 S) S fun v21 S=>
 aC x.most (aB true v17 (fun k=>k a0 S) S fun v22 S=>
 aC x.most (aB true v17 (fun k=>aD 1 v0 fun v23=>
 k v23 S) S fun v24 S=>
 aC x.most (aB true v17 (fun k=>aE v24 S fun v25 S=>
 k v25 S) S fun v26 S=>
 aC x.most (aB true v17 (fun k=>x.call eT [v22,v26] S fun v27 S=>
 k v27 S) S fun v28 S=>
 aC x.most (bN true v17 v21 (fun k=>aE v19 S fun v29 _=>
 aY v29 v21 k) (aC x.most (bN true v10 v14 (fun k=>aE v12 S fun v30 _=>
 aY v30 v14 k) (aC x.most (bN true v3 v7 (fun k=>aE v5 S fun v31 _=>
 aY v31 v7 k) (aE v1 S fun v32 _=>
 aY v32 v2 (aC x.most (aB true v17 (fun k=>aF PP .neq 3 v21 v28 fun v33=>
 k v33 S) S fun v34 S=>
 aC x.most (aL v17 v34 (.bool false) fun v35=>
 fC v35 (aS (.bool false) S K) (aQ PP a0 fun v36=>
 aD 1 v36 fun v37=>
 aE v37 S fun v38 S=>
 aQ PP a0 fun v39=>
 aD 14 v39 fun v40=>
 aE v40 S fun v41 S=>
 gP [(.int .i64 (.ofNat 0)),(.slice none 0 0)] [(0,1,v38),(1,1,v41)] fun v42=>
 aE v40 S fun v43 _=>
 aY v43 v41 (aE v37 S fun v44 _=>
 aY v44 v38 ((nW 74 v42 S fun v45 S=>
 True)/\(nW 74 v42 S fun v46 S=>
 dK 5 v0 S fun v47 S=>
 x.call kV [v46,v47] S fun v48 S=>
 aQ PP v46 fun v49=>
 aD 1 v49 fun v50=>
 aE v50 S fun v51 S=>
 aQ PP a0 fun v52=>
 aD 14 v52 fun v53=>
 jK 1 v53 v51 S fun S=>
 aS v48 S K)))))))))))))))))))))))))))
theorem NP (x:VE) (a0 a1:V) (S:Hp) (K:KV):nP PP bM kU x [a0,a1] S K=BL x a0 a1 S K:=by kernel_rfl
noncomputable def BM (x:VE) (a0 a1 a2:V) (S:Hp) (K:KV):Prop:=
 nW 45 a2 S fun v0 S=>
 aD 0 v0 fun v1=>
 aE v1 S fun v2 S=>
 aF PP .lss 5 v2 (.int .u8 (.ofNat 2)) fun v3=>
 aC x.most (aB false v3 (fun k=>aD 0 v0 fun v4=>
 k v4 S) S fun v5 S=>
 aC x.most (aB false v3 (fun k=>aE v5 S fun v6 S=>
 k v6 S) S fun v7 S=>
 aC x.most (aB false v3 (fun k=>aF PP .gtr 5 v7 (.int .u8 (.ofNat 4)) fun v8=>
 k v8 S) S fun v9 S=>
 aC x.most (aL v3 (.bool true) v9 fun v10=>
 aC x.most (aB false v10 (fun k=>aD 3 v0 fun v11=>
 k v11 S) S fun v12 S=>
 aC x.most (aB false v10 (fun k=>aE v12 S fun v13 S=>
 k v13 S) S fun v14 S=>
 aC x.most (aB false v10 (fun k=>k a0 S) S fun v15 S=>
 aC x.most (aB false v10 (fun k=>aQ PP v15 fun v16=>
 k v16 S) S fun v17 S=>
 aC x.most (aB false v10 (fun k=>aD 0 v17 fun v18=>
 k v18 S) S fun v19 S=>
 aC x.most (aB false v10 (fun k=>aE v19 S fun v20 S=>
 k v20 S) S fun v21 S=>
 aC x.most (aB false v10 (fun k=>aF PP .neq 3 v14 v21 fun v22=>
 k v22 S) S fun v23 S=>
 aC x.most (aL v10 (.bool true) v23 fun v24=>
 fC v24 (aS (.bool false) S K) (aD 4 v0 fun v25=>
 aE v25 S fun v26 S=>
 aD 0 v0 fun v27=>
 aE v27 S fun v28 S=>
 aD 5 v0 fun v29=>
 aE v29 S fun v30 S=>
 aD 9 v0 fun v31=>
 aE v31 S fun v32 S=>
 gP [(.int .i64 (.ofNat 0)),(.int .i64 (.ofNat 0)),(.int .u8 (.ofNat 0)),(.int .i64 (.ofNat 0)),(.string ⟨⟨[]⟩⟩)] [(0,1,a1),(1,1,v26),(2,1,v28),(3,1,v30),(4,1,v32)] fun v33=>
 x.call kU [a0,v33] S fun v34 S=>
 aS v34 S K)))))))))))))
theorem NQ (x:VE) (a0 a1 a2:V) (S:Hp) (K:KV):nP PP bM qG x [a0,a1,a2] S K=BM x a0 a1 a2 S K:=by kernel_rfl
noncomputable def mR (x:VE) (m:Nat) (t0 t1 t2 t7:V) (S:Hp) (K:KV):Prop:=kH PP bM gM x [.r,.r,.l,.d] m [] [t0,t1,t2,t7] S K
noncomputable def CY (x:VE) (a0 a1 a2:V) (S:Hp) (K:KV):Prop:=
 mR x x.most a0 a1 a2 .nil S K
theorem PT (x:VE) (a0 a1 a2:V) (S:Hp) (K:KV):nP PP bM gM x [a0,a1,a2] S K=CY x a0 a1 a2 S K:=by kernel_rfl
noncomputable def pF (x:VE) (m0:Nat) (t0 t1 t2 t7:V) (S:Hp) (K:KV):Prop:=
 dX S fun S=>
 aQ PP t0 fun v0=>
 aD 13 v0 fun v1=>
 aE v1 S fun v2 S=>
 aF PP .eql 9 v2 (.str []) fun v3=>
 fC v3 (x.call kW [t0,t1,t2] S fun v4 S=>
 lU 0 v4 fun v5=>
 lU 1 v4 fun v6=>
 GU .not v6 fun v7=>
 fC v7 (aS t7 S K) (oP 45 11 112 t7 v5 S fun v8 S=>
 mR x m0 t0 t1 t2 v8 S K)) (aS t7 S K)
theorem uF (x:VE) (m0:Nat) (t0 t1 t2 t7:V) (S:Hp) (K:KV):mR x (m0+1) t0 t1 t2 t7 S K=pF x m0 t0 t1 t2 t7 S K:=by kernel_rfl
noncomputable def aW (x:VE) (t0 t1 t2 t7:V) (S:Hp) (K:KV):Prop:=xO PP bM jZ x [.r,.r,.r,.r,.r] [] [t0,t1,t2,t7] S K
noncomputable def AJ (x:VE) (a0 a1 a2:V) (S:Hp) (K:KV):Prop:=
 aQ PP a0 fun v0=>
 aD 3 v0 fun v1=>
 aE v1 S fun v2 S=>
 aF PP .eql 3 v2 (.int .i64 (.ofNat 0)) fun v3=>
 aC x.most (aB false v3 (fun k=>k a0 S) S fun v4 S=>
 aC x.most (aB false v3 (fun k=>aQ PP v4 fun v5=>
 k v5 S) S fun v6 S=>
 aC x.most (aB false v3 (fun k=>aD 13 v6 fun v7=>
 k v7 S) S fun v8 S=>
 aC x.most (aB false v3 (fun k=>aE v8 S fun v9 S=>
 k v9 S) S fun v10 S=>
 aC x.most (aB false v3 (fun k=>aF PP .neq 9 v10 (.str []) fun v11=>
 k v11 S) S fun v12 S=>
 aC x.most (aL v3 (.bool true) v12 fun v13=>
 aC x.most (aB false v13 (fun k=>k a0 S) S fun v14 S=>
 aC x.most (aB false v13 (fun k=>aQ PP v14 fun v15=>
 k v15 S) S fun v16 S=>
 aC x.most (aB false v13 (fun k=>aD 14 v16 fun v17=>
 k v17 S) S fun v18 S=>
 aC x.most (aB false v13 (fun k=>aE v18 S fun v19 S=>
 k v19 S) S fun v20 S=>
 aC x.most (aB false v13 (fun k=>cY v20 fun v21=>
 k v21 S) S fun v22 S=>
 aC x.most (aB false v13 (fun k=>aF PP .eql 3 v22 (.int .i64 (.ofNat 0)) fun v23=>
 k v23 S) S fun v24 S=>
 aC x.most (aB false v13 (fun k=>k v24 S) S fun v25 S=>
 aC x.most (aB true v25 (fun k=>k a1 S) S fun v26 S=>
 aC x.most (aB true v25 (fun k=>aF PP .eql 9 v26 (.str []) fun v27=>
 k v27 S) S fun v28 S=>
 aC x.most (aB false v13 (fun k=>aC x.most (aL v25 v28 (.bool false) fun v29=>
 k v29 S)) S fun v30 S=>
 aC x.most (aL v13 (.bool true) v30 fun v31=>
 fC v31 (x.call gM [a0,a1,a2] S fun v32 S=>
 aS v32 S K) (aQ PP a0 fun v33=>
 aD 6 v33 fun v34=>
 aE v34 S fun v35 S=>
 aF PP .add 3 v35 (.int .i64 (.ofNat 1)) fun v36=>
 Bf false v36 (.int .i64 (.ofNat 1099511627776)) fun v37=>
 aQ PP a0 fun v38=>
 aD 6 v38 fun v39=>
 jK 1 v39 v37 S fun S=>
 aQ PP a0 fun v40=>
 aD 6 v40 fun v41=>
 aE v41 S fun v42 S=>
 aQ PP a0 fun v43=>
 aD 4 v43 fun v44=>
 aE v44 S fun v45 S=>
 aF PP .mul 3 (.int .i64 (.ofNat 2)) v45 fun v46=>
 aF PP .add 3 (.int .i64 (.ofNat 4)) v46 fun v47=>
 aF PP .geq 3 v42 v47 fun v48=>
 fC v48 (x.call fN [a0] S fun v49 S=>
 aQ PP a0 fun v50=>
 aD 5 v50 fun v51=>
 aE v51 S fun v52 S=>
 aF PP .eql 3 v52 (.int .i64 (.ofNat 1)) fun v53=>
 fC v53 (x.call bK [a0,(.int .i64 (.ofNat 2))] S fun v54 S=>
 x.call aZ [a0,(.int .u8 (.ofNat 3)),(.int .i64 (.ofNat 0)),(.str [])] S fun v55 S=>
 aW x a0 a1 a2 v55 S K) (aQ PP a0 fun v56=>
 aD 5 v56 fun v57=>
 aE v57 S fun v58 S=>
 aF PP .eql 3 v58 (.int .i64 (.ofNat 2)) fun v59=>
 aC x.most (aB true v59 (fun k=>k v49 S) S fun v60 S=>
 aC x.most (aB true v59 (fun k=>k a0 S) S fun v61 S=>
 aC x.most (aB true v59 (fun k=>aQ PP v61 fun v62=>
 k v62 S) S fun v63 S=>
 aC x.most (aB true v59 (fun k=>aD 4 v63 fun v64=>
 k v64 S) S fun v65 S=>
 aC x.most (aB true v59 (fun k=>aE v65 S fun v66 S=>
 k v66 S) S fun v67 S=>
 aC x.most (aB true v59 (fun k=>k a0 S) S fun v68 S=>
 aC x.most (aB true v59 (fun k=>aQ PP v68 fun v69=>
 k v69 S) S fun v70 S=>
 aC x.most (aB true v59 (fun k=>aD 1 v70 fun v71=>
 k v71 S) S fun v72 S=>
 aC x.most (aB true v59 (fun k=>aE v72 S fun v73 S=>
 k v73 S) S fun v74 S=>
 aC x.most (aB true v59 (fun k=>k a0 S) S fun v75 S=>
 aC x.most (aB true v59 (fun k=>aQ PP v75 fun v76=>
 k v76 S) S fun v77 S=>
 aC x.most (aB true v59 (fun k=>aD 2 v77 fun v78=>
 k v78 S) S fun v79 S=>
 aC x.most (aB true v59 (fun k=>aE v79 S fun v80 S=>
 k v80 S) S fun v81 S=>
 aC x.most (aB true v59 (fun k=>aF PP .sub 3 v74 v81 fun v82=>
 k v82 S) S fun v83 S=>
 aC x.most (aB true v59 (fun k=>x.call eJ [v60,v67,(.int .u8 (.ofNat 3))] S fun v84 S=>
 k v84 S) S fun v85 S=>
 aC x.most (bN true v59 v81 (fun k=>aE v79 S fun v86 _=>
 aY v86 v81 k) (aC x.most (bN true v59 v74 (fun k=>aE v72 S fun v87 _=>
 aY v87 v74 k) (aE v57 S fun Ce _=>
 aY Ce v58 (aC x.most (aB true v59 (fun k=>aF PP .geq 3 v85 v83 fun v89=>
 k v89 S) S fun Km S=>
 aC x.most (aL v59 Km (.bool false) fun v91=>
 fC v91 (x.call bK [a0,(.int .i64 (.ofNat 3))] S fun Ri S=>
 x.call aZ [a0,(.int .u8 (.ofNat 4)),(.int .i64 (.ofNat 0)),(.str [])] S fun v93 S=>
 aW x a0 a1 a2 v93 S K) (aQ PP a0 fun RT=>
 aD 5 RT fun Ha=>
 aE Ha S fun Hb S=>
 aF PP .eql 3 Hb (.int .i64 (.ofNat 3)) fun xG=>
 aC x.most (aB true xG (fun k=>k v49 S) S fun Ko S=>
 aC x.most (aB true xG (fun k=>k a0 S) S fun Nq S=>
 aC x.most (aB true xG (fun k=>aQ PP Nq fun PQ=>
 k PQ S) S fun UW S=>
 aC x.most (aB true xG (fun k=>aD 4 UW fun UX=>
 k UX S) S fun UY S=>
 aC x.most (aB true xG (fun k=>aE UY S fun UZ S=>
 k UZ S) S fun v105 S=>
 aC x.most (aB true xG (fun k=>k a0 S) S fun Cf S=>
 aC x.most (aB true xG (fun k=>aQ PP Cf fun v107=>
 k v107 S) S fun VB S=>
 aC x.most (aB true xG (fun k=>aD 1 VB fun v109=>
 k v109 S) S fun PR S=>
 aC x.most (aB true xG (fun k=>aE PR S fun VC S=>
 k VC S) S fun tZ S=>
 aC x.most (aB true xG (fun k=>k a0 S) S fun VD S=>
 aC x.most (aB true xG (fun k=>aQ PP VD fun VF=>
 k VF S) S fun VG S=>
 aC x.most (aB true xG (fun k=>aD 2 VG fun IV=>
 k IV S) S fun v117 S=>
 aC x.most (aB true xG (fun k=>aE v117 S fun VH S=>
 k VH S) S fun LA S=>
 aC x.most (aB true xG (fun k=>aF PP .sub 3 tZ LA fun VI=>
 k VI S) S fun Cg S=>
 aC x.most (aB true xG (fun k=>x.call eJ [Ko,v105,(.int .u8 (.ofNat 4))] S fun Ci S=>
 k Ci S) S fun Cj S=>
 aC x.most (bN true xG LA (fun k=>aE v117 S fun v124 _=>
 aY v124 LA k) (aC x.most (bN true xG tZ (fun k=>aE PR S fun Ck _=>
 aY Ck tZ k) (aE Ha S fun Cl _=>
 aY Cl Hb (aC x.most (aB true xG (fun k=>aF PP .geq 3 Cj Cg fun v127=>
 k v127 S) S fun Cm S=>
 aC x.most (aL xG Cm (.bool false) fun ES=>
 aC x.most (aB true ES (fun k=>k a0 S) S fun v130 S=>
 aC x.most (aB true ES (fun k=>aQ PP v130 fun v131=>
 k v131 S) S fun VJ S=>
 aC x.most (aB true ES (fun k=>aD 4 VJ fun VL=>
 k VL S) S fun VM S=>
 aC x.most (aB true ES (fun k=>aE VM S fun Cn S=>
 k Cn S) S fun BW S=>
 aC x.most (aB true ES (fun k=>aF PP .lss 3 BW (.int .i64 (.ofNat 99)) fun Co=>
 k Co S) S fun v138 S=>
 aC x.most (aL ES v138 (.bool false) fun v139=>
 fC v139 (aQ PP a0 fun Cp=>
 aD 4 Cp fun v141=>
 aE v141 S fun Cq S=>
 aF PP .add 3 Cq (.int .i64 (.ofNat 1)) fun v143=>
 x.call gR [a0,v143] S fun Kp S=>
 aW x a0 a1 a2 .nil S K) (aW x a0 a1 a2 .nil S K)))))))))))))))))))))))))))))))))))))))))))))))))))))) (aW x a0 a1 a2 .nil S K)))))))))))))))))))
theorem LE (x:VE) (a0 a1 a2:V) (S:Hp) (K:KV):nP PP bM jZ x [a0,a1,a2] S K=AJ x a0 a1 a2 S K:=by kernel_rfl
noncomputable def mY (x:VE) (t0 t1 t2 t7:V) (S:Hp) (K:KV):Prop:=
 dX S fun S=>
 x.call gM [t0,t1,t2] S fun v0 S=>
 oP 45 11 112 t7 v0 S fun v1 S=>
 aS v1 S K
theorem AK (x:VE) (t0 t1 t2 t7:V) (S:Hp) (K:KV):xP PP bM jZ x [.r,.r,.r,.r,.r] [] [t0,t1,t2,t7] S K=mY x t0 t1 t2 t7 S K:=by kernel_rfl
theorem AX (x:VE) (hm:x.most≠0) (t0 t1 t2 t7:V) (S:Hp) (K:KV):aW x t0 t1 t2 t7 S K=mY x t0 t1 t2 t7 S K:=(nI (hm:=hm) ..).trans (AK x t0 t1 t2 t7 S K)
noncomputable def mS (x:VE) (m:Nat) (t0 t1 t5:V) (S:Hp) (K:KV):Prop:=kH PP bM pN x [.r,.r,.l,.r,.d] m [] [t0,t1,t5] S K
noncomputable def FE (x:VE) (a0 a1:V) (S:Hp) (K:KV):Prop:=
 cY a0 fun v0=>
 cY a1 fun v1=>
 aF PP .neq 3 v0 v1 fun v2=>
 fC v2 (aS (.bool false) S K) (mS x x.most a0 a1 (.int .i64 (.ofNat 0)) S K)
theorem RU (x:VE) (a0 a1:V) (S:Hp) (K:KV):nP PP bM pN x [a0,a1] S K=FE x a0 a1 S K:=by kernel_rfl
noncomputable def pG (x:VE) (m0:Nat) (t0 t1 t5:V) (S:Hp) (K:KV):Prop:=
 dX S fun S=>
 cY t0 fun v0=>
 aF PP .lss 3 t5 v0 fun v1=>
 fC v1 (fQ 1 t0 t5 fun v2=>
 aE v2 S fun v3 S=>
 fQ 1 t1 t5 fun v4=>
 aE v4 S fun v5 S=>
 aF PP .neq 9 v3 v5 fun v6=>
 fC v6 (aS (.bool false) S K) (aF PP .add 3 t5 (.int .i64 (.ofNat 1)) fun v7=>
 mS x m0 t0 t1 v7 S K)) (aS (.bool true) S K)
theorem uG (x:VE) (m0:Nat) (t0 t1 t5:V) (S:Hp) (K:KV):mS x (m0+1) t0 t1 t5 S K=pG x m0 t0 t1 t5 S K:=by kernel_rfl
noncomputable def uH (x:VE) (a0 a1:V) (S:Hp) (K:KV):Prop:=
 aQ PP a0 fun v0=>
 aD 0 v0 fun v1=>
 aE v1 S fun v2 S=>
 aF PP .add 3 v2 a1 fun v3=>
 aQ PP a0 fun v4=>
 aD 1 v4 fun v5=>
 aE v5 S fun v6 S=>
 aF PP .rem 3 v3 v6 fun v7=>
 aF PP .add 3 (.int .i64 (.ofNat 1)) v7 fun v8=>
 aS v8 S K
theorem EX (x:VE) (a0 a1:V) (S:Hp) (K:KV):nP PP bM eT x [a0,a1] S K=uH x a0 a1 S K:=by kernel_rfl
noncomputable def iB (x:VE) (m:Nat) (t0 t3 t5 t6:V) (S:Hp) (K:KV):Prop:=kH PP bM kV x [.r,.r,.r,.r,.l,.d] m [] [t0,t3,t5,t6] S K
noncomputable def BN (x:VE) (a0 a1:V) (S:Hp) (K:KV):Prop:=
 nW 49 a1 S fun v0 S=>
 dK 5 v0 S fun v1 S=>
 aQ PP a0 fun v2=>
 aD 0 v2 fun v3=>
 aE v3 S fun v4 S=>
 x.call BJ [v1,v4] S fun v5 S=>
 GU .not v5 fun v6=>
 fC v6 (aS (.bool false) S K) (iB x x.most a0 v0 .nil (.int .i64 (.ofNat 0)) S K)
theorem NS (x:VE) (a0 a1:V) (S:Hp) (K:KV):nP PP bM kV x [a0,a1] S K=BN x a0 a1 S K:=by kernel_rfl
noncomputable def mZ (x:VE) (m0:Nat) (t0 t3 t5 t6:V) (S:Hp) (K:KV):Prop:=
 dX S fun S=>
 aQ PP t0 fun v0=>
 aD 1 v0 fun v1=>
 aE v1 S fun v2 S=>
 cY v2 fun v3=>
 aF PP .lss 3 t6 v3 fun v4=>
 aC x.most (aB true v4 (fun k=>k t0 S) S fun v5 S=>
 aC x.most (aB true v4 (fun k=>aQ PP v5 fun v6=>
 k v6 S) S fun v7 S=>
 aC x.most (aB true v4 (fun k=>aD 1 v7 fun v8=>
 k v8 S) S fun v9 S=>
 aC x.most (aB true v4 (fun k=>aE v9 S fun v10 S=>
 k v10 S) S fun v11 S=>
 aC x.most (aB true v4 (fun k=>k t6 S) S fun v12 S=>
 aC x.most (aB true v4 (fun k=>fQ 5 v11 v12 fun v13=>
 k v13 S) S fun v14 S=>
 aC x.most (aB true v4 (fun k=>dK 5 v14 S fun v15 S=>
 k v15 S) S fun v16 S=>
 aC x.most (aB true v4 (fun k=>dK 5 t3 S fun v17 S=>
 k v17 S) S fun v18 S=>
 aC x.most (aB true v4 (fun k=>x.call rZ [v16,v18] S fun v19 S=>
 k v19 S) S fun v20 S=>
 aC x.most (bN true v4 v11 (fun k=>aE v9 S fun v21 _=>
 aY v21 v11 k) (aE v1 S fun v22 _=>
 aY v22 v2 (aC x.most (aL v4 v20 (.bool false) fun v23=>
 fC v23 (aQ PP t0 fun v24=>
 aD 1 v24 fun v25=>
 aE v25 S fun v26 S=>
 fQ 5 v26 t6 fun v27=>
 dK 5 v27 S fun v28 S=>
 dP 49 1 [(.int .i64 (.ofNat 0)),(.int .i64 (.ofNat 0)),(.int .u8 (.ofNat 0)),(.int .i64 (.ofNat 0)),(.string ⟨⟨[]⟩⟩)] [(0,5,v28)] S fun v29 S=>
 oP 49 5 48 t5 v29 S fun v30 S=>
 aF PP .add 3 t6 (.int .i64 (.ofNat 1)) fun v31=>
 iB x m0 t0 t3 v30 v31 S K) (aQ PP t0 fun v32=>
 aD 1 v32 fun v33=>
 aE v33 S fun v34 S=>
 cY v34 fun v35=>
 aF PP .lss 3 t6 v35 fun v36=>
 aC x.most (aB true v36 (fun k=>dK 5 t3 S fun v37 S=>
 k v37 S) S fun v38 S=>
 aC x.most (aB true v36 (fun k=>k t0 S) S fun v39 S=>
 aC x.most (aB true v36 (fun k=>aQ PP v39 fun v40=>
 k v40 S) S fun v41 S=>
 aC x.most (aB true v36 (fun k=>aD 1 v41 fun v42=>
 k v42 S) S fun v43 S=>
 aC x.most (aB true v36 (fun k=>aE v43 S fun v44 S=>
 k v44 S) S fun v45 S=>
 aC x.most (aB true v36 (fun k=>k t6 S) S fun v46 S=>
 aC x.most (aB true v36 (fun k=>fQ 5 v45 v46 fun v47=>
 k v47 S) S fun v48 S=>
 aC x.most (aB true v36 (fun k=>dK 5 v48 S fun v49 S=>
 k v49 S) S fun v50 S=>
 aC x.most (aB true v36 (fun k=>x.call rZ [v38,v50] S fun v51 S=>
 k v51 S) S fun v52 S=>
 aC x.most (bN true v36 v45 (fun k=>aE v43 S fun v53 _=>
 aY v53 v45 k) (aE v33 S fun v54 _=>
 aY v54 v34 (aC x.most (aB true v36 (fun k=>GU .not v52 fun v55=>
 k v55 S) S fun v56 S=>
 aC x.most (aL v36 v56 (.bool false) fun v57=>
 fC v57 (aS (.bool false) S K) (dK 5 t3 S fun v58 S=>
 aQ PP t0 fun v59=>
 aD 1 v59 fun v60=>
 aE v60 S fun v61 S=>
 uO 49 5 v61 (some t6) none none S fun v62=>
 aE v60 S fun v63 _=>
 aY v63 v61 (dK 5 t3 S fun v64 _=>
 aY v64 v58 ((dP 49 1 [(.int .i64 (.ofNat 0)),(.int .i64 (.ofNat 0)),(.int .u8 (.ofNat 0)),(.int .i64 (.ofNat 0)),(.string ⟨⟨[]⟩⟩)] [(0,5,v58)] S fun v65 S=>
 True)/\(dP 49 1 [(.int .i64 (.ofNat 0)),(.int .i64 (.ofNat 0)),(.int .u8 (.ofNat 0)),(.int .i64 (.ofNat 0)),(.string ⟨⟨[]⟩⟩)] [(0,5,v58)] S fun v66 S=>
 oP 49 5 48 t5 v66 S fun v67 S=>
 aE v60 S fun v68 _=>
 aY v68 v61 (oP 49 5 48 v67 v62 S fun v69 S=>
 aE v60 S fun v70 _=>
 aY v70 v61 (aQ PP t0 fun v71=>
 aD 1 v71 fun v72=>
 jK 1 v72 v69 S fun S=>
 aS (.bool true) S K))))))))))))))))))))))))))))))))))
theorem rE (x:VE) (m0:Nat) (t0 t3 t5 t6:V) (S:Hp) (K:KV):iB x (m0+1) t0 t3 t5 t6 S K=mZ x m0 t0 t3 t5 t6 S K:=by kernel_rfl
set_option maxRecDepth 4000
structure Lv (S:Hp) (v:V) (l:List Vo):Prop where
 is:(v= .nil/\l=[])\/(∃j,v= .own j 0 0 0/\S j=some (.row [] 49)/\l=[])\/∃i,v= .acc i l.length/\S i=some (.iD (AT l) 49 l.length)
structure RB (S:Hp) (b:Nat) (a:Ba):Prop where
 row:∃v,S b=some (.row (aU a.s v) 24)/\Lv S v a.l
theorem aBE:gT bK=none:=rfl
theorem Zb:gT gR=none:=rfl
theorem aBF:gT eT=none:=rfl
theorem aBG:gT rZ=none:=rfl
section
variable{M n b:Nat}{x:VE}{S:Hp}{K:KV}{s:Bs}{v:V}{ty:TypeId}
theorem SN (hx:Deep PP bM gT M (n+1) x) (hb:S b=some (.row (aU s v) ty)){z:Int} (hk:K (.tuple []) (upd S b (.row (aU {s with st:=z,age:=0} v) ty))):x.call bK [.ptr b 0,.int .i64 z] S K:=by
 refine hx.call aBE fun y _=>?_;rw [LG];unfold AN;rw [aP,eO];refine dQ hb rfl (by simp [aU]) ?_;rw [aP,eO];refine dQ upd_same rfl (by simp [aU,splice]) ?_;rw [cP];exact aK hk
theorem Hr (hx:Deep PP bM gT M (n+2) x) (hb:S b=some (.row (aU s v) ty)){z:Int} (hk:K (.tuple []) (upd S b (.row (aU {s with st:=1,age:=0,rd:=z,prop:=false,seen:=false} v) ty))):x.call gR [.ptr b 0,.int .i64 z] S K:=by
 refine hx.call Zb fun y hy=>?_;rw [JB];unfold yC;rw [aP,eO];refine dQ hb rfl (by simp [aU]) ?_;refine SN (s:={s with rd:=z}) hy upd_same ?_;rw [cP,aP,eO];refine dQ upd_same rfl (by simp [aU]) ?_;rw [cP,aP,eO];refine dQ upd_same rfl (by simp [aU,splice]) ?_;rw [cP];exact aK hk
theorem Dk (hx:Deep PP bM gT M (n+1) x) (hb:S b=some (.row (aU s v) ty)){z:Int} (h0:0<=s.h/\s.h<=1000000) (h1:0<=z/\z<=1000000) (h2:0<s.n/\s.n<=1000000) (hk:K (.int .i64 (s.RW z)) S):x.call eT [.ptr b 0,.int .i64 z] S K:=by
 refine hx.call aBF fun y _=>?_;rw [EX];unfold uH;rw [aP,eO];refine iO hb rfl ?_;rw [bA,wrap_small (by omega) (by omega),aP,eO];refine iO hb rfl ?_;have hm:(s.h+z).tmod s.n=(s.h+z)%s.n:=Int.tmod_eq_emod_of_nonneg (by omega);have hp:=Int.emod_nonneg (s.h+z) (show s.n≠0 by omega);have hq:=Int.emod_lt_of_pos (s.h+z) h2.1;rw [PI (by omega),hm,bA];have:kC .i64 (Int.ofNat 1+(s.h+z)%s.n)=s.RW z:=by rw [wrap_small]<;>(try simp [Bs.RW])<;>omega
 rw [this];exact aK hk
end
set_option maxRecDepth 4000
section
variable{M n b:Nat}{x:VE}{S:Hp}{K:KV}
theorem Oh (hx:Deep PP bM gT M (n+1) x){u v:Vo} (hk:K (.bool (u.lt v)) S):x.call rZ [.agg u.vv,.agg v.vv] S K:=by
 refine hx.call aBG fun y _=>?_;rw [XL];unfold JZ;refine eQ rfl fun i hi=>eQ rfl fun j hj=>?_;have l1:dL S (upd (upd S i (.row u.vv 49)) j (.row v.vv 49)):= .trans (.aV hi) (.aV hj);have hij:i≠j:=fun e=>by rw [e,upd_same]at hj;cases hj
 have ri:upd (upd S i (.row u.vv 49)) j (.row v.vv 49) i=some (.row u.vv 49):=by rw [aG hij];exact upd_same
 have rj:upd (upd S i (.row u.vv 49)) j (.row v.vv 49) j=some (.row v.vv 49):=upd_same;generalize upd (upd S i (.row u.vv 49)) j (.row v.vv 49)=S1 at l1 ri rj;have i0:∀{K:KV},aE (.ptr i 0) S1 K=K (.int .i64 u.fr) S1:=aJ ri;have i1:∀{K:KV},aE (.ptr i 1) S1 K=K (.int .i64 u.rd) S1:=aJ ri;have i2:∀{K:KV},aE (.ptr i 2) S1 K=K (.int .u8 (.ofNat u.kd)) S1:=aJ ri;have j0:∀{K:KV},aE (.ptr j 0) S1 K=K (.int .i64 v.fr) S1:=aJ rj;have j1:∀{K:KV},aE (.ptr j 1) S1 K=K (.int .i64 v.rd) S1:=aJ rj;have j2:∀{K:KV},aE (.ptr j 2) S1 K=K (.int .u8 (.ofNat v.kd)) S1:=aJ rj;have fin:∀{c:Bool},c=u.lt v->aS (.bool c) S1 K:=fun e=>cI l1 (by rw [e];exact hk);simp only [aO,i1,j1,cW,aT];by_cases h1:u.rd=v.rd
 ·simp only [h1,decide_true,Bool.not_true,Bool.false_eq_true,if_false,i0,j0,cW,aT]
  by_cases h2:u.fr=v.fr
  ·simp only [h2,decide_true,Bool.not_true,Bool.false_eq_true,if_false,i2,j2,LL]
   refine fin ?_;rw [Bool.eq_iff_iff,lt_iff];simp [h1,h2]
  ·simp only [decide_eq_false h2,Bool.not_false,if_true,aI]
   refine fin ?_;rw [Bool.eq_iff_iff,lt_iff];simp [h1,h2]
 ·simp only [decide_eq_false h1,Bool.not_false,if_true,aI]
  refine fin ?_;rw [Bool.eq_iff_iff,lt_iff];simp [h1]
end
set_option maxRecDepth 4000
theorem aFf:gT BJ=none:=rfl
section
variable{M n b:Nat}{x:VE}{S:Hp}{K:KV}
theorem aFg (hx:Deep PP bM gT M (n+1) x){v:Vo}{z:Int} (hk:K (.bool (v.may z)) S):x.call BJ [.agg v.vv,.int .i64 z] S K:=by
 refine hx.call aFf fun y hy=>?_;rw [Hd];unfold QZ;refine eQ rfl fun i hi=>?_;have hr:upd S i (.row v.vv 49) i=some (.row v.vv 49):=upd_same;have hle:dL S (upd S i (.row v.vv 49)):= .aV hi;generalize upd S i (.row v.vv 49)=S1 at hr hle;have l0:∀{K:KV},aE (.ptr i 0) S1 K=K (.int .i64 v.fr) S1:=aJ hr;have l1:∀{K:KV},aE (.ptr i 1) S1 K=K (.int .i64 v.rd) S1:=aJ hr;have l2:∀{K:KV},aE (.ptr i 2) S1 K=K (.int .u8 (.ofNat v.kd)) S1:=aJ hr;have l3:∀{K:KV},aE (.ptr i 3) S1 K=K (.int .i64 v.vl) S1:=aJ hr;have l4:∀{K:KV},aE (.ptr i 4) S1 K=K (.str v.tx) S1:=aJ hr;have fin:∀{bb:Bool},v.may z=bb->aS (.bool bb) S1 K:=fun e=>cI hle (by rw [<-e];exact hk);simp only [aO,l0,aI,bD];by_cases h1:v.fr<1
 ·simp only [show decide (v.fr<Int.ofNat 1)=true from decide_eq_true h1,bL,aR,if_true,aT]
  refine fin ?_;simp [Vo.may,h1]
 simp only [show decide (v.fr<Int.ofNat 1)=false from decide_eq_false h1,aH,aR,if_false,Bool.false_eq_true,l0,dN];by_cases h2:z<v.fr
 ·simp only [decide_eq_true h2,bL,aR,if_true,aT]
  refine fin ?_;simp [Vo.may,h2]
 simp only [decide_eq_false h2,aH,aR,if_false,Bool.false_eq_true,l1,aI];by_cases h3:v.rd<0
 ·simp only [show decide (v.rd<Int.ofNat 0)=true from decide_eq_true h3,bL,aR,if_true,aT]
  refine fin ?_;simp [Vo.may,h3]
 simp only [show decide (v.rd<Int.ofNat 0)=false from decide_eq_false h3,aH,aR,if_false,Bool.false_eq_true,l1,dN];by_cases h4:100<=v.rd
 ·simp only [show decide (Int.ofNat 99<v.rd)=true from decide_eq_true (by show(99:Int)<v.rd;omega),bL,if_true,aT]
  refine fin ?_;simp [Vo.may,h4]
 simp only [show decide (Int.ofNat 99<v.rd)=false from decide_eq_false (by show ¬(99:Int)<v.rd;omega),aH,if_false,Bool.false_eq_true,l4,yN,dN];by_cases h5:2048<v.tx.length
 ·simp only [show decide (Int.ofNat 2048<Int.ofNat v.tx.length)=true from decide_eq_true (by simp;omega),aT,if_true]
  refine fin ?_;simp [Vo.may,h5]
 have base:v.may z=if v.kd=2 then(!decide (v.tx=[]))&&decide (-1<=v.vl)&&decide (v.vl<v.rd)else if v.kd=3\/v.kd=4 then decide (v.vl=0)else false:=by
  unfold Vo.may;simp only [decide_eq_false h1,decide_eq_false h2,decide_eq_false h3,decide_eq_false h4,decide_eq_false h5,Bool.or_false,Bool.not_false,Bool.true_and]
 simp only [show decide (Int.ofNat 2048<Int.ofNat v.tx.length)=false from decide_eq_false (by simp;omega),aT,if_false,Bool.false_eq_true,l2,l4,qU,kT];by_cases k2:v.kd=2
 ·rw [if_pos k2]at base
  simp only [decide_eq_true k2,if_true];by_cases e1:v.tx=[]
  ·simp only [decide_eq_true e1,Bool.not_true,dF,aR,Bool.false_eq_true,if_false]
   refine fin ?_;rw [base];simp [e1]
  simp only [decide_eq_false e1,Bool.not_false,aH,aR,if_true,l3,dG];by_cases e2: -1<=v.vl
  ·simp only [show decide (Int.negSucc 0<=v.vl)=true from decide_eq_true e2,aH,if_true,l3,l1,aI]
   refine fin ?_;rw [base];simp [e1,e2]
  ·simp only [show decide (Int.negSucc 0<=v.vl)=false from decide_eq_false e2,dF,Bool.false_eq_true,if_false]
   refine fin ?_;rw [base];simp [e2]
 ·rw [if_neg k2]at base
  simp only [decide_eq_false k2,Bool.false_eq_true,if_false];by_cases k3:v.kd=3
  ·simp only [decide_eq_true k3,bL,aR,if_true,aH,l3,bW]
   refine fin ?_;rw [base,if_pos (.inl k3)];rfl
  simp only [decide_eq_false k3,aH,aR,Bool.false_eq_true,if_false,l2,qU];by_cases k4:v.kd=4
  ·simp only [decide_eq_true k4,aH,if_true,l3,bW]
   refine fin ?_;rw [base,if_pos (.inr k4)];rfl
  ·simp only [decide_eq_false k4,dF,Bool.false_eq_true,if_false]
   refine fin ?_;rw [base,if_neg (by omega)]
end
set_option maxRecDepth 4000
theorem aBH{v:Vo}:∀(l:List Vo) (i:Nat),i<=l.length->(∀j u,j<i->l[j]? =some u->v.lt u=false)->(∀u,l[i]? =some u->v.lt u=true)->uP v l=l.take i++v::l.drop i:=by
 intro l;induction l with
 | nil=>intro i _ _ _;simp [uP]
 | cons u l ih=>
  intro i hi h1 h2;cases i with
  | zero=>
   have:=h2 u rfl;simp [uP,this]
  | succ i=>
   have:=h1 0 u (by omega) rfl;unfold uP;rw [if_neg (by rw [this];simp),ih i (by simpa using hi) (fun j w a b=>h1 (j+1) w (by omega) (by simpa using b)) (fun w b=>h2 w (by simpa using b))];simp
section
variable{S S':Hp}{v:V}{l:List Vo}
theorem Lv.le (h:Lv S v l) (k:∀i o,S i=some o->GR o=true\/(∃vs t,o= .row vs t)->S' i=some o):Lv S' v l:=by
 rcases h.is with q | ⟨j,q1,q2,q3⟩ | ⟨i,q1,q2⟩
 ·exact⟨.inl q⟩
 ·exact⟨.inr (.inl ⟨j,q1,k _ _ q2 (.inr ⟨_,_,rfl⟩),q3⟩)⟩
 ·exact⟨.inr (.inr ⟨i,q1,k _ _ q2 (.inl rfl)⟩)⟩
theorem Lv.hle (h:Lv S v l) (k:dL S S'):Lv S' v l:=h.le fun i o e _=>k i o e
theorem Lv.len (h:Lv S v l){k:V->Prop}:cY v k=k (.int .i64 (.ofNat l.length)):=by
 rcases h.is with ⟨rfl,rfl⟩ | ⟨j,rfl,_,rfl⟩ | ⟨i,rfl,_⟩<;>rfl
theorem Lv.same (h:Lv S v l){p:Prop}:aY v v p=p:=by
 rcases h.is with ⟨rfl,rfl⟩ | ⟨j,rfl,_,rfl⟩ | ⟨i,rfl,_⟩<;>exact rT rfl
theorem Lv.at (h:Lv S v l){i:Nat} (hi:i<l.length){k:V->Prop} (hk:∀p,(∀(S':Hp) (K:KV),dL S S'->dK 5 p S' K=K (.agg (l[i]).vv) S')->k p):fQ 5 v (.int .i64 (.ofNat i)) k:=by
 rcases h.is with ⟨rfl,rfl⟩ | ⟨j,rfl,_,rfl⟩ | ⟨b,rfl,e⟩
 ·simp at hi
 ·simp at hi
 ·rw [dR hi]
  refine hk _ fun S' K q=>?_;unfold dK;simp only [q _ _ e];rw [eE (by rw [pH];omega),VX l i l[i] (List.getElem?_eq_getElem hi)];simp
structure Tv (lv:V) (l0:List Vo) (w:V) (l:List Vo):Prop where
 src:∀(S':Hp) (k:Nat->List V->Prop),Lv S' lv l0->k l.length (AT l)->zY 5 w S' k
theorem Lv.from (h:Lv S v l){i:Nat} (hi:i<=l.length){k:V->Prop} (hk:∀w,Tv v l w (l.drop i)->k w):uO 49 5 v (some (.int .i64 (.ofNat i))) none none S k:=by
 rcases h.is with ⟨rfl,rfl⟩ | ⟨j,rfl,e,rfl⟩ | ⟨b,rfl,e⟩
 ·have hz:i=0:=by simpa using hi
  subst hz;exact⟨Nat.le_refl _,Nat.le_refl _,Nat.le_refl _,hk _ ⟨fun S' k q hk=>hk⟩⟩
 ·have hz:i=0:=by simpa using hi
  subst hz;refine⟨Nat.le_refl _,Nat.le_refl _,Nat.le_refl _,hk _ ⟨fun S' k q hk=>?_⟩⟩;show zY 5 (.own j 0 0 0) S' k;unfold zY;rcases q.is with ⟨q1,_⟩ | ⟨j2,q1,q2,_⟩ | ⟨b,q1,_⟩
  ·cases q1
  ·injection q1 with q1
   subst q1;simp only [q2];rw [eE (by simp)];exact hk
  ·cases q1
 ·have obj:∀{S':Hp},Lv S' (.acc b l.length) l->S' b=some (.iD (AT l) 49 l.length):=fun q=>by
   rcases q.is with ⟨q1,_⟩ | ⟨j2,q1,q2,_⟩ | ⟨b2,q1,q2⟩
   ·cases q1
   ·cases q1
   ·injection q1 with q1;subst q1;exact q2
  by_cases hn:i=l.length
  ·subst hn
   refine Fy e (hk _ ⟨fun S' k q hk=>?_⟩);rw [List.drop_length]at hk;exact hk
  ·refine HY e (by omega) (hk _ ⟨fun S' k q hk=>?_⟩)
   unfold zY;simp only [obj q];refine⟨trivial,?_⟩;rw [eE (by rw [pH,<-Nat.add_mul];exact Nat.mul_le_mul_right 5 (by omega))]
   have:((AT l).drop (i*5)).take ((l.length-i)*5)=AT (l.drop i):=by
    rw [List.take_of_length_le (by rw [List.length_drop,pH,Nat.sub_mul];omega)]
    have e1:AT l=AT (l.take i)++AT (l.drop i):=by
     show l.flatMap Vo.vv=_
     conv=>lhs;rw [<-List.take_append_drop i l]
     exact List.flatMap_append
    rw [e1,List.drop_append_of_le_length (by rw [pH,List.length_take];omega),List.drop_of_length_le (by rw [pH,List.length_take];omega),List.nil_append]
   rw [this];simpa using hk
end
set_option maxRecDepth 4000
theorem aFh:gT kV=none:=rfl
section
variable{M n:Nat}{x:VE}{K:KV}
theorem Oi (a b:List Vo):AT (a++b)=AT a++AT b:=List.flatMap_append
theorem Oj (l:List Vo):(AT l).all lL=true:=by
 induction l with
 | nil=>rfl
 | cons v l ih=>
  show(v.vv++AT l).all lL=true;rw [List.all_append,ih];rfl
theorem Sd{el size bytes n:Nat}{S0 S S':Hp}{t w:V}{vs:List V} (a:Made el size S0 t S vs n) (hw:∀k:Nat->List V->Prop,k 0 []->zY size w S' k) (hk:K t S'):oP el size bytes t w S' K:=by
 unfold oP;refine hw _ ?_;rcases a.is with ⟨_,rfl,_⟩ | ⟨i,rfl,_⟩<;>exact hk
theorem aBI{S0:Hp}{tb jb:Nat}{N:Int}{lv:V}{l:List Vo}{v:Vo} (hx:Deep PP bM gT M (n+1) x) (ht:S0 tb=some (.row [.int .i64 N,lv] 74)) (hl:Lv S0 lv l) (hj:S0 jb=some (.row v.vv 49)) (hlen:l.length<=1000000) (hs:l.Pairwise fun u w=>u.lt w=true)
 (h1:v.free l=false->∀S,dL S0 S->aS (.bool false) S K) (h2:v.free l=true->∀S' v',(∀i o,i≠tb->S0 i=some o->S' i=some o)->S' tb=some (.row [.int .i64 N,v'] 74)->Lv S' v' (uP v l)->K (.bool true) S'):
 ∀(m i:Nat) (t:V) (S S2:Hp),l.length<=i+m->i<=l.length->Made 49 5 S0 t S (AT (l.take i)) i->dL S S2->(∀j u,j<i->l[j]? =some u->u.lt v=true)->iB x (m+1) (.ptr tb 0) (.ptr jb 0) t (.int .i64 (.ofNat i)) S2 K:=by
 intro m
 have fin:∀{i:Nat} {t:V} {S:Hp},i<=l.length->Made 49 5 S0 t S (AT (l.take i)) i->(∀j u,j<i->l[j]? =some u->u.lt v=true)->(∀u,l[i]? =some u->v.lt u=true)->(uO 49 5 lv (some (.int .i64 (.ofNat i))) none none S fun v62=>
  (aY (.agg v.vv) (.agg v.vv) ((dP 49 1 [(.int .i64 (.ofNat 0)),(.int .i64 (.ofNat 0)),(.int .u8 (.ofNat 0)),(.int .i64 (.ofNat 0)),(.string ⟨⟨[]⟩⟩)] [(0,5,.agg v.vv)] S fun v65 S=>
 True)/\(dP 49 1 [(.int .i64 (.ofNat 0)),(.int .i64 (.ofNat 0)),(.int .u8 (.ofNat 0)),(.int .i64 (.ofNat 0)),(.string ⟨⟨[]⟩⟩)] [(0,5,.agg v.vv)] S fun v66 S=>
 oP 49 5 48 t v66 S fun v67 S=>
 aE (.ptr tb 1) S fun v68 _=>
 aY v68 lv (oP 49 5 48 v67 v62 S fun v69 S=>
 aE (.ptr tb 1) S fun v70 _=>
 aY v70 lv (jK 1 (.ptr tb 1) v69 S fun S=>
 aS (.bool true) S K)))))):=by
  intro i t S hi a hp hq;have hl1:=hl.hle a.le
  have hins:uP v l=l.take i++v::l.drop i:=aBH l i hi (fun j u hj hu=>by
   have:=hp j u hj hu;cases e:v.lt u with
   | false=>rfl
   | true=>rw [lt_iff]at this e;omega) hq
  have hfree:v.free l=true:=by
   unfold Vo.free;rw [Option.isNone_iff_eq_none,List.find?_eq_none];intro u hu;obtain⟨j,hj⟩:=List.getElem?_of_mem hu;have hjl:=(List.getElem?_eq_some_iff.1 hj).1;rw [AP]
   rintro⟨e1,e2,e3⟩
   by_cases hji:j<i
   ·have:=hp j u hji hj
    rw [lt_iff]at this;omega
   ·have hil:i<l.length:=by omega
    have q1:=hq l[i] (List.getElem?_eq_getElem hil);rw [lt_iff]at q1;by_cases e:j=i
    ·subst e
     rw [List.getElem?_eq_getElem hil]at hj;injection hj with hj;subst hj;omega
    ·have q2:=List.pairwise_iff_getElem.1 hs i j hil hjl (by omega)
     rw [(List.getElem?_eq_some_iff.1 hj).2,lt_iff]at q2;omega
  have fin2:∀t3 S5 S6,Made 49 5 S0 t3 S5 (AT (uP v l)) (uP v l).length->dL S5 S6->(aE (.ptr tb 1) S6 fun v70 _=>aY v70 lv (jK 1 (.ptr tb 1) t3 S6 fun S=>aS (.bool true) S K)):=by
   intro t3 S5 S6 c hle;have le6:=c.le.trans hle;have ht6:=le6 _ _ ht;have ld:∀{K:KV},aE (.ptr tb 1) S6 K=K lv S6:=aJ ht6;rw [ld,(hl.hle le6).same];have ho:lL t3=true:=by rcases c.is with ⟨_,rfl,_⟩ | ⟨i,rfl,_⟩<;>rfl
   refine dQ ht6 ho (by simp) (aK (h2 hfree _ t3 (fun i o hne e=>by rw [aG hne];exact le6 _ _ e) upd_same ?_));rcases c.is with ⟨q,_⟩ | ⟨i2,rfl,q1,q2⟩
   ·rw [hins]at q;simp at q
   ·have hne:i2≠tb:=fun e=>by rw [e,ht]at q1;cases q1
    exact⟨.inr (.inr ⟨i2,rfl,by rw [aG hne];exact hle _ _ (by rw [q2];exact upd_same)⟩)⟩
  refine hl1.from hi fun w hw=>?_;refine⟨rfl,rfl,oQ rfl rfl rfl rfl fun _ _=>trivial,oQ rfl rfl rfl rfl fun q hq=>?_⟩;refine a.app (bytes:=48) (m:=1) (new:=v.vv) (.aV hq) (fun q hq=>a.le.none (pL hq).2) (fun k hq=>zZ upd_same rfl hq) (by omega) rfl rfl (by omega) ?_;intro t2 S4 S3 b hle;have le4:dL S0 S4:=b.le.trans hle;have hl4:=hl.hle le4;have ld:∀{K:KV},aE (.ptr tb 1) S4 K=K lv S4:=aJ (le4 _ _ ht);rw [ld,hl4.same];by_cases hd:l.drop i=[]
  ·rw [hd]at hw hins
   refine Sd b (fun k hk=>hw.src _ k hl4 hk) (fin2 t2 S3 S4 ?_ hle);rw [hins,Oi];have:(l.take i++[v]).length=i+1:=by rw [List.length_append,List.length_take];simp;omega
   rw [this];exact b
  ·have hpos:0<(l.drop i).length:=List.length_pos_iff.2 hd
   refine b.app (bytes:=48) (m:=(l.drop i).length) (new:=AT (l.drop i)) hle (fun i hi=>le4.none hi) (fun k hk=>hw.src _ k hl4 hk) hpos (pH _) (Oj _) (by rw [List.length_drop];omega) ?_;intro t3 S6 S5 c hle2;refine fin2 t3 S5 S6 ?_ hle2;have:(uP v l).length=i+1+(l.drop i).length:=by rw [hins,List.length_append,List.length_take,List.length_cons];omega
   rw [this,hins,Oi,show AT (v::l.drop i)=v.vv++AT (l.drop i)from rfl,<-List.append_assoc];exact c
 have last:∀(m i:Nat) (t:V) (S S2:Hp),i=l.length->Made 49 5 S0 t S (AT (l.take i)) i->dL S S2->(∀j u,j<i->l[j]? =some u->u.lt v=true)->iB x (m+1) (.ptr tb 0) (.ptr jb 0) t (.int .i64 (.ofNat i)) S2 K:=by
  intro m i t S S2 hil a hs2 hp;rw [rE];unfold mZ;refine lE S hs2 ?_;have le:=a.le;have ht1:=le _ _ ht;have hl1:=hl.hle le;have hj1:=le _ _ hj;have lt:∀{K:KV},aE (.ptr tb 1) S K=K lv S:=aJ ht1;have lj:∀{K:KV},dK 5 (.ptr jb 0) S K=K (.agg v.vv) S:=by intro K;rw [BV hj1,eE (by simp [Vo.vv])];rfl
  simp only [aP,aO,bD,lt,hl1.len,aI];simp only [show decide (Int.ofNat i<Int.ofNat l.length)=false from decide_eq_false (by simp;omega),dF,vJ,lt,hl1.same,hl1.len,aR,Bool.false_eq_true,if_false,aT,aI,lj];exact fin (by omega) a hp fun u hu=>by rw [List.getElem?_eq_none (by omega)]at hu;cases hu
 induction m with
 | zero=>
  intro i t S S2 hm hi a hs2 hp;exact last 0 i t S S2 (by omega) a hs2 hp
 | succ m ih=>
  intro i t S S2 hm hi a hs2 hp;by_cases hlt0:i=l.length
  ·exact last (m+1) i t S S2 hlt0 a hs2 hp
  rw [rE];unfold mZ;refine lE S hs2 ?_;have le:=a.le;have ht1:=le _ _ ht;have hl1:=hl.hle le;have hj1:=le _ _ hj;have lt:∀{K:KV},aE (.ptr tb 1) S K=K lv S:=aJ ht1;have lj:∀{K:KV},dK 5 (.ptr jb 0) S K=K (.agg v.vv) S:=by intro K;rw [BV hj1,eE (by simp [Vo.vv])];rfl
  simp only [aP,aO,bD,lt,hl1.len,aI];by_cases hlt:i<l.length
  ·simp only [show decide (Int.ofNat i<Int.ofNat l.length)=true from decide_eq_true (by simp;omega),aH,aP,aO,lt]
   refine hl1.at hlt fun p hpp=>?_;simp only [hpp S _ (.refl S),lj];refine Oh hx ?_;simp only [gB,lt,hl1.same,aR,if_true,aT];by_cases ha:(l[i]).lt v=true
   ·rw [if_pos ha]
    refine hl1.at hlt fun p2 hp2=>?_;rw [hp2 S _ (.refl S)];refine oQ rfl rfl rfl rfl fun q hq=>?_;refine a.app (bytes:=48) (m:=1) (new:=l[i].vv) (.aV hq) (fun q hq=>a.le.none (pL hq).2) (fun k hq=>zZ upd_same rfl hq) (by omega) rfl rfl (by omega) ?_;intro t2 S4 S3 b hle;rw [bA,fF (by omega)];rw [<-VT l i hlt]at b;refine ih (i+1) t2 S3 S4 (by omega) (by omega) b hle fun j u hj hu=>?_;by_cases e:j=i
    ·subst e
     rw [List.getElem?_eq_getElem hlt]at hu;injection hu with hu;rw [<-hu];exact ha
    ·exact hp j u (by omega) hu
   ·rw [if_neg ha]
    simp only [aP,aO,lt,hl1.len,aI,show decide (Int.ofNat i<Int.ofNat l.length)=true from decide_eq_true (by simp;omega),aH,lj];refine hl1.at hlt fun p2 hp2=>?_;simp only [hp2 S _ (.refl S)];refine Oh hx ?_;simp only [gB,lt,hl1.same,fG,aR,if_true,aT];by_cases hb:v.lt l[i]=true
    ·simp only [hb,Bool.not_true,Bool.false_eq_true,if_false,lj,lt,hl1.same]
     exact fin hi a hp fun u hu=>by rw [List.getElem?_eq_getElem hlt]at hu;injection hu with hu;rw [<-hu];exact hb
    ·simp only [Bool.not_eq_true]at hb
     simp only [hb,Bool.not_false,if_true];refine h1 ?_ _ le;cases hf:v.free l with
     | false=>rfl
     | true=>
      unfold Vo.free at hf;rw [Option.isNone_iff_eq_none,List.find?_eq_none]at hf;refine absurd ((AP _ _ _ _).2 ?_) (hf _ (List.getElem_mem hlt));have q1:¬v.lt l[i]=true:=by rw [hb];simp
      rw [lt_iff]at q1 ha;omega
  ·exact absurd trivial (fun _=>hlt (by omega))
theorem aFi{S:Hp}{tb:Nat}{N:Int}{lv:V}{l:List Vo}{v:Vo} (hx:Deep PP bM gT M (n+2) x) (ht:S tb=some (.row [.int .i64 N,lv] 74)) (hl:Lv S lv l) (hlen:l.length<=1000000) (hM:l.length<M) (hs:l.Pairwise fun u w=>u.lt w=true)
 (h1:(v.may N&&v.free l)=false->K (.bool false) S) (h2:(v.may N&&v.free l)=true->∀S' v',(∀i o,i≠tb->S i=some o->S' i=some o)->S' tb=some (.row [.int .i64 N,v'] 74)->Lv S' v' (uP v l)->K (.bool true) S'):x.call kV [.ptr tb 0,.agg v.vv] S K:=by
 refine hx.call aFh fun y hy=>?_;rw [NS];unfold BN;refine eQ rfl fun j hj=>?_;have le:dL S (upd S j (.row v.vv 49)):= .aV hj;have hr:upd S j (.row v.vv 49) j=some (.row v.vv 49):=upd_same;generalize upd S j (.row v.vv 49)=S1 at le hr;have ht1:=le _ _ ht;have l0:∀{K:KV},aE (.ptr tb 0) S1 K=K (.int .i64 N) S1:=aJ ht1;have lj:∀{K:KV},dK 5 (.ptr j 0) S1 K=K (.agg v.vv) S1:=by intro K;rw [BV hr,eE (by simp [Vo.vv])];rfl
 simp only [aP,aO,lj,l0];refine aFg hy ?_;rw [fG,aT];cases hm:v.may N with
 | false=>
  simp only [Bool.not_false,if_true];exact cI le (h1 (by rw [hm];rfl))
 | true=>
  simp only [Bool.not_true,Bool.false_eq_true,if_false];have hym:y.most=M:=hy.most;obtain⟨q,hq⟩:=Nat.exists_eq_succ_of_ne_zero (show y.most≠0 by omega);rw [hq];refine aBI hy ht1 (hl.hle le) hr hlen hs (fun e S2 jX=>cI (le.trans jX) (h1 (by rw [hm,e];rfl))) (fun e S' v' f1 f2 f3=>?_) q 0 .nil S1 S1 (by omega) (Nat.zero_le _) .nil (.refl _) (fun j u h=>absurd h (by omega));exact h2 (by rw [hm,e];rfl) S' v' (fun i o a b=>f1 i o a (le _ _ b)) f2 f3
end
set_option maxRecDepth 4000
theorem aBK:gT fN=none:=rfl
theorem Hs:gT jA=none:=rfl
theorem Zd:gT gS=none:=rfl
theorem aFj:gT eJ=none:=rfl
theorem aBL:gT gI=none:=rfl
theorem qV{off i n o:Nat}{k:V->Prop}:aD off (.nV i n o) k=k (.nV i n (o+off)):=rfl
theorem LM{P:Program}{t:TypeId}{p q:Nat}{K:V->Prop}:aF P .eql t (.int .i64 (.ofNat p)) (.int .i64 (.ofNat q)) K=K (.bool (decide (p=q))):=by
 rw [bW]
 congr 2
 rw [Bool.eq_iff_iff];simp only [decide_eq_true_eq];exact⟨Int.ofNat.inj,fun e=>by rw [e]⟩
theorem aBM{l:List Vo}{i k:Nat} (hi:i<l.length) (hk:k<5):(AT l)[i*5+k]? =l[i].vv[k]? :=by
 have:=VX l i l[i] (List.getElem?_eq_getElem hi);rw [<-this,List.getElem?_take,if_pos hk,List.getElem?_drop]
section
variable{M n:Nat}{x:VE}{S:Hp}{K:KV}{lv:V}{l:List Vo}
theorem Lv.get (h:Lv S lv l){i:Nat} (hi:i<l.length):∃b,lv= .acc b l.length/\S b=some (.iD (AT l) 49 l.length):=by
 rcases h.is with ⟨rfl,rfl⟩ | ⟨j,rfl,_,rfl⟩ | ⟨b,rfl,e⟩
 ·simp at hi
 ·simp at hi
 ·exact⟨b,rfl,e⟩
theorem BR{b i q:Nat} (e:S b=some (.iD (AT l) 49 q)) (hi:i<l.length):(∀{K:KV},aE (.nV b q (i*5+0)) S K=K (.int .i64 l[i].fr) S)/\(∀{K:KV},aE (.nV b q (i*5+1)) S K=K (.int .i64 l[i].rd) S)/\(∀{K:KV},aE (.nV b q (i*5+2)) S K=K (.int .u8 (.ofNat l[i].kd)) S)/\(∀{K:KV},aE (.nV b q (i*5+3)) S K=K (.int .i64 l[i].vl) S)/\(∀{K:KV},aE (.nV b q (i*5+4)) S K=K (.str l[i].tx) S)/\(∀{K:KV},dK 5 (.nV b q (i*5)) S K=K (.agg l[i].vv) S):=by
 have one:∀{k:Nat} {v:V},k<5->l[i].vv[k]? =some v->∀{K:KV},aE (.nV b q (i*5+k)) S K=K v S:=by
  intro k v hk hv K;unfold aE;simp only [e,true_and];rw [jF (by rw [aBM hi hk];exact hv)]
 refine⟨one (by omega) rfl,one (by omega) rfl,one (by omega) rfl,one (by omega) rfl,one (by omega) rfl,fun {K}=>?_⟩;unfold dK;simp only [e,true_and];rw [eE (by rw [pH];omega),VX l i l[i] (List.getElem?_eq_getElem hi)]
theorem Dl (p:Vo->Bool) (n:Nat) (l:List Vo):mO p n l<=n+1:=by
 unfold mO;have:=List.length_filter_le (fun i:Nat=>l.any fun v=>p v&&decide (v.fr=(i:Int))) (List.range (n+1))
 rwa [List.length_range]at this
theorem Se{tb nn:Nat}{N r:Int}{kd:Nat}{tx:List UInt8} (hm:x.most≠0) (ht:S tb=some (.row [.int .i64 N,lv] 74)) (hl:Lv S lv l) (hlen:l.length<=1000000) (hn:nn<=1000000) (hs:l.Pairwise fun u w=>u.lt w=true) (hf:∀v∈l,0<=v.fr/\v.fr<=nn)
 (hk:K (.int .i64 (.ofNat (mO (fun v=>decide (v.rd=r)&&decide (v.kd=kd)&&decide (v.tx=tx)) nn l))) S):
 ∀(q i:Nat),l.length<=i+q->i<=l.length->jN x (q+1) (.ptr tb 0) (.int .i64 r) (.int .u8 (.ofNat kd)) (.str tx) (.int .i64 (.ofNat (mO (fun v=>decide (v.rd=r)&&decide (v.kd=kd)&&decide (v.tx=tx)) nn (l.take i)))) (.int .i64 (.ofNat i)) S K:=by
 have lt:∀{K:KV},aE (.ptr tb 1) S K=K lv S:=aJ ht
 have fin:∀i,l.length<=i->aS (.int .i64 (.ofNat (mO (fun v=>decide (v.rd=r)&&decide (v.kd=kd)&&decide (v.tx=tx)) nn (l.take i)))) S K:=fun i h=>by
  rw [List.take_of_length_le h];exact aK hk
 intro q;induction q with
 | zero=>
  intro i h1 h2;rw [qS];unfold mL;refine aN ?_;simp only [aP,aO,lt,hl.len,aI,nB (show ¬i<l.length by omega),aT,Bool.false_eq_true,if_false];exact fin i (by omega)
 | succ q ih=>
  intro i h1 h2;rw [qS];unfold mL;refine aN ?_;by_cases hi:i<l.length
  ·obtain⟨b,rfl,e⟩:=hl.get hi
   obtain⟨e0,e1,e2,e3,e4,e5⟩:=BR e hi;have mt:=ZA (p:=fun v=>decide (v.rd=r)&&decide (v.kd=kd)&&decide (v.tx=tx)) (r:=r) (k:=kd) (fun v h=>by simp at h;exact h.1) hs hi hf;have hb:=Dl (fun v=>decide (v.rd=r)&&decide (v.kd=kd)&&decide (v.tx=tx)) nn (l.take i);have Ze:=ih (i+1) (by omega) (by omega);rw [mt]at Ze;generalize mO (fun v=>decide (v.rd=r)&&decide (v.kd=kd)&&decide (v.tx=tx)) nn (l.take i)=c at Ze hb;simp only [aP,aO,lt,jW,aI,LR hi,aT,if_true,dR hi,qV,e1,bW,bD]
   have nx:∀c':Nat,c'=c+(if(decide (l[i].rd=r)&&decide (l[i].kd=kd)&&decide (l[i].tx=tx))then 1 else 0)->iF x (q+1) (.ptr tb 0) (.int .i64 r) (.int .u8 (.ofNat kd)) (.str tx) (.int .i64 (.ofNat c')) (.int .i64 (.ofNat i)) S K:=fun c' hc=>by
    rw [wZ x hm];unfold kL;refine aN ?_;rw [bA,fF (by omega),hc];exact Ze
   by_cases c1:l[i].rd=r
   ·simp only [decide_eq_true c1,aH,aP,aO,lt,dR hi,qV,e2,qU,aR,if_true]
    by_cases c2:l[i].kd=kd
    ·simp only [decide_eq_true c2,aH,aP,aO,lt,dR hi,qV,e4,gL,if_true,bA]
     by_cases c3:l[i].tx=tx
     ·simp only [decide_eq_true c3]
      rw [fF (by omega)];exact nx _ (by simp [c1,c2,c3])
     ·simp only [decide_eq_false c3]
      exact nx _ (by simp [c3])
    ·simp only [decide_eq_false c2,dF,Bool.false_eq_true,if_false]
     exact nx _ (by simp [c2])
   ·simp only [decide_eq_false c1,dF,aR,Bool.false_eq_true,if_false]
    exact nx _ (by simp [c1])
  ·simp only [aP,aO,lt,hl.len,aI,nB hi,aT,Bool.false_eq_true,if_false]
   exact fin i (by omega)
theorem Zf{tb nn:Nat}{N r:Int}{kd:Nat}{tx:List UInt8} (hM:100000<M) (hx:Deep PP bM gT M (n+1) x) (ht:S tb=some (.row [.int .i64 N,lv] 74)) (hl:Lv S lv l) (hlen:l.length<=100000) (hn:nn<=1000000) (hs:l.Pairwise fun u w=>u.lt w=true) (hf:∀v∈l,0<=v.fr/\v.fr<=nn)
 (hk:K (.int .i64 (.ofNat (mO (fun v=>decide (v.rd=r)&&decide (v.kd=kd)&&decide (v.tx=tx)) nn l))) S):x.call gS [.ptr tb 0,.int .i64 r,.int .u8 (.ofNat kd),.str tx] S K:=by
 refine hx.call Zd fun y hy=>?_;rw [JC];unfold yD;have hm:y.most=M:=hy.most;obtain⟨p,hp⟩:=Nat.exists_eq_succ_of_ne_zero (show y.most≠0 by omega);rw [hp];have:=Se (x:=y) (by omega) ht hl (by omega) hn hs hf hk p 0 (by omega) (by omega)
 rwa [List.take_zero,WE]at this
theorem aBN{tb nn:Nat}{N r:Int}{kd:Nat} (hm:x.most≠0) (ht:S tb=some (.row [.int .i64 N,lv] 74)) (hl:Lv S lv l) (hlen:l.length<=1000000) (hn:nn<=1000000) (hs:l.Pairwise fun u w=>u.lt w=true) (hf:∀v∈l,0<=v.fr/\v.fr<=nn)
 (hk:K (.int .i64 (.ofNat (mO (fun v=>decide (v.rd=r)&&decide (v.kd=kd)) nn l))) S):
 ∀(q i:Nat),l.length<=i+q->i<=l.length->kX x (q+1) (.ptr tb 0) (.int .i64 r) (.int .u8 (.ofNat kd)) (.int .i64 (.ofNat (mO (fun v=>decide (v.rd=r)&&decide (v.kd=kd)) nn (l.take i)))) (.int .i64 (.ofNat i)) S K:=by
 have lt:∀{K:KV},aE (.ptr tb 1) S K=K lv S:=aJ ht
 have fin:∀i,l.length<=i->aS (.int .i64 (.ofNat (mO (fun v=>decide (v.rd=r)&&decide (v.kd=kd)) nn (l.take i)))) S K:=fun i h=>by
  rw [List.take_of_length_le h];exact aK hk
 intro q;induction q with
 | zero=>
  intro i h1 h2;rw [sD];unfold nY;refine aN ?_;simp only [aP,aO,lt,hl.len,aI,nB (show ¬i<l.length by omega),aT,Bool.false_eq_true,if_false];exact fin i (by omega)
 | succ q ih=>
  intro i h1 h2;rw [sD];unfold nY;refine aN ?_;by_cases hi:i<l.length
  ·obtain⟨b,rfl,e⟩:=hl.get hi
   obtain⟨e0,e1,e2,e3,e4,e5⟩:=BR e hi;have mt:=ZA (p:=fun v=>decide (v.rd=r)&&decide (v.kd=kd)) (r:=r) (k:=kd) (fun v h=>by simpa using h) hs hi hf;have hb:=Dl (fun v=>decide (v.rd=r)&&decide (v.kd=kd)) nn (l.take i);have Ze:=ih (i+1) (by omega) (by omega);rw [mt]at Ze;generalize mO (fun v=>decide (v.rd=r)&&decide (v.kd=kd)) nn (l.take i)=c at Ze hb;simp only [aP,aO,lt,jW,aI,LR hi,aT,if_true,dR hi,qV,e1,bW,bD]
   have nx:∀c':Nat,c'=c+(if(decide (l[i].rd=r)&&decide (l[i].kd=kd))then 1 else 0)->jD x (q+1) (.ptr tb 0) (.int .i64 r) (.int .u8 (.ofNat kd)) (.int .i64 (.ofNat c')) (.int .i64 (.ofNat i)) S K:=fun c' hc=>by
    rw [yW x hm];unfold lO;refine aN ?_;rw [bA,fF (by omega),hc];exact Ze
   by_cases c1:l[i].rd=r
   ·simp only [decide_eq_true c1,aH,aP,aO,lt,dR hi,qV,e2,qU,aR,if_true,bA]
    by_cases c2:l[i].kd=kd
    ·simp only [decide_eq_true c2]
     rw [fF (by omega)];exact nx _ (by simp [c1,c2])
    ·simp only [decide_eq_false c2]
     exact nx _ (by simp [c2])
   ·simp only [decide_eq_false c1,dF,aR,Bool.false_eq_true,if_false]
    exact nx _ (by simp [c1])
  ·simp only [aP,aO,lt,hl.len,aI,nB hi,aT,Bool.false_eq_true,if_false]
   exact fin i (by omega)
theorem Zg{tb nn:Nat}{N r:Int}{kd:Nat} (hM:100000<M) (hx:Deep PP bM gT M (n+1) x) (ht:S tb=some (.row [.int .i64 N,lv] 74)) (hl:Lv S lv l) (hlen:l.length<=100000) (hn:nn<=1000000) (hs:l.Pairwise fun u w=>u.lt w=true) (hf:∀v∈l,0<=v.fr/\v.fr<=nn)
 (hk:K (.int .i64 (.ofNat (mO (fun v=>decide (v.rd=r)&&decide (v.kd=kd)) nn l))) S):x.call eJ [.ptr tb 0,.int .i64 r,.int .u8 (.ofNat kd)] S K:=by
 refine hx.call aFj fun y hy=>?_;rw [NV];unfold BQ;have hm:y.most=M:=hy.most;obtain⟨p,hp⟩:=Nat.exists_eq_succ_of_ne_zero (show y.most≠0 by omega);rw [hp];have:=aBN (x:=y) (by omega) ht hl (by omega) hn hs hf hk p 0 (by omega) (by omega)
 rwa [List.take_zero,WE]at this
end
end Go.Am
