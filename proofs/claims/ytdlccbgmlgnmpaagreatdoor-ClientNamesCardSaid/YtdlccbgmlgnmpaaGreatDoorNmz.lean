/- consistorylaw27: ClientNames, piece by piece. -/
import Derived.Test.YtdlccbgmlgnmpaaGreatDoorNmb
import Derived.Test.YtdlccbgmlgnmpaaGreatDoorAmc

namespace Go.Am
open Go.Proofs Go.RowKit
noncomputable def lawE : Env := envL Tryz.prog ovN3 1000 60
noncomputable def lawC : Code := match Tryz.f3.body with | some c => c | none => .skip
noncomputable def cut0 : Cut := ⟨[], [], gs.map fun x => (x.g, .cells x.vs x.e .ro), 4⟩
noncomputable def cut1 : Cut := ⟨[(0, .bool false)], [], [], 133⟩
noncomputable def cut2 : Cut := ⟨[(0, .bool false), (31, .pointer (some ⟨154, 0, none⟩)), (32, .slice (some ⟨500, 0, some 0⟩) 4 4), (33, .bool true)], [], [(141, .cells [.int .u64 (.ofNat 47), .int .u64 (.ofNat 23), .int .u64 (.ofNat 2), .int .u64 (.ofNat 3), .int .i64 (.ofNat 5), .int .i64 (.ofNat 4), .int .i64 (.ofNat 1), .int .i64 (.ofNat 1), .int .i64 (.ofNat 1), .int .i64 (.ofNat 1), .int .i64 (.ofNat 2), .int .i64 (.ofNat 2), .int .i64 (.ofNat 0), .int .i64 (.ofNat 3), .string ⟨⟨[]⟩⟩, .pointer (some ⟨840, 0, none⟩), .slice none 0 0, .slice (some ⟨843, 0, none⟩) 0 0] 147 .exact),
  (153, .map [] 0),
  (154, .cells [.int .u64 (.ofNat 47), .int .u64 (.ofNat 23), .int .u64 (.ofNat 2), .int .u64 (.ofNat 3), .int .i64 (.ofNat 5), .int .i64 (.ofNat 4), .int .i64 (.ofNat 1), .int .i64 (.ofNat 1), .int .i64 (.ofNat 1), .int .i64 (.ofNat 1), .int .i64 (.ofNat 2), .int .i64 (.ofNat 2), .pointer (some ⟨141, 0, none⟩), .int .i64 (.ofNat 1), .slice (some ⟨783, 0, some 0⟩) 4 4, .slice (some ⟨781, 0, some 0⟩) 2 2, .slice none 0 0, .slice (some ⟨830, 0, some 0⟩) 1 1, .slice (some ⟨833, 0, some 0⟩) 2 2, .slice (some ⟨835, 0, some 0⟩) 2 2, .slice (some ⟨664, 0, some 0⟩) 1 1, .slice (some ⟨509, 0, some 0⟩) 2 2, .slice (some ⟨408, 0, some 0⟩) 2 2, .map (some 153)] 81 .exact),
  (408, .cells [.int .u64 (.ofNat 1), .int .u64 (.ofNat 2), .int .u64 (.ofNat 1), .int .u64 (.ofNat 8)] 114 (.grown [388])),
  (438, .cells [.int .u64 (.ofNat 15), .int .u64 (.ofNat 4), .int .u64 (.ofNat 1), .int .u64 (.ofNat 11)] 114 (.grown [435])),
  (458, .cells [.int .u64 (.ofNat 6), .int .u64 (.ofNat 6), .int .u64 (.ofNat 1), .int .u64 (.ofNat 14)] 114 (.grown [455])),
  (478, .cells [.int .u64 (.ofNat 20), .int .u64 (.ofNat 8), .int .u64 (.ofNat 1), .int .u64 (.ofNat 17)] 114 (.grown [475])),
  (498, .cells [.int .u64 (.ofNat 11), .int .u64 (.ofNat 10), .int .u64 (.ofNat 1), .int .u64 (.ofNat 20)] 114 (.grown [495])),
  (500, .cells [.slice (some ⟨438, 0, some 0⟩) 2 2, .slice (some ⟨458, 0, some 0⟩) 2 2, .slice (some ⟨478, 0, some 0⟩) 2 2, .slice (some ⟨498, 0, some 0⟩) 2 2] 48 (.grown [480, 460, 440])),
  (509, .cells [.string ⟨⟨[1, 2, 0, 2, 0, 0, 0, 0, 0, 0, 0, 18, 0, 0, 0, 0, 0, 0, 0, 17, 0, 2, 0, 0, 0, 0, 0, 0, 0, 9, 0, 0, 0, 0, 0, 0, 0, 27]⟩⟩, .string ⟨⟨[2, 0, 0, 0, 0, 0, 0, 0, 7, 1, 0, 0, 0, 0, 0, 0, 0, 1]⟩⟩] 9 (.grown [410])),
  (662, .cells [.int .i64 (.ofNat 1), .int .i64 (.ofNat 2), .int .i64 (.ofNat 3), .int .i64 (.ofNat 4)] 3 (.grown [])),
  (664, .cells [.slice (some ⟨662, 0, some 0⟩) 4 4] 52 (.grown [])),
  (775, .cells [.int .u64 (.ofNat 18), .int .u64 (.ofNat 17)] 58 (.grown [])),
  (779, .cells [.int .u64 (.ofNat 9), .int .u64 (.ofNat 27)] 58 (.grown [])),
  (781, .cells [.slice (some ⟨775, 0, some 0⟩) 2 2, .slice (some ⟨779, 0, some 0⟩) 2 2] 24 (.grown [777])),
  (783, .cells [.int .i64 (.ofNat 1), .int .i64 (.ofNat 2), .int .i64 (.ofNat 3), .int .i64 (.ofNat 4)] 3 (.grown [])),
  (828, .cells [.int .i64 (.ofNat 1)] 2 (.grown [])),
  (830, .cells [.int .i64 (.ofNat 7), .slice (some ⟨828, 0, some 0⟩) 1 1] 105 (.grown [])),
  (833, .cells [.string ⟨⟨[1, 2, 0, 2, 0, 0, 0, 0, 0, 0, 0, 18, 0, 0, 0, 0, 0, 0, 0, 17, 0, 2, 0, 0, 0, 0, 0, 0, 0, 9, 0, 0, 0, 0, 0, 0, 0, 27]⟩⟩, .string ⟨⟨[2, 0, 0, 0, 0, 0, 0, 0, 7, 1, 0, 0, 0, 0, 0, 0, 0, 1]⟩⟩] 9 (.grown [658])),
  (835, .cells [.int .i64 (.ofNat 0), .int .i64 (.ofNat 0)] 28 (.grown [660])),
  (838, .map [] 0),
  (839, .cells [.int .i64 (.ofNat 4), .map (some 838)] 370 .exact),
  (840, .cells [.int .i64 (.ofNat 3), .int .i64 (.ofNat 4), .int .i64 (.ofNat 1), .int .i64 (.ofNat 0), .int .i64 (.ofNat 0), .int .i64 (.ofNat 1), .int .i64 (.ofNat 0), .string ⟨⟨[]⟩⟩, .string ⟨⟨[]⟩⟩, .int .i64 (.negSucc 0), .int .i64 (.negSucc 0), .bool false, .bool false, .string ⟨⟨[]⟩⟩, .slice none 0 0, .pointer (some ⟨839, 0, none⟩)] 284 .exact),
  (843, .cells [] 26 .exact)], 853⟩
noncomputable def cut3 : Cut := ⟨[(0, .bool false), (31, .pointer (some ⟨154, 0, none⟩)), (35, .int .i64 (.ofNat 0)), (37, .int .i64 (.ofNat 6)), (38, .slice (some ⟨895, 0, some 0⟩) 1 1)], [], [(141, .cells [.int .u64 (.ofNat 47), .int .u64 (.ofNat 23), .int .u64 (.ofNat 2), .int .u64 (.ofNat 3), .int .i64 (.ofNat 5), .int .i64 (.ofNat 4), .int .i64 (.ofNat 1), .int .i64 (.ofNat 1), .int .i64 (.ofNat 1), .int .i64 (.ofNat 1), .int .i64 (.ofNat 2), .int .i64 (.ofNat 2), .int .i64 (.ofNat 0), .int .i64 (.ofNat 3), .string ⟨⟨[]⟩⟩, .pointer (some ⟨840, 0, none⟩), .slice none 0 0, .slice (some ⟨843, 0, none⟩) 0 0] 147 .exact),
  (153, .map [{ key := .agg ⟨[.int .i64 (.ofNat 5), .int .i64 (.ofNat 1), .int .i64 (.ofNat 7)]⟩, val := .slice (some ⟨911, 0, some 0⟩) 1 1, born := 0 }, { key := .agg ⟨[.int .i64 (.ofNat 1), .int .i64 (.ofNat 2), .int .i64 (.ofNat 7)]⟩, val := .slice (some ⟨923, 0, some 0⟩) 1 1, born := 1 }, { key := .agg ⟨[.int .i64 (.ofNat 1), .int .i64 (.ofNat 1), .int .i64 (.ofNat 8)]⟩, val := .slice (some ⟨935, 0, some 0⟩) 1 1, born := 2 }, { key := .agg ⟨[.int .i64 (.ofNat 2), .int .i64 (.ofNat 1), .int .i64 (.ofNat 7)]⟩, val := .slice (some ⟨984, 0, some 0⟩) 1 1, born := 3 }, { key := .agg ⟨[.int .i64 (.ofNat 3), .int .i64 (.ofNat 1), .int .i64 (.ofNat 7)]⟩, val := .slice (some ⟨1014, 0, some 0⟩) 1 1, born := 4 }] 5),
  (154, .cells [.int .u64 (.ofNat 47), .int .u64 (.ofNat 23), .int .u64 (.ofNat 2), .int .u64 (.ofNat 3), .int .i64 (.ofNat 5), .int .i64 (.ofNat 4), .int .i64 (.ofNat 1), .int .i64 (.ofNat 1), .int .i64 (.ofNat 1), .int .i64 (.ofNat 1), .int .i64 (.ofNat 2), .int .i64 (.ofNat 2), .pointer (some ⟨141, 0, none⟩), .int .i64 (.ofNat 1), .slice (some ⟨783, 0, some 0⟩) 4 4, .slice (some ⟨781, 0, some 0⟩) 2 2, .slice none 0 0, .slice (some ⟨830, 0, some 0⟩) 1 1, .slice (some ⟨833, 0, some 0⟩) 2 2, .slice (some ⟨835, 0, some 0⟩) 2 2, .slice (some ⟨664, 0, some 0⟩) 1 1, .slice (some ⟨861, 0, some 0⟩) 3 3, .slice (some ⟨408, 0, some 0⟩) 2 2, .map (some 153)] 81 .exact),
  (408, .cells [.int .u64 (.ofNat 1), .int .u64 (.ofNat 2), .int .u64 (.ofNat 1), .int .u64 (.ofNat 8)] 114 (.grown [388])),
  (662, .cells [.int .i64 (.ofNat 1), .int .i64 (.ofNat 2), .int .i64 (.ofNat 3), .int .i64 (.ofNat 4)] 3 (.grown [])),
  (664, .cells [.slice (some ⟨662, 0, some 0⟩) 4 4] 52 (.grown [])),
  (775, .cells [.int .u64 (.ofNat 18), .int .u64 (.ofNat 17)] 58 (.grown [])),
  (779, .cells [.int .u64 (.ofNat 9), .int .u64 (.ofNat 27)] 58 (.grown [])),
  (781, .cells [.slice (some ⟨775, 0, some 0⟩) 2 2, .slice (some ⟨779, 0, some 0⟩) 2 2] 24 (.grown [777])),
  (783, .cells [.int .i64 (.ofNat 1), .int .i64 (.ofNat 2), .int .i64 (.ofNat 3), .int .i64 (.ofNat 4)] 3 (.grown [])),
  (828, .cells [.int .i64 (.ofNat 1)] 2 (.grown [])),
  (830, .cells [.int .i64 (.ofNat 7), .slice (some ⟨828, 0, some 0⟩) 1 1] 105 (.grown [])),
  (833, .cells [.string ⟨⟨[1, 2, 0, 2, 0, 0, 0, 0, 0, 0, 0, 18, 0, 0, 0, 0, 0, 0, 0, 17, 0, 2, 0, 0, 0, 0, 0, 0, 0, 9, 0, 0, 0, 0, 0, 0, 0, 27]⟩⟩, .string ⟨⟨[2, 0, 0, 0, 0, 0, 0, 0, 7, 1, 0, 0, 0, 0, 0, 0, 0, 1]⟩⟩] 9 (.grown [658])),
  (835, .cells [.int .i64 (.ofNat 0), .int .i64 (.ofNat 0)] 28 (.grown [660])),
  (838, .map [] 0),
  (839, .cells [.int .i64 (.ofNat 4), .map (some 838)] 370 .exact),
  (840, .cells [.int .i64 (.ofNat 3), .int .i64 (.ofNat 4), .int .i64 (.ofNat 1), .int .i64 (.ofNat 0), .int .i64 (.ofNat 0), .int .i64 (.ofNat 1), .int .i64 (.ofNat 0), .string ⟨⟨[]⟩⟩, .string ⟨⟨[]⟩⟩, .int .i64 (.negSucc 0), .int .i64 (.negSucc 0), .bool false, .bool false, .string ⟨⟨[]⟩⟩, .slice none 0 0, .pointer (some ⟨839, 0, none⟩)] 284 .exact),
  (843, .cells [] 26 .exact),
  (861, .cells [.string ⟨⟨[1, 2, 0, 2, 0, 0, 0, 0, 0, 0, 0, 18, 0, 0, 0, 0, 0, 0, 0, 17, 0, 2, 0, 0, 0, 0, 0, 0, 0, 9, 0, 0, 0, 0, 0, 0, 0, 27]⟩⟩, .string ⟨⟨[2, 0, 0, 0, 0, 0, 0, 0, 7, 1, 0, 0, 0, 0, 0, 0, 0, 1]⟩⟩, .string ⟨⟨[3, 0, 0, 0, 0, 0, 0, 0, 1, 4, 0, 0, 0, 0, 0, 0, 0, 1, 0, 0, 0, 0, 0, 0, 0, 2, 0, 0, 0, 0, 0, 0, 0, 3, 0, 0, 0, 0, 0, 0, 0, 4]⟩⟩] 9 (.grown [509, 410])),
  (895, .cells [.int .u64 (.ofNat 16)] 58 (.grown [])),
  (911, .cells [.int .u64 (.ofNat 16)] 58 (.grown [])),
  (923, .cells [.int .u64 (.ofNat 16)] 58 (.grown [])),
  (935, .cells [.int .u64 (.ofNat 16)] 58 (.grown [])),
  (984, .cells [.int .u64 (.ofNat 7)] 58 (.grown [])),
  (1014, .cells [.int .u64 (.ofNat 21)] 58 (.grown []))], 1015⟩
set_option maxRecDepth 1000000 in
theorem piece0 : pieceK Tryz.prog lawE cut0 Tryz.f3.ntmps (takeSeq 22 (lawC)) (nextQ cut1 Tryz.f3.ntmps) = true := by kernel_rfl
set_option maxRecDepth 1000000 in
theorem piece1 : pieceK Tryz.prog lawE cut1 Tryz.f3.ntmps (takeSeq 1 (dropSeq 22 (lawC))) (nextQ cut2 Tryz.f3.ntmps) = true := by kernel_rfl
set_option maxRecDepth 1000000 in
theorem piece2 : pieceK Tryz.prog lawE cut2 Tryz.f3.ntmps (takeSeq 6 (dropSeq 1 (dropSeq 22 (lawC)))) (nextQ cut3 Tryz.f3.ntmps) = true := by kernel_rfl
set_option maxRecDepth 1000000 in
theorem piece3 : pieceK Tryz.prog lawE cut3 Tryz.f3.ntmps (dropSeq 6 (dropSeq 1 (dropSeq 22 (lawC)))) (lastQ (endK Tryz.prog Tryz.f3)) = true := by kernel_rfl
theorem meets0 : meetsK cut0 Tryz.f3.ntmps ⟨⟨.leaf, Tryz.f3.ntmps⟩, [], Tryz.prog.globals.size⟩ (St.laid Tryz.prog.globals.size gs) = true := by kernel_rfl
theorem lawP : lawE.P = Tryz.prog := envL_P _ _ _ _
theorem good3 {w : World} (hc : CallOk Tryz.prog w lawE.call) (hr : RoundOk Tryz.prog w lawE.round) : GoodFrom lawE w Tryz.f3.ntmps cut3 (dropSeq 6 (dropSeq 1 (dropSeq 22 (lawC)))) (endK Tryz.prog Tryz.f3) :=
  @GoodFrom.last' lawE w Tryz.prog lawP hc hr mixedN Tryz.f3.ntmps cut3 (dropSeq 6 (dropSeq 1 (dropSeq 22 (lawC)))) (endK Tryz.prog Tryz.f3) piece3
theorem good2 {w : World} (hc : CallOk Tryz.prog w lawE.call) (hr : RoundOk Tryz.prog w lawE.round) : GoodFrom lawE w Tryz.f3.ntmps cut2 (dropSeq 1 (dropSeq 22 (lawC))) (endK Tryz.prog Tryz.f3) :=
  @GoodFrom.step' lawE w Tryz.prog lawP hc hr mixedN Tryz.f3.ntmps cut2 cut3 (dropSeq 1 (dropSeq 22 (lawC))) 6 (endK Tryz.prog Tryz.f3) piece2 (good3 hc hr)
theorem good1 {w : World} (hc : CallOk Tryz.prog w lawE.call) (hr : RoundOk Tryz.prog w lawE.round) : GoodFrom lawE w Tryz.f3.ntmps cut1 (dropSeq 22 (lawC)) (endK Tryz.prog Tryz.f3) :=
  @GoodFrom.step' lawE w Tryz.prog lawP hc hr mixedN Tryz.f3.ntmps cut1 cut2 (dropSeq 22 (lawC)) 1 (endK Tryz.prog Tryz.f3) piece1 (good2 hc hr)
theorem good0 {w : World} (hc : CallOk Tryz.prog w lawE.call) (hr : RoundOk Tryz.prog w lawE.round) : GoodFrom lawE w Tryz.f3.ntmps cut0 (lawC) (endK Tryz.prog Tryz.f3) :=
  @GoodFrom.step' lawE w Tryz.prog lawP hc hr mixedN Tryz.f3.ntmps cut0 cut1 (lawC) 22 (endK Tryz.prog Tryz.f3) piece0 (good1 hc hr)
set_option maxRecDepth 1000000 in
theorem lawBody : Tryz.f3.body = some lawC := by kernel_rfl
theorem called_names (w : World) (hsz : Tryz.prog.globals.size ≤ w.heap.size) (hl : Laid gs w) : Calls Tryz.prog 3 #[] w (fun e w' => e = .returned (.bool true) ∧ Below w.heap.size w w') := by
  have h : CallOk Tryz.prog w lawE.call ∧ RoundOk Tryz.prog w lawE.round := envL_sound (most := 1000) (n := 60) (ovN3_ok hsz hl) namesN mixedN
  exact @calls_of_good' lawE w Tryz.prog lawP h.1 h.2 3 Tryz.f3 lawC cut0 _ _ Tryz.func3 lawBody (Rel.laid gs_ok hsz hl) meets0 (good0 h.1 h.2)
end Go.Am
