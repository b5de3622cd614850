/- consistorylaw23: VaultNames, piece by piece. -/
import Derived.Test.YtanojadlimcloaaGreatDoorNma
import Derived.Test.YtanojadlimcloaaGreatDoorAmc

namespace Go.Am
open Go.Proofs Go.RowKit
noncomputable def lawE : Env := envL Tryz.prog ovN3 1000 60
noncomputable def lawC : Code := match Tryz.f3.body with | some c => c | none => .skip
noncomputable def cut0 : Cut := ⟨[], [], gs.map fun x => (x.g, .cells x.vs x.e .ro), 4⟩
noncomputable def cut1 : Cut := ⟨[(0, .bool false), (1, .pointer (some ⟨5, 0, none⟩))], [], [(5, .cells [.int .u64 (.ofNat 23), .int .u64 (.ofNat 11), .int .u64 (.ofNat 4), .int .u64 (.ofNat 9), .int .i64 (.ofNat 5), .int .i64 (.ofNat 4), .int .i64 (.ofNat 1), .int .i64 (.ofNat 1), .int .i64 (.ofNat 1), .int .i64 (.ofNat 1), .int .i64 (.ofNat 1), .int .i64 (.ofNat 1)] 24 .exact)], 38⟩
noncomputable def cut2 : Cut := ⟨[(0, .bool false), (1, .pointer (some ⟨5, 0, none⟩)), (4, .pointer (some ⟨1256, 0, none⟩)), (5, .slice (some ⟨1255, 0, some 0⟩) 2 2), (6, .bool true)], [], [(5, .cells [.int .u64 (.ofNat 23), .int .u64 (.ofNat 11), .int .u64 (.ofNat 4), .int .u64 (.ofNat 9), .int .i64 (.ofNat 5), .int .i64 (.ofNat 4), .int .i64 (.ofNat 1), .int .i64 (.ofNat 1), .int .i64 (.ofNat 1), .int .i64 (.ofNat 1), .int .i64 (.ofNat 1), .int .i64 (.ofNat 1)] 24 .exact),
  (107, .cells [.int .u64 (.ofNat 6), .int .u64 (.ofNat 9)] 22 (.grown [99])),
  (129, .cells [.int .u64 (.ofNat 8), .int .u64 (.ofNat 4)] 22 (.grown [121])),
  (131, .cells [.slice (some ⟨107, 0, some 0⟩) 2 2, .slice (some ⟨129, 0, some 0⟩) 2 2] 43 (.grown [109])),
  (666, .cells [.int .u64 (.ofNat 3), .int .u64 (.ofNat 16)] 22 (.grown [656])),
  (689, .cells [.int .u64 (.ofNat 13), .int .u64 (.ofNat 18)] 22 (.grown [679])),
  (691, .cells [.slice (some ⟨666, 0, some 0⟩) 2 2, .slice (some ⟨689, 0, some 0⟩) 2 2] 43 (.grown [668])),
  (1228, .cells [.int .u64 (.ofNat 4), .int .u64 (.ofNat 16)] 22 (.grown [1218])),
  (1251, .cells [.int .u64 (.ofNat 6), .int .u64 (.ofNat 4)] 22 (.grown [1241])),
  (1253, .cells [.slice (some ⟨1228, 0, some 0⟩) 2 2, .slice (some ⟨1251, 0, some 0⟩) 2 2] 43 (.grown [1230])),
  (1255, .cells [.int .i64 (.ofNat 2), .slice (some ⟨691, 0, some 0⟩) 2 2, .int .i64 (.ofNat 3), .slice (some ⟨1253, 0, some 0⟩) 2 2] 48 (.grown [693])),
  (1256, .cells [.int .u8 (.ofNat 1), .int .i64 (.ofNat 0), .int .i64 (.ofNat 0), .slice none 0 0, .slice (some ⟨131, 0, some 0⟩) 2 2, .slice none 0 0, .slice none 0 0] 40 .exact)], 1257⟩
noncomputable def cut3 : Cut := ⟨[(0, .bool false), (1, .pointer (some ⟨5, 0, none⟩)), (5, .slice (some ⟨1255, 0, some 0⟩) 2 2), (7, .pointer (some ⟨1313, 0, none⟩)), (9, .pointer (some ⟨1378, 0, none⟩)), (11, .pointer (some ⟨1421, 0, none⟩)), (13, .pointer (some ⟨1422, 0, none⟩)), (14, .pointer (some ⟨1679, 0, none⟩)), (16, .slice (some ⟨1680, 0, none⟩) 2 2), (17, .slice (some ⟨1708, 0, some 0⟩) 2 2), (18, .pointer (some ⟨1711, 0, none⟩))], [], [(5, .cells [.int .u64 (.ofNat 23), .int .u64 (.ofNat 11), .int .u64 (.ofNat 4), .int .u64 (.ofNat 9), .int .i64 (.ofNat 5), .int .i64 (.ofNat 4), .int .i64 (.ofNat 1), .int .i64 (.ofNat 1), .int .i64 (.ofNat 1), .int .i64 (.ofNat 1), .int .i64 (.ofNat 1), .int .i64 (.ofNat 1)] 24 .exact),
  (666, .cells [.int .u64 (.ofNat 3), .int .u64 (.ofNat 16)] 22 (.grown [656])),
  (689, .cells [.int .u64 (.ofNat 13), .int .u64 (.ofNat 18)] 22 (.grown [679])),
  (691, .cells [.slice (some ⟨666, 0, some 0⟩) 2 2, .slice (some ⟨689, 0, some 0⟩) 2 2] 43 (.grown [668])),
  (1228, .cells [.int .u64 (.ofNat 4), .int .u64 (.ofNat 16)] 22 (.grown [1218])),
  (1251, .cells [.int .u64 (.ofNat 6), .int .u64 (.ofNat 4)] 22 (.grown [1241])),
  (1253, .cells [.slice (some ⟨1228, 0, some 0⟩) 2 2, .slice (some ⟨1251, 0, some 0⟩) 2 2] 43 (.grown [1230])),
  (1255, .cells [.int .i64 (.ofNat 2), .slice (some ⟨691, 0, some 0⟩) 2 2, .int .i64 (.ofNat 3), .slice (some ⟨1253, 0, some 0⟩) 2 2] 48 (.grown [693])),
  (1279, .cells [.int .i64 (.ofNat 1), .int .i64 (.ofNat 2), .int .i64 (.ofNat 3), .int .i64 (.ofNat 4)] 3 (.grown [])),
  (1305, .cells [.int .u64 (.ofNat 6), .int .u64 (.ofNat 9)] 22 (.grown [])),
  (1309, .cells [.int .u64 (.ofNat 8), .int .u64 (.ofNat 4)] 22 (.grown [])),
  (1311, .cells [.slice (some ⟨1305, 0, some 0⟩) 2 2, .slice (some ⟨1309, 0, some 0⟩) 2 2] 43 (.grown [1307])),
  (1313, .cells [.int .i64 (.ofNat 1), .slice (some ⟨1279, 0, some 0⟩) 4 4, .slice (some ⟨1311, 0, some 0⟩) 2 2, .slice none 0 0, .slice none 0 0] 32 .exact),
  (1322, .cells [.int .u64 (.ofNat 6), .int .u64 (.ofNat 9)] 22 (.grown [])),
  (1326, .cells [.int .u64 (.ofNat 8), .int .u64 (.ofNat 4)] 22 (.grown [])),
  (1328, .cells [.slice (some ⟨1322, 0, some 0⟩) 2 2, .slice (some ⟨1326, 0, some 0⟩) 2 2] 43 (.grown [1324])),
  (1330, .cells [.int .i64 (.ofNat 1), .int .i64 (.ofNat 2), .int .i64 (.ofNat 3), .int .i64 (.ofNat 4)] 3 (.grown [])),
  (1375, .cells [.int .i64 (.ofNat 1)] 2 (.grown [])),
  (1377, .cells [.int .i64 (.ofNat 9), .slice (some ⟨1375, 0, some 0⟩) 1 1] 110 (.grown [])),
  (1378, .cells [.int .i64 (.ofNat 1), .slice (some ⟨1330, 0, some 0⟩) 4 4, .slice (some ⟨1328, 0, some 0⟩) 2 2, .slice none 0 0, .slice (some ⟨1377, 0, some 0⟩) 1 1] 32 .exact),
  (1387, .cells [.int .u64 (.ofNat 6), .int .u64 (.ofNat 9)] 22 (.grown [])),
  (1391, .cells [.int .u64 (.ofNat 8), .int .u64 (.ofNat 4)] 22 (.grown [])),
  (1393, .cells [.slice (some ⟨1387, 0, some 0⟩) 2 2, .slice (some ⟨1391, 0, some 0⟩) 2 2] 43 (.grown [1389])),
  (1395, .cells [.int .i64 (.ofNat 1), .int .i64 (.ofNat 2), .int .i64 (.ofNat 3), .int .i64 (.ofNat 4)] 3 (.grown [])),
  (1398, .cells [.int .i64 (.ofNat 1)] 2 (.grown [])),
  (1400, .cells [.int .i64 (.ofNat 9), .slice (some ⟨1398, 0, some 0⟩) 1 1] 110 (.grown [])),
  (1419, .cells [.int .i64 (.ofNat 5), .int .i64 (.ofNat 4), .int .i64 (.ofNat 3), .int .i64 (.ofNat 2)] 3 (.grown [])),
  (1421, .cells [.int .i64 (.ofNat 1), .slice (some ⟨1395, 0, some 0⟩) 4 4, .slice (some ⟨1393, 0, some 0⟩) 2 2, .slice (some ⟨1419, 0, some 0⟩) 4 4, .slice (some ⟨1400, 0, some 0⟩) 1 1] 32 .exact),
  (1422, .cells [.int .u8 (.ofNat 4), .int .i64 (.ofNat 0), .int .i64 (.ofNat 1), .slice none 0 0, .slice none 0 0, .slice none 0 0, .slice (some ⟨1255, 0, some 0⟩) 2 2] 40 .exact),
  (1440, .cells [.int .i64 (.ofNat 5), .int .i64 (.ofNat 4), .int .i64 (.ofNat 3), .int .i64 (.ofNat 2)] 3 (.grown [])),
  (1443, .cells [.int .i64 (.ofNat 1)] 2 (.grown [])),
  (1445, .cells [.int .i64 (.ofNat 9), .slice (some ⟨1443, 0, some 0⟩) 1 1] 110 (.grown [])),
  (1640, .cells [.int .u64 (.ofNat 6), .int .u64 (.ofNat 16)] 22 (.grown [1623])),
  (1676, .cells [.int .u64 (.ofNat 8), .int .u64 (.ofNat 8)] 22 (.grown [1659])),
  (1678, .cells [.slice (some ⟨1640, 0, some 0⟩) 2 2, .slice (some ⟨1676, 0, some 0⟩) 2 2] 43 (.grown [1642])),
  (1679, .cells [.int .i64 (.ofNat 2), .slice (some ⟨1440, 0, some 0⟩) 4 4, .slice (some ⟨1678, 0, some 0⟩) 2 2, .slice none 0 0, .slice (some ⟨1445, 0, some 0⟩) 1 1] 32 .exact),
  (1680, .cells [.int .i64 (.ofNat 3), .slice (some ⟨1253, 0, some 0⟩) 2 2, .int .i64 (.ofNat 2), .slice (some ⟨691, 0, some 0⟩) 2 2] 48 .exact),
  (1687, .cells [.int .u64 (.ofNat 3), .int .u64 (.ofNat 16)] 22 (.grown [])),
  (1691, .cells [.int .u64 (.ofNat 13), .int .u64 (.ofNat 18)] 22 (.grown [])),
  (1693, .cells [.slice (some ⟨1687, 0, some 0⟩) 2 2, .slice (some ⟨1691, 0, some 0⟩) 2 2] 43 (.grown [1689])),
  (1700, .cells [.int .u64 (.ofNat 16), .int .u64 (.ofNat 16)] 22 (.grown [])),
  (1704, .cells [.int .u64 (.ofNat 6), .int .u64 (.ofNat 4)] 22 (.grown [])),
  (1706, .cells [.slice (some ⟨1700, 0, some 0⟩) 2 2, .slice (some ⟨1704, 0, some 0⟩) 2 2] 43 (.grown [1702])),
  (1708, .cells [.int .i64 (.ofNat 2), .slice (some ⟨1693, 0, some 0⟩) 2 2, .int .i64 (.ofNat 3), .slice (some ⟨1706, 0, some 0⟩) 2 2] 48 (.grown [1695])),
  (1711, .cells [.int .u64 (.ofNat 23), .int .u64 (.ofNat 11), .int .u64 (.ofNat 4), .int .u64 (.ofNat 92), .int .i64 (.ofNat 5), .int .i64 (.ofNat 4), .int .i64 (.ofNat 1), .int .i64 (.ofNat 1), .int .i64 (.ofNat 1), .int .i64 (.ofNat 1), .int .i64 (.ofNat 1), .int .i64 (.ofNat 1)] 24 .exact)], 1712⟩
noncomputable def cut4 : Cut := ⟨[(0, .bool false), (1, .pointer (some ⟨5, 0, none⟩)), (7, .pointer (some ⟨1313, 0, none⟩)), (11, .pointer (some ⟨1421, 0, none⟩)), (13, .pointer (some ⟨1422, 0, none⟩)), (14, .pointer (some ⟨1679, 0, none⟩))], [], [(5, .cells [.int .u64 (.ofNat 23), .int .u64 (.ofNat 11), .int .u64 (.ofNat 4), .int .u64 (.ofNat 9), .int .i64 (.ofNat 5), .int .i64 (.ofNat 4), .int .i64 (.ofNat 1), .int .i64 (.ofNat 1), .int .i64 (.ofNat 1), .int .i64 (.ofNat 1), .int .i64 (.ofNat 1), .int .i64 (.ofNat 1)] 24 .exact),
  (666, .cells [.int .u64 (.ofNat 3), .int .u64 (.ofNat 16)] 22 (.grown [656])),
  (689, .cells [.int .u64 (.ofNat 13), .int .u64 (.ofNat 18)] 22 (.grown [679])),
  (691, .cells [.slice (some ⟨666, 0, some 0⟩) 2 2, .slice (some ⟨689, 0, some 0⟩) 2 2] 43 (.grown [668])),
  (1228, .cells [.int .u64 (.ofNat 4), .int .u64 (.ofNat 16)] 22 (.grown [1218])),
  (1251, .cells [.int .u64 (.ofNat 6), .int .u64 (.ofNat 4)] 22 (.grown [1241])),
  (1253, .cells [.slice (some ⟨1228, 0, some 0⟩) 2 2, .slice (some ⟨1251, 0, some 0⟩) 2 2] 43 (.grown [1230])),
  (1255, .cells [.int .i64 (.ofNat 2), .slice (some ⟨691, 0, some 0⟩) 2 2, .int .i64 (.ofNat 3), .slice (some ⟨1253, 0, some 0⟩) 2 2] 48 .stale),
  (1279, .cells [.int .i64 (.ofNat 1), .int .i64 (.ofNat 2), .int .i64 (.ofNat 3), .int .i64 (.ofNat 4)] 3 (.grown [])),
  (1305, .cells [.int .u64 (.ofNat 6), .int .u64 (.ofNat 9)] 22 (.grown [])),
  (1309, .cells [.int .u64 (.ofNat 8), .int .u64 (.ofNat 4)] 22 (.grown [])),
  (1311, .cells [.slice (some ⟨1305, 0, some 0⟩) 2 2, .slice (some ⟨1309, 0, some 0⟩) 2 2] 43 (.grown [1307])),
  (1313, .cells [.int .i64 (.ofNat 1), .slice (some ⟨1279, 0, some 0⟩) 4 4, .slice (some ⟨1311, 0, some 0⟩) 2 2, .slice none 0 0, .slice none 0 0] 32 .exact),
  (1387, .cells [.int .u64 (.ofNat 6), .int .u64 (.ofNat 9)] 22 (.grown [])),
  (1391, .cells [.int .u64 (.ofNat 8), .int .u64 (.ofNat 4)] 22 (.grown [])),
  (1393, .cells [.slice (some ⟨1387, 0, some 0⟩) 2 2, .slice (some ⟨1391, 0, some 0⟩) 2 2] 43 (.grown [1389])),
  (1395, .cells [.int .i64 (.ofNat 1), .int .i64 (.ofNat 2), .int .i64 (.ofNat 3), .int .i64 (.ofNat 4)] 3 (.grown [])),
  (1398, .cells [.int .i64 (.ofNat 1)] 2 (.grown [])),
  (1400, .cells [.int .i64 (.ofNat 9), .slice (some ⟨1398, 0, some 0⟩) 1 1] 110 (.grown [])),
  (1419, .cells [.int .i64 (.ofNat 5), .int .i64 (.ofNat 4), .int .i64 (.ofNat 3), .int .i64 (.ofNat 2)] 3 (.grown [])),
  (1421, .cells [.int .i64 (.ofNat 1), .slice (some ⟨1395, 0, some 0⟩) 4 4, .slice (some ⟨1393, 0, some 0⟩) 2 2, .slice (some ⟨1419, 0, some 0⟩) 4 4, .slice (some ⟨1400, 0, some 0⟩) 1 1] 32 .exact),
  (1422, .cells [.int .u8 (.ofNat 4), .int .i64 (.ofNat 0), .int .i64 (.ofNat 1), .slice none 0 0, .slice none 0 0, .slice none 0 0, .slice (some ⟨1255, 0, some 0⟩) 2 2] 40 .exact),
  (1440, .cells [.int .i64 (.ofNat 5), .int .i64 (.ofNat 4), .int .i64 (.ofNat 3), .int .i64 (.ofNat 2)] 3 (.grown [])),
  (1443, .cells [.int .i64 (.ofNat 1)] 2 (.grown [])),
  (1445, .cells [.int .i64 (.ofNat 9), .slice (some ⟨1443, 0, some 0⟩) 1 1] 110 (.grown [])),
  (1640, .cells [.int .u64 (.ofNat 6), .int .u64 (.ofNat 16)] 22 (.grown [1623])),
  (1676, .cells [.int .u64 (.ofNat 8), .int .u64 (.ofNat 8)] 22 (.grown [1659])),
  (1678, .cells [.slice (some ⟨1640, 0, some 0⟩) 2 2, .slice (some ⟨1676, 0, some 0⟩) 2 2] 43 (.grown [1642])),
  (1679, .cells [.int .i64 (.ofNat 2), .slice (some ⟨1440, 0, some 0⟩) 4 4, .slice (some ⟨1678, 0, some 0⟩) 2 2, .slice none 0 0, .slice (some ⟨1445, 0, some 0⟩) 1 1] 32 .exact)], 2909⟩
set_option maxRecDepth 1000000 in
theorem piece0 : pieceK Tryz.prog lawE cut0 Tryz.f3.ntmps (takeSeq 4 (lawC)) (nextQ cut1 Tryz.f3.ntmps) = true := by kernel_rfl
set_option maxRecDepth 1000000 in
theorem piece1 : pieceK Tryz.prog lawE cut1 Tryz.f3.ntmps (takeSeq 1 (dropSeq 4 (lawC))) (nextQ cut2 Tryz.f3.ntmps) = true := by kernel_rfl
set_option maxRecDepth 1000000 in
theorem piece2 : pieceK Tryz.prog lawE cut2 Tryz.f3.ntmps (takeSeq 12 (dropSeq 1 (dropSeq 4 (lawC)))) (nextQ cut3 Tryz.f3.ntmps) = true := by kernel_rfl
set_option maxRecDepth 1000000 in
theorem piece3 : pieceK Tryz.prog lawE cut3 Tryz.f3.ntmps (takeSeq 1 (dropSeq 12 (dropSeq 1 (dropSeq 4 (lawC))))) (nextQ cut4 Tryz.f3.ntmps) = true := by kernel_rfl
set_option maxRecDepth 1000000 in
theorem piece4 : pieceK Tryz.prog lawE cut4 Tryz.f3.ntmps (dropSeq 1 (dropSeq 12 (dropSeq 1 (dropSeq 4 (lawC))))) (lastQ (endK Tryz.prog Tryz.f3)) = true := by kernel_rfl
theorem meets0 : meetsK cut0 Tryz.f3.ntmps ⟨⟨.leaf, Tryz.f3.ntmps⟩, [], Tryz.prog.globals.size⟩ (St.laid Tryz.prog.globals.size gs) = true := by kernel_rfl
theorem lawP : lawE.P = Tryz.prog := envL_P _ _ _ _
theorem good4 {w : World} (hc : CallOk Tryz.prog w lawE.call) (hr : RoundOk Tryz.prog w lawE.round) : GoodFrom lawE w Tryz.f3.ntmps cut4 (dropSeq 1 (dropSeq 12 (dropSeq 1 (dropSeq 4 (lawC))))) (endK Tryz.prog Tryz.f3) :=
  @GoodFrom.last' lawE w Tryz.prog lawP hc hr mixedN Tryz.f3.ntmps cut4 (dropSeq 1 (dropSeq 12 (dropSeq 1 (dropSeq 4 (lawC))))) (endK Tryz.prog Tryz.f3) piece4
theorem good3 {w : World} (hc : CallOk Tryz.prog w lawE.call) (hr : RoundOk Tryz.prog w lawE.round) : GoodFrom lawE w Tryz.f3.ntmps cut3 (dropSeq 12 (dropSeq 1 (dropSeq 4 (lawC)))) (endK Tryz.prog Tryz.f3) :=
  @GoodFrom.step' lawE w Tryz.prog lawP hc hr mixedN Tryz.f3.ntmps cut3 cut4 (dropSeq 12 (dropSeq 1 (dropSeq 4 (lawC)))) 1 (endK Tryz.prog Tryz.f3) piece3 (good4 hc hr)
theorem good2 {w : World} (hc : CallOk Tryz.prog w lawE.call) (hr : RoundOk Tryz.prog w lawE.round) : GoodFrom lawE w Tryz.f3.ntmps cut2 (dropSeq 1 (dropSeq 4 (lawC))) (endK Tryz.prog Tryz.f3) :=
  @GoodFrom.step' lawE w Tryz.prog lawP hc hr mixedN Tryz.f3.ntmps cut2 cut3 (dropSeq 1 (dropSeq 4 (lawC))) 12 (endK Tryz.prog Tryz.f3) piece2 (good3 hc hr)
theorem good1 {w : World} (hc : CallOk Tryz.prog w lawE.call) (hr : RoundOk Tryz.prog w lawE.round) : GoodFrom lawE w Tryz.f3.ntmps cut1 (dropSeq 4 (lawC)) (endK Tryz.prog Tryz.f3) :=
  @GoodFrom.step' lawE w Tryz.prog lawP hc hr mixedN Tryz.f3.ntmps cut1 cut2 (dropSeq 4 (lawC)) 1 (endK Tryz.prog Tryz.f3) piece1 (good2 hc hr)
theorem good0 {w : World} (hc : CallOk Tryz.prog w lawE.call) (hr : RoundOk Tryz.prog w lawE.round) : GoodFrom lawE w Tryz.f3.ntmps cut0 (lawC) (endK Tryz.prog Tryz.f3) :=
  @GoodFrom.step' lawE w Tryz.prog lawP hc hr mixedN Tryz.f3.ntmps cut0 cut1 (lawC) 4 (endK Tryz.prog Tryz.f3) piece0 (good1 hc hr)
set_option maxRecDepth 1000000 in
theorem lawBody : Tryz.f3.body = some lawC := by kernel_rfl
theorem called_names (w : World) (hsz : Tryz.prog.globals.size ≤ w.heap.size) (hl : Laid gs w) : Calls Tryz.prog 3 #[] w (fun e w' => e = .returned (.bool true) ∧ Below w.heap.size w w') := by
  have h : CallOk Tryz.prog w lawE.call ∧ RoundOk Tryz.prog w lawE.round := envL_sound (most := 1000) (n := 60) (ovN3_ok hsz hl) namesN mixedN
  exact @calls_of_good' lawE w Tryz.prog lawP h.1 h.2 3 Tryz.f3 lawC cut0 _ _ Tryz.func3 lawBody (Rel.laid gs_ok hsz hl) meets0 (good0 h.1 h.2)
end Go.Am
