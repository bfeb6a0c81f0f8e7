/-
  Sets of tags: OrsetNames, carried out in parts (printed by program).
-/
import Derived.Test.YtboebmmklamaeaaGreatDoorKi
import Derived.Test.YtboebmmklamaeaaGreatDoorKj
import Derived.Test.YtboebmmklamaeaaGreatDoorKk
import Derived.Test.YtboebmmklamaeaaGreatDoorKl
namespace Go.CM
open Go Go.Proofs
set_option linter.unusedVariables false
set_option maxRecDepth 1000000
set_option maxHeartbeats 8000000

-- (some braid/dag.Check): 10954
abbrev kOrsetNamesA25 : List CV := [.ag ([.rsl 32 [jb [118, 22, 95, 112, 174, 4, 111, 107, 240, 22, 10, 146, 23, 178, 112, 45, 83, 205, 202, 96, 101, 37, 118, 128, 7, 255, 191, 103, 167, 230, 185, 199], jb [229, 124, 185, 107, 70, 231, 131, 233, 115, 130, 99, 242, 254, 26, 152, 21, 36, 103, 69, 47, 253, 120, 128, 100, 162, 223, 201, 56, 16, 173, 61, 62], jb [236, 1, 228, 215, 173, 162, 212, 26, 73, 9, 238, 81, 3, 24, 43, 149, 66, 163, 18, 250, 15, 204, 37, 92, 161, 241, 167, 131, 64, 202, 126, 40]]] ++ [.rsl 11 [[.int .u32 (1024)] ++ [.rsl 32 []] ++ [.int .u64 (3)] ++ [.int .u8 2] ++ [.str [107]] ++ [.int .u8 0] ++ [ji (0)] ++ [.int .u64 (0)] ++ [.str []] ++ [.int .u32 (466031157)] ++ [.int .u32 (154584838)], [.int .u32 (1024)] ++ [.rsl 32 []] ++ [.int .u64 (1)] ++ [.int .u8 2] ++ [.str [107]] ++ [.int .u8 0] ++ [ji (0)] ++ [.int .u64 (0)] ++ [.str []] ++ [.int .u32 (279904696)] ++ [.int .u32 (405231647)], [.int .u32 (1024)] ++ [.rsl 32 [jb [229, 124, 185, 107, 70, 231, 131, 233, 115, 130, 99, 242, 254, 26, 152, 21, 36, 103, 69, 47, 253, 120, 128, 100, 162, 223, 201, 56, 16, 173, 61, 62]]] ++ [.int .u64 (2)] ++ [.int .u8 3] ++ [.str [107]] ++ [.int .u8 0] ++ [ji (0)] ++ [.int .u64 (0)] ++ [.str []] ++ [.int .u32 (222953725)] ++ [.int .u32 (492791184)]]])]
abbrev kOrsetNamesR25 : CV := ji (0)
theorem kOrsetNames25 : PureN Tryz.prog GS 55 kOrsetNamesA25 kOrsetNamesR25 :=
  pureN_runs Tryz.checked.mixed GS_closed (orcOf_ok (AllO.mem (allO_cons sumO_ok (allO_cons (pickO_ok (allK_cons kOrsetNames12 (allK_cons kOrsetNames18 (allK_cons kOrsetNames24 (allK_nil))))) (allO_cons (pickO_ok (allK_cons kOrsetNames0 (allK_cons kOrsetNames7 (allK_cons kOrsetNames8 (allK_cons kOrsetNames9 (allK_cons kOrsetNames10 (allK_cons kOrsetNames13 (allK_cons kOrsetNames14 (allK_cons kOrsetNames15 (allK_cons kOrsetNames16 (allK_cons kOrsetNames19 (allK_cons kOrsetNames20 (allK_cons kOrsetNames21 (allK_cons kOrsetNames22 (allK_nil))))))))))))))) (allO_nil)))))) tbl_ok (orc := orcOf [sumO, (159, true, pickA [(kOrsetNamesA12, kOrsetNamesR12), (kOrsetNamesA18, kOrsetNamesR18), (kOrsetNamesA24, kOrsetNamesR24)]), (183, true, pickA [(kOrsetNamesA0, kOrsetNamesR0), (kOrsetNamesA7, kOrsetNamesR7), (kOrsetNamesA8, kOrsetNamesR8), (kOrsetNamesA9, kOrsetNamesR9), (kOrsetNamesA10, kOrsetNamesR10), (kOrsetNamesA13, kOrsetNamesR13), (kOrsetNamesA14, kOrsetNamesR14), (kOrsetNamesA15, kOrsetNamesR15), (kOrsetNamesA16, kOrsetNamesR16), (kOrsetNamesA19, kOrsetNamesR19), (kOrsetNamesA20, kOrsetNamesR20), (kOrsetNamesA21, kOrsetNamesR21), (kOrsetNamesA22, kOrsetNamesR22)])]) (fuel := 100000) (k := 60) (by kernel_rfl)

-- (some braid/dag.Check): 7389
abbrev kOrsetNamesA26 : List CV := [.ag ([.rsl 32 [jb [229, 124, 185, 107, 70, 231, 131, 233, 115, 130, 99, 242, 254, 26, 152, 21, 36, 103, 69, 47, 253, 120, 128, 100, 162, 223, 201, 56, 16, 173, 61, 62], jb [236, 1, 228, 215, 173, 162, 212, 26, 73, 9, 238, 81, 3, 24, 43, 149, 66, 163, 18, 250, 15, 204, 37, 92, 161, 241, 167, 131, 64, 202, 126, 40]]] ++ [.rsl 11 [[.int .u32 (1024)] ++ [.rsl 32 []] ++ [.int .u64 (1)] ++ [.int .u8 2] ++ [.str [107]] ++ [.int .u8 0] ++ [ji (0)] ++ [.int .u64 (0)] ++ [.str []] ++ [.int .u32 (279904696)] ++ [.int .u32 (405231647)], [.int .u32 (1024)] ++ [.rsl 32 [jb [229, 124, 185, 107, 70, 231, 131, 233, 115, 130, 99, 242, 254, 26, 152, 21, 36, 103, 69, 47, 253, 120, 128, 100, 162, 223, 201, 56, 16, 173, 61, 62]]] ++ [.int .u64 (2)] ++ [.int .u8 3] ++ [.str [107]] ++ [.int .u8 0] ++ [ji (0)] ++ [.int .u64 (0)] ++ [.str []] ++ [.int .u32 (222953725)] ++ [.int .u32 (492791184)]]])]
abbrev kOrsetNamesR26 : CV := ji (0)
theorem kOrsetNames26 : PureN Tryz.prog GS 55 kOrsetNamesA26 kOrsetNamesR26 :=
  pureN_runs Tryz.checked.mixed GS_closed (orcOf_ok (AllO.mem (allO_cons sumO_ok (allO_cons (pickO_ok (allK_cons kOrsetNames18 (allK_cons kOrsetNames24 (allK_nil)))) (allO_cons (pickO_ok (allK_cons kOrsetNames0 (allK_cons kOrsetNames13 (allK_cons kOrsetNames14 (allK_cons kOrsetNames15 (allK_cons kOrsetNames16 (allK_cons kOrsetNames19 (allK_cons kOrsetNames20 (allK_cons kOrsetNames21 (allK_cons kOrsetNames22 (allK_nil))))))))))) (allO_nil)))))) tbl_ok (orc := orcOf [sumO, (159, true, pickA [(kOrsetNamesA18, kOrsetNamesR18), (kOrsetNamesA24, kOrsetNamesR24)]), (183, true, pickA [(kOrsetNamesA0, kOrsetNamesR0), (kOrsetNamesA13, kOrsetNamesR13), (kOrsetNamesA14, kOrsetNamesR14), (kOrsetNamesA15, kOrsetNamesR15), (kOrsetNamesA16, kOrsetNamesR16), (kOrsetNamesA19, kOrsetNamesR19), (kOrsetNamesA20, kOrsetNamesR20), (kOrsetNamesA21, kOrsetNamesR21), (kOrsetNamesA22, kOrsetNamesR22)])]) (fuel := 100000) (k := 60) (by kernel_rfl)

end Go.CM
