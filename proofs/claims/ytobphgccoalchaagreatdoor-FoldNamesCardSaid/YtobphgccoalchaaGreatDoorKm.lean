/-
  Folds: FoldNames, carried out in parts (printed by program).
-/
import Derived.Test.YtobphgccoalchaaGreatDoorKi
namespace Go.CM
open Go Go.Proofs
set_option linter.unusedVariables false
set_option maxRecDepth 1000000
set_option maxHeartbeats 8000000

-- (some braid/braidlaw23.given): 6861
abbrev kFoldNamesA0 : List CV := []
abbrev kFoldNamesR0 : CV := .rsl 11 [[.int .u32 (1024)] ++ [.rsl 32 []] ++ [.int .u64 (0)] ++ [.int .u8 2] ++ [.str [107]] ++ [.int .u8 0] ++ [ji (0)] ++ [.int .u64 (0)] ++ [.str []] ++ [.int .u32 (129255048)] ++ [.int .u32 (399478955)], [.int .u32 (1024)] ++ [.rsl 32 []] ++ [.int .u64 (0)] ++ [.int .u8 4] ++ [.str [107]] ++ [.int .u8 1] ++ [ji (7)] ++ [.int .u64 (0)] ++ [.str []] ++ [.int .u32 (245198832)] ++ [.int .u32 (480132016)], [.int .u32 (1024)] ++ [.rsl 32 [jb [139, 155, 127, 40, 157, 97, 234, 61, 221, 237, 220, 81, 93, 150, 154, 229, 203, 104, 132, 176, 229, 187, 23, 160, 167, 158, 35, 130, 160, 158, 225, 157], jb [198, 167, 169, 49, 131, 208, 119, 134, 47, 60, 235, 0, 68, 166, 241, 20, 47, 240, 141, 206, 85, 173, 27, 225, 253, 102, 77, 118, 55, 125, 153, 21]]] ++ [.int .u64 (0)] ++ [.int .u8 3] ++ [.str [107]] ++ [.int .u8 0] ++ [ji (0)] ++ [.int .u64 (0)] ++ [.str []] ++ [.int .u32 (182053779)] ++ [.int .u32 (1858103)]]
theorem kFoldNames0 : PureN Tryz.prog GS 31 kFoldNamesA0 kFoldNamesR0 :=
  pureN_runs Tryz.checked.mixed GS_closed (orcOf_ok (AllO.mem (allO_cons refOfO_ok (allO_nil)))) tbl_ok (orc := orcOf [refOfO]) (fuel := 100000) (k := 60) (by kernel_rfl)

-- (some braid/braidref06.Verify): 3070
abbrev kFoldNamesA1 : List CV := [.ag ([.int .u32 (1024)] ++ [.rsl 32 []] ++ [.int .u64 (0)] ++ [.int .u8 2] ++ [.str [107]] ++ [.int .u8 0] ++ [ji (0)] ++ [.int .u64 (0)] ++ [.str []] ++ [.int .u32 (129255048)] ++ [.int .u32 (399478955)])]
abbrev kFoldNamesR1 : CV := ji (0)
theorem kFoldNames1 : PureN Tryz.prog GS 39 kFoldNamesA1 kFoldNamesR1 :=
  pureN_runs Tryz.checked.mixed GS_closed (orcOf_ok (AllO.mem (allO_cons refOfO_ok (allO_nil)))) tbl_ok (orc := orcOf [refOfO]) (fuel := 100000) (k := 60) (by kernel_rfl)

-- (some braid/braidref06.Verify): 3174
abbrev kFoldNamesA2 : List CV := [.ag ([.int .u32 (1024)] ++ [.rsl 32 []] ++ [.int .u64 (0)] ++ [.int .u8 4] ++ [.str [107]] ++ [.int .u8 1] ++ [ji (7)] ++ [.int .u64 (0)] ++ [.str []] ++ [.int .u32 (245198832)] ++ [.int .u32 (480132016)])]
abbrev kFoldNamesR2 : CV := ji (0)
theorem kFoldNames2 : PureN Tryz.prog GS 39 kFoldNamesA2 kFoldNamesR2 :=
  pureN_runs Tryz.checked.mixed GS_closed (orcOf_ok (AllO.mem (allO_cons refOfO_ok (allO_nil)))) tbl_ok (orc := orcOf [refOfO]) (fuel := 100000) (k := 60) (by kernel_rfl)

-- (some braid/braidref06.Verify): 3034
abbrev kFoldNamesA3 : List CV := [.ag ([.int .u32 (1024)] ++ [.rsl 32 [jb [139, 155, 127, 40, 157, 97, 234, 61, 221, 237, 220, 81, 93, 150, 154, 229, 203, 104, 132, 176, 229, 187, 23, 160, 167, 158, 35, 130, 160, 158, 225, 157], jb [198, 167, 169, 49, 131, 208, 119, 134, 47, 60, 235, 0, 68, 166, 241, 20, 47, 240, 141, 206, 85, 173, 27, 225, 253, 102, 77, 118, 55, 125, 153, 21]]] ++ [.int .u64 (0)] ++ [.int .u8 3] ++ [.str [107]] ++ [.int .u8 0] ++ [ji (0)] ++ [.int .u64 (0)] ++ [.str []] ++ [.int .u32 (182053779)] ++ [.int .u32 (1858103)])]
abbrev kFoldNamesR3 : CV := ji (0)
theorem kFoldNames3 : PureN Tryz.prog GS 39 kFoldNamesA3 kFoldNamesR3 :=
  pureN_runs Tryz.checked.mixed GS_closed (orcOf_ok (AllO.mem (allO_cons refOfO_ok (allO_nil)))) tbl_ok (orc := orcOf [refOfO]) (fuel := 100000) (k := 60) (by kernel_rfl)

-- (some braid/group.pow): 4041
abbrev kFoldNamesA20 : List CV := [.int .u32 (4)] ++ [.int .u64 (480132016)]
abbrev kFoldNamesR20 : CV := .int .u32 (226794026)
theorem kFoldNames20 : PureN Tryz.prog GS 241 kFoldNamesA20 kFoldNamesR20 :=
  pureN_runs Tryz.checked.mixed GS_closed (orcOf_ok (AllO.mem (allO_nil))) tbl_ok (orc := orcOf []) (fuel := 100000) (k := 60) (by kernel_rfl)

-- (some braid/group.pow): 4001
abbrev kFoldNamesA21 : List CV := [.int .u32 (226794026)] ++ [.int .u64 (500000003)]
abbrev kFoldNamesR21 : CV := .int .u32 (1)
theorem kFoldNames21 : PureN Tryz.prog GS 241 kFoldNamesA21 kFoldNamesR21 :=
  pureN_runs Tryz.checked.mixed GS_closed (orcOf_ok (AllO.mem (allO_nil))) tbl_ok (orc := orcOf []) (fuel := 100000) (k := 60) (by kernel_rfl)

-- (some braid/group.pow): 4001
abbrev kFoldNamesA22 : List CV := [.int .u32 (10783311)] ++ [.int .u64 (500000003)]
abbrev kFoldNamesR22 : CV := .int .u32 (1)
theorem kFoldNames22 : PureN Tryz.prog GS 241 kFoldNamesA22 kFoldNamesR22 :=
  pureN_runs Tryz.checked.mixed GS_closed (orcOf_ok (AllO.mem (allO_nil))) tbl_ok (orc := orcOf []) (fuel := 100000) (k := 60) (by kernel_rfl)

end Go.CM
