/-
  Folds: FoldNames, carried out in parts (printed by program).
-/
import Derived.Test.YtobphgccoalchaaGreatDoorKi
import Derived.Test.YtobphgccoalchaaGreatDoorKm
namespace Go.CM
open Go Go.Proofs
set_option linter.unusedVariables false
set_option maxRecDepth 1000000
set_option maxHeartbeats 8000000

-- (some braid/braidref03.Signed): 983
abbrev kFoldNamesA32 : List CV := [.int .u32 (5)] ++ [.rsl 1 (jr (jb [111, 249, 4, 0, 0, 0, 2, 1, 107]))]
abbrev kFoldNamesR32 : CV := .ag ([.int .u32 (129255048)] ++ [.int .u32 (399478955)])
theorem kFoldNames32 : PureN Tryz.prog GS 121 kFoldNamesA32 kFoldNamesR32 :=
  pureN_runs (P := Tryz.prog) Tryz.checked.mixed GS_closed (orcOf_ok (AllO.mem (allO_cons refOfO_ok (allO_nil)))) tbl_ok (orc := orcOf [refOfO]) (fuel := 100000) (k := 60) (by kernel_rfl)

-- (some braid/braidref06.Sign): 960
abbrev kFoldNamesA33 : List CV := [.int .u32 (5)] ++ [.ag ([.int .u32 (0)] ++ [.nilS] ++ [.int .u64 (0)] ++ [.int .u8 2] ++ [.str [107]] ++ [.int .u8 0] ++ [ji (0)] ++ [.int .u64 (0)] ++ [.str []] ++ [.int .u32 (0)] ++ [.int .u32 (0)])]
abbrev kFoldNamesR33 : CV := .tu ([.ag ([.int .u32 (1024)] ++ [.rsl 32 []] ++ [.int .u64 (0)] ++ [.int .u8 2] ++ [.str [107]] ++ [.int .u8 0] ++ [ji (0)] ++ [.int .u64 (0)] ++ [.str []] ++ [.int .u32 (129255048)] ++ [.int .u32 (399478955)])] ++ [ji (0)])
theorem kFoldNames33 : PureN Tryz.prog GS 73 kFoldNamesA33 kFoldNamesR33 :=
  pureN_runs (P := Tryz.prog) Tryz.checked.mixed GS_closed (orcOf_ok (AllO.mem (allO_cons (pickO_ok (allK_cons kFoldNames32 (allK_nil))) (allO_nil)))) tbl_ok (orc := orcOf [(121, true, pickA [(kFoldNamesA32, kFoldNamesR32)])]) (fuel := 100000) (k := 60) (by kernel_rfl)

-- (some braid/braidref03.Signed): 983
abbrev kFoldNamesA34 : List CV := [.int .u32 (5)] ++ [.rsl 1 (jr (jb [111, 249, 4, 0, 0, 0, 4, 1, 107, 1, 14]))]
abbrev kFoldNamesR34 : CV := .ag ([.int .u32 (245198832)] ++ [.int .u32 (480132016)])
theorem kFoldNames34 : PureN Tryz.prog GS 121 kFoldNamesA34 kFoldNamesR34 :=
  pureN_runs (P := Tryz.prog) Tryz.checked.mixed GS_closed (orcOf_ok (AllO.mem (allO_cons refOfO_ok (allO_nil)))) tbl_ok (orc := orcOf [refOfO]) (fuel := 100000) (k := 60) (by kernel_rfl)

-- (some braid/braidref06.Sign): 1020
abbrev kFoldNamesA35 : List CV := [.int .u32 (5)] ++ [.ag ([.int .u32 (0)] ++ [.nilS] ++ [.int .u64 (0)] ++ [.int .u8 4] ++ [.str [107]] ++ [.int .u8 1] ++ [ji (7)] ++ [.int .u64 (0)] ++ [.str []] ++ [.int .u32 (0)] ++ [.int .u32 (0)])]
abbrev kFoldNamesR35 : CV := .tu ([.ag ([.int .u32 (1024)] ++ [.rsl 32 []] ++ [.int .u64 (0)] ++ [.int .u8 4] ++ [.str [107]] ++ [.int .u8 1] ++ [ji (7)] ++ [.int .u64 (0)] ++ [.str []] ++ [.int .u32 (245198832)] ++ [.int .u32 (480132016)])] ++ [ji (0)])
theorem kFoldNames35 : PureN Tryz.prog GS 73 kFoldNamesA35 kFoldNamesR35 :=
  pureN_runs (P := Tryz.prog) Tryz.checked.mixed GS_closed (orcOf_ok (AllO.mem (allO_cons (pickO_ok (allK_cons kFoldNames34 (allK_nil))) (allO_nil)))) tbl_ok (orc := orcOf [(121, true, pickA [(kFoldNamesA34, kFoldNamesR34)])]) (fuel := 100000) (k := 60) (by kernel_rfl)

-- (some braid/braidref03.Signed): 975
abbrev kFoldNamesA36 : List CV := [.int .u32 (5)] ++ [.rsl 1 (jr (jb [111, 249, 4, 0, 2, 139, 155, 127, 40, 157, 97, 234, 61, 221, 237, 220, 81, 93, 150, 154, 229, 203, 104, 132, 176, 229, 187, 23, 160, 167, 158, 35, 130, 160, 158, 225, 157, 198, 167, 169, 49, 131, 208, 119, 134, 47, 60, 235, 0, 68, 166, 241, 20, 47, 240, 141, 206, 85, 173, 27, 225, 253, 102, 77, 118, 55, 125, 153, 21, 0, 3, 1, 107]))]
abbrev kFoldNamesR36 : CV := .ag ([.int .u32 (182053779)] ++ [.int .u32 (1858103)])
theorem kFoldNames36 : PureN Tryz.prog GS 121 kFoldNamesA36 kFoldNamesR36 :=
  pureN_runs (P := Tryz.prog) Tryz.checked.mixed GS_closed (orcOf_ok (AllO.mem (allO_cons refOfO_ok (allO_nil)))) tbl_ok (orc := orcOf [refOfO]) (fuel := 100000) (k := 60) (by kernel_rfl)

-- (some braid/braidref06.Sign): 1022
abbrev kFoldNamesA37 : List CV := [.int .u32 (5)] ++ [.ag ([.int .u32 (0)] ++ [.rsl 32 [jb [139, 155, 127, 40, 157, 97, 234, 61, 221, 237, 220, 81, 93, 150, 154, 229, 203, 104, 132, 176, 229, 187, 23, 160, 167, 158, 35, 130, 160, 158, 225, 157], jb [198, 167, 169, 49, 131, 208, 119, 134, 47, 60, 235, 0, 68, 166, 241, 20, 47, 240, 141, 206, 85, 173, 27, 225, 253, 102, 77, 118, 55, 125, 153, 21]]] ++ [.int .u64 (0)] ++ [.int .u8 3] ++ [.str [107]] ++ [.int .u8 0] ++ [ji (0)] ++ [.int .u64 (0)] ++ [.str []] ++ [.int .u32 (0)] ++ [.int .u32 (0)])]
abbrev kFoldNamesR37 : CV := .tu ([.ag ([.int .u32 (1024)] ++ [.rsl 32 [jb [139, 155, 127, 40, 157, 97, 234, 61, 221, 237, 220, 81, 93, 150, 154, 229, 203, 104, 132, 176, 229, 187, 23, 160, 167, 158, 35, 130, 160, 158, 225, 157], jb [198, 167, 169, 49, 131, 208, 119, 134, 47, 60, 235, 0, 68, 166, 241, 20, 47, 240, 141, 206, 85, 173, 27, 225, 253, 102, 77, 118, 55, 125, 153, 21]]] ++ [.int .u64 (0)] ++ [.int .u8 3] ++ [.str [107]] ++ [.int .u8 0] ++ [ji (0)] ++ [.int .u64 (0)] ++ [.str []] ++ [.int .u32 (182053779)] ++ [.int .u32 (1858103)])] ++ [ji (0)])
theorem kFoldNames37 : PureN Tryz.prog GS 73 kFoldNamesA37 kFoldNamesR37 :=
  pureN_runs (P := Tryz.prog) Tryz.checked.mixed GS_closed (orcOf_ok (AllO.mem (allO_cons (pickO_ok (allK_cons kFoldNames36 (allK_nil))) (allO_nil)))) tbl_ok (orc := orcOf [(121, true, pickA [(kFoldNamesA36, kFoldNamesR36)])]) (fuel := 100000) (k := 60) (by kernel_rfl)

-- (some braid/braidref09.Of): 2879
abbrev kFoldNamesA38 : List CV := [.rsl 11 [[.int .u32 (1024)] ++ [.rsl 32 []] ++ [.int .u64 (0)] ++ [.int .u8 2] ++ [.str [107]] ++ [.int .u8 0] ++ [ji (0)] ++ [.int .u64 (0)] ++ [.str []] ++ [.int .u32 (129255048)] ++ [.int .u32 (399478955)], [.int .u32 (1024)] ++ [.rsl 32 []] ++ [.int .u64 (0)] ++ [.int .u8 4] ++ [.str [107]] ++ [.int .u8 1] ++ [ji (7)] ++ [.int .u64 (0)] ++ [.str []] ++ [.int .u32 (245198832)] ++ [.int .u32 (480132016)], [.int .u32 (1024)] ++ [.rsl 32 [jb [139, 155, 127, 40, 157, 97, 234, 61, 221, 237, 220, 81, 93, 150, 154, 229, 203, 104, 132, 176, 229, 187, 23, 160, 167, 158, 35, 130, 160, 158, 225, 157], jb [198, 167, 169, 49, 131, 208, 119, 134, 47, 60, 235, 0, 68, 166, 241, 20, 47, 240, 141, 206, 85, 173, 27, 225, 253, 102, 77, 118, 55, 125, 153, 21]]] ++ [.int .u64 (0)] ++ [.int .u8 3] ++ [.str [107]] ++ [.int .u8 0] ++ [ji (0)] ++ [.int .u64 (0)] ++ [.str []] ++ [.int .u32 (182053779)] ++ [.int .u32 (1858103)]]]
abbrev kFoldNamesR38 : CV := .tu ([.ag ([.rsl 32 [jb [19, 192, 83, 140, 11, 154, 95, 228, 143, 182, 229, 182, 185, 39, 203, 208, 159, 174, 42, 110, 68, 131, 221, 11, 111, 210, 177, 169, 5, 229, 204, 24], jb [139, 155, 127, 40, 157, 97, 234, 61, 221, 237, 220, 81, 93, 150, 154, 229, 203, 104, 132, 176, 229, 187, 23, 160, 167, 158, 35, 130, 160, 158, 225, 157], jb [198, 167, 169, 49, 131, 208, 119, 134, 47, 60, 235, 0, 68, 166, 241, 20, 47, 240, 141, 206, 85, 173, 27, 225, 253, 102, 77, 118, 55, 125, 153, 21]]] ++ [.rsl 11 [[.int .u32 (1024)] ++ [.rsl 32 [jb [139, 155, 127, 40, 157, 97, 234, 61, 221, 237, 220, 81, 93, 150, 154, 229, 203, 104, 132, 176, 229, 187, 23, 160, 167, 158, 35, 130, 160, 158, 225, 157], jb [198, 167, 169, 49, 131, 208, 119, 134, 47, 60, 235, 0, 68, 166, 241, 20, 47, 240, 141, 206, 85, 173, 27, 225, 253, 102, 77, 118, 55, 125, 153, 21]]] ++ [.int .u64 (0)] ++ [.int .u8 3] ++ [.str [107]] ++ [.int .u8 0] ++ [ji (0)] ++ [.int .u64 (0)] ++ [.str []] ++ [.int .u32 (182053779)] ++ [.int .u32 (1858103)], [.int .u32 (1024)] ++ [.rsl 32 []] ++ [.int .u64 (0)] ++ [.int .u8 2] ++ [.str [107]] ++ [.int .u8 0] ++ [ji (0)] ++ [.int .u64 (0)] ++ [.str []] ++ [.int .u32 (129255048)] ++ [.int .u32 (399478955)], [.int .u32 (1024)] ++ [.rsl 32 []] ++ [.int .u64 (0)] ++ [.int .u8 4] ++ [.str [107]] ++ [.int .u8 1] ++ [ji (7)] ++ [.int .u64 (0)] ++ [.str []] ++ [.int .u32 (245198832)] ++ [.int .u32 (480132016)]]])] ++ [ji (0)])
theorem kFoldNames38 : PureN Tryz.prog GS 32 kFoldNamesA38 kFoldNamesR38 :=
  pureN_runs (P := Tryz.prog) Tryz.checked.mixed GS_closed (orcOf_ok (AllO.mem (allO_cons refOfO_ok (allO_cons (pickO_ok (allK_cons kFoldNames1 (allK_cons kFoldNames2 (allK_cons kFoldNames3 (allK_nil))))) (allO_nil))))) tbl_ok (orc := orcOf [refOfO, (39, true, pickA [(kFoldNamesA1, kFoldNamesR1), (kFoldNamesA2, kFoldNamesR2), (kFoldNamesA3, kFoldNamesR3)])]) (fuel := 100000) (k := 60) (by kernel_rfl)

end Go.CM
