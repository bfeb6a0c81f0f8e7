/-
  Folds: FoldNames, carried out in parts (printed by program).
-/
import Derived.Test.YtobphgccoalchaaGreatDoorKi
namespace Go.CM
open Go Go.Proofs
set_option linter.unusedVariables false
set_option maxRecDepth 1000000
set_option maxHeartbeats 8000000

-- (some braid/group.pow): 4001
abbrev kFoldNamesA4 : List CV := [.int .u32 (1024)] ++ [.int .u64 (500000003)]
abbrev kFoldNamesR4 : CV := .int .u32 (1)
theorem kFoldNames4 : PureN Tryz.prog GS 241 kFoldNamesA4 kFoldNamesR4 :=
  pureN_runs Tryz.checked.mixed GS_closed (orcOf_ok (AllO.mem (allO_nil))) tbl_ok (orc := orcOf []) (fuel := 100000) (k := 60) (by kernel_rfl)

-- (some braid/group.pow): 4041
abbrev kFoldNamesA5 : List CV := [.int .u32 (1024)] ++ [.int .u64 (317946224)]
abbrev kFoldNamesR5 : CV := .int .u32 (440272215)
theorem kFoldNames5 : PureN Tryz.prog GS 241 kFoldNamesA5 kFoldNamesR5 :=
  pureN_runs Tryz.checked.mixed GS_closed (orcOf_ok (AllO.mem (allO_nil))) tbl_ok (orc := orcOf []) (fuel := 100000) (k := 60) (by kernel_rfl)

-- (some braid/group.pow): 3881
abbrev kFoldNamesA6 : List CV := [.int .u32 (4)] ++ [.int .u64 (1858103)]
abbrev kFoldNamesR6 : CV := .int .u32 (8742105)
theorem kFoldNames6 : PureN Tryz.prog GS 241 kFoldNamesA6 kFoldNamesR6 :=
  pureN_runs Tryz.checked.mixed GS_closed (orcOf_ok (AllO.mem (allO_nil))) tbl_ok (orc := orcOf []) (fuel := 100000) (k := 60) (by kernel_rfl)

-- (some braid/group.pow): 4001
abbrev kFoldNamesA7 : List CV := [.int .u32 (8742105)] ++ [.int .u64 (500000003)]
abbrev kFoldNamesR7 : CV := .int .u32 (1)
theorem kFoldNames7 : PureN Tryz.prog GS 241 kFoldNamesA7 kFoldNamesR7 :=
  pureN_runs Tryz.checked.mixed GS_closed (orcOf_ok (AllO.mem (allO_nil))) tbl_ok (orc := orcOf []) (fuel := 100000) (k := 60) (by kernel_rfl)

-- (some braid/group.pow): 4001
abbrev kFoldNamesA8 : List CV := [.int .u32 (440272215)] ++ [.int .u64 (500000003)]
abbrev kFoldNamesR8 : CV := .int .u32 (1)
theorem kFoldNames8 : PureN Tryz.prog GS 241 kFoldNamesA8 kFoldNamesR8 :=
  pureN_runs Tryz.checked.mixed GS_closed (orcOf_ok (AllO.mem (allO_nil))) tbl_ok (orc := orcOf []) (fuel := 100000) (k := 60) (by kernel_rfl)

-- (some braid/group.pow): 4041
abbrev kFoldNamesA13 : List CV := [.int .u32 (1024)] ++ [.int .u64 (370744955)]
abbrev kFoldNamesR13 : CV := .int .u32 (314729637)
theorem kFoldNames13 : PureN Tryz.prog GS 241 kFoldNamesA13 kFoldNamesR13 :=
  pureN_runs Tryz.checked.mixed GS_closed (orcOf_ok (AllO.mem (allO_nil))) tbl_ok (orc := orcOf []) (fuel := 100000) (k := 60) (by kernel_rfl)

-- (some braid/group.pow): 4081
abbrev kFoldNamesA14 : List CV := [.int .u32 (4)] ++ [.int .u64 (399478955)]
abbrev kFoldNamesR14 : CV := .int .u32 (614636116)
theorem kFoldNames14 : PureN Tryz.prog GS 241 kFoldNamesA14 kFoldNamesR14 :=
  pureN_runs Tryz.checked.mixed GS_closed (orcOf_ok (AllO.mem (allO_nil))) tbl_ok (orc := orcOf []) (fuel := 100000) (k := 60) (by kernel_rfl)

-- (some braid/group.pow): 4001
abbrev kFoldNamesA15 : List CV := [.int .u32 (614636116)] ++ [.int .u64 (500000003)]
abbrev kFoldNamesR15 : CV := .int .u32 (1)
theorem kFoldNames15 : PureN Tryz.prog GS 241 kFoldNamesA15 kFoldNamesR15 :=
  pureN_runs Tryz.checked.mixed GS_closed (orcOf_ok (AllO.mem (allO_nil))) tbl_ok (orc := orcOf []) (fuel := 100000) (k := 60) (by kernel_rfl)

-- (some braid/group.pow): 4001
abbrev kFoldNamesA16 : List CV := [.int .u32 (314729637)] ++ [.int .u64 (500000003)]
abbrev kFoldNamesR16 : CV := .int .u32 (1)
theorem kFoldNames16 : PureN Tryz.prog GS 241 kFoldNamesA16 kFoldNamesR16 :=
  pureN_runs Tryz.checked.mixed GS_closed (orcOf_ok (AllO.mem (allO_nil))) tbl_ok (orc := orcOf []) (fuel := 100000) (k := 60) (by kernel_rfl)

-- (some braid/group.pow): 4121
abbrev kFoldNamesA19 : List CV := [.int .u32 (1024)] ++ [.int .u64 (254801171)]
abbrev kFoldNamesR19 : CV := .int .u32 (10783311)
theorem kFoldNames19 : PureN Tryz.prog GS 241 kFoldNamesA19 kFoldNamesR19 :=
  pureN_runs Tryz.checked.mixed GS_closed (orcOf_ok (AllO.mem (allO_nil))) tbl_ok (orc := orcOf []) (fuel := 100000) (k := 60) (by kernel_rfl)

end Go.CM
