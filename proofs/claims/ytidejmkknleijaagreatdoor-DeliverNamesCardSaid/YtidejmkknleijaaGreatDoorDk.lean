/-
  Delivery: DeliverNames, carried out in parts (printed by program).
-/
import Derived.Test.YtidejmkknleijaaGreatDoorDi
set_option linter.unusedVariables false
set_option linter.unusedSimpArgs false
set_option linter.unnecessarySimpa false
namespace Go.CM
open Go Go.Proofs
set_option maxRecDepth 1000000
set_option maxHeartbeats 8000000
abbrev kDeliverNamesA20 : List CV := [ji (8)] ++ [ji (0)] ++ [.rsl 32 [rep 32 (.int .u8 0), rep 32 (.int .u8 0), rep 32 (.int .u8 0), rep 32 (.int .u8 0), rep 32 (.int .u8 0), rep 32 (.int .u8 0), rep 32 (.int .u8 0), rep 32 (.int .u8 0), rep 32 (.int .u8 0), rep 32 (.int .u8 0), rep 32 (.int .u8 0), rep 32 (.int .u8 0), rep 32 (.int .u8 0), rep 32 (.int .u8 0), rep 32 (.int .u8 0), rep 32 (.int .u8 0), rep 32 (.int .u8 0), rep 32 (.int .u8 0), rep 32 (.int .u8 0), rep 32 (.int .u8 0), rep 32 (.int .u8 0), rep 32 (.int .u8 0), rep 32 (.int .u8 0), rep 32 (.int .u8 0), rep 32 (.int .u8 0), rep 32 (.int .u8 0), rep 32 (.int .u8 0), rep 32 (.int .u8 0), rep 32 (.int .u8 0), rep 32 (.int .u8 0), rep 32 (.int .u8 0), rep 32 (.int .u8 0), rep 32 (.int .u8 0), rep 32 (.int .u8 0), rep 32 (.int .u8 0), rep 32 (.int .u8 0), rep 32 (.int .u8 0), rep 32 (.int .u8 0), rep 32 (.int .u8 0), rep 32 (.int .u8 0), rep 32 (.int .u8 0), rep 32 (.int .u8 0), rep 32 (.int .u8 0), rep 32 (.int .u8 0), rep 32 (.int .u8 0), rep 32 (.int .u8 0), rep 32 (.int .u8 0), rep 32 (.int .u8 0), rep 32 (.int .u8 0), rep 32 (.int .u8 0), rep 32 (.int .u8 0), rep 32 (.int .u8 0), rep 32 (.int .u8 0), rep 32 (.int .u8 0), rep 32 (.int .u8 0), rep 32 (.int .u8 0), rep 32 (.int .u8 0), rep 32 (.int .u8 0), rep 32 (.int .u8 0), rep 32 (.int .u8 0)]] ++ [.rsl 1 (jr (rep 200 (.bool false)))]
abbrev kDeliverNamesR20 : CV := .tu ([.ag ([ji (0)] ++ [.nilS] ++ [.bool false])] ++ [ji (0)])
theorem kDeliverNames20 : PureN Tryz.prog GS 27 kDeliverNamesA20 kDeliverNamesR20 :=
 pureN_runs (P := Tryz.prog) Tryz.checked.mixed GS_closed (orcOf_ok (AllO.mem (allO_nil))) tbl_ok (orc := orcOf []) (fuel := 100000) (k := 60) (by kernel_rfl)
end Go.CM
