/-
  Sets of tags: OrsetNames, carried out in parts (printed by program).
-/
import Derived.Test.YtboebmmklamaeaaGreatDoorKi
import Derived.Test.YtboebmmklamaeaaGreatDoorKl
import Derived.Test.YtboebmmklamaeaaGreatDoorKn
namespace Go.CM
open Go Go.Proofs
set_option linter.unusedVariables false
set_option maxRecDepth 1000000
set_option maxHeartbeats 8000000

-- (some braid/braidlaw21.alive): 12288
abbrev kOrsetNamesA27 : List CV := []
abbrev kOrsetNamesR27 : CV := .bool true
theorem kOrsetNames27 : PureN Tryz.prog GS 27 kOrsetNamesA27 kOrsetNamesR27 :=
  pureN_runs Tryz.checked.mixed GS_closed (orcOf_ok (AllO.mem (allO_cons refOfO_ok (allO_cons (pickO_ok (allK_cons kOrsetNames25 (allK_cons kOrsetNames26 (allK_nil)))) (allO_cons (pickO_ok (allK_cons kOrsetNames4 (allK_cons kOrsetNames5 (allK_cons kOrsetNames6 (allK_nil))))) (allO_nil)))))) tbl_ok (orc := orcOf [refOfO, (55, true, pickA [(kOrsetNamesA25, kOrsetNamesR25), (kOrsetNamesA26, kOrsetNamesR26)]), (61, true, pickA [(kOrsetNamesA4, kOrsetNamesR4), (kOrsetNamesA5, kOrsetNamesR5), (kOrsetNamesA6, kOrsetNamesR6)])]) (fuel := 100000) (k := 60) (by kernel_rfl)

end Go.CM
