/-
  Sets of tags: OrsetNames, carried out in parts (printed by program).
-/
import Derived.Test.YtboebmmklamaeaaGreatDoorKi
import Derived.Test.YtboebmmklamaeaaGreatDoorKl
import Derived.Test.YtboebmmklamaeaaGreatDoorKm
import Derived.Test.YtboebmmklamaeaaGreatDoorKo
import Derived.Test.YtboebmmklamaeaaGreatDoorKp
namespace Go.CM
open Go Go.Proofs
set_option linter.unusedVariables false
set_option maxRecDepth 1000000
set_option maxHeartbeats 8000000

theorem kOrsetNames_run : CallP Tryz.prog GS 8 [] [] (c := ⟨fun r _ => r = .bool true⟩) :=
  callP_of_runs (orcOf_ok (AllO.mem (allO_cons sumO_ok (allO_cons (pickO_ok (allK_cons kOrsetNames34 (allK_nil))) (allO_cons (pickO_ok (allK_cons kOrsetNames27 (allK_nil))) (allO_cons (pickO_ok (allK_cons kOrsetNames2 (allK_cons kOrsetNames3 (allK_nil)))) (allO_cons (pickO_ok (allK_cons kOrsetNames33 (allK_nil))) (allO_cons (pickO_ok (allK_cons kOrsetNames29 (allK_cons kOrsetNames32 (allK_nil)))) (allO_cons (pickO_ok (allK_cons kOrsetNames1 (allK_nil))) (allO_cons (pickO_ok (allK_cons kOrsetNames30 (allK_nil))) (allO_nil))))))))))) tbl_ok (orc := orcOf [sumO, (20, true, pickA [(kOrsetNamesA34, kOrsetNamesR34)]), (27, true, pickA [(kOrsetNamesA27, kOrsetNamesR27)]), (11, true, pickA [(kOrsetNamesA2, kOrsetNamesR2), (kOrsetNamesA3, kOrsetNamesR3)]), (37, true, pickA [(kOrsetNamesA33, kOrsetNamesR33)]), (71, true, pickA [(kOrsetNamesA29, kOrsetNamesR29), (kOrsetNamesA32, kOrsetNamesR32)]), (18, true, pickA [(kOrsetNamesA1, kOrsetNamesR1)]), (72, true, pickA [(kOrsetNamesA30, kOrsetNamesR30)])]) (fuel := 100000) (k := 60) (by kernel_rfl)

end Go.CM
