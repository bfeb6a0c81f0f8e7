/-
  Delivery: DeliverNames, carried out in parts (printed by program).
-/
import Derived.Test.YtidejmkknleijaaGreatDoorDi
import Derived.Test.YtidejmkknleijaaGreatDoorDj
import Derived.Test.YtidejmkknleijaaGreatDoorDk
import Derived.Test.YtidejmkknleijaaGreatDoorDl
set_option linter.unusedVariables false
set_option linter.unusedSimpArgs false
set_option linter.unnecessarySimpa false
namespace Go.CM
open Go Go.Proofs
set_option maxRecDepth 1000000
set_option maxHeartbeats 8000000
theorem kDeliverNames_run : CallP Tryz.prog GS 4 [] [] (c := ⟨fun r _ => r = .bool true⟩) :=
 callP_of_runs (orcOf_ok (AllO.mem (allO_cons verdO_ok (allO_cons sumO_ok (allO_cons (pickO_ok (allK_cons kDeliverNames24 (allK_nil))) (allO_cons (pickO_ok (allK_cons kDeliverNames20 (allK_cons kDeliverNames21 (allK_nil)))) (allO_cons (pickO_ok (allK_cons kDeliverNames6 (allK_cons kDeliverNames12 (allK_cons kDeliverNames16 (allK_nil))))) (allO_cons (pickO_ok (allK_cons kDeliverNames19 (allK_nil))) (allO_cons (pickO_ok (allK_cons kDeliverNames18 (allK_nil))) (allO_cons (pickO_ok (allK_cons kDeliverNames17 (allK_nil))) (allO_cons (pickO_ok (allK_cons kDeliverNames3 (allK_cons kDeliverNames8 (allK_cons kDeliverNames14 (allK_nil))))) (allO_cons (pickO_ok (allK_cons kDeliverNames2 (allK_cons kDeliverNames7 (allK_cons kDeliverNames13 (allK_nil))))) (allO_cons (pickO_ok (allK_cons kDeliverNames1 (allK_cons kDeliverNames5 (allK_cons kDeliverNames10 (allK_nil))))) (allO_cons (pickO_ok (allK_cons kDeliverNames0 (allK_cons kDeliverNames4 (allK_cons kDeliverNames9 (allK_nil))))) (allO_nil))))))))))))))) tbl_ok (orc := orcOf [verdO, sumO, (29, true, pickA [(kDeliverNamesA24, kDeliverNamesR24)]), (27, true, pickA [(kDeliverNamesA20, kDeliverNamesR20), (kDeliverNamesA21, kDeliverNamesR21)]), (134, true, pickA [(kDeliverNamesA6, kDeliverNamesR6), (kDeliverNamesA12, kDeliverNamesR12), (kDeliverNamesA16, kDeliverNamesR16)]), (17, true, pickA [(kDeliverNamesA19, kDeliverNamesR19)]), (25, true, pickA [(kDeliverNamesA18, kDeliverNamesR18)]), (60, true, pickA [(kDeliverNamesA17, kDeliverNamesR17)]), (89, true, pickA [(kDeliverNamesA3, kDeliverNamesR3), (kDeliverNamesA8, kDeliverNamesR8), (kDeliverNamesA14, kDeliverNamesR14)]), (67, true, pickA [(kDeliverNamesA2, kDeliverNamesR2), (kDeliverNamesA7, kDeliverNamesR7), (kDeliverNamesA13, kDeliverNamesR13)]), (84, true, pickA [(kDeliverNamesA1, kDeliverNamesR1), (kDeliverNamesA5, kDeliverNamesR5), (kDeliverNamesA10, kDeliverNamesR10)]), (54, true, pickA [(kDeliverNamesA0, kDeliverNamesR0), (kDeliverNamesA4, kDeliverNamesR4), (kDeliverNamesA9, kDeliverNamesR9)])]) (fuel := 100000) (k := 60) (by kernel_rfl)
end Go.CM
