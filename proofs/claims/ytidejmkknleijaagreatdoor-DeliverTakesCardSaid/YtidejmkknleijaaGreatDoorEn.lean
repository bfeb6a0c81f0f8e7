/-
  Delivery: the examples of the chapter, carried out (printed by program).
-/
import Derived.Test.YtidejmkknleijaaGreatDoorEk
import Derived.Test.YtidejmkknleijaaGreatDoorEl
import Derived.Test.YtidejmkknleijaaGreatDoorEm
set_option linter.unusedVariables false
set_option linter.unusedSimpArgs false
set_option linter.unnecessarySimpa false
namespace Go.CM
open Go Go.Proofs
set_option maxRecDepth 1000000
set_option maxHeartbeats 8000000
theorem kalive_run : CallP Tryz.prog GS 29 [] [] (c := ⟨fun r _ => r = .bool true⟩) :=
 callP_of_runs (orcOf_ok (AllO.mem (allO_cons verdO_ok (allO_cons sumO_ok (allO_cons (pickO_ok (allK_cons kalive19 (allK_nil))) (allO_cons (pickO_ok (allK_cons kalive18 (allK_nil))) (allO_cons (pickO_ok (allK_cons kalive15 (allK_nil))) (allO_cons (pickO_ok (allK_cons kalive3 (allK_cons kalive8 (allK_cons kalive14 (allK_nil))))) (allO_cons (pickO_ok (allK_cons kalive2 (allK_cons kalive7 (allK_cons kalive13 (allK_nil))))) (allO_cons (pickO_ok (allK_cons kalive6 (allK_cons kalive12 (allK_nil)))) (allO_cons (pickO_ok (allK_cons kalive1 (allK_cons kalive5 (allK_cons kalive10 (allK_nil))))) (allO_cons (pickO_ok (allK_cons kalive0 (allK_cons kalive4 (allK_cons kalive9 (allK_nil))))) (allO_nil))))))))))))) tbl_ok (orc := orcOf [verdO, sumO, (25, true, pickA [(kaliveA19, kaliveR19)]), (60, true, pickA [(kaliveA18, kaliveR18)]), (27, true, pickA [(kaliveA15, kaliveR15)]), (89, true, pickA [(kaliveA3, kaliveR3), (kaliveA8, kaliveR8), (kaliveA14, kaliveR14)]), (67, true, pickA [(kaliveA2, kaliveR2), (kaliveA7, kaliveR7), (kaliveA13, kaliveR13)]), (134, true, pickA [(kaliveA6, kaliveR6), (kaliveA12, kaliveR12)]), (84, true, pickA [(kaliveA1, kaliveR1), (kaliveA5, kaliveR5), (kaliveA10, kaliveR10)]), (54, true, pickA [(kaliveA0, kaliveR0), (kaliveA4, kaliveR4), (kaliveA9, kaliveR9)])]) (fuel := 100000) (k := 60) (by kernel_rfl)
theorem exs_ok : PureC Tryz.prog GS 29 [] (.bool true) :=
 pure_of Tryz.checked.mixed GS_closed (by
  obtain ⟨r, l, h1, h2, h3⟩ := kalive_run
  exact ⟨r, l, h1, h2, rd_eq h3 rfl⟩)
end Go.CM
