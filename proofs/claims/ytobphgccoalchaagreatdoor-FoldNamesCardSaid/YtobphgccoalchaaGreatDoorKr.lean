/-
  Folds: FoldNames, carried out in parts (printed by program).
-/
import Derived.Test.YtobphgccoalchaaGreatDoorKi
import Derived.Test.YtobphgccoalchaaGreatDoorKn
import Derived.Test.YtobphgccoalchaaGreatDoorKo
import Derived.Test.YtobphgccoalchaaGreatDoorKp
import Derived.Test.YtobphgccoalchaaGreatDoorKq
namespace Go.CM
open Go Go.Proofs
set_option linter.unusedVariables false
set_option maxRecDepth 1000000
set_option maxHeartbeats 8000000

theorem kFoldNames_run : CallP Tryz.prog GS 6 [] [] (c := ⟨fun r _ => r = .bool true⟩) :=
  callP_of_runs (orcOf_ok (AllO.mem (allO_cons refOfO_ok (allO_cons (pickO_ok (allK_cons kFoldNames31 (allK_nil))) (allO_cons (pickO_ok (allK_cons kFoldNames44 (allK_nil))) (allO_cons (pickO_ok (allK_cons kFoldNames43 (allK_nil))) (allO_cons (pickO_ok (allK_cons kFoldNames26 (allK_cons kFoldNames41 (allK_cons kFoldNames28 (allK_nil))))) (allO_cons (pickO_ok (allK_cons kFoldNames42 (allK_nil))) (allO_cons (pickO_ok (allK_cons kFoldNames25 (allK_cons kFoldNames27 (allK_nil)))) (allO_cons (pickO_ok (allK_cons kFoldNames38 (allK_nil))) (allO_cons (pickO_ok (allK_cons kFoldNames33 (allK_cons kFoldNames35 (allK_cons kFoldNames37 (allK_nil))))) (allO_nil)))))))))))) tbl_ok (orc := orcOf [refOfO, (9, true, pickA [(kFoldNamesA31, kFoldNamesR31)]), (98, true, pickA [(kFoldNamesA44, kFoldNamesR44)]), (97, true, pickA [(kFoldNamesA43, kFoldNamesR43)]), (53, true, pickA [(kFoldNamesA26, kFoldNamesR26), (kFoldNamesA41, kFoldNamesR41), (kFoldNamesA28, kFoldNamesR28)]), (29, true, pickA [(kFoldNamesA42, kFoldNamesR42)]), (52, true, pickA [(kFoldNamesA25, kFoldNamesR25), (kFoldNamesA27, kFoldNamesR27)]), (32, true, pickA [(kFoldNamesA38, kFoldNamesR38)]), (73, true, pickA [(kFoldNamesA33, kFoldNamesR33), (kFoldNamesA35, kFoldNamesR35), (kFoldNamesA37, kFoldNamesR37)])]) (fuel := 100000) (k := 60) (by kernel_rfl)

end Go.CM
