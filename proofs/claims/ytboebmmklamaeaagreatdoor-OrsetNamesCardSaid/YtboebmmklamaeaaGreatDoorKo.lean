/-
  Sets of tags: OrsetNames, carried out in parts (printed by program).
-/
import Derived.Test.YtboebmmklamaeaaGreatDoorKi
import Derived.Test.YtboebmmklamaeaaGreatDoorKk
import Derived.Test.YtboebmmklamaeaaGreatDoorKl
import Derived.Test.YtboebmmklamaeaaGreatDoorKm
import Derived.Test.YtboebmmklamaeaaGreatDoorKn
namespace Go.CM
open Go Go.Proofs
set_option linter.unusedVariables false
set_option maxRecDepth 1000000
set_option maxHeartbeats 8000000

-- (some braid/braidlaw21.alive): 12288
abbrev kOrsetNamesA27 : List CV := []
abbrev kOrsetNamesR27 : CV := .bool true
theorem kOrsetNames27 : PureN Tryz.prog GS 27 kOrsetNamesA27 kOrsetNamesR27 :=
  pureN_runs Tryz.checked.mixed GS_closed (orcOf_ok (AllO.mem (allO_cons refOfO_ok (allO_cons (pickO_ok (allK_cons kOrsetNames25 (allK_cons kOrsetNames26 (allK_nil)))) (allO_cons (pickO_ok (allK_cons kOrsetNames4 (allK_cons kOrsetNames5 (allK_cons kOrsetNames6 (allK_nil))))) (allO_nil)))))) tbl_ok (orc := orcOf [refOfO, (55, true, pickA [(kOrsetNamesA25, kOrsetNamesR25), (kOrsetNamesA26, kOrsetNamesR26)]), (61, true, pickA [(kOrsetNamesA4, kOrsetNamesR4), (kOrsetNamesA5, kOrsetNamesR5), (kOrsetNamesA6, kOrsetNamesR6)])]) (fuel := 100000) (k := 60) (by kernel_rfl)

theorem kOrsetNames_run : CallP Tryz.prog GS 8 [] [] (c := ⟨fun r _ => r = .bool true⟩) :=
  callP_of_runs (orcOf_ok (AllO.mem (allO_cons sumO_ok (allO_cons refOfO_ok (allO_cons (pickO_ok (allK_cons kOrsetNames27 (allK_nil))) (allO_cons (pickO_ok (allK_cons kOrsetNames2 (allK_cons kOrsetNames3 (allK_nil)))) (allO_cons (pickO_ok (allK_cons kOrsetNames1 (allK_nil))) (allO_cons (pickO_ok (allK_cons kOrsetNames0 (allK_nil))) (allO_nil))))))))) tbl_ok (orc := orcOf [sumO, refOfO, (27, true, pickA [(kOrsetNamesA27, kOrsetNamesR27)]), (11, true, pickA [(kOrsetNamesA2, kOrsetNamesR2), (kOrsetNamesA3, kOrsetNamesR3)]), (18, true, pickA [(kOrsetNamesA1, kOrsetNamesR1)]), (183, true, pickA [(kOrsetNamesA0, kOrsetNamesR0)])]) (fuel := 100000) (k := 60) (by kernel_rfl)

end Go.CM
