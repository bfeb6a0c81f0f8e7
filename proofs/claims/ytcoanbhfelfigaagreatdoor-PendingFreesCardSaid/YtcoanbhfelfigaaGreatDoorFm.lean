/-
  Buffers of sleepers: the examples of the chapter, carried out (printed by program).
-/
import Derived.Test.YtcoanbhfelfigaaGreatDoorFl
namespace Go.CM
open Go Go.Proofs
set_option linter.unusedVariables false
set_option maxRecDepth 1000000
set_option maxHeartbeats 8000000
abbrev kaliveA0 : List CV := [.ag ([ji (2)] ++ [.rsl 45 [[ji (3)] ++ [.int .u32 (1024)] ++ [.rsl 32 [jb [1, 0, 0, 0, 0, 0, 0, 0, 0, 0, 0, 0, 0, 0, 0, 0, 0, 0, 0, 0, 0, 0, 0, 0, 0, 0, 0, 0, 0, 0, 0, 0], jb [2, 0, 0, 0, 0, 0, 0, 0, 0, 0, 0, 0, 0, 0, 0, 0, 0, 0, 0, 0, 0, 0, 0, 0, 0, 0, 0, 0, 0, 0, 0, 0]]] ++ [.int .u64 (0)] ++ [.int .u8 2] ++ [.str [97]] ++ [.int .u8 0] ++ [ji (0)] ++ [.int .u64 (0)] ++ [.str []] ++ [.int .u32 (192820109)] ++ [.int .u32 (137395584)] ++ jb [98, 195, 47, 252, 181, 18, 255, 181, 88, 126, 145, 198, 98, 104, 127, 146, 82, 253, 244, 154, 92, 167, 129, 172, 180, 41, 142, 222, 56, 247, 172, 11] ++ [.rsl 32 [jb [1, 0, 0, 0, 0, 0, 0, 0, 0, 0, 0, 0, 0, 0, 0, 0, 0, 0, 0, 0, 0, 0, 0, 0, 0, 0, 0, 0, 0, 0, 0, 0], jb [2, 0, 0, 0, 0, 0, 0, 0, 0, 0, 0, 0, 0, 0, 0, 0, 0, 0, 0, 0, 0, 0, 0, 0, 0, 0, 0, 0, 0, 0, 0, 0]]]]])] ++ [ji (2)] ++ [.ag ([.int .u32 (1024)] ++ [.rsl 32 [jb [1, 0, 0, 0, 0, 0, 0, 0, 0, 0, 0, 0, 0, 0, 0, 0, 0, 0, 0, 0, 0, 0, 0, 0, 0, 0, 0, 0, 0, 0, 0, 0], jb [2, 0, 0, 0, 0, 0, 0, 0, 0, 0, 0, 0, 0, 0, 0, 0, 0, 0, 0, 0, 0, 0, 0, 0, 0, 0, 0, 0, 0, 0, 0, 0]]] ++ [.int .u64 (0)] ++ [.int .u8 2] ++ [.str [98]] ++ [.int .u8 0] ++ [ji (0)] ++ [.int .u64 (0)] ++ [.str []] ++ [.int .u32 (329141704)] ++ [.int .u32 (379372429)])] ++ [.rsl 32 [jb [1, 0, 0, 0, 0, 0, 0, 0, 0, 0, 0, 0, 0, 0, 0, 0, 0, 0, 0, 0, 0, 0, 0, 0, 0, 0, 0, 0, 0, 0, 0, 0], jb [2, 0, 0, 0, 0, 0, 0, 0, 0, 0, 0, 0, 0, 0, 0, 0, 0, 0, 0, 0, 0, 0, 0, 0, 0, 0, 0, 0, 0, 0, 0, 0]]]
abbrev kaliveR0 : CV := .tu ([.ag ([ji (0)] ++ [.nilS])] ++ [ji (32)])
theorem kalive0 : PureN Tryz.prog GS 22 kaliveA0 kaliveR0 :=
  pureN_runs (P := Tryz.prog) Tryz.checked.mixed GS_closed (orcOf_ok (AllO.mem (allO_cons sumO_ok (allO_cons powO_ok (allO_nil))))) tbl_ok (orc := orcOf [sumO, powO]) (fuel := 100000) (k := 60) (by kernel_rfl)
theorem kalive_run : CallP Tryz.prog GS 8 [] [] (c := ⟨fun r _ => r = .bool true⟩) :=
  callP_of_runs (orcOf_ok (AllO.mem (allO_cons sumO_ok (allO_cons powO_ok (allO_cons refOfO_ok (allO_cons (pickO_ok (allK_cons kalive0 (allK_nil))) (allO_nil))))))) tbl_ok (orc := orcOf [sumO, powO, refOfO, (22, true, pickA [(kaliveA0, kaliveR0)])]) (fuel := 100000) (k := 60) (by kernel_rfl)
theorem alive_ok : PureC Tryz.prog GS 8 [] (.bool true) :=
  pure_of Tryz.checked.mixed GS_closed (by
    obtain ⟨r, l, h1, h2, h3⟩ := kalive_run
    exact ⟨r, l, h1, h2, rd_eq h3 rfl⟩)
end Go.CM
