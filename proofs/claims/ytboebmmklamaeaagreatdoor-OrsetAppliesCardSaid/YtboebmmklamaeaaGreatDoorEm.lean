/-
  Sets of tags: the examples of the chapter, carried out (printed by program).
-/
import Derived.Test.YtboebmmklamaeaaGreatDoorEl
namespace Go.CM
open Go Go.Proofs
set_option linter.unusedVariables false
set_option maxRecDepth 1000000
set_option maxHeartbeats 8000000
abbrev kaliveA0 : List CV := [.ag ([.int .u32 (1024)] ++ [.rsl 32 []] ++ [.int .u64 (1)] ++ [.int .u8 2] ++ [.str [107]] ++ [.int .u8 0] ++ [ji (0)] ++ [.int .u64 (0)] ++ [.str []] ++ [.int .u32 (279904696)] ++ [.int .u32 (405231647)])]
abbrev kaliveR0 : CV := ji (0)
theorem kalive0 : PureN Tryz.prog GS 61 kaliveA0 kaliveR0 :=
  pureN_runs (P := Tryz.prog) Tryz.checked.mixed GS_closed (orcOf_ok (AllO.mem (allO_cons refOfO_ok (allO_nil)))) tbl_ok (orc := orcOf [refOfO]) (fuel := 100000) (k := 60) (by kernel_rfl)
abbrev kaliveA1 : List CV := [.ag ([.int .u32 (1024)] ++ [.rsl 32 [jb [229, 124, 185, 107, 70, 231, 131, 233, 115, 130, 99, 242, 254, 26, 152, 21, 36, 103, 69, 47, 253, 120, 128, 100, 162, 223, 201, 56, 16, 173, 61, 62]]] ++ [.int .u64 (2)] ++ [.int .u8 3] ++ [.str [107]] ++ [.int .u8 0] ++ [ji (0)] ++ [.int .u64 (0)] ++ [.str []] ++ [.int .u32 (222953725)] ++ [.int .u32 (492791184)])]
abbrev kaliveR1 : CV := ji (0)
theorem kalive1 : PureN Tryz.prog GS 61 kaliveA1 kaliveR1 :=
  pureN_runs (P := Tryz.prog) Tryz.checked.mixed GS_closed (orcOf_ok (AllO.mem (allO_cons refOfO_ok (allO_nil)))) tbl_ok (orc := orcOf [refOfO]) (fuel := 100000) (k := 60) (by kernel_rfl)
abbrev kaliveA2 : List CV := [.ag ([.int .u32 (1024)] ++ [.rsl 32 []] ++ [.int .u64 (3)] ++ [.int .u8 2] ++ [.str [107]] ++ [.int .u8 0] ++ [ji (0)] ++ [.int .u64 (0)] ++ [.str []] ++ [.int .u32 (466031157)] ++ [.int .u32 (154584838)])]
abbrev kaliveR2 : CV := ji (0)
theorem kalive2 : PureN Tryz.prog GS 61 kaliveA2 kaliveR2 :=
  pureN_runs (P := Tryz.prog) Tryz.checked.mixed GS_closed (orcOf_ok (AllO.mem (allO_cons refOfO_ok (allO_nil)))) tbl_ok (orc := orcOf [refOfO]) (fuel := 100000) (k := 60) (by kernel_rfl)
abbrev kaliveA3 : List CV := [.ag ([.rsl 32 [jb [118, 22, 95, 112, 174, 4, 111, 107, 240, 22, 10, 146, 23, 178, 112, 45, 83, 205, 202, 96, 101, 37, 118, 128, 7, 255, 191, 103, 167, 230, 185, 199], jb [229, 124, 185, 107, 70, 231, 131, 233, 115, 130, 99, 242, 254, 26, 152, 21, 36, 103, 69, 47, 253, 120, 128, 100, 162, 223, 201, 56, 16, 173, 61, 62], jb [236, 1, 228, 215, 173, 162, 212, 26, 73, 9, 238, 81, 3, 24, 43, 149, 66, 163, 18, 250, 15, 204, 37, 92, 161, 241, 167, 131, 64, 202, 126, 40]]] ++ [.rsl 11 [[.int .u32 (1024)] ++ [.rsl 32 []] ++ [.int .u64 (3)] ++ [.int .u8 2] ++ [.str [107]] ++ [.int .u8 0] ++ [ji (0)] ++ [.int .u64 (0)] ++ [.str []] ++ [.int .u32 (466031157)] ++ [.int .u32 (154584838)], [.int .u32 (1024)] ++ [.rsl 32 []] ++ [.int .u64 (1)] ++ [.int .u8 2] ++ [.str [107]] ++ [.int .u8 0] ++ [ji (0)] ++ [.int .u64 (0)] ++ [.str []] ++ [.int .u32 (279904696)] ++ [.int .u32 (405231647)], [.int .u32 (1024)] ++ [.rsl 32 [jb [229, 124, 185, 107, 70, 231, 131, 233, 115, 130, 99, 242, 254, 26, 152, 21, 36, 103, 69, 47, 253, 120, 128, 100, 162, 223, 201, 56, 16, 173, 61, 62]]] ++ [.int .u64 (2)] ++ [.int .u8 3] ++ [.str [107]] ++ [.int .u8 0] ++ [ji (0)] ++ [.int .u64 (0)] ++ [.str []] ++ [.int .u32 (222953725)] ++ [.int .u32 (492791184)]]])]
abbrev kaliveR3 : CV := ji (0)
theorem kalive3 : PureN Tryz.prog GS 55 kaliveA3 kaliveR3 :=
  pureN_runs (P := Tryz.prog) Tryz.checked.mixed GS_closed (orcOf_ok (AllO.mem (allO_cons piecesO_ok (allO_cons sumO_ok (allO_cons powO_ok (allO_nil)))))) tbl_ok (orc := orcOf [piecesO, sumO, powO]) (fuel := 100000) (k := 60) (by kernel_rfl)
abbrev kaliveA4 : List CV := [.ag ([.rsl 32 [jb [229, 124, 185, 107, 70, 231, 131, 233, 115, 130, 99, 242, 254, 26, 152, 21, 36, 103, 69, 47, 253, 120, 128, 100, 162, 223, 201, 56, 16, 173, 61, 62], jb [236, 1, 228, 215, 173, 162, 212, 26, 73, 9, 238, 81, 3, 24, 43, 149, 66, 163, 18, 250, 15, 204, 37, 92, 161, 241, 167, 131, 64, 202, 126, 40]]] ++ [.rsl 11 [[.int .u32 (1024)] ++ [.rsl 32 []] ++ [.int .u64 (1)] ++ [.int .u8 2] ++ [.str [107]] ++ [.int .u8 0] ++ [ji (0)] ++ [.int .u64 (0)] ++ [.str []] ++ [.int .u32 (279904696)] ++ [.int .u32 (405231647)], [.int .u32 (1024)] ++ [.rsl 32 [jb [229, 124, 185, 107, 70, 231, 131, 233, 115, 130, 99, 242, 254, 26, 152, 21, 36, 103, 69, 47, 253, 120, 128, 100, 162, 223, 201, 56, 16, 173, 61, 62]]] ++ [.int .u64 (2)] ++ [.int .u8 3] ++ [.str [107]] ++ [.int .u8 0] ++ [ji (0)] ++ [.int .u64 (0)] ++ [.str []] ++ [.int .u32 (222953725)] ++ [.int .u32 (492791184)]]])]
abbrev kaliveR4 : CV := ji (0)
theorem kalive4 : PureN Tryz.prog GS 55 kaliveA4 kaliveR4 :=
  pureN_runs (P := Tryz.prog) Tryz.checked.mixed GS_closed (orcOf_ok (AllO.mem (allO_cons piecesO_ok (allO_cons sumO_ok (allO_cons powO_ok (allO_nil)))))) tbl_ok (orc := orcOf [piecesO, sumO, powO]) (fuel := 100000) (k := 60) (by kernel_rfl)
theorem kalive_run : CallP Tryz.prog GS 27 [] [] (c := ⟨fun r _ => r = .bool true⟩) :=
  callP_of_runs (orcOf_ok (AllO.mem (allO_cons refOfO_ok (allO_cons (pickO_ok (allK_cons kalive3 (allK_cons kalive4 (allK_nil)))) (allO_cons (pickO_ok (allK_cons kalive0 (allK_cons kalive1 (allK_cons kalive2 (allK_nil))))) (allO_nil)))))) tbl_ok (orc := orcOf [refOfO, (55, true, pickA [(kaliveA3, kaliveR3), (kaliveA4, kaliveR4)]), (61, true, pickA [(kaliveA0, kaliveR0), (kaliveA1, kaliveR1), (kaliveA2, kaliveR2)])]) (fuel := 100000) (k := 60) (by kernel_rfl)
theorem alive_ok : PureC Tryz.prog GS 27 [] (.bool true) :=
  pure_of Tryz.checked.mixed GS_closed (by
    obtain ⟨r, l, h1, h2, h3⟩ := kalive_run
    exact ⟨r, l, h1, h2, rd_eq h3 rfl⟩)
end Go.CM
