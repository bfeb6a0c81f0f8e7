/-
  The code of the functions, without types, as the canonical machine reads it (printed by program).
-/
import Derived.Test.YtginfboibgolaaaKf
import Derived.Test.YtginfboibgolaaaRows
import Derived.ProofKit
import Derived.LaidMore
import Derived.MakeChecks
import Derived.Lib.DecodeN
namespace Go.CM
open Go Go.Proofs
set_option maxRecDepth 100000
/-! NOT COMPILED: F2 gosem.cut.init -/
/-! F3 braid/braidlaw28.CallsTells -/
def c3 : Cd := (.seq (.reg [sm 0 6 (.box (tm 0)),
  sm 1 7 (.box (tm 1)),
  sm 2 9 (.box (tm 3)),
  sm 3 12 (.mv (.const (.bool false)))])
  (.seq (.seq (.reg [sm 0 29 (.ldA 55 (tm 7)),
  sc 1 30 4 [(tm 29)],
  sv 2 31 30,
  sg 3 32 31 false (.ldA 10 (tm 6)),
  sg 4 33 31 false (.bld ([.int .u8 0, .nilS, .int .u8 0, .str [], .int .u8 0, .int .i64 0, .int .u64 0, .str [], .int .u64 0, .str [], .int .u8 0, .int .i64 0, .nilS, .int .i64 0] ++ rep 33 (.int .u8 0) ++ [.int .i64 0, .bool false, .int .u8 0, .int .i64 0, .int .u64 0, .str [], .nilS, .int .i64 0]) [(0, 10, (tm 32))]),
  ⟨5, (some 34), (some ((some 31), false)), .callF 4 [(tm 33)], [], false⟩,
  sm 6 35 (.pick (tm 31) (.const (.bool true)) (tm 34))])
  (.cond (tm 35) (.seq (.reg [sm 0 12 (.mv (.const (.bool true)))])
  .ret) .skip))
  (.seq (.reg [sm 0 37 (.ldA 10 (tm 6)),
  sc 1 38 5 [(tm 37)],
  sv 2 36 38,
  sm 3 39 (.ext (tm 36) 0),
  sm 4 40 (.ext (tm 36) 1),
  sm 5 13 (.alloc ([.int .u8 0, .nilS, .int .u8 0, .str [], .int .u8 0, .int .i64 0, .int .u64 0, .str [], .int .u64 0, .str [], .int .u8 0, .int .i64 0, .nilS, .int .i64 0] ++ rep 33 (.int .u8 0) ++ [.int .i64 0, .bool false, .int .u8 0, .int .i64 0, .int .u64 0, .str [], .nilS, .int .i64 0])),
  se 6 (.st 55 (tm 13) (tm 39)),
  sv 7 14 40])
  (.seq (.reg [sm 0 42 (.ldA 10 (tm 6)),
  sc 1 43 6 [(tm 42)],
  sv 2 41 43,
  sm 3 44 (.ext (tm 41) 0),
  sm 4 45 (.ext (tm 41) 1),
  sm 5 15 (.alloc ([.int .u8 0, .nilS, .int .u8 0, .str [], .int .u8 0, .int .i64 0, .int .u64 0, .str [], .int .u64 0, .str [], .int .u8 0, .int .i64 0, .nilS, .int .i64 0] ++ rep 33 (.int .u8 0) ++ [.int .i64 0, .bool false, .int .u8 0, .int .i64 0, .int .u64 0, .str [], .nilS, .int .i64 0])),
  se 6 (.st 55 (tm 15) (tm 44)),
  sv 7 16 45])
  (.seq (.reg [sm 0 47 (.ldA 55 (tm 7)),
  sv 1 48 2,
  sm 2 49 (.ldA 32 (tm 9)),
  sv 3 50 5,
  sc 4 51 7 [(tm 47), (tm 48), (tm 49), (tm 50)],
  sv 5 46 51,
  sm 6 52 (.ext (tm 46) 0),
  sm 7 53 (.ext (tm 46) 1),
  sm 8 17 (.alloc ([.int .u8 0, .nilS, .int .u8 0, .str [], .int .u8 0, .int .i64 0, .int .u64 0, .str [], .int .u64 0, .str [], .int .u8 0, .int .i64 0, .nilS, .int .i64 0] ++ rep 33 (.int .u8 0) ++ [.int .i64 0, .bool false, .int .u8 0, .int .i64 0, .int .u64 0, .str [], .nilS, .int .i64 0])),
  se 9 (.st 55 (tm 17) (tm 52)),
  sv 10 18 53])
  (.seq (.reg [sm 0 55 (.ldA 55 (tm 7)),
  sv 1 56 2,
  sm 2 57 (.ldA 32 (tm 9)),
  sv 3 58 5,
  sc 4 59 8 [(tm 55), (tm 56), (tm 57), (tm 58)],
  sv 5 54 59,
  sm 6 60 (.ext (tm 54) 0),
  sm 7 61 (.ext (tm 54) 1),
  sm 8 19 (.alloc ([.int .u8 0, .nilS, .int .u8 0, .str [], .int .u8 0, .int .i64 0, .int .u64 0, .str [], .int .u64 0, .str [], .int .u8 0, .int .i64 0, .nilS, .int .i64 0] ++ rep 33 (.int .u8 0) ++ [.int .i64 0, .bool false, .int .u8 0, .int .i64 0, .int .u64 0, .str [], .nilS, .int .i64 0])),
  se 9 (.st 55 (tm 19) (tm 60)),
  sv 10 20 61])
  (.seq (.reg [sm 0 63 (.ldA 55 (tm 7)),
  sv 1 64 4,
  sv 2 65 5,
  sc 3 66 9 [(tm 63), (tm 64), (tm 65)],
  sv 4 62 66,
  sm 5 67 (.ext (tm 62) 0),
  sm 6 68 (.ext (tm 62) 1),
  sm 7 21 (.alloc ([.int .u8 0, .nilS, .int .u8 0, .str [], .int .u8 0, .int .i64 0, .int .u64 0, .str [], .int .u64 0, .str [], .int .u8 0, .int .i64 0, .nilS, .int .i64 0] ++ rep 33 (.int .u8 0) ++ [.int .i64 0, .bool false, .int .u8 0, .int .i64 0, .int .u64 0, .str [], .nilS, .int .i64 0])),
  se 8 (.st 55 (tm 21) (tm 67)),
  sv 9 22 68])
  (.seq (.reg [sm 0 70 (.ldA 55 (tm 7)),
  sv 1 71 4,
  sv 2 72 5,
  sc 3 73 10 [(tm 70), (tm 71), (tm 72)],
  sv 4 69 73,
  sm 5 74 (.ext (tm 69) 0),
  sm 6 75 (.ext (tm 69) 1),
  sm 7 23 (.alloc ([.int .u8 0, .nilS, .int .u8 0, .str [], .int .u8 0, .int .i64 0, .int .u64 0, .str [], .int .u64 0, .str [], .int .u8 0, .int .i64 0, .nilS, .int .i64 0] ++ rep 33 (.int .u8 0) ++ [.int .i64 0, .bool false, .int .u8 0, .int .i64 0, .int .u64 0, .str [], .nilS, .int .i64 0])),
  se 8 (.st 55 (tm 23) (tm 74)),
  sv 9 24 75])
  (.seq (.reg [sm 0 77 (.ldA 55 (tm 7)),
  sv 1 78 5,
  sc 2 79 11 [(tm 77), (tm 78)],
  sv 3 76 79,
  sm 4 80 (.ext (tm 76) 0),
  sm 5 81 (.ext (tm 76) 1),
  sm 6 25 (.alloc ([.int .u8 0, .nilS, .int .u8 0, .str [], .int .u8 0, .int .i64 0, .int .u64 0, .str [], .int .u64 0, .str [], .int .u8 0, .int .i64 0, .nilS, .int .i64 0] ++ rep 33 (.int .u8 0) ++ [.int .i64 0, .bool false, .int .u8 0, .int .i64 0, .int .u64 0, .str [], .nilS, .int .i64 0])),
  se 7 (.st 55 (tm 25) (tm 80)),
  sv 8 26 81])
  (.seq (.reg [sm 0 83 (.ldA 55 (tm 7)),
  sv 1 84 5,
  sc 2 85 12 [(tm 83), (tm 84)],
  sv 3 82 85,
  sm 4 86 (.ext (tm 82) 0),
  sm 5 87 (.ext (tm 82) 1),
  sm 6 27 (.alloc ([.int .u8 0, .nilS, .int .u8 0, .str [], .int .u8 0, .int .i64 0, .int .u64 0, .str [], .int .u64 0, .str [], .int .u8 0, .int .i64 0, .nilS, .int .i64 0] ++ rep 33 (.int .u8 0) ++ [.int .i64 0, .bool false, .int .u8 0, .int .i64 0, .int .u64 0, .str [], .nilS, .int .i64 0])),
  se 7 (.st 55 (tm 27) (tm 86)),
  sv 8 28 87])
  (.seq (.dreg [sm 0 88 (.ldA 10 (tm 6)),
  ⟨2, (some 90), none, .mo (.ldA 10 (tm 6)), [], true⟩,
  ⟨1, (some 89), none, .callF 13 [(tm 88)], [2], false⟩,
  sc 3 91 14 [(tm 90)],
  sm 4 92 (.bin .eql 3 (tm 89) (tm 91)),
  sv 5 93 92,
  sg 6 94 93 true (.ldA 55 (tm 13)),
  sg 7 95 93 true (.ldA 55 (tm 15)),
  ⟨8, (some 96), (some ((some 93), true)), .callF 15 [(tm 94), (tm 95)], [], false⟩,
  sm 9 97 (.pick (tm 93) (tm 96) (.const (.bool false))),
  sv 10 98 97,
  sg 11 99 98 true (.mv (tm 14)),
  sg 12 100 98 true (.mv (tm 16)),
  sg 13 101 98 true (.bin .eql 3 (tm 99) (tm 100)),
  sm 14 102 (.pick (tm 98) (tm 101) (.const (.bool false))),
  sv 15 103 102,
  sg 16 104 103 true (.ldA 55 (tm 17)),
  sg 17 105 103 true (.ldA 55 (tm 19)),
  ⟨18, (some 106), (some ((some 103), true)), .callF 15 [(tm 104), (tm 105)], [], false⟩,
  sm 19 107 (.pick (tm 103) (tm 106) (.const (.bool false))),
  sv 20 108 107,
  sg 21 109 108 true (.mv (tm 18)),
  sg 22 110 108 true (.mv (tm 20)),
  sg 23 111 108 true (.bin .eql 3 (tm 109) (tm 110)),
  sm 24 112 (.pick (tm 108) (tm 111) (.const (.bool false))),
  sv 25 113 112,
  sg 26 114 113 true (.ldA 55 (tm 21)),
  sg 27 115 113 true (.ldA 55 (tm 23)),
  ⟨28, (some 116), (some ((some 113), true)), .callF 15 [(tm 114), (tm 115)], [], false⟩,
  sm 29 117 (.pick (tm 113) (tm 116) (.const (.bool false))),
  sv 30 118 117,
  sg 31 119 118 true (.mv (tm 22)),
  sg 32 120 118 true (.mv (tm 24)),
  sg 33 121 118 true (.bin .eql 3 (tm 119) (tm 120)),
  sm 34 122 (.pick (tm 118) (tm 121) (.const (.bool false))),
  sv 35 123 122,
  sg 36 124 123 true (.ldA 55 (tm 25)),
  sg 37 125 123 true (.ldA 55 (tm 27)),
  ⟨38, (some 126), (some ((some 123), true)), .callF 15 [(tm 124), (tm 125)], [], false⟩,
  sm 39 127 (.pick (tm 123) (tm 126) (.const (.bool false))),
  sv 40 128 127,
  sg 41 129 128 true (.mv (tm 26)),
  sg 42 130 128 true (.mv (tm 28)),
  sg 43 131 128 true (.bin .eql 3 (tm 129) (tm 130)),
  sm 44 132 (.pick (tm 128) (tm 131) (.const (.bool false))),
  sv 45 12 132])
  .ret)))))))))))
def r3 : List Mo := [.mv (tm 12)]
theorem c3_eq : compF Try.prog 3 = some c3 := by kernel_rfl
theorem r3_eq : compRs Try.prog 3 = some r3 := by kernel_rfl
/-! F4 braid/braidref28.Great -/
def c4 : Cd := (.seq (.reg [sm 0 1 (.box (tm 0)),
  sm 1 2 (.mv (.const (.bool false)))])
  (.seq (.reg [sm 0 3 (.fa 0 (tm 1)),
  sm 1 4 (.fa 1 (tm 3)),
  sm 2 5 (.ld1 (tm 4)),
  sm 3 6 (.len (.sl 1) (tm 5)),
  sm 4 7 (.bin .gtr 3 (tm 6) (.const (.int .i64 2500))),
  sv 5 8 7,
  sg 6 9 8 false (.fa 12 (tm 1)),
  sg 7 10 8 false (.ld1 (tm 9)),
  sg 8 11 8 false (.len (.sl 1) (tm 10)),
  sg 9 12 8 false (.bin .gtr 3 (tm 11) (.const (.int .i64 2500))),
  sm 10 13 (.pick (tm 8) (.const (.bool true)) (tm 12)),
  sv 11 14 13,
  sg 12 15 14 false (.fa 0 (tm 1)),
  sg 13 16 14 false (.fa 9 (tm 15)),
  sg 14 17 14 false (.ld1 (tm 16)),
  sg 15 18 14 false (.len .str (tm 17)),
  sg 16 19 14 false (.bin .gtr 3 (tm 18) (.const (.int .i64 100))),
  sm 17 20 (.pick (tm 14) (.const (.bool true)) (tm 19)),
  sv 18 21 20,
  sg 19 22 21 false (.fa 0 (tm 1)),
  sg 20 23 21 false (.fa 2 (tm 22)),
  sg 21 24 21 false (.fa 1 (tm 23)),
  sg 22 25 21 false (.ld1 (tm 24)),
  sg 23 26 21 false (.len .str (tm 25)),
  sg 24 27 21 false (.bin .gtr 3 (tm 26) (.const (.int .i64 100))),
  sm 25 28 (.pick (tm 21) (.const (.bool true)) (tm 27)),
  sv 26 29 28,
  sg 27 30 29 false (.fa 14 (tm 1)),
  sg 28 31 29 false (.fa 39 (tm 30)),
  sg 29 32 29 false (.ld1 (tm 31)),
  sg 30 33 29 false (.len (.sl 32) (tm 32)),
  sg 31 34 29 false (.bin .gtr 3 (tm 33) (.const (.int .i64 60))),
  sm 32 35 (.pick (tm 29) (.const (.bool true)) (tm 34)),
  sv 33 2 35])
  .ret))
def r4 : List Mo := [.mv (tm 2)]
theorem c4_eq : compF Try.prog 4 = some c4 := by kernel_rfl
theorem r4_eq : compRs Try.prog 4 = some r4 := by kernel_rfl
/-! F5 braid/calls.New -/
def c5 : Cd := (.seq (.reg [sm 0 1 (.box (tm 0)),
  sm 1 2 (.alloc ([.int .u8 0, .nilS, .int .u8 0, .str [], .int .u8 0, .int .i64 0, .int .u64 0, .str [], .int .u64 0, .str [], .int .u8 0, .int .i64 0, .nilS, .int .i64 0] ++ rep 33 (.int .u8 0) ++ [.int .i64 0, .bool false, .int .u8 0, .int .i64 0, .int .u64 0, .str [], .nilS, .int .i64 0])),
  sm 2 3 (.mv (.const (.int .i64 0)))])
  (.seq (.seq (.reg [sm 0 5 (.ldA 10 (tm 1)),
  sc 1 6 13 [(tm 5)],
  sv 2 4 6])
  (.seq (.reg [sv 0 7 4,
  sm 1 8 (.bin .neq 38 (tm 7) (.const (.int .i64 0)))])
  (.cond (tm 8) (.seq (.reg [sm 0 9 (.bld ([.int .u8 0, .nilS, .int .u8 0, .str [], .int .u8 0, .int .i64 0, .int .u64 0, .str [], .int .u64 0, .str [], .int .u8 0, .int .i64 0, .nilS, .int .i64 0] ++ rep 33 (.int .u8 0) ++ [.int .i64 0, .bool false, .int .u8 0, .int .i64 0, .int .u64 0, .str [], .nilS, .int .i64 0]) []),
  sv 1 10 4,
  se 2 (.st 55 (tm 2) (tm 9)),
  sv 3 3 10])
  .ret) .skip)))
  (.seq (.reg [sm 0 11 (.ldA 10 (tm 1)),
  sm 1 12 (.fa 1 (tm 1)),
  sm 2 13 (.ld1 (tm 12)),
  sm 3 14 (.bld ([.int .u8 0, .nilS, .int .u8 0, .str [], .int .u8 0, .int .i64 0, .int .u64 0, .str [], .int .u64 0, .str [], .int .u8 0, .int .i64 0, .nilS, .int .i64 0] ++ rep 33 (.int .u8 0) ++ [.int .i64 0, .bool false, .int .u8 0, .int .i64 0, .int .u64 0, .str [], .nilS, .int .i64 0]) [(0, 10, (tm 11)), (10, 1, (.const (.int .u8 1))), (12, 1, (tm 13)), (13, 1, (.const (.int .i64 (-1))))]),
  sc 4 15 16 [(tm 14)],
  se 5 (.st 55 (tm 2) (tm 15)),
  sm 6 3 (.mv (.const (.int .i64 0)))])
  .ret)))
def r5 : List Mo := [.ldA 55 (tm 2), .mv (tm 3)]
theorem c5_eq : compF Try.prog 5 = some c5 := by kernel_rfl
theorem r5_eq : compRs Try.prog 5 = some r5 := by kernel_rfl
/-! F6 braid/braidref28.New -/
def c6 : Cd := (.seq (.reg [sm 0 1 (.box (tm 0)),
  sm 1 2 (.alloc ([.int .u8 0, .nilS, .int .u8 0, .str [], .int .u8 0, .int .i64 0, .int .u64 0, .str [], .int .u64 0, .str [], .int .u8 0, .int .i64 0, .nilS, .int .i64 0] ++ rep 33 (.int .u8 0) ++ [.int .i64 0, .bool false, .int .u8 0, .int .i64 0, .int .u64 0, .str [], .nilS, .int .i64 0])),
  sm 2 3 (.mv (.const (.int .i64 0)))])
  (.seq (.seq (.reg [sm 0 4 (.ldA 10 (tm 1)),
  sc 1 5 14 [(tm 4)],
  sm 2 6 (.bin .neq 3 (tm 5) (.const (.int .i64 0)))])
  (.cond (tm 6) (.seq (.reg [sm 0 7 (.bld ([.int .u8 0, .nilS, .int .u8 0, .str [], .int .u8 0, .int .i64 0, .int .u64 0, .str [], .int .u64 0, .str [], .int .u8 0, .int .i64 0, .nilS, .int .i64 0] ++ rep 33 (.int .u8 0) ++ [.int .i64 0, .bool false, .int .u8 0, .int .i64 0, .int .u64 0, .str [], .nilS, .int .i64 0]) []),
  sm 1 8 (.ldA 10 (tm 1)),
  sc 2 9 14 [(tm 8)],
  se 3 (.st 55 (tm 2) (tm 7)),
  sv 4 3 9])
  .ret) .skip))
  (.seq (.reg [sm 0 10 (.ldA 10 (tm 1)),
  sm 1 11 (.fa 1 (tm 1)),
  sm 2 12 (.ld1 (tm 11)),
  sm 3 13 (.bld ([.int .u8 0, .nilS, .int .u8 0, .str [], .int .u8 0, .int .i64 0, .int .u64 0, .str [], .int .u64 0, .str [], .int .u8 0, .int .i64 0, .nilS, .int .i64 0] ++ rep 33 (.int .u8 0) ++ [.int .i64 0, .bool false, .int .u8 0, .int .i64 0, .int .u64 0, .str [], .nilS, .int .i64 0]) [(0, 10, (tm 10)), (10, 1, (.const (.int .u8 1))), (12, 1, (tm 12)), (13, 1, (.const (.int .i64 (-1))))]),
  sc 4 14 17 [(tm 13)],
  se 5 (.st 55 (tm 2) (tm 14)),
  sm 6 3 (.mv (.const (.int .i64 0)))])
  .ret)))
def r6 : List Mo := [.ldA 55 (tm 2), .mv (tm 3)]
theorem c6_eq : compF Try.prog 6 = some c6 := by kernel_rfl
theorem r6_eq : compRs Try.prog 6 = some r6 := by kernel_rfl
/-! F7 braid/calls.Tell -/
def c7 : Cd := (.seq (.reg [sm 0 4 (.box (tm 0)),
  sm 1 6 (.box (tm 2)),
  sm 2 8 (.alloc ([.int .u8 0, .nilS, .int .u8 0, .str [], .int .u8 0, .int .i64 0, .int .u64 0, .str [], .int .u64 0, .str [], .int .u8 0, .int .i64 0, .nilS, .int .i64 0] ++ rep 33 (.int .u8 0) ++ [.int .i64 0, .bool false, .int .u8 0, .int .i64 0, .int .u64 0, .str [], .nilS, .int .i64 0])),
  sm 3 9 (.mv (.const (.int .i64 0)))])
  (.seq (.seq (.reg [sm 0 11 (.ldA 55 (tm 4)),
  sc 1 12 18 [(tm 11), (.const (.int .u8 5))],
  sv 2 10 12])
  (.seq (.reg [sv 0 13 10,
  sm 1 14 (.bin .neq 38 (tm 13) (.const (.int .i64 0)))])
  (.cond (tm 14) (.seq (.reg [sm 0 15 (.bld ([.int .u8 0, .nilS, .int .u8 0, .str [], .int .u8 0, .int .i64 0, .int .u64 0, .str [], .int .u64 0, .str [], .int .u8 0, .int .i64 0, .nilS, .int .i64 0] ++ rep 33 (.int .u8 0) ++ [.int .i64 0, .bool false, .int .u8 0, .int .i64 0, .int .u64 0, .str [], .nilS, .int .i64 0]) []),
  sv 1 16 10,
  se 2 (.st 55 (tm 8) (tm 15)),
  sv 3 9 16])
  .ret) .skip)))
  (.seq (.seq (.reg [sv 0 17 1,
  sm 1 18 (.bin .lss 5 (tm 17) (.const (.int .u8 1))),
  sv 2 19 18,
  sg 3 20 19 false (.mv (tm 1)),
  sg 4 21 19 false (.bin .gtr 5 (tm 20) (.const (.int .u8 9))),
  sm 5 22 (.pick (tm 19) (.const (.bool true)) (tm 21)),
  sv 6 23 22,
  sg 7 24 23 false (.mv (tm 3)),
  sg 8 25 23 false (.bin .lss 3 (tm 24) (.const (.int .i64 0))),
  sm 9 26 (.pick (tm 23) (.const (.bool true)) (tm 25))])
  (.cond (tm 26) (.seq (.reg [sm 0 27 (.bld ([.int .u8 0, .nilS, .int .u8 0, .str [], .int .u8 0, .int .i64 0, .int .u64 0, .str [], .int .u64 0, .str [], .int .u8 0, .int .i64 0, .nilS, .int .i64 0] ++ rep 33 (.int .u8 0) ++ [.int .i64 0, .bool false, .int .u8 0, .int .i64 0, .int .u64 0, .str [], .nilS, .int .i64 0]) []),
  se 1 (.st 55 (tm 8) (tm 27)),
  sm 2 9 (.mv (.const (.int .i64 2)))])
  .ret) .skip))
  (.seq (.reg [sm 0 28 (.ldA 55 (tm 4)),
  sv 1 29 1,
  sm 2 30 (.ldA 32 (tm 6)),
  sv 3 31 3,
  sm 4 32 (.bld (rep 33 (.int .u8 0) ++ [.int .i64 0, .bool false, .int .u8 0, .int .i64 0, .int .u64 0, .str [], .nilS, .int .i64 0]) [(0, 1, (tm 29)), (1, 32, (tm 30)), (33, 1, (tm 31))]),
  sc 5 33 19 [(tm 28), (tm 32)],
  sm 6 34 (.ext (tm 33) 0),
  sm 7 35 (.ext (tm 33) 1),
  se 8 (.st 55 (tm 8) (tm 34)),
  sv 9 9 35])
  .ret))))
def r7 : List Mo := [.ldA 55 (tm 8), .mv (tm 9)]
theorem c7_eq : compF Try.prog 7 = some c7 := by kernel_rfl
theorem r7_eq : compRs Try.prog 7 = some r7 := by kernel_rfl
/-! F8 braid/braidref28.Tell -/
def c8 : Cd := (.seq (.reg [sm 0 4 (.box (tm 0)),
  sm 1 6 (.box (tm 2)),
  sm 2 8 (.alloc ([.int .u8 0, .nilS, .int .u8 0, .str [], .int .u8 0, .int .i64 0, .int .u64 0, .str [], .int .u64 0, .str [], .int .u8 0, .int .i64 0, .nilS, .int .i64 0] ++ rep 33 (.int .u8 0) ++ [.int .i64 0, .bool false, .int .u8 0, .int .i64 0, .int .u64 0, .str [], .nilS, .int .i64 0])),
  sm 3 9 (.mv (.const (.int .i64 0)))])
  (.seq (.seq (.reg [sm 0 11 (.ldA 55 (tm 4)),
  sc 1 12 20 [(tm 11), (.const (.int .u8 5))],
  sv 2 10 12])
  (.seq (.reg [sv 0 13 10,
  sm 1 14 (.bin .neq 3 (tm 13) (.const (.int .i64 0)))])
  (.cond (tm 14) (.seq (.reg [sm 0 15 (.bld ([.int .u8 0, .nilS, .int .u8 0, .str [], .int .u8 0, .int .i64 0, .int .u64 0, .str [], .int .u64 0, .str [], .int .u8 0, .int .i64 0, .nilS, .int .i64 0] ++ rep 33 (.int .u8 0) ++ [.int .i64 0, .bool false, .int .u8 0, .int .i64 0, .int .u64 0, .str [], .nilS, .int .i64 0]) []),
  sv 1 16 10,
  se 2 (.st 55 (tm 8) (tm 15)),
  sv 3 9 16])
  .ret) .skip)))
  (.seq (.seq (.reg [sv 0 17 1,
  sm 1 18 (.bin .lss 5 (tm 17) (.const (.int .u8 1))),
  sv 2 19 18,
  sg 3 20 19 false (.mv (tm 1)),
  sg 4 21 19 false (.bin .gtr 5 (tm 20) (.const (.int .u8 9))),
  sm 5 22 (.pick (tm 19) (.const (.bool true)) (tm 21)),
  sv 6 23 22,
  sg 7 24 23 false (.mv (tm 3)),
  sg 8 25 23 false (.bin .lss 3 (tm 24) (.const (.int .i64 0))),
  sm 9 26 (.pick (tm 23) (.const (.bool true)) (tm 25))])
  (.cond (tm 26) (.seq (.reg [sm 0 27 (.bld ([.int .u8 0, .nilS, .int .u8 0, .str [], .int .u8 0, .int .i64 0, .int .u64 0, .str [], .int .u64 0, .str [], .int .u8 0, .int .i64 0, .nilS, .int .i64 0] ++ rep 33 (.int .u8 0) ++ [.int .i64 0, .bool false, .int .u8 0, .int .i64 0, .int .u64 0, .str [], .nilS, .int .i64 0]) []),
  se 1 (.st 55 (tm 8) (tm 27)),
  sm 2 9 (.mv (.const (.int .i64 2)))])
  .ret) .skip))
  (.seq (.reg [sm 0 28 (.ldA 55 (tm 4)),
  sv 1 29 1,
  sm 2 30 (.ldA 32 (tm 6)),
  sv 3 31 3,
  sm 4 32 (.bld (rep 33 (.int .u8 0) ++ [.int .i64 0, .bool false, .int .u8 0, .int .i64 0, .int .u64 0, .str [], .nilS, .int .i64 0]) [(0, 1, (tm 29)), (1, 32, (tm 30)), (33, 1, (tm 31))]),
  sc 5 33 21 [(tm 28), (tm 32)],
  sm 6 34 (.ext (tm 33) 0),
  sm 7 35 (.ext (tm 33) 1),
  se 8 (.st 55 (tm 8) (tm 34)),
  sv 9 9 35])
  .ret))))
def r8 : List Mo := [.ldA 55 (tm 8), .mv (tm 9)]
theorem c8_eq : compF Try.prog 8 = some c8 := by kernel_rfl
theorem r8_eq : compRs Try.prog 8 = some r8 := by kernel_rfl
/-! F9 braid/calls.Subscribe -/
def c9 : Cd := (.seq (.reg [sm 0 3 (.box (tm 0)),
  sm 1 6 (.alloc ([.int .u8 0, .nilS, .int .u8 0, .str [], .int .u8 0, .int .i64 0, .int .u64 0, .str [], .int .u64 0, .str [], .int .u8 0, .int .i64 0, .nilS, .int .i64 0] ++ rep 33 (.int .u8 0) ++ [.int .i64 0, .bool false, .int .u8 0, .int .i64 0, .int .u64 0, .str [], .nilS, .int .i64 0])),
  sm 2 7 (.mv (.const (.int .i64 0)))])
  (.seq (.seq (.reg [sm 0 9 (.ldA 55 (tm 3)),
  sc 1 10 18 [(tm 9), (.const (.int .u8 3))],
  sv 2 8 10])
  (.seq (.reg [sv 0 11 8,
  sm 1 12 (.bin .neq 38 (tm 11) (.const (.int .i64 0)))])
  (.cond (tm 12) (.seq (.reg [sm 0 13 (.bld ([.int .u8 0, .nilS, .int .u8 0, .str [], .int .u8 0, .int .i64 0, .int .u64 0, .str [], .int .u64 0, .str [], .int .u8 0, .int .i64 0, .nilS, .int .i64 0] ++ rep 33 (.int .u8 0) ++ [.int .i64 0, .bool false, .int .u8 0, .int .i64 0, .int .u64 0, .str [], .nilS, .int .i64 0]) []),
  sv 1 14 8,
  se 2 (.st 55 (tm 6) (tm 13)),
  sv 3 7 14])
  .ret) .skip)))
  (.seq (.seq (.reg [sv 0 15 1,
  sm 1 16 (.bin .lss 3 (tm 15) (.const (.int .i64 (-1)))),
  sv 2 17 16,
  sg 3 18 17 false (.mv (tm 1)),
  sg 4 19 17 false (.bin .geq 3 (tm 18) (.const (.int .i64 60))),
  sm 5 20 (.pick (tm 17) (.const (.bool true)) (tm 19)),
  sv 6 21 20,
  sg 7 22 21 false (.mv (tm 2)),
  sg 8 23 21 false (.bin .lss 3 (tm 22) (.const (.int .i64 0))),
  sm 9 24 (.pick (tm 21) (.const (.bool true)) (tm 23))])
  (.cond (tm 24) (.seq (.reg [sm 0 25 (.bld ([.int .u8 0, .nilS, .int .u8 0, .str [], .int .u8 0, .int .i64 0, .int .u64 0, .str [], .int .u64 0, .str [], .int .u8 0, .int .i64 0, .nilS, .int .i64 0] ++ rep 33 (.int .u8 0) ++ [.int .i64 0, .bool false, .int .u8 0, .int .i64 0, .int .u64 0, .str [], .nilS, .int .i64 0]) []),
  se 1 (.st 55 (tm 6) (tm 25)),
  sm 2 7 (.mv (.const (.int .i64 2)))])
  .ret) .skip))
  (.seq (.reg [sm 0 26 (.ldA 55 (tm 3)),
  sv 1 27 1,
  sv 2 28 2,
  sm 3 29 (.bld (rep 33 (.int .u8 0) ++ [.int .i64 0, .bool false, .int .u8 0, .int .i64 0, .int .u64 0, .str [], .nilS, .int .i64 0]) [(40, 1, (tm 27)), (33, 1, (tm 28))]),
  sc 4 30 19 [(tm 26), (tm 29)],
  sm 5 31 (.ext (tm 30) 0),
  sm 6 32 (.ext (tm 30) 1),
  se 7 (.st 55 (tm 6) (tm 31)),
  sv 8 7 32])
  .ret))))
def r9 : List Mo := [.ldA 55 (tm 6), .mv (tm 7)]
theorem c9_eq : compF Try.prog 9 = some c9 := by kernel_rfl
theorem r9_eq : compRs Try.prog 9 = some r9 := by kernel_rfl
/-! F10 braid/braidref28.Subscribe -/
def c10 : Cd := (.seq (.reg [sm 0 3 (.box (tm 0)),
  sm 1 6 (.alloc ([.int .u8 0, .nilS, .int .u8 0, .str [], .int .u8 0, .int .i64 0, .int .u64 0, .str [], .int .u64 0, .str [], .int .u8 0, .int .i64 0, .nilS, .int .i64 0] ++ rep 33 (.int .u8 0) ++ [.int .i64 0, .bool false, .int .u8 0, .int .i64 0, .int .u64 0, .str [], .nilS, .int .i64 0])),
  sm 2 7 (.mv (.const (.int .i64 0)))])
  (.seq (.seq (.reg [sm 0 9 (.ldA 55 (tm 3)),
  sc 1 10 20 [(tm 9), (.const (.int .u8 3))],
  sv 2 8 10])
  (.seq (.reg [sv 0 11 8,
  sm 1 12 (.bin .neq 3 (tm 11) (.const (.int .i64 0)))])
  (.cond (tm 12) (.seq (.reg [sm 0 13 (.bld ([.int .u8 0, .nilS, .int .u8 0, .str [], .int .u8 0, .int .i64 0, .int .u64 0, .str [], .int .u64 0, .str [], .int .u8 0, .int .i64 0, .nilS, .int .i64 0] ++ rep 33 (.int .u8 0) ++ [.int .i64 0, .bool false, .int .u8 0, .int .i64 0, .int .u64 0, .str [], .nilS, .int .i64 0]) []),
  sv 1 14 8,
  se 2 (.st 55 (tm 6) (tm 13)),
  sv 3 7 14])
  .ret) .skip)))
  (.seq (.seq (.reg [sv 0 15 1,
  sm 1 16 (.bin .lss 3 (tm 15) (.const (.int .i64 (-1)))),
  sv 2 17 16,
  sg 3 18 17 false (.mv (tm 1)),
  sg 4 19 17 false (.bin .geq 3 (tm 18) (.const (.int .i64 60))),
  sm 5 20 (.pick (tm 17) (.const (.bool true)) (tm 19)),
  sv 6 21 20,
  sg 7 22 21 false (.mv (tm 2)),
  sg 8 23 21 false (.bin .lss 3 (tm 22) (.const (.int .i64 0))),
  sm 9 24 (.pick (tm 21) (.const (.bool true)) (tm 23))])
  (.cond (tm 24) (.seq (.reg [sm 0 25 (.bld ([.int .u8 0, .nilS, .int .u8 0, .str [], .int .u8 0, .int .i64 0, .int .u64 0, .str [], .int .u64 0, .str [], .int .u8 0, .int .i64 0, .nilS, .int .i64 0] ++ rep 33 (.int .u8 0) ++ [.int .i64 0, .bool false, .int .u8 0, .int .i64 0, .int .u64 0, .str [], .nilS, .int .i64 0]) []),
  se 1 (.st 55 (tm 6) (tm 25)),
  sm 2 7 (.mv (.const (.int .i64 2)))])
  .ret) .skip))
  (.seq (.reg [sm 0 26 (.ldA 55 (tm 3)),
  sv 1 27 1,
  sv 2 28 2,
  sm 3 29 (.bld (rep 33 (.int .u8 0) ++ [.int .i64 0, .bool false, .int .u8 0, .int .i64 0, .int .u64 0, .str [], .nilS, .int .i64 0]) [(40, 1, (tm 27)), (33, 1, (tm 28))]),
  sc 4 30 21 [(tm 26), (tm 29)],
  sm 5 31 (.ext (tm 30) 0),
  sm 6 32 (.ext (tm 30) 1),
  se 7 (.st 55 (tm 6) (tm 31)),
  sv 8 7 32])
  .ret))))
def r10 : List Mo := [.ldA 55 (tm 6), .mv (tm 7)]
theorem c10_eq : compF Try.prog 10 = some c10 := by kernel_rfl
theorem r10_eq : compRs Try.prog 10 = some r10 := by kernel_rfl
/-! F11 braid/calls.Close -/
def c11 : Cd := (.seq (.reg [sm 0 2 (.box (tm 0)),
  sm 1 4 (.alloc ([.int .u8 0, .nilS, .int .u8 0, .str [], .int .u8 0, .int .i64 0, .int .u64 0, .str [], .int .u64 0, .str [], .int .u8 0, .int .i64 0, .nilS, .int .i64 0] ++ rep 33 (.int .u8 0) ++ [.int .i64 0, .bool false, .int .u8 0, .int .i64 0, .int .u64 0, .str [], .nilS, .int .i64 0])),
  sm 2 5 (.mv (.const (.int .i64 0)))])
  (.seq (.seq (.reg [sm 0 7 (.ldA 55 (tm 2)),
  sc 1 8 18 [(tm 7), (.const (.int .u8 4))],
  sv 2 6 8])
  (.seq (.reg [sv 0 9 6,
  sm 1 10 (.bin .neq 38 (tm 9) (.const (.int .i64 0)))])
  (.cond (tm 10) (.seq (.reg [sm 0 11 (.bld ([.int .u8 0, .nilS, .int .u8 0, .str [], .int .u8 0, .int .i64 0, .int .u64 0, .str [], .int .u64 0, .str [], .int .u8 0, .int .i64 0, .nilS, .int .i64 0] ++ rep 33 (.int .u8 0) ++ [.int .i64 0, .bool false, .int .u8 0, .int .i64 0, .int .u64 0, .str [], .nilS, .int .i64 0]) []),
  sv 1 12 6,
  se 2 (.st 55 (tm 4) (tm 11)),
  sv 3 5 12])
  .ret) .skip)))
  (.seq (.seq (.reg [sv 0 13 1,
  sm 1 14 (.bin .lss 3 (tm 13) (.const (.int .i64 0)))])
  (.cond (tm 14) (.seq (.reg [sm 0 15 (.bld ([.int .u8 0, .nilS, .int .u8 0, .str [], .int .u8 0, .int .i64 0, .int .u64 0, .str [], .int .u64 0, .str [], .int .u8 0, .int .i64 0, .nilS, .int .i64 0] ++ rep 33 (.int .u8 0) ++ [.int .i64 0, .bool false, .int .u8 0, .int .i64 0, .int .u64 0, .str [], .nilS, .int .i64 0]) []),
  se 1 (.st 55 (tm 4) (tm 15)),
  sm 2 5 (.mv (.const (.int .i64 2)))])
  .ret) .skip))
  (.seq (.reg [sm 0 16 (.ldA 55 (tm 2)),
  sv 1 17 1,
  sm 2 18 (.bld (rep 33 (.int .u8 0) ++ [.int .i64 0, .bool false, .int .u8 0, .int .i64 0, .int .u64 0, .str [], .nilS, .int .i64 0]) [(33, 1, (tm 17))]),
  sc 3 19 19 [(tm 16), (tm 18)],
  sm 4 20 (.ext (tm 19) 0),
  sm 5 21 (.ext (tm 19) 1),
  se 6 (.st 55 (tm 4) (tm 20)),
  sv 7 5 21])
  .ret))))
def r11 : List Mo := [.ldA 55 (tm 4), .mv (tm 5)]
theorem c11_eq : compF Try.prog 11 = some c11 := by kernel_rfl
theorem r11_eq : compRs Try.prog 11 = some r11 := by kernel_rfl
/-! F12 braid/braidref28.Close -/
def c12 : Cd := (.seq (.reg [sm 0 2 (.box (tm 0)),
  sm 1 4 (.alloc ([.int .u8 0, .nilS, .int .u8 0, .str [], .int .u8 0, .int .i64 0, .int .u64 0, .str [], .int .u64 0, .str [], .int .u8 0, .int .i64 0, .nilS, .int .i64 0] ++ rep 33 (.int .u8 0) ++ [.int .i64 0, .bool false, .int .u8 0, .int .i64 0, .int .u64 0, .str [], .nilS, .int .i64 0])),
  sm 2 5 (.mv (.const (.int .i64 0)))])
  (.seq (.seq (.reg [sm 0 7 (.ldA 55 (tm 2)),
  sc 1 8 20 [(tm 7), (.const (.int .u8 4))],
  sv 2 6 8])
  (.seq (.reg [sv 0 9 6,
  sm 1 10 (.bin .neq 3 (tm 9) (.const (.int .i64 0)))])
  (.cond (tm 10) (.seq (.reg [sm 0 11 (.bld ([.int .u8 0, .nilS, .int .u8 0, .str [], .int .u8 0, .int .i64 0, .int .u64 0, .str [], .int .u64 0, .str [], .int .u8 0, .int .i64 0, .nilS, .int .i64 0] ++ rep 33 (.int .u8 0) ++ [.int .i64 0, .bool false, .int .u8 0, .int .i64 0, .int .u64 0, .str [], .nilS, .int .i64 0]) []),
  sv 1 12 6,
  se 2 (.st 55 (tm 4) (tm 11)),
  sv 3 5 12])
  .ret) .skip)))
  (.seq (.seq (.reg [sv 0 13 1,
  sm 1 14 (.bin .lss 3 (tm 13) (.const (.int .i64 0)))])
  (.cond (tm 14) (.seq (.reg [sm 0 15 (.bld ([.int .u8 0, .nilS, .int .u8 0, .str [], .int .u8 0, .int .i64 0, .int .u64 0, .str [], .int .u64 0, .str [], .int .u8 0, .int .i64 0, .nilS, .int .i64 0] ++ rep 33 (.int .u8 0) ++ [.int .i64 0, .bool false, .int .u8 0, .int .i64 0, .int .u64 0, .str [], .nilS, .int .i64 0]) []),
  se 1 (.st 55 (tm 4) (tm 15)),
  sm 2 5 (.mv (.const (.int .i64 2)))])
  .ret) .skip))
  (.seq (.reg [sm 0 16 (.ldA 55 (tm 2)),
  sv 1 17 1,
  sm 2 18 (.bld (rep 33 (.int .u8 0) ++ [.int .i64 0, .bool false, .int .u8 0, .int .i64 0, .int .u64 0, .str [], .nilS, .int .i64 0]) [(33, 1, (tm 17))]),
  sc 3 19 21 [(tm 16), (tm 18)],
  sm 4 20 (.ext (tm 19) 0),
  sm 5 21 (.ext (tm 19) 1),
  se 6 (.st 55 (tm 4) (tm 20)),
  sv 7 5 21])
  .ret))))
def r12 : List Mo := [.ldA 55 (tm 4), .mv (tm 5)]
theorem c12_eq : compF Try.prog 12 = some c12 := by kernel_rfl
theorem r12_eq : compRs Try.prog 12 = some r12 := by kernel_rfl
/-! F13 braid/calls.Check -/
def c13 : Cd := (.seq (.reg [sm 0 1 (.box (tm 0)),
  sm 1 2 (.mv (.const (.int .i64 0)))])
  (.seq (.reg [sm 0 3 (.mv (.func 22))])
  (.seq (.block 0 (.seq (.dreg [sm 0 5 (.fa 0 (tm 1)),
  sm 1 6 (.ld1 (tm 5)),
  sm 2 7 (.bin .lss 5 (tm 6) (.const (.int .u8 1))),
  sv 3 8 7,
  sg 4 9 8 false (.fa 0 (tm 1)),
  sg 5 10 8 false (.ld1 (tm 9)),
  sg 6 11 8 false (.bin .gtr 5 (tm 10) (.const (.int .u8 6))),
  sm 7 12 (.pick (tm 8) (.const (.bool true)) (tm 11)),
  sv 8 13 12,
  ⟨9, (some 14), (some ((some 13), false)), .mo (.ldA 10 (tm 1)), [], true⟩,
  sg 10 15 13 false (.ldA 10 (tm 1)),
  ⟨11, (some 16), (some ((some 13), false)), .callF 25 [(tm 15)], [9], false⟩,
  ⟨12, (some 17), (some ((some 13), false)), .callF 24 [(tm 14), (tm 16)], [], false⟩,
  sg 13 18 13 false (.un .not (tm 17)),
  sm 14 19 (.pick (tm 13) (.const (.bool true)) (tm 18)),
  sv 15 4 19])
  (.cond (tm 4) (.seq (.reg [sm 0 2 (.mv (.const (.int .i64 8)))])
  .ret) (.seq (.reg [sm 0 21 (.fa 1 (tm 1)),
  sm 1 22 (.ld1 (tm 21)),
  sm 2 23 (.len (.sl 1) (tm 22)),
  sm 3 24 (.bin .gtr 3 (tm 23) (.const (.int .i64 2000))),
  sv 4 25 24,
  sg 5 26 25 false (.fa 8 (tm 1)),
  sg 6 27 25 false (.ld1 (tm 26)),
  sg 7 28 25 false (.bin .gtr 23 (tm 27) (.const (.int .u64 1000000000000))),
  sm 8 29 (.pick (tm 25) (.const (.bool true)) (tm 28)),
  sv 9 20 29])
  (.cond (tm 20) (.seq (.reg [sm 0 2 (.mv (.const (.int .i64 8)))])
  .ret) (.seq (.reg [sm 0 31 (.fa 0 (tm 1)),
  sm 1 32 (.ld1 (tm 31)),
  sm 2 33 (.bin .eql 5 (tm 32) (.const (.int .u8 3))),
  sv 3 34 33,
  sg 4 35 34 true (.mv (tm 3)),
  sg 5 36 34 true (.fa 9 (tm 1)),
  sg 6 37 34 true (.ld1 (tm 36)),
  ⟨7, (some 38), (some ((some 34), true)), .callV (tm 35) [(tm 37)], [], false⟩,
  sg 8 39 34 true (.un .not (tm 38)),
  sm 9 40 (.pick (tm 34) (tm 39) (.const (.bool false))),
  sv 10 30 40])
  (.cond (tm 30) (.seq (.reg [sm 0 2 (.mv (.const (.int .i64 8)))])
  .ret) (.seq (.reg [sm 0 42 (.fa 0 (tm 1)),
  sm 1 43 (.ld1 (tm 42)),
  sm 2 44 (.bin .eql 5 (tm 43) (.const (.int .u8 2))),
  sv 3 45 44,
  sg 4 46 45 true (.fa 2 (tm 1)),
  sg 5 47 45 true (.ldA 6 (tm 46)),
  ⟨6, (some 48), (some ((some 45), true)), .callF 23 [(tm 47)], [], false⟩,
  sg 7 49 45 true (.bin .neq 38 (tm 48) (.const (.int .i64 0))),
  sm 8 50 (.pick (tm 45) (tm 49) (.const (.bool false))),
  sv 9 41 50])
  (.cond (tm 41) (.seq (.reg [sm 0 2 (.mv (.const (.int .i64 8)))])
  .ret) .skip)))))))))
  (.seq (.reg [sm 0 2 (.mv (.const (.int .i64 0)))])
  .ret))))
def r13 : List Mo := [.mv (tm 2)]
theorem c13_eq : compF Try.prog 13 = some c13 := by kernel_rfl
theorem r13_eq : compRs Try.prog 13 = some r13 := by kernel_rfl
/-! F14 braid/braidref28.Check -/
def c14 : Cd := (.seq (.reg [sm 0 1 (.box (tm 0)),
  sm 1 2 (.mv (.const (.int .i64 0)))])
  (.seq (.seq (.reg [sm 0 3 (.fa 0 (tm 1)),
  sm 1 4 (.ld1 (tm 3)),
  sm 2 5 (.bin .lss 5 (tm 4) (.const (.int .u8 1))),
  sv 3 6 5,
  sg 4 7 6 false (.fa 0 (tm 1)),
  sg 5 8 6 false (.ld1 (tm 7)),
  sg 6 9 6 false (.bin .gtr 5 (tm 8) (.const (.int .u8 6))),
  sm 7 10 (.pick (tm 6) (.const (.bool true)) (tm 9)),
  sv 8 11 10,
  sg 9 12 11 false (.ldA 10 (tm 1)),
  ⟨10, (some 13), (some ((some 11), false)), .callF 26 [(tm 12)], [], false⟩,
  sg 11 14 11 false (.un .not (tm 13)),
  sm 12 15 (.pick (tm 11) (.const (.bool true)) (tm 14)),
  sv 13 16 15,
  sg 14 17 16 false (.fa 1 (tm 1)),
  sg 15 18 16 false (.ld1 (tm 17)),
  sg 16 19 16 false (.len (.sl 1) (tm 18)),
  sg 17 20 16 false (.bin .gtr 3 (tm 19) (.const (.int .i64 2000))),
  sm 18 21 (.pick (tm 16) (.const (.bool true)) (tm 20)),
  sv 19 22 21,
  sg 20 23 22 false (.fa 8 (tm 1)),
  sg 21 24 22 false (.ld1 (tm 23)),
  sg 22 25 22 false (.bin .gtr 23 (tm 24) (.const (.int .u64 1000000000000))),
  sm 23 26 (.pick (tm 22) (.const (.bool true)) (tm 25))])
  (.cond (tm 26) (.seq (.reg [sm 0 2 (.mv (.const (.int .i64 8)))])
  .ret) .skip))
  (.seq (.seq (.reg [sm 0 27 (.fa 0 (tm 1)),
  sm 1 28 (.ld1 (tm 27)),
  sm 2 29 (.bin .eql 5 (tm 28) (.const (.int .u8 3))),
  sv 3 30 29,
  sg 4 31 30 true (.fa 9 (tm 1)),
  sg 5 32 30 true (.ld1 (tm 31)),
  sg 6 33 30 true (.bld [.int .u8 0, .str [], .int .u8 0, .int .i64 0, .int .u64 0, .str []] [(0, 1, (.const (.int .u8 2))), (1, 1, (tm 32))]),
  ⟨7, (some 34), (some ((some 30), true)), .callF 27 [(tm 33)], [], false⟩,
  sg 8 35 30 true (.bin .neq 3 (tm 34) (.const (.int .i64 0))),
  sm 9 36 (.pick (tm 30) (tm 35) (.const (.bool false)))])
  (.cond (tm 36) (.seq (.reg [sm 0 2 (.mv (.const (.int .i64 8)))])
  .ret) .skip))
  (.seq (.seq (.reg [sm 0 37 (.fa 0 (tm 1)),
  sm 1 38 (.ld1 (tm 37)),
  sm 2 39 (.bin .eql 5 (tm 38) (.const (.int .u8 2))),
  sv 3 40 39,
  sg 4 41 40 true (.fa 2 (tm 1)),
  sg 5 42 40 true (.ldA 6 (tm 41)),
  ⟨6, (some 43), (some ((some 40), true)), .callF 27 [(tm 42)], [], false⟩,
  sg 7 44 40 true (.bin .neq 3 (tm 43) (.const (.int .i64 0))),
  sm 8 45 (.pick (tm 40) (tm 44) (.const (.bool false)))])
  (.cond (tm 45) (.seq (.reg [sm 0 2 (.mv (.const (.int .i64 8)))])
  .ret) .skip))
  (.seq (.reg [sm 0 2 (.mv (.const (.int .i64 0)))])
  .ret)))))
def r14 : List Mo := [.mv (tm 2)]
theorem c14_eq : compF Try.prog 14 = some c14 := by kernel_rfl
theorem r14_eq : compRs Try.prog 14 = some r14 := by kernel_rfl
/-! F15 braid/braidref28.Same -/
def c15 : Cd := (.seq (.reg [sm 0 2 (.box (tm 0)),
  sm 1 3 (.box (tm 1)),
  sm 2 4 (.mv (.const (.bool false)))])
  (.seq (.reg [sm 0 5 (.fa 0 (tm 2)),
  sm 1 6 (.ldA 10 (tm 5)),
  sm 2 7 (.fa 0 (tm 3)),
  sm 3 8 (.ldA 10 (tm 7)),
  sc 4 9 28 [(tm 6), (tm 8)],
  sv 5 10 9,
  sg 6 11 10 true (.fa 10 (tm 2)),
  sg 7 12 10 true (.ld1 (tm 11)),
  sg 8 13 10 true (.fa 10 (tm 3)),
  sg 9 14 10 true (.ld1 (tm 13)),
  sg 10 15 10 true (.bin .eql 5 (tm 12) (tm 14)),
  sm 11 16 (.pick (tm 10) (tm 15) (.const (.bool false))),
  sv 12 17 16,
  sg 13 18 17 true (.fa 11 (tm 2)),
  sg 14 19 17 true (.ld1 (tm 18)),
  sg 15 20 17 true (.fa 11 (tm 3)),
  sg 16 21 17 true (.ld1 (tm 20)),
  sg 17 22 17 true (.bin .eql 3 (tm 19) (tm 21)),
  sm 18 23 (.pick (tm 17) (tm 22) (.const (.bool false))),
  sv 19 24 23,
  sg 20 25 24 true (.fa 12 (tm 2)),
  sg 21 26 24 true (.ld1 (tm 25)),
  sg 22 27 24 true (.cbs (tm 26)),
  sg 23 28 24 true (.fa 12 (tm 3)),
  sg 24 29 24 true (.ld1 (tm 28)),
  sg 25 30 24 true (.cbs (tm 29)),
  sg 26 31 24 true (.bin .eql 9 (tm 27) (tm 30)),
  sm 27 32 (.pick (tm 24) (tm 31) (.const (.bool false))),
  sv 28 33 32,
  sg 29 34 33 true (.fa 13 (tm 2)),
  sg 30 35 33 true (.ld1 (tm 34)),
  sg 31 36 33 true (.fa 13 (tm 3)),
  sg 32 37 33 true (.ld1 (tm 36)),
  sg 33 38 33 true (.bin .eql 3 (tm 35) (tm 37)),
  sm 34 39 (.pick (tm 33) (tm 38) (.const (.bool false))),
  sv 35 40 39,
  sg 36 41 40 true (.fa 14 (tm 2)),
  sg 37 42 40 true (.ldA 41 (tm 41)),
  sg 38 43 40 true (.fa 14 (tm 3)),
  sg 39 44 40 true (.ldA 41 (tm 43)),
  ⟨40, (some 45), (some ((some 40), true)), .callF 29 [(tm 42), (tm 44)], [], false⟩,
  sm 41 46 (.pick (tm 40) (tm 45) (.const (.bool false))),
  sv 42 4 46])
  .ret))
def r15 : List Mo := [.mv (tm 4)]
theorem c15_eq : compF Try.prog 15 = some c15 := by kernel_rfl
theorem r15_eq : compRs Try.prog 15 = some r15 := by kernel_rfl
/-! F16 braid/calls.clone -/
def c16 : Cd := (.seq (.reg [sm 0 1 (.box (tm 0)),
  sm 1 2 (.alloc ([.int .u8 0, .nilS, .int .u8 0, .str [], .int .u8 0, .int .i64 0, .int .u64 0, .str [], .int .u64 0, .str [], .int .u8 0, .int .i64 0, .nilS, .int .i64 0] ++ rep 33 (.int .u8 0) ++ [.int .i64 0, .bool false, .int .u8 0, .int .i64 0, .int .u64 0, .str [], .nilS, .int .i64 0]))])
  (.seq (.dreg [sm 0 3 (.fa 0 (tm 1)),
  sm 1 4 (.fa 1 (tm 3)),
  sm 2 5 (.ld1 (tm 4)),
  sm 4 7 (.fa 12 (tm 1)),
  ⟨5, (some 8), none, .mo (.ld1 (tm 7)), [], true⟩,
  sm 7 10 (.fa 14 (tm 1)),
  sm 8 11 (.fa 39 (tm 10)),
  ⟨9, (some 12), none, .mo (.ld1 (tm 11)), [], true⟩,
  ⟨3, (some 6), none, .callF 30 [(tm 5)], [9, 5], false⟩,
  sm 11 14 (.fa 0 (tm 1)),
  sm 12 15 (.fa 1 (tm 14)),
  ⟨6, (some 9), none, .callF 30 [(tm 8)], [9], false⟩,
  sc 10 13 31 [(tm 12)],
  se 13 (.st 1 (tm 15) (tm 6)),
  sm 14 16 (.fa 12 (tm 1)),
  se 15 (.st 1 (tm 16) (tm 9)),
  sm 16 17 (.fa 14 (tm 1)),
  sm 17 18 (.fa 39 (tm 17)),
  se 18 (.st 1 (tm 18) (tm 13))])
  (.seq (.reg [sm 0 19 (.ldA 55 (tm 1)),
  se 1 (.st 55 (tm 2) (tm 19))])
  .ret)))
def r16 : List Mo := [.ldA 55 (tm 2)]
theorem c16_eq : compF Try.prog 16 = some c16 := by kernel_rfl
theorem r16_eq : compRs Try.prog 16 = some r16 := by kernel_rfl
/-! F17 braid/braidref28.Twin -/
def c17 : Cd := (.seq (.reg [sm 0 1 (.box (tm 0)),
  sm 1 2 (.alloc ([.int .u8 0, .nilS, .int .u8 0, .str [], .int .u8 0, .int .i64 0, .int .u64 0, .str [], .int .u64 0, .str [], .int .u8 0, .int .i64 0, .nilS, .int .i64 0] ++ rep 33 (.int .u8 0) ++ [.int .i64 0, .bool false, .int .u8 0, .int .i64 0, .int .u64 0, .str [], .nilS, .int .i64 0]))])
  (.seq (.reg [sm 0 3 (.bsl 1 [.int .u8 0] 0 []),
  sm 1 4 (.fa 0 (tm 1)),
  sm 2 5 (.fa 1 (tm 4)),
  sm 3 6 (.ld1 (tm 5)),
  sm 4 7 (.app 1 1 (tm 3) (tm 6)),
  sm 5 8 (.fa 0 (tm 1)),
  sm 6 9 (.fa 1 (tm 8)),
  se 7 (.st 1 (tm 9) (tm 7))])
  (.seq (.reg [sm 0 10 (.bsl 1 [.int .u8 0] 0 []),
  sm 1 11 (.fa 12 (tm 1)),
  sm 2 12 (.ld1 (tm 11)),
  sm 3 13 (.app 1 1 (tm 10) (tm 12)),
  sm 4 14 (.fa 12 (tm 1)),
  se 5 (.st 1 (tm 14) (tm 13))])
  (.seq (.reg [sm 0 15 (.bsl 32 (rep 32 (.int .u8 0)) 0 []),
  sm 1 16 (.fa 14 (tm 1)),
  sm 2 17 (.fa 39 (tm 16)),
  sm 3 18 (.ld1 (tm 17)),
  sm 4 19 (.app 32 32 (tm 15) (tm 18)),
  sm 5 20 (.fa 14 (tm 1)),
  sm 6 21 (.fa 39 (tm 20)),
  se 7 (.st 1 (tm 21) (tm 19))])
  (.seq (.reg [sm 0 22 (.ldA 55 (tm 1)),
  se 1 (.st 55 (tm 2) (tm 22))])
  .ret)))))
def r17 : List Mo := [.ldA 55 (tm 2)]
theorem c17_eq : compF Try.prog 17 = some c17 := by kernel_rfl
theorem r17_eq : compRs Try.prog 17 = some r17 := by kernel_rfl
/-! F18 braid/calls.asked -/
def c18 : Cd := (.seq (.reg [sm 0 2 (.box (tm 0)),
  sm 1 4 (.mv (.const (.int .i64 0)))])
  (.seq (.seq (.reg [sm 0 6 (.ldA 55 (tm 2)),
  sc 1 7 32 [(tm 6)],
  sv 2 5 7])
  (.seq (.reg [sv 0 8 5,
  sm 1 9 (.bin .neq 38 (tm 8) (.const (.int .i64 0)))])
  (.cond (tm 9) (.seq (.reg [sv 0 10 5,
  sv 1 4 10])
  .ret) .skip)))
  (.seq (.seq (.reg [sm 0 11 (.ldA 55 (tm 2)),
  sc 1 12 33 [(tm 11)],
  sv 2 13 1,
  sm 3 14 (.bin .neq 5 (tm 12) (tm 13))])
  (.cond (tm 14) (.seq (.reg [sm 0 4 (.mv (.const (.int .i64 36)))])
  .ret) .skip))
  (.seq (.reg [sm 0 4 (.mv (.const (.int .i64 0)))])
  .ret))))
def r18 : List Mo := [.mv (tm 4)]
theorem c18_eq : compF Try.prog 18 = some c18 := by kernel_rfl
theorem r18_eq : compRs Try.prog 18 = some r18 := by kernel_rfl
/-! F19 braid/calls.answer -/
def c19 : Cd := (.seq (.reg [sm 0 2 (.box (tm 0)),
  sm 1 3 (.box (tm 1)),
  sm 2 4 (.alloc ([.int .u8 0, .nilS, .int .u8 0, .str [], .int .u8 0, .int .i64 0, .int .u64 0, .str [], .int .u64 0, .str [], .int .u8 0, .int .i64 0, .nilS, .int .i64 0] ++ rep 33 (.int .u8 0) ++ [.int .i64 0, .bool false, .int .u8 0, .int .i64 0, .int .u64 0, .str [], .nilS, .int .i64 0])),
  sm 3 5 (.mv (.const (.int .i64 0)))])
  (.seq (.reg [sm 0 6 (.ldA 55 (tm 2)),
  sc 1 7 16 [(tm 6)],
  se 2 (.st 55 (tm 2) (tm 7))])
  (.seq (.dreg [⟨0, (some 8), none, .mo (.ldA 41 (tm 3)), [], true⟩,
  sm 1 9 (.fa 10 (tm 2)),
  ⟨2, none, none, .mo (.st 1 (tm 9) (.const (.int .u8 4))), [0], false⟩,
  sm 3 10 (.fa 14 (tm 2)),
  se 4 (.st 41 (tm 10) (tm 8))])
  (.seq (.reg [sm 0 11 (.ldA 55 (tm 2)),
  se 1 (.st 55 (tm 4) (tm 11)),
  sm 2 5 (.mv (.const (.int .i64 0)))])
  .ret))))
def r19 : List Mo := [.ldA 55 (tm 4), .mv (tm 5)]
theorem c19_eq : compF Try.prog 19 = some c19 := by kernel_rfl
theorem r19_eq : compRs Try.prog 19 = some r19 := by kernel_rfl
/-! F20 braid/braidref28.asked -/
def c20 : Cd := (.seq (.reg [sm 0 2 (.box (tm 0)),
  sm 1 4 (.mv (.const (.int .i64 0)))])
  (.seq (.seq (.reg [sm 0 5 (.ldA 55 (tm 2)),
  sc 1 6 34 [(tm 5)],
  sm 2 7 (.bin .neq 3 (tm 6) (.const (.int .i64 0)))])
  (.cond (tm 7) (.seq (.reg [sm 0 8 (.ldA 55 (tm 2)),
  sc 1 9 34 [(tm 8)],
  sv 2 4 9])
  .ret) .skip))
  (.seq (.seq (.reg [sm 0 10 (.ldA 55 (tm 2)),
  sc 1 11 35 [(tm 10)],
  sv 2 12 1,
  sm 3 13 (.bin .neq 5 (tm 11) (tm 12))])
  (.cond (tm 13) (.seq (.reg [sm 0 4 (.mv (.const (.int .i64 36)))])
  .ret) .skip))
  (.seq (.reg [sm 0 4 (.mv (.const (.int .i64 0)))])
  .ret))))
def r20 : List Mo := [.mv (tm 4)]
theorem c20_eq : compF Try.prog 20 = some c20 := by kernel_rfl
theorem r20_eq : compRs Try.prog 20 = some r20 := by kernel_rfl
/-! F21 braid/braidref28.answered -/
def c21 : Cd := (.seq (.reg [sm 0 2 (.box (tm 0)),
  sm 1 3 (.box (tm 1)),
  sm 2 4 (.alloc ([.int .u8 0, .nilS, .int .u8 0, .str [], .int .u8 0, .int .i64 0, .int .u64 0, .str [], .int .u64 0, .str [], .int .u8 0, .int .i64 0, .nilS, .int .i64 0] ++ rep 33 (.int .u8 0) ++ [.int .i64 0, .bool false, .int .u8 0, .int .i64 0, .int .u64 0, .str [], .nilS, .int .i64 0])),
  sm 3 5 (.mv (.const (.int .i64 0)))])
  (.seq (.reg [sm 0 7 (.ldA 55 (tm 2)),
  sc 1 8 17 [(tm 7)],
  sm 2 6 (.alloc ([.int .u8 0, .nilS, .int .u8 0, .str [], .int .u8 0, .int .i64 0, .int .u64 0, .str [], .int .u64 0, .str [], .int .u8 0, .int .i64 0, .nilS, .int .i64 0] ++ rep 33 (.int .u8 0) ++ [.int .i64 0, .bool false, .int .u8 0, .int .i64 0, .int .u64 0, .str [], .nilS, .int .i64 0])),
  se 3 (.st 55 (tm 6) (tm 8))])
  (.seq (.dreg [⟨0, (some 9), none, .mo (.ldA 41 (tm 3)), [], true⟩,
  sm 1 10 (.fa 10 (tm 6)),
  ⟨2, none, none, .mo (.st 1 (tm 10) (.const (.int .u8 4))), [0], false⟩,
  sm 3 11 (.fa 14 (tm 6)),
  se 4 (.st 41 (tm 11) (tm 9))])
  (.seq (.reg [sm 0 12 (.ldA 55 (tm 6)),
  se 1 (.st 55 (tm 4) (tm 12)),
  sm 2 5 (.mv (.const (.int .i64 0)))])
  .ret))))
def r21 : List Mo := [.ldA 55 (tm 4), .mv (tm 5)]
theorem c21_eq : compF Try.prog 21 = some c21 := by kernel_rfl
theorem r21_eq : compRs Try.prog 21 = some r21 := by kernel_rfl
/-! F22 braid/calls.Check$1 -/
def c22 : Cd := (.seq (.reg [sm 0 2 (.mv (.const (.bool false)))])
  (.seq (.reg [sv 0 3 0,
  sm 1 4 (.bld [.int .u8 0, .str [], .int .u8 0, .int .i64 0, .int .u64 0, .str []] [(0, 1, (.const (.int .u8 3))), (1, 1, (tm 3))]),
  sc 2 5 23 [(tm 4)],
  sm 3 6 (.bin .eql 38 (tm 5) (.const (.int .i64 0))),
  sv 4 2 6])
  .ret))
def r22 : List Mo := [.mv (tm 2)]
theorem c22_eq : compF Try.prog 22 = some c22 := by kernel_rfl
theorem r22_eq : compRs Try.prog 22 = some r22 := by kernel_rfl
/-! F23 braid/op.CheckAct -/
def c23 : Cd := (.seq (.reg [sm 0 1 (.box (tm 0)),
  sm 1 2 (.mv (.const (.int .i64 0)))])
  (.seq (.reg [sm 0 3 (.mv (.const (.bool false)))])
  (.seq (.seq (.reg [sm 0 4 (.fa 0 (tm 1)),
  sm 1 5 (.ld1 (tm 4))])
  (.block 0 (.seq (.reg [sm 0 7 (.bin .eql 5 (tm 5) (.const (.int .u8 1))),
  sv 1 6 7])
  (.cond (tm 6) (.reg [sm 0 8 (.ldA 6 (tm 1)),
  sm 1 9 (.bld [.int .u8 0, .str [], .int .u8 0, .int .i64 0, .int .u64 0, .str []] [(0, 1, (.const (.int .u8 1)))]),
  sm 2 10 (.bin .eql 27 (tm 8) (tm 9)),
  sv 3 3 10]) (.seq (.seq (.reg [sm 0 12 (.bin .eql 5 (tm 5) (.const (.int .u8 2))),
  sv 1 11 12])
  (.cond (tm 11) .skip (.reg [sm 0 13 (.bin .eql 5 (tm 5) (.const (.int .u8 3))),
  sv 1 11 13])))
  (.cond (tm 11) (.reg [sm 0 14 (.fa 1 (tm 1)),
  sm 1 15 (.ld1 (tm 14)),
  sc 2 16 36 [(tm 15)],
  sv 3 17 16,
  sg 4 18 17 true (.fa 2 (tm 1)),
  sg 5 19 17 true (.ldA 4 (tm 18)),
  sg 6 20 17 true (.bld [.int .u8 0, .int .i64 0, .int .u64 0, .str []] []),
  sg 7 21 17 true (.bin .eql 25 (tm 19) (tm 20)),
  sm 8 22 (.pick (tm 17) (tm 21) (.const (.bool false))),
  sv 9 3 22]) (.seq (.reg [sm 0 24 (.bin .eql 5 (tm 5) (.const (.int .u8 4))),
  sv 1 23 24])
  (.cond (tm 23) (.reg [sm 0 25 (.fa 1 (tm 1)),
  sm 1 26 (.ld1 (tm 25)),
  sc 2 27 36 [(tm 26)],
  sv 3 28 27,
  sg 4 29 28 true (.fa 2 (tm 1)),
  sg 5 30 28 true (.ldA 4 (tm 29)),
  ⟨6, (some 31), (some ((some 28), true)), .callF 37 [(tm 30)], [], false⟩,
  sg 7 32 28 true (.bin .eql 38 (tm 31) (.const (.int .i64 0))),
  sm 8 33 (.pick (tm 28) (tm 32) (.const (.bool false))),
  sv 9 3 33]) .skip))))))))
  (.seq (.seq (.reg [sv 0 34 3,
  sm 1 35 (.un .not (tm 34))])
  (.cond (tm 35) (.seq (.reg [sm 0 2 (.mv (.const (.int .i64 8)))])
  .ret) .skip))
  (.seq (.reg [sm 0 2 (.mv (.const (.int .i64 0)))])
  .ret)))))
def r23 : List Mo := [.mv (tm 2)]
theorem c23_eq : compF Try.prog 23 = some c23 := by kernel_rfl
theorem r23_eq : compRs Try.prog 23 = some r23 := by kernel_rfl
/-! F24 braid/calls.same -/
def c24 : Cd := (.seq (.reg [sm 0 2 (.box (tm 0)),
  sm 1 3 (.box (tm 1)),
  sm 2 4 (.mv (.const (.bool false)))])
  (.seq (.reg [sm 0 5 (.fa 0 (tm 2)),
  sm 1 6 (.ld1 (tm 5)),
  sm 2 7 (.fa 0 (tm 3)),
  sm 3 8 (.ld1 (tm 7)),
  sm 4 9 (.bin .eql 5 (tm 6) (tm 8)),
  sv 5 10 9,
  sg 6 11 10 true (.fa 1 (tm 2)),
  sg 7 12 10 true (.ld1 (tm 11)),
  sg 8 13 10 true (.fa 1 (tm 3)),
  sg 9 14 10 true (.ld1 (tm 13)),
  ⟨10, (some 15), (some ((some 10), true)), .callF 38 [(tm 12), (tm 14)], [], false⟩,
  sm 11 16 (.pick (tm 10) (tm 15) (.const (.bool false))),
  sv 12 17 16,
  sg 13 18 17 true (.fa 2 (tm 2)),
  sg 14 19 17 true (.ldA 6 (tm 18)),
  sg 15 20 17 true (.fa 2 (tm 3)),
  sg 16 21 17 true (.ldA 6 (tm 20)),
  sg 17 22 17 true (.bin .eql 27 (tm 19) (tm 21)),
  sm 18 23 (.pick (tm 17) (tm 22) (.const (.bool false))),
  sv 19 24 23,
  sg 20 25 24 true (.fa 8 (tm 2)),
  sg 21 26 24 true (.ld1 (tm 25)),
  sg 22 27 24 true (.fa 8 (tm 3)),
  sg 23 28 24 true (.ld1 (tm 27)),
  sg 24 29 24 true (.bin .eql 23 (tm 26) (tm 28)),
  sm 25 30 (.pick (tm 24) (tm 29) (.const (.bool false))),
  sv 26 31 30,
  sg 27 32 31 true (.fa 9 (tm 2)),
  sg 28 33 31 true (.ld1 (tm 32)),
  sg 29 34 31 true (.fa 9 (tm 3)),
  sg 30 35 31 true (.ld1 (tm 34)),
  sg 31 36 31 true (.bin .eql 9 (tm 33) (tm 35)),
  sm 32 37 (.pick (tm 31) (tm 36) (.const (.bool false))),
  sv 33 4 37])
  .ret))
def r24 : List Mo := [.mv (tm 4)]
theorem c24_eq : compF Try.prog 24 = some c24 := by kernel_rfl
theorem r24_eq : compRs Try.prog 24 = some r24 := by kernel_rfl
/-! F25 braid/calls.clean -/
def c25 : Cd := (.seq (.reg [sm 0 1 (.box (tm 0)),
  sm 1 2 (.alloc [.int .u8 0, .nilS, .int .u8 0, .str [], .int .u8 0, .int .i64 0, .int .u64 0, .str [], .int .u64 0, .str []])])
  (.seq (.reg [sm 0 4 (.fa 0 (tm 1)),
  sm 1 5 (.ld1 (tm 4)),
  sm 2 6 (.bld [.int .u8 0, .nilS, .int .u8 0, .str [], .int .u8 0, .int .i64 0, .int .u64 0, .str [], .int .u64 0, .str []] [(0, 1, (tm 5))]),
  sm 3 3 (.alloc [.int .u8 0, .nilS, .int .u8 0, .str [], .int .u8 0, .int .i64 0, .int .u64 0, .str [], .int .u64 0, .str []]),
  se 4 (.st 10 (tm 3) (tm 6))])
  (.seq (.seq (.reg [sm 0 7 (.fa 0 (tm 1)),
  sm 1 8 (.ld1 (tm 7))])
  (.block 0 (.seq (.reg [sm 0 10 (.bin .eql 5 (tm 8) (.const (.int .u8 1))),
  sv 1 9 10])
  (.cond (tm 9) (.reg [sm 0 11 (.fa 1 (tm 1)),
  sm 1 12 (.ld1 (tm 11)),
  sm 2 13 (.fa 1 (tm 3)),
  se 3 (.st 1 (tm 13) (tm 12))]) (.seq (.reg [sm 0 15 (.bin .eql 5 (tm 8) (.const (.int .u8 2))),
  sv 1 14 15])
  (.cond (tm 14) (.dreg [sm 0 16 (.fa 2 (tm 1)),
  sm 1 17 (.ldA 6 (tm 16)),
  sm 2 18 (.fa 8 (tm 1)),
  ⟨3, (some 19), none, .mo (.ld1 (tm 18)), [], true⟩,
  sm 4 20 (.fa 2 (tm 3)),
  ⟨5, none, none, .mo (.st 6 (tm 20) (tm 17)), [3], false⟩,
  sm 6 21 (.fa 8 (tm 3)),
  se 7 (.st 1 (tm 21) (tm 19))]) (.seq (.reg [sm 0 23 (.bin .eql 5 (tm 8) (.const (.int .u8 3))),
  sv 1 22 23])
  (.cond (tm 22) (.reg [sm 0 24 (.fa 9 (tm 1)),
  sm 1 25 (.ld1 (tm 24)),
  sm 2 26 (.fa 9 (tm 3)),
  se 3 (.st 1 (tm 26) (tm 25))]) .skip))))))))
  (.seq (.reg [sm 0 27 (.ldA 10 (tm 3)),
  se 1 (.st 10 (tm 2) (tm 27))])
  .ret))))
def r25 : List Mo := [.ldA 10 (tm 2)]
theorem c25_eq : compF Try.prog 25 = some c25 := by kernel_rfl
theorem r25_eq : compRs Try.prog 25 = some r25 := by kernel_rfl
/-! F26 braid/braidref28.bare -/
def c26 : Cd := (.seq (.reg [sm 0 1 (.box (tm 0)),
  sm 1 2 (.mv (.const (.bool false)))])
  (.seq (.reg [sm 0 3 (.alloc [.int .u8 0, .str [], .int .u8 0, .int .i64 0, .int .u64 0, .str []])])
  (.seq (.reg [sm 0 6 (.fa 1 (tm 1)),
  sm 1 7 (.ld1 (tm 6)),
  sm 2 8 (.len (.sl 1) (tm 7)),
  sm 3 9 (.bin .eql 3 (tm 8) (.const (.int .i64 0))),
  sv 4 10 9,
  sg 5 11 10 false (.fa 0 (tm 1)),
  sg 6 12 10 false (.ld1 (tm 11)),
  sg 7 13 10 false (.bin .eql 5 (tm 12) (.const (.int .u8 1))),
  sm 8 14 (.pick (tm 10) (.const (.bool true)) (tm 13)),
  sv 9 4 14])
  (.seq (.reg [sm 0 15 (.fa 2 (tm 1)),
  sm 1 16 (.ldA 6 (tm 15)),
  sm 2 17 (.ldA 6 (tm 3)),
  sm 3 18 (.bin .eql 27 (tm 16) (tm 17)),
  sv 4 19 18,
  sg 5 20 19 true (.fa 8 (tm 1)),
  sg 6 21 19 true (.ld1 (tm 20)),
  sg 7 22 19 true (.bin .eql 23 (tm 21) (.const (.int .u64 0))),
  sm 8 23 (.pick (tm 19) (tm 22) (.const (.bool false))),
  sv 9 24 23,
  sg 10 25 24 false (.fa 0 (tm 1)),
  sg 11 26 24 false (.ld1 (tm 25)),
  sg 12 27 24 false (.bin .eql 5 (tm 26) (.const (.int .u8 2))),
  sm 13 28 (.pick (tm 24) (.const (.bool true)) (tm 27)),
  sv 14 5 28])
  (.seq (.reg [sv 0 29 4,
  sv 1 30 29,
  sg 2 31 30 true (.mv (tm 5)),
  sm 3 32 (.pick (tm 30) (tm 31) (.const (.bool false))),
  sv 4 33 32,
  sg 5 34 33 true (.fa 9 (tm 1)),
  sg 6 35 33 true (.ld1 (tm 34)),
  sg 7 36 33 true (.bin .eql 9 (tm 35) (.const (.string ⟨#[]⟩))),
  sg 8 37 33 true (.mv (tm 36)),
  sg 9 38 37 false (.fa 0 (tm 1)),
  sg 10 39 37 false (.ld1 (tm 38)),
  sg 11 40 37 false (.bin .eql 5 (tm 39) (.const (.int .u8 3))),
  sg 12 41 33 true (.pick (tm 37) (.const (.bool true)) (tm 40)),
  sm 13 42 (.pick (tm 33) (tm 41) (.const (.bool false))),
  sv 14 2 42])
  .ret)))))
def r26 : List Mo := [.mv (tm 2)]
theorem c26_eq : compF Try.prog 26 = some c26 := by kernel_rfl
theorem r26_eq : compRs Try.prog 26 = some r26 := by kernel_rfl
/-! F27 braid/braidref06.CheckAct -/
def c27 : Cd := (.seq (.reg [sm 0 1 (.box (tm 0)),
  sm 1 2 (.mv (.const (.int .i64 0)))])
  (.seq (.reg [sm 0 4 (.fa 2 (tm 1)),
  sm 1 5 (.ldA 4 (tm 4)),
  sm 2 6 (.bld [.int .u8 0, .int .i64 0, .int .u64 0, .str []] []),
  sm 3 7 (.bin .eql 25 (tm 5) (tm 6)),
  sv 4 3 7])
  (.seq (.seq (.reg [sm 0 8 (.fa 0 (tm 1)),
  sm 1 9 (.ld1 (tm 8))])
  (.block 0 (.seq (.reg [sm 0 11 (.bin .eql 5 (tm 9) (.const (.int .u8 1))),
  sv 1 10 11])
  (.cond (tm 10) (.seq (.reg [sm 0 12 (.fa 1 (tm 1)),
  sm 1 13 (.ld1 (tm 12)),
  sm 2 14 (.bin .eql 9 (tm 13) (.const (.string ⟨#[]⟩))),
  sv 3 15 14,
  sg 4 16 15 true (.mv (tm 3)),
  sm 5 17 (.pick (tm 15) (tm 16) (.const (.bool false)))])
  (.cond (tm 17) (.seq (.reg [sm 0 2 (.mv (.const (.int .i64 0)))])
  .ret) .skip)) (.seq (.seq (.reg [sm 0 19 (.bin .eql 5 (tm 9) (.const (.int .u8 2))),
  sv 1 18 19])
  (.cond (tm 18) .skip (.reg [sm 0 20 (.bin .eql 5 (tm 9) (.const (.int .u8 3))),
  sv 1 18 20])))
  (.cond (tm 18) (.seq (.reg [sm 0 21 (.fa 1 (tm 1)),
  sm 1 22 (.ld1 (tm 21)),
  sc 2 23 39 [(tm 22)],
  sv 3 24 23,
  sg 4 25 24 true (.mv (tm 3)),
  sm 5 26 (.pick (tm 24) (tm 25) (.const (.bool false)))])
  (.cond (tm 26) (.seq (.reg [sm 0 2 (.mv (.const (.int .i64 0)))])
  .ret) .skip)) (.seq (.reg [sm 0 28 (.bin .eql 5 (tm 9) (.const (.int .u8 4))),
  sv 1 27 28])
  (.cond (tm 27) (.seq (.reg [sm 0 29 (.fa 1 (tm 1)),
  sm 1 30 (.ld1 (tm 29)),
  sc 2 31 39 [(tm 30)],
  sv 3 32 31,
  sg 4 33 32 true (.fa 2 (tm 1)),
  sg 5 34 32 true (.ldA 4 (tm 33)),
  ⟨6, (some 35), (some ((some 32), true)), .callF 40 [(tm 34)], [], false⟩,
  sg 7 36 32 true (.bin .eql 3 (tm 35) (.const (.int .i64 0))),
  sm 8 37 (.pick (tm 32) (tm 36) (.const (.bool false)))])
  (.cond (tm 37) (.seq (.reg [sm 0 2 (.mv (.const (.int .i64 0)))])
  .ret) .skip)) .skip))))))))
  (.seq (.reg [sm 0 2 (.mv (.const (.int .i64 8)))])
  .ret))))
def r27 : List Mo := [.mv (tm 2)]
theorem c27_eq : compF Try.prog 27 = some c27 := by kernel_rfl
theorem r27_eq : compRs Try.prog 27 = some r27 := by kernel_rfl
/-! F28 braid/braidref28.SameCall -/
def c28 : Cd := (.seq (.reg [sm 0 2 (.box (tm 0)),
  sm 1 3 (.box (tm 1)),
  sm 2 4 (.mv (.const (.bool false)))])
  (.seq (.reg [sm 0 5 (.fa 0 (tm 2)),
  sm 1 6 (.ld1 (tm 5)),
  sm 2 7 (.fa 0 (tm 3)),
  sm 3 8 (.ld1 (tm 7)),
  sm 4 9 (.bin .eql 5 (tm 6) (tm 8)),
  sv 5 10 9,
  sg 6 11 10 true (.fa 1 (tm 2)),
  sg 7 12 10 true (.ld1 (tm 11)),
  sg 8 13 10 true (.cbs (tm 12)),
  sg 9 14 10 true (.fa 1 (tm 3)),
  sg 10 15 10 true (.ld1 (tm 14)),
  sg 11 16 10 true (.cbs (tm 15)),
  sg 12 17 10 true (.bin .eql 9 (tm 13) (tm 16)),
  sm 13 18 (.pick (tm 10) (tm 17) (.const (.bool false))),
  sv 14 19 18,
  sg 15 20 19 true (.fa 2 (tm 2)),
  sg 16 21 19 true (.ldA 6 (tm 20)),
  sg 17 22 19 true (.fa 2 (tm 3)),
  sg 18 23 19 true (.ldA 6 (tm 22)),
  sg 19 24 19 true (.bin .eql 27 (tm 21) (tm 23)),
  sm 20 25 (.pick (tm 19) (tm 24) (.const (.bool false))),
  sv 21 26 25,
  sg 22 27 26 true (.fa 8 (tm 2)),
  sg 23 28 26 true (.ld1 (tm 27)),
  sg 24 29 26 true (.fa 8 (tm 3)),
  sg 25 30 26 true (.ld1 (tm 29)),
  sg 26 31 26 true (.bin .eql 23 (tm 28) (tm 30)),
  sm 27 32 (.pick (tm 26) (tm 31) (.const (.bool false))),
  sv 28 33 32,
  sg 29 34 33 true (.fa 9 (tm 2)),
  sg 30 35 33 true (.ld1 (tm 34)),
  sg 31 36 33 true (.fa 9 (tm 3)),
  sg 32 37 33 true (.ld1 (tm 36)),
  sg 33 38 33 true (.bin .eql 9 (tm 35) (tm 37)),
  sm 34 39 (.pick (tm 33) (tm 38) (.const (.bool false))),
  sv 35 4 39])
  .ret))
def r28 : List Mo := [.mv (tm 4)]
theorem c28_eq : compF Try.prog 28 = some c28 := by kernel_rfl
theorem r28_eq : compRs Try.prog 28 = some r28 := by kernel_rfl
/-! F29 braid/braidref28.SameAnswer -/
def l29_0 : Cd := (.seq (.seq (.reg [sv 0 55 5,
  sm 1 56 (.fa 39 (tm 2)),
  sm 2 57 (.ld1 (tm 56)),
  sm 3 58 (.len (.sl 32) (tm 57)),
  sm 4 59 (.bin .lss 3 (tm 55) (tm 58))])
  (.cond (tm 59) .skip (.exit 0)))
  (.seq (.block 1 (.seq (.reg [sm 0 62 (.fa 39 (tm 2)),
  sm 1 63 (.ld1 (tm 62)),
  sv 2 64 5,
  sm 3 65 (.ia (.sl 32) (tm 63) (tm 64)),
  sm 4 66 (.ldA 32 (tm 65)),
  sm 5 67 (.fa 39 (tm 3)),
  sm 6 68 (.ld1 (tm 67)),
  sv 7 69 5,
  sm 8 70 (.ia (.sl 32) (tm 68) (tm 69)),
  sm 9 71 (.ldA 32 (tm 70)),
  sm 10 72 (.bin .neq 31 (tm 66) (tm 71))])
  (.cond (tm 72) (.seq (.reg [sm 0 4 (.mv (.const (.bool false)))])
  .ret) .skip)))
  (.reg [sv 0 60 5,
  sm 1 61 (.bin .add 3 (tm 60) (.const (.int .i64 1))),
  sv 2 5 61])))
def c29 : Cd := (.seq (.reg [sm 0 2 (.box (tm 0)),
  sm 1 3 (.box (tm 1)),
  sm 2 4 (.mv (.const (.bool false)))])
  (.seq (.seq (.reg [sm 0 6 (.fa 0 (tm 2)),
  sm 1 7 (.ld1 (tm 6)),
  sm 2 8 (.fa 0 (tm 3)),
  sm 3 9 (.ld1 (tm 8)),
  sm 4 10 (.bin .neq 5 (tm 7) (tm 9)),
  sv 5 11 10,
  sg 6 12 11 false (.fa 1 (tm 2)),
  sg 7 13 11 false (.ldA 32 (tm 12)),
  sg 8 14 11 false (.fa 1 (tm 3)),
  sg 9 15 11 false (.ldA 32 (tm 14)),
  sg 10 16 11 false (.bin .neq 31 (tm 13) (tm 15)),
  sm 11 17 (.pick (tm 11) (.const (.bool true)) (tm 16)),
  sv 12 18 17,
  sg 13 19 18 false (.fa 33 (tm 2)),
  sg 14 20 18 false (.ld1 (tm 19)),
  sg 15 21 18 false (.fa 33 (tm 3)),
  sg 16 22 18 false (.ld1 (tm 21)),
  sg 17 23 18 false (.bin .neq 3 (tm 20) (tm 22)),
  sm 18 24 (.pick (tm 18) (.const (.bool true)) (tm 23)),
  sv 19 25 24,
  sg 20 26 25 false (.fa 34 (tm 2)),
  sg 21 27 25 false (.ld1 (tm 26)),
  sg 22 28 25 false (.fa 34 (tm 3)),
  sg 23 29 25 false (.ld1 (tm 28)),
  sg 24 30 25 false (.bin .neq 4 (tm 27) (tm 29)),
  sm 25 31 (.pick (tm 25) (.const (.bool true)) (tm 30)),
  sv 26 32 31,
  sg 27 33 32 false (.fa 35 (tm 2)),
  sg 28 34 32 false (.ldA 4 (tm 33)),
  sg 29 35 32 false (.fa 35 (tm 3)),
  sg 30 36 32 false (.ldA 4 (tm 35)),
  sg 31 37 32 false (.bin .neq 25 (tm 34) (tm 36)),
  sm 32 38 (.pick (tm 32) (.const (.bool true)) (tm 37)),
  sv 33 39 38,
  sg 34 40 39 false (.fa 40 (tm 2)),
  sg 35 41 39 false (.ld1 (tm 40)),
  sg 36 42 39 false (.fa 40 (tm 3)),
  sg 37 43 39 false (.ld1 (tm 42)),
  sg 38 44 39 false (.bin .neq 3 (tm 41) (tm 43)),
  sm 39 45 (.pick (tm 39) (.const (.bool true)) (tm 44)),
  sv 40 46 45,
  sg 41 47 46 false (.fa 39 (tm 2)),
  sg 42 48 46 false (.ld1 (tm 47)),
  sg 43 49 46 false (.len (.sl 32) (tm 48)),
  sg 44 50 46 false (.fa 39 (tm 3)),
  sg 45 51 46 false (.ld1 (tm 50)),
  sg 46 52 46 false (.len (.sl 32) (tm 51)),
  sg 47 53 46 false (.bin .neq 3 (tm 49) (tm 52)),
  sm 48 54 (.pick (tm 46) (.const (.bool true)) (tm 53))])
  (.cond (tm 54) (.seq (.reg [sm 0 4 (.mv (.const (.bool false)))])
  .ret) .skip))
  (.seq (.seq (.reg [sm 0 5 (.mv (.const (.int .i64 0)))])
  (.block 0 (.loop l29_0)))
  (.seq (.reg [sm 0 4 (.mv (.const (.bool true)))])
  .ret))))
def r29 : List Mo := [.mv (tm 4)]
theorem c29_eq : compF Try.prog 29 = some c29 := by kernel_rfl
theorem r29_eq : compRs Try.prog 29 = some r29 := by kernel_rfl
/-! F30 bytes.Clone -/
def c30 : Cd := (.seq (.reg [sm 0 2 (.mv (.const (.slice none 0 0)))])
  (.seq (.seq (.reg [sv 0 3 0,
  sm 1 4 (.bin .eql 22 (tm 3) (.const (.slice none 0 0)))])
  (.cond (tm 4) (.seq (.reg [sm 0 2 (.mv (.const (.slice none 0 0)))])
  .ret) .skip))
  (.seq (.reg [sm 0 5 (.bsl 1 [.int .u8 0] 0 []),
  sv 1 6 0,
  sm 2 7 (.app 1 1 (tm 5) (tm 6)),
  sv 3 2 7])
  .ret)))
def r30 : List Mo := [.mv (tm 2)]
theorem c30_eq : compF Try.prog 30 = some c30 := by kernel_rfl
theorem r30_eq : compRs Try.prog 30 = some r30 := by kernel_rfl
/-! F31 slices.Clone[[]braid/api.ID,braid/api.ID] -/
def c31 : Cd := (.seq (.reg [sm 0 2 (.mv (.const (.slice none 0 0)))])
  (.seq (.seq (.reg [sv 0 3 0,
  sm 1 4 (.bin .eql 32 (tm 3) (.const (.slice none 0 0)))])
  (.cond (tm 4) (.seq (.reg [sm 0 2 (.mv (.const (.slice none 0 0)))])
  .ret) .skip))
  (.seq (.reg [sm 0 5 (.bsl 32 (rep 32 (.int .u8 0)) 0 []),
  sv 1 6 0,
  sm 2 7 (.app 32 32 (tm 5) (tm 6)),
  sv 3 2 7])
  .ret)))
def r31 : List Mo := [.mv (tm 2)]
theorem c31_eq : compF Try.prog 31 = some c31 := by kernel_rfl
theorem r31_eq : compRs Try.prog 31 = some r31 := by kernel_rfl
/-! F32 braid/calls.Valid -/
def c32 : Cd := (.seq (.reg [sm 0 1 (.box (tm 0)),
  sm 1 2 (.mv (.const (.int .i64 0)))])
  (.seq (.reg [sm 0 7 (.fa 13 (tm 1)),
  sm 1 8 (.ld1 (tm 7)),
  sm 2 9 (.bin .geq 3 (tm 8) (.const (.int .i64 0))),
  sv 3 10 9,
  sg 4 11 10 true (.fa 13 (tm 1)),
  sg 5 12 10 true (.ld1 (tm 11)),
  sg 6 13 10 true (.bin .leq 3 (tm 12) (.const (.int .i64 1000000000))),
  sm 7 14 (.pick (tm 10) (tm 13) (.const (.bool false))),
  sv 8 3 14])
  (.seq (.reg [sm 0 15 (.fa 0 (tm 1)),
  sm 1 16 (.ldA 10 (tm 15)),
  sc 2 17 13 [(tm 16)],
  sm 3 18 (.bin .eql 38 (tm 17) (.const (.int .i64 0))),
  sv 4 4 18])
  (.seq (.seq (.reg [sm 0 19 (.fa 10 (tm 1)),
  sm 1 20 (.ld1 (tm 19))])
  (.block 0 (.seq (.reg [sm 0 22 (.bin .eql 5 (tm 20) (.const (.int .u8 1))),
  sv 1 21 22])
  (.cond (tm 21) (.reg [sv 0 23 4,
  sv 1 24 23,
  sg 2 25 24 true (.ldA 55 (tm 1)),
  ⟨3, (some 26), (some ((some 24), true)), .callF 41 [(tm 25)], [], false⟩,
  sm 4 27 (.pick (tm 24) (tm 26) (.const (.bool false))),
  sv 5 4 27]) (.seq (.reg [sm 0 29 (.bin .eql 5 (tm 20) (.const (.int .u8 2))),
  sv 1 28 29])
  (.cond (tm 28) (.reg [sv 0 30 4,
  sv 1 31 30,
  sg 2 32 31 true (.fa 0 (tm 1)),
  sg 3 33 31 true (.fa 0 (tm 32)),
  sg 4 34 31 true (.ld1 (tm 33)),
  sg 5 35 31 true (.bin .eql 5 (tm 34) (.const (.int .u8 2))),
  sm 6 36 (.pick (tm 31) (tm 35) (.const (.bool false))),
  sv 7 37 36,
  sg 8 38 37 true (.ldA 55 (tm 1)),
  ⟨9, (some 39), (some ((some 37), true)), .callF 42 [(tm 38)], [], false⟩,
  sm 10 40 (.pick (tm 37) (tm 39) (.const (.bool false))),
  sv 11 41 40,
  sg 12 42 41 true (.fa 13 (tm 1)),
  sg 13 43 41 true (.ld1 (tm 42)),
  sg 14 44 41 true (.bin .eql 3 (tm 43) (.const (.int .i64 (-1)))),
  sm 15 45 (.pick (tm 41) (tm 44) (.const (.bool false))),
  sv 16 4 45]) (.seq (.reg [sm 0 47 (.bin .eql 5 (tm 20) (.const (.int .u8 3))),
  sv 1 46 47])
  (.cond (tm 46) (.reg [sv 0 48 4,
  sv 1 49 48,
  sg 2 50 49 true (.ldA 55 (tm 1)),
  ⟨3, (some 51), (some ((some 49), true)), .callF 42 [(tm 50)], [], false⟩,
  sm 4 52 (.pick (tm 49) (tm 51) (.const (.bool false))),
  sv 5 53 52,
  sg 6 54 53 true (.mv (tm 3)),
  sm 7 55 (.pick (tm 53) (tm 54) (.const (.bool false))),
  sv 8 4 55]) (.seq (.reg [sm 0 57 (.bin .eql 5 (tm 20) (.const (.int .u8 4))),
  sv 1 56 57])
  (.cond (tm 56) (.reg [sv 0 58 4,
  sv 1 59 58,
  sg 2 60 59 true (.ldA 55 (tm 1)),
  ⟨3, (some 61), (some ((some 59), true)), .callF 41 [(tm 60)], [], false⟩,
  sg 4 62 59 true (.mv (tm 61)),
  sg 5 63 62 false (.ldA 55 (tm 1)),
  ⟨6, (some 64), (some ((some 62), false)), .callF 42 [(tm 63)], [], false⟩,
  sg 7 65 62 false (.mv (tm 64)),
  sg 8 66 65 true (.mv (tm 3)),
  sg 9 67 65 true (.mv (tm 66)),
  sg 10 68 67 false (.fa 13 (tm 1)),
  sg 11 69 67 false (.ld1 (tm 68)),
  sg 12 70 67 false (.bin .eql 3 (tm 69) (.const (.int .i64 (-1)))),
  sg 13 71 65 true (.pick (tm 67) (.const (.bool true)) (tm 70)),
  sg 14 72 62 false (.pick (tm 65) (tm 71) (.const (.bool false))),
  sg 15 73 59 true (.pick (tm 62) (.const (.bool true)) (tm 72)),
  sm 16 74 (.pick (tm 59) (tm 73) (.const (.bool false))),
  sv 17 4 74]) (.reg [sm 0 4 (.mv (.const (.bool false)))])))))))))))
  (.seq (.reg [sm 0 75 (.fa 14 (tm 1)),
  sm 1 76 (.ldA 41 (tm 75)),
  sm 2 5 (.alloc (rep 33 (.int .u8 0) ++ [.int .i64 0, .bool false, .int .u8 0, .int .i64 0, .int .u64 0, .str [], .nilS, .int .i64 0])),
  se 3 (.st 41 (tm 5) (tm 76))])
  (.seq (.reg [sm 0 77 (.fa 0 (tm 5)),
  sm 1 78 (.ld1 (tm 77)),
  sm 2 79 (.bin .eql 5 (tm 78) (.const (.int .u8 0))),
  sv 3 80 79,
  sg 4 81 80 true (.fa 1 (tm 5)),
  sg 5 82 80 true (.ldA 32 (tm 81)),
  sg 6 83 80 true (.bld (rep 32 (.int .u8 0)) []),
  sg 7 84 80 true (.bin .eql 31 (tm 82) (tm 83)),
  sm 8 85 (.pick (tm 80) (tm 84) (.const (.bool false))),
  sv 9 86 85,
  sg 10 87 86 true (.fa 33 (tm 5)),
  sg 11 88 86 true (.ld1 (tm 87)),
  sg 12 89 86 true (.bin .eql 3 (tm 88) (.const (.int .i64 0))),
  sm 13 90 (.pick (tm 86) (tm 89) (.const (.bool false))),
  sv 14 91 90,
  sg 15 92 91 true (.fa 34 (tm 5)),
  sg 16 93 91 true (.ld1 (tm 92)),
  sg 17 94 91 true (.un .not (tm 93)),
  sm 18 95 (.pick (tm 91) (tm 94) (.const (.bool false))),
  sv 19 96 95,
  sg 20 97 96 true (.fa 35 (tm 5)),
  sg 21 98 96 true (.ldA 4 (tm 97)),
  sg 22 99 96 true (.bld [.int .u8 0, .int .i64 0, .int .u64 0, .str []] []),
  sg 23 100 96 true (.bin .eql 25 (tm 98) (tm 99)),
  sm 24 101 (.pick (tm 96) (tm 100) (.const (.bool false))),
  sv 25 102 101,
  sg 26 103 102 true (.fa 39 (tm 5)),
  sg 27 104 102 true (.ld1 (tm 103)),
  sg 28 105 102 true (.len (.sl 32) (tm 104)),
  sg 29 106 102 true (.bin .eql 3 (tm 105) (.const (.int .i64 0))),
  sm 30 107 (.pick (tm 102) (tm 106) (.const (.bool false))),
  sv 31 108 107,
  sg 32 109 108 true (.fa 40 (tm 5)),
  sg 33 110 108 true (.ld1 (tm 109)),
  sg 34 111 108 true (.bin .eql 3 (tm 110) (.const (.int .i64 0))),
  sm 35 112 (.pick (tm 108) (tm 111) (.const (.bool false))),
  sv 36 6 112])
  (.seq (.seq (.reg [sv 0 113 4,
  sm 1 114 (.un .not (tm 113)),
  sv 2 115 114,
  sg 3 116 115 false (.fa 10 (tm 1)),
  sg 4 117 115 false (.ld1 (tm 116)),
  sg 5 118 115 false (.bin .neq 5 (tm 117) (.const (.int .u8 4))),
  sg 6 119 115 false (.mv (tm 118)),
  sg 7 120 119 true (.mv (tm 6)),
  sg 8 121 119 true (.un .not (tm 120)),
  sg 9 122 115 false (.pick (tm 119) (tm 121) (.const (.bool false))),
  sm 10 123 (.pick (tm 115) (.const (.bool true)) (tm 122))])
  (.cond (tm 123) (.seq (.reg [sm 0 2 (.mv (.const (.int .i64 8)))])
  .ret) .skip))
  (.seq (.reg [sm 0 2 (.mv (.const (.int .i64 0)))])
  .ret))))))))
def r32 : List Mo := [.mv (tm 2)]
theorem c32_eq : compF Try.prog 32 = some c32 := by kernel_rfl
theorem r32_eq : compRs Try.prog 32 = some r32 := by kernel_rfl
/-! F33 braid/calls.needs -/
def c33 : Cd := (.seq (.reg [sm 0 1 (.box (tm 0)),
  sm 1 2 (.mv (.const (.int .u8 0)))])
  (.seq (.seq (.reg [sm 0 3 (.fa 10 (tm 1)),
  sm 1 4 (.ld1 (tm 3))])
  (.block 0 (.seq (.reg [sm 0 6 (.bin .eql 5 (tm 4) (.const (.int .u8 4))),
  sv 1 5 6])
  (.cond (tm 5) (.seq (.reg [sm 0 2 (.mv (.const (.int .u8 6)))])
  .ret) (.seq (.reg [sm 0 8 (.bin .eql 5 (tm 4) (.const (.int .u8 3))),
  sv 1 7 8])
  (.cond (tm 7) (.seq (.reg [sm 0 2 (.mv (.const (.int .u8 5)))])
  .ret) (.seq (.reg [sm 0 10 (.bin .eql 5 (tm 4) (.const (.int .u8 2))),
  sv 1 9 10])
  (.cond (tm 9) (.seq (.reg [sm 0 2 (.mv (.const (.int .u8 2)))])
  .ret) .skip))))))))
  (.seq (.reg [sm 0 11 (.fa 0 (tm 1)),
  sm 1 12 (.ldA 10 (tm 11)),
  sc 2 13 43 [(tm 12)],
  ⟨3, (some 14), none, .callI (tm 13) "braid/calls.first" [], [], false⟩,
  sv 4 2 14])
  .ret)))
def r33 : List Mo := [.mv (tm 2)]
theorem c33_eq : compF Try.prog 33 = some c33 := by kernel_rfl
theorem r33_eq : compRs Try.prog 33 = some r33 := by kernel_rfl
/-! F34 braid/braidref28.Valid -/
def c34 : Cd := (.seq (.reg [sm 0 1 (.box (tm 0)),
  sm 1 2 (.mv (.const (.int .i64 0)))])
  (.seq (.reg [sm 0 3 (.mv (.const (.bool false)))])
  (.seq (.seq (.reg [sm 0 4 (.fa 10 (tm 1)),
  sm 1 5 (.ld1 (tm 4))])
  (.block 0 (.seq (.reg [sm 0 7 (.bin .eql 5 (tm 5) (.const (.int .u8 1))),
  sv 1 6 7])
  (.cond (tm 6) (.reg [sm 0 8 (.ldA 55 (tm 1)),
  sc 1 9 44 [(tm 8)],
  sv 2 3 9]) (.seq (.reg [sm 0 11 (.bin .eql 5 (tm 5) (.const (.int .u8 2))),
  sv 1 10 11])
  (.cond (tm 10) (.reg [sm 0 12 (.fa 0 (tm 1)),
  sm 1 13 (.fa 0 (tm 12)),
  sm 2 14 (.ld1 (tm 13)),
  sm 3 15 (.bin .eql 5 (tm 14) (.const (.int .u8 2))),
  sv 4 16 15,
  sg 5 17 16 true (.ldA 55 (tm 1)),
  ⟨6, (some 18), (some ((some 16), true)), .callF 45 [(tm 17)], [], false⟩,
  sm 7 19 (.pick (tm 16) (tm 18) (.const (.bool false))),
  sv 8 20 19,
  sg 9 21 20 true (.fa 13 (tm 1)),
  sg 10 22 20 true (.ld1 (tm 21)),
  sg 11 23 20 true (.bin .eql 3 (tm 22) (.const (.int .i64 (-1)))),
  sm 12 24 (.pick (tm 20) (tm 23) (.const (.bool false))),
  sv 13 3 24]) (.seq (.reg [sm 0 26 (.bin .eql 5 (tm 5) (.const (.int .u8 3))),
  sv 1 25 26])
  (.cond (tm 25) (.reg [sm 0 27 (.ldA 55 (tm 1)),
  sc 1 28 45 [(tm 27)],
  sv 2 29 28,
  sg 3 30 29 true (.fa 13 (tm 1)),
  sg 4 31 29 true (.ld1 (tm 30)),
  ⟨5, (some 32), (some ((some 29), true)), .callF 46 [(tm 31)], [], false⟩,
  sm 6 33 (.pick (tm 29) (tm 32) (.const (.bool false))),
  sv 7 3 33]) (.seq (.reg [sm 0 35 (.bin .eql 5 (tm 5) (.const (.int .u8 4))),
  sv 1 34 35])
  (.cond (tm 34) (.reg [sm 0 36 (.ldA 55 (tm 1)),
  sc 1 37 44 [(tm 36)],
  sv 2 38 37,
  sg 3 39 38 false (.ldA 55 (tm 1)),
  ⟨4, (some 40), (some ((some 38), false)), .callF 45 [(tm 39)], [], false⟩,
  sg 5 41 38 false (.mv (tm 40)),
  sg 6 42 41 true (.fa 13 (tm 1)),
  sg 7 43 41 true (.ld1 (tm 42)),
  sg 8 44 41 true (.bin .eql 3 (tm 43) (.const (.int .i64 (-1)))),
  sg 9 45 41 true (.mv (tm 44)),
  sg 10 46 45 false (.fa 13 (tm 1)),
  sg 11 47 45 false (.ld1 (tm 46)),
  ⟨12, (some 48), (some ((some 45), false)), .callF 46 [(tm 47)], [], false⟩,
  sg 13 49 41 true (.pick (tm 45) (.const (.bool true)) (tm 48)),
  sg 14 50 38 false (.pick (tm 41) (tm 49) (.const (.bool false))),
  sm 15 51 (.pick (tm 38) (.const (.bool true)) (tm 50)),
  sv 16 3 51]) .skip))))))))))
  (.seq (.seq (.reg [sm 0 52 (.fa 0 (tm 1)),
  sm 1 53 (.ldA 10 (tm 52)),
  sc 2 54 14 [(tm 53)],
  sm 3 55 (.bin .neq 3 (tm 54) (.const (.int .i64 0))),
  sv 4 56 55,
  sg 5 57 56 false (.mv (tm 3)),
  sg 6 58 56 false (.un .not (tm 57)),
  sm 7 59 (.pick (tm 56) (.const (.bool true)) (tm 58)),
  sv 8 60 59,
  sg 9 61 60 false (.fa 10 (tm 1)),
  sg 10 62 60 false (.ld1 (tm 61)),
  sg 11 63 60 false (.bin .neq 5 (tm 62) (.const (.int .u8 4))),
  sg 12 64 60 false (.mv (tm 63)),
  sg 13 65 64 true (.fa 14 (tm 1)),
  sg 14 66 64 true (.ldA 41 (tm 65)),
  ⟨15, (some 67), (some ((some 64), true)), .callF 47 [(tm 66)], [], false⟩,
  sg 16 68 64 true (.un .not (tm 67)),
  sg 17 69 60 false (.pick (tm 64) (tm 68) (.const (.bool false))),
  sm 18 70 (.pick (tm 60) (.const (.bool true)) (tm 69))])
  (.cond (tm 70) (.seq (.reg [sm 0 2 (.mv (.const (.int .i64 8)))])
  .ret) .skip))
  (.seq (.reg [sm 0 2 (.mv (.const (.int .i64 0)))])
  .ret)))))
def r34 : List Mo := [.mv (tm 2)]
theorem c34_eq : compF Try.prog 34 = some c34 := by kernel_rfl
theorem r34_eq : compRs Try.prog 34 = some r34 := by kernel_rfl
/-! F35 braid/braidref28.Needs -/
def c35 : Cd := (.seq (.reg [sm 0 1 (.box (tm 0)),
  sm 1 2 (.mv (.const (.int .u8 0)))])
  (.seq (.block 0 (.seq (.reg [sm 0 4 (.fa 10 (tm 1)),
  sm 1 5 (.ld1 (tm 4)),
  sm 2 6 (.bin .eql 5 (tm 5) (.const (.int .u8 4))),
  sv 3 3 6])
  (.cond (tm 3) (.seq (.reg [sm 0 2 (.mv (.const (.int .u8 6)))])
  .ret) (.seq (.reg [sm 0 8 (.fa 10 (tm 1)),
  sm 1 9 (.ld1 (tm 8)),
  sm 2 10 (.bin .eql 5 (tm 9) (.const (.int .u8 3))),
  sv 3 7 10])
  (.cond (tm 7) (.seq (.reg [sm 0 2 (.mv (.const (.int .u8 5)))])
  .ret) (.seq (.reg [sm 0 12 (.fa 10 (tm 1)),
  sm 1 13 (.ld1 (tm 12)),
  sm 2 14 (.bin .eql 5 (tm 13) (.const (.int .u8 2))),
  sv 3 15 14,
  sg 4 16 15 false (.fa 0 (tm 1)),
  sg 5 17 15 false (.fa 0 (tm 16)),
  sg 6 18 15 false (.ld1 (tm 17)),
  sg 7 19 15 false (.bin .eql 5 (tm 18) (.const (.int .u8 1))),
  sm 8 20 (.pick (tm 15) (.const (.bool true)) (tm 19)),
  sv 9 11 20])
  (.cond (tm 11) (.seq (.reg [sm 0 2 (.mv (.const (.int .u8 2)))])
  .ret) (.seq (.reg [sm 0 22 (.fa 0 (tm 1)),
  sm 1 23 (.fa 0 (tm 22)),
  sm 2 24 (.ld1 (tm 23)),
  sm 3 25 (.bin .eql 5 (tm 24) (.const (.int .u8 5))),
  sv 4 21 25])
  (.cond (tm 21) (.seq (.reg [sm 0 2 (.mv (.const (.int .u8 3)))])
  .ret) (.seq (.reg [sm 0 27 (.fa 0 (tm 1)),
  sm 1 28 (.fa 0 (tm 27)),
  sm 2 29 (.ld1 (tm 28)),
  sm 3 30 (.bin .eql 5 (tm 29) (.const (.int .u8 6))),
  sv 4 26 30])
  (.cond (tm 26) (.seq (.reg [sm 0 2 (.mv (.const (.int .u8 4)))])
  .ret) .skip)))))))))))
  (.seq (.reg [sm 0 2 (.mv (.const (.int .u8 1)))])
  .ret)))
def r35 : List Mo := [.mv (tm 2)]
theorem c35_eq : compF Try.prog 35 = some c35 := by kernel_rfl
theorem r35_eq : compRs Try.prog 35 = some r35 := by kernel_rfl
/-! F36 braid/op.key -/
def c36 : Cd := (.seq (.reg [sm 0 2 (.mv (.const (.bool false)))])
  (.seq (.reg [sv 0 3 0,
  sm 1 4 (.len .str (tm 3)),
  sm 2 5 (.bin .geq 3 (tm 4) (.const (.int .i64 1))),
  sv 3 6 5,
  sg 4 7 6 true (.mv (tm 0)),
  sg 5 8 6 true (.len .str (tm 7)),
  sg 6 9 6 true (.bin .leq 3 (tm 8) (.const (.int .i64 20))),
  sm 7 10 (.pick (tm 6) (tm 9) (.const (.bool false))),
  sv 8 11 10,
  sg 9 12 11 true (.mv (tm 0)),
  ⟨10, (some 13), (some ((some 11), true)), .callF 48 [(tm 12), (.func 49)], [], false⟩,
  sg 11 14 11 true (.bin .lss 3 (tm 13) (.const (.int .i64 0))),
  sm 12 15 (.pick (tm 11) (tm 14) (.const (.bool false))),
  sv 13 2 15])
  .ret))
def r36 : List Mo := [.mv (tm 2)]
theorem c36_eq : compF Try.prog 36 = some c36 := by kernel_rfl
theorem r36_eq : compRs Try.prog 36 = some r36 := by kernel_rfl
/-! F37 braid/value.Check -/
def c37 : Cd := (.seq (.reg [sm 0 1 (.box (tm 0)),
  sm 1 2 (.mv (.const (.int .i64 0)))])
  (.seq (.reg [sm 0 3 (.alloc [.int .u8 0, .int .i64 0, .int .u64 0, .str []])])
  (.seq (.seq (.reg [sm 0 4 (.fa 0 (tm 1)),
  sm 1 5 (.ld1 (tm 4))])
  (.block 0 (.seq (.reg [sm 0 7 (.bin .eql 5 (tm 5) (.const (.int .u8 1))),
  sv 1 6 7])
  (.cond (tm 6) (.reg [sm 0 8 (.fa 1 (tm 1)),
  sm 1 9 (.ld1 (tm 8)),
  sc 2 10 50 [(tm 9)],
  se 3 (.st 4 (tm 3) (tm 10))]) (.seq (.reg [sm 0 12 (.bin .eql 5 (tm 5) (.const (.int .u8 2))),
  sv 1 11 12])
  (.cond (tm 11) (.reg [sm 0 13 (.fa 2 (tm 1)),
  sm 1 14 (.ld1 (tm 13)),
  sc 2 15 51 [(tm 14)],
  se 3 (.st 4 (tm 3) (tm 15))]) (.seq (.reg [sm 0 17 (.bin .eql 5 (tm 5) (.const (.int .u8 3))),
  sv 1 16 17])
  (.cond (tm 16) (.reg [sm 0 19 (.fa 3 (tm 1)),
  sm 1 20 (.ld1 (tm 19)),
  sc 2 21 52 [(tm 20)],
  sv 3 18 21,
  sm 4 22 (.ext (tm 18) 0),
  sm 5 23 (.ext (tm 18) 1),
  se 6 (.st 4 (tm 3) (tm 22))]) .skip))))))))
  (.seq (.seq (.reg [sm 0 24 (.ldA 4 (tm 1)),
  sm 1 25 (.ldA 4 (tm 3)),
  sm 2 26 (.bin .neq 25 (tm 24) (tm 25)),
  sv 3 27 26,
  sg 4 28 27 false (.fa 0 (tm 1)),
  sg 5 29 27 false (.ld1 (tm 28)),
  sg 6 30 27 false (.bin .eql 5 (tm 29) (.const (.int .u8 0))),
  sm 7 31 (.pick (tm 27) (.const (.bool true)) (tm 30))])
  (.cond (tm 31) (.seq (.reg [sm 0 2 (.mv (.const (.int .i64 8)))])
  .ret) .skip))
  (.seq (.reg [sm 0 2 (.mv (.const (.int .i64 0)))])
  .ret)))))
def r37 : List Mo := [.mv (tm 2)]
theorem c37_eq : compF Try.prog 37 = some c37 := by kernel_rfl
theorem r37_eq : compRs Try.prog 37 = some r37 := by kernel_rfl
/-! F38 bytes.Equal -/
def c38 : Cd := (.seq (.reg [sm 0 4 (.mv (.const (.bool false)))])
  (.seq (.reg [sv 0 5 0,
  sm 1 6 (.cbs (tm 5)),
  sv 2 7 1,
  sm 3 8 (.cbs (tm 7)),
  sm 4 9 (.bin .eql 9 (tm 6) (tm 8)),
  sv 5 4 9])
  .ret))
def r38 : List Mo := [.mv (tm 4)]
theorem c38_eq : compF Try.prog 38 = some c38 := by kernel_rfl
theorem r38_eq : compRs Try.prog 38 = some r38 := by kernel_rfl
/-! F39 braid/braidref06.Name -/
def l39_0 : Cd := (.seq (.seq (.reg [sv 0 12 3,
  sv 1 13 0,
  sm 2 14 (.len .str (tm 13)),
  sm 3 15 (.bin .lss 3 (tm 12) (tm 14))])
  (.cond (tm 15) .skip (.exit 0)))
  (.seq (.block 1 (.seq (.reg [sv 0 18 0,
  sv 1 19 3,
  sm 2 20 (.ixT (tm 18) (tm 19)),
  sm 3 21 (.bin .lss 5 (tm 20) (.const (.int .u8 33))),
  sv 4 22 21,
  sg 5 23 22 false (.mv (tm 0)),
  sg 6 24 22 false (.mv (tm 3)),
  sg 7 25 22 false (.ixT (tm 23) (tm 24)),
  sg 8 26 22 false (.bin .gtr 5 (tm 25) (.const (.int .u8 126))),
  sm 9 27 (.pick (tm 22) (.const (.bool true)) (tm 26))])
  (.cond (tm 27) (.seq (.reg [sm 0 2 (.mv (.const (.bool false)))])
  .ret) .skip)))
  (.reg [sv 0 16 3,
  sm 1 17 (.bin .add 3 (tm 16) (.const (.int .i64 1))),
  sv 2 3 17])))
def c39 : Cd := (.seq (.reg [sm 0 2 (.mv (.const (.bool false)))])
  (.seq (.seq (.reg [sv 0 4 0,
  sm 1 5 (.len .str (tm 4)),
  sm 2 6 (.bin .lss 3 (tm 5) (.const (.int .i64 1))),
  sv 3 7 6,
  sg 4 8 7 false (.mv (tm 0)),
  sg 5 9 7 false (.len .str (tm 8)),
  sg 6 10 7 false (.bin .gtr 3 (tm 9) (.const (.int .i64 20))),
  sm 7 11 (.pick (tm 7) (.const (.bool true)) (tm 10))])
  (.cond (tm 11) (.seq (.reg [sm 0 2 (.mv (.const (.bool false)))])
  .ret) .skip))
  (.seq (.seq (.reg [sm 0 3 (.mv (.const (.int .i64 0)))])
  (.block 0 (.loop l39_0)))
  (.seq (.reg [sm 0 2 (.mv (.const (.bool true)))])
  .ret))))
def r39 : List Mo := [.mv (tm 2)]
theorem c39_eq : compF Try.prog 39 = some c39 := by kernel_rfl
theorem r39_eq : compRs Try.prog 39 = some r39 := by kernel_rfl
/-! F40 braid/braidref05.Check -/
def c40 : Cd := (.seq (.reg [sm 0 1 (.box (tm 0)),
  sm 1 2 (.mv (.const (.int .i64 0)))])
  (.seq (.seq (.reg [sm 0 3 (.fa 0 (tm 1)),
  sm 1 4 (.ld1 (tm 3))])
  (.block 0 (.seq (.reg [sm 0 6 (.bin .eql 5 (tm 4) (.const (.int .u8 1))),
  sv 1 5 6])
  (.cond (tm 5) (.seq (.reg [sm 0 7 (.fa 2 (tm 1)),
  sm 1 8 (.ld1 (tm 7)),
  sm 2 9 (.bin .eql 23 (tm 8) (.const (.int .u64 0))),
  sv 3 10 9,
  sg 4 11 10 true (.fa 3 (tm 1)),
  sg 5 12 10 true (.ld1 (tm 11)),
  sg 6 13 10 true (.bin .eql 9 (tm 12) (.const (.string ⟨#[]⟩))),
  sm 7 14 (.pick (tm 10) (tm 13) (.const (.bool false)))])
  (.cond (tm 14) (.seq (.reg [sm 0 2 (.mv (.const (.int .i64 0)))])
  .ret) .skip)) (.seq (.reg [sm 0 16 (.bin .eql 5 (tm 4) (.const (.int .u8 2))),
  sv 1 15 16])
  (.cond (tm 15) (.seq (.dreg [sm 0 17 (.fa 1 (tm 1)),
  sm 1 18 (.ld1 (tm 17)),
  sm 2 19 (.bin .eql 2 (tm 18) (.const (.int .i64 0))),
  sv 3 20 19,
  sg 4 21 20 true (.fa 3 (tm 1)),
  sg 5 22 20 true (.ld1 (tm 21)),
  sg 6 23 20 true (.bin .eql 9 (tm 22) (.const (.string ⟨#[]⟩))),
  sm 7 24 (.pick (tm 20) (tm 23) (.const (.bool false))),
  sv 8 25 24,
  sg 9 26 25 true (.fa 2 (tm 1)),
  sg 10 27 25 true (.ld1 (tm 26)),
  sg 12 29 25 true (.fa 2 (tm 1)),
  ⟨13, (some 30), (some ((some 25), true)), .mo (.ld1 (tm 29)), [], true⟩,
  ⟨11, (some 28), (some ((some 25), true)), .callF 53 [(tm 27)], [13], false⟩,
  sg 14 31 25 true (.bin .eql 23 (tm 28) (tm 30)),
  sm 15 32 (.pick (tm 25) (tm 31) (.const (.bool false)))])
  (.cond (tm 32) (.seq (.reg [sm 0 2 (.mv (.const (.int .i64 0)))])
  .ret) .skip)) (.seq (.reg [sm 0 34 (.bin .eql 5 (tm 4) (.const (.int .u8 3))),
  sv 1 33 34])
  (.cond (tm 33) (.seq (.reg [sm 0 35 (.fa 1 (tm 1)),
  sm 1 36 (.ld1 (tm 35)),
  sm 2 37 (.bin .eql 2 (tm 36) (.const (.int .i64 0))),
  sv 3 38 37,
  sg 4 39 38 true (.fa 2 (tm 1)),
  sg 5 40 38 true (.ld1 (tm 39)),
  sg 6 41 38 true (.bin .eql 23 (tm 40) (.const (.int .u64 0))),
  sm 7 42 (.pick (tm 38) (tm 41) (.const (.bool false))),
  sv 8 43 42,
  sg 9 44 43 true (.fa 3 (tm 1)),
  sg 10 45 43 true (.ld1 (tm 44)),
  sg 11 46 43 true (.len .str (tm 45)),
  sg 12 47 43 true (.bin .leq 3 (tm 46) (.const (.int .i64 30))),
  sm 13 48 (.pick (tm 43) (tm 47) (.const (.bool false))),
  sv 14 49 48,
  sg 15 50 49 true (.fa 3 (tm 1)),
  sg 16 51 49 true (.ld1 (tm 50)),
  ⟨17, (some 52), (some ((some 49), true)), .callF 54 [(tm 51)], [], false⟩,
  sm 18 53 (.pick (tm 49) (tm 52) (.const (.bool false)))])
  (.cond (tm 53) (.seq (.reg [sm 0 2 (.mv (.const (.int .i64 0)))])
  .ret) .skip)) .skip))))))))
  (.seq (.reg [sm 0 2 (.mv (.const (.int .i64 8)))])
  .ret)))
def r40 : List Mo := [.mv (tm 2)]
theorem c40_eq : compF Try.prog 40 = some c40 := by kernel_rfl
theorem r40_eq : compRs Try.prog 40 = some r40 := by kernel_rfl
/-! F41 braid/calls.fresh -/
def c41 : Cd := (.seq (.reg [sm 0 1 (.box (tm 0)),
  sm 1 2 (.mv (.const (.bool false)))])
  (.seq (.reg [sm 0 3 (.fa 11 (tm 1)),
  sm 1 4 (.ld1 (tm 3)),
  sm 2 5 (.bin .eql 3 (tm 4) (.const (.int .i64 0))),
  sv 3 6 5,
  sg 4 7 6 true (.fa 13 (tm 1)),
  sg 5 8 6 true (.ld1 (tm 7)),
  sg 6 9 6 true (.bin .eql 3 (tm 8) (.const (.int .i64 (-1)))),
  sm 7 10 (.pick (tm 6) (tm 9) (.const (.bool false))),
  sv 8 11 10,
  sg 9 12 11 true (.fa 12 (tm 1)),
  sg 10 13 11 true (.ld1 (tm 12)),
  sg 11 14 11 true (.fa 0 (tm 1)),
  sg 12 15 11 true (.fa 1 (tm 14)),
  sg 13 16 11 true (.ld1 (tm 15)),
  ⟨14, (some 17), (some ((some 11), true)), .callF 38 [(tm 13), (tm 16)], [], false⟩,
  sm 15 18 (.pick (tm 11) (tm 17) (.const (.bool false))),
  sv 16 2 18])
  .ret))
def r41 : List Mo := [.mv (tm 2)]
theorem c41_eq : compF Try.prog 41 = some c41 := by kernel_rfl
theorem r41_eq : compRs Try.prog 41 = some r41 := by kernel_rfl
/-! F42 braid/calls.ready -/
def c42 : Cd := (.seq (.reg [sm 0 1 (.box (tm 0)),
  sm 1 2 (.mv (.const (.bool false)))])
  (.seq (.seq (.reg [sm 0 3 (.fa 0 (tm 1)),
  sm 1 4 (.ldA 10 (tm 3)),
  sc 2 5 43 [(tm 4)]])
  (.block 0 (.seq (.reg [sm 0 6 (.tas 87 (.ag []) true (tm 5)),
  sm 1 7 (.ext (tm 6) 1),
  sm 2 8 (.ext (tm 6) 0)])
  (.cond (tm 7) (.seq (.reg [sm 0 9 (.fa 11 (tm 1)),
  sm 1 10 (.ld1 (tm 9)),
  sm 2 11 (.bin .eql 3 (tm 10) (.const (.int .i64 0))),
  sv 3 12 11,
  sg 4 13 12 true (.fa 12 (tm 1)),
  sg 5 14 12 true (.ld1 (tm 13)),
  sg 6 15 12 true (.fa 0 (tm 1)),
  sg 7 16 12 true (.fa 1 (tm 15)),
  sg 8 17 12 true (.ld1 (tm 16)),
  ⟨9, (some 18), (some ((some 12), true)), .callF 38 [(tm 14), (tm 17)], [], false⟩,
  sm 10 19 (.pick (tm 12) (tm 18) (.const (.bool false))),
  sv 11 2 19])
  .ret) (.seq (.reg [sm 0 20 (.tas 88 (.ag []) true (tm 5)),
  sm 1 21 (.ext (tm 20) 1),
  sm 2 22 (.ext (tm 20) 0)])
  (.cond (tm 21) (.seq (.reg [sm 0 23 (.fa 0 (tm 1)),
  sm 1 24 (.fa 0 (tm 23)),
  sm 2 25 (.ld1 (tm 24)),
  sm 3 26 (.bin .eql 5 (tm 25) (.const (.int .u8 2))),
  sv 4 27 26,
  sg 5 28 27 true (.fa 11 (tm 1)),
  sg 6 29 27 true (.ld1 (tm 28)),
  sg 7 30 27 true (.bin .geq 3 (tm 29) (.const (.int .i64 0))),
  sm 8 31 (.pick (tm 27) (tm 30) (.const (.bool false))),
  sv 9 32 31,
  sg 10 33 32 true (.fa 12 (tm 1)),
  sg 11 34 32 true (.ld1 (tm 33)),
  sg 12 35 32 true (.len (.sl 1) (tm 34)),
  sg 13 36 32 true (.bin .leq 3 (tm 35) (.const (.int .i64 2000))),
  sm 14 37 (.pick (tm 32) (tm 36) (.const (.bool false))),
  sv 15 2 37])
  .ret) .skip))))))
  (.seq (.reg [sm 0 2 (.mv (.const (.bool false)))])
  .ret)))
def r42 : List Mo := [.mv (tm 2)]
theorem c42_eq : compF Try.prog 42 = some c42 := by kernel_rfl
theorem r42_eq : compRs Try.prog 42 = some r42 := by kernel_rfl
/-! F43 braid/calls.kind -/
def c43 : Cd := (.seq (.reg [sm 0 1 (.box (tm 0)),
  sm 1 2 (.mv (.const .nilIface))])
  (.seq (.seq (.reg [sm 0 3 (.fa 0 (tm 1)),
  sm 1 4 (.ld1 (tm 3))])
  (.block 0 (.seq (.reg [sm 0 6 (.bin .eql 5 (tm 4) (.const (.int .u8 1))),
  sv 1 5 6])
  (.cond (tm 5) (.seq (.reg [sm 0 7 (.bld [] []),
  sm 1 8 (.mkI 87 (tm 7)),
  sv 2 2 8])
  .ret) (.seq (.reg [sm 0 10 (.bin .eql 5 (tm 4) (.const (.int .u8 5))),
  sv 1 9 10])
  (.cond (tm 9) (.seq (.reg [sm 0 11 (.bld [] []),
  sm 1 12 (.mkI 89 (tm 11)),
  sv 2 2 12])
  .ret) (.seq (.reg [sm 0 14 (.bin .eql 5 (tm 4) (.const (.int .u8 6))),
  sv 1 13 14])
  (.cond (tm 13) (.seq (.reg [sm 0 15 (.bld [] []),
  sm 1 16 (.mkI 90 (tm 15)),
  sv 2 2 16])
  .ret) .skip))))))))
  (.seq (.reg [sm 0 17 (.bld [] []),
  sm 1 18 (.mkI 88 (tm 17)),
  sv 2 2 18])
  .ret)))
def r43 : List Mo := [.mv (tm 2)]
theorem c43_eq : compF Try.prog 43 = some c43 := by kernel_rfl
theorem r43_eq : compRs Try.prog 43 = some r43 := by kernel_rfl
/-! F44 braid/braidref28.opened -/
def c44 : Cd := (.seq (.reg [sm 0 1 (.box (tm 0)),
  sm 1 2 (.mv (.const (.bool false)))])
  (.seq (.seq (.reg [sm 0 3 (.fa 0 (tm 1)),
  sm 1 4 (.fa 0 (tm 3)),
  sm 2 5 (.ld1 (tm 4)),
  sm 3 6 (.bin .eql 5 (tm 5) (.const (.int .u8 1)))])
  (.cond (tm 6) (.seq (.reg [sm 0 7 (.fa 11 (tm 1)),
  sm 1 8 (.ld1 (tm 7)),
  sm 2 9 (.bin .eql 3 (tm 8) (.const (.int .i64 0))),
  sv 3 10 9,
  sg 4 11 10 true (.fa 13 (tm 1)),
  sg 5 12 10 true (.ld1 (tm 11)),
  sg 6 13 10 true (.bin .eql 3 (tm 12) (.const (.int .i64 (-1)))),
  sm 7 14 (.pick (tm 10) (tm 13) (.const (.bool false))),
  sv 8 15 14,
  sg 9 16 15 true (.fa 12 (tm 1)),
  sg 10 17 15 true (.ld1 (tm 16)),
  sg 11 18 15 true (.cbs (tm 17)),
  sg 12 19 15 true (.fa 0 (tm 1)),
  sg 13 20 15 true (.fa 1 (tm 19)),
  sg 14 21 15 true (.ld1 (tm 20)),
  sg 15 22 15 true (.cbs (tm 21)),
  sg 16 23 15 true (.bin .eql 9 (tm 18) (tm 22)),
  sm 17 24 (.pick (tm 15) (tm 23) (.const (.bool false))),
  sv 18 2 24])
  .ret) .skip))
  (.seq (.reg [sm 0 25 (.fa 11 (tm 1)),
  sm 1 26 (.ld1 (tm 25)),
  sm 2 27 (.bin .eql 3 (tm 26) (.const (.int .i64 0))),
  sv 3 28 27,
  sg 4 29 28 true (.fa 13 (tm 1)),
  sg 5 30 28 true (.ld1 (tm 29)),
  sg 6 31 28 true (.bin .eql 3 (tm 30) (.const (.int .i64 (-1)))),
  sm 7 32 (.pick (tm 28) (tm 31) (.const (.bool false))),
  sv 8 33 32,
  sg 9 34 33 true (.fa 12 (tm 1)),
  sg 10 35 33 true (.ld1 (tm 34)),
  sg 11 36 33 true (.len (.sl 1) (tm 35)),
  sg 12 37 33 true (.bin .eql 3 (tm 36) (.const (.int .i64 0))),
  sm 13 38 (.pick (tm 33) (tm 37) (.const (.bool false))),
  sv 14 2 38])
  .ret)))
def r44 : List Mo := [.mv (tm 2)]
theorem c44_eq : compF Try.prog 44 = some c44 := by kernel_rfl
theorem r44_eq : compRs Try.prog 44 = some r44 := by kernel_rfl
/-! F45 braid/braidref28.built -/
def c45 : Cd := (.seq (.reg [sm 0 1 (.box (tm 0)),
  sm 1 2 (.mv (.const (.bool false)))])
  (.seq (.seq (.reg [sm 0 3 (.fa 0 (tm 1)),
  sm 1 4 (.fa 0 (tm 3)),
  sm 2 5 (.ld1 (tm 4)),
  sm 3 6 (.bin .eql 5 (tm 5) (.const (.int .u8 1)))])
  (.cond (tm 6) (.seq (.reg [sm 0 7 (.fa 11 (tm 1)),
  sm 1 8 (.ld1 (tm 7)),
  sm 2 9 (.bin .eql 3 (tm 8) (.const (.int .i64 0))),
  sv 3 10 9,
  sg 4 11 10 true (.fa 12 (tm 1)),
  sg 5 12 10 true (.ld1 (tm 11)),
  sg 6 13 10 true (.cbs (tm 12)),
  sg 7 14 10 true (.fa 0 (tm 1)),
  sg 8 15 10 true (.fa 1 (tm 14)),
  sg 9 16 10 true (.ld1 (tm 15)),
  sg 10 17 10 true (.cbs (tm 16)),
  sg 11 18 10 true (.bin .eql 9 (tm 13) (tm 17)),
  sm 12 19 (.pick (tm 10) (tm 18) (.const (.bool false))),
  sv 13 2 19])
  .ret) .skip))
  (.seq (.reg [sm 0 20 (.fa 0 (tm 1)),
  sm 1 21 (.fa 0 (tm 20)),
  sm 2 22 (.ld1 (tm 21)),
  sm 3 23 (.bin .eql 5 (tm 22) (.const (.int .u8 2))),
  sv 4 24 23,
  sg 5 25 24 true (.fa 11 (tm 1)),
  sg 6 26 24 true (.ld1 (tm 25)),
  sg 7 27 24 true (.bin .geq 3 (tm 26) (.const (.int .i64 0))),
  sm 8 28 (.pick (tm 24) (tm 27) (.const (.bool false))),
  sv 9 29 28,
  sg 10 30 29 true (.fa 12 (tm 1)),
  sg 11 31 29 true (.ld1 (tm 30)),
  sg 12 32 29 true (.len (.sl 1) (tm 31)),
  sg 13 33 29 true (.bin .leq 3 (tm 32) (.const (.int .i64 2000))),
  sm 14 34 (.pick (tm 29) (tm 33) (.const (.bool false))),
  sv 15 2 34])
  .ret)))
def r45 : List Mo := [.mv (tm 2)]
theorem c45_eq : compF Try.prog 45 = some c45 := by kernel_rfl
theorem r45_eq : compRs Try.prog 45 = some r45 := by kernel_rfl
/-! F46 braid/braidref28.sent -/
def c46 : Cd := (.seq (.reg [sm 0 2 (.mv (.const (.bool false)))])
  (.seq (.reg [sv 0 3 0,
  sm 1 4 (.bin .geq 3 (tm 3) (.const (.int .i64 0))),
  sv 2 5 4,
  sg 3 6 5 true (.mv (tm 0)),
  sg 4 7 5 true (.bin .leq 3 (tm 6) (.const (.int .i64 1000000000))),
  sm 5 8 (.pick (tm 5) (tm 7) (.const (.bool false))),
  sv 6 2 8])
  .ret))
def r46 : List Mo := [.mv (tm 2)]
theorem c46_eq : compF Try.prog 46 = some c46 := by kernel_rfl
theorem r46_eq : compRs Try.prog 46 = some r46 := by kernel_rfl
/-! F47 braid/braidref28.noAnswer -/
def c47 : Cd := (.seq (.reg [sm 0 1 (.box (tm 0)),
  sm 1 2 (.mv (.const (.bool false)))])
  (.seq (.reg [sm 0 3 (.fa 0 (tm 1)),
  sm 1 4 (.ld1 (tm 3)),
  sm 2 5 (.bin .eql 5 (tm 4) (.const (.int .u8 0))),
  sv 3 6 5,
  sg 4 7 6 true (.fa 1 (tm 1)),
  sg 5 8 6 true (.ldA 32 (tm 7)),
  sg 6 9 6 true (.bld (rep 32 (.int .u8 0)) []),
  sg 7 10 6 true (.bin .eql 31 (tm 8) (tm 9)),
  sm 8 11 (.pick (tm 6) (tm 10) (.const (.bool false))),
  sv 9 12 11,
  sg 10 13 12 true (.fa 33 (tm 1)),
  sg 11 14 12 true (.ld1 (tm 13)),
  sg 12 15 12 true (.bin .eql 3 (tm 14) (.const (.int .i64 0))),
  sm 13 16 (.pick (tm 12) (tm 15) (.const (.bool false))),
  sv 14 17 16,
  sg 15 18 17 true (.fa 34 (tm 1)),
  sg 16 19 17 true (.ld1 (tm 18)),
  sg 17 20 17 true (.un .not (tm 19)),
  sm 18 21 (.pick (tm 17) (tm 20) (.const (.bool false))),
  sv 19 22 21,
  sg 20 23 22 true (.fa 35 (tm 1)),
  sg 21 24 22 true (.ldA 4 (tm 23)),
  sg 22 25 22 true (.bld [.int .u8 0, .int .i64 0, .int .u64 0, .str []] []),
  sg 23 26 22 true (.bin .eql 25 (tm 24) (tm 25)),
  sm 24 27 (.pick (tm 22) (tm 26) (.const (.bool false))),
  sv 25 28 27,
  sg 26 29 28 true (.fa 39 (tm 1)),
  sg 27 30 28 true (.ld1 (tm 29)),
  sg 28 31 28 true (.len (.sl 32) (tm 30)),
  sg 29 32 28 true (.bin .eql 3 (tm 31) (.const (.int .i64 0))),
  sm 30 33 (.pick (tm 28) (tm 32) (.const (.bool false))),
  sv 31 34 33,
  sg 32 35 34 true (.fa 40 (tm 1)),
  sg 33 36 34 true (.ld1 (tm 35)),
  sg 34 37 34 true (.bin .eql 3 (tm 36) (.const (.int .i64 0))),
  sm 35 38 (.pick (tm 34) (tm 37) (.const (.bool false))),
  sv 36 2 38])
  .ret))
def r47 : List Mo := [.mv (tm 2)]
theorem c47_eq : compF Try.prog 47 = some c47 := by kernel_rfl
theorem r47_eq : compRs Try.prog 47 = some r47 := by kernel_rfl
/-! F48 strings.IndexFunc -/
def c48 : Cd := (.seq (.reg [sm 0 4 (.mv (.const (.int .i64 0)))])
  (.seq (.reg [sv 0 5 0,
  sv 1 6 1,
  sc 2 7 55 [(tm 5), (tm 6), (.const (.bool true))],
  sv 3 4 7])
  .ret))
def r48 : List Mo := [.mv (tm 4)]
theorem c48_eq : compF Try.prog 48 = some c48 := by kernel_rfl
theorem r48_eq : compRs Try.prog 48 = some r48 := by kernel_rfl
/-! F49 braid/op.key$1 -/
def c49 : Cd := (.seq (.reg [sm 0 2 (.mv (.const (.bool false)))])
  (.seq (.reg [sv 0 3 0,
  sm 1 4 (.bin .lss 21 (tm 3) (.const (.int .i32 33))),
  sv 2 5 4,
  sg 3 6 5 false (.mv (tm 0)),
  sg 4 7 5 false (.bin .gtr 21 (tm 6) (.const (.int .i32 126))),
  sm 5 8 (.pick (tm 5) (.const (.bool true)) (tm 7)),
  sv 6 2 8])
  .ret))
def r49 : List Mo := [.mv (tm 2)]
theorem c49_eq : compF Try.prog 49 = some c49 := by kernel_rfl
theorem r49_eq : compRs Try.prog 49 = some r49 := by kernel_rfl
/-! F50 braid/value.Number -/
def c50 : Cd := (.seq (.reg [sm 0 2 (.alloc [.int .u8 0, .int .i64 0, .int .u64 0, .str []])])
  (.seq (.reg [sv 0 3 0,
  sm 1 4 (.bld [.int .u8 0, .int .i64 0, .int .u64 0, .str []] [(0, 1, (.const (.int .u8 1))), (1, 1, (tm 3))]),
  se 2 (.st 4 (tm 2) (tm 4))])
  .ret))
def r50 : List Mo := [.ldA 4 (tm 2)]
theorem c50_eq : compF Try.prog 50 = some c50 := by kernel_rfl
theorem r50_eq : compRs Try.prog 50 = some r50 := by kernel_rfl
/-! F51 braid/value.Float -/
def c51 : Cd := (.seq (.reg [sm 0 2 (.alloc [.int .u8 0, .int .i64 0, .int .u64 0, .str []])])
  (.seq (.reg [sv 0 3 0,
  sc 1 4 56 [(tm 3)],
  sm 2 5 (.bld [.int .u8 0, .int .i64 0, .int .u64 0, .str []] [(0, 1, (.const (.int .u8 2))), (2, 1, (tm 4))]),
  se 3 (.st 4 (tm 2) (tm 5))])
  .ret))
def r51 : List Mo := [.ldA 4 (tm 2)]
theorem c51_eq : compF Try.prog 51 = some c51 := by kernel_rfl
theorem r51_eq : compRs Try.prog 51 = some r51 := by kernel_rfl
/-! F52 braid/value.Text -/
def c52 : Cd := (.seq (.reg [sm 0 2 (.alloc [.int .u8 0, .int .i64 0, .int .u64 0, .str []]),
  sm 1 3 (.mv (.const (.int .i64 0)))])
  (.seq (.seq (.reg [sv 0 4 0,
  sm 1 5 (.len .str (tm 4)),
  sm 2 6 (.bin .gtr 3 (tm 5) (.const (.int .i64 30)))])
  (.cond (tm 6) (.seq (.reg [sm 0 7 (.bld [.int .u8 0, .int .i64 0, .int .u64 0, .str []] []),
  se 1 (.st 4 (tm 2) (tm 7)),
  sm 2 3 (.mv (.const (.int .i64 4)))])
  .ret) .skip))
  (.seq (.seq (.reg [sv 0 8 0,
  sc 1 9 48 [(tm 8), (.func 57)],
  sm 2 10 (.bin .geq 3 (tm 9) (.const (.int .i64 0)))])
  (.cond (tm 10) (.seq (.reg [sm 0 11 (.bld [.int .u8 0, .int .i64 0, .int .u64 0, .str []] []),
  se 1 (.st 4 (tm 2) (tm 11)),
  sm 2 3 (.mv (.const (.int .i64 8)))])
  .ret) .skip))
  (.seq (.reg [sv 0 12 0,
  sm 1 13 (.bld [.int .u8 0, .int .i64 0, .int .u64 0, .str []] [(0, 1, (.const (.int .u8 3))), (3, 1, (tm 12))]),
  se 2 (.st 4 (tm 2) (tm 13)),
  sm 3 3 (.mv (.const (.int .i64 0)))])
  .ret))))
def r52 : List Mo := [.ldA 4 (tm 2), .mv (tm 3)]
theorem c52_eq : compF Try.prog 52 = some c52 := by kernel_rfl
theorem r52_eq : compRs Try.prog 52 = some r52 := by kernel_rfl
/-! F53 braid/braidref05.Canon -/
def c53 : Cd := (.seq (.reg [sm 0 2 (.mv (.const (.int .u64 0)))])
  (.seq (.seq (.reg [sv 0 3 0,
  sc 1 4 58 [(tm 3)],
  sm 2 5 (.bin .eql 5 (tm 4) (.const (.int .u8 5)))])
  (.cond (tm 5) (.seq (.reg [sm 0 2 (.mv (.const (.int .u64 9221120237041090560)))])
  .ret) .skip))
  (.seq (.reg [sv 0 6 0,
  sv 1 2 6])
  .ret)))
def r53 : List Mo := [.mv (tm 2)]
theorem c53_eq : compF Try.prog 53 = some c53 := by kernel_rfl
theorem r53_eq : compRs Try.prog 53 = some r53 := by kernel_rfl
/-! F54 braid/braidref05.Printable -/
def l54_0 : Cd := (.seq (.seq (.reg [sv 0 4 3,
  sv 1 5 0,
  sm 2 6 (.len .str (tm 5)),
  sm 3 7 (.bin .lss 3 (tm 4) (tm 6))])
  (.cond (tm 7) .skip (.exit 0)))
  (.seq (.block 1 (.seq (.reg [sv 0 10 0,
  sv 1 11 3,
  sm 2 12 (.ixT (tm 10) (tm 11)),
  sm 3 13 (.bin .lss 5 (tm 12) (.const (.int .u8 32))),
  sv 4 14 13,
  sg 5 15 14 false (.mv (tm 0)),
  sg 6 16 14 false (.mv (tm 3)),
  sg 7 17 14 false (.ixT (tm 15) (tm 16)),
  sg 8 18 14 false (.bin .gtr 5 (tm 17) (.const (.int .u8 126))),
  sm 9 19 (.pick (tm 14) (.const (.bool true)) (tm 18))])
  (.cond (tm 19) (.seq (.reg [sm 0 2 (.mv (.const (.bool false)))])
  .ret) .skip)))
  (.reg [sv 0 8 3,
  sm 1 9 (.bin .add 3 (tm 8) (.const (.int .i64 1))),
  sv 2 3 9])))
def c54 : Cd := (.seq (.reg [sm 0 2 (.mv (.const (.bool false)))])
  (.seq (.seq (.reg [sm 0 3 (.mv (.const (.int .i64 0)))])
  (.block 0 (.loop l54_0)))
  (.seq (.reg [sm 0 2 (.mv (.const (.bool true)))])
  .ret)))
def r54 : List Mo := [.mv (tm 2)]
theorem c54_eq : compF Try.prog 54 = some c54 := by kernel_rfl
theorem r54_eq : compRs Try.prog 54 = some r54 := by kernel_rfl
/-! F55 strings.indexFunc -/
def l55_0 : Cd := (.seq (.reg [sm 0 11 (.nxtS (tm 10)),
  sm 1 12 (.ext (tm 11) 0)])
  (.seq (.cond (tm 12) .skip (.exit 0))
  (.block 1 (.seq (.reg [sm 0 13 (.ext (tm 11) 1),
  sm 1 14 (.ext (tm 11) 2),
  sv 2 7 13,
  sv 3 8 14])
  (.seq (.reg [sv 0 15 1,
  sv 1 16 8,
  ⟨2, (some 17), none, .callV (tm 15) [(tm 16)], [], false⟩,
  sv 3 18 2,
  sm 4 19 (.bin .eql 4 (tm 17) (tm 18))])
  (.cond (tm 19) (.seq (.reg [sv 0 20 7,
  sv 1 6 20])
  .ret) .skip))))))
def c55 : Cd := (.seq (.reg [sm 0 6 (.mv (.const (.int .i64 0)))])
  (.seq (.seq (.reg [sv 0 9 0,
  sm 1 10 (.rngS (tm 9))])
  (.block 0 (.loop l55_0)))
  (.seq (.reg [sm 0 6 (.mv (.const (.int .i64 (-1))))])
  .ret)))
def r55 : List Mo := [.mv (tm 6)]
theorem c55_eq : compF Try.prog 55 = some c55 := by kernel_rfl
theorem r55_eq : compRs Try.prog 55 = some r55 := by kernel_rfl
/-! F56 braid/value.Canon -/
def c56 : Cd := (.seq (.reg [sm 0 2 (.mv (.const (.int .u64 0)))])
  (.seq (.seq (.reg [sv 0 3 0,
  sc 1 4 59 [(tm 3)],
  sm 2 5 (.bin .eql 5 (tm 4) (.const (.int .u8 5)))])
  (.cond (tm 5) (.seq (.reg [sm 0 2 (.mv (.const (.int .u64 9221120237041090560)))])
  .ret) .skip))
  (.seq (.reg [sv 0 6 0,
  sv 1 2 6])
  .ret)))
def r56 : List Mo := [.mv (tm 2)]
theorem c56_eq : compF Try.prog 56 = some c56 := by kernel_rfl
theorem r56_eq : compRs Try.prog 56 = some r56 := by kernel_rfl
/-! F57 braid/value.Text$1 -/
def c57 : Cd := (.seq (.reg [sm 0 2 (.mv (.const (.bool false)))])
  (.seq (.reg [sv 0 3 0,
  sm 1 4 (.bin .lss 21 (tm 3) (.const (.int .i32 32))),
  sv 2 5 4,
  sg 3 6 5 false (.mv (tm 0)),
  sg 4 7 5 false (.bin .gtr 21 (tm 6) (.const (.int .i32 126))),
  sm 5 8 (.pick (tm 5) (.const (.bool true)) (tm 7)),
  sv 6 2 8])
  .ret))
def r57 : List Mo := [.mv (tm 2)]
theorem c57_eq : compF Try.prog 57 = some c57 := by kernel_rfl
theorem r57_eq : compRs Try.prog 57 = some r57 := by kernel_rfl
/-! F58 braid/braidref05.Class -/
def c58 : Cd := (.seq (.reg [sm 0 2 (.mv (.const (.int .u8 0)))])
  (.seq (.reg [sv 0 5 0,
  sc 1 6 60 [(tm 5)],
  sv 2 7 0,
  sc 3 8 61 [(tm 7)],
  sv 4 3 6,
  sv 5 4 8])
  (.seq (.seq (.reg [sv 0 9 3,
  sm 1 10 (.bin .eql 3 (tm 9) (.const (.int .i64 0))),
  sv 2 11 10,
  sg 3 12 11 true (.mv (tm 4)),
  sg 4 13 11 true (.bin .eql 23 (tm 12) (.const (.int .u64 0))),
  sm 5 14 (.pick (tm 11) (tm 13) (.const (.bool false)))])
  (.cond (tm 14) (.seq (.reg [sm 0 2 (.mv (.const (.int .u8 1)))])
  .ret) .skip))
  (.seq (.seq (.reg [sv 0 15 3,
  sm 1 16 (.bin .eql 3 (tm 15) (.const (.int .i64 0)))])
  (.cond (tm 16) (.seq (.reg [sm 0 2 (.mv (.const (.int .u8 2)))])
  .ret) .skip))
  (.seq (.seq (.reg [sv 0 17 3,
  sm 1 18 (.bin .lss 3 (tm 17) (.const (.int .i64 2047)))])
  (.cond (tm 18) (.seq (.reg [sm 0 2 (.mv (.const (.int .u8 3)))])
  .ret) .skip))
  (.seq (.seq (.reg [sv 0 19 4,
  sm 1 20 (.bin .eql 23 (tm 19) (.const (.int .u64 0)))])
  (.cond (tm 20) (.seq (.reg [sm 0 2 (.mv (.const (.int .u8 4)))])
  .ret) .skip))
  (.seq (.reg [sm 0 2 (.mv (.const (.int .u8 5)))])
  .ret)))))))
def r58 : List Mo := [.mv (tm 2)]
theorem c58_eq : compF Try.prog 58 = some c58 := by kernel_rfl
theorem r58_eq : compRs Try.prog 58 = some r58 := by kernel_rfl
/-! F59 braid/value.Class -/
def c59 : Cd := (.seq (.reg [sm 0 2 (.mv (.const (.int .u8 0)))])
  (.seq (.reg [sv 0 6 0,
  sc 1 7 62 [(tm 6)],
  sv 2 5 7,
  sm 3 8 (.ext (tm 5) 0),
  sm 4 9 (.ext (tm 5) 1),
  sv 5 3 8,
  sv 6 4 9])
  (.seq (.block 0 (.seq (.reg [sv 0 11 3,
  sm 1 12 (.bin .eql 3 (tm 11) (.const (.int .i64 2047))),
  sv 2 13 12,
  sg 3 14 13 true (.mv (tm 4)),
  sg 4 15 13 true (.bin .neq 23 (tm 14) (.const (.int .u64 0))),
  sm 5 16 (.pick (tm 13) (tm 15) (.const (.bool false))),
  sv 6 10 16])
  (.cond (tm 10) (.seq (.reg [sm 0 2 (.mv (.const (.int .u8 5)))])
  .ret) (.seq (.reg [sv 0 18 3,
  sm 1 19 (.bin .eql 3 (tm 18) (.const (.int .i64 2047))),
  sv 2 17 19])
  (.cond (tm 17) (.seq (.reg [sm 0 2 (.mv (.const (.int .u8 4)))])
  .ret) (.seq (.reg [sv 0 21 3,
  sm 1 22 (.bin .neq 3 (tm 21) (.const (.int .i64 0))),
  sv 2 20 22])
  (.cond (tm 20) (.seq (.reg [sm 0 2 (.mv (.const (.int .u8 3)))])
  .ret) (.seq (.reg [sv 0 24 4,
  sm 1 25 (.bin .neq 23 (tm 24) (.const (.int .u64 0))),
  sv 2 23 25])
  (.cond (tm 23) (.seq (.reg [sm 0 2 (.mv (.const (.int .u8 2)))])
  .ret) .skip)))))))))
  (.seq (.reg [sm 0 2 (.mv (.const (.int .u8 1)))])
  .ret))))
def r59 : List Mo := [.mv (tm 2)]
theorem c59_eq : compF Try.prog 59 = some c59 := by kernel_rfl
theorem r59_eq : compRs Try.prog 59 = some r59 := by kernel_rfl
/-! F60 braid/braidref05.Exponent -/
def c60 : Cd := (.seq (.reg [sm 0 2 (.mv (.const (.int .i64 0)))])
  (.seq (.reg [sv 0 3 0,
  sm 1 4 (.bin .rem 23 (tm 3) (.const (.int .u64 9223372036854775808))),
  sm 2 5 (.bin .quo 23 (tm 4) (.const (.int .u64 4503599627370496))),
  sm 3 6 (.cint .i64 (tm 5)),
  sv 4 2 6])
  .ret))
def r60 : List Mo := [.mv (tm 2)]
theorem c60_eq : compF Try.prog 60 = some c60 := by kernel_rfl
theorem r60_eq : compRs Try.prog 60 = some r60 := by kernel_rfl
/-! F61 braid/braidref05.Fraction -/
def c61 : Cd := (.seq (.reg [sm 0 2 (.mv (.const (.int .u64 0)))])
  (.seq (.reg [sv 0 3 0,
  sm 1 4 (.bin .rem 23 (tm 3) (.const (.int .u64 4503599627370496))),
  sv 2 2 4])
  .ret))
def r61 : List Mo := [.mv (tm 2)]
theorem c61_eq : compF Try.prog 61 = some c61 := by kernel_rfl
theorem r61_eq : compRs Try.prog 61 = some r61 := by kernel_rfl
/-! F62 braid/value.split -/
def c62 : Cd := (.seq (.reg [sm 0 2 (.mv (.const (.int .i64 0))),
  sm 1 3 (.mv (.const (.int .u64 0)))])
  (.seq (.reg [sv 0 4 0,
  sm 1 5 (.bin .shr 23 (tm 4) (.const (.int .u64 52))),
  sm 2 6 (.cint .i64 (tm 5)),
  sm 3 7 (.bin .and 3 (tm 6) (.const (.int .i64 2047))),
  sv 4 8 0,
  sm 5 9 (.bin .and 23 (tm 8) (.const (.int .u64 4503599627370495))),
  sv 6 2 7,
  sv 7 3 9])
  .ret))
def r62 : List Mo := [.mv (tm 2), .mv (tm 3)]
theorem c62_eq : compF Try.prog 62 = some c62 := by kernel_rfl
theorem r62_eq : compRs Try.prog 62 = some r62 := by kernel_rfl
/-! F79 (braid/calls.putting).first -/
def c79 : Cd := (.seq (.reg [sm 0 1 (.box (tm 0)),
  sm 1 2 (.mv (.const (.int .u8 0)))])
  (.seq (.reg [sm 0 2 (.mv (.const (.int .u8 2)))])
  .ret))
def r79 : List Mo := [.mv (tm 2)]
theorem c79_eq : compF Try.prog 79 = some c79 := by kernel_rfl
theorem r79_eq : compRs Try.prog 79 = some r79 := by kernel_rfl
/-! F80 (braid/calls.loading).first -/
def c80 : Cd := (.seq (.reg [sm 0 1 (.box (tm 0)),
  sm 1 2 (.mv (.const (.int .u8 0)))])
  (.seq (.reg [sm 0 2 (.mv (.const (.int .u8 1)))])
  .ret))
def r80 : List Mo := [.mv (tm 2)]
theorem c80_eq : compF Try.prog 80 = some c80 := by kernel_rfl
theorem r80_eq : compRs Try.prog 80 = some r80 := by kernel_rfl
/-! F81 (braid/calls.subbing).first -/
def c81 : Cd := (.seq (.reg [sm 0 1 (.box (tm 0)),
  sm 1 2 (.mv (.const (.int .u8 0)))])
  (.seq (.reg [sm 0 2 (.mv (.const (.int .u8 3)))])
  .ret))
def r81 : List Mo := [.mv (tm 2)]
theorem c81_eq : compF Try.prog 81 = some c81 := by kernel_rfl
theorem r81_eq : compRs Try.prog 81 = some r81 := by kernel_rfl
/-! F82 (braid/calls.closing).first -/
def c82 : Cd := (.seq (.reg [sm 0 1 (.box (tm 0)),
  sm 1 2 (.mv (.const (.int .u8 0)))])
  (.seq (.reg [sm 0 2 (.mv (.const (.int .u8 4)))])
  .ret))
def r82 : List Mo := [.mv (tm 2)]
theorem c82_eq : compF Try.prog 82 = some c82 := by kernel_rfl
theorem r82_eq : compRs Try.prog 82 = some r82 := by kernel_rfl
end Go.CM

/-
  SHA-256, as lists of words and bytes; the words of a block.
-/
namespace Go.CM
open Go
set_option linter.unusedVariables false
set_option linter.unusedSimpArgs false

namespace Sha
abbrev W := BitVec 32
abbrev B := BitVec 8
def rotr (x : W) (n : Nat) : W := (x >>> n) ||| (x <<< (32 - n))
def wd (l : List B) : W := l.foldl (fun a x => (a <<< 8) ||| x.setWidth 32) 0#32
/-- The first sixteen words, after so many bytes. -/
def part (b : List B) (k t : Nat) : W := wd (((b.take k).drop (4 * t)).take 4)
def words16 (b : List B) : List W := (List.range 16).map fun t => wd ((b.drop (4 * t)).take 4)
def ext (w : List W) : W :=
  let t := w.length
  let x := w.getD (t - 15) 0#32
  let y := w.getD (t - 2) 0#32
  w.getD (t - 16) 0#32 + w.getD (t - 7) 0#32 + (rotr x 7 ^^^ rotr x 18 ^^^ (x >>> 3)) + (rotr y 17 ^^^ rotr y 19 ^^^ (y >>> 10))
def extN : Nat → List W → List W
  | 0, w => w
  | n + 1, w => extN n (w ++ [ext w])
def sched (b : List B) : List W := extN 48 (words16 b)

def mix (x : W) (i j k : Nat) : W := rotr x i ^^^ rotr x j ^^^ rotr x k
structure St where
  (a b c d e f g h : W)
def round (s : St) (k w : W) : St :=
  let p := s.h + mix s.e 6 11 25 + ((s.e &&& s.f) ^^^ (~~~s.e &&& s.g)) + k + w
  let q := mix s.a 2 13 22 + ((s.a &&& s.b) ^^^ (s.a &&& s.c) ^^^ (s.b &&& s.c))
  ⟨p + q, s.a, s.b, s.c, s.d + p, s.e, s.f, s.g⟩
def rounds : St → List W → List W → St
  | s, k :: ks, w :: ws => rounds (round s k w) ks ws
  | s, _, _ => s
def table : List Nat := [0x428a2f98, 0x71374491, 0xb5c0fbcf, 0xe9b5dba5, 0x3956c25b, 0x59f111f1, 0x923f82a4, 0xab1c5ed5, 0xd807aa98, 0x12835b01, 0x243185be, 0x550c7dc3, 0x72be5d74, 0x80deb1fe, 0x9bdc06a7, 0xc19bf174, 0xe49b69c1, 0xefbe4786, 0x0fc19dc6, 0x240ca1cc, 0x2de92c6f, 0x4a7484aa, 0x5cb0a9dc, 0x76f988da, 0x983e5152, 0xa831c66d, 0xb00327c8, 0xbf597fc7, 0xc6e00bf3, 0xd5a79147, 0x06ca6351, 0x14292967, 0x27b70a85, 0x2e1b2138, 0x4d2c6dfc, 0x53380d13, 0x650a7354, 0x766a0abb, 0x81c2c92e, 0x92722c85, 0xa2bfe8a1, 0xa81a664b, 0xc24b8b70, 0xc76c51a3, 0xd192e819, 0xd6990624, 0xf40e3585, 0x106aa070, 0x19a4c116, 0x1e376c08, 0x2748774c, 0x34b0bcb5, 0x391c0cb3, 0x4ed8aa4a, 0x5b9cca4f, 0x682e6ff3, 0x748f82ee, 0x78a5636f, 0x84c87814, 0x8cc70208, 0x90befffa, 0xa4506ceb, 0xbef9a3f7, 0xc67178f2]
def ks : List W := table.map (BitVec.ofNat 32)
def grind (h : St) (b : List B) : St :=
  let v := rounds h ks (sched b)
  ⟨h.a + v.a, h.b + v.b, h.c + v.c, h.d + v.d, h.e + v.e, h.f + v.f, h.g + v.g, h.h + v.h⟩
/-- All whole blocks are ground; so many at most. -/
def blocksN : Nat → St → List B → St × List B
  | 0, h, b => (h, b)
  | n + 1, h, b => if 64 ≤ b.length then blocksN n (grind h (b.take 64)) (b.drop 64) else (h, b)
def blocks (h : St) (b : List B) : St × List B := blocksN (b.length / 64) h b
def first : St := ⟨0x6a09e667#32, 0xbb67ae85#32, 0x3c6ef372#32, 0xa54ff53a#32, 0x510e527f#32, 0x9b05688c#32, 0x1f83d9ab#32, 0x5be0cd19#32⟩
def bytes8 (n : BitVec 64) : List B := [(n >>> 56).setWidth 8, (n >>> 48).setWidth 8, (n >>> 40).setWidth 8, (n >>> 32).setWidth 8, (n >>> 24).setWidth 8, (n >>> 16).setWidth 8, (n >>> 8).setWidth 8, (n >>> 0).setWidth 8]
def tail (n : Nat) : List B := 128#8 :: List.replicate ((119 - n % 64) % 64) 0#8 ++ bytes8 (BitVec.ofNat 64 n * 8#64)
def wbytes (w : W) : List B := [(w >>> 24).setWidth 8, (w >>> 16).setWidth 8, (w >>> 8).setWidth 8, w.setWidth 8]
def St.l (s : St) : List W := [s.a, s.b, s.c, s.d, s.e, s.f, s.g, s.h]
def written (s : St) : List B := (s.l.map wbytes).flatten
/-! ### Laws -/
end Sha
end Go.CM

/-
  The variables of the program: nothing is known of them.
-/
namespace Go.CM
open Go Go.Proofs
set_option linter.unusedVariables false
set_option linter.unusedSimpArgs false
abbrev GS : Nat → CV := G0
theorem GS_closed : ∀ g, (GS g).closed = true := G0_closed
end Go.CM

/-
  SHA-256, walked: the words of a block.
-/
namespace Go.CM
open Go Go.Proofs
set_option linter.unusedVariables false
set_option linter.unusedSimpArgs false
set_option maxRecDepth 100000
namespace Sha

def enc8 (x : B) : List CV := [e8 x]
abbrev Bs := Sv B
abbrev encBs (s : Bs) : CV := encS 1 enc8 s
theorem closed_Bs (s : Bs) : (encBs s).closed = true := closed_encS (fun _ => rfl) s

end Sha
end Go.CM

/-
  Slices of bytes: Grow, Concat, Clone, walked.
-/
namespace Go.CM
open Go Go.Proofs
set_option linter.unusedVariables false
set_option linter.unusedSimpArgs false
set_option maxRecDepth 100000
namespace Sha

def bytesOf (ls : List Bs) : List B := (ls.map Sv.l).flatten
end Sha
end Go.CM

/-
  SHA-256, walked: Clone, feed.
-/
namespace Go.CM
open Go Go.Proofs
set_option linter.unusedVariables false
set_option linter.unusedSimpArgs false
set_option maxRecDepth 100000
namespace Sha

structure Mill where
  st : St
  rest : Bs
  n : Int
end Sha
end Go.CM

/-
  SHA-256, walked: the end of a mill.
-/
namespace Go.CM
open Go Go.Proofs
set_option linter.unusedVariables false
set_option linter.unusedSimpArgs false
set_option maxRecDepth 100000
namespace Sha

def idC (b : List B) : CV := .ag (b.map e8)
end Sha
end Go.CM

/-
  SHA-256, walked: Pieces, Sum.
-/
namespace Go.CM
open Go Go.Proofs
set_option linter.unusedVariables false
set_option linter.unusedSimpArgs false
set_option maxRecDepth 100000
namespace Sha

structure InvM (m : Mill) (b : List B) : Prop where
  bl : blocks first b = (m.st, m.rest.l)
  n : m.n = b.length
def start : Mill := ⟨first, none, 0⟩
def isLong (s : Bs) : Bool := decide ((10000 : Int) < s.l.length)
def idx (l : List Bs) : Int := match l.findIdx? isLong with | some i => (i : Int) | none => -1
end Sha
end Go.CM

/-
  The reference of SHA-256, walked: turn, constants, First, Ground.
-/
namespace Go.CM
open Go Go.Proofs
set_option linter.unusedVariables false
set_option linter.unusedSimpArgs false
set_option maxRecDepth 100000
namespace Sha

def enc32 (x : W) : List CV := [e32 x]
end Sha
end Go.CM

/-
  What comes in: bytes, ids, numbers; the table that the program lays.
-/
namespace Go.CM
open Go Go.Proofs Go.RowKit
set_option linter.unusedVariables false
set_option linter.unusedSimpArgs false
set_option maxRecDepth 100000
open Sha

theorem ty_bytes {e : TypeId} (hu : Try.prog.underlying e = some (.int .u8)) : ∀ (n : Nat) {ts : List TypeId} {cs : List CV}, Ty Try.prog (List.replicate n e ++ ts) cs → ∃ (x : List B) (cs' : List CV), cs = x.map e8 ++ cs' ∧ x.length = n ∧ Ty Try.prog ts cs'
  | 0, ts, cs, h => ⟨[], cs, rfl, rfl, h⟩
  | n + 1, ts, cs, h => by
    obtain ⟨k, cs1, rfl, h1, h2, h3⟩ := ty_int hu h
    obtain ⟨x, cs2, rfl, hx, h4⟩ := ty_bytes hu n h3
    have h5 : (0 : Int) ≤ k := h1
    have h6 : k ≤ 255 := h2
    refine ⟨BitVec.ofNat 8 k.toNat :: x, cs2, ?_, by simp [hx], h4⟩
    have : ((BitVec.ofNat 8 k.toNat).toNat : Int) = k := by
      rw [BitVec.toNat_ofNat, Nat.mod_eq_of_lt (by omega)]; omega
    simp [e8, u]; omega
theorem ty_id (r : List CV) (h : Ty Try.prog [31] r) : ∃ x : List B, r = x.map e8 ∧ x.length = 32 := by
  have h1 := ty_array (e := 5) (n := 32) (by kernel_rfl) h
  obtain ⟨x, cs', rfl, hx, h2⟩ := ty_bytes (by kernel_rfl) 32 h1
  rw [ty_nil h2, List.append_nil]
  exact ⟨x, rfl, hx⟩
theorem ty_u64 {ts : List TypeId} {cs : List CV} (h : Ty Try.prog (23 :: ts) cs) : ∃ (x : BitVec 64) (cs' : List CV), cs = e64 x :: cs' ∧ Ty Try.prog ts cs' := by
  obtain ⟨k, cs1, rfl, h1, h2, h3⟩ := ty_int (k := .u64) (by kernel_rfl) h
  have h5 : (0 : Int) ≤ k := h1
  have h6 : k ≤ 18446744073709551615 := h2
  refine ⟨BitVec.ofNat 64 k.toNat, cs1, ?_, h3⟩
  have : ((BitVec.ofNat 64 k.toNat).toNat : Int) = k := by
    rw [BitVec.toNat_ofNat, Nat.mod_eq_of_lt (by omega)]; omega
  simp [e64, u]; omega
theorem tyA_id {ts : List TypeId} {cs : List CV} (h : TyA Try.prog (31 :: ts) cs) : ∃ (x : List B) (cs' : List CV), cs = idC x :: cs' ∧ x.length = 32 ∧ TyA Try.prog ts cs' := by
  obtain ⟨c, cs', rfl, h1, h2⟩ := tyA_cons h
  obtain ⟨cs, rfl, h3⟩ := tyV_agg (by kernel_rfl) h1
  obtain ⟨x, rfl, hx⟩ := ty_id _ h3
  exact ⟨x, cs', rfl, hx, h2⟩
theorem tyA_int {ts : List TypeId} {cs : List CV} (h : TyA Try.prog (3 :: ts) cs) : ∃ (n : Int) (cs' : List CV), cs = .int .i64 n :: cs' ∧ IntKind.i64.min ≤ n ∧ n ≤ IntKind.i64.max ∧ TyA Try.prog ts cs' := by
  obtain ⟨c, cs', rfl, h1, h2⟩ := tyA_cons h
  obtain ⟨n, cs1, hs, hl, hi, h3⟩ := ty_int (k := .i64) (by kernel_rfl) (tyV_one (by kernel_rfl) h1)
  cases hs
  exact ⟨n, cs', rfl, hl, hi, h2⟩
end Go.CM

/-
  The group of layer 2, walked: products and powers modulo 1000000007, in both texts.
-/
namespace Go.CM
open Go Go.Proofs
set_option linter.unusedVariables false
set_option linter.unusedSimpArgs false
set_option maxRecDepth 100000
namespace Op
open Sha

abbrev Q := BitVec 64
abbrev D := BitVec 32
def enc32 (x : D) : List CV := [e32 x]
def mulQ (l : List D) : Q := l.foldl (fun o x => o * x.setWidth 64 % 1000000007#64) 1#64
/-- A power modulo P. -/
def powM (a n : Nat) : Nat := a ^ n % 1000000007
theorem powM_lt (a n : Nat) : powM a n < 1000000007 := Nat.mod_lt _ (by decide)
theorem powM_odd (a n : Nat) : powM a n * a % 1000000007 = powM a (n + 1) := by
  unfold powM; rw [Nat.mod_mul_mod, Nat.pow_succ]
/-- The number of a power, as 32 bits. -/
def powW (a : D) (n : Nat) : D := BitVec.ofNat 32 (powM a.toNat n)
theorem powW_nat (a : D) (n : Nat) : (powW a n).toNat = powM a.toNat n := by
  have := powM_lt a.toNat n
  unfold powW; rw [BitVec.toNat_ofNat]; exact Nat.mod_eq_of_lt (by omega)
theorem mulQ2 (x y : D) (hx : x.toNat < 1000000007) : (mulQ [x, y]).setWidth 32 = BitVec.ofNat 32 (x.toNat * y.toNat % 1000000007) := by
  apply BitVec.eq_of_toNat_eq
  have hy := y.isLt
  have h1 : x.toNat * y.toNat < 1000000007 * 4294967296 := by
    calc x.toNat * y.toNat ≤ 1000000007 * y.toNat := Nat.mul_le_mul_right _ (by omega)
      _ < 1000000007 * 4294967296 := Nat.mul_lt_mul_of_pos_left (by simpa using hy) (by decide)
  have h2 : (1#64 * x.setWidth 64 % 1000000007#64).toNat = x.toNat := by
    rw [BitVec.one_mul, BitVec.toNat_umod, BitVec.toNat_setWidth]
    rw [Nat.mod_eq_of_lt (show x.toNat < 2 ^ 64 by omega), show (1000000007#64).toNat = 1000000007 from rfl, Nat.mod_eq_of_lt hx]
  simp only [mulQ, List.foldl_cons, List.foldl_nil, BitVec.toNat_setWidth, BitVec.toNat_umod, BitVec.toNat_mul, h2, BitVec.toNat_ofNat]
  rw [Nat.mod_eq_of_lt (show y.toNat < 2 ^ 64 by omega), Nat.mod_eq_of_lt (show x.toNat * y.toNat < 2 ^ 64 by omega), Nat.mod_eq_of_lt (show 1000000007 < 2 ^ 64 by decide)]
theorem mul_one (a : D) (n : Nat) : (mulQ [powW a n, a]).setWidth 32 = powW a (n + 1) := by
  rw [mulQ2 _ _ (by rw [powW_nat]; exact powM_lt _ _), powW_nat, powM_odd]; rfl

/-! the reference -/
theorem quo_u64 (a b : Q) (hb : b ≠ 0#64) : binInt .quo .u64 (u a) .u64 (u b) = some (.int .u64 (u (a / b))) := by
  have hb' : (b.toNat : Int) ≠ 0 := fun e => hb (BitVec.eq_of_toNat_eq (by simpa using e))
  show (if IntKind.u64 = IntKind.u64 ∧ (b.toNat : Int) ≠ 0 then some (CV.int .u64 (IntKind.u64.wrap ((a.toNat : Int).tdiv b.toNat))) else none) = _
  rw [if_pos ⟨rfl, hb'⟩, wrap_u64]
  congr 2
  have : ((a.toNat : Int).tdiv b.toNat) = ((a.toNat / b.toNat : Nat) : Int) := rfl
  rw [this, BitVec.ofInt_natCast]
  congr 1
  apply BitVec.eq_of_toNat_eq
  rw [BitVec.toNat_ofNat, BitVec.toNat_udiv]
  exact Nat.mod_eq_of_lt (Nat.lt_of_le_of_lt (Nat.div_le_self _ _) a.isLt)
/-! Is, Exponent -/
end Op
end Go.CM

/-
  Strings rune by rune, keys and texts, classes of floats: walked in both texts.
-/
namespace Go.CM
open Go Go.Proofs
set_option linter.unusedVariables false
set_option linter.unusedSimpArgs false
set_option maxRecDepth 100000
namespace Op
open Sha

@[simp] theorem bstr_eql (a b : List UInt8) : binStr .eql a b = some (.bool (decide (a = b))) := by
  by_cases h : a = b <;> simp [binStr, h]
@[simp] theorem bstr_neq (a b : List UInt8) : binStr .neq a b = some (.bool (!decide (a = b))) := by
  by_cases h : a = b <;> simp [binStr, h]
abbrev dec (s : List UInt8) (pos : Nat) : Nat × Nat := Utf8.decode ⟨s.toArray⟩ pos
theorem get_byte (s : List UInt8) (pos : Nat) (b : UInt8) (h : s[pos]? = some b) : (ByteArray.get! ⟨s.toArray⟩ pos) = b := by
  show (s.toArray)[pos]! = b
  obtain ⟨h1, h2⟩ := List.getElem?_eq_some_iff.1 h
  simp [h1, h2]
theorem dec_small {s : List UInt8} {pos : Nat} {b : UInt8} (h : s[pos]? = some b) (hb : b.toNat < 128) : dec s pos = (b.toNat, 1) := by
  unfold dec
  rw [Lib.decode_at, get_byte s pos b h]
  unfold Lib.decodeN
  rw [if_pos hb]
theorem dec_great {s : List UInt8} {pos : Nat} {b : UInt8} (h : s[pos]? = some b) (hb : 128 ≤ b.toNat) : 128 ≤ (dec s pos).1 := by
  unfold dec
  rw [Lib.decode_at, get_byte s pos b h]
  unfold Lib.decodeN
  rw [if_neg (by omega)]
  repeat' split
  all_goals (simp only; omega)
theorem dec_width (s : List UInt8) (pos : Nat) : 1 ≤ (dec s pos).2 := by
  unfold dec
  rw [Lib.decode_at]
  unfold Lib.decodeN
  repeat' split
  all_goals simp only <;> omega

def ixR (p : Nat → Bool) (s : List UInt8) : Nat → Nat → Int
  | 0, _ => -1
  | n + 1, pos => if pos < s.length then (if p (dec s pos).1 then (pos : Int) else ixR p s n (pos + (dec s pos).2)) else -1
theorem ixR_fuel (p : Nat → Bool) (s : List UInt8) : ∀ (n pos : Nat), s.length - pos ≤ n → ixR p s n pos = ixR p s (s.length - pos) pos
  | 0, pos, h => by rw [show s.length - pos = 0 by omega]
  | n + 1, pos, h => by
    by_cases hp : pos < s.length
    · have hw := dec_width s pos
      rw [show s.length - pos = (s.length - pos - 1) + 1 by omega]
      unfold ixR
      rw [if_pos hp, if_pos hp, ixR_fuel p s n _ (by omega), ixR_fuel p s (s.length - pos - 1) _ (by omega)]
    · rw [show s.length - pos = 0 by omega]
      unfold ixR
      rw [if_neg hp]
def badR (lo r : Nat) : Bool := decide (r < lo) || decide (126 < r)
def okC (lo : Nat) (b : UInt8) : Bool := decide (lo ≤ b.toNat) && decide (b.toNat ≤ 126)
theorem ixR_all (lo : Nat) (hlo : lo ≤ 128) (s : List UInt8) : ∀ (n pos : Nat), s.length - pos ≤ n → (ixR (badR lo) s n pos < 0 ↔ (s.drop pos).all (okC lo) = true)
  | 0, pos, h => by
    rw [List.drop_eq_nil_of_le (by omega)]
    simp [ixR]
  | n + 1, pos, h => by
    unfold ixR
    by_cases hp : pos < s.length
    · rw [if_pos hp, List.drop_eq_getElem_cons hp, List.all_cons]
      have hget : s[pos]? = some s[pos] := List.getElem?_eq_getElem hp
      obtain ⟨b, hb⟩ : ∃ b, b = s[pos] := ⟨_, rfl⟩
      rw [← hb] at hget ⊢
      by_cases hs : b.toNat < 128
      · rw [dec_small hget hs]
        simp only
        have hok : okC lo b = !badR lo b.toNat := by
          unfold okC badR
          by_cases h1 : b.toNat < lo <;> by_cases h2 : 126 < b.toNat <;> simp [h1, h2] <;> omega
        cases hbad : badR lo b.toNat with
        | true => rw [hok, hbad]; simp
        | false =>
          rw [hok, hbad]
          simp only [Bool.false_eq_true, if_false, Bool.not_false, Bool.true_and]
          exact ixR_all lo hlo s n (pos + 1) (by omega)
      · have hg := dec_great hget (by omega)
        have hbad : badR lo (dec s pos).1 = true := by unfold badR; simp; omega
        have hok : okC lo b = false := by unfold okC; simp; omega
        rw [hbad, hok]; simp
    · rw [if_neg hp, List.drop_eq_nil_of_le (by omega)]
      simp

theorem next_go {s : List UInt8} {pos : Nat} {r : Hl} (h : pos < s.length) : nextL (.iter s pos :: r) (.it 0) = some (.tu [.bool true, .int .i64 pos, .int .i32 (dec s pos).1], .iter s (pos + (dec s pos).2) :: r) := by
  unfold nextL
  simp only [List.getElem?_cons_zero]
  rw [show Nat.blt pos s.length = true from Nat.ble_eq_true_of_le h]
  rfl
theorem next_end {s : List UInt8} {pos : Nat} {r : Hl} (h : ¬ pos < s.length) : nextL (.iter s pos :: r) (.it 0) = some (.tu [.bool false], .iter s pos :: r) := by
  unfold nextL
  simp only [List.getElem?_cons_zero]
  rw [show Nat.blt pos s.length = false by cases hb : Nat.blt pos s.length with | false => rfl | true => exact absurd (Nat.le_of_ble_eq_true hb) h]
theorem indexFunc_ok {g : FuncId} {p : Nat → Bool} (hg : funOkB Try.prog g = true) (hp : ∀ r : Nat, PureC Try.prog GS g [.int .i32 r] (.bool (p r))) (s : List UInt8) :
    PureC Try.prog GS 55 [.str s, .fn g [] [], .bool true] (.int .i64 (ixR p s s.length 0)) := by
  refine pure_of Try.checked.mixed GS_closed ?_
  apply call_intro c55_eq r55_eq
  unfold c55 r55
  simp [rangeL]
  refine loop_fall (fun m σ l => ∃ pos, s.length - pos = m ∧ ixR p s m pos = ixR p s s.length 0 ∧ σ 1 = .fn g [] [] ∧ σ 2 = .bool true ∧ σ 10 = .it 0 ∧ l = [.iter s pos]) ?_ s.length _ _ ⟨0, by simp⟩
  rintro m σ l ⟨pos, hm, hi, g1, g2, g10, rfl⟩
  obtain ⟨σ, rfl⟩ := upds3 g1 g2 g10
  clear g1 g2 g10
  unfold l55_0
  by_cases h : pos < s.length
  · have hm1 : m = (m - 1) + 1 := by omega
    have hw := dec_width s pos
    obtain ⟨R, hR⟩ : ∃ R, R = ixR p s s.length 0 := ⟨_, rfl⟩
    rw [← hR] at hi ⊢
    rw [hm1] at hi
    unfold ixR at hi
    rw [if_pos h] at hi
    simp [next_go h]
    refine ⟨hg, pure_call (hp _) rfl ?_⟩
    cases hb : p (dec s pos).1 with
    | true =>
      rw [hb] at hi
      simp
      exact rd_eq (by rw [← hi]; simp) rfl
    | false =>
      rw [hb] at hi
      simp
      refine ⟨s.length - (pos + (dec s pos).2), by omega, pos + (dec s pos).2, rfl, ?_, by simp, by simp, by simp, by simp⟩
      rw [← hi]
      simp only [Bool.false_eq_true, if_false]
      rw [ixR_fuel p s (m - 1) _ (by omega)]
  · have hm0 : m = 0 := by omega
    subst hm0
    simp [next_end h]
    exact rd_eq (by rw [← hi]; rfl) rfl
theorem strIndex_ok {g : FuncId} {p : Nat → Bool} (hg : funOkB Try.prog g = true) (hp : ∀ r : Nat, PureC Try.prog GS g [.int .i32 r] (.bool (p r))) (s : List UInt8) :
    PureC Try.prog GS 48 [.str s, .fn g [] []] (.int .i64 (ixR p s s.length 0)) := by
  refine pure_of Try.checked.mixed GS_closed ?_
  apply call_intro c48_eq r48_eq
  unfold c48 r48
  simp
  refine pure_call (indexFunc_ok hg hp s) rfl ?_
  simp
  exact rd_eq rfl rfl

/-! keys and texts -/
theorem keyR_ok (r : Nat) : PureC Try.prog GS 49 [.int .i32 r] (.bool (badR 33 r)) := by
  refine pure_of Try.checked.mixed GS_closed ?_
  apply call_intro c49_eq r49_eq
  unfold c49 r49 badR
  have h1 : ((r : Int) < 33) ↔ r < 33 := by omega
  have h2 : ((126 : Int) < r) ↔ 126 < r := by omega
  by_cases h : r < 33
  · simp [h1, h]
    exact rd_eq rfl rfl
  · simp [h1, h, h2]
    exact rd_eq rfl rfl
theorem textR_ok (r : Nat) : PureC Try.prog GS 57 [.int .i32 r] (.bool (badR 32 r)) := by
  refine pure_of Try.checked.mixed GS_closed ?_
  apply call_intro c57_eq r57_eq
  unfold c57 r57 badR
  have h1 : ((r : Int) < 32) ↔ r < 32 := by omega
  have h2 : ((126 : Int) < r) ↔ 126 < r := by omega
  by_cases h : r < 32
  · simp [h1, h]
    exact rd_eq rfl rfl
  · simp [h1, h, h2]
    exact rd_eq rfl rfl
theorem fn_keyR : funOkB Try.prog 49 = true := by kernel_rfl
theorem fn_textR : funOkB Try.prog 57 = true := by kernel_rfl
def keyB (s : List UInt8) : Bool := decide (1 ≤ s.length) && decide (s.length ≤ 20) && s.all (okC 33)
theorem key_ok (s : List UInt8) : PureC Try.prog GS 36 [.str s] (.bool (keyB s)) := by
  refine pure_of Try.checked.mixed GS_closed ?_
  apply call_intro c36_eq r36_eq
  unfold c36 r36 keyB
  have h1 : ((1 : Int) ≤ s.length) ↔ 1 ≤ s.length := by omega
  have h2 : ((s.length : Int) ≤ 20) ↔ s.length ≤ 20 := by omega
  by_cases g1 : 1 ≤ s.length
  · by_cases g2 : s.length ≤ 20
    · simp [h1, h2, g1, g2]
      refine pure_call (strIndex_ok fn_keyR keyR_ok s) rfl ?_
      have := ixR_all 33 (by omega) s s.length 0 (by omega)
      rw [List.drop_zero] at this
      have h3 : decide (ixR (badR 33) s s.length 0 < 0) = s.all (okC 33) := by
        cases hb : s.all (okC 33) with
        | true => simpa using this.2 hb
        | false =>
          have : ¬ ixR (badR 33) s s.length 0 < 0 := fun h => by rw [this.1 h] at hb; cases hb
          simpa using this
      simp
      rw [h3]
      exact rd_eq (by simp [g1, g2]) rfl
    · simp [h1, h2, g1, g2]
      exact rd_eq (by simp [g1, g2]) rfl
  · simp [h1, g1]
    exact rd_eq (by simp [g1]) rfl
theorem all_take {s : List UInt8} {p : UInt8 → Bool} {k : Nat} {b : UInt8} (h : s[k]? = some b) : (s.take (k + 1)).all p = ((s.take k).all p && p b) := by
  rw [List.take_add_one, h]; simp [List.all_append]
theorem all_not {s : List UInt8} {p : UInt8 → Bool} {k : Nat} {b : UInt8} (h : s[k]? = some b) (hp : p b = false) : s.all p = false := by
  rw [List.all_eq_false]
  exact ⟨b, List.mem_of_getElem? h, by simp [hp]⟩
theorem name_ok (s : List UInt8) : PureC Try.prog GS 39 [.str s] (.bool (keyB s)) := by
  refine pure_of Try.checked.mixed GS_closed ?_
  apply call_intro c39_eq r39_eq
  unfold c39 r39
  have h1 : ((s.length : Int) < 1) ↔ ¬ 1 ≤ s.length := by omega
  have h2 : ((20 : Int) < s.length) ↔ ¬ s.length ≤ 20 := by omega
  by_cases g1 : 1 ≤ s.length
  · by_cases g2 : s.length ≤ 20
    · simp [h1, h2, g1, g2]
      refine loop_up s.length (fun k σ _ => σ 0 = .str s ∧ σ 3 = .int .i64 k ∧ (s.take k).all (okC 33) = true) ?_ (by simp)
      rintro k σ l hk ⟨e0, e3, hall⟩
      obtain ⟨σ, rfl⟩ := upds2 e0 e3
      clear e0 e3
      unfold l39_0
      by_cases h : k < s.length
      · obtain ⟨b, hb, _⟩ := get_of h
        have hwk : IntKind.i64.wrap ((k : Int) + 1) = (k + 1 : Nat) := wrap_i64 (by omega) (by omega)
        have b1 : ((b.toNat : Int) < 33) ↔ ¬ 33 ≤ b.toNat := by omega
        have b2 : ((126 : Int) < b.toNat) ↔ ¬ b.toNat ≤ 126 := by omega
        have hix : ixCT (.str s) (.int .i64 k) = some (.int .u8 b.toNat) := by simp [hb, byteC]
        by_cases q1 : 33 ≤ b.toNat
        · by_cases q2 : b.toNat ≤ 126
          · have hok : okC 33 b = true := by simp [okC, q1, q2]
            simp [h, hix, b1, b2, q1, q2, hwk, all_take hb, hok, -ixT_str]
            simpa using hall
          · have hok : okC 33 b = false := by simp [okC, q2]
            simp [h, hix, b1, b2, q1, q2, -ixT_str]
            exact rd_eq (by simp [keyB, all_not hb hok]) rfl
        · have hok : okC 33 b = false := by simp [okC, q1]
          simp [h, hix, b1, q1, -ixT_str]
          exact rd_eq (by simp [keyB, all_not hb hok]) rfl
      · have hk' : k = s.length := by omega
        subst hk'
        rw [List.take_length] at hall
        simp
        exact rd_eq (by simp only [keyB, hall]; simp [g1, g2]) rfl
    · simp [h1, h2, g1, g2]
      exact rd_eq (by simp [keyB, g2]) rfl
  · simp [h1, g1]
    exact rd_eq (by simp [keyB, g1]) rfl
theorem printable_ok (s : List UInt8) (hl : s.length ≤ 1000000000) : PureC Try.prog GS 54 [.str s] (.bool (s.all (okC 32))) := by
  refine pure_of Try.checked.mixed GS_closed ?_
  apply call_intro c54_eq r54_eq
  unfold c54 r54
  simp
  refine loop_up s.length (fun k σ _ => σ 0 = .str s ∧ σ 3 = .int .i64 k ∧ (s.take k).all (okC 32) = true) ?_ (by simp)
  rintro k σ l hk ⟨e0, e3, hall⟩
  obtain ⟨σ, rfl⟩ := upds2 e0 e3
  clear e0 e3
  unfold l54_0
  by_cases h : k < s.length
  · obtain ⟨b, hb, _⟩ := get_of h
    have hwk : IntKind.i64.wrap ((k : Int) + 1) = (k + 1 : Nat) := wrap_i64 (by omega) (by omega)
    have b1 : ((b.toNat : Int) < 32) ↔ ¬ 32 ≤ b.toNat := by omega
    have b2 : ((126 : Int) < b.toNat) ↔ ¬ b.toNat ≤ 126 := by omega
    have hix : ixCT (.str s) (.int .i64 k) = some (.int .u8 b.toNat) := by simp [hb, byteC]
    by_cases q1 : 32 ≤ b.toNat
    · by_cases q2 : b.toNat ≤ 126
      · have hok : okC 32 b = true := by simp [okC, q1, q2]
        simp [h, hix, b1, b2, q1, q2, hwk, all_take hb, hok, -ixT_str]
        simpa using hall
      · have hok : okC 32 b = false := by simp [okC, q2]
        simp [h, hix, b1, b2, q1, q2, -ixT_str]
        exact rd_eq (by simp only [all_not hb hok]) rfl
    · have hok : okC 32 b = false := by simp [okC, q1]
      simp [h, hix, b1, q1, -ixT_str]
      exact rd_eq (by simp only [all_not hb hok]) rfl
  · have hk' : k = s.length := by omega
    subst hk'
    rw [List.take_length] at hall
    simp
    exact rd_eq (by simp only [hall]) rfl
end Op
end Go.CM
