/-
  The code of the functions, without types, as the canonical machine reads it (printed by program).
-/
import Derived.Test.YtacddnkgkogabaaDoorKg
import Derived.Test.YtacddnkgkogabaaDoorRows
import Derived.ProofKit
namespace Go.CM
open Go Go.Proofs
set_option maxRecDepth 100000
/-! NOT COMPILED: F2 gosem.cut.init -/
/-! F3 braid/braidlaw39.SketchTells -/
def c3 : Cd := (.seq (.reg [sm 0 6 (.box (tm 2)),
  sm 1 8 (.mv (.const (.bool false)))])
  (.seq (.seq (.reg [sv 0 32 0,
  sc 1 33 10 [(tm 32)]])
  (.cond (tm 33) (.seq (.reg [sm 0 8 (.mv (.const (.bool true)))])
  .ret) .skip))
  (.seq (.reg [sm 0 34 (.bsl 34 ([.int .i64 0] ++ rep 32 (.int .u8 0) ++ [.int .u64 0]) 0 []),
  sv 1 35 0,
  sm 2 36 (.app 34 48 (tm 34) (tm 35)),
  sv 3 9 36])
  (.seq (.reg [sv 0 38 1,
  sc 1 39 11 [(tm 38)],
  sv 2 37 39,
  sm 3 40 (.ext (tm 37) 0),
  sm 4 41 (.ext (tm 37) 1),
  sv 5 10 40,
  sv 6 11 41])
  (.seq (.reg [sv 0 43 1,
  sc 1 44 12 [(tm 43)],
  sv 2 42 44,
  sm 3 45 (.ext (tm 42) 0),
  sm 4 46 (.ext (tm 42) 1),
  sv 5 12 45,
  sv 6 13 46])
  (.seq (.reg [sv 0 48 1,
  sm 1 49 (.ldA 32 (tm 6)),
  sc 2 50 13 [(tm 48), (tm 49)],
  sv 3 47 50,
  sm 4 51 (.ext (tm 47) 0),
  sm 5 52 (.ext (tm 47) 1),
  sm 6 14 (.alloc [.int .i64 0, .int .i64 0, .int .i64 0]),
  se 7 (.st 3 (tm 14) (tm 51)),
  sv 8 15 52])
  (.seq (.reg [sv 0 54 1,
  sm 1 55 (.ldA 32 (tm 6)),
  sc 2 56 14 [(tm 54), (tm 55)],
  sv 3 53 56,
  sm 4 57 (.ext (tm 53) 0),
  sm 5 58 (.ext (tm 53) 1),
  sm 6 16 (.alloc [.int .i64 0, .int .i64 0, .int .i64 0]),
  se 7 (.st 3 (tm 16) (tm 57)),
  sv 8 17 58])
  (.seq (.reg [sm 0 60 (.ldA 32 (tm 6)),
  sc 1 61 15 [(tm 60)],
  sv 2 59 61,
  sm 3 62 (.ext (tm 59) 0),
  sm 4 63 (.ext (tm 59) 1),
  sv 5 18 62,
  sv 6 19 63])
  (.seq (.reg [sv 0 65 0,
  sm 1 66 (.ldA 32 (tm 6)),
  sc 2 67 16 [(tm 65), (tm 66)],
  sv 3 64 67,
  sm 4 68 (.ext (tm 64) 0),
  sm 5 69 (.ext (tm 64) 1),
  sv 6 20 68,
  sv 7 21 69])
  (.seq (.reg [sv 0 71 0,
  sm 1 72 (.ldA 32 (tm 6)),
  sc 2 73 17 [(tm 71), (tm 72)],
  sv 3 70 73,
  sm 4 74 (.ext (tm 70) 0),
  sm 5 75 (.ext (tm 70) 1),
  sv 6 22 74,
  sv 7 23 75])
  (.seq (.reg [sv 0 77 0,
  sm 1 78 (.ldA 32 (tm 6)),
  sc 2 79 18 [(tm 77), (tm 78)],
  sv 3 76 79,
  sm 4 80 (.ext (tm 76) 0),
  sm 5 81 (.ext (tm 76) 1),
  sv 6 24 80,
  sv 7 25 81])
  (.seq (.reg [sv 0 83 0,
  sm 1 84 (.ldA 32 (tm 6)),
  sc 2 85 19 [(tm 83), (tm 84)],
  sv 3 82 85,
  sm 4 86 (.ext (tm 82) 0),
  sm 5 87 (.ext (tm 82) 1),
  sv 6 26 86,
  sv 7 27 87])
  (.seq (.reg [sv 0 89 0,
  sv 1 90 3,
  sc 2 91 20 [(tm 89), (tm 90)],
  sv 3 88 91,
  sm 4 92 (.ext (tm 88) 0),
  sm 5 93 (.ext (tm 88) 1),
  sv 6 28 92,
  sv 7 29 93])
  (.seq (.reg [sv 0 95 0,
  sv 1 96 3,
  sc 2 97 21 [(tm 95), (tm 96)],
  sv 3 94 97,
  sm 4 98 (.ext (tm 94) 0),
  sm 5 99 (.ext (tm 94) 1),
  sv 6 30 98,
  sv 7 31 99])
  (.seq (.reg [sv 0 100 0,
  sc 1 101 22 [(tm 100)],
  sv 2 102 0,
  sc 3 103 23 [(tm 102)],
  sm 4 104 (.bin .eql 3 (tm 101) (tm 103)),
  sv 5 105 104,
  sg 6 106 105 true (.mv (tm 10)),
  sg 7 107 105 true (.mv (tm 12)),
  ⟨8, (some 108), (some ((some 105), true)), .callF 24 [(tm 106), (tm 107)], [], false⟩,
  sm 9 109 (.pick (tm 105) (tm 108) (.const (.bool false))),
  sv 10 110 109,
  sg 11 111 110 true (.mv (tm 11)),
  sg 12 112 110 true (.mv (tm 13)),
  sg 13 113 110 true (.bin .eql 3 (tm 111) (tm 112)),
  sm 14 114 (.pick (tm 110) (tm 113) (.const (.bool false))),
  sv 15 115 114,
  sg 16 116 115 true (.ldA 3 (tm 14)),
  sg 17 117 115 true (.ldA 3 (tm 16)),
  sg 18 118 115 true (.bin .eql 31 (tm 116) (tm 117)),
  sm 19 119 (.pick (tm 115) (tm 118) (.const (.bool false))),
  sv 20 120 119,
  sg 21 121 120 true (.mv (tm 15)),
  sg 22 122 120 true (.mv (tm 17)),
  sg 23 123 120 true (.bin .eql 3 (tm 121) (tm 122)),
  sm 24 124 (.pick (tm 120) (tm 123) (.const (.bool false))),
  sv 25 125 124,
  sg 26 126 125 true (.mv (tm 19)),
  sg 27 127 125 true (.bin .eql 26 (tm 126) (.const (.int .i64 0))),
  sm 28 128 (.pick (tm 125) (tm 127) (.const (.bool false))),
  sv 29 129 128,
  sg 30 130 129 true (.mv (tm 18)),
  sg 31 131 129 true (.ldA 32 (tm 6)),
  ⟨32, (some 132), (some ((some 129), true)), .callF 25 [(tm 131)], [], false⟩,
  sg 33 133 129 true (.bin .eql 36 (tm 130) (tm 132)),
  sm 34 134 (.pick (tm 129) (tm 133) (.const (.bool false))),
  sv 35 135 134,
  sg 36 136 135 true (.mv (tm 20)),
  sg 37 137 135 true (.mv (tm 22)),
  ⟨38, (some 138), (some ((some 135), true)), .callF 24 [(tm 136), (tm 137)], [], false⟩,
  sm 39 139 (.pick (tm 135) (tm 138) (.const (.bool false))),
  sv 40 140 139,
  sg 41 141 140 true (.mv (tm 21)),
  sg 42 142 140 true (.mv (tm 23)),
  sg 43 143 140 true (.bin .eql 3 (tm 141) (tm 142)),
  sm 44 144 (.pick (tm 140) (tm 143) (.const (.bool false))),
  sv 45 145 144,
  sg 46 146 145 true (.mv (tm 24)),
  sg 47 147 145 true (.mv (tm 26)),
  ⟨48, (some 148), (some ((some 145), true)), .callF 24 [(tm 146), (tm 147)], [], false⟩,
  sm 49 149 (.pick (tm 145) (tm 148) (.const (.bool false))),
  sv 50 150 149,
  sg 51 151 150 true (.mv (tm 25)),
  sg 52 152 150 true (.mv (tm 27)),
  sg 53 153 150 true (.bin .eql 3 (tm 151) (tm 152)),
  sm 54 154 (.pick (tm 150) (tm 153) (.const (.bool false))),
  sv 55 155 154,
  sg 56 156 155 true (.mv (tm 28)),
  sg 57 157 155 true (.mv (tm 30)),
  sg 58 158 155 true (.bin .eql 4 (tm 156) (tm 157)),
  sm 59 159 (.pick (tm 155) (tm 158) (.const (.bool false))),
  sv 60 160 159,
  sg 61 161 160 true (.mv (tm 29)),
  sg 62 162 160 true (.mv (tm 31)),
  sg 63 163 160 true (.bin .eql 3 (tm 161) (tm 162)),
  sm 64 164 (.pick (tm 160) (tm 163) (.const (.bool false))),
  sv 65 165 164,
  sg 66 166 165 true (.mv (tm 0)),
  sg 67 167 165 true (.mv (tm 9)),
  ⟨68, (some 168), (some ((some 165), true)), .callF 24 [(tm 166), (tm 167)], [], false⟩,
  sm 69 169 (.pick (tm 165) (tm 168) (.const (.bool false))),
  sv 70 8 169])
  .ret)))))))))))))))
def r3 : List Mo := [.mv (tm 8)]
theorem c3_eq : compF Tryd.prog 3 = some c3 := by kernel_rfl
theorem r3_eq : compRs Tryd.prog 3 = some r3 := by kernel_rfl
/-! F4 braid/braidlaw39.SketchPeels -/
def c4 : Cd := (.seq (.reg [sm 0 8 (.mv (.const (.bool false)))])
  (.seq (.seq (.reg [sv 0 26 0,
  sc 1 27 10 [(tm 26)],
  sv 2 28 27,
  sg 3 29 28 false (.mv (tm 1)),
  ⟨4, (some 30), (some ((some 28), false)), .callF 10 [(tm 29)], [], false⟩,
  sm 5 31 (.pick (tm 28) (.const (.bool true)) (tm 30)),
  sv 6 32 31,
  sg 7 33 32 false (.mv (tm 3)),
  ⟨8, (some 34), (some ((some 32), false)), .callF 26 [(tm 33)], [], false⟩,
  sm 9 35 (.pick (tm 32) (.const (.bool true)) (tm 34))])
  (.cond (tm 35) (.seq (.reg [sm 0 8 (.mv (.const (.bool true)))])
  .ret) .skip))
  (.seq (.reg [sm 0 36 (.bsl 34 ([.int .i64 0] ++ rep 32 (.int .u8 0) ++ [.int .u64 0]) 0 []),
  sv 1 37 0,
  sm 2 38 (.app 34 48 (tm 36) (tm 37)),
  sv 3 9 38])
  (.seq (.reg [sv 0 40 2,
  sv 1 41 3,
  sc 2 42 27 [(tm 40), (tm 41)],
  sv 3 39 42,
  sm 4 43 (.ext (tm 39) 0),
  sm 5 44 (.ext (tm 39) 1),
  sv 6 10 43,
  sv 7 11 44])
  (.seq (.reg [sv 0 46 2,
  sv 1 47 3,
  sc 2 48 28 [(tm 46), (tm 47)],
  sv 3 45 48,
  sm 4 49 (.ext (tm 45) 0),
  sm 5 50 (.ext (tm 45) 1),
  sv 6 12 49,
  sv 7 13 50])
  (.seq (.reg [sv 0 52 0,
  sv 1 53 1,
  sc 2 54 29 [(tm 52), (tm 53)],
  sv 3 51 54,
  sm 4 55 (.ext (tm 51) 0),
  sm 5 56 (.ext (tm 51) 1),
  sv 6 14 55,
  sv 7 15 56])
  (.seq (.reg [sv 0 58 0,
  sv 1 59 1,
  sc 2 60 30 [(tm 58), (tm 59)],
  sv 3 57 60,
  sm 4 61 (.ext (tm 57) 0),
  sm 5 62 (.ext (tm 57) 1),
  sv 6 16 61,
  sv 7 17 62])
  (.seq (.reg [sv 0 64 0,
  sc 1 65 31 [(tm 64)],
  sv 2 63 65,
  sm 3 66 (.ext (tm 63) 0),
  sm 4 67 (.ext (tm 63) 1),
  sm 5 68 (.ext (tm 63) 2),
  sm 6 69 (.ext (tm 63) 3),
  sv 7 18 66,
  sv 8 19 67,
  sv 9 20 68,
  sv 10 21 69])
  (.seq (.reg [sv 0 71 0,
  sc 1 72 32 [(tm 71)],
  sv 2 70 72,
  sm 3 73 (.ext (tm 70) 0),
  sm 4 74 (.ext (tm 70) 1),
  sm 5 75 (.ext (tm 70) 2),
  sm 6 76 (.ext (tm 70) 3),
  sv 7 22 73,
  sv 8 23 74,
  sv 9 24 75,
  sv 10 25 76])
  (.seq (.reg [sv 0 77 10,
  sv 1 78 12,
  sc 2 79 24 [(tm 77), (tm 78)],
  sv 3 80 79,
  sg 4 81 80 true (.mv (tm 11)),
  sg 5 82 80 true (.mv (tm 13)),
  sg 6 83 80 true (.bin .eql 3 (tm 81) (tm 82)),
  sm 7 84 (.pick (tm 80) (tm 83) (.const (.bool false))),
  sv 8 85 84,
  sg 9 86 85 true (.mv (tm 14)),
  sg 10 87 85 true (.mv (tm 16)),
  ⟨11, (some 88), (some ((some 85), true)), .callF 24 [(tm 86), (tm 87)], [], false⟩,
  sm 12 89 (.pick (tm 85) (tm 88) (.const (.bool false))),
  sv 13 90 89,
  sg 14 91 90 true (.mv (tm 15)),
  sg 15 92 90 true (.mv (tm 17)),
  sg 16 93 90 true (.bin .eql 3 (tm 91) (tm 92)),
  sm 17 94 (.pick (tm 90) (tm 93) (.const (.bool false))),
  sv 18 95 94,
  sg 19 96 95 true (.mv (tm 18)),
  sg 20 97 95 true (.mv (tm 22)),
  ⟨21, (some 98), (some ((some 95), true)), .callF 33 [(tm 96), (tm 97)], [], false⟩,
  sm 22 99 (.pick (tm 95) (tm 98) (.const (.bool false))),
  sv 23 100 99,
  sg 24 101 100 true (.mv (tm 19)),
  sg 25 102 100 true (.mv (tm 23)),
  ⟨26, (some 103), (some ((some 100), true)), .callF 33 [(tm 101), (tm 102)], [], false⟩,
  sm 27 104 (.pick (tm 100) (tm 103) (.const (.bool false))),
  sv 28 105 104,
  sg 29 106 105 true (.mv (tm 20)),
  sg 30 107 105 true (.mv (tm 24)),
  ⟨31, (some 108), (some ((some 105), true)), .callF 24 [(tm 106), (tm 107)], [], false⟩,
  sm 32 109 (.pick (tm 105) (tm 108) (.const (.bool false))),
  sv 33 110 109,
  sg 34 111 110 true (.mv (tm 21)),
  sg 35 112 110 true (.mv (tm 25)),
  sg 36 113 110 true (.bin .eql 3 (tm 111) (tm 112)),
  sm 37 114 (.pick (tm 110) (tm 113) (.const (.bool false))),
  sv 38 115 114,
  sg 39 116 115 true (.mv (tm 0)),
  sg 40 117 115 true (.mv (tm 9)),
  ⟨41, (some 118), (some ((some 115), true)), .callF 24 [(tm 116), (tm 117)], [], false⟩,
  sm 42 119 (.pick (tm 115) (tm 118) (.const (.bool false))),
  sv 43 8 119])
  .ret))))))))))
def r4 : List Mo := [.mv (tm 8)]
theorem c4_eq : compF Tryd.prog 4 = some c4 := by kernel_rfl
theorem r4_eq : compRs Tryd.prog 4 = some r4 := by kernel_rfl
/-! F5 braid/braidlaw39.SketchDiffers -/
def c5 : Cd := (.seq (.reg [sm 0 6 (.mv (.const (.bool false)))])
  (.seq (.reg [sc 0 18 34 [],
  sv 1 7 18])
  (.seq (.seq (.reg [sv 0 19 1,
  sm 1 20 (.len (.sl 32) (tm 19)),
  sm 2 21 (.bin .gtr 3 (tm 20) (.const (.int .i64 25))),
  sv 3 22 21,
  sg 4 23 22 false (.mv (tm 2)),
  sg 5 24 22 false (.len (.sl 32) (tm 23)),
  sg 6 25 22 false (.bin .gtr 3 (tm 24) (.const (.int .i64 25))),
  sm 7 26 (.pick (tm 22) (.const (.bool true)) (tm 25)),
  sv 8 27 26,
  sg 9 28 27 false (.mv (tm 0)),
  ⟨10, (some 29), (some ((some 27), false)), .callF 35 [(tm 28)], [], false⟩,
  sg 11 30 27 false (.un .not (tm 29)),
  sm 12 31 (.pick (tm 27) (.const (.bool true)) (tm 30)),
  sv 13 32 31,
  sg 14 33 32 false (.mv (tm 1)),
  ⟨15, (some 34), (some ((some 32), false)), .callF 36 [(tm 33)], [], false⟩,
  sg 16 35 32 false (.un .not (tm 34)),
  sm 17 36 (.pick (tm 32) (.const (.bool true)) (tm 35)),
  sv 18 37 36,
  sg 19 38 37 false (.mv (tm 2)),
  ⟨20, (some 39), (some ((some 37), false)), .callF 36 [(tm 38)], [], false⟩,
  sg 21 40 37 false (.un .not (tm 39)),
  sm 22 41 (.pick (tm 37) (.const (.bool true)) (tm 40)),
  sv 23 42 41,
  sg 24 43 42 false (.mv (tm 7)),
  sg 25 44 42 false (.un .not (tm 43)),
  sm 26 45 (.pick (tm 42) (.const (.bool true)) (tm 44)),
  sv 27 46 45,
  sg 28 47 46 false (.mv (tm 0)),
  sg 29 48 46 false (.mv (tm 1)),
  sg 30 49 46 false (.mv (tm 2)),
  ⟨31, (some 50), (some ((some 46), false)), .callF 37 [(tm 47), (tm 48), (tm 49)], [], false⟩,
  sg 32 51 46 false (.un .not (tm 50)),
  sm 33 52 (.pick (tm 46) (.const (.bool true)) (tm 51))])
  (.cond (tm 52) (.seq (.reg [sv 0 53 7,
  sv 1 6 53])
  .ret) .skip))
  (.seq (.reg [sv 0 55 0,
  sv 1 56 1,
  sc 2 57 27 [(tm 55), (tm 56)],
  sv 3 54 57,
  sm 4 58 (.ext (tm 54) 0),
  sm 5 59 (.ext (tm 54) 1),
  sv 6 8 58,
  sv 7 9 59])
  (.seq (.reg [sv 0 61 0,
  sv 1 62 2,
  sc 2 63 27 [(tm 61), (tm 62)],
  sv 3 60 63,
  sm 4 64 (.ext (tm 60) 0),
  sm 5 65 (.ext (tm 60) 1),
  sv 6 10 64,
  sv 7 11 65])
  (.seq (.reg [sv 0 67 8,
  sv 1 68 10,
  sc 2 69 29 [(tm 67), (tm 68)],
  sv 3 66 69,
  sm 4 70 (.ext (tm 66) 0),
  sm 5 71 (.ext (tm 66) 1),
  sv 6 12 70,
  sv 7 13 71])
  (.seq (.reg [sv 0 73 12,
  sc 1 74 31 [(tm 73)],
  sv 2 72 74,
  sm 3 75 (.ext (tm 72) 0),
  sm 4 76 (.ext (tm 72) 1),
  sm 5 77 (.ext (tm 72) 2),
  sm 6 78 (.ext (tm 72) 3),
  sv 7 14 75,
  sv 8 15 76,
  sv 9 16 77,
  sv 10 17 78])
  (.seq (.reg [sv 0 79 7,
  sv 1 80 79,
  sg 2 81 80 true (.mv (tm 9)),
  sg 3 82 80 true (.bin .eql 26 (tm 81) (.const (.int .i64 0))),
  sm 4 83 (.pick (tm 80) (tm 82) (.const (.bool false))),
  sv 5 84 83,
  sg 6 85 84 true (.mv (tm 11)),
  sg 7 86 84 true (.bin .eql 26 (tm 85) (.const (.int .i64 0))),
  sm 8 87 (.pick (tm 84) (tm 86) (.const (.bool false))),
  sv 9 88 87,
  sg 10 89 88 true (.mv (tm 13)),
  sg 11 90 88 true (.bin .eql 26 (tm 89) (.const (.int .i64 0))),
  sm 12 91 (.pick (tm 88) (tm 90) (.const (.bool false))),
  sv 13 92 91,
  sg 14 93 92 true (.mv (tm 17)),
  sg 15 94 92 true (.bin .eql 26 (tm 93) (.const (.int .i64 0))),
  sm 16 95 (.pick (tm 92) (tm 94) (.const (.bool false))),
  sv 17 96 95,
  sg 18 97 96 true (.mv (tm 14)),
  sg 19 98 96 true (.mv (tm 1)),
  sg 20 99 96 true (.mv (tm 2)),
  ⟨21, (some 100), (some ((some 96), true)), .callF 38 [(tm 98), (tm 99)], [], false⟩,
  ⟨22, (some 101), (some ((some 96), true)), .callF 33 [(tm 97), (tm 100)], [], false⟩,
  sm 23 102 (.pick (tm 96) (tm 101) (.const (.bool false))),
  sv 24 103 102,
  sg 25 104 103 true (.mv (tm 15)),
  sg 26 105 103 true (.mv (tm 2)),
  sg 27 106 103 true (.mv (tm 1)),
  ⟨28, (some 107), (some ((some 103), true)), .callF 38 [(tm 105), (tm 106)], [], false⟩,
  ⟨29, (some 108), (some ((some 103), true)), .callF 33 [(tm 104), (tm 107)], [], false⟩,
  sm 30 109 (.pick (tm 103) (tm 108) (.const (.bool false))),
  sv 31 110 109,
  sg 32 111 110 true (.mv (tm 16)),
  sg 33 112 110 true (.mv (tm 0)),
  sg 34 113 110 true (.mks 34 48 ([.int .i64 0] ++ rep 32 (.int .u8 0) ++ [.int .u64 0]) (tm 112) (tm 112)),
  ⟨35, (some 114), (some ((some 110), true)), .callF 24 [(tm 111), (tm 113)], [], false⟩,
  sm 36 115 (.pick (tm 110) (tm 114) (.const (.bool false))),
  sv 37 6 115])
  .ret))))))))
def r5 : List Mo := [.mv (tm 6)]
theorem c5_eq : compF Tryd.prog 5 = some c5 := by kernel_rfl
theorem r5_eq : compRs Tryd.prog 5 = some r5 := by kernel_rfl
/-! F6 braid/braidlaw39.SketchTwo -/
def c6 : Cd := (.seq (.reg [sm 0 7 (.box (tm 2)),
  sm 1 8 (.box (tm 3)),
  sm 2 10 (.mv (.const (.bool false)))])
  (.seq (.reg [sc 0 31 34 [],
  sv 1 11 31])
  (.seq (.seq (.reg [sv 0 32 1,
  sm 1 33 (.len (.sl 32) (tm 32)),
  sm 2 34 (.bin .gtr 3 (tm 33) (.const (.int .i64 20))),
  sv 3 35 34,
  sg 4 36 35 false (.mv (tm 0)),
  ⟨5, (some 37), (some ((some 35), false)), .callF 35 [(tm 36)], [], false⟩,
  sg 6 38 35 false (.un .not (tm 37)),
  sm 7 39 (.pick (tm 35) (.const (.bool true)) (tm 38)),
  sv 8 40 39,
  sg 9 41 40 false (.mv (tm 1)),
  sg 10 42 40 false (.ldA 32 (tm 7)),
  ⟨11, (some 43), (some ((some 40), false)), .callF 39 [(tm 41), (tm 42)], [], false⟩,
  sm 12 44 (.pick (tm 40) (.const (.bool true)) (tm 43)),
  sv 13 45 44,
  sg 14 46 45 false (.mv (tm 1)),
  sg 15 47 45 false (.ldA 32 (tm 8)),
  ⟨16, (some 48), (some ((some 45), false)), .callF 39 [(tm 46), (tm 47)], [], false⟩,
  sm 17 49 (.pick (tm 45) (.const (.bool true)) (tm 48)),
  sv 18 50 49,
  sg 19 51 50 false (.ldA 32 (tm 7)),
  sg 20 52 50 false (.ldA 32 (tm 8)),
  sg 21 53 50 false (.bin .eql 24 (tm 51) (tm 52)),
  sm 22 54 (.pick (tm 50) (.const (.bool true)) (tm 53)),
  sv 23 55 54,
  sg 24 56 55 false (.mv (tm 11)),
  sg 25 57 55 false (.un .not (tm 56)),
  sm 26 58 (.pick (tm 55) (.const (.bool true)) (tm 57))])
  (.cond (tm 58) (.seq (.reg [sv 0 59 11,
  sv 1 10 59])
  .ret) .skip))
  (.seq (.reg [sv 0 61 0,
  sm 1 62 (.ldA 32 (tm 7)),
  sc 2 63 13 [(tm 61), (tm 62)],
  sv 3 60 63,
  sm 4 64 (.ext (tm 60) 0),
  sm 5 65 (.ext (tm 60) 1),
  sm 6 12 (.alloc [.int .i64 0, .int .i64 0, .int .i64 0]),
  se 7 (.st 3 (tm 12) (tm 64)),
  sv 8 13 65])
  (.seq (.reg [sv 0 67 0,
  sm 1 68 (.ldA 32 (tm 8)),
  sc 2 69 13 [(tm 67), (tm 68)],
  sv 3 66 69,
  sm 4 70 (.ext (tm 66) 0),
  sm 5 71 (.ext (tm 66) 1),
  sm 6 14 (.alloc [.int .i64 0, .int .i64 0, .int .i64 0]),
  se 7 (.st 3 (tm 14) (tm 70)),
  sv 8 15 71])
  (.seq (.dreg [sv 0 73 0,
  sm 1 74 (.bsl 32 (rep 32 (.int .u8 0)) 0 []),
  sv 2 75 1,
  ⟨4, (some 77), none, .mo (.ldA 32 (tm 7)), [], true⟩,
  ⟨5, (some 78), none, .mo (.bsl 32 (rep 32 (.int .u8 0)) 1 [(0, (tm 77))]), [], true⟩,
  ⟨3, (some 76), none, .mo (.app 32 32 (tm 74) (tm 75)), [5, 4], false⟩,
  sm 6 79 (.app 32 32 (tm 76) (tm 78)),
  sc 7 80 27 [(tm 73), (tm 79)],
  sv 8 72 80,
  sm 9 81 (.ext (tm 72) 0),
  sm 10 82 (.ext (tm 72) 1),
  sv 11 16 81,
  sv 12 17 82])
  (.seq (.reg [sv 0 84 0,
  sv 1 85 1,
  sc 2 86 27 [(tm 84), (tm 85)],
  sv 3 83 86,
  sm 4 87 (.ext (tm 83) 0),
  sm 5 88 (.ext (tm 83) 1),
  sv 6 18 87,
  sv 7 19 88])
  (.seq (.reg [sv 0 90 16,
  sv 1 91 18,
  sc 2 92 29 [(tm 90), (tm 91)],
  sv 3 89 92,
  sm 4 93 (.ext (tm 89) 0),
  sm 5 94 (.ext (tm 89) 1),
  sv 6 20 93,
  sv 7 21 94])
  (.seq (.reg [sv 0 96 20,
  sc 1 97 31 [(tm 96)],
  sv 2 95 97,
  sm 3 98 (.ext (tm 95) 0),
  sm 4 99 (.ext (tm 95) 1),
  sm 5 100 (.ext (tm 95) 2),
  sm 6 101 (.ext (tm 95) 3),
  sv 7 22 98,
  sv 8 23 99,
  sv 9 24 100,
  sv 10 25 101])
  (.seq (.seq (.reg [sv 0 102 13,
  sm 1 103 (.bin .neq 26 (tm 102) (.const (.int .i64 0))),
  sv 2 104 103,
  sg 3 105 104 false (.mv (tm 15)),
  sg 4 106 104 false (.bin .neq 26 (tm 105) (.const (.int .i64 0))),
  sm 5 107 (.pick (tm 104) (.const (.bool true)) (tm 106)),
  sv 6 108 107,
  sg 7 109 108 false (.mv (tm 17)),
  sg 8 110 108 false (.bin .neq 26 (tm 109) (.const (.int .i64 0))),
  sm 9 111 (.pick (tm 108) (.const (.bool true)) (tm 110)),
  sv 10 112 111,
  sg 11 113 112 false (.mv (tm 19)),
  sg 12 114 112 false (.bin .neq 26 (tm 113) (.const (.int .i64 0))),
  sm 13 115 (.pick (tm 112) (.const (.bool true)) (tm 114)),
  sv 14 116 115,
  sg 15 117 116 false (.mv (tm 21)),
  sg 16 118 116 false (.bin .neq 26 (tm 117) (.const (.int .i64 0))),
  sm 17 119 (.pick (tm 116) (.const (.bool true)) (tm 118)),
  sv 18 120 119,
  sg 19 121 120 false (.mv (tm 25)),
  sg 20 122 120 false (.bin .neq 26 (tm 121) (.const (.int .i64 0))),
  sm 21 123 (.pick (tm 120) (.const (.bool true)) (tm 122)),
  sv 22 124 123,
  sg 23 125 124 false (.mv (tm 22)),
  sg 24 126 124 false (.ldA 32 (tm 7)),
  sg 25 127 124 false (.bsl 32 (rep 32 (.int .u8 0)) 1 [(0, (tm 126))]),
  ⟨26, (some 128), (some ((some 124), false)), .callF 33 [(tm 125), (tm 127)], [], false⟩,
  sg 27 129 124 false (.un .not (tm 128)),
  sm 28 130 (.pick (tm 124) (.const (.bool true)) (tm 129)),
  sv 29 131 130,
  sg 30 132 131 false (.mv (tm 23)),
  sg 31 133 131 false (.len (.sl 32) (tm 132)),
  sg 32 134 131 false (.bin .gtr 3 (tm 133) (.const (.int .i64 0))),
  sm 33 135 (.pick (tm 131) (.const (.bool true)) (tm 134))])
  (.cond (tm 135) (.seq (.reg [sm 0 10 (.mv (.const (.bool false)))])
  .ret) .skip))
  (.seq (.seq (.reg [sm 0 136 (.ldA 3 (tm 12)),
  sm 1 137 (.ldA 3 (tm 14)),
  sm 2 138 (.bin .eql 31 (tm 136) (tm 137))])
  (.cond (tm 138) (.seq (.reg [sv 0 139 11,
  sv 1 10 139])
  .ret) .skip))
  (.seq (.reg [sm 0 26 (.mv (.const (.int .i64 0))),
  sm 1 27 (.mv (.const (.int .i64 0)))])
  (.seq (.seq (.reg [sv 0 140 4])
  (.cond (tm 140) (.reg [sv 0 142 18,
  sm 1 143 (.ldA 32 (tm 8)),
  sc 2 144 16 [(tm 142), (tm 143)],
  sv 3 141 144,
  sm 4 145 (.ext (tm 141) 0),
  sm 5 146 (.ext (tm 141) 1),
  sv 6 18 145,
  sv 7 26 146]) (.reg [sv 0 148 16,
  sm 1 149 (.ldA 32 (tm 8)),
  sc 2 150 16 [(tm 148), (tm 149)],
  sv 3 147 150,
  sm 4 151 (.ext (tm 147) 0),
  sm 5 152 (.ext (tm 147) 1),
  sv 6 16 151,
  sv 7 26 152])))
  (.seq (.reg [sv 0 154 16,
  sv 1 155 18,
  sc 2 156 29 [(tm 154), (tm 155)],
  sv 3 153 156,
  sm 4 157 (.ext (tm 153) 0),
  sm 5 158 (.ext (tm 153) 1),
  sv 6 28 157,
  sv 7 27 158])
  (.seq (.reg [sv 0 160 28,
  sc 1 161 31 [(tm 160)],
  sv 2 159 161,
  sm 3 162 (.ext (tm 159) 0),
  sm 4 163 (.ext (tm 159) 1),
  sm 5 164 (.ext (tm 159) 2),
  sm 6 165 (.ext (tm 159) 3),
  sv 7 22 162,
  sv 8 23 163,
  sv 9 29 164,
  sv 10 30 165])
  (.seq (.seq (.reg [sv 0 166 26,
  sm 1 167 (.bin .neq 26 (tm 166) (.const (.int .i64 0))),
  sv 2 168 167,
  sg 3 169 168 false (.mv (tm 27)),
  sg 4 170 168 false (.bin .neq 26 (tm 169) (.const (.int .i64 0))),
  sm 5 171 (.pick (tm 168) (.const (.bool true)) (tm 170)),
  sv 6 172 171,
  sg 7 173 172 false (.mv (tm 30)),
  sg 8 174 172 false (.bin .neq 26 (tm 173) (.const (.int .i64 0))),
  sm 9 175 (.pick (tm 172) (.const (.bool true)) (tm 174)),
  sv 10 176 175,
  sg 11 177 176 false (.mv (tm 29)),
  sg 12 178 176 false (.mv (tm 0)),
  sg 13 179 176 false (.mks 34 48 ([.int .i64 0] ++ rep 32 (.int .u8 0) ++ [.int .u64 0]) (tm 178) (tm 178)),
  ⟨14, (some 180), (some ((some 176), false)), .callF 24 [(tm 177), (tm 179)], [], false⟩,
  sg 15 181 176 false (.un .not (tm 180)),
  sm 16 182 (.pick (tm 176) (.const (.bool true)) (tm 181))])
  (.cond (tm 182) (.seq (.reg [sm 0 10 (.mv (.const (.bool false)))])
  .ret) .skip))
  (.seq (.seq (.reg [sv 0 183 4])
  (.cond (tm 183) (.seq (.reg [sv 0 184 11,
  sv 1 185 184,
  sg 2 186 185 true (.mv (tm 22)),
  sg 3 187 185 true (.ldA 32 (tm 7)),
  sg 4 188 185 true (.bsl 32 (rep 32 (.int .u8 0)) 1 [(0, (tm 187))]),
  ⟨5, (some 189), (some ((some 185), true)), .callF 33 [(tm 186), (tm 188)], [], false⟩,
  sm 6 190 (.pick (tm 185) (tm 189) (.const (.bool false))),
  sv 7 191 190,
  sg 8 192 191 true (.mv (tm 23)),
  sg 9 193 191 true (.ldA 32 (tm 8)),
  sg 10 194 191 true (.bsl 32 (rep 32 (.int .u8 0)) 1 [(0, (tm 193))]),
  ⟨11, (some 195), (some ((some 191), true)), .callF 33 [(tm 192), (tm 194)], [], false⟩,
  sm 12 196 (.pick (tm 191) (tm 195) (.const (.bool false))),
  sv 13 10 196])
  .ret) .skip))
  (.seq (.reg [sv 0 197 11,
  sv 1 198 197,
  sg 2 199 198 true (.mv (tm 22)),
  sg 3 200 198 true (.len (.sl 32) (tm 199)),
  sg 4 201 198 true (.bin .eql 3 (tm 200) (.const (.int .i64 2))),
  sm 5 202 (.pick (tm 198) (tm 201) (.const (.bool false))),
  sv 6 203 202,
  sg 7 204 203 true (.mv (tm 23)),
  sg 8 205 203 true (.len (.sl 32) (tm 204)),
  sg 9 206 203 true (.bin .eql 3 (tm 205) (.const (.int .i64 0))),
  sm 10 207 (.pick (tm 203) (tm 206) (.const (.bool false))),
  sv 11 208 207,
  sg 12 209 208 true (.mv (tm 22)),
  sg 13 210 208 true (.ldA 32 (tm 7)),
  ⟨14, (some 211), (some ((some 208), true)), .callF 39 [(tm 209), (tm 210)], [], false⟩,
  sm 15 212 (.pick (tm 208) (tm 211) (.const (.bool false))),
  sv 16 213 212,
  sg 17 214 213 true (.mv (tm 22)),
  sg 18 215 213 true (.ldA 32 (tm 8)),
  ⟨19, (some 216), (some ((some 213), true)), .callF 39 [(tm 214), (tm 215)], [], false⟩,
  sm 20 217 (.pick (tm 213) (tm 216) (.const (.bool false))),
  sv 21 218 217,
  sg 22 219 218 true (.mv (tm 22)),
  ⟨23, (some 220), (some ((some 218), true)), .callF 36 [(tm 219)], [], false⟩,
  sm 24 221 (.pick (tm 218) (tm 220) (.const (.bool false))),
  sv 25 10 221])
  .ret))))))))))))))))))
def r6 : List Mo := [.mv (tm 10)]
theorem c6_eq : compF Tryd.prog 6 = some c6 := by kernel_rfl
theorem r6_eq : compRs Tryd.prog 6 = some r6 := by kernel_rfl
/-! F7 braid/braidlaw39.SketchNames -/
def l7_0 : Cd := (.seq (.seq (.reg [sv 0 57 2,
  sm 1 58 (.bin .leq 3 (tm 57) (.const (.int .i64 60)))])
  (.cond (tm 58) .skip (.exit 0)))
  (.seq (.block 1 (.seq (.reg [sv 0 62 2,
  sc 1 63 11 [(tm 62)],
  sv 2 61 63,
  sm 3 64 (.ext (tm 61) 0),
  sm 4 65 (.ext (tm 61) 1),
  sv 5 3 64,
  sv 6 4 65])
  (.seq (.reg [sv 0 67 2,
  sm 1 68 (.bld (rep 32 (.int .u8 0)) []),
  sc 2 69 13 [(tm 67), (tm 68)],
  sv 3 66 69,
  sm 4 70 (.ext (tm 66) 0),
  sm 5 71 (.ext (tm 66) 1),
  sm 6 5 (.alloc [.int .i64 0, .int .i64 0, .int .i64 0]),
  se 7 (.st 3 (tm 5) (tm 70)),
  sv 8 6 71])
  (.seq (.reg [sv 0 72 2,
  sm 1 73 (.bin .geq 3 (tm 72) (.const (.int .i64 3))),
  sv 2 74 73,
  sg 3 75 74 true (.mv (tm 2)),
  sg 4 76 74 true (.bin .leq 3 (tm 75) (.const (.int .i64 48))),
  sm 5 77 (.pick (tm 74) (tm 76) (.const (.bool false))),
  sv 6 78 77,
  sg 7 79 78 true (.mv (tm 2)),
  sg 8 80 78 true (.bin .rem 3 (tm 79) (.const (.int .i64 3))),
  sg 9 81 78 true (.bin .eql 3 (tm 80) (.const (.int .i64 0))),
  sm 10 82 (.pick (tm 78) (tm 81) (.const (.bool false))),
  sv 11 7 82])
  (.reg [sv 0 83 1,
  sv 1 84 83,
  sg 2 85 84 true (.mv (tm 4)),
  sg 3 86 84 true (.bin .eql 26 (tm 85) (.const (.int .i64 0))),
  sg 4 87 84 true (.mv (tm 7)),
  sg 5 88 84 true (.bin .eql 4 (tm 86) (tm 87)),
  sm 6 89 (.pick (tm 84) (tm 88) (.const (.bool false))),
  sv 7 90 89,
  sg 8 91 90 true (.mv (tm 4)),
  sg 9 92 90 true (.mv (tm 6)),
  sg 10 93 90 true (.bin .eql 26 (tm 91) (tm 92)),
  sm 11 94 (.pick (tm 90) (tm 93) (.const (.bool false))),
  sv 12 95 94,
  sg 13 96 95 true (.mv (tm 7)),
  sg 14 97 95 true (.mv (tm 96)),
  sg 15 98 97 true (.mv (tm 3)),
  sg 16 99 97 true (.len (.sl 34) (tm 98)),
  sg 17 100 97 true (.mv (tm 2)),
  sg 18 101 97 true (.bin .eql 3 (tm 99) (tm 100)),
  sg 19 102 95 true (.pick (tm 97) (tm 101) (.const (.bool false))),
  sg 20 103 95 true (.mv (tm 102)),
  sg 21 104 103 false (.mv (tm 7)),
  sg 22 105 103 false (.un .not (tm 104)),
  sg 23 106 103 false (.mv (tm 105)),
  sg 24 107 106 true (.mv (tm 4)),
  sg 25 108 106 true (.bin .eql 26 (tm 107) (.const (.int .i64 2))),
  sg 26 109 103 false (.pick (tm 106) (tm 108) (.const (.bool false))),
  sg 27 110 103 false (.mv (tm 109)),
  sg 28 111 110 true (.mv (tm 3)),
  sg 29 112 110 true (.len (.sl 34) (tm 111)),
  sg 30 113 110 true (.bin .eql 3 (tm 112) (.const (.int .i64 0))),
  sg 31 114 103 false (.pick (tm 110) (tm 113) (.const (.bool false))),
  sg 32 115 95 true (.pick (tm 103) (.const (.bool true)) (tm 114)),
  sm 33 116 (.pick (tm 95) (tm 115) (.const (.bool false))),
  sv 34 1 116])))))
  (.reg [sv 0 59 2,
  sm 1 60 (.bin .add 3 (tm 59) (.const (.int .i64 1))),
  sv 2 2 60])))
def c7 : Cd := (.seq (.reg [sm 0 0 (.mv (.const (.bool false)))])
  (.seq (.reg [sm 0 1 (.mv (.const (.bool true)))])
  (.seq (.seq (.reg [sm 0 2 (.mv (.const (.int .i64 (-3))))])
  (.block 0 (.loop l7_0)))
  (.seq (.reg [sm 0 117 (.bld ([.int .i64 0] ++ rep 32 (.int .u8 0) ++ [.int .u64 0]) [(0, 1, (.const (.int .i64 1000000)))]),
  sm 1 118 (.bld ([.int .i64 0] ++ rep 32 (.int .u8 0) ++ [.int .u64 0]) []),
  sm 2 119 (.bld ([.int .i64 0] ++ rep 32 (.int .u8 0) ++ [.int .u64 0]) []),
  sm 3 120 (.bsl 34 ([.int .i64 0] ++ rep 32 (.int .u8 0) ++ [.int .u64 0]) 3 [(0, (tm 117)), (1, (tm 118)), (2, (tm 119))]),
  sv 4 8 120])
  (.seq (.reg [sm 0 121 (.bld ([.int .i64 0] ++ rep 32 (.int .u8 0) ++ [.int .u64 0]) []),
  sm 1 122 (.bld ([.int .i64 0] ++ rep 32 (.int .u8 0) ++ [.int .u64 0]) []),
  sm 2 123 (.bld ([.int .i64 0] ++ rep 32 (.int .u8 0) ++ [.int .u64 0]) [(0, 1, (.const (.int .i64 (-1000000))))]),
  sm 3 124 (.bsl 34 ([.int .i64 0] ++ rep 32 (.int .u8 0) ++ [.int .u64 0]) 3 [(0, (tm 121)), (1, (tm 122)), (2, (tm 123))]),
  sv 4 9 124])
  (.seq (.reg [sm 0 125 (.bld ([.int .i64 0] ++ rep 32 (.int .u8 0) ++ [.int .u64 0]) [(0, 1, (.const (.int .i64 1000001)))]),
  sm 1 126 (.bld ([.int .i64 0] ++ rep 32 (.int .u8 0) ++ [.int .u64 0]) []),
  sm 2 127 (.bld ([.int .i64 0] ++ rep 32 (.int .u8 0) ++ [.int .u64 0]) []),
  sm 3 128 (.bsl 34 ([.int .i64 0] ++ rep 32 (.int .u8 0) ++ [.int .u64 0]) 3 [(0, (tm 125)), (1, (tm 126)), (2, (tm 127))]),
  sv 4 10 128])
  (.seq (.reg [sv 0 130 8,
  sc 1 131 40 [(.const (.int .u8 1))],
  sc 2 132 16 [(tm 130), (tm 131)],
  sv 3 129 132,
  sm 4 133 (.ext (tm 129) 0),
  sm 5 134 (.ext (tm 129) 1),
  sv 6 11 133,
  sv 7 12 134])
  (.seq (.reg [sv 0 136 8,
  sc 1 137 40 [(.const (.int .u8 1))],
  sc 2 138 18 [(tm 136), (tm 137)],
  sv 3 135 138,
  sm 4 139 (.ext (tm 135) 0),
  sm 5 140 (.ext (tm 135) 1),
  sv 6 13 139,
  sv 7 14 140])
  (.seq (.reg [sv 0 142 9,
  sc 1 143 40 [(.const (.int .u8 1))],
  sc 2 144 18 [(tm 142), (tm 143)],
  sv 3 141 144,
  sm 4 145 (.ext (tm 141) 0),
  sm 5 146 (.ext (tm 141) 1),
  sv 6 15 145,
  sv 7 16 146])
  (.seq (.reg [sv 0 148 8,
  sv 1 149 9,
  sm 2 150 (.slice (.sl 34) (tm 149) (some (.const (.int .i64 1))) none none),
  sc 3 151 29 [(tm 148), (tm 150)],
  sv 4 147 151,
  sm 5 152 (.ext (tm 147) 0),
  sm 6 153 (.ext (tm 147) 1),
  sv 7 17 152,
  sv 8 18 153])
  (.seq (.reg [sv 0 155 9,
  sv 1 156 8,
  sc 2 157 29 [(tm 155), (tm 156)],
  sv 3 154 157,
  sm 4 158 (.ext (tm 154) 0),
  sm 5 159 (.ext (tm 154) 1),
  sv 6 19 158,
  sv 7 20 159])
  (.seq (.reg [sv 0 161 8,
  sv 1 162 8,
  sc 2 163 29 [(tm 161), (tm 162)],
  sv 3 160 163,
  sm 4 164 (.ext (tm 160) 0),
  sm 5 165 (.ext (tm 160) 1),
  sv 6 21 164,
  sv 7 22 165])
  (.seq (.reg [sv 0 167 8,
  sm 1 168 (.mks 34 48 ([.int .i64 0] ++ rep 32 (.int .u8 0) ++ [.int .u64 0]) (.const (.int .i64 6)) (.const (.int .i64 6))),
  sc 2 169 29 [(tm 167), (tm 168)],
  sv 3 166 169,
  sm 4 170 (.ext (tm 166) 0),
  sm 5 171 (.ext (tm 166) 1),
  sv 6 23 170,
  sv 7 24 171])
  (.seq (.reg [sv 0 173 10,
  sc 1 174 31 [(tm 173)],
  sv 2 172 174,
  sm 3 175 (.ext (tm 172) 0),
  sm 4 176 (.ext (tm 172) 1),
  sm 5 177 (.ext (tm 172) 2),
  sm 6 178 (.ext (tm 172) 3),
  sv 7 25 175,
  sv 8 26 176,
  sv 9 27 177,
  sv 10 28 178])
  (.seq (.reg [sv 0 180 8,
  sc 1 181 20 [(tm 180), (.const (.int .i64 3))],
  sv 2 179 181,
  sm 3 182 (.ext (tm 179) 0),
  sm 4 183 (.ext (tm 179) 1),
  sv 5 29 182,
  sv 6 30 183])
  (.seq (.reg [sv 0 185 8,
  sc 1 186 20 [(tm 185), (.const (.int .i64 (-1)))],
  sv 2 184 186,
  sm 3 187 (.ext (tm 184) 0),
  sm 4 188 (.ext (tm 184) 1),
  sv 5 31 187,
  sv 6 32 188])
  (.seq (.reg [sc 0 190 20 [(.const (.slice none 0 0)), (.const (.int .i64 0))],
  sv 1 189 190,
  sm 2 191 (.ext (tm 189) 0),
  sm 3 192 (.ext (tm 189) 1),
  sv 4 33 191,
  sv 5 34 192])
  (.seq (.reg [sm 0 194 (.mks 32 32 (rep 32 (.int .u8 0)) (.const (.int .i64 61)) (.const (.int .i64 61))),
  sc 1 195 27 [(.const (.int .i64 5)), (tm 194)],
  sv 2 193 195,
  sm 3 196 (.ext (tm 193) 0),
  sm 4 197 (.ext (tm 193) 1),
  sv 5 35 196,
  sv 6 36 197])
  (.seq (.reg [sm 0 199 (.mks 32 32 (rep 32 (.int .u8 0)) (.const (.int .i64 61)) (.const (.int .i64 61))),
  sc 1 200 27 [(.const (.int .i64 6)), (tm 199)],
  sv 2 198 200,
  sm 3 201 (.ext (tm 198) 0),
  sm 4 202 (.ext (tm 198) 1),
  sv 5 37 201,
  sv 6 38 202])
  (.seq (.reg [sm 0 204 (.mks 32 32 (rep 32 (.int .u8 0)) (.const (.int .i64 60)) (.const (.int .i64 60))),
  sc 1 205 27 [(.const (.int .i64 3)), (tm 204)],
  sv 2 203 205,
  sm 3 206 (.ext (tm 203) 0),
  sm 4 207 (.ext (tm 203) 1),
  sv 5 39 206,
  sv 6 40 207])
  (.seq (.seq (.reg [sv 0 208 13,
  sm 1 209 (.len (.sl 34) (tm 208)),
  sm 2 210 (.bin .neq 3 (tm 209) (.const (.int .i64 3))),
  sv 3 211 210,
  sg 4 212 211 false (.mv (tm 39)),
  sg 5 213 211 false (.len (.sl 34) (tm 212)),
  sg 6 214 211 false (.bin .neq 3 (tm 213) (.const (.int .i64 3))),
  sm 7 215 (.pick (tm 211) (.const (.bool true)) (tm 214))])
  (.cond (tm 215) (.seq (.reg [sm 0 0 (.mv (.const (.bool false)))])
  .ret) .skip))
  (.seq (.dreg [sv 0 216 12,
  sm 1 217 (.bin .eql 26 (tm 216) (.const (.int .i64 16))),
  sv 2 218 217,
  sg 3 219 218 true (.mv (tm 14)),
  sg 4 220 218 true (.bin .eql 26 (tm 219) (.const (.int .i64 0))),
  sm 5 221 (.pick (tm 218) (tm 220) (.const (.bool false))),
  sv 6 222 221,
  sg 7 223 222 true (.mv (tm 13)),
  sg 8 224 222 true (.ia (.sl 34) (tm 223) (.const (.int .i64 0))),
  sg 9 225 222 true (.fa 0 (tm 224)),
  sg 10 226 222 true (.ld1 (tm 225)),
  sg 11 227 222 true (.bin .eql 2 (tm 226) (.const (.int .i64 999999))),
  sm 12 228 (.pick (tm 222) (tm 227) (.const (.bool false))),
  sv 13 229 228,
  sg 14 230 229 true (.mv (tm 13)),
  sg 15 231 229 true (.ia (.sl 34) (tm 230) (.const (.int .i64 1))),
  sg 16 232 229 true (.fa 0 (tm 231)),
  sg 17 233 229 true (.ld1 (tm 232)),
  sg 18 234 229 true (.bin .eql 2 (tm 233) (.const (.int .i64 (-1)))),
  sm 19 235 (.pick (tm 229) (tm 234) (.const (.bool false))),
  sv 20 236 235,
  sg 21 237 236 true (.mv (tm 13)),
  sg 22 238 236 true (.ia (.sl 34) (tm 237) (.const (.int .i64 2))),
  sg 23 239 236 true (.fa 1 (tm 238)),
  ⟨24, (some 240), (some ((some 236), true)), .mo (.ldA 32 (tm 239)), [], true⟩,
  ⟨25, (some 241), (some ((some 236), true)), .callF 40 [(.const (.int .u8 1))], [24], false⟩,
  sg 26 242 236 true (.bin .eql 24 (tm 240) (tm 241)),
  sm 27 243 (.pick (tm 236) (tm 242) (.const (.bool false))),
  sv 28 244 243,
  sg 29 245 244 true (.mv (tm 16)),
  sg 30 246 244 true (.bin .eql 26 (tm 245) (.const (.int .i64 16))),
  sm 31 247 (.pick (tm 244) (tm 246) (.const (.bool false))),
  sv 32 248 247,
  sg 33 249 248 true (.mv (tm 18)),
  sg 34 250 248 true (.bin .eql 26 (tm 249) (.const (.int .i64 8))),
  sm 35 251 (.pick (tm 248) (tm 250) (.const (.bool false))),
  sv 36 252 251,
  sg 37 253 252 true (.mv (tm 20)),
  sg 38 254 252 true (.bin .eql 26 (tm 253) (.const (.int .i64 0))),
  sm 39 255 (.pick (tm 252) (tm 254) (.const (.bool false))),
  sv 40 256 255,
  sg 41 257 256 true (.mv (tm 22)),
  sg 42 258 256 true (.bin .eql 26 (tm 257) (.const (.int .i64 0))),
  sm 43 259 (.pick (tm 256) (tm 258) (.const (.bool false))),
  sv 44 260 259,
  sg 45 261 260 true (.mv (tm 21)),
  sg 46 262 260 true (.mks 34 48 ([.int .i64 0] ++ rep 32 (.int .u8 0) ++ [.int .u64 0]) (.const (.int .i64 3)) (.const (.int .i64 3))),
  ⟨47, (some 263), (some ((some 260), true)), .callF 24 [(tm 261), (tm 262)], [], false⟩,
  sm 48 264 (.pick (tm 260) (tm 263) (.const (.bool false))),
  sv 49 265 264,
  sg 50 266 265 true (.mv (tm 24)),
  sg 51 267 265 true (.bin .eql 26 (tm 266) (.const (.int .i64 2))),
  sm 52 268 (.pick (tm 265) (tm 267) (.const (.bool false))),
  sv 53 41 268])
  (.seq (.reg [sv 0 269 10,
  sc 1 270 22 [(tm 269)],
  sm 2 271 (.bin .eql 26 (tm 270) (.const (.int .i64 8))),
  sv 3 272 271,
  sg 4 273 272 true (.mv (tm 8)),
  ⟨5, (some 274), (some ((some 272), true)), .callF 22 [(tm 273)], [], false⟩,
  sg 6 275 272 true (.bin .eql 26 (tm 274) (.const (.int .i64 0))),
  sm 7 276 (.pick (tm 272) (tm 275) (.const (.bool false))),
  sv 8 277 276,
  ⟨9, (some 278), (some ((some 277), true)), .callF 22 [(.const (.slice none 0 0))], [], false⟩,
  sg 10 279 277 true (.bin .eql 26 (tm 278) (.const (.int .i64 8))),
  sm 11 280 (.pick (tm 277) (tm 279) (.const (.bool false))),
  sv 12 281 280,
  sg 13 282 281 true (.mks 34 48 ([.int .i64 0] ++ rep 32 (.int .u8 0) ++ [.int .u64 0]) (.const (.int .i64 4)) (.const (.int .i64 4))),
  ⟨14, (some 283), (some ((some 281), true)), .callF 22 [(tm 282)], [], false⟩,
  sg 15 284 281 true (.bin .eql 26 (tm 283) (.const (.int .i64 8))),
  sm 16 285 (.pick (tm 281) (tm 284) (.const (.bool false))),
  sv 17 286 285,
  sg 18 287 286 true (.mks 34 48 ([.int .i64 0] ++ rep 32 (.int .u8 0) ++ [.int .u64 0]) (.const (.int .i64 51)) (.const (.int .i64 51))),
  ⟨19, (some 288), (some ((some 286), true)), .callF 22 [(tm 287)], [], false⟩,
  sg 20 289 286 true (.bin .eql 26 (tm 288) (.const (.int .i64 8))),
  sm 21 290 (.pick (tm 286) (tm 289) (.const (.bool false))),
  sv 22 291 290,
  sg 23 292 291 true (.mv (tm 28)),
  sg 24 293 291 true (.bin .eql 26 (tm 292) (.const (.int .i64 8))),
  sm 25 294 (.pick (tm 291) (tm 293) (.const (.bool false))),
  sv 26 295 294,
  sg 27 296 295 true (.mv (tm 30)),
  sg 28 297 295 true (.bin .eql 26 (tm 296) (.const (.int .i64 2))),
  sm 29 298 (.pick (tm 295) (tm 297) (.const (.bool false))),
  sv 30 299 298,
  sg 31 300 299 true (.mv (tm 32)),
  sg 32 301 299 true (.bin .eql 26 (tm 300) (.const (.int .i64 2))),
  sm 33 302 (.pick (tm 299) (tm 301) (.const (.bool false))),
  sv 34 303 302,
  sg 35 304 303 true (.mv (tm 34)),
  sg 36 305 303 true (.bin .eql 26 (tm 304) (.const (.int .i64 8))),
  sm 37 306 (.pick (tm 303) (tm 305) (.const (.bool false))),
  sv 38 307 306,
  sg 39 308 307 true (.mv (tm 36)),
  sg 40 309 307 true (.bin .eql 26 (tm 308) (.const (.int .i64 2))),
  sm 41 310 (.pick (tm 307) (tm 309) (.const (.bool false))),
  sv 42 311 310,
  sg 43 312 311 true (.mv (tm 38)),
  sg 44 313 311 true (.bin .eql 26 (tm 312) (.const (.int .i64 4))),
  sm 45 314 (.pick (tm 311) (tm 313) (.const (.bool false))),
  sv 46 315 314,
  sg 47 316 315 true (.mv (tm 40)),
  sg 48 317 315 true (.bin .eql 26 (tm 316) (.const (.int .i64 0))),
  sm 49 318 (.pick (tm 315) (tm 317) (.const (.bool false))),
  sv 50 319 318,
  sg 51 320 319 true (.mv (tm 39)),
  sg 52 321 319 true (.ia (.sl 34) (tm 320) (.const (.int .i64 0))),
  sg 53 322 319 true (.ldA 34 (tm 321)),
  sg 54 323 319 true (.bld ([.int .i64 0] ++ rep 32 (.int .u8 0) ++ [.int .u64 0]) [(0, 1, (.const (.int .i64 60)))]),
  sg 55 324 319 true (.bin .eql 69 (tm 322) (tm 323)),
  sm 56 325 (.pick (tm 319) (tm 324) (.const (.bool false))),
  sv 57 42 325])
  (.seq (.reg [sm 0 327 (.bld (rep 32 (.int .u8 0)) []),
  sm 1 328 (.bsl 32 (rep 32 (.int .u8 0)) 1 [(0, (tm 327))]),
  sc 2 329 27 [(.const (.int .i64 3)), (tm 328)],
  sv 3 326 329,
  sm 4 330 (.ext (tm 326) 0),
  sm 5 331 (.ext (tm 326) 1),
  sv 6 43 330,
  sv 7 44 331])
  (.seq (.seq (.reg [sv 0 332 43,
  sm 1 333 (.len (.sl 34) (tm 332)),
  sm 2 334 (.bin .neq 3 (tm 333) (.const (.int .i64 3)))])
  (.cond (tm 334) (.seq (.reg [sm 0 0 (.mv (.const (.bool false)))])
  .ret) .skip))
  (.seq (.reg [sv 0 336 43,
  sc 1 337 31 [(tm 336)],
  sv 2 335 337,
  sm 3 338 (.ext (tm 335) 0),
  sm 4 339 (.ext (tm 335) 1),
  sm 5 340 (.ext (tm 335) 2),
  sm 6 341 (.ext (tm 335) 3),
  sv 7 45 338,
  sv 8 46 339,
  sv 9 47 340,
  sv 10 48 341])
  (.seq (.reg [sm 0 342 (.bsl 34 ([.int .i64 0] ++ rep 32 (.int .u8 0) ++ [.int .u64 0]) 0 []),
  sv 1 343 43,
  sm 2 344 (.app 34 48 (tm 342) (tm 343)),
  sv 3 49 344])
  (.seq (.reg [sv 0 345 49,
  sm 1 346 (.ia (.sl 34) (tm 345) (.const (.int .i64 2))),
  sm 2 347 (.fa 0 (tm 346)),
  se 3 (.st 1 (tm 347) (.const (.int .i64 (-1000000))))])
  (.seq (.reg [sv 0 349 49,
  sc 1 350 31 [(tm 349)],
  sv 2 348 350,
  sm 3 351 (.ext (tm 348) 0),
  sm 4 352 (.ext (tm 348) 1),
  sm 5 353 (.ext (tm 348) 2),
  sm 6 354 (.ext (tm 348) 3),
  sv 7 50 351,
  sv 8 51 352,
  sv 9 52 353,
  sv 10 53 354])
  (.seq (.reg [sm 0 356 (.mks 1 1 [.int .u8 0] (.const (.int .i64 32)) (.const (.int .i64 32))),
  sc 1 357 41 [(tm 356)],
  sv 2 355 357,
  sm 3 358 (.ext (tm 355) 0),
  sm 4 359 (.ext (tm 355) 1),
  sm 5 54 (.alloc (rep 32 (.int .u8 0))),
  se 6 (.st 32 (tm 54) (tm 358)),
  sv 7 55 359])
  (.seq (.reg [sv 0 360 44,
  sm 1 361 (.bin .eql 26 (tm 360) (.const (.int .i64 0))),
  sv 2 362 361,
  sg 3 363 362 true (.mv (tm 43)),
  sg 4 364 362 true (.ia (.sl 34) (tm 363) (.const (.int .i64 0))),
  sg 5 365 362 true (.fa 0 (tm 364)),
  sg 6 366 362 true (.ld1 (tm 365)),
  sg 7 367 362 true (.bin .eql 2 (tm 366) (.const (.int .i64 1))),
  sm 8 368 (.pick (tm 362) (tm 367) (.const (.bool false))),
  sv 9 369 368,
  sg 10 370 369 true (.mv (tm 55)),
  sg 11 371 369 true (.bin .eql 26 (tm 370) (.const (.int .i64 0))),
  sm 12 372 (.pick (tm 369) (tm 371) (.const (.bool false))),
  sv 13 373 372,
  sg 14 374 373 true (.mv (tm 43)),
  sg 15 375 373 true (.ia (.sl 34) (tm 374) (.const (.int .i64 0))),
  sg 16 376 373 true (.fa 33 (tm 375)),
  sg 17 377 373 true (.ld1 (tm 376)),
  sg 18 378 373 true (.bin .shr 36 (tm 377) (.const (.int .u64 56))),
  sg 19 379 373 true (.cint .u8 (tm 378)),
  sg 20 380 373 true (.ia (.arr 32 1) (tm 54) (.const (.int .i64 0))),
  sg 21 381 373 true (.ld1 (tm 380)),
  sg 22 382 373 true (.bin .eql 5 (tm 379) (tm 381)),
  sm 23 383 (.pick (tm 373) (tm 382) (.const (.bool false))),
  sv 24 384 383,
  sg 25 385 384 true (.mv (tm 43)),
  sg 26 386 384 true (.ia (.sl 34) (tm 385) (.const (.int .i64 0))),
  sg 27 387 384 true (.fa 33 (tm 386)),
  sg 28 388 384 true (.ld1 (tm 387)),
  sg 29 389 384 true (.cint .u8 (tm 388)),
  sg 30 390 384 true (.ia (.arr 32 1) (tm 54) (.const (.int .i64 7))),
  sg 31 391 384 true (.ld1 (tm 390)),
  sg 32 392 384 true (.bin .eql 5 (tm 389) (tm 391)),
  sm 33 393 (.pick (tm 384) (tm 392) (.const (.bool false))),
  sv 34 394 393,
  sg 35 395 394 true (.mv (tm 48)),
  sg 36 396 394 true (.bin .eql 26 (tm 395) (.const (.int .i64 0))),
  sm 37 397 (.pick (tm 394) (tm 396) (.const (.bool false))),
  sv 38 398 397,
  sg 39 399 398 true (.mv (tm 45)),
  sg 40 400 398 true (.bld (rep 32 (.int .u8 0)) []),
  sg 41 401 398 true (.bsl 32 (rep 32 (.int .u8 0)) 1 [(0, (tm 400))]),
  ⟨42, (some 402), (some ((some 398), true)), .callF 33 [(tm 399), (tm 401)], [], false⟩,
  sm 43 403 (.pick (tm 398) (tm 402) (.const (.bool false))),
  sv 44 404 403,
  sg 45 405 404 true (.mv (tm 46)),
  sg 46 406 404 true (.len (.sl 32) (tm 405)),
  sg 47 407 404 true (.bin .eql 3 (tm 406) (.const (.int .i64 0))),
  sm 48 408 (.pick (tm 404) (tm 407) (.const (.bool false))),
  sv 49 409 408,
  sg 50 410 409 true (.mv (tm 47)),
  sg 51 411 409 true (.mks 34 48 ([.int .i64 0] ++ rep 32 (.int .u8 0) ++ [.int .u64 0]) (.const (.int .i64 3)) (.const (.int .i64 3))),
  ⟨52, (some 412), (some ((some 409), true)), .callF 24 [(tm 410), (tm 411)], [], false⟩,
  sm 53 413 (.pick (tm 409) (tm 412) (.const (.bool false))),
  sv 54 414 413,
  sg 55 415 414 true (.mv (tm 53)),
  sg 56 416 414 true (.bin .eql 26 (tm 415) (.const (.int .i64 16))),
  sm 57 417 (.pick (tm 414) (tm 416) (.const (.bool false))),
  sv 58 56 417])
  (.seq (.reg [sm 0 418 (.mv (.const (.bool true))),
  sg 1 419 418 true (.mv (tm 1)),
  sm 2 420 (.pick (tm 418) (tm 419) (.const (.bool false))),
  sv 3 421 420,
  sg 4 422 421 true (.mv (tm 41)),
  sm 5 423 (.pick (tm 421) (tm 422) (.const (.bool false))),
  sv 6 424 423,
  sg 7 425 424 true (.mv (tm 42)),
  sm 8 426 (.pick (tm 424) (tm 425) (.const (.bool false))),
  sv 9 427 426,
  sg 10 428 427 true (.mv (tm 56)),
  sm 11 429 (.pick (tm 427) (tm 428) (.const (.bool false))),
  sv 12 430 429,
  ⟨13, (some 431), (some ((some 430), true)), .callF 34 [], [], false⟩,
  sm 14 432 (.pick (tm 430) (tm 431) (.const (.bool false))),
  sv 15 0 432])
  .ret))))))))))))))))))))))))))))))))
def r7 : List Mo := [.mv (tm 0)]
theorem c7_eq : compF Tryd.prog 7 = some c7 := by kernel_rfl
theorem r7_eq : compRs Tryd.prog 7 = some r7 := by kernel_rfl
/-! F8 braid/braidlaw39.SketchBack -/
def l8_0 : Cd := (.seq (.seq (.reg [sv 0 68 8,
  sv 1 69 4,
  sm 2 70 (.len (.sl 32) (tm 69)),
  sm 3 71 (.bin .lss 3 (tm 68) (tm 70))])
  (.cond (tm 71) .skip (.exit 0)))
  (.seq (.block 1 (.seq (.reg [sv 0 75 6,
  sv 1 76 4,
  sv 2 77 8,
  sm 3 78 (.ia (.sl 32) (tm 76) (tm 77)),
  sm 4 79 (.ldA 32 (tm 78)),
  sc 5 80 16 [(tm 75), (tm 79)],
  sv 6 74 80,
  sm 7 81 (.ext (tm 74) 0),
  sm 8 82 (.ext (tm 74) 1),
  sv 9 9 81,
  sv 10 10 82])
  (.seq (.seq (.reg [sv 0 83 10,
  sm 1 84 (.bin .neq 26 (tm 83) (.const (.int .i64 0)))])
  (.cond (tm 84) (.seq (.reg [sm 0 2 (.mv (.const (.bool false)))])
  .ret) .skip))
  (.reg [sv 0 85 9,
  sv 1 6 85]))))
  (.reg [sv 0 72 8,
  sm 1 73 (.bin .add 3 (tm 72) (.const (.int .i64 1))),
  sv 2 8 73])))
def l8_1 : Cd := (.seq (.seq (.reg [sv 0 86 11,
  sv 1 87 5,
  sm 2 88 (.len (.sl 32) (tm 87)),
  sm 3 89 (.bin .lss 3 (tm 86) (tm 88))])
  (.cond (tm 89) .skip (.exit 2)))
  (.seq (.block 3 (.seq (.reg [sv 0 93 6,
  sv 1 94 5,
  sv 2 95 11,
  sm 3 96 (.ia (.sl 32) (tm 94) (tm 95)),
  sm 4 97 (.ldA 32 (tm 96)),
  sc 5 98 18 [(tm 93), (tm 97)],
  sv 6 92 98,
  sm 7 99 (.ext (tm 92) 0),
  sm 8 100 (.ext (tm 92) 1),
  sv 9 12 99,
  sv 10 13 100])
  (.seq (.seq (.reg [sv 0 101 13,
  sm 1 102 (.bin .neq 26 (tm 101) (.const (.int .i64 0)))])
  (.cond (tm 102) (.seq (.reg [sm 0 2 (.mv (.const (.bool false)))])
  .ret) .skip))
  (.reg [sv 0 103 12,
  sv 1 6 103]))))
  (.reg [sv 0 90 11,
  sm 1 91 (.bin .add 3 (tm 90) (.const (.int .i64 1))),
  sv 2 11 91])))
def c8 : Cd := (.seq (.reg [sm 0 2 (.mv (.const (.bool false)))])
  (.seq (.reg [sc 0 14 34 [],
  sv 1 3 14])
  (.seq (.seq (.reg [sv 0 15 0,
  sc 1 16 42 [(tm 15)],
  sm 2 17 (.un .not (tm 16)),
  sv 3 18 17,
  sg 4 19 18 false (.mv (tm 3)),
  sg 5 20 18 false (.un .not (tm 19)),
  sm 6 21 (.pick (tm 18) (.const (.bool true)) (tm 20))])
  (.cond (tm 21) (.seq (.reg [sv 0 22 3,
  sv 1 2 22])
  .ret) .skip))
  (.seq (.reg [sv 0 24 0,
  sc 1 25 31 [(tm 24)],
  sv 2 23 25,
  sm 3 26 (.ext (tm 23) 0),
  sm 4 27 (.ext (tm 23) 1),
  sm 5 28 (.ext (tm 23) 2),
  sm 6 29 (.ext (tm 23) 3),
  sv 7 4 26,
  sv 8 5 27,
  sv 9 6 28,
  sv 10 7 29])
  (.seq (.seq (.reg [sv 0 30 7,
  sm 1 31 (.bin .neq 26 (tm 30) (.const (.int .i64 0)))])
  (.cond (tm 31) (.seq (.reg [sv 0 32 3,
  sv 1 33 32,
  sg 2 34 33 true (.mv (tm 7)),
  sg 3 35 33 true (.bin .eql 26 (tm 34) (.const (.int .i64 4))),
  sm 4 36 (.pick (tm 33) (tm 35) (.const (.bool false))),
  sv 5 37 36,
  sg 6 38 37 true (.mv (tm 4)),
  sg 7 39 37 true (.len (.sl 32) (tm 38)),
  sg 8 40 37 true (.bin .eql 3 (tm 39) (.const (.int .i64 0))),
  sm 9 41 (.pick (tm 37) (tm 40) (.const (.bool false))),
  sv 10 42 41,
  sg 11 43 42 true (.mv (tm 5)),
  sg 12 44 42 true (.len (.sl 32) (tm 43)),
  sg 13 45 42 true (.bin .eql 3 (tm 44) (.const (.int .i64 0))),
  sm 14 46 (.pick (tm 42) (tm 45) (.const (.bool false))),
  sv 15 47 46,
  sg 16 48 47 true (.mv (tm 6)),
  sg 17 49 47 true (.len (.sl 34) (tm 48)),
  sg 18 50 47 true (.bin .eql 3 (tm 49) (.const (.int .i64 0))),
  sm 19 51 (.pick (tm 47) (tm 50) (.const (.bool false))),
  sv 20 2 51])
  .ret) .skip))
  (.seq (.seq (.reg [sv 0 52 4,
  sc 1 53 36 [(tm 52)],
  sm 2 54 (.un .not (tm 53)),
  sv 3 55 54,
  sg 4 56 55 false (.mv (tm 5)),
  ⟨5, (some 57), (some ((some 55), false)), .callF 36 [(tm 56)], [], false⟩,
  sg 6 58 55 false (.un .not (tm 57)),
  sm 7 59 (.pick (tm 55) (.const (.bool true)) (tm 58)),
  sv 8 60 59,
  sg 9 61 60 false (.mv (tm 4)),
  sg 10 62 60 false (.len (.sl 32) (tm 61)),
  sg 11 63 60 false (.mv (tm 5)),
  sg 12 64 60 false (.len (.sl 32) (tm 63)),
  sg 13 65 60 false (.bin .add 3 (tm 62) (tm 64)),
  sg 14 66 60 false (.bin .gtr 3 (tm 65) (.const (.int .i64 60))),
  sm 15 67 (.pick (tm 60) (.const (.bool true)) (tm 66))])
  (.cond (tm 67) (.seq (.reg [sm 0 2 (.mv (.const (.bool false)))])
  .ret) .skip))
  (.seq (.seq (.reg [sm 0 8 (.mv (.const (.int .i64 0)))])
  (.block 0 (.loop l8_0)))
  (.seq (.seq (.reg [sm 0 11 (.mv (.const (.int .i64 0)))])
  (.block 2 (.loop l8_1)))
  (.seq (.reg [sv 0 104 3,
  sv 1 105 104,
  sg 2 106 105 true (.mv (tm 6)),
  sg 3 107 105 true (.mv (tm 0)),
  ⟨4, (some 108), (some ((some 105), true)), .callF 24 [(tm 106), (tm 107)], [], false⟩,
  sm 5 109 (.pick (tm 105) (tm 108) (.const (.bool false))),
  sv 6 2 109])
  .ret)))))))))
def r8 : List Mo := [.mv (tm 2)]
theorem c8_eq : compF Tryd.prog 8 = some c8 := by kernel_rfl
theorem r8_eq : compRs Tryd.prog 8 = some r8 := by kernel_rfl
/-! F9 braid/braidlaw39.SketchOrder -/
def c9 : Cd := (.seq (.reg [sm 0 6 (.box (tm 1)),
  sm 1 7 (.box (tm 2)),
  sm 2 10 (.mv (.const (.bool false)))])
  (.seq (.reg [sc 0 31 34 [],
  sv 1 11 31])
  (.seq (.seq (.reg [sv 0 32 0,
  sc 1 33 42 [(tm 32)],
  sm 2 34 (.un .not (tm 33)),
  sv 3 35 34,
  sg 4 36 35 false (.mv (tm 3)),
  sg 5 37 35 false (.len (.sl 32) (tm 36)),
  sg 6 38 35 false (.bin .gtr 3 (tm 37) (.const (.int .i64 25))),
  sm 7 39 (.pick (tm 35) (.const (.bool true)) (tm 38)),
  sv 8 40 39,
  sg 9 41 40 false (.mv (tm 4)),
  sg 10 42 40 false (.bin .lss 3 (tm 41) (.const (.int .i64 0))),
  sm 11 43 (.pick (tm 40) (.const (.bool true)) (tm 42)),
  sv 12 44 43,
  sg 13 45 44 false (.mv (tm 4)),
  sg 14 46 44 false (.mv (tm 3)),
  sg 15 47 44 false (.len (.sl 32) (tm 46)),
  sg 16 48 44 false (.bin .gtr 3 (tm 45) (tm 47)),
  sm 17 49 (.pick (tm 44) (.const (.bool true)) (tm 48)),
  sv 18 50 49,
  sg 19 51 50 false (.mv (tm 11)),
  sg 20 52 50 false (.un .not (tm 51)),
  sm 21 53 (.pick (tm 50) (.const (.bool true)) (tm 52))])
  (.cond (tm 53) (.seq (.reg [sv 0 54 11,
  sv 1 10 54])
  .ret) .skip))
  (.seq (.reg [sv 0 56 0,
  sm 1 57 (.ldA 32 (tm 6)),
  sc 2 58 16 [(tm 56), (tm 57)],
  sv 3 55 58,
  sm 4 59 (.ext (tm 55) 0),
  sm 5 60 (.ext (tm 55) 1),
  sv 6 12 59,
  sv 7 13 60])
  (.seq (.reg [sv 0 62 12,
  sm 1 63 (.ldA 32 (tm 7)),
  sc 2 64 16 [(tm 62), (tm 63)],
  sv 3 61 64,
  sm 4 65 (.ext (tm 61) 0),
  sm 5 66 (.ext (tm 61) 1),
  sv 6 14 65,
  sv 7 15 66])
  (.seq (.reg [sv 0 68 0,
  sm 1 69 (.ldA 32 (tm 7)),
  sc 2 70 16 [(tm 68), (tm 69)],
  sv 3 67 70,
  sm 4 71 (.ext (tm 67) 0),
  sm 5 72 (.ext (tm 67) 1),
  sv 6 16 71,
  sv 7 17 72])
  (.seq (.reg [sv 0 74 16,
  sm 1 75 (.ldA 32 (tm 6)),
  sc 2 76 16 [(tm 74), (tm 75)],
  sv 3 73 76,
  sm 4 77 (.ext (tm 73) 0),
  sm 5 78 (.ext (tm 73) 1),
  sv 6 18 77,
  sv 7 19 78])
  (.seq (.reg [sv 0 80 14,
  sm 1 81 (.ldA 32 (tm 6)),
  sc 2 82 18 [(tm 80), (tm 81)],
  sv 3 79 82,
  sm 4 83 (.ext (tm 79) 0),
  sm 5 84 (.ext (tm 79) 1),
  sv 6 20 83,
  sv 7 21 84])
  (.seq (.seq (.reg [sv 0 85 13,
  sm 1 86 (.bin .neq 26 (tm 85) (.const (.int .i64 0))),
  sv 2 87 86,
  sg 3 88 87 false (.mv (tm 15)),
  sg 4 89 87 false (.bin .neq 26 (tm 88) (.const (.int .i64 0))),
  sm 5 90 (.pick (tm 87) (.const (.bool true)) (tm 89)),
  sv 6 91 90,
  sg 7 92 91 false (.mv (tm 17)),
  sg 8 93 91 false (.bin .neq 26 (tm 92) (.const (.int .i64 0))),
  sm 9 94 (.pick (tm 91) (.const (.bool true)) (tm 93)),
  sv 10 95 94,
  sg 11 96 95 false (.mv (tm 19)),
  sg 12 97 95 false (.bin .neq 26 (tm 96) (.const (.int .i64 0))),
  sm 13 98 (.pick (tm 95) (.const (.bool true)) (tm 97)),
  sv 14 99 98,
  sg 15 100 99 false (.mv (tm 21)),
  sg 16 101 99 false (.bin .neq 26 (tm 100) (.const (.int .i64 0))),
  sm 17 102 (.pick (tm 99) (.const (.bool true)) (tm 101)),
  sv 18 103 102,
  sg 19 104 103 false (.mv (tm 14)),
  sg 20 105 103 false (.mv (tm 18)),
  ⟨21, (some 106), (some ((some 103), false)), .callF 24 [(tm 104), (tm 105)], [], false⟩,
  sg 22 107 103 false (.un .not (tm 106)),
  sm 23 108 (.pick (tm 103) (.const (.bool true)) (tm 107)),
  sv 24 109 108,
  sg 25 110 109 false (.mv (tm 20)),
  sg 26 111 109 false (.mv (tm 16)),
  ⟨27, (some 112), (some ((some 109), false)), .callF 24 [(tm 110), (tm 111)], [], false⟩,
  sg 28 113 109 false (.un .not (tm 112)),
  sm 29 114 (.pick (tm 109) (.const (.bool true)) (tm 113))])
  (.cond (tm 114) (.seq (.reg [sm 0 10 (.mv (.const (.bool false)))])
  .ret) .skip))
  (.seq (.reg [sv 0 115 0,
  sm 1 116 (.len (.sl 34) (tm 115)),
  sv 2 22 116])
  (.seq (.reg [sv 0 118 22,
  sv 1 119 3,
  sc 2 120 27 [(tm 118), (tm 119)],
  sv 3 117 120,
  sm 4 121 (.ext (tm 117) 0),
  sm 5 122 (.ext (tm 117) 1),
  sv 6 23 121,
  sv 7 24 122])
  (.seq (.reg [sv 0 124 22,
  sv 1 125 3,
  sv 2 126 4,
  sm 3 127 (.slice (.sl 32) (tm 125) none (some (tm 126)) none),
  sc 4 128 27 [(tm 124), (tm 127)],
  sv 5 123 128,
  sm 6 129 (.ext (tm 123) 0),
  sm 7 130 (.ext (tm 123) 1),
  sv 8 25 129,
  sv 9 26 130])
  (.seq (.reg [sv 0 132 22,
  sv 1 133 3,
  sv 2 134 4,
  sm 3 135 (.slice (.sl 32) (tm 133) (some (tm 134)) none none),
  sc 4 136 27 [(tm 132), (tm 135)],
  sv 5 131 136,
  sm 6 137 (.ext (tm 131) 0),
  sm 7 138 (.ext (tm 131) 1),
  sv 8 27 137,
  sv 9 28 138])
  (.seq (.reg [sv 0 140 23,
  sv 1 141 25,
  sc 2 142 29 [(tm 140), (tm 141)],
  sv 3 139 142,
  sm 4 143 (.ext (tm 139) 0),
  sm 5 144 (.ext (tm 139) 1),
  sv 6 29 143,
  sv 7 30 144])
  (.seq (.reg [sv 0 145 11,
  sv 1 146 145,
  sg 2 147 146 true (.mv (tm 24)),
  sg 3 148 146 true (.bin .eql 26 (tm 147) (.const (.int .i64 0))),
  sm 4 149 (.pick (tm 146) (tm 148) (.const (.bool false))),
  sv 5 150 149,
  sg 6 151 150 true (.mv (tm 26)),
  sg 7 152 150 true (.bin .eql 26 (tm 151) (.const (.int .i64 0))),
  sm 8 153 (.pick (tm 150) (tm 152) (.const (.bool false))),
  sv 9 154 153,
  sg 10 155 154 true (.mv (tm 28)),
  sg 11 156 154 true (.bin .eql 26 (tm 155) (.const (.int .i64 0))),
  sm 12 157 (.pick (tm 154) (tm 156) (.const (.bool false))),
  sv 13 158 157,
  sg 14 159 158 true (.mv (tm 30)),
  sg 15 160 158 true (.bin .eql 26 (tm 159) (.const (.int .i64 0))),
  sm 16 161 (.pick (tm 158) (tm 160) (.const (.bool false))),
  sv 17 162 161,
  sg 18 163 162 true (.mv (tm 29)),
  sg 19 164 162 true (.mv (tm 27)),
  ⟨20, (some 165), (some ((some 162), true)), .callF 24 [(tm 163), (tm 164)], [], false⟩,
  sm 21 166 (.pick (tm 162) (tm 165) (.const (.bool false))),
  sv 22 10 166])
  .ret)))))))))))))))
def r9 : List Mo := [.mv (tm 10)]
theorem c9_eq : compF Tryd.prog 9 = some c9 := by kernel_rfl
theorem r9_eq : compRs Tryd.prog 9 = some r9 := by kernel_rfl
/-! F10 braid/braidref39.Great -/
def c10 : Cd := (.seq (.reg [sm 0 2 (.mv (.const (.bool false)))])
  (.seq (.reg [sv 0 3 0,
  sm 1 4 (.len (.sl 34) (tm 3)),
  sm 2 5 (.bin .gtr 3 (tm 4) (.const (.int .i64 60))),
  sv 3 2 5])
  .ret))
def r10 : List Mo := [.mv (tm 2)]
theorem c10_eq : compF Tryd.prog 10 = some c10 := by kernel_rfl
theorem r10_eq : compRs Tryd.prog 10 = some r10 := by kernel_rfl
/-! F11 braid/sketch.New -/
def c11 : Cd := (.seq (.reg [sm 0 2 (.mv (.const (.slice none 0 0))),
  sm 1 3 (.mv (.const (.int .i64 0)))])
  (.seq (.seq (.reg [sv 0 4 0,
  sc 1 5 43 [(tm 4)],
  sm 2 6 (.un .not (tm 5))])
  (.cond (tm 6) (.seq (.reg [sm 0 2 (.mv (.const (.slice none 0 0))),
  sm 1 3 (.mv (.const (.int .i64 2)))])
  .ret) .skip))
  (.seq (.reg [sv 0 7 0,
  sm 1 8 (.mks 34 48 ([.int .i64 0] ++ rep 32 (.int .u8 0) ++ [.int .u64 0]) (tm 7) (tm 7)),
  sv 2 2 8,
  sm 3 3 (.mv (.const (.int .i64 0)))])
  .ret)))
def r11 : List Mo := [.mv (tm 2), .mv (tm 3)]
theorem c11_eq : compF Tryd.prog 11 = some c11 := by kernel_rfl
theorem r11_eq : compRs Tryd.prog 11 = some r11 := by kernel_rfl
/-! F12 braid/braidref39.New -/
def c12 : Cd := (.seq (.reg [sm 0 2 (.mv (.const (.slice none 0 0))),
  sm 1 3 (.mv (.const (.int .i64 0)))])
  (.seq (.seq (.reg [sv 0 4 0,
  sc 1 5 35 [(tm 4)],
  sm 2 6 (.un .not (tm 5))])
  (.cond (tm 6) (.seq (.reg [sm 0 2 (.mv (.const (.slice none 0 0))),
  sm 1 3 (.mv (.const (.int .i64 2)))])
  .ret) .skip))
  (.seq (.reg [sv 0 7 0,
  sm 1 8 (.mks 34 48 ([.int .i64 0] ++ rep 32 (.int .u8 0) ++ [.int .u64 0]) (tm 7) (tm 7)),
  sv 2 2 8,
  sm 3 3 (.mv (.const (.int .i64 0)))])
  .ret)))
def r12 : List Mo := [.mv (tm 2), .mv (tm 3)]
theorem c12_eq : compF Tryd.prog 12 = some c12 := by kernel_rfl
theorem r12_eq : compRs Tryd.prog 12 = some r12 := by kernel_rfl
/-! F13 braid/sketch.Places -/
def l13_0 : Cd := (.seq (.reg [sm 0 16 (.bin .lss 3 (tm 15) (.const (.int .i64 3)))])
  (.seq (.cond (tm 16) .skip (.exit 0))
  (.seq (.block 1 (.seq (.reg [sv 0 17 15,
  sv 1 8 17])
  (.reg [sv 0 18 8,
  sv 1 19 8,
  sv 2 20 7,
  sm 3 21 (.bin .mul 3 (tm 19) (tm 20)),
  sv 4 22 8,
  sm 5 23 (.bin .mul 3 (.const (.int .i64 4)) (tm 22)),
  sv 6 24 8,
  sm 7 25 (.bin .mul 3 (.const (.int .i64 4)) (tm 24)),
  sm 8 26 (.bin .add 3 (tm 25) (.const (.int .i64 4))),
  sm 9 27 (.slice (.arr 32 1) (tm 3) (some (tm 23)) (some (tm 26)) none),
  sc 10 28 44 [(tm 27)],
  sv 11 29 7,
  sm 12 30 (.cint .u64 (tm 29)),
  sm 13 31 (.bin .rem 36 (tm 28) (tm 30)),
  sm 14 32 (.cint .i64 (tm 31)),
  sm 15 33 (.bin .add 3 (tm 21) (tm 32)),
  sm 16 34 (.ia (.arr 3 1) (tm 6) (tm 18)),
  se 17 (.st 1 (tm 34) (tm 33))])))
  (.reg [sm 0 35 (.bin .add 3 (tm 15) (.const (.int .i64 1))),
  sv 1 15 35]))))
def c13 : Cd := (.seq (.reg [sm 0 3 (.box (tm 1)),
  sm 1 4 (.alloc [.int .i64 0, .int .i64 0, .int .i64 0]),
  sm 2 5 (.mv (.const (.int .i64 0)))])
  (.seq (.seq (.reg [sv 0 9 0,
  sc 1 10 43 [(tm 9)],
  sm 2 11 (.un .not (tm 10))])
  (.cond (tm 11) (.seq (.reg [sm 0 12 (.bld [.int .i64 0, .int .i64 0, .int .i64 0] []),
  se 1 (.st 3 (tm 4) (tm 12)),
  sm 2 5 (.mv (.const (.int .i64 2)))])
  .ret) .skip))
  (.seq (.reg [sm 0 6 (.alloc [.int .i64 0, .int .i64 0, .int .i64 0])])
  (.seq (.reg [sv 0 13 0,
  sm 1 14 (.bin .quo 3 (tm 13) (.const (.int .i64 3))),
  sv 2 7 14])
  (.seq (.seq (.reg [sm 0 15 (.mv (.const (.int .i64 0)))])
  (.block 0 (.loop l13_0)))
  (.seq (.reg [sm 0 36 (.ldA 3 (tm 6)),
  se 1 (.st 3 (tm 4) (tm 36)),
  sm 2 5 (.mv (.const (.int .i64 0)))])
  .ret))))))
def r13 : List Mo := [.ldA 3 (tm 4), .mv (tm 5)]
theorem c13_eq : compF Tryd.prog 13 = some c13 := by kernel_rfl
theorem r13_eq : compRs Tryd.prog 13 = some r13 := by kernel_rfl
/-! F14 braid/braidref39.Places -/
def c14 : Cd := (.seq (.reg [sm 0 3 (.box (tm 1)),
  sm 1 4 (.alloc [.int .i64 0, .int .i64 0, .int .i64 0]),
  sm 2 5 (.mv (.const (.int .i64 0)))])
  (.seq (.seq (.reg [sv 0 6 0,
  sc 1 7 35 [(tm 6)],
  sm 2 8 (.un .not (tm 7))])
  (.cond (tm 8) (.seq (.reg [sm 0 9 (.bld [.int .i64 0, .int .i64 0, .int .i64 0] []),
  se 1 (.st 3 (tm 4) (tm 9)),
  sm 2 5 (.mv (.const (.int .i64 2)))])
  .ret) .skip))
  (.seq (.reg [sv 0 10 0,
  sm 1 11 (.ldA 32 (tm 3)),
  sc 2 12 45 [(tm 10), (tm 11)],
  se 3 (.st 3 (tm 4) (tm 12)),
  sm 4 5 (.mv (.const (.int .i64 0)))])
  .ret)))
def r14 : List Mo := [.ldA 3 (tm 4), .mv (tm 5)]
theorem c14_eq : compF Tryd.prog 14 = some c14 := by kernel_rfl
theorem r14_eq : compRs Tryd.prog 14 = some r14 := by kernel_rfl
/-! F15 braid/sketch.Word -/
def c15 : Cd := (.seq (.reg [sm 0 1 (.box (tm 0)),
  sm 1 2 (.mv (.const (.int .u64 0))),
  sm 2 3 (.mv (.const (.int .i64 0)))])
  (.seq (.reg [sm 0 7 (.slice (.arr 32 1) (tm 1) none none none),
  sc 1 8 41 [(tm 7)],
  sv 2 6 8,
  sm 3 9 (.ext (tm 6) 0),
  sm 4 10 (.ext (tm 6) 1),
  sm 5 4 (.alloc (rep 32 (.int .u8 0))),
  se 6 (.st 32 (tm 4) (tm 9)),
  sv 7 5 10])
  (.seq (.reg [sm 0 11 (.slice (.arr 32 1) (tm 4) none (some (.const (.int .i64 8))) none),
  sc 1 12 44 [(tm 11)],
  sv 2 13 5,
  sv 3 2 12,
  sv 4 3 13])
  .ret)))
def r15 : List Mo := [.mv (tm 2), .mv (tm 3)]
theorem c15_eq : compF Tryd.prog 15 = some c15 := by kernel_rfl
theorem r15_eq : compRs Tryd.prog 15 = some r15 := by kernel_rfl
/-! F16 braid/sketch.Add -/
def c16 : Cd := (.seq (.reg [sm 0 3 (.box (tm 1)),
  sm 1 4 (.mv (.const (.slice none 0 0))),
  sm 2 5 (.mv (.const (.int .i64 0)))])
  (.seq (.reg [sv 0 6 0,
  sm 1 7 (.ldA 32 (tm 3)),
  sc 2 8 46 [(tm 6), (tm 7), (.const (.int .i64 1))],
  sm 3 9 (.ext (tm 8) 0),
  sm 4 10 (.ext (tm 8) 1),
  sv 5 4 9,
  sv 6 5 10])
  .ret))
def r16 : List Mo := [.mv (tm 4), .mv (tm 5)]
theorem c16_eq : compF Tryd.prog 16 = some c16 := by kernel_rfl
theorem r16_eq : compRs Tryd.prog 16 = some r16 := by kernel_rfl
/-! F17 braid/braidref39.Add -/
def c17 : Cd := (.seq (.reg [sm 0 3 (.box (tm 1)),
  sm 1 4 (.mv (.const (.slice none 0 0))),
  sm 2 5 (.mv (.const (.int .i64 0)))])
  (.seq (.reg [sv 0 6 0,
  sm 1 7 (.ldA 32 (tm 3)),
  sc 2 8 47 [(tm 6), (tm 7), (.const (.int .i64 1))],
  sm 3 9 (.ext (tm 8) 0),
  sm 4 10 (.ext (tm 8) 1),
  sv 5 4 9,
  sv 6 5 10])
  .ret))
def r17 : List Mo := [.mv (tm 4), .mv (tm 5)]
theorem c17_eq : compF Tryd.prog 17 = some c17 := by kernel_rfl
theorem r17_eq : compRs Tryd.prog 17 = some r17 := by kernel_rfl
/-! F18 braid/sketch.Remove -/
def c18 : Cd := (.seq (.reg [sm 0 3 (.box (tm 1)),
  sm 1 4 (.mv (.const (.slice none 0 0))),
  sm 2 5 (.mv (.const (.int .i64 0)))])
  (.seq (.reg [sv 0 6 0,
  sm 1 7 (.ldA 32 (tm 3)),
  sc 2 8 46 [(tm 6), (tm 7), (.const (.int .i64 (-1)))],
  sm 3 9 (.ext (tm 8) 0),
  sm 4 10 (.ext (tm 8) 1),
  sv 5 4 9,
  sv 6 5 10])
  .ret))
def r18 : List Mo := [.mv (tm 4), .mv (tm 5)]
theorem c18_eq : compF Tryd.prog 18 = some c18 := by kernel_rfl
theorem r18_eq : compRs Tryd.prog 18 = some r18 := by kernel_rfl
/-! F19 braid/braidref39.Remove -/
def c19 : Cd := (.seq (.reg [sm 0 3 (.box (tm 1)),
  sm 1 4 (.mv (.const (.slice none 0 0))),
  sm 2 5 (.mv (.const (.int .i64 0)))])
  (.seq (.reg [sv 0 6 0,
  sm 1 7 (.ldA 32 (tm 3)),
  sc 2 8 47 [(tm 6), (tm 7), (.const (.int .i64 (-1)))],
  sm 3 9 (.ext (tm 8) 0),
  sm 4 10 (.ext (tm 8) 1),
  sv 5 4 9,
  sv 6 5 10])
  .ret))
def r19 : List Mo := [.mv (tm 4), .mv (tm 5)]
theorem c19_eq : compF Tryd.prog 19 = some c19 := by kernel_rfl
theorem r19_eq : compRs Tryd.prog 19 = some r19 := by kernel_rfl
/-! F20 braid/sketch.Pure -/
def c20 : Cd := (.seq (.reg [sm 0 4 (.mv (.const (.bool false))),
  sm 1 5 (.mv (.const (.int .i64 0)))])
  (.seq (.seq (.reg [sv 0 11 0,
  sc 1 12 22 [(tm 11)],
  sv 2 6 12])
  (.seq (.reg [sv 0 13 6,
  sm 1 14 (.bin .neq 26 (tm 13) (.const (.int .i64 0)))])
  (.cond (tm 14) (.seq (.reg [sv 0 15 6,
  sm 1 4 (.mv (.const (.bool false))),
  sv 2 5 15])
  .ret) .skip)))
  (.seq (.seq (.reg [sv 0 16 1,
  sm 1 17 (.bin .lss 3 (tm 16) (.const (.int .i64 0))),
  sv 2 18 17,
  sg 3 19 18 false (.mv (tm 1)),
  sg 4 20 18 false (.mv (tm 0)),
  sg 5 21 18 false (.len (.sl 34) (tm 20)),
  sg 6 22 18 false (.bin .geq 3 (tm 19) (tm 21)),
  sm 7 23 (.pick (tm 18) (.const (.bool true)) (tm 22))])
  (.cond (tm 23) (.seq (.reg [sm 0 4 (.mv (.const (.bool false))),
  sm 1 5 (.mv (.const (.int .i64 2)))])
  .ret) .skip))
  (.seq (.reg [sv 0 24 0,
  sv 1 25 1,
  sm 2 26 (.ia (.sl 34) (tm 24) (tm 25)),
  sm 3 27 (.ldA 34 (tm 26)),
  sm 4 7 (.alloc ([.int .i64 0] ++ rep 32 (.int .u8 0) ++ [.int .u64 0])),
  se 5 (.st 34 (tm 7) (tm 27))])
  (.seq (.seq (.reg [sm 0 28 (.fa 0 (tm 7)),
  sm 1 29 (.ld1 (tm 28)),
  sm 2 30 (.bin .neq 2 (tm 29) (.const (.int .i64 1))),
  sv 3 31 30,
  sg 4 32 31 true (.fa 0 (tm 7)),
  sg 5 33 31 true (.ld1 (tm 32)),
  sg 6 34 31 true (.bin .neq 2 (tm 33) (.const (.int .i64 (-1)))),
  sm 7 35 (.pick (tm 31) (tm 34) (.const (.bool false)))])
  (.cond (tm 35) (.seq (.reg [sm 0 4 (.mv (.const (.bool false))),
  sm 1 5 (.mv (.const (.int .i64 0)))])
  .ret) .skip))
  (.seq (.reg [sv 0 37 0,
  sm 1 38 (.len (.sl 34) (tm 37)),
  sm 2 39 (.fa 1 (tm 7)),
  sm 3 40 (.ldA 32 (tm 39)),
  sc 4 41 13 [(tm 38), (tm 40)],
  sv 5 36 41,
  sm 6 42 (.ext (tm 36) 0),
  sm 7 43 (.ext (tm 36) 1),
  sm 8 8 (.alloc [.int .i64 0, .int .i64 0, .int .i64 0]),
  se 9 (.st 3 (tm 8) (tm 42)),
  sv 10 9 43])
  (.seq (.seq (.reg [sv 0 44 9,
  sm 1 45 (.bin .neq 26 (tm 44) (.const (.int .i64 0))),
  sv 2 46 45,
  sg 3 47 46 false (.slice (.arr 3 1) (tm 8) none none none),
  sg 4 48 46 false (.mv (tm 1)),
  ⟨5, (some 49), (some ((some 46), false)), .callF 48 [(tm 47), (tm 48)], [], false⟩,
  sg 6 50 46 false (.un .not (tm 49)),
  sm 7 51 (.pick (tm 46) (.const (.bool true)) (tm 50))])
  (.cond (tm 51) (.seq (.reg [sv 0 52 9,
  sm 1 4 (.mv (.const (.bool false))),
  sv 2 5 52])
  .ret) .skip))
  (.seq (.reg [sm 0 54 (.fa 1 (tm 7)),
  sm 1 55 (.ldA 32 (tm 54)),
  sc 2 56 15 [(tm 55)],
  sv 3 53 56,
  sm 4 57 (.ext (tm 53) 0),
  sm 5 58 (.ext (tm 53) 1),
  sv 6 10 57,
  sv 7 9 58])
  (.seq (.reg [sv 0 59 9,
  sm 1 60 (.bin .eql 26 (tm 59) (.const (.int .i64 0))),
  sv 2 61 60,
  sg 3 62 61 true (.mv (tm 10)),
  sg 4 63 61 true (.fa 33 (tm 7)),
  sg 5 64 61 true (.ld1 (tm 63)),
  sg 6 65 61 true (.bin .eql 36 (tm 62) (tm 64)),
  sm 7 66 (.pick (tm 61) (tm 65) (.const (.bool false))),
  sv 8 67 9,
  sv 9 4 66,
  sv 10 5 67])
  .ret)))))))))
def r20 : List Mo := [.mv (tm 4), .mv (tm 5)]
theorem c20_eq : compF Tryd.prog 20 = some c20 := by kernel_rfl
theorem r20_eq : compRs Tryd.prog 20 = some r20 := by kernel_rfl
/-! F21 braid/braidref39.Pure -/
def c21 : Cd := (.seq (.reg [sm 0 4 (.mv (.const (.bool false))),
  sm 1 5 (.mv (.const (.int .i64 0)))])
  (.seq (.seq (.reg [sv 0 7 0,
  sc 1 8 23 [(tm 7)],
  sv 2 6 8])
  (.seq (.reg [sv 0 9 6,
  sm 1 10 (.bin .neq 3 (tm 9) (.const (.int .i64 0)))])
  (.cond (tm 10) (.seq (.reg [sv 0 11 6,
  sm 1 4 (.mv (.const (.bool false))),
  sv 2 5 11])
  .ret) .skip)))
  (.seq (.seq (.reg [sv 0 12 1,
  sm 1 13 (.bin .lss 3 (tm 12) (.const (.int .i64 0))),
  sv 2 14 13,
  sg 3 15 14 false (.mv (tm 1)),
  sg 4 16 14 false (.mv (tm 0)),
  sg 5 17 14 false (.len (.sl 34) (tm 16)),
  sg 6 18 14 false (.bin .geq 3 (tm 15) (tm 17)),
  sm 7 19 (.pick (tm 14) (.const (.bool true)) (tm 18))])
  (.cond (tm 19) (.seq (.reg [sm 0 4 (.mv (.const (.bool false))),
  sm 1 5 (.mv (.const (.int .i64 2)))])
  .ret) .skip))
  (.seq (.reg [sv 0 20 0,
  sv 1 21 1,
  sc 2 22 49 [(tm 20), (tm 21)],
  sv 3 4 22,
  sm 4 5 (.mv (.const (.int .i64 0)))])
  .ret))))
def r21 : List Mo := [.mv (tm 4), .mv (tm 5)]
theorem c21_eq : compF Tryd.prog 21 = some c21 := by kernel_rfl
theorem r21_eq : compRs Tryd.prog 21 = some r21 := by kernel_rfl
/-! F22 braid/sketch.Check -/
def c22 : Cd := (.seq (.reg [sm 0 2 (.mv (.const (.int .i64 0)))])
  (.seq (.seq (.reg [sv 0 3 0,
  sm 1 4 (.len (.sl 34) (tm 3)),
  sc 2 5 43 [(tm 4)],
  sm 3 6 (.un .not (tm 5)),
  sv 4 7 6,
  sg 5 8 7 false (.mv (tm 0)),
  ⟨6, (some 9), (some ((some 7), false)), .callF 50 [(tm 8), (.func 51)], [], false⟩,
  sm 7 10 (.pick (tm 7) (.const (.bool true)) (tm 9))])
  (.cond (tm 10) (.seq (.reg [sm 0 2 (.mv (.const (.int .i64 8)))])
  .ret) .skip))
  (.seq (.reg [sm 0 2 (.mv (.const (.int .i64 0)))])
  .ret)))
def r22 : List Mo := [.mv (tm 2)]
theorem c22_eq : compF Tryd.prog 22 = some c22 := by kernel_rfl
theorem r22_eq : compRs Tryd.prog 22 = some r22 := by kernel_rfl
/-! F23 braid/braidref39.Check -/
def l23_0 : Cd := (.seq (.seq (.reg [sv 0 8 3,
  sv 1 9 0,
  sm 2 10 (.len (.sl 34) (tm 9)),
  sm 3 11 (.bin .lss 3 (tm 8) (tm 10))])
  (.cond (tm 11) .skip (.exit 0)))
  (.seq (.block 1 (.seq (.reg [sv 0 14 0,
  sv 1 15 3,
  sm 2 16 (.ia (.sl 34) (tm 14) (tm 15)),
  sm 3 17 (.fa 0 (tm 16)),
  sm 4 18 (.ld1 (tm 17)),
  sm 5 19 (.bin .lss 2 (tm 18) (.const (.int .i64 (-1000000)))),
  sv 6 20 19,
  sg 7 21 20 false (.mv (tm 0)),
  sg 8 22 20 false (.mv (tm 3)),
  sg 9 23 20 false (.ia (.sl 34) (tm 21) (tm 22)),
  sg 10 24 20 false (.fa 0 (tm 23)),
  sg 11 25 20 false (.ld1 (tm 24)),
  sg 12 26 20 false (.bin .gtr 2 (tm 25) (.const (.int .i64 1000000))),
  sm 13 27 (.pick (tm 20) (.const (.bool true)) (tm 26))])
  (.cond (tm 27) (.seq (.reg [sm 0 2 (.mv (.const (.int .i64 8)))])
  .ret) .skip)))
  (.reg [sv 0 12 3,
  sm 1 13 (.bin .add 3 (tm 12) (.const (.int .i64 1))),
  sv 2 3 13])))
def c23 : Cd := (.seq (.reg [sm 0 2 (.mv (.const (.int .i64 0)))])
  (.seq (.seq (.reg [sv 0 4 0,
  sm 1 5 (.len (.sl 34) (tm 4)),
  sc 2 6 35 [(tm 5)],
  sm 3 7 (.un .not (tm 6))])
  (.cond (tm 7) (.seq (.reg [sm 0 2 (.mv (.const (.int .i64 8)))])
  .ret) .skip))
  (.seq (.seq (.reg [sm 0 3 (.mv (.const (.int .i64 0)))])
  (.block 0 (.loop l23_0)))
  (.seq (.reg [sm 0 2 (.mv (.const (.int .i64 0)))])
  .ret))))
def r23 : List Mo := [.mv (tm 2)]
theorem c23_eq : compF Tryd.prog 23 = some c23 := by kernel_rfl
theorem r23_eq : compRs Tryd.prog 23 = some r23 := by kernel_rfl
/-! F24 braid/braidref39.Same -/
def l24_0 : Cd := (.seq (.seq (.reg [sv 0 11 5,
  sv 1 12 0,
  sm 2 13 (.len (.sl 34) (tm 12)),
  sm 3 14 (.bin .lss 3 (tm 11) (tm 13))])
  (.cond (tm 14) .skip (.exit 0)))
  (.seq (.block 1 (.seq (.reg [sv 0 17 0,
  sv 1 18 5,
  sm 2 19 (.ia (.sl 34) (tm 17) (tm 18)),
  sm 3 20 (.ldA 34 (tm 19)),
  sv 4 21 1,
  sv 5 22 5,
  sm 6 23 (.ia (.sl 34) (tm 21) (tm 22)),
  sm 7 24 (.ldA 34 (tm 23)),
  sm 8 25 (.bin .neq 69 (tm 20) (tm 24))])
  (.cond (tm 25) (.seq (.reg [sm 0 4 (.mv (.const (.bool false)))])
  .ret) .skip)))
  (.reg [sv 0 15 5,
  sm 1 16 (.bin .add 3 (tm 15) (.const (.int .i64 1))),
  sv 2 5 16])))
def c24 : Cd := (.seq (.reg [sm 0 4 (.mv (.const (.bool false)))])
  (.seq (.seq (.reg [sv 0 6 0,
  sm 1 7 (.len (.sl 34) (tm 6)),
  sv 2 8 1,
  sm 3 9 (.len (.sl 34) (tm 8)),
  sm 4 10 (.bin .neq 3 (tm 7) (tm 9))])
  (.cond (tm 10) (.seq (.reg [sm 0 4 (.mv (.const (.bool false)))])
  .ret) .skip))
  (.seq (.seq (.reg [sm 0 5 (.mv (.const (.int .i64 0)))])
  (.block 0 (.loop l24_0)))
  (.seq (.reg [sm 0 4 (.mv (.const (.bool true)))])
  .ret))))
def r24 : List Mo := [.mv (tm 4)]
theorem c24_eq : compF Tryd.prog 24 = some c24 := by kernel_rfl
theorem r24_eq : compRs Tryd.prog 24 = some r24 := by kernel_rfl
/-! F25 braid/braidref39.Word -/
def c25 : Cd := (.seq (.reg [sm 0 1 (.box (tm 0)),
  sm 1 2 (.mv (.const (.int .u64 0)))])
  (.seq (.reg [sm 0 4 (.slice (.arr 32 1) (tm 1) none none none),
  sc 1 5 53 [(tm 4)],
  sm 2 3 (.alloc (rep 32 (.int .u8 0))),
  se 3 (.st 32 (tm 3) (tm 5))])
  (.seq (.reg [sm 0 6 (.slice (.arr 32 1) (tm 3) none (some (.const (.int .i64 8))) none),
  sc 1 7 54 [(tm 6)],
  sv 2 2 7])
  .ret)))
def r25 : List Mo := [.mv (tm 2)]
theorem c25_eq : compF Tryd.prog 25 = some c25 := by kernel_rfl
theorem r25_eq : compRs Tryd.prog 25 = some r25 := by kernel_rfl
/-! F26 braid/braidref39.Long -/
def c26 : Cd := (.seq (.reg [sm 0 2 (.mv (.const (.bool false)))])
  (.seq (.reg [sv 0 3 0,
  sm 1 4 (.len (.sl 32) (tm 3)),
  sm 2 5 (.bin .gtr 3 (tm 4) (.const (.int .i64 25))),
  sv 3 6 5,
  sg 4 7 6 true (.mv (tm 0)),
  sg 5 8 6 true (.len (.sl 32) (tm 7)),
  sg 6 9 6 true (.bin .leq 3 (tm 8) (.const (.int .i64 60))),
  sm 7 10 (.pick (tm 6) (tm 9) (.const (.bool false))),
  sv 8 11 10,
  sg 9 12 11 false (.mv (tm 0)),
  sg 10 13 11 false (.len (.sl 32) (tm 12)),
  sg 11 14 11 false (.bin .gtr 3 (tm 13) (.const (.int .i64 80))),
  sm 12 15 (.pick (tm 11) (.const (.bool true)) (tm 14)),
  sv 13 2 15])
  .ret))
def r26 : List Mo := [.mv (tm 2)]
theorem c26_eq : compF Tryd.prog 26 = some c26 := by kernel_rfl
theorem r26_eq : compRs Tryd.prog 26 = some r26 := by kernel_rfl
/-! F27 braid/sketch.Of -/
def l27_0 : Cd := (.seq (.reg [sm 0 24 (.bin .lss 3 (tm 23) (tm 22))])
  (.seq (.cond (tm 24) .skip (.exit 0))
  (.seq (.block 1 (.seq (.reg [sm 0 25 (.ia (.sl 32) (tm 21) (tm 23)),
  sm 1 26 (.ldA 32 (tm 25)),
  sm 2 9 (.alloc (rep 32 (.int .u8 0))),
  se 3 (.st 32 (tm 9) (tm 26))])
  (.seq (.reg [sv 0 28 6,
  sm 1 29 (.ldA 32 (tm 9)),
  sc 2 30 16 [(tm 28), (tm 29)],
  sv 3 27 30,
  sm 4 31 (.ext (tm 27) 0),
  sm 5 32 (.ext (tm 27) 1),
  sv 6 6 31,
  sv 7 7 32])
  (.seq (.reg [sv 0 33 7,
  sm 1 34 (.bin .neq 26 (tm 33) (.const (.int .i64 0)))])
  (.cond (tm 34) (.seq (.reg [sv 0 35 7,
  sm 1 4 (.mv (.const (.slice none 0 0))),
  sv 2 5 35])
  .ret) .skip)))))
  (.reg [sm 0 36 (.bin .add 3 (tm 23) (.const (.int .i64 1))),
  sv 1 23 36]))))
def c27 : Cd := (.seq (.reg [sm 0 4 (.mv (.const (.slice none 0 0))),
  sm 1 5 (.mv (.const (.int .i64 0)))])
  (.seq (.reg [sv 0 11 0,
  sc 1 12 11 [(tm 11)],
  sv 2 10 12,
  sm 3 13 (.ext (tm 10) 0),
  sm 4 14 (.ext (tm 10) 1),
  sv 5 6 13,
  sv 6 7 14])
  (.seq (.seq (.reg [sv 0 15 7,
  sm 1 16 (.bin .neq 26 (tm 15) (.const (.int .i64 0)))])
  (.cond (tm 16) (.seq (.reg [sv 0 17 7,
  sm 1 4 (.mv (.const (.slice none 0 0))),
  sv 2 5 17])
  .ret) .skip))
  (.seq (.seq (.reg [sv 0 18 1,
  sm 1 19 (.len (.sl 32) (tm 18)),
  sm 2 20 (.bin .gtr 3 (tm 19) (.const (.int .i64 60)))])
  (.cond (tm 20) (.seq (.reg [sm 0 4 (.mv (.const (.slice none 0 0))),
  sm 1 5 (.mv (.const (.int .i64 4)))])
  .ret) .skip))
  (.seq (.seq (.reg [sv 0 21 1,
  sm 1 22 (.len (.sl 32) (tm 21)),
  sm 2 23 (.mv (.const (.int .i64 0)))])
  (.block 0 (.loop l27_0)))
  (.seq (.reg [sv 0 37 6,
  sv 1 4 37,
  sm 2 5 (.mv (.const (.int .i64 0)))])
  .ret))))))
def r27 : List Mo := [.mv (tm 4), .mv (tm 5)]
theorem c27_eq : compF Tryd.prog 27 = some c27 := by kernel_rfl
theorem r27_eq : compRs Tryd.prog 27 = some r27 := by kernel_rfl
/-! F28 braid/braidref39.Of -/
def l28_0 : Cd := (.seq (.seq (.reg [sv 0 20 8,
  sv 1 21 1,
  sm 2 22 (.len (.sl 32) (tm 21)),
  sm 3 23 (.bin .lss 3 (tm 20) (tm 22))])
  (.cond (tm 23) .skip (.exit 0)))
  (.seq (.block 1 (.reg [sv 0 27 6,
  sv 1 28 1,
  sv 2 29 8,
  sm 3 30 (.ia (.sl 32) (tm 28) (tm 29)),
  sm 4 31 (.ldA 32 (tm 30)),
  sc 5 32 55 [(tm 27), (tm 31), (.const (.int .i64 1))],
  sv 6 26 32,
  sm 7 33 (.ext (tm 26) 0),
  sm 8 34 (.ext (tm 26) 1),
  sv 9 6 33]))
  (.reg [sv 0 24 8,
  sm 1 25 (.bin .add 3 (tm 24) (.const (.int .i64 1))),
  sv 2 8 25])))
def c28 : Cd := (.seq (.reg [sm 0 4 (.mv (.const (.slice none 0 0))),
  sm 1 5 (.mv (.const (.int .i64 0)))])
  (.seq (.reg [sv 0 10 0,
  sc 1 11 12 [(tm 10)],
  sv 2 9 11,
  sm 3 12 (.ext (tm 9) 0),
  sm 4 13 (.ext (tm 9) 1),
  sv 5 6 12,
  sv 6 7 13])
  (.seq (.seq (.reg [sv 0 14 7,
  sm 1 15 (.bin .neq 3 (tm 14) (.const (.int .i64 0)))])
  (.cond (tm 15) (.seq (.reg [sv 0 16 7,
  sm 1 4 (.mv (.const (.slice none 0 0))),
  sv 2 5 16])
  .ret) .skip))
  (.seq (.seq (.reg [sv 0 17 1,
  sm 1 18 (.len (.sl 32) (tm 17)),
  sm 2 19 (.bin .gtr 3 (tm 18) (.const (.int .i64 60)))])
  (.cond (tm 19) (.seq (.reg [sm 0 4 (.mv (.const (.slice none 0 0))),
  sm 1 5 (.mv (.const (.int .i64 4)))])
  .ret) .skip))
  (.seq (.seq (.reg [sm 0 8 (.mv (.const (.int .i64 0)))])
  (.block 0 (.loop l28_0)))
  (.seq (.reg [sv 0 35 6,
  sv 1 4 35,
  sm 2 5 (.mv (.const (.int .i64 0)))])
  .ret))))))
def r28 : List Mo := [.mv (tm 4), .mv (tm 5)]
theorem c28_eq : compF Tryd.prog 28 = some c28 := by kernel_rfl
theorem r28_eq : compRs Tryd.prog 28 = some r28 := by kernel_rfl
/-! F29 braid/sketch.Sub -/
def l29_0 : Cd := (.seq (.reg [sm 0 17 (.bin .lss 3 (tm 16) (tm 15))])
  (.seq (.cond (tm 17) .skip (.exit 0))
  (.seq (.block 1 (.seq (.reg [sm 0 18 (.ia (.sl 1) (tm 14) (tm 16)),
  sm 1 19 (.ld1 (tm 18)),
  sv 2 7 19])
  (.seq (.reg [sv 0 20 7,
  sc 1 21 22 [(tm 20)],
  sv 2 8 21])
  (.seq (.reg [sv 0 22 8,
  sm 1 23 (.bin .neq 26 (tm 22) (.const (.int .i64 0)))])
  (.cond (tm 23) (.seq (.reg [sv 0 24 8,
  sm 1 4 (.mv (.const (.slice none 0 0))),
  sv 2 5 24])
  .ret) .skip)))))
  (.reg [sm 0 25 (.bin .add 3 (tm 16) (.const (.int .i64 1))),
  sv 1 16 25]))))
def l29_1 : Cd := (.seq (.reg [sm 0 36 (.bin .lss 3 (tm 35) (tm 34))])
  (.seq (.cond (tm 36) .skip (.exit 2))
  (.seq (.block 3 (.seq (.reg [sv 0 37 35,
  sm 1 38 (.ia (.sl 34) (tm 33) (tm 35)),
  sm 2 39 (.ldA 34 (tm 38)),
  sm 3 11 (.alloc ([.int .i64 0] ++ rep 32 (.int .u8 0) ++ [.int .u64 0])),
  sv 4 10 37,
  se 5 (.st 34 (tm 11) (tm 39))])
  (.seq (.reg [sv 0 40 9,
  sv 1 41 10,
  sm 2 42 (.ia (.sl 34) (tm 40) (tm 41)),
  sm 3 43 (.fa 0 (tm 42)),
  sm 4 44 (.ld1 (tm 43)),
  sm 5 45 (.fa 0 (tm 11)),
  sm 6 46 (.ld1 (tm 45)),
  sm 7 47 (.bin .sub 2 (tm 44) (tm 46)),
  sm 8 48 (.ia (.sl 34) (tm 40) (tm 41)),
  sm 9 49 (.fa 0 (tm 48)),
  se 10 (.st 1 (tm 49) (tm 47))])
  (.seq (.reg [sv 0 50 9,
  sv 1 51 10,
  sv 2 52 9,
  sv 3 53 10,
  sm 4 54 (.ia (.sl 34) (tm 52) (tm 53)),
  sm 5 55 (.fa 1 (tm 54)),
  sm 6 56 (.ldA 32 (tm 55)),
  sm 7 57 (.fa 1 (tm 11)),
  sm 8 58 (.ldA 32 (tm 57)),
  sc 9 59 57 [(tm 56), (tm 58)],
  sm 10 60 (.ia (.sl 34) (tm 50) (tm 51)),
  sm 11 61 (.fa 1 (tm 60)),
  se 12 (.st 32 (tm 61) (tm 59))])
  (.seq (.reg [sv 0 62 9,
  sv 1 63 10,
  sm 2 64 (.ia (.sl 34) (tm 62) (tm 63)),
  sm 3 65 (.fa 33 (tm 64)),
  sm 4 66 (.ld1 (tm 65)),
  sm 5 67 (.fa 33 (tm 11)),
  sm 6 68 (.ld1 (tm 67)),
  sm 7 69 (.bin .xor 36 (tm 66) (tm 68)),
  sm 8 70 (.ia (.sl 34) (tm 62) (tm 63)),
  sm 9 71 (.fa 33 (tm 70)),
  se 10 (.st 1 (tm 71) (tm 69))])
  (.seq (.reg [sv 0 72 9,
  sv 1 73 10,
  sm 2 74 (.ia (.sl 34) (tm 72) (tm 73)),
  sm 3 75 (.fa 0 (tm 74)),
  sm 4 76 (.ld1 (tm 75)),
  sc 5 77 52 [(tm 76)],
  sm 6 78 (.un .not (tm 77))])
  (.cond (tm 78) (.seq (.reg [sm 0 4 (.mv (.const (.slice none 0 0))),
  sm 1 5 (.mv (.const (.int .i64 16)))])
  .ret) .skip)))))))
  (.reg [sm 0 79 (.bin .add 3 (tm 35) (.const (.int .i64 1))),
  sv 1 35 79]))))
def c29 : Cd := (.seq (.reg [sm 0 4 (.mv (.const (.slice none 0 0))),
  sm 1 5 (.mv (.const (.int .i64 0)))])
  (.seq (.seq (.reg [sv 0 12 0,
  sv 1 13 1,
  sm 2 14 (.bsl 1 [.nilS] 2 [(0, (tm 12)), (1, (tm 13))]),
  sm 3 15 (.len (.sl 1) (tm 14)),
  sm 4 16 (.mv (.const (.int .i64 0)))])
  (.block 0 (.loop l29_0)))
  (.seq (.seq (.reg [sv 0 26 0,
  sm 1 27 (.len (.sl 34) (tm 26)),
  sv 2 28 1,
  sm 3 29 (.len (.sl 34) (tm 28)),
  sm 4 30 (.bin .neq 3 (tm 27) (tm 29))])
  (.cond (tm 30) (.seq (.reg [sm 0 4 (.mv (.const (.slice none 0 0))),
  sm 1 5 (.mv (.const (.int .i64 2)))])
  .ret) .skip))
  (.seq (.reg [sv 0 31 0,
  sc 1 32 56 [(tm 31)],
  sv 2 9 32])
  (.seq (.seq (.reg [sv 0 33 1,
  sm 1 34 (.len (.sl 34) (tm 33)),
  sm 2 35 (.mv (.const (.int .i64 0)))])
  (.block 2 (.loop l29_1)))
  (.seq (.reg [sv 0 80 9,
  sv 1 4 80,
  sm 2 5 (.mv (.const (.int .i64 0)))])
  .ret))))))
def r29 : List Mo := [.mv (tm 4), .mv (tm 5)]
theorem c29_eq : compF Tryd.prog 29 = some c29 := by kernel_rfl
theorem r29_eq : compRs Tryd.prog 29 = some r29 := by kernel_rfl
/-! F30 braid/braidref39.Sub -/
def l30_0 : Cd := (.seq (.seq (.reg [sv 0 26 9,
  sv 1 27 0,
  sm 2 28 (.len (.sl 34) (tm 27)),
  sm 3 29 (.bin .lss 3 (tm 26) (tm 28))])
  (.cond (tm 29) .skip (.exit 0)))
  (.seq (.block 1 (.seq (.dreg [sv 0 32 0,
  sv 1 33 9,
  sm 2 34 (.ia (.sl 34) (tm 32) (tm 33)),
  sm 3 35 (.fa 0 (tm 34)),
  ⟨4, (some 36), none, .mo (.ld1 (tm 35)), [], true⟩,
  sv 5 37 1,
  sv 6 38 9,
  sm 7 39 (.ia (.sl 34) (tm 37) (tm 38)),
  sm 8 40 (.fa 0 (tm 39)),
  ⟨9, (some 41), none, .mo (.ld1 (tm 40)), [], true⟩,
  sm 10 42 (.bin .sub 2 (tm 36) (tm 41)),
  sv 11 43 0,
  sv 12 44 9,
  sm 13 45 (.ia (.sl 34) (tm 43) (tm 44)),
  sm 14 46 (.fa 1 (tm 45)),
  sm 15 47 (.ldA 32 (tm 46)),
  sv 16 48 1,
  sv 17 49 9,
  sm 18 50 (.ia (.sl 34) (tm 48) (tm 49)),
  sm 19 51 (.fa 1 (tm 50)),
  sm 20 52 (.ldA 32 (tm 51)),
  sv 22 54 0,
  sv 23 55 9,
  sm 24 56 (.ia (.sl 34) (tm 54) (tm 55)),
  sm 25 57 (.fa 33 (tm 56)),
  ⟨26, (some 58), none, .mo (.ld1 (tm 57)), [], true⟩,
  sv 27 59 1,
  sv 28 60 9,
  sm 29 61 (.ia (.sl 34) (tm 59) (tm 60)),
  sm 30 62 (.fa 33 (tm 61)),
  ⟨31, (some 63), none, .mo (.ld1 (tm 62)), [], true⟩,
  sm 32 64 (.bin .xor 36 (tm 58) (tm 63)),
  ⟨34, (some 10), none, .mo (.alloc ([.int .i64 0] ++ rep 32 (.int .u8 0) ++ [.int .u64 0])), [], true⟩,
  ⟨21, (some 53), none, .callF 58 [(tm 47), (tm 52)], [34, 31, 26, 9, 4], false⟩,
  sm 33 65 (.bld ([.int .i64 0] ++ rep 32 (.int .u8 0) ++ [.int .u64 0]) [(0, 1, (tm 42)), (1, 32, (tm 53)), (33, 1, (tm 64))]),
  se 35 (.st 34 (tm 10) (tm 65))])
  (.seq (.seq (.reg [sm 0 66 (.fa 0 (tm 10)),
  sm 1 67 (.ld1 (tm 66)),
  sm 2 68 (.bin .lss 2 (tm 67) (.const (.int .i64 (-1000000)))),
  sv 3 69 68,
  sg 4 70 69 false (.fa 0 (tm 10)),
  sg 5 71 69 false (.ld1 (tm 70)),
  sg 6 72 69 false (.bin .gtr 2 (tm 71) (.const (.int .i64 1000000))),
  sm 7 73 (.pick (tm 69) (.const (.bool true)) (tm 72))])
  (.cond (tm 73) (.seq (.reg [sm 0 4 (.mv (.const (.slice none 0 0))),
  sm 1 5 (.mv (.const (.int .i64 16)))])
  .ret) .skip))
  (.reg [sv 0 74 8,
  sm 1 75 (.ldA 34 (tm 10)),
  sm 2 76 (.bsl 34 ([.int .i64 0] ++ rep 32 (.int .u8 0) ++ [.int .u64 0]) 1 [(0, (tm 75))]),
  sm 3 77 (.app 34 48 (tm 74) (tm 76)),
  sv 4 8 77]))))
  (.reg [sv 0 30 9,
  sm 1 31 (.bin .add 3 (tm 30) (.const (.int .i64 1))),
  sv 2 9 31])))
def c30 : Cd := (.seq (.reg [sm 0 4 (.mv (.const (.slice none 0 0))),
  sm 1 5 (.mv (.const (.int .i64 0)))])
  (.seq (.seq (.reg [sv 0 11 0,
  sc 1 12 23 [(tm 11)],
  sv 2 6 12])
  (.seq (.reg [sv 0 13 6,
  sm 1 14 (.bin .neq 3 (tm 13) (.const (.int .i64 0)))])
  (.cond (tm 14) (.seq (.reg [sv 0 15 6,
  sm 1 4 (.mv (.const (.slice none 0 0))),
  sv 2 5 15])
  .ret) .skip)))
  (.seq (.seq (.reg [sv 0 16 1,
  sc 1 17 23 [(tm 16)],
  sv 2 7 17])
  (.seq (.reg [sv 0 18 7,
  sm 1 19 (.bin .neq 3 (tm 18) (.const (.int .i64 0)))])
  (.cond (tm 19) (.seq (.reg [sv 0 20 7,
  sm 1 4 (.mv (.const (.slice none 0 0))),
  sv 2 5 20])
  .ret) .skip)))
  (.seq (.seq (.reg [sv 0 21 0,
  sm 1 22 (.len (.sl 34) (tm 21)),
  sv 2 23 1,
  sm 3 24 (.len (.sl 34) (tm 23)),
  sm 4 25 (.bin .neq 3 (tm 22) (tm 24))])
  (.cond (tm 25) (.seq (.reg [sm 0 4 (.mv (.const (.slice none 0 0))),
  sm 1 5 (.mv (.const (.int .i64 2)))])
  .ret) .skip))
  (.seq (.reg [sm 0 8 (.mv (.const (.slice none 0 0)))])
  (.seq (.seq (.reg [sm 0 9 (.mv (.const (.int .i64 0)))])
  (.block 0 (.loop l30_0)))
  (.seq (.reg [sv 0 78 8,
  sv 1 4 78,
  sm 2 5 (.mv (.const (.int .i64 0)))])
  .ret)))))))
def r30 : List Mo := [.mv (tm 4), .mv (tm 5)]
theorem c30_eq : compF Tryd.prog 30 = some c30 := by kernel_rfl
theorem r30_eq : compRs Tryd.prog 30 = some r30 := by kernel_rfl
/-! F31 braid/sketch.Peel -/
def l31_0 : Cd := (.seq (.seq (.reg [sv 0 21 8,
  sv 1 22 4,
  sm 2 23 (.len (.sl 34) (tm 22)),
  sm 3 24 (.bin .lss 3 (tm 21) (tm 23))])
  (.cond (tm 24) .skip (.exit 0)))
  (.seq (.block 1 (.seq (.reg [sv 0 27 4,
  sv 1 28 8,
  sm 2 29 (.ia (.sl 34) (tm 27) (tm 28)),
  sm 3 30 (.ldA 34 (tm 29)),
  sm 4 9 (.alloc ([.int .i64 0] ++ rep 32 (.int .u8 0) ++ [.int .u64 0])),
  se 5 (.st 34 (tm 9) (tm 30))])
  (.seq (.seq (.reg [sv 0 31 7,
  sm 1 32 (.fa 1 (tm 9)),
  sm 2 33 (.ldA 32 (tm 32)),
  sm 3 34 (.lkp 24 (.bool false) false (tm 31) (tm 33))])
  (.cond (tm 34) (.exit 1) .skip))
  (.seq (.reg [sv 0 36 4,
  sv 1 37 8,
  sc 2 38 20 [(tm 36), (tm 37)],
  sv 3 35 38,
  sm 4 39 (.ext (tm 35) 0),
  sm 5 40 (.ext (tm 35) 1),
  sv 6 10 39,
  sv 7 11 40])
  (.seq (.seq (.reg [sv 0 41 11,
  sm 1 42 (.bin .neq 26 (tm 41) (.const (.int .i64 0)))])
  (.cond (tm 42) (.seq (.reg [sv 0 43 11,
  sm 1 2 (.mv (.const (.slice none 0 0))),
  sm 2 3 (.mv (.const (.slice none 0 0))),
  sm 3 4 (.mv (.const (.slice none 0 0))),
  sv 4 5 43])
  .ret) .skip))
  (.seq (.seq (.reg [sv 0 44 10,
  sm 1 45 (.un .not (tm 44))])
  (.cond (tm 45) (.exit 1) .skip))
  (.seq (.seq (.reg [sv 0 46 7,
  sm 1 47 (.lenMp (tm 46)),
  sm 2 48 (.bin .eql 3 (tm 47) (.const (.int .i64 60)))])
  (.cond (tm 48) (.seq (.reg [sm 0 2 (.mv (.const (.slice none 0 0))),
  sm 1 3 (.mv (.const (.slice none 0 0))),
  sm 2 4 (.mv (.const (.slice none 0 0))),
  sm 3 5 (.mv (.const (.int .i64 4)))])
  .ret) .skip))
  (.seq (.reg [sv 0 50 4,
  sm 1 51 (.fa 1 (tm 9)),
  sm 2 52 (.ldA 32 (tm 51)),
  sm 3 53 (.fa 0 (tm 9)),
  sm 4 54 (.ld1 (tm 53)),
  sm 5 55 (.un .neg (tm 54)),
  sc 6 56 46 [(tm 50), (tm 52), (tm 55)],
  sv 7 49 56,
  sm 8 57 (.ext (tm 49) 0),
  sm 9 58 (.ext (tm 49) 1),
  sv 10 12 57,
  sv 11 11 58])
  (.seq (.seq (.reg [sv 0 59 11,
  sm 1 60 (.bin .neq 26 (tm 59) (.const (.int .i64 0)))])
  (.cond (tm 60) (.seq (.reg [sv 0 61 11,
  sm 1 2 (.mv (.const (.slice none 0 0))),
  sm 2 3 (.mv (.const (.slice none 0 0))),
  sm 3 4 (.mv (.const (.slice none 0 0))),
  sv 4 5 61])
  .ret) .skip))
  (.seq (.seq (.reg [sm 0 62 (.fa 0 (tm 9)),
  sm 1 63 (.ld1 (tm 62)),
  sm 2 64 (.bin .gtr 2 (tm 63) (.const (.int .i64 0)))])
  (.cond (tm 64) (.reg [sv 0 65 2,
  sm 1 66 (.fa 1 (tm 9)),
  sm 2 67 (.ldA 32 (tm 66)),
  sm 3 68 (.bsl 32 (rep 32 (.int .u8 0)) 1 [(0, (tm 67))]),
  sm 4 69 (.app 32 32 (tm 65) (tm 68)),
  sv 5 2 69]) (.reg [sv 0 70 3,
  sm 1 71 (.fa 1 (tm 9)),
  sm 2 72 (.ldA 32 (tm 71)),
  sm 3 73 (.bsl 32 (rep 32 (.int .u8 0)) 1 [(0, (tm 72))]),
  sm 4 74 (.app 32 32 (tm 70) (tm 73)),
  sv 5 3 74])))
  (.seq (.reg [sv 0 75 12,
  sv 1 4 75])
  (.seq (.reg [sv 0 76 7,
  sm 1 77 (.fa 1 (tm 9)),
  sm 2 78 (.ldA 32 (tm 77)),
  se 3 (.mup 24 (tm 76) (tm 78) (.const (.bool true)))])
  (.reg [sm 0 8 (.mv (.const (.int .i64 (-1))))])))))))))))))
  (.reg [sv 0 25 8,
  sm 1 26 (.bin .add 3 (tm 25) (.const (.int .i64 1))),
  sv 2 8 26])))
def c31 : Cd := (.seq (.reg [sm 0 2 (.mv (.const (.slice none 0 0))),
  sm 1 3 (.mv (.const (.slice none 0 0))),
  sm 2 4 (.mv (.const (.slice none 0 0))),
  sm 3 5 (.mv (.const (.int .i64 0)))])
  (.seq (.seq (.reg [sv 0 13 0,
  sc 1 14 22 [(tm 13)],
  sv 2 6 14])
  (.seq (.reg [sv 0 15 6,
  sm 1 16 (.bin .neq 26 (tm 15) (.const (.int .i64 0)))])
  (.cond (tm 16) (.seq (.reg [sv 0 17 6,
  sm 1 2 (.mv (.const (.slice none 0 0))),
  sm 2 3 (.mv (.const (.slice none 0 0))),
  sm 3 4 (.mv (.const (.slice none 0 0))),
  sv 4 5 17])
  .ret) .skip)))
  (.seq (.reg [sv 0 18 0,
  sc 1 19 56 [(tm 18)],
  sv 2 4 19])
  (.seq (.reg [sm 0 20 (.mkM none),
  sv 1 7 20])
  (.seq (.seq (.reg [sm 0 8 (.mv (.const (.int .i64 0)))])
  (.block 0 (.loop l31_0)))
  (.seq (.reg [sv 0 79 2,
  sc 1 80 59 [(tm 79), (.func 60)]])
  (.seq (.reg [sv 0 81 3,
  sc 1 82 59 [(tm 81), (.func 60)]])
  (.seq (.reg [sv 0 83 2,
  sv 1 84 3,
  sv 2 85 4,
  sv 3 2 83,
  sv 4 3 84,
  sv 5 4 85,
  sm 6 5 (.mv (.const (.int .i64 0)))])
  .ret))))))))
def r31 : List Mo := [.mv (tm 2), .mv (tm 3), .mv (tm 4), .mv (tm 5)]
theorem c31_eq : compF Tryd.prog 31 = some c31 := by kernel_rfl
theorem r31_eq : compRs Tryd.prog 31 = some r31 := by kernel_rfl
/-! F32 braid/braidref39.Peel -/
def l32_0 : Cd := (.seq (.seq (.reg [sv 0 27 11,
  sm 1 28 (.bin .geq 3 (tm 27) (.const (.int .i64 0)))])
  (.cond (tm 28) .skip (.exit 0)))
  (.seq (.block 1 (.seq (.dreg [sv 0 32 10,
  sv 1 33 11,
  sm 2 34 (.ia (.sl 34) (tm 32) (tm 33)),
  sm 3 35 (.fa 1 (tm 34)),
  sm 4 36 (.ldA 32 (tm 35)),
  sv 5 37 10,
  sv 6 38 11,
  sm 7 39 (.ia (.sl 34) (tm 37) (tm 38)),
  sm 8 40 (.fa 0 (tm 39)),
  ⟨9, (some 41), none, .mo (.ld1 (tm 40)), [], true⟩,
  sm 10 42 (.un .neg (tm 41)),
  sm 11 12 (.alloc (rep 32 (.int .u8 0))),
  ⟨12, none, none, .mo (.st 32 (tm 12) (tm 36)), [9], false⟩,
  sv 13 13 42])
  (.seq (.seq (.reg [sv 0 43 9,
  sm 1 44 (.len (.sl 32) (tm 43)),
  sm 2 45 (.bin .eql 3 (tm 44) (.const (.int .i64 60)))])
  (.cond (tm 45) (.seq (.reg [sm 0 2 (.mv (.const (.slice none 0 0))),
  sm 1 3 (.mv (.const (.slice none 0 0))),
  sm 2 4 (.mv (.const (.slice none 0 0))),
  sm 3 5 (.mv (.const (.int .i64 4)))])
  .ret) .skip))
  (.seq (.seq (.reg [sv 0 46 13,
  sm 1 47 (.bin .lss 2 (tm 46) (.const (.int .i64 0)))])
  (.cond (tm 47) (.reg [sv 0 48 7,
  sm 1 49 (.ldA 32 (tm 12)),
  sc 2 50 62 [(tm 48), (tm 49)],
  sv 3 7 50]) (.reg [sv 0 51 8,
  sm 1 52 (.ldA 32 (tm 12)),
  sc 2 53 62 [(tm 51), (tm 52)],
  sv 3 8 53])))
  (.seq (.reg [sv 0 55 10,
  sm 1 56 (.ldA 32 (tm 12)),
  sv 2 57 13,
  sc 3 58 55 [(tm 55), (tm 56), (tm 57)],
  sv 4 54 58,
  sm 5 59 (.ext (tm 54) 0),
  sm 6 60 (.ext (tm 54) 1),
  sv 7 14 59,
  sv 8 15 60])
  (.seq (.seq (.reg [sv 0 61 15,
  sm 1 62 (.un .not (tm 61))])
  (.cond (tm 62) (.seq (.reg [sm 0 2 (.mv (.const (.slice none 0 0))),
  sm 1 3 (.mv (.const (.slice none 0 0))),
  sm 2 4 (.mv (.const (.slice none 0 0))),
  sm 3 5 (.mv (.const (.int .i64 16)))])
  .ret) .skip))
  (.reg [sv 0 63 14,
  sv 1 64 9,
  sm 2 65 (.ldA 32 (tm 12)),
  sm 3 66 (.bsl 32 (rep 32 (.int .u8 0)) 1 [(0, (tm 65))]),
  sm 4 67 (.app 32 32 (tm 64) (tm 66)),
  sv 5 10 63,
  sv 6 9 67])))))))
  (.reg [sv 0 29 10,
  sv 1 30 9,
  sc 2 31 61 [(tm 29), (tm 30)],
  sv 3 11 31])))
def c32 : Cd := (.seq (.reg [sm 0 2 (.mv (.const (.slice none 0 0))),
  sm 1 3 (.mv (.const (.slice none 0 0))),
  sm 2 4 (.mv (.const (.slice none 0 0))),
  sm 3 5 (.mv (.const (.int .i64 0)))])
  (.seq (.seq (.reg [sv 0 16 0,
  sc 1 17 23 [(tm 16)],
  sv 2 6 17])
  (.seq (.reg [sv 0 18 6,
  sm 1 19 (.bin .neq 3 (tm 18) (.const (.int .i64 0)))])
  (.cond (tm 19) (.seq (.reg [sv 0 20 6,
  sm 1 2 (.mv (.const (.slice none 0 0))),
  sm 2 3 (.mv (.const (.slice none 0 0))),
  sm 3 4 (.mv (.const (.slice none 0 0))),
  sv 4 5 20])
  .ret) .skip)))
  (.seq (.reg [sm 0 7 (.mv (.const (.slice none 0 0))),
  sm 1 8 (.mv (.const (.slice none 0 0))),
  sm 2 9 (.mv (.const (.slice none 0 0)))])
  (.seq (.reg [sm 0 21 (.bsl 34 ([.int .i64 0] ++ rep 32 (.int .u8 0) ++ [.int .u64 0]) 0 []),
  sv 1 22 0,
  sm 2 23 (.app 34 48 (tm 21) (tm 22)),
  sv 3 10 23])
  (.seq (.seq (.reg [sv 0 24 10,
  sv 1 25 9,
  sc 2 26 61 [(tm 24), (tm 25)],
  sv 3 11 26])
  (.block 0 (.loop l32_0)))
  (.seq (.reg [sv 0 68 7,
  sv 1 69 8,
  sv 2 70 10,
  sv 3 2 68,
  sv 4 3 69,
  sv 5 4 70,
  sm 6 5 (.mv (.const (.int .i64 0)))])
  .ret))))))
def r32 : List Mo := [.mv (tm 2), .mv (tm 3), .mv (tm 4), .mv (tm 5)]
theorem c32_eq : compF Tryd.prog 32 = some c32 := by kernel_rfl
theorem r32_eq : compRs Tryd.prog 32 = some r32 := by kernel_rfl
/-! F33 braid/braidref39.SameIDs -/
def l33_0 : Cd := (.seq (.seq (.reg [sv 0 11 5,
  sv 1 12 0,
  sm 2 13 (.len (.sl 32) (tm 12)),
  sm 3 14 (.bin .lss 3 (tm 11) (tm 13))])
  (.cond (tm 14) .skip (.exit 0)))
  (.seq (.block 1 (.seq (.reg [sv 0 17 0,
  sv 1 18 5,
  sm 2 19 (.ia (.sl 32) (tm 17) (tm 18)),
  sm 3 20 (.ldA 32 (tm 19)),
  sv 4 21 1,
  sv 5 22 5,
  sm 6 23 (.ia (.sl 32) (tm 21) (tm 22)),
  sm 7 24 (.ldA 32 (tm 23)),
  sm 8 25 (.bin .neq 24 (tm 20) (tm 24))])
  (.cond (tm 25) (.seq (.reg [sm 0 4 (.mv (.const (.bool false)))])
  .ret) .skip)))
  (.reg [sv 0 15 5,
  sm 1 16 (.bin .add 3 (tm 15) (.const (.int .i64 1))),
  sv 2 5 16])))
def c33 : Cd := (.seq (.reg [sm 0 4 (.mv (.const (.bool false)))])
  (.seq (.seq (.reg [sv 0 6 0,
  sm 1 7 (.len (.sl 32) (tm 6)),
  sv 2 8 1,
  sm 3 9 (.len (.sl 32) (tm 8)),
  sm 4 10 (.bin .neq 3 (tm 7) (tm 9))])
  (.cond (tm 10) (.seq (.reg [sm 0 4 (.mv (.const (.bool false)))])
  .ret) .skip))
  (.seq (.seq (.reg [sm 0 5 (.mv (.const (.int .i64 0)))])
  (.block 0 (.loop l33_0)))
  (.seq (.reg [sm 0 4 (.mv (.const (.bool true)))])
  .ret))))
def r33 : List Mo := [.mv (tm 4)]
theorem c33_eq : compF Tryd.prog 33 = some c33 := by kernel_rfl
theorem r33_eq : compRs Tryd.prog 33 = some r33 := by kernel_rfl
/-! F34 braid/braidlaw39.alive -/
def l34_0 : Cd := (.seq (.seq (.reg [sv 0 131 23,
  sm 1 132 (.bin .lss 3 (tm 131) (.const (.int .i64 12)))])
  (.cond (tm 132) .skip (.exit 0)))
  (.seq (.block 1 (.seq (.reg [sv 0 136 3,
  sv 1 137 23,
  sc 2 138 20 [(tm 136), (tm 137)],
  sv 3 135 138,
  sm 4 139 (.ext (tm 135) 0),
  sm 5 140 (.ext (tm 135) 1),
  sv 6 24 139,
  sv 7 25 140])
  (.seq (.reg [sv 0 141 25,
  sm 1 142 (.bin .neq 26 (tm 141) (.const (.int .i64 0))),
  sv 2 143 142,
  sg 3 144 143 false (.mv (tm 24)),
  sg 4 145 143 false (.mv (tm 23)),
  sg 5 146 143 false (.bin .eql 3 (tm 145) (.const (.int .i64 1))),
  sg 6 147 143 false (.mv (tm 146)),
  sg 7 148 147 false (.mv (tm 23)),
  sg 8 149 147 false (.bin .eql 3 (tm 148) (.const (.int .i64 6))),
  sg 9 150 143 false (.pick (tm 147) (.const (.bool true)) (tm 149)),
  sg 10 151 143 false (.mv (tm 150)),
  sg 11 152 151 false (.mv (tm 23)),
  sg 12 153 151 false (.bin .eql 3 (tm 152) (.const (.int .i64 11))),
  sg 13 154 143 false (.pick (tm 151) (.const (.bool true)) (tm 153)),
  sg 14 155 143 false (.bin .neq 4 (tm 144) (tm 154)),
  sm 15 156 (.pick (tm 143) (.const (.bool true)) (tm 155))])
  (.cond (tm 156) (.seq (.reg [sm 0 0 (.mv (.const (.bool false)))])
  .ret) .skip))))
  (.reg [sv 0 133 23,
  sm 1 134 (.bin .add 3 (tm 133) (.const (.int .i64 1))),
  sv 2 23 134])))
def c34 : Cd := (.seq (.reg [sm 0 0 (.mv (.const (.bool false)))])
  (.seq (.reg [sc 0 27 40 [(.const (.int .u8 5))],
  sc 1 28 13 [(.const (.int .i64 12)), (tm 27)],
  sv 2 26 28,
  sm 3 29 (.ext (tm 26) 0),
  sm 4 30 (.ext (tm 26) 1),
  sm 5 1 (.alloc [.int .i64 0, .int .i64 0, .int .i64 0]),
  se 6 (.st 3 (tm 1) (tm 29)),
  sv 7 2 30])
  (.seq (.reg [sc 0 32 40 [(.const (.int .u8 5))],
  sm 1 33 (.bsl 32 (rep 32 (.int .u8 0)) 1 [(0, (tm 32))]),
  sc 2 34 27 [(.const (.int .i64 12)), (tm 33)],
  sv 3 31 34,
  sm 4 35 (.ext (tm 31) 0),
  sm 5 36 (.ext (tm 31) 1),
  sv 6 3 35,
  sv 7 4 36])
  (.seq (.reg [sv 0 38 3,
  sc 1 39 31 [(tm 38)],
  sv 2 37 39,
  sm 3 40 (.ext (tm 37) 0),
  sm 4 41 (.ext (tm 37) 1),
  sm 5 42 (.ext (tm 37) 2),
  sm 6 43 (.ext (tm 37) 3),
  sv 7 5 40,
  sv 8 6 41,
  sv 9 7 42,
  sv 10 8 43])
  (.seq (.reg [sc 0 45 11 [(.const (.int .i64 12))],
  sv 1 44 45,
  sm 2 46 (.ext (tm 44) 0),
  sm 3 47 (.ext (tm 44) 1),
  sv 4 9 46,
  sv 5 10 47])
  (.seq (.reg [sv 0 49 9,
  sv 1 50 3,
  sc 2 51 29 [(tm 49), (tm 50)],
  sv 3 48 51,
  sm 4 52 (.ext (tm 48) 0),
  sm 5 53 (.ext (tm 48) 1),
  sv 6 11 52,
  sv 7 12 53])
  (.seq (.reg [sv 0 55 11,
  sc 1 56 31 [(tm 55)],
  sv 2 54 56,
  sm 3 57 (.ext (tm 54) 0),
  sm 4 58 (.ext (tm 54) 1),
  sm 5 59 (.ext (tm 54) 2),
  sm 6 60 (.ext (tm 54) 3),
  sv 7 13 57,
  sv 8 14 58,
  sv 9 15 59,
  sv 10 16 60])
  (.seq (.reg [sv 0 62 3,
  sc 1 63 40 [(.const (.int .u8 9))],
  sc 2 64 16 [(tm 62), (tm 63)],
  sv 3 61 64,
  sm 4 65 (.ext (tm 61) 0),
  sm 5 66 (.ext (tm 61) 1),
  sv 6 17 65,
  sv 7 18 66])
  (.seq (.reg [sv 0 68 17,
  sc 1 69 31 [(tm 68)],
  sv 2 67 69,
  sm 3 70 (.ext (tm 67) 0),
  sm 4 71 (.ext (tm 67) 1),
  sm 5 72 (.ext (tm 67) 2),
  sm 6 73 (.ext (tm 67) 3),
  sv 7 19 70,
  sv 8 20 71,
  sv 9 21 72,
  sv 10 22 73])
  (.seq (.seq (.reg [sv 0 74 2,
  sm 1 75 (.bin .neq 26 (tm 74) (.const (.int .i64 0))),
  sv 2 76 75,
  sg 3 77 76 false (.ldA 3 (tm 1)),
  sg 4 78 76 false (.bld [.int .i64 0, .int .i64 0, .int .i64 0] [(0, 1, (.const (.int .i64 1))), (1, 1, (.const (.int .i64 6))), (2, 1, (.const (.int .i64 11)))]),
  sg 5 79 76 false (.bin .neq 31 (tm 77) (tm 78)),
  sm 6 80 (.pick (tm 76) (.const (.bool true)) (tm 79)),
  sv 7 81 80,
  sg 8 82 81 false (.mv (tm 4)),
  sg 9 83 81 false (.bin .neq 26 (tm 82) (.const (.int .i64 0))),
  sm 10 84 (.pick (tm 81) (.const (.bool true)) (tm 83)),
  sv 11 85 84,
  sg 12 86 85 false (.mv (tm 8)),
  sg 13 87 85 false (.bin .neq 26 (tm 86) (.const (.int .i64 0))),
  sm 14 88 (.pick (tm 85) (.const (.bool true)) (tm 87)),
  sv 15 89 88,
  sg 16 90 89 false (.mv (tm 5)),
  ⟨17, (some 91), (some ((some 89), false)), .callF 40 [(.const (.int .u8 5))], [], false⟩,
  sg 18 92 89 false (.bsl 32 (rep 32 (.int .u8 0)) 1 [(0, (tm 91))]),
  ⟨19, (some 93), (some ((some 89), false)), .callF 33 [(tm 90), (tm 92)], [], false⟩,
  sg 20 94 89 false (.un .not (tm 93)),
  sm 21 95 (.pick (tm 89) (.const (.bool true)) (tm 94)),
  sv 22 96 95,
  sg 23 97 96 false (.mv (tm 6)),
  sg 24 98 96 false (.len (.sl 32) (tm 97)),
  sg 25 99 96 false (.bin .gtr 3 (tm 98) (.const (.int .i64 0))),
  sm 26 100 (.pick (tm 96) (.const (.bool true)) (tm 99)),
  sv 27 101 100,
  sg 28 102 101 false (.mv (tm 10)),
  sg 29 103 101 false (.bin .neq 26 (tm 102) (.const (.int .i64 0))),
  sm 30 104 (.pick (tm 101) (.const (.bool true)) (tm 103)),
  sv 31 105 104,
  sg 32 106 105 false (.mv (tm 7)),
  sg 33 107 105 false (.mv (tm 9)),
  ⟨34, (some 108), (some ((some 105), false)), .callF 24 [(tm 106), (tm 107)], [], false⟩,
  sg 35 109 105 false (.un .not (tm 108)),
  sm 36 110 (.pick (tm 105) (.const (.bool true)) (tm 109)),
  sv 37 111 110,
  sg 38 112 111 false (.mv (tm 12)),
  sg 39 113 111 false (.bin .neq 26 (tm 112) (.const (.int .i64 0))),
  sm 40 114 (.pick (tm 111) (.const (.bool true)) (tm 113)),
  sv 41 115 114,
  sg 42 116 115 false (.mv (tm 16)),
  sg 43 117 115 false (.bin .neq 26 (tm 116) (.const (.int .i64 0))),
  sm 44 118 (.pick (tm 115) (.const (.bool true)) (tm 117)),
  sv 45 119 118,
  sg 46 120 119 false (.mv (tm 13)),
  sg 47 121 119 false (.len (.sl 32) (tm 120)),
  sg 48 122 119 false (.bin .gtr 3 (tm 121) (.const (.int .i64 0))),
  sm 49 123 (.pick (tm 119) (.const (.bool true)) (tm 122)),
  sv 50 124 123,
  sg 51 125 124 false (.mv (tm 14)),
  ⟨52, (some 126), (some ((some 124), false)), .callF 40 [(.const (.int .u8 5))], [], false⟩,
  sg 53 127 124 false (.bsl 32 (rep 32 (.int .u8 0)) 1 [(0, (tm 126))]),
  ⟨54, (some 128), (some ((some 124), false)), .callF 33 [(tm 125), (tm 127)], [], false⟩,
  sg 55 129 124 false (.un .not (tm 128)),
  sm 56 130 (.pick (tm 124) (.const (.bool true)) (tm 129))])
  (.cond (tm 130) (.seq (.reg [sm 0 0 (.mv (.const (.bool false)))])
  .ret) .skip))
  (.seq (.seq (.reg [sm 0 23 (.mv (.const (.int .i64 0)))])
  (.block 0 (.loop l34_0)))
  (.seq (.reg [sv 0 157 18,
  sm 1 158 (.bin .eql 26 (tm 157) (.const (.int .i64 0))),
  sv 2 159 158,
  sg 3 160 159 true (.mv (tm 22)),
  sg 4 161 159 true (.bin .eql 26 (tm 160) (.const (.int .i64 0))),
  sm 5 162 (.pick (tm 159) (tm 161) (.const (.bool false))),
  sv 6 163 162,
  sg 7 164 163 true (.mv (tm 19)),
  sg 8 165 163 true (.len (.sl 32) (tm 164)),
  sg 9 166 163 true (.mv (tm 20)),
  sg 10 167 163 true (.len (.sl 32) (tm 166)),
  sg 11 168 163 true (.bin .add 3 (tm 165) (tm 167)),
  sg 12 169 163 true (.bin .eql 3 (tm 168) (.const (.int .i64 0))),
  sm 13 170 (.pick (tm 163) (tm 169) (.const (.bool false))),
  sv 14 171 170,
  sg 15 172 171 true (.mv (tm 21)),
  sg 16 173 171 true (.mv (tm 17)),
  ⟨17, (some 174), (some ((some 171), true)), .callF 24 [(tm 172), (tm 173)], [], false⟩,
  sm 18 175 (.pick (tm 171) (tm 174) (.const (.bool false))),
  sv 19 0 175])
  .ret))))))))))))
def r34 : List Mo := [.mv (tm 0)]
theorem c34_eq : compF Tryd.prog 34 = some c34 := by kernel_rfl
theorem r34_eq : compRs Tryd.prog 34 = some r34 := by kernel_rfl
/-! F35 braid/braidref39.Size -/
def c35 : Cd := (.seq (.reg [sm 0 2 (.mv (.const (.bool false)))])
  (.seq (.reg [sv 0 3 0,
  sm 1 4 (.bin .geq 3 (tm 3) (.const (.int .i64 3))),
  sv 2 5 4,
  sg 3 6 5 true (.mv (tm 0)),
  sg 4 7 5 true (.bin .leq 3 (tm 6) (.const (.int .i64 48))),
  sm 5 8 (.pick (tm 5) (tm 7) (.const (.bool false))),
  sv 6 9 8,
  sg 7 10 9 true (.mv (tm 0)),
  sg 8 11 9 true (.bin .rem 3 (tm 10) (.const (.int .i64 3))),
  sg 9 12 9 true (.bin .eql 3 (tm 11) (.const (.int .i64 0))),
  sm 10 13 (.pick (tm 9) (tm 12) (.const (.bool false))),
  sv 11 2 13])
  .ret))
def r35 : List Mo := [.mv (tm 2)]
theorem c35_eq : compF Tryd.prog 35 = some c35 := by kernel_rfl
theorem r35_eq : compRs Tryd.prog 35 = some r35 := by kernel_rfl
/-! F36 braid/braidref39.Increasing -/
def l36_0 : Cd := (.seq (.seq (.reg [sv 0 4 3,
  sv 1 5 0,
  sm 2 6 (.len (.sl 32) (tm 5)),
  sm 3 7 (.bin .lss 3 (tm 4) (tm 6))])
  (.cond (tm 7) .skip (.exit 0)))
  (.seq (.block 1 (.seq (.reg [sv 0 10 0,
  sv 1 11 3,
  sm 2 12 (.bin .sub 3 (tm 11) (.const (.int .i64 1))),
  sm 3 13 (.ia (.sl 32) (tm 10) (tm 12)),
  sm 4 14 (.ldA 32 (tm 13)),
  sv 5 15 0,
  sv 6 16 3,
  sm 7 17 (.ia (.sl 32) (tm 15) (tm 16)),
  sm 8 18 (.ldA 32 (tm 17)),
  sc 9 19 63 [(tm 14), (tm 18)],
  sm 10 20 (.un .not (tm 19))])
  (.cond (tm 20) (.seq (.reg [sm 0 2 (.mv (.const (.bool false)))])
  .ret) .skip)))
  (.reg [sv 0 8 3,
  sm 1 9 (.bin .add 3 (tm 8) (.const (.int .i64 1))),
  sv 2 3 9])))
def c36 : Cd := (.seq (.reg [sm 0 2 (.mv (.const (.bool false)))])
  (.seq (.seq (.reg [sm 0 3 (.mv (.const (.int .i64 1)))])
  (.block 0 (.loop l36_0)))
  (.seq (.reg [sm 0 2 (.mv (.const (.bool true)))])
  .ret)))
def r36 : List Mo := [.mv (tm 2)]
theorem c36_eq : compF Tryd.prog 36 = some c36 := by kernel_rfl
theorem r36_eq : compRs Tryd.prog 36 = some r36 := by kernel_rfl
/-! F37 braid/braidref39.Honest -/
def l37_0 : Cd := (.seq (.seq (.reg [sv 0 52 16,
  sm 1 53 (.bin .geq 3 (tm 52) (.const (.int .i64 0)))])
  (.cond (tm 53) .skip (.exit 0)))
  (.seq (.block 1 (.seq (.dreg [sv 0 57 11,
  sv 1 58 16,
  sm 2 59 (.ia (.sl 34) (tm 57) (tm 58)),
  sm 3 60 (.fa 1 (tm 59)),
  sm 4 61 (.ldA 32 (tm 60)),
  sv 5 62 11,
  sv 6 63 16,
  sm 7 64 (.ia (.sl 34) (tm 62) (tm 63)),
  sm 8 65 (.fa 0 (tm 64)),
  ⟨9, (some 66), none, .mo (.ld1 (tm 65)), [], true⟩,
  sm 10 67 (.un .neg (tm 66)),
  sm 11 17 (.alloc (rep 32 (.int .u8 0))),
  ⟨12, none, none, .mo (.st 32 (tm 17) (tm 61)), [9], false⟩,
  sv 13 18 67])
  (.seq (.seq (.reg [sv 0 68 18,
  sm 1 69 (.bin .lss 2 (tm 68) (.const (.int .i64 0))),
  sv 2 70 69,
  sg 3 71 70 true (.mv (tm 13)),
  sg 4 72 70 true (.ldA 32 (tm 17)),
  ⟨5, (some 73), (some ((some 70), true)), .callF 39 [(tm 71), (tm 72)], [], false⟩,
  sg 6 74 70 true (.un .not (tm 73)),
  sm 7 75 (.pick (tm 70) (tm 74) (.const (.bool false))),
  sv 8 76 75,
  sg 9 77 76 false (.mv (tm 18)),
  sg 10 78 76 false (.bin .gtr 2 (tm 77) (.const (.int .i64 0))),
  sg 11 79 76 false (.mv (tm 78)),
  sg 12 80 79 true (.mv (tm 14)),
  sg 13 81 79 true (.ldA 32 (tm 17)),
  ⟨14, (some 82), (some ((some 79), true)), .callF 39 [(tm 80), (tm 81)], [], false⟩,
  sg 15 83 79 true (.un .not (tm 82)),
  sg 16 84 76 false (.pick (tm 79) (tm 83) (.const (.bool false))),
  sm 17 85 (.pick (tm 76) (.const (.bool true)) (tm 84)),
  sv 18 86 85,
  sg 19 87 86 false (.mv (tm 0)),
  sg 20 88 86 false (.mv (tm 13)),
  sg 21 89 86 false (.mv (tm 16)),
  ⟨22, (some 90), (some ((some 86), false)), .callF 64 [(tm 87), (tm 88), (tm 89)], [], false⟩,
  sg 23 91 86 false (.mv (tm 0)),
  sg 24 92 86 false (.mv (tm 14)),
  sg 25 93 86 false (.mv (tm 16)),
  ⟨26, (some 94), (some ((some 86), false)), .callF 64 [(tm 91), (tm 92), (tm 93)], [], false⟩,
  sg 27 95 86 false (.bin .add 3 (tm 90) (tm 94)),
  sg 28 96 86 false (.bin .neq 3 (tm 95) (.const (.int .i64 1))),
  sm 29 97 (.pick (tm 86) (.const (.bool true)) (tm 96))])
  (.cond (tm 97) (.seq (.reg [sm 0 6 (.mv (.const (.bool false)))])
  .ret) .skip))
  (.seq (.dreg [sv 0 98 13,
  sm 1 99 (.ldA 32 (tm 17)),
  sm 2 100 (.bsl 32 (rep 32 (.int .u8 0)) 1 [(0, (tm 99))]),
  sv 4 102 14,
  ⟨5, (some 103), none, .mo (.ldA 32 (tm 17)), [], true⟩,
  ⟨6, (some 104), none, .mo (.bsl 32 (rep 32 (.int .u8 0)) 1 [(0, (tm 103))]), [], true⟩,
  ⟨3, (some 101), none, .callF 38 [(tm 98), (tm 100)], [6, 5], false⟩,
  sc 7 105 38 [(tm 102), (tm 104)],
  sv 8 13 101,
  sv 9 14 105])
  (.seq (.reg [sv 0 107 11,
  sm 1 108 (.ldA 32 (tm 17)),
  sv 2 109 18,
  sc 3 110 55 [(tm 107), (tm 108), (tm 109)],
  sv 4 106 110,
  sm 5 111 (.ext (tm 106) 0),
  sm 6 112 (.ext (tm 106) 1),
  sv 7 11 111])
  (.reg [sv 0 113 15,
  sm 1 114 (.ldA 32 (tm 17)),
  sm 2 115 (.bsl 32 (rep 32 (.int .u8 0)) 1 [(0, (tm 114))]),
  sm 3 116 (.app 32 32 (tm 113) (tm 115)),
  sv 4 15 116]))))))
  (.reg [sv 0 54 11,
  sv 1 55 15,
  sc 2 56 61 [(tm 54), (tm 55)],
  sv 3 16 56])))
def c37 : Cd := (.seq (.reg [sm 0 6 (.mv (.const (.bool false)))])
  (.seq (.reg [sv 0 20 0,
  sv 1 21 1,
  sc 2 22 28 [(tm 20), (tm 21)],
  sv 3 19 22,
  sm 4 23 (.ext (tm 19) 0),
  sm 5 24 (.ext (tm 19) 1),
  sv 6 7 23,
  sv 7 8 24])
  (.seq (.reg [sv 0 26 0,
  sv 1 27 2,
  sc 2 28 28 [(tm 26), (tm 27)],
  sv 3 25 28,
  sm 4 29 (.ext (tm 25) 0),
  sm 5 30 (.ext (tm 25) 1),
  sv 6 9 29,
  sv 7 10 30])
  (.seq (.seq (.reg [sv 0 31 8,
  sm 1 32 (.bin .neq 3 (tm 31) (.const (.int .i64 0))),
  sv 2 33 32,
  sg 3 34 33 false (.mv (tm 10)),
  sg 4 35 33 false (.bin .neq 3 (tm 34) (.const (.int .i64 0))),
  sm 5 36 (.pick (tm 33) (.const (.bool true)) (tm 35))])
  (.cond (tm 36) (.seq (.reg [sm 0 6 (.mv (.const (.bool false)))])
  .ret) .skip))
  (.seq (.reg [sv 0 38 7,
  sv 1 39 9,
  sc 2 40 30 [(tm 38), (tm 39)],
  sv 3 37 40,
  sm 4 41 (.ext (tm 37) 0),
  sm 5 42 (.ext (tm 37) 1),
  sv 6 11 41,
  sv 7 12 42])
  (.seq (.reg [sv 0 43 1,
  sv 1 44 2,
  sc 2 45 38 [(tm 43), (tm 44)],
  sv 3 46 2,
  sv 4 47 1,
  sc 5 48 38 [(tm 46), (tm 47)],
  sv 6 13 45,
  sv 7 14 48])
  (.seq (.reg [sm 0 15 (.mv (.const (.slice none 0 0)))])
  (.seq (.seq (.reg [sv 0 49 11,
  sv 1 50 15,
  sc 2 51 61 [(tm 49), (tm 50)],
  sv 3 16 51])
  (.block 0 (.loop l37_0)))
  (.seq (.reg [sv 0 117 13,
  sm 1 118 (.len (.sl 32) (tm 117)),
  sv 2 119 14,
  sm 3 120 (.len (.sl 32) (tm 119)),
  sm 4 121 (.bin .add 3 (tm 118) (tm 120)),
  sm 5 122 (.bin .eql 3 (tm 121) (.const (.int .i64 0))),
  sv 6 6 122])
  .ret)))))))))
def r37 : List Mo := [.mv (tm 6)]
theorem c37_eq : compF Tryd.prog 37 = some c37 := by kernel_rfl
theorem r37_eq : compRs Tryd.prog 37 = some r37 := by kernel_rfl
/-! F38 braid/braidref39.Without -/
def l38_0 : Cd := (.seq (.seq (.reg [sv 0 7 6,
  sv 1 8 0,
  sm 2 9 (.len (.sl 32) (tm 8)),
  sm 3 10 (.bin .lss 3 (tm 7) (tm 9))])
  (.cond (tm 10) .skip (.exit 0)))
  (.seq (.block 1 (.seq (.reg [sv 0 13 1,
  sv 1 14 0,
  sv 2 15 6,
  sm 3 16 (.ia (.sl 32) (tm 14) (tm 15)),
  sm 4 17 (.ldA 32 (tm 16)),
  sc 5 18 39 [(tm 13), (tm 17)],
  sm 6 19 (.un .not (tm 18))])
  (.cond (tm 19) (.reg [sv 0 20 5,
  sv 1 21 0,
  sv 2 22 6,
  sm 3 23 (.ia (.sl 32) (tm 21) (tm 22)),
  sm 4 24 (.ldA 32 (tm 23)),
  sm 5 25 (.bsl 32 (rep 32 (.int .u8 0)) 1 [(0, (tm 24))]),
  sm 6 26 (.app 32 32 (tm 20) (tm 25)),
  sv 7 5 26]) .skip)))
  (.reg [sv 0 11 6,
  sm 1 12 (.bin .add 3 (tm 11) (.const (.int .i64 1))),
  sv 2 6 12])))
def c38 : Cd := (.seq (.reg [sm 0 4 (.mv (.const (.slice none 0 0)))])
  (.seq (.reg [sm 0 5 (.mv (.const (.slice none 0 0)))])
  (.seq (.seq (.reg [sm 0 6 (.mv (.const (.int .i64 0)))])
  (.block 0 (.loop l38_0)))
  (.seq (.reg [sv 0 27 5,
  sv 1 4 27])
  .ret))))
def r38 : List Mo := [.mv (tm 4)]
theorem c38_eq : compF Tryd.prog 38 = some c38 := by kernel_rfl
theorem r38_eq : compRs Tryd.prog 38 = some r38 := by kernel_rfl
/-! F39 braid/braidref39.In -/
def l39_0 : Cd := (.seq (.seq (.reg [sv 0 6 5,
  sv 1 7 0,
  sm 2 8 (.len (.sl 32) (tm 7)),
  sm 3 9 (.bin .lss 3 (tm 6) (tm 8))])
  (.cond (tm 9) .skip (.exit 0)))
  (.seq (.block 1 (.seq (.reg [sv 0 12 0,
  sv 1 13 5,
  sm 2 14 (.ia (.sl 32) (tm 12) (tm 13)),
  sm 3 15 (.ldA 32 (tm 14)),
  sm 4 16 (.ldA 32 (tm 3)),
  sm 5 17 (.bin .eql 24 (tm 15) (tm 16))])
  (.cond (tm 17) (.seq (.reg [sm 0 4 (.mv (.const (.bool true)))])
  .ret) .skip)))
  (.reg [sv 0 10 5,
  sm 1 11 (.bin .add 3 (tm 10) (.const (.int .i64 1))),
  sv 2 5 11])))
def c39 : Cd := (.seq (.reg [sm 0 3 (.box (tm 1)),
  sm 1 4 (.mv (.const (.bool false)))])
  (.seq (.seq (.reg [sm 0 5 (.mv (.const (.int .i64 0)))])
  (.block 0 (.loop l39_0)))
  (.seq (.reg [sm 0 4 (.mv (.const (.bool false)))])
  .ret)))
def r39 : List Mo := [.mv (tm 4)]
theorem c39_eq : compF Tryd.prog 39 = some c39 := by kernel_rfl
theorem r39_eq : compRs Tryd.prog 39 = some r39 := by kernel_rfl
/-! F40 braid/braidlaw39.given -/
def c40 : Cd := (.seq (.reg [sm 0 2 (.alloc (rep 32 (.int .u8 0)))])
  (.seq (.reg [sv 0 3 0,
  sm 1 4 (.bld (rep 32 (.int .u8 0)) [(3, 1, (tm 3)), (7, 1, (.const (.int .u8 6))), (11, 1, (.const (.int .u8 7)))]),
  se 2 (.st 32 (tm 2) (tm 4))])
  .ret))
def r40 : List Mo := [.ldA 32 (tm 2)]
theorem c40_eq : compF Tryd.prog 40 = some c40 := by kernel_rfl
theorem r40_eq : compRs Tryd.prog 40 = some r40 := by kernel_rfl
/-! F41 braid/digest.Sum -/
def c41 : Cd := (.seq (.reg [sm 0 2 (.alloc (rep 32 (.int .u8 0))),
  sm 1 3 (.mv (.const (.int .i64 0)))])
  (.seq (.reg [sv 0 4 0,
  sm 1 5 (.bsl 1 [.nilS] 1 [(0, (tm 4))]),
  sc 2 6 65 [(tm 5)],
  sm 3 7 (.ext (tm 6) 0),
  sm 4 8 (.ext (tm 6) 1),
  se 5 (.st 32 (tm 2) (tm 7)),
  sv 6 3 8])
  .ret))
def r41 : List Mo := [.ldA 32 (tm 2), .mv (tm 3)]
theorem c41_eq : compF Tryd.prog 41 = some c41 := by kernel_rfl
theorem r41_eq : compRs Tryd.prog 41 = some r41 := by kernel_rfl
/-! F42 braid/braidlaw39.small -/
def l42_0 : Cd := (.seq (.seq (.reg [sv 0 4 3,
  sv 1 5 0,
  sm 2 6 (.len (.sl 34) (tm 5)),
  sm 3 7 (.bin .lss 3 (tm 4) (tm 6))])
  (.cond (tm 7) .skip (.exit 0)))
  (.seq (.block 1 (.seq (.reg [sv 0 10 0,
  sv 1 11 3,
  sm 2 12 (.ia (.sl 34) (tm 10) (tm 11)),
  sm 3 13 (.fa 0 (tm 12)),
  sm 4 14 (.ld1 (tm 13)),
  sm 5 15 (.bin .lss 2 (tm 14) (.const (.int .i64 (-900000)))),
  sv 6 16 15,
  sg 7 17 16 false (.mv (tm 0)),
  sg 8 18 16 false (.mv (tm 3)),
  sg 9 19 16 false (.ia (.sl 34) (tm 17) (tm 18)),
  sg 10 20 16 false (.fa 0 (tm 19)),
  sg 11 21 16 false (.ld1 (tm 20)),
  sg 12 22 16 false (.bin .gtr 2 (tm 21) (.const (.int .i64 900000))),
  sm 13 23 (.pick (tm 16) (.const (.bool true)) (tm 22))])
  (.cond (tm 23) (.seq (.reg [sm 0 2 (.mv (.const (.bool false)))])
  .ret) .skip)))
  (.reg [sv 0 8 3,
  sm 1 9 (.bin .add 3 (tm 8) (.const (.int .i64 1))),
  sv 2 3 9])))
def c42 : Cd := (.seq (.reg [sm 0 2 (.mv (.const (.bool false)))])
  (.seq (.seq (.reg [sm 0 3 (.mv (.const (.int .i64 0)))])
  (.block 0 (.loop l42_0)))
  (.seq (.reg [sv 0 24 0,
  sc 1 25 23 [(tm 24)],
  sm 2 26 (.bin .eql 3 (tm 25) (.const (.int .i64 0))),
  sv 3 2 26])
  .ret)))
def r42 : List Mo := [.mv (tm 2)]
theorem c42_eq : compF Tryd.prog 42 = some c42 := by kernel_rfl
theorem r42_eq : compRs Tryd.prog 42 = some r42 := by kernel_rfl
/-! F43 braid/sketch.sized -/
def c43 : Cd := (.seq (.reg [sm 0 2 (.mv (.const (.bool false)))])
  (.seq (.reg [sv 0 3 0,
  sm 1 4 (.bin .geq 3 (tm 3) (.const (.int .i64 3))),
  sv 2 5 4,
  sg 3 6 5 true (.mv (tm 0)),
  sg 4 7 5 true (.bin .leq 3 (tm 6) (.const (.int .i64 48))),
  sm 5 8 (.pick (tm 5) (tm 7) (.const (.bool false))),
  sv 6 9 8,
  sg 7 10 9 true (.mv (tm 0)),
  sg 8 11 9 true (.bin .rem 3 (tm 10) (.const (.int .i64 3))),
  sg 9 12 9 true (.bin .eql 3 (tm 11) (.const (.int .i64 0))),
  sm 10 13 (.pick (tm 9) (tm 12) (.const (.bool false))),
  sv 11 2 13])
  .ret))
def r43 : List Mo := [.mv (tm 2)]
theorem c43_eq : compF Tryd.prog 43 = some c43 := by kernel_rfl
theorem r43_eq : compRs Tryd.prog 43 = some r43 := by kernel_rfl
/-! F44 braid/sketch.big -/
def l44_0 : Cd := (.seq (.reg [sm 0 9 (.bin .lss 3 (tm 8) (tm 7))])
  (.seq (.cond (tm 9) .skip (.exit 0))
  (.seq (.block 1 (.seq (.reg [sm 0 10 (.ia (.sl 1) (tm 6) (tm 8)),
  sm 1 11 (.ld1 (tm 10)),
  sv 2 5 11])
  (.reg [sv 0 12 3,
  sm 1 13 (.bin .shl 36 (tm 12) (.const (.int .u64 8))),
  sv 2 14 5,
  sm 3 15 (.cint .u64 (tm 14)),
  sm 4 16 (.bin .or 36 (tm 13) (tm 15)),
  sv 5 3 16])))
  (.reg [sm 0 17 (.bin .add 3 (tm 8) (.const (.int .i64 1))),
  sv 1 8 17]))))
def c44 : Cd := (.seq (.reg [sm 0 2 (.mv (.const (.int .u64 0)))])
  (.seq (.reg [sm 0 3 (.mv (.const (.int .u64 0)))])
  (.seq (.seq (.reg [sv 0 6 0,
  sm 1 7 (.len (.sl 1) (tm 6)),
  sm 2 8 (.mv (.const (.int .i64 0)))])
  (.block 0 (.loop l44_0)))
  (.seq (.reg [sv 0 18 3,
  sv 1 2 18])
  .ret))))
def r44 : List Mo := [.mv (tm 2)]
theorem c44_eq : compF Tryd.prog 44 = some c44 := by kernel_rfl
theorem r44_eq : compRs Tryd.prog 44 = some r44 := by kernel_rfl
/-! F45 braid/braidref39.places -/
def l45_0 : Cd := (.seq (.seq (.reg [sv 0 7 6,
  sm 1 8 (.bin .lss 3 (tm 7) (.const (.int .i64 3)))])
  (.cond (tm 8) .skip (.exit 0)))
  (.seq (.block 1 (.reg [sv 0 11 6,
  sv 1 12 6,
  sv 2 13 0,
  sm 3 14 (.bin .quo 3 (tm 13) (.const (.int .i64 3))),
  sm 4 15 (.bin .mul 3 (tm 12) (tm 14)),
  sv 5 16 6,
  sm 6 17 (.bin .mul 3 (.const (.int .i64 4)) (tm 16)),
  sv 7 18 6,
  sm 8 19 (.bin .mul 3 (.const (.int .i64 4)) (tm 18)),
  sm 9 20 (.bin .add 3 (tm 19) (.const (.int .i64 4))),
  sm 10 21 (.slice (.arr 32 1) (tm 3) (some (tm 17)) (some (tm 20)) none),
  sc 11 22 54 [(tm 21)],
  sv 12 23 0,
  sm 13 24 (.bin .quo 3 (tm 23) (.const (.int .i64 3))),
  sm 14 25 (.cint .u64 (tm 24)),
  sm 15 26 (.bin .rem 36 (tm 22) (tm 25)),
  sm 16 27 (.cint .i64 (tm 26)),
  sm 17 28 (.bin .add 3 (tm 15) (tm 27)),
  sm 18 29 (.ia (.arr 3 1) (tm 5) (tm 11)),
  se 19 (.st 1 (tm 29) (tm 28))]))
  (.reg [sv 0 9 6,
  sm 1 10 (.bin .add 3 (tm 9) (.const (.int .i64 1))),
  sv 2 6 10])))
def c45 : Cd := (.seq (.reg [sm 0 3 (.box (tm 1)),
  sm 1 4 (.alloc [.int .i64 0, .int .i64 0, .int .i64 0])])
  (.seq (.reg [sm 0 5 (.alloc [.int .i64 0, .int .i64 0, .int .i64 0])])
  (.seq (.seq (.reg [sm 0 6 (.mv (.const (.int .i64 0)))])
  (.block 0 (.loop l45_0)))
  (.seq (.reg [sm 0 30 (.ldA 3 (tm 5)),
  se 1 (.st 3 (tm 4) (tm 30))])
  .ret))))
def r45 : List Mo := [.ldA 3 (tm 4)]
theorem c45_eq : compF Tryd.prog 45 = some c45 := by kernel_rfl
theorem r45_eq : compRs Tryd.prog 45 = some r45 := by kernel_rfl
/-! F46 braid/sketch.put -/
def l46_0 : Cd := (.seq (.reg [sm 0 43 (.bin .lss 3 (tm 42) (.const (.int .i64 3)))])
  (.seq (.cond (tm 43) .skip (.exit 0))
  (.seq (.block 1 (.seq (.reg [sm 0 44 (.ix1 3 1 (tm 41) (tm 42)),
  sv 1 14 44])
  (.seq (.reg [sv 0 45 12,
  sv 1 46 14,
  sm 2 47 (.ia (.sl 34) (tm 45) (tm 46)),
  sv 3 15 47])
  (.seq (.reg [sv 0 48 15,
  sm 1 49 (.nilc (tm 48)),
  sm 2 50 (.fa 0 (tm 49)),
  sm 3 51 (.ld1 (tm 50)),
  sv 4 52 2,
  sm 5 53 (.bin .add 2 (tm 51) (tm 52)),
  sm 6 54 (.nilc (tm 48)),
  sm 7 55 (.fa 0 (tm 54)),
  se 8 (.st 1 (tm 55) (tm 53))])
  (.seq (.reg [sv 0 56 15,
  sv 1 57 15,
  sm 2 58 (.nilc (tm 57)),
  sm 3 59 (.fa 1 (tm 58)),
  sm 4 60 (.ldA 32 (tm 59)),
  sm 5 61 (.ldA 32 (tm 4)),
  sc 6 62 57 [(tm 60), (tm 61)],
  sm 7 63 (.nilc (tm 56)),
  sm 8 64 (.fa 1 (tm 63)),
  se 9 (.st 32 (tm 64) (tm 62))])
  (.seq (.reg [sv 0 65 15,
  sm 1 66 (.nilc (tm 65)),
  sm 2 67 (.fa 33 (tm 66)),
  sm 3 68 (.ld1 (tm 67)),
  sv 4 69 11,
  sm 5 70 (.bin .xor 36 (tm 68) (tm 69)),
  sm 6 71 (.nilc (tm 65)),
  sm 7 72 (.fa 33 (tm 71)),
  se 8 (.st 1 (tm 72) (tm 70))])
  (.seq (.reg [sv 0 73 15,
  sm 1 74 (.nilc (tm 73)),
  sm 2 75 (.fa 0 (tm 74)),
  sm 3 76 (.ld1 (tm 75)),
  sc 4 77 52 [(tm 76)],
  sm 5 78 (.un .not (tm 77))])
  (.cond (tm 78) (.seq (.reg [sm 0 6 (.mv (.const (.slice none 0 0))),
  sm 1 7 (.mv (.const (.int .i64 16)))])
  .ret) .skip))))))))
  (.reg [sm 0 79 (.bin .add 3 (tm 42) (.const (.int .i64 1))),
  sv 1 42 79]))))
def c46 : Cd := (.seq (.reg [sm 0 4 (.box (tm 1)),
  sm 1 6 (.mv (.const (.slice none 0 0))),
  sm 2 7 (.mv (.const (.int .i64 0)))])
  (.seq (.seq (.reg [sv 0 16 0,
  sc 1 17 22 [(tm 16)],
  sv 2 8 17])
  (.seq (.reg [sv 0 18 8,
  sm 1 19 (.bin .neq 26 (tm 18) (.const (.int .i64 0)))])
  (.cond (tm 19) (.seq (.reg [sv 0 20 8,
  sm 1 6 (.mv (.const (.slice none 0 0))),
  sv 2 7 20])
  .ret) .skip)))
  (.seq (.reg [sv 0 22 0,
  sm 1 23 (.len (.sl 34) (tm 22)),
  sm 2 24 (.ldA 32 (tm 4)),
  sc 3 25 13 [(tm 23), (tm 24)],
  sv 4 21 25,
  sm 5 26 (.ext (tm 21) 0),
  sm 6 27 (.ext (tm 21) 1),
  sm 7 9 (.alloc [.int .i64 0, .int .i64 0, .int .i64 0]),
  se 8 (.st 3 (tm 9) (tm 26)),
  sv 9 10 27])
  (.seq (.seq (.reg [sv 0 28 10,
  sm 1 29 (.bin .neq 26 (tm 28) (.const (.int .i64 0)))])
  (.cond (tm 29) (.seq (.reg [sv 0 30 10,
  sm 1 6 (.mv (.const (.slice none 0 0))),
  sv 2 7 30])
  .ret) .skip))
  (.seq (.reg [sm 0 32 (.ldA 32 (tm 4)),
  sc 1 33 15 [(tm 32)],
  sv 2 31 33,
  sm 3 34 (.ext (tm 31) 0),
  sm 4 35 (.ext (tm 31) 1),
  sv 5 11 34,
  sv 6 10 35])
  (.seq (.seq (.reg [sv 0 36 10,
  sm 1 37 (.bin .neq 26 (tm 36) (.const (.int .i64 0)))])
  (.cond (tm 37) (.seq (.reg [sv 0 38 10,
  sm 1 6 (.mv (.const (.slice none 0 0))),
  sv 2 7 38])
  .ret) .skip))
  (.seq (.reg [sv 0 39 0,
  sc 1 40 56 [(tm 39)],
  sv 2 12 40])
  (.seq (.seq (.reg [sm 0 41 (.ldA 3 (tm 9)),
  sm 1 42 (.mv (.const (.int .i64 0)))])
  (.block 0 (.loop l46_0)))
  (.seq (.reg [sv 0 80 12,
  sv 1 6 80,
  sm 2 7 (.mv (.const (.int .i64 0)))])
  .ret)))))))))
def r46 : List Mo := [.mv (tm 6), .mv (tm 7)]
theorem c46_eq : compF Tryd.prog 46 = some c46 := by kernel_rfl
theorem r46_eq : compRs Tryd.prog 46 = some r46 := by kernel_rfl
/-! F47 braid/braidref39.put -/
def c47 : Cd := (.seq (.reg [sm 0 4 (.box (tm 1)),
  sm 1 6 (.mv (.const (.slice none 0 0))),
  sm 2 7 (.mv (.const (.int .i64 0)))])
  (.seq (.seq (.reg [sv 0 11 0,
  sc 1 12 23 [(tm 11)],
  sv 2 8 12])
  (.seq (.reg [sv 0 13 8,
  sm 1 14 (.bin .neq 3 (tm 13) (.const (.int .i64 0)))])
  (.cond (tm 14) (.seq (.reg [sv 0 15 8,
  sm 1 6 (.mv (.const (.slice none 0 0))),
  sv 2 7 15])
  .ret) .skip)))
  (.seq (.reg [sv 0 17 0,
  sm 1 18 (.ldA 32 (tm 4)),
  sv 2 19 2,
  sc 3 20 55 [(tm 17), (tm 18), (tm 19)],
  sv 4 16 20,
  sm 5 21 (.ext (tm 16) 0),
  sm 6 22 (.ext (tm 16) 1),
  sv 7 9 21,
  sv 8 10 22])
  (.seq (.seq (.reg [sv 0 23 10,
  sm 1 24 (.un .not (tm 23))])
  (.cond (tm 24) (.seq (.reg [sm 0 6 (.mv (.const (.slice none 0 0))),
  sm 1 7 (.mv (.const (.int .i64 16)))])
  .ret) .skip))
  (.seq (.reg [sv 0 25 9,
  sv 1 6 25,
  sm 2 7 (.mv (.const (.int .i64 0)))])
  .ret)))))
def r47 : List Mo := [.mv (tm 6), .mv (tm 7)]
theorem c47_eq : compF Tryd.prog 47 = some c47 := by kernel_rfl
theorem r47_eq : compRs Tryd.prog 47 = some r47 := by kernel_rfl
/-! F48 slices.Contains[[]int,int] -/
def c48 : Cd := (.seq (.reg [sm 0 4 (.mv (.const (.bool false)))])
  (.seq (.reg [sv 0 5 0,
  sv 1 6 1,
  sc 2 7 66 [(tm 5), (tm 6)],
  sm 3 8 (.bin .geq 3 (tm 7) (.const (.int .i64 0))),
  sv 4 4 8])
  .ret))
def r48 : List Mo := [.mv (tm 4)]
theorem c48_eq : compF Tryd.prog 48 = some c48 := by kernel_rfl
theorem r48_eq : compRs Tryd.prog 48 = some r48 := by kernel_rfl
/-! F49 braid/braidref39.pure -/
def c49 : Cd := (.seq (.reg [sm 0 4 (.mv (.const (.bool false)))])
  (.seq (.reg [sv 0 7 0,
  sv 1 8 1,
  sm 2 9 (.ia (.sl 34) (tm 7) (tm 8)),
  sm 3 10 (.ldA 34 (tm 9)),
  sm 4 5 (.alloc ([.int .i64 0] ++ rep 32 (.int .u8 0) ++ [.int .u64 0])),
  se 5 (.st 34 (tm 5) (tm 10))])
  (.seq (.seq (.dreg [sm 0 11 (.fa 0 (tm 5)),
  sm 1 12 (.ld1 (tm 11)),
  sm 2 13 (.bin .neq 2 (tm 12) (.const (.int .i64 1))),
  sv 3 14 13,
  sg 4 15 14 true (.fa 0 (tm 5)),
  sg 5 16 14 true (.ld1 (tm 15)),
  sg 6 17 14 true (.bin .neq 2 (tm 16) (.const (.int .i64 (-1)))),
  sm 7 18 (.pick (tm 14) (tm 17) (.const (.bool false))),
  sv 8 19 18,
  sg 9 20 19 false (.fa 33 (tm 5)),
  ⟨10, (some 21), (some ((some 19), false)), .mo (.ld1 (tm 20)), [], true⟩,
  sg 11 22 19 false (.fa 1 (tm 5)),
  sg 12 23 19 false (.ldA 32 (tm 22)),
  ⟨13, (some 24), (some ((some 19), false)), .callF 25 [(tm 23)], [10], false⟩,
  sg 14 25 19 false (.bin .neq 36 (tm 21) (tm 24)),
  sm 15 26 (.pick (tm 19) (.const (.bool true)) (tm 25))])
  (.cond (tm 26) (.seq (.reg [sm 0 4 (.mv (.const (.bool false)))])
  .ret) .skip))
  (.seq (.reg [sv 0 27 0,
  sm 1 28 (.len (.sl 34) (tm 27)),
  sm 2 29 (.fa 1 (tm 5)),
  sm 3 30 (.ldA 32 (tm 29)),
  sc 4 31 45 [(tm 28), (tm 30)],
  sm 5 6 (.alloc [.int .i64 0, .int .i64 0, .int .i64 0]),
  se 6 (.st 3 (tm 6) (tm 31))])
  (.seq (.reg [sm 0 32 (.ia (.arr 3 1) (tm 6) (.const (.int .i64 0))),
  sm 1 33 (.ld1 (tm 32)),
  sv 2 34 1,
  sm 3 35 (.bin .eql 3 (tm 33) (tm 34)),
  sv 4 36 35,
  sg 5 37 36 false (.ia (.arr 3 1) (tm 6) (.const (.int .i64 1))),
  sg 6 38 36 false (.ld1 (tm 37)),
  sg 7 39 36 false (.mv (tm 1)),
  sg 8 40 36 false (.bin .eql 3 (tm 38) (tm 39)),
  sm 9 41 (.pick (tm 36) (.const (.bool true)) (tm 40)),
  sv 10 42 41,
  sg 11 43 42 false (.ia (.arr 3 1) (tm 6) (.const (.int .i64 2))),
  sg 12 44 42 false (.ld1 (tm 43)),
  sg 13 45 42 false (.mv (tm 1)),
  sg 14 46 42 false (.bin .eql 3 (tm 44) (tm 45)),
  sm 15 47 (.pick (tm 42) (.const (.bool true)) (tm 46)),
  sv 16 4 47])
  .ret)))))
def r49 : List Mo := [.mv (tm 4)]
theorem c49_eq : compF Tryd.prog 49 = some c49 := by kernel_rfl
theorem r49_eq : compRs Tryd.prog 49 = some r49 := by kernel_rfl
/-! F50 slices.ContainsFunc[[]braid/api.SketchCell,braid/api.SketchCell] -/
def c50 : Cd := (.seq (.reg [sm 0 4 (.mv (.const (.bool false)))])
  (.seq (.reg [sv 0 5 0,
  sv 1 6 1,
  sc 2 7 67 [(tm 5), (tm 6)],
  sm 3 8 (.bin .geq 3 (tm 7) (.const (.int .i64 0))),
  sv 4 4 8])
  .ret))
def r50 : List Mo := [.mv (tm 4)]
theorem c50_eq : compF Tryd.prog 50 = some c50 := by kernel_rfl
theorem r50_eq : compRs Tryd.prog 50 = some r50 := by kernel_rfl
/-! F51 braid/sketch.Check$1 -/
def c51 : Cd := (.seq (.reg [sm 0 1 (.box (tm 0)),
  sm 1 2 (.mv (.const (.bool false)))])
  (.seq (.reg [sm 0 3 (.fa 0 (tm 1)),
  sm 1 4 (.ld1 (tm 3)),
  sc 2 5 52 [(tm 4)],
  sm 3 6 (.un .not (tm 5)),
  sv 4 2 6])
  .ret))
def r51 : List Mo := [.mv (tm 2)]
theorem c51_eq : compF Tryd.prog 51 = some c51 := by kernel_rfl
theorem r51_eq : compRs Tryd.prog 51 = some r51 := by kernel_rfl
/-! F52 braid/sketch.ranged -/
def c52 : Cd := (.seq (.reg [sm 0 2 (.mv (.const (.bool false)))])
  (.seq (.reg [sv 0 3 0,
  sm 1 4 (.bin .geq 2 (tm 3) (.const (.int .i64 (-1000000)))),
  sv 2 5 4,
  sg 3 6 5 true (.mv (tm 0)),
  sg 4 7 5 true (.bin .leq 2 (tm 6) (.const (.int .i64 1000000))),
  sm 5 8 (.pick (tm 5) (tm 7) (.const (.bool false))),
  sv 6 2 8])
  .ret))
def r52 : List Mo := [.mv (tm 2)]
theorem c52_eq : compF Tryd.prog 52 = some c52 := by kernel_rfl
theorem r52_eq : compRs Tryd.prog 52 = some r52 := by kernel_rfl
/-! F53 braid/braidref01.Of -/
def c53 : Cd := (.seq (.reg [sm 0 2 (.alloc (rep 32 (.int .u8 0)))])
  (.seq (.reg [sc 0 3 70 [],
  sm 1 4 (.bsl 1 [.int .u8 0] 0 []),
  sv 2 5 0,
  sm 3 6 (.app 1 1 (tm 4) (tm 5)),
  sv 4 7 0,
  sm 5 8 (.len (.sl 1) (tm 7)),
  sc 6 9 71 [(tm 8)],
  sm 7 10 (.app 1 1 (tm 6) (tm 9)),
  sc 8 11 69 [(tm 3), (tm 10)],
  sc 9 12 68 [(tm 11)],
  se 10 (.st 32 (tm 2) (tm 12))])
  .ret))
def r53 : List Mo := [.ldA 32 (tm 2)]
theorem c53_eq : compF Tryd.prog 53 = some c53 := by kernel_rfl
theorem r53_eq : compRs Tryd.prog 53 = some r53 := by kernel_rfl
/-! F54 braid/braidref39.number -/
def l54_0 : Cd := (.seq (.seq (.reg [sv 0 5 4,
  sv 1 6 0,
  sm 2 7 (.len (.sl 1) (tm 6)),
  sm 3 8 (.bin .lss 3 (tm 5) (tm 7))])
  (.cond (tm 8) .skip (.exit 0)))
  (.seq (.block 1 (.reg [sv 0 11 3,
  sm 1 12 (.bin .mul 36 (.const (.int .u64 256)) (tm 11)),
  sv 2 13 0,
  sv 3 14 4,
  sm 4 15 (.ia (.sl 1) (tm 13) (tm 14)),
  sm 5 16 (.ld1 (tm 15)),
  sm 6 17 (.cint .u64 (tm 16)),
  sm 7 18 (.bin .add 36 (tm 12) (tm 17)),
  sv 8 3 18]))
  (.reg [sv 0 9 4,
  sm 1 10 (.bin .add 3 (tm 9) (.const (.int .i64 1))),
  sv 2 4 10])))
def c54 : Cd := (.seq (.reg [sm 0 2 (.mv (.const (.int .u64 0)))])
  (.seq (.reg [sm 0 3 (.mv (.const (.int .u64 0)))])
  (.seq (.seq (.reg [sm 0 4 (.mv (.const (.int .i64 0)))])
  (.block 0 (.loop l54_0)))
  (.seq (.reg [sv 0 19 3,
  sv 1 2 19])
  .ret))))
def r54 : List Mo := [.mv (tm 2)]
theorem c54_eq : compF Tryd.prog 54 = some c54 := by kernel_rfl
theorem r54_eq : compRs Tryd.prog 54 = some r54 := by kernel_rfl
/-! F55 braid/braidref39.changed -/
def l55_0 : Cd := (.seq (.seq (.reg [sv 0 22 11,
  sm 1 23 (.bin .lss 3 (tm 22) (.const (.int .i64 3)))])
  (.cond (tm 23) .skip (.exit 0)))
  (.seq (.block 1 (.seq (.reg [sv 0 26 8,
  sv 1 27 11,
  sm 2 28 (.ia (.arr 3 1) (tm 9) (tm 27)),
  sm 3 29 (.ld1 (tm 28)),
  sm 4 30 (.ia (.sl 34) (tm 26) (tm 29)),
  sm 5 31 (.ldA 34 (tm 30)),
  sm 6 12 (.alloc ([.int .i64 0] ++ rep 32 (.int .u8 0) ++ [.int .u64 0])),
  se 7 (.st 34 (tm 12) (tm 31))])
  (.seq (.reg [sm 0 32 (.fa 0 (tm 12)),
  sm 1 33 (.ld1 (tm 32)),
  sv 2 34 2,
  sm 3 35 (.bin .add 2 (tm 33) (tm 34)),
  sm 4 36 (.fa 0 (tm 12)),
  se 5 (.st 1 (tm 36) (tm 35))])
  (.seq (.seq (.reg [sm 0 37 (.fa 0 (tm 12)),
  sm 1 38 (.ld1 (tm 37)),
  sm 2 39 (.bin .lss 2 (tm 38) (.const (.int .i64 (-1000000)))),
  sv 3 40 39,
  sg 4 41 40 false (.fa 0 (tm 12)),
  sg 5 42 40 false (.ld1 (tm 41)),
  sg 6 43 40 false (.bin .gtr 2 (tm 42) (.const (.int .i64 1000000))),
  sm 7 44 (.pick (tm 40) (.const (.bool true)) (tm 43))])
  (.cond (tm 44) (.seq (.reg [sm 0 6 (.mv (.const (.slice none 0 0))),
  sm 1 7 (.mv (.const (.bool false)))])
  .ret) .skip))
  (.seq (.reg [sm 0 45 (.fa 1 (tm 12)),
  sm 1 46 (.ldA 32 (tm 45)),
  sm 2 47 (.ldA 32 (tm 4)),
  sc 3 48 58 [(tm 46), (tm 47)],
  sm 4 49 (.fa 1 (tm 12)),
  se 5 (.st 32 (tm 49) (tm 48))])
  (.seq (.reg [sm 0 50 (.fa 33 (tm 12)),
  sm 1 51 (.ld1 (tm 50)),
  sv 2 52 10,
  sm 3 53 (.bin .xor 36 (tm 51) (tm 52)),
  sm 4 54 (.fa 33 (tm 12)),
  se 5 (.st 1 (tm 54) (tm 53))])
  (.reg [sv 0 55 8,
  sv 1 56 11,
  sm 2 57 (.ia (.arr 3 1) (tm 9) (tm 56)),
  sm 3 58 (.ld1 (tm 57)),
  sm 4 59 (.ldA 34 (tm 12)),
  sm 5 60 (.ia (.sl 34) (tm 55) (tm 58)),
  se 6 (.st 34 (tm 60) (tm 59))])))))))
  (.reg [sv 0 24 11,
  sm 1 25 (.bin .add 3 (tm 24) (.const (.int .i64 1))),
  sv 2 11 25])))
def c55 : Cd := (.seq (.reg [sm 0 4 (.box (tm 1)),
  sm 1 6 (.mv (.const (.slice none 0 0))),
  sm 2 7 (.mv (.const (.bool false)))])
  (.seq (.reg [sm 0 13 (.bsl 34 ([.int .i64 0] ++ rep 32 (.int .u8 0) ++ [.int .u64 0]) 0 []),
  sv 1 14 0,
  sm 2 15 (.app 34 48 (tm 13) (tm 14)),
  sv 3 8 15])
  (.seq (.reg [sv 0 16 0,
  sm 1 17 (.len (.sl 34) (tm 16)),
  sm 2 18 (.ldA 32 (tm 4)),
  sc 3 19 45 [(tm 17), (tm 18)],
  sm 4 9 (.alloc [.int .i64 0, .int .i64 0, .int .i64 0]),
  se 5 (.st 3 (tm 9) (tm 19))])
  (.seq (.reg [sm 0 20 (.ldA 32 (tm 4)),
  sc 1 21 25 [(tm 20)],
  sv 2 10 21])
  (.seq (.seq (.reg [sm 0 11 (.mv (.const (.int .i64 0)))])
  (.block 0 (.loop l55_0)))
  (.seq (.reg [sv 0 61 8,
  sv 1 6 61,
  sm 2 7 (.mv (.const (.bool true)))])
  .ret))))))
def r55 : List Mo := [.mv (tm 6), .mv (tm 7)]
theorem c55_eq : compF Tryd.prog 55 = some c55 := by kernel_rfl
theorem r55_eq : compRs Tryd.prog 55 = some r55 := by kernel_rfl
/-! F56 slices.Clone[[]braid/api.SketchCell,braid/api.SketchCell] -/
def c56 : Cd := (.seq (.reg [sm 0 2 (.mv (.const (.slice none 0 0)))])
  (.seq (.seq (.reg [sv 0 3 0,
  sm 1 4 (.bin .eql 22 (tm 3) (.const (.slice none 0 0)))])
  (.cond (tm 4) (.seq (.reg [sm 0 2 (.mv (.const (.slice none 0 0)))])
  .ret) .skip))
  (.seq (.reg [sm 0 5 (.bsl 34 ([.int .i64 0] ++ rep 32 (.int .u8 0) ++ [.int .u64 0]) 0 []),
  sv 1 6 0,
  sm 2 7 (.app 34 48 (tm 5) (tm 6)),
  sv 3 2 7])
  .ret)))
def r56 : List Mo := [.mv (tm 2)]
theorem c56_eq : compF Tryd.prog 56 = some c56 := by kernel_rfl
theorem r56_eq : compRs Tryd.prog 56 = some r56 := by kernel_rfl
/-! F57 braid/sketch.xor -/
def l57_0 : Cd := (.seq (.reg [sm 0 7 (.bin .lss 3 (tm 6) (.const (.int .i64 32)))])
  (.seq (.cond (tm 7) .skip (.exit 0))
  (.seq (.block 1 (.seq (.reg [sv 0 8 6,
  sv 1 5 8])
  (.reg [sv 0 9 5,
  sm 1 10 (.ia (.arr 32 1) (tm 2) (tm 9)),
  sm 2 11 (.ld1 (tm 10)),
  sv 3 12 5,
  sm 4 13 (.ia (.arr 32 1) (tm 3) (tm 12)),
  sm 5 14 (.ld1 (tm 13)),
  sm 6 15 (.bin .xor 5 (tm 11) (tm 14)),
  sm 7 16 (.ia (.arr 32 1) (tm 2) (tm 9)),
  se 8 (.st 1 (tm 16) (tm 15))])))
  (.reg [sm 0 17 (.bin .add 3 (tm 6) (.const (.int .i64 1))),
  sv 1 6 17]))))
def c57 : Cd := (.seq (.reg [sm 0 2 (.box (tm 0)),
  sm 1 3 (.box (tm 1)),
  sm 2 4 (.alloc (rep 32 (.int .u8 0)))])
  (.seq (.seq (.reg [sm 0 6 (.mv (.const (.int .i64 0)))])
  (.block 0 (.loop l57_0)))
  (.seq (.reg [sm 0 18 (.ldA 32 (tm 2)),
  se 1 (.st 32 (tm 4) (tm 18))])
  .ret)))
def r57 : List Mo := [.ldA 32 (tm 4)]
theorem c57_eq : compF Tryd.prog 57 = some c57 := by kernel_rfl
theorem r57_eq : compRs Tryd.prog 57 = some r57 := by kernel_rfl
/-! F58 braid/braidref39.mixed -/
def l58_0 : Cd := (.seq (.seq (.reg [sv 0 6 5,
  sm 1 7 (.bin .lss 3 (tm 6) (.const (.int .i64 32)))])
  (.cond (tm 7) .skip (.exit 0)))
  (.seq (.block 1 (.reg [sv 0 10 5,
  sm 1 11 (.ia (.arr 32 1) (tm 2) (tm 10)),
  sm 2 12 (.ld1 (tm 11)),
  sv 3 13 5,
  sm 4 14 (.ia (.arr 32 1) (tm 3) (tm 13)),
  sm 5 15 (.ld1 (tm 14)),
  sm 6 16 (.bin .xor 5 (tm 12) (tm 15)),
  sm 7 17 (.ia (.arr 32 1) (tm 2) (tm 10)),
  se 8 (.st 1 (tm 17) (tm 16))]))
  (.reg [sv 0 8 5,
  sm 1 9 (.bin .add 3 (tm 8) (.const (.int .i64 1))),
  sv 2 5 9])))
def c58 : Cd := (.seq (.reg [sm 0 2 (.box (tm 0)),
  sm 1 3 (.box (tm 1)),
  sm 2 4 (.alloc (rep 32 (.int .u8 0)))])
  (.seq (.seq (.reg [sm 0 5 (.mv (.const (.int .i64 0)))])
  (.block 0 (.loop l58_0)))
  (.seq (.reg [sm 0 18 (.ldA 32 (tm 2)),
  se 1 (.st 32 (tm 4) (tm 18))])
  .ret)))
def r58 : List Mo := [.ldA 32 (tm 4)]
theorem c58_eq : compF Tryd.prog 58 = some c58 := by kernel_rfl
theorem r58_eq : compRs Tryd.prog 58 = some r58 := by kernel_rfl
/-! F59 slices.SortFunc[[]braid/api.ID,braid/api.ID] -/
def c59 : Cd := (.seq (.reg [sv 0 5 0,
  sm 1 6 (.len (.sl 32) (tm 5)),
  sv 2 4 6])
  (.reg [sv 0 7 0,
  sv 1 8 4,
  sv 2 9 4,
  sm 3 10 (.cint .u64 (tm 9)),
  sc 4 11 73 [(tm 10)],
  sv 5 12 1,
  sc 6 13 72 [(tm 7), (.const (.int .i64 0)), (tm 8), (tm 11), (tm 12)]]))
def r59 : List Mo := []
theorem c59_eq : compF Tryd.prog 59 = some c59 := by kernel_rfl
theorem r59_eq : compRs Tryd.prog 59 = some r59 := by kernel_rfl
/-! F60 braid/sketch.compare -/
def c60 : Cd := (.seq (.reg [sm 0 2 (.box (tm 0)),
  sm 1 3 (.box (tm 1)),
  sm 2 4 (.mv (.const (.int .i64 0)))])
  (.seq (.reg [sm 0 5 (.slice (.arr 32 1) (tm 2) none none none),
  sm 1 6 (.slice (.arr 32 1) (tm 3) none none none),
  sc 2 7 74 [(tm 5), (tm 6)],
  sv 3 4 7])
  .ret))
def r60 : List Mo := [.mv (tm 4)]
theorem c60_eq : compF Tryd.prog 60 = some c60 := by kernel_rfl
theorem r60_eq : compRs Tryd.prog 60 = some r60 := by kernel_rfl
/-! F61 braid/braidref39.next -/
def l61_0 : Cd := (.seq (.seq (.reg [sv 0 6 5,
  sv 1 7 0,
  sm 2 8 (.len (.sl 34) (tm 7)),
  sm 3 9 (.bin .lss 3 (tm 6) (tm 8))])
  (.cond (tm 9) .skip (.exit 0)))
  (.seq (.block 1 (.seq (.reg [sv 0 12 0,
  sv 1 13 5,
  sc 2 14 49 [(tm 12), (tm 13)],
  sv 3 15 14,
  sg 4 16 15 true (.mv (tm 1)),
  sg 5 17 15 true (.mv (tm 0)),
  sg 6 18 15 true (.mv (tm 5)),
  sg 7 19 15 true (.ia (.sl 34) (tm 17) (tm 18)),
  sg 8 20 15 true (.fa 1 (tm 19)),
  sg 9 21 15 true (.ldA 32 (tm 20)),
  ⟨10, (some 22), (some ((some 15), true)), .callF 39 [(tm 16), (tm 21)], [], false⟩,
  sg 11 23 15 true (.un .not (tm 22)),
  sm 12 24 (.pick (tm 15) (tm 23) (.const (.bool false)))])
  (.cond (tm 24) (.seq (.reg [sv 0 25 5,
  sv 1 4 25])
  .ret) .skip)))
  (.reg [sv 0 10 5,
  sm 1 11 (.bin .add 3 (tm 10) (.const (.int .i64 1))),
  sv 2 5 11])))
def c61 : Cd := (.seq (.reg [sm 0 4 (.mv (.const (.int .i64 0)))])
  (.seq (.seq (.reg [sm 0 5 (.mv (.const (.int .i64 0)))])
  (.block 0 (.loop l61_0)))
  (.seq (.reg [sm 0 4 (.mv (.const (.int .i64 (-1))))])
  .ret)))
def r61 : List Mo := [.mv (tm 4)]
theorem c61_eq : compF Tryd.prog 61 = some c61 := by kernel_rfl
theorem r61_eq : compRs Tryd.prog 61 = some r61 := by kernel_rfl
/-! F62 braid/braidref39.with -/
def l62_0 : Cd := (.seq (.seq (.reg [sv 0 6 5,
  sv 1 7 0,
  sm 2 8 (.len (.sl 32) (tm 7)),
  sm 3 9 (.bin .lss 3 (tm 6) (tm 8)),
  sv 4 10 9,
  sg 5 11 10 true (.mv (tm 0)),
  sg 6 12 10 true (.mv (tm 5)),
  sg 7 13 10 true (.ia (.sl 32) (tm 11) (tm 12)),
  sg 8 14 10 true (.ldA 32 (tm 13)),
  sg 9 15 10 true (.ldA 32 (tm 3)),
  ⟨10, (some 16), (some ((some 10), true)), .callF 63 [(tm 14), (tm 15)], [], false⟩,
  sm 11 17 (.pick (tm 10) (tm 16) (.const (.bool false)))])
  (.cond (tm 17) .skip (.exit 0)))
  (.block 1 (.reg [sv 0 18 5,
  sm 1 19 (.bin .add 3 (tm 18) (.const (.int .i64 1))),
  sv 2 5 19])))
def c62 : Cd := (.seq (.reg [sm 0 3 (.box (tm 1)),
  sm 1 4 (.mv (.const (.slice none 0 0)))])
  (.seq (.reg [sm 0 5 (.mv (.const (.int .i64 0)))])
  (.seq (.block 0 (.loop l62_0))
  (.seq (.dreg [sm 0 20 (.bsl 32 (rep 32 (.int .u8 0)) 0 []),
  sv 1 21 0,
  sv 2 22 5,
  sm 3 23 (.slice (.sl 32) (tm 21) none (some (tm 22)) none),
  ⟨5, (some 25), none, .mo (.ldA 32 (tm 3)), [], true⟩,
  ⟨6, (some 26), none, .mo (.bsl 32 (rep 32 (.int .u8 0)) 1 [(0, (tm 25))]), [], true⟩,
  sv 8 28 0,
  sv 9 29 5,
  sm 10 30 (.slice (.sl 32) (tm 28) (some (tm 29)) none none),
  ⟨4, (some 24), none, .mo (.app 32 32 (tm 20) (tm 23)), [6, 5], false⟩,
  sm 7 27 (.app 32 32 (tm 24) (tm 26)),
  sm 11 31 (.app 32 32 (tm 27) (tm 30)),
  sv 12 4 31])
  .ret))))
def r62 : List Mo := [.mv (tm 4)]
theorem c62_eq : compF Tryd.prog 62 = some c62 := by kernel_rfl
theorem r62_eq : compRs Tryd.prog 62 = some r62 := by kernel_rfl
/-! F63 braid/braidref39.Less -/
def l63_0 : Cd := (.seq (.seq (.reg [sv 0 6 5,
  sm 1 7 (.bin .lss 3 (tm 6) (.const (.int .i64 32)))])
  (.cond (tm 7) .skip (.exit 0)))
  (.seq (.block 1 (.seq (.reg [sv 0 10 5,
  sm 1 11 (.ia (.arr 32 1) (tm 2) (tm 10)),
  sm 2 12 (.ld1 (tm 11)),
  sv 3 13 5,
  sm 4 14 (.ia (.arr 32 1) (tm 3) (tm 13)),
  sm 5 15 (.ld1 (tm 14)),
  sm 6 16 (.bin .neq 5 (tm 12) (tm 15))])
  (.cond (tm 16) (.seq (.reg [sv 0 17 5,
  sm 1 18 (.ia (.arr 32 1) (tm 2) (tm 17)),
  sm 2 19 (.ld1 (tm 18)),
  sv 3 20 5,
  sm 4 21 (.ia (.arr 32 1) (tm 3) (tm 20)),
  sm 5 22 (.ld1 (tm 21)),
  sm 6 23 (.bin .lss 5 (tm 19) (tm 22)),
  sv 7 4 23])
  .ret) .skip)))
  (.reg [sv 0 8 5,
  sm 1 9 (.bin .add 3 (tm 8) (.const (.int .i64 1))),
  sv 2 5 9])))
def c63 : Cd := (.seq (.reg [sm 0 2 (.box (tm 0)),
  sm 1 3 (.box (tm 1)),
  sm 2 4 (.mv (.const (.bool false)))])
  (.seq (.seq (.reg [sm 0 5 (.mv (.const (.int .i64 0)))])
  (.block 0 (.loop l63_0)))
  (.seq (.reg [sm 0 4 (.mv (.const (.bool false)))])
  .ret)))
def r63 : List Mo := [.mv (tm 4)]
theorem c63_eq : compF Tryd.prog 63 = some c63 := by kernel_rfl
theorem r63_eq : compRs Tryd.prog 63 = some r63 := by kernel_rfl
/-! F64 braid/braidref39.at -/
def l64_0 : Cd := (.seq (.seq (.reg [sv 0 10 8,
  sv 1 11 1,
  sm 2 12 (.len (.sl 32) (tm 11)),
  sm 3 13 (.bin .lss 3 (tm 10) (tm 12))])
  (.cond (tm 13) .skip (.exit 0)))
  (.seq (.block 1 (.seq (.reg [sv 0 16 0,
  sv 1 17 1,
  sv 2 18 8,
  sm 3 19 (.ia (.sl 32) (tm 17) (tm 18)),
  sm 4 20 (.ldA 32 (tm 19)),
  sc 5 21 45 [(tm 16), (tm 20)],
  sm 6 9 (.alloc [.int .i64 0, .int .i64 0, .int .i64 0]),
  se 7 (.st 3 (tm 9) (tm 21))])
  (.seq (.reg [sm 0 22 (.ia (.arr 3 1) (tm 9) (.const (.int .i64 0))),
  sm 1 23 (.ld1 (tm 22)),
  sv 2 24 2,
  sm 3 25 (.bin .eql 3 (tm 23) (tm 24)),
  sv 4 26 25,
  sg 5 27 26 false (.ia (.arr 3 1) (tm 9) (.const (.int .i64 1))),
  sg 6 28 26 false (.ld1 (tm 27)),
  sg 7 29 26 false (.mv (tm 2)),
  sg 8 30 26 false (.bin .eql 3 (tm 28) (tm 29)),
  sm 9 31 (.pick (tm 26) (.const (.bool true)) (tm 30)),
  sv 10 32 31,
  sg 11 33 32 false (.ia (.arr 3 1) (tm 9) (.const (.int .i64 2))),
  sg 12 34 32 false (.ld1 (tm 33)),
  sg 13 35 32 false (.mv (tm 2)),
  sg 14 36 32 false (.bin .eql 3 (tm 34) (tm 35)),
  sm 15 37 (.pick (tm 32) (.const (.bool true)) (tm 36))])
  (.cond (tm 37) (.reg [sv 0 38 7,
  sm 1 39 (.bin .add 3 (tm 38) (.const (.int .i64 1))),
  sv 2 7 39]) .skip))))
  (.reg [sv 0 14 8,
  sm 1 15 (.bin .add 3 (tm 14) (.const (.int .i64 1))),
  sv 2 8 15])))
def c64 : Cd := (.seq (.reg [sm 0 6 (.mv (.const (.int .i64 0)))])
  (.seq (.reg [sm 0 7 (.mv (.const (.int .i64 0)))])
  (.seq (.seq (.reg [sm 0 8 (.mv (.const (.int .i64 0)))])
  (.block 0 (.loop l64_0)))
  (.seq (.reg [sv 0 40 7,
  sv 1 6 40])
  .ret))))
def r64 : List Mo := [.mv (tm 6)]
theorem c64_eq : compF Tryd.prog 64 = some c64 := by kernel_rfl
theorem r64_eq : compRs Tryd.prog 64 = some r64 := by kernel_rfl
/-! F65 braid/digest.Pieces -/
def l65_0 : Cd := (.seq (.reg [sm 0 19 (.bin .lss 3 (tm 18) (tm 17))])
  (.seq (.cond (tm 19) .skip (.exit 0))
  (.seq (.block 1 (.seq (.reg [sm 0 20 (.ia (.sl 1) (tm 16) (tm 18)),
  sm 1 21 (.ld1 (tm 20)),
  sv 2 6 21])
  (.reg [sm 0 22 (.ldA 10 (tm 4)),
  sv 1 23 6,
  sc 2 24 78 [(tm 22), (tm 23)],
  se 3 (.st 10 (tm 4) (tm 24))])))
  (.reg [sm 0 25 (.bin .add 3 (tm 18) (.const (.int .i64 1))),
  sv 1 18 25]))))
def c65 : Cd := (.seq (.reg [sm 0 2 (.alloc (rep 32 (.int .u8 0))),
  sm 1 3 (.mv (.const (.int .i64 0)))])
  (.seq (.seq (.reg [sv 0 7 0,
  sm 1 8 (.len (.sl 1) (tm 7)),
  sm 2 9 (.bin .gtr 3 (tm 8) (.const (.int .i64 20))),
  sv 3 10 9,
  sg 4 11 10 false (.mv (tm 0)),
  ⟨5, (some 12), (some ((some 10), false)), .callF 75 [(tm 11), (.func 76)], [], false⟩,
  sm 6 13 (.pick (tm 10) (.const (.bool true)) (tm 12))])
  (.cond (tm 13) (.seq (.reg [sm 0 14 (.bld (rep 32 (.int .u8 0)) []),
  se 1 (.st 32 (tm 2) (tm 14)),
  sm 2 3 (.mv (.const (.int .i64 4)))])
  .ret) .skip))
  (.seq (.reg [sc 0 15 77 [],
  sm 1 4 (.alloc [.int .u32 0, .int .u32 0, .int .u32 0, .int .u32 0, .int .u32 0, .int .u32 0, .int .u32 0, .int .u32 0, .nilS, .int .i64 0]),
  se 2 (.st 10 (tm 4) (tm 15))])
  (.seq (.seq (.reg [sv 0 16 0,
  sm 1 17 (.len (.sl 1) (tm 16)),
  sm 2 18 (.mv (.const (.int .i64 0)))])
  (.block 0 (.loop l65_0)))
  (.seq (.reg [sm 0 26 (.ldA 10 (tm 4)),
  sc 1 27 79 [(tm 26)],
  se 2 (.st 32 (tm 2) (tm 27)),
  sm 3 3 (.mv (.const (.int .i64 0)))])
  .ret)))))
def r65 : List Mo := [.ldA 32 (tm 2), .mv (tm 3)]
theorem c65_eq : compF Tryd.prog 65 = some c65 := by kernel_rfl
theorem r65_eq : compRs Tryd.prog 65 = some r65 := by kernel_rfl
/-! F66 slices.Index[[]int,int] -/
def l66_0 : Cd := (.seq (.reg [sm 0 9 (.bin .lss 3 (tm 8) (tm 7))])
  (.seq (.cond (tm 9) .skip (.exit 0))
  (.seq (.block 1 (.seq (.reg [sv 0 10 8,
  sv 1 5 10])
  (.seq (.reg [sv 0 11 1,
  sv 1 12 0,
  sv 2 13 5,
  sm 3 14 (.ia (.sl 1) (tm 12) (tm 13)),
  sm 4 15 (.ld1 (tm 14)),
  sm 5 16 (.bin .eql 3 (tm 11) (tm 15))])
  (.cond (tm 16) (.seq (.reg [sv 0 17 5,
  sv 1 4 17])
  .ret) .skip))))
  (.reg [sm 0 18 (.bin .add 3 (tm 8) (.const (.int .i64 1))),
  sv 1 8 18]))))
def c66 : Cd := (.seq (.reg [sm 0 4 (.mv (.const (.int .i64 0)))])
  (.seq (.seq (.reg [sv 0 6 0,
  sm 1 7 (.len (.sl 1) (tm 6)),
  sm 2 8 (.mv (.const (.int .i64 0)))])
  (.block 0 (.loop l66_0)))
  (.seq (.reg [sm 0 4 (.mv (.const (.int .i64 (-1))))])
  .ret)))
def r66 : List Mo := [.mv (tm 4)]
theorem c66_eq : compF Tryd.prog 66 = some c66 := by kernel_rfl
theorem r66_eq : compRs Tryd.prog 66 = some r66 := by kernel_rfl
/-! F67 slices.IndexFunc[[]braid/api.SketchCell,braid/api.SketchCell] -/
def l67_0 : Cd := (.seq (.reg [sm 0 9 (.bin .lss 3 (tm 8) (tm 7))])
  (.seq (.cond (tm 9) .skip (.exit 0))
  (.seq (.block 1 (.seq (.reg [sv 0 10 8,
  sv 1 5 10])
  (.seq (.reg [sv 0 11 1,
  sv 1 12 0,
  sv 2 13 5,
  sm 3 14 (.ia (.sl 34) (tm 12) (tm 13)),
  sm 4 15 (.ldA 34 (tm 14)),
  ⟨5, (some 16), none, .callV (tm 11) [(tm 15)], [], false⟩])
  (.cond (tm 16) (.seq (.reg [sv 0 17 5,
  sv 1 4 17])
  .ret) .skip))))
  (.reg [sm 0 18 (.bin .add 3 (tm 8) (.const (.int .i64 1))),
  sv 1 8 18]))))
def c67 : Cd := (.seq (.reg [sm 0 4 (.mv (.const (.int .i64 0)))])
  (.seq (.seq (.reg [sv 0 6 0,
  sm 1 7 (.len (.sl 34) (tm 6)),
  sm 2 8 (.mv (.const (.int .i64 0)))])
  (.block 0 (.loop l67_0)))
  (.seq (.reg [sm 0 4 (.mv (.const (.int .i64 (-1))))])
  .ret)))
def r67 : List Mo := [.mv (tm 4)]
theorem c67_eq : compF Tryd.prog 67 = some c67 := by kernel_rfl
theorem r67_eq : compRs Tryd.prog 67 = some r67 := by kernel_rfl
/-! F68 braid/braidref01.written -/
def l68_0 : Cd := (.seq (.seq (.reg [sv 0 5 4,
  sm 1 6 (.bin .lss 3 (tm 5) (.const (.int .i64 32)))])
  (.cond (tm 6) .skip (.exit 0)))
  (.seq (.block 1 (.reg [sv 0 9 4,
  sv 1 10 4,
  sm 2 11 (.bin .quo 3 (tm 10) (.const (.int .i64 4))),
  sm 3 12 (.ia (.arr 8 1) (tm 1) (tm 11)),
  sm 4 13 (.ld1 (tm 12)),
  sv 5 14 4,
  sm 6 15 (.bin .rem 3 (tm 14) (.const (.int .i64 4))),
  sm 7 16 (.bin .mul 3 (.const (.int .i64 8)) (tm 15)),
  sm 8 17 (.bin .sub 3 (.const (.int .i64 24)) (tm 16)),
  sm 9 18 (.bin .shr 105 (tm 13) (tm 17)),
  sm 10 19 (.cint .u8 (tm 18)),
  sm 11 20 (.ia (.arr 32 1) (tm 3) (tm 9)),
  se 12 (.st 1 (tm 20) (tm 19))]))
  (.reg [sv 0 7 4,
  sm 1 8 (.bin .add 3 (tm 7) (.const (.int .i64 1))),
  sv 2 4 8])))
def c68 : Cd := (.seq (.reg [sm 0 1 (.box (tm 0)),
  sm 1 2 (.alloc (rep 32 (.int .u8 0)))])
  (.seq (.reg [sm 0 3 (.alloc (rep 32 (.int .u8 0)))])
  (.seq (.seq (.reg [sm 0 4 (.mv (.const (.int .i64 0)))])
  (.block 0 (.loop l68_0)))
  (.seq (.reg [sm 0 21 (.ldA 32 (tm 3)),
  se 1 (.st 32 (tm 2) (tm 21))])
  .ret))))
def r68 : List Mo := [.ldA 32 (tm 2)]
theorem c68_eq : compF Tryd.prog 68 = some c68 := by kernel_rfl
theorem r68_eq : compRs Tryd.prog 68 = some r68 := by kernel_rfl
/-! F69 braid/braidref01.blocks -/
def l69_0 : Cd := (.seq (.seq (.reg [sv 0 6 5,
  sm 1 7 (.bin .add 3 (tm 6) (.const (.int .i64 64))),
  sv 2 8 1,
  sm 3 9 (.len (.sl 1) (tm 8)),
  sm 4 10 (.bin .leq 3 (tm 7) (tm 9))])
  (.cond (tm 10) .skip (.exit 0)))
  (.seq (.block 1 (.reg [sm 0 13 (.ldA 8 (tm 2)),
  sv 1 14 1,
  sv 2 15 5,
  sv 3 16 5,
  sm 4 17 (.bin .add 3 (tm 16) (.const (.int .i64 64))),
  sm 5 18 (.slice (.sl 1) (tm 14) (some (tm 15)) (some (tm 17)) none),
  sc 6 19 80 [(tm 13), (tm 18)],
  se 7 (.st 8 (tm 2) (tm 19))]))
  (.reg [sv 0 11 5,
  sm 1 12 (.bin .add 3 (tm 11) (.const (.int .i64 64))),
  sv 2 5 12])))
def c69 : Cd := (.seq (.reg [sm 0 2 (.box (tm 0)),
  sm 1 4 (.alloc [.int .u32 0, .int .u32 0, .int .u32 0, .int .u32 0, .int .u32 0, .int .u32 0, .int .u32 0, .int .u32 0])])
  (.seq (.seq (.reg [sm 0 5 (.mv (.const (.int .i64 0)))])
  (.block 0 (.loop l69_0)))
  (.seq (.reg [sm 0 20 (.ldA 8 (tm 2)),
  se 1 (.st 8 (tm 4) (tm 20))])
  .ret)))
def r69 : List Mo := [.ldA 8 (tm 4)]
theorem c69_eq : compF Tryd.prog 69 = some c69 := by kernel_rfl
theorem r69_eq : compRs Tryd.prog 69 = some r69 := by kernel_rfl
/-! F70 braid/braidref01.First -/
def c70 : Cd := (.seq (.reg [sm 0 0 (.alloc [.int .u32 0, .int .u32 0, .int .u32 0, .int .u32 0, .int .u32 0, .int .u32 0, .int .u32 0, .int .u32 0])])
  (.seq (.reg [sm 0 1 (.bld [.int .u32 0, .int .u32 0, .int .u32 0, .int .u32 0, .int .u32 0, .int .u32 0, .int .u32 0, .int .u32 0] [(0, 1, (.const (.int .u32 1779033703))), (1, 1, (.const (.int .u32 3144134277))), (2, 1, (.const (.int .u32 1013904242))), (3, 1, (.const (.int .u32 2773480762))), (4, 1, (.const (.int .u32 1359893119))), (5, 1, (.const (.int .u32 2600822924))), (6, 1, (.const (.int .u32 528734635))), (7, 1, (.const (.int .u32 1541459225)))]),
  se 1 (.st 8 (tm 0) (tm 1))])
  .ret))
def r70 : List Mo := [.ldA 8 (tm 0)]
theorem c70_eq : compF Tryd.prog 70 = some c70 := by kernel_rfl
theorem r70_eq : compRs Tryd.prog 70 = some r70 := by kernel_rfl
/-! F71 braid/braidref01.tail -/
def l71_0 : Cd := (.seq (.seq (.reg [sv 0 6 0,
  sv 1 7 3,
  sm 2 8 (.len (.sl 1) (tm 7)),
  sm 3 9 (.bin .add 3 (tm 6) (tm 8)),
  sm 4 10 (.bin .add 3 (tm 9) (.const (.int .i64 8))),
  sm 5 11 (.bin .rem 3 (tm 10) (.const (.int .i64 64))),
  sm 6 12 (.bin .neq 3 (tm 11) (.const (.int .i64 0)))])
  (.cond (tm 12) .skip (.exit 0)))
  (.block 1 (.reg [sv 0 13 3,
  sm 1 14 (.bsl 1 [.int .u8 0] 1 [(0, (.const (.int .u8 0)))]),
  sm 2 15 (.app 1 1 (tm 13) (tm 14)),
  sv 3 3 15])))
def l71_1 : Cd := (.seq (.seq (.reg [sv 0 16 4,
  sm 1 17 (.bin .geq 3 (tm 16) (.const (.int .i64 0)))])
  (.cond (tm 17) .skip (.exit 2)))
  (.seq (.block 3 (.reg [sv 0 20 3,
  sv 1 21 0,
  sm 2 22 (.cint .u64 (tm 21)),
  sm 3 23 (.bin .mul 36 (.const (.int .u64 8)) (tm 22)),
  sv 4 24 4,
  sm 5 25 (.bin .mul 3 (.const (.int .i64 8)) (tm 24)),
  sm 6 26 (.bin .shr 36 (tm 23) (tm 25)),
  sm 7 27 (.cint .u8 (tm 26)),
  sm 8 28 (.bsl 1 [.int .u8 0] 1 [(0, (tm 27))]),
  sm 9 29 (.app 1 1 (tm 20) (tm 28)),
  sv 10 3 29]))
  (.reg [sv 0 18 4,
  sm 1 19 (.bin .sub 3 (tm 18) (.const (.int .i64 1))),
  sv 2 4 19])))
def c71 : Cd := (.seq (.reg [sm 0 2 (.mv (.const (.slice none 0 0)))])
  (.seq (.reg [sm 0 5 (.bsl 1 [.int .u8 0] 1 [(0, (.const (.int .u8 128)))]),
  sv 1 3 5])
  (.seq (.block 0 (.loop l71_0))
  (.seq (.seq (.reg [sm 0 4 (.mv (.const (.int .i64 7)))])
  (.block 2 (.loop l71_1)))
  (.seq (.reg [sv 0 30 3,
  sv 1 2 30])
  .ret)))))
def r71 : List Mo := [.mv (tm 2)]
theorem c71_eq : compF Tryd.prog 71 = some c71 := by kernel_rfl
theorem r71_eq : compRs Tryd.prog 71 = some r71 := by kernel_rfl
/-! F72 slices.pdqsortCmpFunc[braid/api.ID] -/
def l72_0 : Cd := (.block 1 (.seq (.reg [sv 0 21 2,
  sv 1 22 1,
  sm 2 23 (.bin .sub 3 (tm 21) (tm 22)),
  sv 3 12 23])
  (.seq (.seq (.reg [sv 0 24 12,
  sm 1 25 (.bin .leq 3 (tm 24) (.const (.int .i64 12)))])
  (.cond (tm 25) (.seq (.reg [sv 0 26 0,
  sv 1 27 1,
  sv 2 28 2,
  sv 3 29 4,
  sc 4 30 81 [(tm 26), (tm 27), (tm 28), (tm 29)]])
  .ret) .skip))
  (.seq (.seq (.reg [sv 0 31 3,
  sm 1 32 (.bin .eql 3 (tm 31) (.const (.int .i64 0)))])
  (.cond (tm 32) (.seq (.reg [sv 0 33 0,
  sv 1 34 1,
  sv 2 35 2,
  sv 3 36 4,
  sc 4 37 82 [(tm 33), (tm 34), (tm 35), (tm 36)]])
  .ret) .skip))
  (.seq (.seq (.reg [sv 0 38 10,
  sm 1 39 (.un .not (tm 38))])
  (.cond (tm 39) (.seq (.reg [sv 0 40 0,
  sv 1 41 1,
  sv 2 42 2,
  sv 3 43 4,
  sc 4 44 83 [(tm 40), (tm 41), (tm 42), (tm 43)]])
  (.reg [sv 0 45 3,
  sm 1 46 (.bin .sub 3 (tm 45) (.const (.int .i64 1))),
  sv 2 3 46])) .skip))
  (.seq (.reg [sv 0 48 0,
  sv 1 49 1,
  sv 2 50 2,
  sv 3 51 4,
  sc 4 52 84 [(tm 48), (tm 49), (tm 50), (tm 51)],
  sv 5 47 52,
  sm 6 53 (.ext (tm 47) 0),
  sm 7 54 (.ext (tm 47) 1),
  sv 8 13 53,
  sv 9 14 54])
  (.seq (.seq (.reg [sv 0 55 14,
  sm 1 56 (.bin .eql 121 (tm 55) (.const (.int .i64 2)))])
  (.cond (tm 56) (.seq (.reg [sv 0 57 0,
  sv 1 58 1,
  sv 2 59 2,
  sv 3 60 4,
  sc 4 61 85 [(tm 57), (tm 58), (tm 59), (tm 60)]])
  (.seq (.reg [sv 0 62 2,
  sm 1 63 (.bin .sub 3 (tm 62) (.const (.int .i64 1))),
  sv 2 64 13,
  sv 3 65 1,
  sm 4 66 (.bin .sub 3 (tm 64) (tm 65)),
  sm 5 67 (.bin .sub 3 (tm 63) (tm 66)),
  sv 6 13 67])
  (.reg [sm 0 14 (.mv (.const (.int .i64 1)))]))) .skip))
  (.seq (.seq (.reg [sv 0 68 10,
  sv 1 69 68,
  sg 2 70 69 true (.mv (tm 11)),
  sm 3 71 (.pick (tm 69) (tm 70) (.const (.bool false))),
  sv 4 72 71,
  sg 5 73 72 true (.mv (tm 14)),
  sg 6 74 72 true (.bin .eql 121 (tm 73) (.const (.int .i64 1))),
  sm 7 75 (.pick (tm 72) (tm 74) (.const (.bool false)))])
  (.cond (tm 75) (.seq (.reg [sv 0 76 0,
  sv 1 77 1,
  sv 2 78 2,
  sv 3 79 4,
  sc 4 80 86 [(tm 76), (tm 77), (tm 78), (tm 79)]])
  (.cond (tm 80) .ret .skip)) .skip))
  (.seq (.seq (.reg [sv 0 81 1,
  sm 1 82 (.bin .gtr 3 (tm 81) (.const (.int .i64 0))),
  sv 2 83 82,
  sg 3 84 83 true (.mv (tm 4)),
  sg 4 85 83 true (.mv (tm 0)),
  sg 5 86 83 true (.mv (tm 1)),
  sg 6 87 83 true (.bin .sub 3 (tm 86) (.const (.int .i64 1))),
  sg 7 88 83 true (.ia (.sl 32) (tm 85) (tm 87)),
  sg 8 89 83 true (.ldA 32 (tm 88)),
  sg 9 90 83 true (.mv (tm 0)),
  sg 10 91 83 true (.mv (tm 13)),
  sg 11 92 83 true (.ia (.sl 32) (tm 90) (tm 91)),
  sg 12 93 83 true (.ldA 32 (tm 92)),
  ⟨13, (some 94), (some ((some 83), true)), .callV (tm 84) [(tm 89), (tm 93)], [], false⟩,
  sg 14 95 83 true (.bin .lss 3 (tm 94) (.const (.int .i64 0))),
  sg 15 96 83 true (.un .not (tm 95)),
  sm 16 97 (.pick (tm 83) (tm 96) (.const (.bool false)))])
  (.cond (tm 97) (.seq (.reg [sv 0 98 0,
  sv 1 99 1,
  sv 2 100 2,
  sv 3 101 13,
  sv 4 102 4,
  sc 5 103 87 [(tm 98), (tm 99), (tm 100), (tm 101), (tm 102)],
  sv 6 15 103])
  (.seq (.reg [sv 0 104 15,
  sv 1 1 104])
  (.exit 1))) .skip))
  (.seq (.reg [sv 0 106 0,
  sv 1 107 1,
  sv 2 108 2,
  sv 3 109 13,
  sv 4 110 4,
  sc 5 111 88 [(tm 106), (tm 107), (tm 108), (tm 109), (tm 110)],
  sv 6 105 111,
  sm 7 112 (.ext (tm 105) 0),
  sm 8 113 (.ext (tm 105) 1),
  sv 9 16 112,
  sv 10 17 113])
  (.seq (.reg [sv 0 114 17,
  sv 1 11 114])
  (.seq (.reg [sv 0 115 16,
  sv 1 116 1,
  sm 2 117 (.bin .sub 3 (tm 115) (tm 116)),
  sv 3 118 2,
  sv 4 119 16,
  sm 5 120 (.bin .sub 3 (tm 118) (tm 119)),
  sv 6 18 117,
  sv 7 19 120])
  (.seq (.reg [sv 0 121 12,
  sm 1 122 (.bin .quo 3 (tm 121) (.const (.int .i64 8))),
  sv 2 20 122])
  (.seq (.reg [sv 0 123 18,
  sv 1 124 19,
  sm 2 125 (.bin .lss 3 (tm 123) (tm 124))])
  (.cond (tm 125) (.seq (.reg [sv 0 126 18,
  sv 1 127 20,
  sm 2 128 (.bin .geq 3 (tm 126) (tm 127)),
  sv 3 10 128])
  (.seq (.reg [sv 0 129 0,
  sv 1 130 1,
  sv 2 131 16,
  sv 3 132 3,
  sv 4 133 4,
  sc 5 134 72 [(tm 129), (tm 130), (tm 131), (tm 132), (tm 133)]])
  (.reg [sv 0 135 16,
  sm 1 136 (.bin .add 3 (tm 135) (.const (.int .i64 1))),
  sv 2 1 136]))) (.seq (.reg [sv 0 137 19,
  sv 1 138 20,
  sm 2 139 (.bin .geq 3 (tm 137) (tm 138)),
  sv 3 10 139])
  (.seq (.reg [sv 0 140 0,
  sv 1 141 16,
  sm 2 142 (.bin .add 3 (tm 141) (.const (.int .i64 1))),
  sv 3 143 2,
  sv 4 144 3,
  sv 5 145 4,
  sc 6 146 72 [(tm 140), (tm 142), (tm 143), (tm 144), (tm 145)]])
  (.reg [sv 0 147 16,
  sv 1 2 147]))))))))))))))))))
def c72 : Cd := (.seq (.reg [sm 0 10 (.mv (.const (.bool true)))])
  (.seq (.reg [sm 0 11 (.mv (.const (.bool true)))])
  (.block 0 (.loop l72_0))))
def r72 : List Mo := []
theorem c72_eq : compF Tryd.prog 72 = some c72 := by kernel_rfl
theorem r72_eq : compRs Tryd.prog 72 = some r72 := by kernel_rfl
/-! F73 math/bits.Len -/
def c73 : Cd := (.seq (.reg [sm 0 2 (.mv (.const (.int .i64 0)))])
  (.seq (.cond (.const (.bool false)) (.seq (.reg [sv 0 3 0,
  sm 1 4 (.cint .u32 (tm 3)),
  sc 2 5 89 [(tm 4)],
  sv 3 2 5])
  .ret) .skip)
  (.seq (.reg [sv 0 6 0,
  sc 1 7 90 [(tm 6)],
  sv 2 2 7])
  .ret)))
def r73 : List Mo := [.mv (tm 2)]
theorem c73_eq : compF Tryd.prog 73 = some c73 := by kernel_rfl
theorem r73_eq : compRs Tryd.prog 73 = some r73 := by kernel_rfl
/-! F74 slices.Compare[[]byte,byte] -/
def l74_0 : Cd := (.seq (.reg [sm 0 12 (.bin .lss 3 (tm 11) (tm 10))])
  (.seq (.cond (tm 12) .skip (.exit 0))
  (.seq (.block 1 (.seq (.reg [sv 0 13 11,
  sm 1 14 (.ia (.sl 1) (tm 9) (tm 11)),
  sm 2 15 (.ld1 (tm 14)),
  sv 3 5 13,
  sv 4 6 15])
  (.seq (.seq (.reg [sv 0 16 5,
  sv 1 17 1,
  sm 2 18 (.len (.sl 1) (tm 17)),
  sm 3 19 (.bin .geq 3 (tm 16) (tm 18))])
  (.cond (tm 19) (.seq (.reg [sm 0 4 (.mv (.const (.int .i64 1)))])
  .ret) .skip))
  (.seq (.reg [sv 0 20 1,
  sv 1 21 5,
  sm 2 22 (.ia (.sl 1) (tm 20) (tm 21)),
  sm 3 23 (.ld1 (tm 22)),
  sv 4 7 23])
  (.seq (.reg [sv 0 24 6,
  sv 1 25 7,
  sc 2 26 91 [(tm 24), (tm 25)],
  sv 3 8 26])
  (.seq (.reg [sv 0 27 8,
  sm 1 28 (.bin .neq 3 (tm 27) (.const (.int .i64 0)))])
  (.cond (tm 28) (.seq (.reg [sv 0 29 8,
  sv 1 4 29])
  .ret) .skip)))))))
  (.reg [sm 0 30 (.bin .add 3 (tm 11) (.const (.int .i64 1))),
  sv 1 11 30]))))
def c74 : Cd := (.seq (.reg [sm 0 4 (.mv (.const (.int .i64 0)))])
  (.seq (.seq (.reg [sv 0 9 0,
  sm 1 10 (.len (.sl 1) (tm 9)),
  sm 2 11 (.mv (.const (.int .i64 0)))])
  (.block 0 (.loop l74_0)))
  (.seq (.seq (.reg [sv 0 31 0,
  sm 1 32 (.len (.sl 1) (tm 31)),
  sv 2 33 1,
  sm 3 34 (.len (.sl 1) (tm 33)),
  sm 4 35 (.bin .lss 3 (tm 32) (tm 34))])
  (.cond (tm 35) (.seq (.reg [sm 0 4 (.mv (.const (.int .i64 (-1))))])
  .ret) .skip))
  (.seq (.reg [sm 0 4 (.mv (.const (.int .i64 0)))])
  .ret))))
def r74 : List Mo := [.mv (tm 4)]
theorem c74_eq : compF Tryd.prog 74 = some c74 := by kernel_rfl
theorem r74_eq : compRs Tryd.prog 74 = some r74 := by kernel_rfl
/-! F75 slices.ContainsFunc[[][]byte,[]byte] -/
def c75 : Cd := (.seq (.reg [sm 0 4 (.mv (.const (.bool false)))])
  (.seq (.reg [sv 0 5 0,
  sv 1 6 1,
  sc 2 7 92 [(tm 5), (tm 6)],
  sm 3 8 (.bin .geq 3 (tm 7) (.const (.int .i64 0))),
  sv 4 4 8])
  .ret))
def r75 : List Mo := [.mv (tm 4)]
theorem c75_eq : compF Tryd.prog 75 = some c75 := by kernel_rfl
theorem r75_eq : compRs Tryd.prog 75 = some r75 := by kernel_rfl
/-! F76 braid/digest.Pieces$1 -/
def c76 : Cd := (.seq (.reg [sm 0 2 (.mv (.const (.bool false)))])
  (.seq (.reg [sv 0 3 0,
  sm 1 4 (.len (.sl 1) (tm 3)),
  sm 2 5 (.bin .gtr 3 (tm 4) (.const (.int .i64 10000))),
  sv 3 2 5])
  .ret))
def r76 : List Mo := [.mv (tm 2)]
theorem c76_eq : compF Tryd.prog 76 = some c76 := by kernel_rfl
theorem r76_eq : compRs Tryd.prog 76 = some r76 := by kernel_rfl
/-! F77 braid/digest.Start -/
def c77 : Cd := (.seq (.reg [sm 0 0 (.alloc [.int .u32 0, .int .u32 0, .int .u32 0, .int .u32 0, .int .u32 0, .int .u32 0, .int .u32 0, .int .u32 0, .nilS, .int .i64 0])])
  (.seq (.reg [sm 0 1 (.bld [.int .u32 0, .int .u32 0, .int .u32 0, .int .u32 0, .int .u32 0, .int .u32 0, .int .u32 0, .int .u32 0] [(0, 1, (.const (.int .u32 1779033703))), (1, 1, (.const (.int .u32 3144134277))), (2, 1, (.const (.int .u32 1013904242))), (3, 1, (.const (.int .u32 2773480762))), (4, 1, (.const (.int .u32 1359893119))), (5, 1, (.const (.int .u32 2600822924))), (6, 1, (.const (.int .u32 528734635))), (7, 1, (.const (.int .u32 1541459225)))]),
  sm 1 2 (.bld [.int .u32 0, .int .u32 0, .int .u32 0, .int .u32 0, .int .u32 0, .int .u32 0, .int .u32 0, .int .u32 0, .nilS, .int .i64 0] [(0, 8, (tm 1))]),
  se 2 (.st 10 (tm 0) (tm 2))])
  .ret))
def r77 : List Mo := [.ldA 10 (tm 0)]
theorem c77_eq : compF Tryd.prog 77 = some c77 := by kernel_rfl
theorem r77_eq : compRs Tryd.prog 77 = some r77 := by kernel_rfl
/-! F78 braid/digest.feed -/
def l78_0 : Cd := (.seq (.seq (.reg [sv 0 11 5,
  sm 1 12 (.len (.sl 1) (tm 11)),
  sm 2 13 (.bin .geq 3 (tm 12) (.const (.int .i64 64)))])
  (.cond (tm 13) .skip (.exit 0)))
  (.block 1 (.seq (.reg [sm 0 14 (.fa 0 (tm 2)),
  sv 1 15 5,
  sc 2 16 94 [(tm 14), (tm 15)]])
  (.reg [sv 0 17 5,
  sm 1 18 (.slice (.sl 1) (tm 17) (some (.const (.int .i64 64))) none none),
  sv 2 5 18]))))
def c78 : Cd := (.seq (.reg [sm 0 2 (.box (tm 0)),
  sm 1 4 (.alloc [.int .u32 0, .int .u32 0, .int .u32 0, .int .u32 0, .int .u32 0, .int .u32 0, .int .u32 0, .int .u32 0, .nilS, .int .i64 0])])
  (.seq (.reg [sm 0 6 (.fa 8 (tm 2)),
  sm 1 7 (.ld1 (tm 6)),
  sv 2 8 1,
  sm 3 9 (.bsl 1 [.nilS] 2 [(0, (tm 7)), (1, (tm 8))]),
  sc 4 10 93 [(tm 9)],
  sv 5 5 10])
  (.seq (.block 0 (.loop l78_0))
  (.seq (.dreg [sm 0 19 (.fa 9 (tm 2)),
  ⟨1, (some 20), none, .mo (.ld1 (tm 19)), [], true⟩,
  sv 2 21 1,
  sm 3 22 (.len (.sl 1) (tm 21)),
  sm 4 23 (.bin .add 3 (tm 20) (tm 22)),
  sv 5 24 5,
  ⟨6, (some 25), none, .callF 95 [(tm 24)], [1], false⟩,
  sm 7 26 (.fa 9 (tm 2)),
  se 8 (.st 1 (tm 26) (tm 23)),
  sm 9 27 (.fa 8 (tm 2)),
  se 10 (.st 1 (tm 27) (tm 25))])
  (.seq (.reg [sm 0 28 (.ldA 10 (tm 2)),
  se 1 (.st 10 (tm 4) (tm 28))])
  .ret)))))
def r78 : List Mo := [.ldA 10 (tm 4)]
theorem c78_eq : compF Tryd.prog 78 = some c78 := by kernel_rfl
theorem r78_eq : compRs Tryd.prog 78 = some r78 := by kernel_rfl
/-! F79 braid/digest.end -/
def l79_0 : Cd := (.seq (.seq (.reg [sv 0 19 5,
  sm 1 20 (.bin .geq 3 (tm 19) (.const (.int .i64 0)))])
  (.cond (tm 20) .skip (.exit 0)))
  (.seq (.block 1 (.reg [sv 0 23 4,
  sv 1 24 3,
  sv 2 25 5,
  sm 3 26 (.bin .shr 36 (tm 24) (tm 25)),
  sm 4 27 (.cint .u8 (tm 26)),
  sm 5 28 (.bsl 1 [.int .u8 0] 1 [(0, (tm 27))]),
  sm 6 29 (.app 1 1 (tm 23) (tm 28)),
  sv 7 4 29]))
  (.reg [sv 0 21 5,
  sm 1 22 (.bin .sub 3 (tm 21) (.const (.int .i64 8))),
  sv 2 5 22])))
def l79_1 : Cd := (.seq (.reg [sm 0 35 (.bin .lss 3 (tm 34) (.const (.int .i64 8)))])
  (.seq (.cond (tm 35) .skip (.exit 2))
  (.seq (.block 3 (.seq (.reg [sv 0 36 34,
  sm 1 37 (.ix1 8 1 (tm 33) (tm 34)),
  sv 2 6 36,
  sv 3 7 37])
  (.reg [sv 0 38 6,
  sm 1 39 (.bin .mul 3 (.const (.int .i64 4)) (tm 38)),
  sv 2 40 6,
  sm 3 41 (.bin .mul 3 (.const (.int .i64 4)) (tm 40)),
  sm 4 42 (.bin .add 3 (tm 41) (.const (.int .i64 1))),
  sv 5 43 6,
  sm 6 44 (.bin .mul 3 (.const (.int .i64 4)) (tm 43)),
  sm 7 45 (.bin .add 3 (tm 44) (.const (.int .i64 2))),
  sv 8 46 6,
  sm 9 47 (.bin .mul 3 (.const (.int .i64 4)) (tm 46)),
  sm 10 48 (.bin .add 3 (tm 47) (.const (.int .i64 3))),
  sv 11 49 7,
  sm 12 50 (.bin .shr 105 (tm 49) (.const (.int .u64 24))),
  sm 13 51 (.cint .u8 (tm 50)),
  sv 14 52 7,
  sm 15 53 (.bin .shr 105 (tm 52) (.const (.int .u64 16))),
  sm 16 54 (.cint .u8 (tm 53)),
  sv 17 55 7,
  sm 18 56 (.bin .shr 105 (tm 55) (.const (.int .u64 8))),
  sm 19 57 (.cint .u8 (tm 56)),
  sv 20 58 7,
  sm 21 59 (.cint .u8 (tm 58)),
  sm 22 60 (.ia (.arr 32 1) (tm 2) (tm 39)),
  se 23 (.st 1 (tm 60) (tm 51)),
  sm 24 61 (.ia (.arr 32 1) (tm 2) (tm 42)),
  se 25 (.st 1 (tm 61) (tm 54)),
  sm 26 62 (.ia (.arr 32 1) (tm 2) (tm 45)),
  se 27 (.st 1 (tm 62) (tm 57)),
  sm 28 63 (.ia (.arr 32 1) (tm 2) (tm 48)),
  se 29 (.st 1 (tm 63) (tm 59))])))
  (.reg [sm 0 64 (.bin .add 3 (tm 34) (.const (.int .i64 1))),
  sv 1 34 64]))))
def c79 : Cd := (.seq (.reg [sm 0 1 (.box (tm 0)),
  sm 1 2 (.alloc (rep 32 (.int .u8 0)))])
  (.seq (.reg [sm 0 8 (.fa 9 (tm 1)),
  sm 1 9 (.ld1 (tm 8)),
  sm 2 10 (.cint .u64 (tm 9)),
  sm 3 11 (.bin .mul 36 (tm 10) (.const (.int .u64 8))),
  sv 4 3 11])
  (.seq (.reg [sm 0 12 (.bsl 1 [.int .u8 0] 1 [(0, (.const (.int .u8 128)))]),
  sm 1 13 (.fa 9 (tm 1)),
  sm 2 14 (.ld1 (tm 13)),
  sm 3 15 (.bin .rem 3 (tm 14) (.const (.int .i64 64))),
  sm 4 16 (.bin .sub 3 (.const (.int .i64 119)) (tm 15)),
  sm 5 17 (.bin .rem 3 (tm 16) (.const (.int .i64 64))),
  sm 6 18 (.appZ 1 1 [.int .u8 0] (tm 12) (tm 17)),
  sv 7 4 18])
  (.seq (.seq (.reg [sm 0 5 (.mv (.const (.int .i64 56)))])
  (.block 0 (.loop l79_0)))
  (.seq (.seq (.reg [sm 0 30 (.ldA 10 (tm 1)),
  sv 1 31 4,
  sc 2 32 78 [(tm 30), (tm 31)],
  sm 3 33 (.fldA 8 0 (tm 32)),
  sm 4 34 (.mv (.const (.int .i64 0)))])
  (.block 2 (.loop l79_1)))
  (.seq (.reg [sm 0 65 (.ldA 32 (tm 2)),
  se 1 (.st 32 (tm 2) (tm 65))])
  .ret))))))
def r79 : List Mo := [.ldA 32 (tm 2)]
theorem c79_eq : compF Tryd.prog 79 = some c79 := by kernel_rfl
theorem r79_eq : compRs Tryd.prog 79 = some r79 := by kernel_rfl
/-! F80 braid/braidref01.Ground -/
def l80_0 : Cd := (.seq (.seq (.reg [sv 0 22 6,
  sm 1 23 (.bin .lss 3 (tm 22) (.const (.int .i64 16)))])
  (.cond (tm 23) .skip (.exit 0)))
  (.seq (.block 1 (.reg [sv 0 26 5,
  sv 1 27 1,
  sv 2 28 6,
  sm 3 29 (.bin .mul 3 (.const (.int .i64 4)) (tm 28)),
  sm 4 30 (.ia (.sl 1) (tm 27) (tm 29)),
  sm 5 31 (.ld1 (tm 30)),
  sm 6 32 (.cint .u32 (tm 31)),
  sm 7 33 (.bin .mul 105 (tm 32) (.const (.int .u32 256))),
  sv 8 34 1,
  sv 9 35 6,
  sm 10 36 (.bin .mul 3 (.const (.int .i64 4)) (tm 35)),
  sm 11 37 (.bin .add 3 (tm 36) (.const (.int .i64 1))),
  sm 12 38 (.ia (.sl 1) (tm 34) (tm 37)),
  sm 13 39 (.ld1 (tm 38)),
  sm 14 40 (.cint .u32 (tm 39)),
  sm 15 41 (.bin .add 105 (tm 33) (tm 40)),
  sm 16 42 (.bin .mul 105 (tm 41) (.const (.int .u32 256))),
  sv 17 43 1,
  sv 18 44 6,
  sm 19 45 (.bin .mul 3 (.const (.int .i64 4)) (tm 44)),
  sm 20 46 (.bin .add 3 (tm 45) (.const (.int .i64 2))),
  sm 21 47 (.ia (.sl 1) (tm 43) (tm 46)),
  sm 22 48 (.ld1 (tm 47)),
  sm 23 49 (.cint .u32 (tm 48)),
  sm 24 50 (.bin .add 105 (tm 42) (tm 49)),
  sm 25 51 (.bin .mul 105 (tm 50) (.const (.int .u32 256))),
  sv 26 52 1,
  sv 27 53 6,
  sm 28 54 (.bin .mul 3 (.const (.int .i64 4)) (tm 53)),
  sm 29 55 (.bin .add 3 (tm 54) (.const (.int .i64 3))),
  sm 30 56 (.ia (.sl 1) (tm 52) (tm 55)),
  sm 31 57 (.ld1 (tm 56)),
  sm 32 58 (.cint .u32 (tm 57)),
  sm 33 59 (.bin .add 105 (tm 51) (tm 58)),
  sm 34 60 (.bsl 1 [.int .u32 0] 1 [(0, (tm 59))]),
  sm 35 61 (.app 1 4 (tm 26) (tm 60)),
  sv 36 5 61]))
  (.reg [sv 0 24 6,
  sm 1 25 (.bin .add 3 (tm 24) (.const (.int .i64 1))),
  sv 2 6 25])))
def l80_1 : Cd := (.seq (.seq (.reg [sv 0 62 7,
  sm 1 63 (.bin .lss 3 (tm 62) (.const (.int .i64 64)))])
  (.cond (tm 63) .skip (.exit 2)))
  (.seq (.block 3 (.seq (.reg [sv 0 66 5,
  sv 1 67 7,
  sm 2 68 (.bin .sub 3 (tm 67) (.const (.int .i64 15))),
  sm 3 69 (.ia (.sl 1) (tm 66) (tm 68)),
  sm 4 70 (.ld1 (tm 69)),
  sv 5 71 5,
  sv 6 72 7,
  sm 7 73 (.bin .sub 3 (tm 72) (.const (.int .i64 2))),
  sm 8 74 (.ia (.sl 1) (tm 71) (tm 73)),
  sm 9 75 (.ld1 (tm 74)),
  sv 10 8 70,
  sv 11 9 75])
  (.dreg [sv 0 76 5,
  sv 1 77 5,
  sv 2 78 7,
  sm 3 79 (.bin .sub 3 (tm 78) (.const (.int .i64 16))),
  sm 4 80 (.ia (.sl 1) (tm 77) (tm 79)),
  ⟨5, (some 81), none, .mo (.ld1 (tm 80)), [], true⟩,
  sv 6 82 5,
  sv 7 83 7,
  sm 8 84 (.bin .sub 3 (tm 83) (.const (.int .i64 7))),
  sm 9 85 (.ia (.sl 1) (tm 82) (tm 84)),
  ⟨10, (some 86), none, .mo (.ld1 (tm 85)), [], true⟩,
  sm 11 87 (.bin .add 105 (tm 81) (tm 86)),
  sv 12 88 8,
  sv 14 90 8,
  sv 17 93 8,
  sm 18 94 (.bin .shr 105 (tm 93) (.const (.int .u64 3))),
  sv 21 97 9,
  sv 23 99 9,
  sv 26 102 9,
  sm 27 103 (.bin .shr 105 (tm 102) (.const (.int .u64 10))),
  ⟨13, (some 89), none, .callF 96 [(tm 88), (.const (.int .i64 7))], [10, 5], false⟩,
  ⟨15, (some 91), none, .callF 96 [(tm 90), (.const (.int .i64 18))], [10, 5], false⟩,
  sm 16 92 (.bin .xor 105 (tm 89) (tm 91)),
  sm 19 95 (.bin .xor 105 (tm 92) (tm 94)),
  sm 20 96 (.bin .add 105 (tm 87) (tm 95)),
  ⟨22, (some 98), none, .callF 96 [(tm 97), (.const (.int .i64 17))], [10, 5], false⟩,
  ⟨24, (some 100), none, .callF 96 [(tm 99), (.const (.int .i64 19))], [10, 5], false⟩,
  sm 25 101 (.bin .xor 105 (tm 98) (tm 100)),
  sm 28 104 (.bin .xor 105 (tm 101) (tm 103)),
  sm 29 105 (.bin .add 105 (tm 96) (tm 104)),
  sm 30 106 (.bsl 1 [.int .u32 0] 1 [(0, (tm 105))]),
  sm 31 107 (.app 1 4 (tm 76) (tm 106)),
  sv 32 5 107])))
  (.reg [sv 0 64 7,
  sm 1 65 (.bin .add 3 (tm 64) (.const (.int .i64 1))),
  sv 2 7 65])))
def l80_2 : Cd := (.seq (.seq (.reg [sv 0 110 12,
  sm 1 111 (.bin .lss 3 (tm 110) (.const (.int .i64 64)))])
  (.cond (tm 111) .skip (.exit 4)))
  (.seq (.block 5 (.seq (.reg [sm 0 114 (.ia (.arr 8 1) (tm 11) (.const (.int .i64 0))),
  sm 1 115 (.ld1 (tm 114)),
  sm 2 116 (.ia (.arr 8 1) (tm 11) (.const (.int .i64 1))),
  sm 3 117 (.ld1 (tm 116)),
  sm 4 118 (.ia (.arr 8 1) (tm 11) (.const (.int .i64 2))),
  sm 5 119 (.ld1 (tm 118)),
  sm 6 120 (.ia (.arr 8 1) (tm 11) (.const (.int .i64 4))),
  sm 7 121 (.ld1 (tm 120)),
  sm 8 122 (.ia (.arr 8 1) (tm 11) (.const (.int .i64 5))),
  sm 9 123 (.ld1 (tm 122)),
  sm 10 124 (.ia (.arr 8 1) (tm 11) (.const (.int .i64 6))),
  sm 11 125 (.ld1 (tm 124)),
  sv 12 13 115,
  sv 13 14 117,
  sv 14 15 119,
  sv 15 16 121,
  sv 16 17 123,
  sv 17 18 125])
  (.seq (.dreg [sm 0 126 (.ia (.arr 8 1) (tm 11) (.const (.int .i64 7))),
  ⟨1, (some 127), none, .mo (.ld1 (tm 126)), [], true⟩,
  sv 2 128 16,
  sv 4 130 16,
  sv 7 133 16,
  sv 11 137 16,
  sv 12 138 17,
  sm 13 139 (.bin .and 105 (tm 137) (tm 138)),
  sv 14 140 16,
  sm 15 141 (.un .xor (tm 140)),
  sv 16 142 18,
  sm 17 143 (.bin .and 105 (tm 141) (tm 142)),
  sm 18 144 (.bin .xor 105 (tm 139) (tm 143)),
  sv 20 146 10,
  sv 21 147 12,
  sm 22 148 (.ia (.sl 1) (tm 146) (tm 147)),
  ⟨23, (some 149), none, .mo (.ld1 (tm 148)), [], true⟩,
  sv 25 151 5,
  sv 26 152 12,
  sm 27 153 (.ia (.sl 1) (tm 151) (tm 152)),
  ⟨28, (some 154), none, .mo (.ld1 (tm 153)), [], true⟩,
  ⟨3, (some 129), none, .callF 96 [(tm 128), (.const (.int .i64 6))], [28, 23, 1], false⟩,
  ⟨5, (some 131), none, .callF 96 [(tm 130), (.const (.int .i64 11))], [28, 23, 1], false⟩,
  sm 6 132 (.bin .xor 105 (tm 129) (tm 131)),
  ⟨8, (some 134), none, .callF 96 [(tm 133), (.const (.int .i64 25))], [28, 23, 1], false⟩,
  sm 9 135 (.bin .xor 105 (tm 132) (tm 134)),
  sm 10 136 (.bin .add 105 (tm 127) (tm 135)),
  sm 19 145 (.bin .add 105 (tm 136) (tm 144)),
  sm 24 150 (.bin .add 105 (tm 145) (tm 149)),
  sm 29 155 (.bin .add 105 (tm 150) (tm 154)),
  sv 30 19 155])
  (.seq (.reg [sv 0 156 13,
  sc 1 157 96 [(tm 156), (.const (.int .i64 2))],
  sv 2 158 13,
  sc 3 159 96 [(tm 158), (.const (.int .i64 13))],
  sm 4 160 (.bin .xor 105 (tm 157) (tm 159)),
  sv 5 161 13,
  sc 6 162 96 [(tm 161), (.const (.int .i64 22))],
  sm 7 163 (.bin .xor 105 (tm 160) (tm 162)),
  sv 8 164 13,
  sv 9 165 14,
  sm 10 166 (.bin .and 105 (tm 164) (tm 165)),
  sv 11 167 13,
  sv 12 168 15,
  sm 13 169 (.bin .and 105 (tm 167) (tm 168)),
  sm 14 170 (.bin .xor 105 (tm 166) (tm 169)),
  sv 15 171 14,
  sv 16 172 15,
  sm 17 173 (.bin .and 105 (tm 171) (tm 172)),
  sm 18 174 (.bin .xor 105 (tm 170) (tm 173)),
  sm 19 175 (.bin .add 105 (tm 163) (tm 174)),
  sv 20 20 175])
  (.reg [sv 0 176 19,
  sv 1 177 20,
  sm 2 178 (.bin .add 105 (tm 176) (tm 177)),
  sv 3 179 13,
  sv 4 180 14,
  sv 5 181 15,
  sm 6 182 (.ia (.arr 8 1) (tm 11) (.const (.int .i64 3))),
  sm 7 183 (.ld1 (tm 182)),
  sv 8 184 19,
  sm 9 185 (.bin .add 105 (tm 183) (tm 184)),
  sv 10 186 16,
  sv 11 187 17,
  sv 12 188 18,
  sm 13 189 (.bld [.int .u32 0, .int .u32 0, .int .u32 0, .int .u32 0, .int .u32 0, .int .u32 0, .int .u32 0, .int .u32 0] [(0, 1, (tm 178)), (1, 1, (tm 179)), (2, 1, (tm 180)), (3, 1, (tm 181)), (4, 1, (tm 185)), (5, 1, (tm 186)), (6, 1, (tm 187)), (7, 1, (tm 188))]),
  se 14 (.st 8 (tm 11) (tm 189))])))))
  (.reg [sv 0 112 12,
  sm 1 113 (.bin .add 3 (tm 112) (.const (.int .i64 1))),
  sv 2 12 113])))
def l80_3 : Cd := (.seq (.seq (.reg [sv 0 190 21,
  sm 1 191 (.bin .lss 3 (tm 190) (.const (.int .i64 8)))])
  (.cond (tm 191) .skip (.exit 6)))
  (.seq (.block 7 (.reg [sv 0 194 21,
  sm 1 195 (.ia (.arr 8 1) (tm 2) (tm 194)),
  sm 2 196 (.ld1 (tm 195)),
  sv 3 197 21,
  sm 4 198 (.ia (.arr 8 1) (tm 11) (tm 197)),
  sm 5 199 (.ld1 (tm 198)),
  sm 6 200 (.bin .add 105 (tm 196) (tm 199)),
  sm 7 201 (.ia (.arr 8 1) (tm 2) (tm 194)),
  se 8 (.st 1 (tm 201) (tm 200))]))
  (.reg [sv 0 192 21,
  sm 1 193 (.bin .add 3 (tm 192) (.const (.int .i64 1))),
  sv 2 21 193])))
def c80 : Cd := (.seq (.reg [sm 0 2 (.box (tm 0)),
  sm 1 4 (.alloc [.int .u32 0, .int .u32 0, .int .u32 0, .int .u32 0, .int .u32 0, .int .u32 0, .int .u32 0, .int .u32 0])])
  (.seq (.reg [sm 0 5 (.mv (.const (.slice none 0 0)))])
  (.seq (.seq (.reg [sm 0 6 (.mv (.const (.int .i64 0)))])
  (.block 0 (.loop l80_0)))
  (.seq (.seq (.reg [sm 0 7 (.mv (.const (.int .i64 16)))])
  (.block 2 (.loop l80_1)))
  (.seq (.reg [sc 0 108 97 [],
  sv 1 10 108])
  (.seq (.reg [sm 0 109 (.ldA 8 (tm 2)),
  sm 1 11 (.alloc [.int .u32 0, .int .u32 0, .int .u32 0, .int .u32 0, .int .u32 0, .int .u32 0, .int .u32 0, .int .u32 0]),
  se 2 (.st 8 (tm 11) (tm 109))])
  (.seq (.seq (.reg [sm 0 12 (.mv (.const (.int .i64 0)))])
  (.block 4 (.loop l80_2)))
  (.seq (.seq (.reg [sm 0 21 (.mv (.const (.int .i64 0)))])
  (.block 6 (.loop l80_3)))
  (.seq (.reg [sm 0 202 (.ldA 8 (tm 2)),
  se 1 (.st 8 (tm 4) (tm 202))])
  .ret)))))))))
def r80 : List Mo := [.ldA 8 (tm 4)]
theorem c80_eq : compF Tryd.prog 80 = some c80 := by kernel_rfl
theorem r80_eq : compRs Tryd.prog 80 = some r80 := by kernel_rfl
/-! F81 slices.insertionSortCmpFunc[braid/api.ID] -/
def l81_0 : Cd := (.seq (.seq (.reg [sv 0 18 9,
  sv 1 19 1,
  sm 2 20 (.bin .gtr 3 (tm 18) (tm 19)),
  sv 3 21 20,
  sg 4 22 21 true (.mv (tm 3)),
  sg 5 23 21 true (.mv (tm 0)),
  sg 6 24 21 true (.mv (tm 9)),
  sg 7 25 21 true (.ia (.sl 32) (tm 23) (tm 24)),
  sg 8 26 21 true (.ldA 32 (tm 25)),
  sg 9 27 21 true (.mv (tm 0)),
  sg 10 28 21 true (.mv (tm 9)),
  sg 11 29 21 true (.bin .sub 3 (tm 28) (.const (.int .i64 1))),
  sg 12 30 21 true (.ia (.sl 32) (tm 27) (tm 29)),
  sg 13 31 21 true (.ldA 32 (tm 30)),
  ⟨14, (some 32), (some ((some 21), true)), .callV (tm 22) [(tm 26), (tm 31)], [], false⟩,
  sg 15 33 21 true (.bin .lss 3 (tm 32) (.const (.int .i64 0))),
  sm 16 34 (.pick (tm 21) (tm 33) (.const (.bool false)))])
  (.cond (tm 34) .skip (.exit 2)))
  (.seq (.block 3 (.reg [sv 0 37 0,
  sv 1 38 9,
  sv 2 39 0,
  sv 3 40 9,
  sm 4 41 (.bin .sub 3 (tm 40) (.const (.int .i64 1))),
  sv 5 42 0,
  sv 6 43 9,
  sm 7 44 (.bin .sub 3 (tm 43) (.const (.int .i64 1))),
  sm 8 45 (.ia (.sl 32) (tm 42) (tm 44)),
  sm 9 46 (.ldA 32 (tm 45)),
  sv 10 47 0,
  sv 11 48 9,
  sm 12 49 (.ia (.sl 32) (tm 47) (tm 48)),
  sm 13 50 (.ldA 32 (tm 49)),
  sm 14 51 (.ia (.sl 32) (tm 37) (tm 38)),
  se 15 (.st 32 (tm 51) (tm 46)),
  sm 16 52 (.ia (.sl 32) (tm 39) (tm 41)),
  se 17 (.st 32 (tm 52) (tm 50))]))
  (.reg [sv 0 35 9,
  sm 1 36 (.bin .sub 3 (tm 35) (.const (.int .i64 1))),
  sv 2 9 36])))
def l81_1 : Cd := (.seq (.seq (.reg [sv 0 12 8,
  sv 1 13 2,
  sm 2 14 (.bin .lss 3 (tm 12) (tm 13))])
  (.cond (tm 14) .skip (.exit 0)))
  (.seq (.block 1 (.seq (.reg [sv 0 17 8,
  sv 1 9 17])
  (.block 2 (.loop l81_0))))
  (.reg [sv 0 15 8,
  sm 1 16 (.bin .add 3 (tm 15) (.const (.int .i64 1))),
  sv 2 8 16])))
def c81 : Cd := (.seq (.reg [sv 0 10 1,
  sm 1 11 (.bin .add 3 (tm 10) (.const (.int .i64 1))),
  sv 2 8 11])
  (.block 0 (.loop l81_1)))
def r81 : List Mo := []
theorem c81_eq : compF Tryd.prog 81 = some c81 := by kernel_rfl
theorem r81_eq : compRs Tryd.prog 81 = some r81 := by kernel_rfl
/-! F82 slices.heapSortCmpFunc[braid/api.ID] -/
def l82_0 : Cd := (.seq (.seq (.reg [sv 0 20 11,
  sm 1 21 (.bin .geq 3 (tm 20) (.const (.int .i64 0)))])
  (.cond (tm 21) .skip (.exit 0)))
  (.seq (.block 1 (.reg [sv 0 24 0,
  sv 1 25 11,
  sv 2 26 10,
  sv 3 27 8,
  sv 4 28 3,
  sc 5 29 98 [(tm 24), (tm 25), (tm 26), (tm 27), (tm 28)]]))
  (.reg [sv 0 22 11,
  sm 1 23 (.bin .sub 3 (tm 22) (.const (.int .i64 1))),
  sv 2 11 23])))
def l82_1 : Cd := (.seq (.seq (.reg [sv 0 32 12,
  sm 1 33 (.bin .geq 3 (tm 32) (.const (.int .i64 0)))])
  (.cond (tm 33) .skip (.exit 2)))
  (.seq (.block 3 (.seq (.reg [sv 0 36 0,
  sv 1 37 8,
  sv 2 38 0,
  sv 3 39 8,
  sv 4 40 12,
  sm 5 41 (.bin .add 3 (tm 39) (tm 40)),
  sv 6 42 0,
  sv 7 43 8,
  sv 8 44 12,
  sm 9 45 (.bin .add 3 (tm 43) (tm 44)),
  sm 10 46 (.ia (.sl 32) (tm 42) (tm 45)),
  sm 11 47 (.ldA 32 (tm 46)),
  sv 12 48 0,
  sv 13 49 8,
  sm 14 50 (.ia (.sl 32) (tm 48) (tm 49)),
  sm 15 51 (.ldA 32 (tm 50)),
  sm 16 52 (.ia (.sl 32) (tm 36) (tm 37)),
  se 17 (.st 32 (tm 52) (tm 47)),
  sm 18 53 (.ia (.sl 32) (tm 38) (tm 41)),
  se 19 (.st 32 (tm 53) (tm 51))])
  (.reg [sv 0 54 0,
  sv 1 55 9,
  sv 2 56 12,
  sv 3 57 8,
  sv 4 58 3,
  sc 5 59 98 [(tm 54), (tm 55), (tm 56), (tm 57), (tm 58)]])))
  (.reg [sv 0 34 12,
  sm 1 35 (.bin .sub 3 (tm 34) (.const (.int .i64 1))),
  sv 2 12 35])))
def c82 : Cd := (.seq (.reg [sv 0 13 1,
  sv 1 8 13])
  (.seq (.reg [sm 0 9 (.mv (.const (.int .i64 0)))])
  (.seq (.reg [sv 0 14 2,
  sv 1 15 1,
  sm 2 16 (.bin .sub 3 (tm 14) (tm 15)),
  sv 3 10 16])
  (.seq (.seq (.reg [sv 0 17 10,
  sm 1 18 (.bin .sub 3 (tm 17) (.const (.int .i64 1))),
  sm 2 19 (.bin .quo 3 (tm 18) (.const (.int .i64 2))),
  sv 3 11 19])
  (.block 0 (.loop l82_0)))
  (.seq (.reg [sv 0 30 10,
  sm 1 31 (.bin .sub 3 (tm 30) (.const (.int .i64 1))),
  sv 2 12 31])
  (.block 2 (.loop l82_1)))))))
def r82 : List Mo := []
theorem c82_eq : compF Tryd.prog 82 = some c82 := by kernel_rfl
theorem r82_eq : compRs Tryd.prog 82 = some r82 := by kernel_rfl
/-! F83 slices.breakPatternsCmpFunc[braid/api.ID] -/
def l83_0 : Cd := (.seq (.seq (.reg [sv 0 28 11,
  sv 1 29 1,
  sv 2 30 8,
  sm 3 31 (.bin .quo 3 (tm 30) (.const (.int .i64 4))),
  sm 4 32 (.bin .mul 3 (tm 31) (.const (.int .i64 2))),
  sm 5 33 (.bin .add 3 (tm 29) (tm 32)),
  sm 6 34 (.bin .add 3 (tm 33) (.const (.int .i64 1))),
  sm 7 35 (.bin .leq 3 (tm 28) (tm 34))])
  (.cond (tm 35) .skip (.exit 0)))
  (.seq (.block 1 (.seq (.reg [sc 0 38 100 [(tm 9)],
  sv 1 39 10,
  sm 2 40 (.bin .sub 74 (tm 39) (.const (.int .u64 1))),
  sm 3 41 (.bin .and 74 (tm 38) (tm 40)),
  sm 4 42 (.cint .i64 (tm 41)),
  sv 5 12 42])
  (.seq (.seq (.reg [sv 0 43 12,
  sv 1 44 8,
  sm 2 45 (.bin .geq 3 (tm 43) (tm 44))])
  (.cond (tm 45) (.reg [sv 0 46 12,
  sv 1 47 8,
  sm 2 48 (.bin .sub 3 (tm 46) (tm 47)),
  sv 3 12 48]) .skip))
  (.reg [sv 0 49 0,
  sv 1 50 11,
  sv 2 51 0,
  sv 3 52 1,
  sv 4 53 12,
  sm 5 54 (.bin .add 3 (tm 52) (tm 53)),
  sv 6 55 0,
  sv 7 56 1,
  sv 8 57 12,
  sm 9 58 (.bin .add 3 (tm 56) (tm 57)),
  sm 10 59 (.ia (.sl 32) (tm 55) (tm 58)),
  sm 11 60 (.ldA 32 (tm 59)),
  sv 12 61 0,
  sv 13 62 11,
  sm 14 63 (.ia (.sl 32) (tm 61) (tm 62)),
  sm 15 64 (.ldA 32 (tm 63)),
  sm 16 65 (.ia (.sl 32) (tm 49) (tm 50)),
  se 17 (.st 32 (tm 65) (tm 60)),
  sm 18 66 (.ia (.sl 32) (tm 51) (tm 54)),
  se 19 (.st 32 (tm 66) (tm 64))]))))
  (.reg [sv 0 36 11,
  sm 1 37 (.bin .add 3 (tm 36) (.const (.int .i64 1))),
  sv 2 11 37])))
def c83 : Cd := (.seq (.reg [sv 0 13 2,
  sv 1 14 1,
  sm 2 15 (.bin .sub 3 (tm 13) (tm 14)),
  sv 3 8 15])
  (.seq (.reg [sv 0 16 8,
  sm 1 17 (.bin .geq 3 (tm 16) (.const (.int .i64 8)))])
  (.cond (tm 17) (.seq (.reg [sv 0 18 8,
  sm 1 19 (.cint .u64 (tm 18)),
  sm 2 9 (.alloc [.int .u64 0]),
  se 3 (.st 1 (tm 9) (tm 19))])
  (.seq (.reg [sv 0 20 8,
  sc 1 21 99 [(tm 20)],
  sv 2 10 21])
  (.seq (.reg [sv 0 22 1,
  sv 1 23 8,
  sm 2 24 (.bin .quo 3 (tm 23) (.const (.int .i64 4))),
  sm 3 25 (.bin .mul 3 (tm 24) (.const (.int .i64 2))),
  sm 4 26 (.bin .add 3 (tm 22) (tm 25)),
  sm 5 27 (.bin .sub 3 (tm 26) (.const (.int .i64 1))),
  sv 6 11 27])
  (.block 0 (.loop l83_0))))) .skip)))
def r83 : List Mo := []
theorem c83_eq : compF Tryd.prog 83 = some c83 := by kernel_rfl
theorem r83_eq : compRs Tryd.prog 83 = some r83 := by kernel_rfl
/-! F84 slices.choosePivotCmpFunc[braid/api.ID] -/
def c84 : Cd := (.seq (.reg [sm 0 8 (.mv (.const (.int .i64 0))),
  sm 1 9 (.mv (.const (.int .i64 0)))])
  (.seq (.reg [sv 0 15 2,
  sv 1 16 1,
  sm 2 17 (.bin .sub 3 (tm 15) (tm 16)),
  sv 3 10 17])
  (.seq (.reg [sm 0 11 (.alloc [.int .i64 0])])
  (.seq (.reg [sv 0 18 1,
  sv 1 19 10,
  sm 2 20 (.bin .quo 3 (tm 19) (.const (.int .i64 4))),
  sm 3 21 (.bin .mul 3 (tm 20) (.const (.int .i64 1))),
  sm 4 22 (.bin .add 3 (tm 18) (tm 21)),
  sv 5 12 22])
  (.seq (.reg [sv 0 23 1,
  sv 1 24 10,
  sm 2 25 (.bin .quo 3 (tm 24) (.const (.int .i64 4))),
  sm 3 26 (.bin .mul 3 (tm 25) (.const (.int .i64 2))),
  sm 4 27 (.bin .add 3 (tm 23) (tm 26)),
  sv 5 13 27])
  (.seq (.reg [sv 0 28 1,
  sv 1 29 10,
  sm 2 30 (.bin .quo 3 (tm 29) (.const (.int .i64 4))),
  sm 3 31 (.bin .mul 3 (tm 30) (.const (.int .i64 3))),
  sm 4 32 (.bin .add 3 (tm 28) (tm 31)),
  sv 5 14 32])
  (.seq (.seq (.reg [sv 0 33 10,
  sm 1 34 (.bin .geq 3 (tm 33) (.const (.int .i64 8)))])
  (.cond (tm 34) (.seq (.seq (.reg [sv 0 35 10,
  sm 1 36 (.bin .geq 3 (tm 35) (.const (.int .i64 50)))])
  (.cond (tm 36) (.seq (.reg [sv 0 37 0,
  sv 1 38 12,
  sv 2 39 3,
  sc 3 40 101 [(tm 37), (tm 38), (tm 11), (tm 39)],
  sv 4 12 40])
  (.seq (.reg [sv 0 41 0,
  sv 1 42 13,
  sv 2 43 3,
  sc 3 44 101 [(tm 41), (tm 42), (tm 11), (tm 43)],
  sv 4 13 44])
  (.reg [sv 0 45 0,
  sv 1 46 14,
  sv 2 47 3,
  sc 3 48 101 [(tm 45), (tm 46), (tm 11), (tm 47)],
  sv 4 14 48]))) .skip))
  (.reg [sv 0 49 0,
  sv 1 50 12,
  sv 2 51 13,
  sv 3 52 14,
  sv 4 53 3,
  sc 5 54 102 [(tm 49), (tm 50), (tm 51), (tm 52), (tm 11), (tm 53)],
  sv 6 13 54])) .skip))
  (.seq (.reg [sm 0 55 (.ld1 (tm 11))])
  (.block 0 (.seq (.reg [sm 0 58 (.bin .eql 3 (tm 55) (.const (.int .i64 0))),
  sv 1 57 58])
  (.cond (tm 57) (.seq (.reg [sv 0 59 13,
  sv 1 8 59,
  sm 2 9 (.mv (.const (.int .i64 1)))])
  .ret) (.seq (.reg [sm 0 61 (.bin .eql 3 (tm 55) (.const (.int .i64 12))),
  sv 1 60 61])
  (.cond (tm 60) (.seq (.reg [sv 0 62 13,
  sv 1 8 62,
  sm 2 9 (.mv (.const (.int .i64 2)))])
  .ret) (.seq (.reg [sv 0 56 13,
  sv 1 8 56,
  sm 2 9 (.mv (.const (.int .i64 0)))])
  .ret))))))))))))))
def r84 : List Mo := [.mv (tm 8), .mv (tm 9)]
theorem c84_eq : compF Tryd.prog 84 = some c84 := by kernel_rfl
theorem r84_eq : compRs Tryd.prog 84 = some r84 := by kernel_rfl
/-! F85 slices.reverseRangeCmpFunc[braid/api.ID] -/
def l85_0 : Cd := (.seq (.seq (.reg [sv 0 13 8,
  sv 1 14 9,
  sm 2 15 (.bin .lss 3 (tm 13) (tm 14))])
  (.cond (tm 15) .skip (.exit 0)))
  (.block 1 (.seq (.reg [sv 0 16 0,
  sv 1 17 8,
  sv 2 18 0,
  sv 3 19 9,
  sv 4 20 0,
  sv 5 21 9,
  sm 6 22 (.ia (.sl 32) (tm 20) (tm 21)),
  sm 7 23 (.ldA 32 (tm 22)),
  sv 8 24 0,
  sv 9 25 8,
  sm 10 26 (.ia (.sl 32) (tm 24) (tm 25)),
  sm 11 27 (.ldA 32 (tm 26)),
  sm 12 28 (.ia (.sl 32) (tm 16) (tm 17)),
  se 13 (.st 32 (tm 28) (tm 23)),
  sm 14 29 (.ia (.sl 32) (tm 18) (tm 19)),
  se 15 (.st 32 (tm 29) (tm 27))])
  (.seq (.reg [sv 0 30 8,
  sm 1 31 (.bin .add 3 (tm 30) (.const (.int .i64 1))),
  sv 2 8 31])
  (.reg [sv 0 32 9,
  sm 1 33 (.bin .sub 3 (tm 32) (.const (.int .i64 1))),
  sv 2 9 33])))))
def c85 : Cd := (.seq (.reg [sv 0 10 1,
  sv 1 8 10])
  (.seq (.reg [sv 0 11 2,
  sm 1 12 (.bin .sub 3 (tm 11) (.const (.int .i64 1))),
  sv 2 9 12])
  (.block 0 (.loop l85_0))))
def r85 : List Mo := []
theorem c85_eq : compF Tryd.prog 85 = some c85 := by kernel_rfl
theorem r85_eq : compRs Tryd.prog 85 = some r85 := by kernel_rfl
/-! F86 slices.partialInsertionSortCmpFunc[braid/api.ID] -/
def l86_0 : Cd := (.seq (.seq (.reg [sv 0 19 9,
  sv 1 20 2,
  sm 2 21 (.bin .lss 3 (tm 19) (tm 20)),
  sv 3 22 21,
  sg 4 23 22 true (.mv (tm 3)),
  sg 5 24 22 true (.mv (tm 0)),
  sg 6 25 22 true (.mv (tm 9)),
  sg 7 26 22 true (.ia (.sl 32) (tm 24) (tm 25)),
  sg 8 27 22 true (.ldA 32 (tm 26)),
  sg 9 28 22 true (.mv (tm 0)),
  sg 10 29 22 true (.mv (tm 9)),
  sg 11 30 22 true (.bin .sub 3 (tm 29) (.const (.int .i64 1))),
  sg 12 31 22 true (.ia (.sl 32) (tm 28) (tm 30)),
  sg 13 32 22 true (.ldA 32 (tm 31)),
  ⟨14, (some 33), (some ((some 22), true)), .callV (tm 23) [(tm 27), (tm 32)], [], false⟩,
  sg 15 34 22 true (.bin .lss 3 (tm 33) (.const (.int .i64 0))),
  sg 16 35 22 true (.un .not (tm 34)),
  sm 17 36 (.pick (tm 22) (tm 35) (.const (.bool false)))])
  (.cond (tm 36) .skip (.exit 2)))
  (.block 3 (.reg [sv 0 37 9,
  sm 1 38 (.bin .add 3 (tm 37) (.const (.int .i64 1))),
  sv 2 9 38])))
def l86_1 : Cd := (.seq (.seq (.reg [sv 0 68 11,
  sm 1 69 (.bin .geq 3 (tm 68) (.const (.int .i64 1)))])
  (.cond (tm 69) .skip (.exit 4)))
  (.seq (.block 5 (.seq (.seq (.reg [sv 0 72 3,
  sv 1 73 0,
  sv 2 74 11,
  sm 3 75 (.ia (.sl 32) (tm 73) (tm 74)),
  sm 4 76 (.ldA 32 (tm 75)),
  sv 5 77 0,
  sv 6 78 11,
  sm 7 79 (.bin .sub 3 (tm 78) (.const (.int .i64 1))),
  sm 8 80 (.ia (.sl 32) (tm 77) (tm 79)),
  sm 9 81 (.ldA 32 (tm 80)),
  ⟨10, (some 82), none, .callV (tm 72) [(tm 76), (tm 81)], [], false⟩,
  sm 11 83 (.bin .lss 3 (tm 82) (.const (.int .i64 0))),
  sm 12 84 (.un .not (tm 83))])
  (.cond (tm 84) (.exit 4) .skip))
  (.reg [sv 0 85 0,
  sv 1 86 11,
  sv 2 87 0,
  sv 3 88 11,
  sm 4 89 (.bin .sub 3 (tm 88) (.const (.int .i64 1))),
  sv 5 90 0,
  sv 6 91 11,
  sm 7 92 (.bin .sub 3 (tm 91) (.const (.int .i64 1))),
  sm 8 93 (.ia (.sl 32) (tm 90) (tm 92)),
  sm 9 94 (.ldA 32 (tm 93)),
  sv 10 95 0,
  sv 11 96 11,
  sm 12 97 (.ia (.sl 32) (tm 95) (tm 96)),
  sm 13 98 (.ldA 32 (tm 97)),
  sm 14 99 (.ia (.sl 32) (tm 85) (tm 86)),
  se 15 (.st 32 (tm 99) (tm 94)),
  sm 16 100 (.ia (.sl 32) (tm 87) (tm 89)),
  se 17 (.st 32 (tm 100) (tm 98))])))
  (.reg [sv 0 70 11,
  sm 1 71 (.bin .sub 3 (tm 70) (.const (.int .i64 1))),
  sv 2 11 71])))
def l86_2 : Cd := (.seq (.seq (.reg [sv 0 107 12,
  sv 1 108 2,
  sm 2 109 (.bin .lss 3 (tm 107) (tm 108))])
  (.cond (tm 109) .skip (.exit 6)))
  (.seq (.block 7 (.seq (.seq (.reg [sv 0 112 3,
  sv 1 113 0,
  sv 2 114 12,
  sm 3 115 (.ia (.sl 32) (tm 113) (tm 114)),
  sm 4 116 (.ldA 32 (tm 115)),
  sv 5 117 0,
  sv 6 118 12,
  sm 7 119 (.bin .sub 3 (tm 118) (.const (.int .i64 1))),
  sm 8 120 (.ia (.sl 32) (tm 117) (tm 119)),
  sm 9 121 (.ldA 32 (tm 120)),
  ⟨10, (some 122), none, .callV (tm 112) [(tm 116), (tm 121)], [], false⟩,
  sm 11 123 (.bin .lss 3 (tm 122) (.const (.int .i64 0))),
  sm 12 124 (.un .not (tm 123))])
  (.cond (tm 124) (.exit 6) .skip))
  (.reg [sv 0 125 0,
  sv 1 126 12,
  sv 2 127 0,
  sv 3 128 12,
  sm 4 129 (.bin .sub 3 (tm 128) (.const (.int .i64 1))),
  sv 5 130 0,
  sv 6 131 12,
  sm 7 132 (.bin .sub 3 (tm 131) (.const (.int .i64 1))),
  sm 8 133 (.ia (.sl 32) (tm 130) (tm 132)),
  sm 9 134 (.ldA 32 (tm 133)),
  sv 10 135 0,
  sv 11 136 12,
  sm 12 137 (.ia (.sl 32) (tm 135) (tm 136)),
  sm 13 138 (.ldA 32 (tm 137)),
  sm 14 139 (.ia (.sl 32) (tm 125) (tm 126)),
  se 15 (.st 32 (tm 139) (tm 134)),
  sm 16 140 (.ia (.sl 32) (tm 127) (tm 129)),
  se 17 (.st 32 (tm 140) (tm 138))])))
  (.reg [sv 0 110 12,
  sm 1 111 (.bin .add 3 (tm 110) (.const (.int .i64 1))),
  sv 2 12 111])))
def l86_3 : Cd := (.seq (.seq (.reg [sv 0 15 10,
  sm 1 16 (.bin .lss 3 (tm 15) (.const (.int .i64 5)))])
  (.cond (tm 16) .skip (.exit 0)))
  (.seq (.block 1 (.seq (.block 2 (.loop l86_0))
  (.seq (.seq (.reg [sv 0 39 9,
  sv 1 40 2,
  sm 2 41 (.bin .eql 3 (tm 39) (tm 40))])
  (.cond (tm 41) (.seq (.reg [sm 0 8 (.mv (.const (.bool true)))])
  .ret) .skip))
  (.seq (.seq (.reg [sv 0 42 2,
  sv 1 43 1,
  sm 2 44 (.bin .sub 3 (tm 42) (tm 43)),
  sm 3 45 (.bin .lss 3 (tm 44) (.const (.int .i64 50)))])
  (.cond (tm 45) (.seq (.reg [sm 0 8 (.mv (.const (.bool false)))])
  .ret) .skip))
  (.seq (.reg [sv 0 46 0,
  sv 1 47 9,
  sv 2 48 0,
  sv 3 49 9,
  sm 4 50 (.bin .sub 3 (tm 49) (.const (.int .i64 1))),
  sv 5 51 0,
  sv 6 52 9,
  sm 7 53 (.bin .sub 3 (tm 52) (.const (.int .i64 1))),
  sm 8 54 (.ia (.sl 32) (tm 51) (tm 53)),
  sm 9 55 (.ldA 32 (tm 54)),
  sv 10 56 0,
  sv 11 57 9,
  sm 12 58 (.ia (.sl 32) (tm 56) (tm 57)),
  sm 13 59 (.ldA 32 (tm 58)),
  sm 14 60 (.ia (.sl 32) (tm 46) (tm 47)),
  se 15 (.st 32 (tm 60) (tm 55)),
  sm 16 61 (.ia (.sl 32) (tm 48) (tm 50)),
  se 17 (.st 32 (tm 61) (tm 59))])
  (.seq (.seq (.reg [sv 0 62 9,
  sv 1 63 1,
  sm 2 64 (.bin .sub 3 (tm 62) (tm 63)),
  sm 3 65 (.bin .geq 3 (tm 64) (.const (.int .i64 2)))])
  (.cond (tm 65) (.seq (.reg [sv 0 66 9,
  sm 1 67 (.bin .sub 3 (tm 66) (.const (.int .i64 1))),
  sv 2 11 67])
  (.block 4 (.loop l86_1))) .skip))
  (.seq (.reg [sv 0 101 2,
  sv 1 102 9,
  sm 2 103 (.bin .sub 3 (tm 101) (tm 102)),
  sm 3 104 (.bin .geq 3 (tm 103) (.const (.int .i64 2)))])
  (.cond (tm 104) (.seq (.reg [sv 0 105 9,
  sm 1 106 (.bin .add 3 (tm 105) (.const (.int .i64 1))),
  sv 2 12 106])
  (.block 6 (.loop l86_2))) .skip))))))))
  (.reg [sv 0 17 10,
  sm 1 18 (.bin .add 3 (tm 17) (.const (.int .i64 1))),
  sv 2 10 18])))
def c86 : Cd := (.seq (.reg [sm 0 8 (.mv (.const (.bool false)))])
  (.seq (.reg [sv 0 13 1,
  sm 1 14 (.bin .add 3 (tm 13) (.const (.int .i64 1))),
  sv 2 9 14])
  (.seq (.seq (.reg [sm 0 10 (.mv (.const (.int .i64 0)))])
  (.block 0 (.loop l86_3)))
  (.seq (.reg [sm 0 8 (.mv (.const (.bool false)))])
  .ret))))
def r86 : List Mo := [.mv (tm 8)]
theorem c86_eq : compF Tryd.prog 86 = some c86 := by kernel_rfl
theorem r86_eq : compRs Tryd.prog 86 = some r86 := by kernel_rfl
/-! F87 slices.partitionEqualCmpFunc[braid/api.ID] -/
def l87_0 : Cd := (.seq (.seq (.reg [sv 0 31 11,
  sv 1 32 12,
  sm 2 33 (.bin .leq 3 (tm 31) (tm 32)),
  sv 3 34 33,
  sg 4 35 34 true (.mv (tm 4)),
  sg 5 36 34 true (.mv (tm 0)),
  sg 6 37 34 true (.mv (tm 1)),
  sg 7 38 34 true (.ia (.sl 32) (tm 36) (tm 37)),
  sg 8 39 34 true (.ldA 32 (tm 38)),
  sg 9 40 34 true (.mv (tm 0)),
  sg 10 41 34 true (.mv (tm 11)),
  sg 11 42 34 true (.ia (.sl 32) (tm 40) (tm 41)),
  sg 12 43 34 true (.ldA 32 (tm 42)),
  ⟨13, (some 44), (some ((some 34), true)), .callV (tm 35) [(tm 39), (tm 43)], [], false⟩,
  sg 14 45 34 true (.bin .lss 3 (tm 44) (.const (.int .i64 0))),
  sg 15 46 34 true (.un .not (tm 45)),
  sm 16 47 (.pick (tm 34) (tm 46) (.const (.bool false)))])
  (.cond (tm 47) .skip (.exit 2)))
  (.block 3 (.reg [sv 0 48 11,
  sm 1 49 (.bin .add 3 (tm 48) (.const (.int .i64 1))),
  sv 2 11 49])))
def l87_1 : Cd := (.seq (.seq (.reg [sv 0 50 11,
  sv 1 51 12,
  sm 2 52 (.bin .leq 3 (tm 50) (tm 51)),
  sv 3 53 52,
  sg 4 54 53 true (.mv (tm 4)),
  sg 5 55 53 true (.mv (tm 0)),
  sg 6 56 53 true (.mv (tm 1)),
  sg 7 57 53 true (.ia (.sl 32) (tm 55) (tm 56)),
  sg 8 58 53 true (.ldA 32 (tm 57)),
  sg 9 59 53 true (.mv (tm 0)),
  sg 10 60 53 true (.mv (tm 12)),
  sg 11 61 53 true (.ia (.sl 32) (tm 59) (tm 60)),
  sg 12 62 53 true (.ldA 32 (tm 61)),
  ⟨13, (some 63), (some ((some 53), true)), .callV (tm 54) [(tm 58), (tm 62)], [], false⟩,
  sg 14 64 53 true (.bin .lss 3 (tm 63) (.const (.int .i64 0))),
  sm 15 65 (.pick (tm 53) (tm 64) (.const (.bool false)))])
  (.cond (tm 65) .skip (.exit 4)))
  (.block 5 (.reg [sv 0 66 12,
  sm 1 67 (.bin .sub 3 (tm 66) (.const (.int .i64 1))),
  sv 2 12 67])))
def l87_2 : Cd := (.block 1 (.seq (.block 2 (.loop l87_0))
  (.seq (.block 4 (.loop l87_1))
  (.seq (.seq (.reg [sv 0 68 11,
  sv 1 69 12,
  sm 2 70 (.bin .gtr 3 (tm 68) (tm 69))])
  (.cond (tm 70) (.exit 0) .skip))
  (.seq (.reg [sv 0 71 0,
  sv 1 72 11,
  sv 2 73 0,
  sv 3 74 12,
  sv 4 75 0,
  sv 5 76 12,
  sm 6 77 (.ia (.sl 32) (tm 75) (tm 76)),
  sm 7 78 (.ldA 32 (tm 77)),
  sv 8 79 0,
  sv 9 80 11,
  sm 10 81 (.ia (.sl 32) (tm 79) (tm 80)),
  sm 11 82 (.ldA 32 (tm 81)),
  sm 12 83 (.ia (.sl 32) (tm 71) (tm 72)),
  se 13 (.st 32 (tm 83) (tm 78)),
  sm 14 84 (.ia (.sl 32) (tm 73) (tm 74)),
  se 15 (.st 32 (tm 84) (tm 82))])
  (.seq (.reg [sv 0 85 11,
  sm 1 86 (.bin .add 3 (tm 85) (.const (.int .i64 1))),
  sv 2 11 86])
  (.reg [sv 0 87 12,
  sm 1 88 (.bin .sub 3 (tm 87) (.const (.int .i64 1))),
  sv 2 12 88])))))))
def c87 : Cd := (.seq (.reg [sm 0 10 (.mv (.const (.int .i64 0)))])
  (.seq (.reg [sv 0 13 0,
  sv 1 14 1,
  sv 2 15 0,
  sv 3 16 3,
  sv 4 17 0,
  sv 5 18 3,
  sm 6 19 (.ia (.sl 32) (tm 17) (tm 18)),
  sm 7 20 (.ldA 32 (tm 19)),
  sv 8 21 0,
  sv 9 22 1,
  sm 10 23 (.ia (.sl 32) (tm 21) (tm 22)),
  sm 11 24 (.ldA 32 (tm 23)),
  sm 12 25 (.ia (.sl 32) (tm 13) (tm 14)),
  se 13 (.st 32 (tm 25) (tm 20)),
  sm 14 26 (.ia (.sl 32) (tm 15) (tm 16)),
  se 15 (.st 32 (tm 26) (tm 24))])
  (.seq (.reg [sv 0 27 1,
  sm 1 28 (.bin .add 3 (tm 27) (.const (.int .i64 1))),
  sv 2 29 2,
  sm 3 30 (.bin .sub 3 (tm 29) (.const (.int .i64 1))),
  sv 4 11 28,
  sv 5 12 30])
  (.seq (.block 0 (.loop l87_2))
  (.seq (.reg [sv 0 89 11,
  sv 1 10 89])
  .ret)))))
def r87 : List Mo := [.mv (tm 10)]
theorem c87_eq : compF Tryd.prog 87 = some c87 := by kernel_rfl
theorem r87_eq : compRs Tryd.prog 87 = some r87 := by kernel_rfl
/-! F88 slices.partitionCmpFunc[braid/api.ID] -/
def l88_0 : Cd := (.seq (.seq (.reg [sv 0 32 12,
  sv 1 33 13,
  sm 2 34 (.bin .leq 3 (tm 32) (tm 33)),
  sv 3 35 34,
  sg 4 36 35 true (.mv (tm 4)),
  sg 5 37 35 true (.mv (tm 0)),
  sg 6 38 35 true (.mv (tm 12)),
  sg 7 39 35 true (.ia (.sl 32) (tm 37) (tm 38)),
  sg 8 40 35 true (.ldA 32 (tm 39)),
  sg 9 41 35 true (.mv (tm 0)),
  sg 10 42 35 true (.mv (tm 1)),
  sg 11 43 35 true (.ia (.sl 32) (tm 41) (tm 42)),
  sg 12 44 35 true (.ldA 32 (tm 43)),
  ⟨13, (some 45), (some ((some 35), true)), .callV (tm 36) [(tm 40), (tm 44)], [], false⟩,
  sg 14 46 35 true (.bin .lss 3 (tm 45) (.const (.int .i64 0))),
  sm 15 47 (.pick (tm 35) (tm 46) (.const (.bool false)))])
  (.cond (tm 47) .skip (.exit 0)))
  (.block 1 (.reg [sv 0 48 12,
  sm 1 49 (.bin .add 3 (tm 48) (.const (.int .i64 1))),
  sv 2 12 49])))
def l88_1 : Cd := (.seq (.seq (.reg [sv 0 50 12,
  sv 1 51 13,
  sm 2 52 (.bin .leq 3 (tm 50) (tm 51)),
  sv 3 53 52,
  sg 4 54 53 true (.mv (tm 4)),
  sg 5 55 53 true (.mv (tm 0)),
  sg 6 56 53 true (.mv (tm 13)),
  sg 7 57 53 true (.ia (.sl 32) (tm 55) (tm 56)),
  sg 8 58 53 true (.ldA 32 (tm 57)),
  sg 9 59 53 true (.mv (tm 0)),
  sg 10 60 53 true (.mv (tm 1)),
  sg 11 61 53 true (.ia (.sl 32) (tm 59) (tm 60)),
  sg 12 62 53 true (.ldA 32 (tm 61)),
  ⟨13, (some 63), (some ((some 53), true)), .callV (tm 54) [(tm 58), (tm 62)], [], false⟩,
  sg 14 64 53 true (.bin .lss 3 (tm 63) (.const (.int .i64 0))),
  sg 15 65 53 true (.un .not (tm 64)),
  sm 16 66 (.pick (tm 53) (tm 65) (.const (.bool false)))])
  (.cond (tm 66) .skip (.exit 2)))
  (.block 3 (.reg [sv 0 67 13,
  sm 1 68 (.bin .sub 3 (tm 67) (.const (.int .i64 1))),
  sv 2 13 68])))
def l88_2 : Cd := (.seq (.seq (.reg [sv 0 105 12,
  sv 1 106 13,
  sm 2 107 (.bin .leq 3 (tm 105) (tm 106)),
  sv 3 108 107,
  sg 4 109 108 true (.mv (tm 4)),
  sg 5 110 108 true (.mv (tm 0)),
  sg 6 111 108 true (.mv (tm 12)),
  sg 7 112 108 true (.ia (.sl 32) (tm 110) (tm 111)),
  sg 8 113 108 true (.ldA 32 (tm 112)),
  sg 9 114 108 true (.mv (tm 0)),
  sg 10 115 108 true (.mv (tm 1)),
  sg 11 116 108 true (.ia (.sl 32) (tm 114) (tm 115)),
  sg 12 117 108 true (.ldA 32 (tm 116)),
  ⟨13, (some 118), (some ((some 108), true)), .callV (tm 109) [(tm 113), (tm 117)], [], false⟩,
  sg 14 119 108 true (.bin .lss 3 (tm 118) (.const (.int .i64 0))),
  sm 15 120 (.pick (tm 108) (tm 119) (.const (.bool false)))])
  (.cond (tm 120) .skip (.exit 6)))
  (.block 7 (.reg [sv 0 121 12,
  sm 1 122 (.bin .add 3 (tm 121) (.const (.int .i64 1))),
  sv 2 12 122])))
def l88_3 : Cd := (.seq (.seq (.reg [sv 0 123 12,
  sv 1 124 13,
  sm 2 125 (.bin .leq 3 (tm 123) (tm 124)),
  sv 3 126 125,
  sg 4 127 126 true (.mv (tm 4)),
  sg 5 128 126 true (.mv (tm 0)),
  sg 6 129 126 true (.mv (tm 13)),
  sg 7 130 126 true (.ia (.sl 32) (tm 128) (tm 129)),
  sg 8 131 126 true (.ldA 32 (tm 130)),
  sg 9 132 126 true (.mv (tm 0)),
  sg 10 133 126 true (.mv (tm 1)),
  sg 11 134 126 true (.ia (.sl 32) (tm 132) (tm 133)),
  sg 12 135 126 true (.ldA 32 (tm 134)),
  ⟨13, (some 136), (some ((some 126), true)), .callV (tm 127) [(tm 131), (tm 135)], [], false⟩,
  sg 14 137 126 true (.bin .lss 3 (tm 136) (.const (.int .i64 0))),
  sg 15 138 126 true (.un .not (tm 137)),
  sm 16 139 (.pick (tm 126) (tm 138) (.const (.bool false)))])
  (.cond (tm 139) .skip (.exit 8)))
  (.block 9 (.reg [sv 0 140 13,
  sm 1 141 (.bin .sub 3 (tm 140) (.const (.int .i64 1))),
  sv 2 13 141])))
def l88_4 : Cd := (.block 5 (.seq (.block 6 (.loop l88_2))
  (.seq (.block 8 (.loop l88_3))
  (.seq (.seq (.reg [sv 0 142 12,
  sv 1 143 13,
  sm 2 144 (.bin .gtr 3 (tm 142) (tm 143))])
  (.cond (tm 144) (.exit 4) .skip))
  (.seq (.reg [sv 0 145 0,
  sv 1 146 12,
  sv 2 147 0,
  sv 3 148 13,
  sv 4 149 0,
  sv 5 150 13,
  sm 6 151 (.ia (.sl 32) (tm 149) (tm 150)),
  sm 7 152 (.ldA 32 (tm 151)),
  sv 8 153 0,
  sv 9 154 12,
  sm 10 155 (.ia (.sl 32) (tm 153) (tm 154)),
  sm 11 156 (.ldA 32 (tm 155)),
  sm 12 157 (.ia (.sl 32) (tm 145) (tm 146)),
  se 13 (.st 32 (tm 157) (tm 152)),
  sm 14 158 (.ia (.sl 32) (tm 147) (tm 148)),
  se 15 (.st 32 (tm 158) (tm 156))])
  (.seq (.reg [sv 0 159 12,
  sm 1 160 (.bin .add 3 (tm 159) (.const (.int .i64 1))),
  sv 2 12 160])
  (.reg [sv 0 161 13,
  sm 1 162 (.bin .sub 3 (tm 161) (.const (.int .i64 1))),
  sv 2 13 162])))))))
def c88 : Cd := (.seq (.reg [sm 0 10 (.mv (.const (.int .i64 0))),
  sm 1 11 (.mv (.const (.bool false)))])
  (.seq (.reg [sv 0 14 0,
  sv 1 15 1,
  sv 2 16 0,
  sv 3 17 3,
  sv 4 18 0,
  sv 5 19 3,
  sm 6 20 (.ia (.sl 32) (tm 18) (tm 19)),
  sm 7 21 (.ldA 32 (tm 20)),
  sv 8 22 0,
  sv 9 23 1,
  sm 10 24 (.ia (.sl 32) (tm 22) (tm 23)),
  sm 11 25 (.ldA 32 (tm 24)),
  sm 12 26 (.ia (.sl 32) (tm 14) (tm 15)),
  se 13 (.st 32 (tm 26) (tm 21)),
  sm 14 27 (.ia (.sl 32) (tm 16) (tm 17)),
  se 15 (.st 32 (tm 27) (tm 25))])
  (.seq (.reg [sv 0 28 1,
  sm 1 29 (.bin .add 3 (tm 28) (.const (.int .i64 1))),
  sv 2 30 2,
  sm 3 31 (.bin .sub 3 (tm 30) (.const (.int .i64 1))),
  sv 4 12 29,
  sv 5 13 31])
  (.seq (.block 0 (.loop l88_0))
  (.seq (.block 2 (.loop l88_1))
  (.seq (.seq (.reg [sv 0 69 12,
  sv 1 70 13,
  sm 2 71 (.bin .gtr 3 (tm 69) (tm 70))])
  (.cond (tm 71) (.seq (.reg [sv 0 72 0,
  sv 1 73 13,
  sv 2 74 0,
  sv 3 75 1,
  sv 4 76 0,
  sv 5 77 1,
  sm 6 78 (.ia (.sl 32) (tm 76) (tm 77)),
  sm 7 79 (.ldA 32 (tm 78)),
  sv 8 80 0,
  sv 9 81 13,
  sm 10 82 (.ia (.sl 32) (tm 80) (tm 81)),
  sm 11 83 (.ldA 32 (tm 82)),
  sm 12 84 (.ia (.sl 32) (tm 72) (tm 73)),
  se 13 (.st 32 (tm 84) (tm 79)),
  sm 14 85 (.ia (.sl 32) (tm 74) (tm 75)),
  se 15 (.st 32 (tm 85) (tm 83))])
  (.seq (.reg [sv 0 86 13,
  sv 1 10 86,
  sm 2 11 (.mv (.const (.bool true)))])
  .ret)) .skip))
  (.seq (.reg [sv 0 87 0,
  sv 1 88 12,
  sv 2 89 0,
  sv 3 90 13,
  sv 4 91 0,
  sv 5 92 13,
  sm 6 93 (.ia (.sl 32) (tm 91) (tm 92)),
  sm 7 94 (.ldA 32 (tm 93)),
  sv 8 95 0,
  sv 9 96 12,
  sm 10 97 (.ia (.sl 32) (tm 95) (tm 96)),
  sm 11 98 (.ldA 32 (tm 97)),
  sm 12 99 (.ia (.sl 32) (tm 87) (tm 88)),
  se 13 (.st 32 (tm 99) (tm 94)),
  sm 14 100 (.ia (.sl 32) (tm 89) (tm 90)),
  se 15 (.st 32 (tm 100) (tm 98))])
  (.seq (.reg [sv 0 101 12,
  sm 1 102 (.bin .add 3 (tm 101) (.const (.int .i64 1))),
  sv 2 12 102])
  (.seq (.reg [sv 0 103 13,
  sm 1 104 (.bin .sub 3 (tm 103) (.const (.int .i64 1))),
  sv 2 13 104])
  (.seq (.block 4 (.loop l88_4))
  (.seq (.reg [sv 0 163 0,
  sv 1 164 13,
  sv 2 165 0,
  sv 3 166 1,
  sv 4 167 0,
  sv 5 168 1,
  sm 6 169 (.ia (.sl 32) (tm 167) (tm 168)),
  sm 7 170 (.ldA 32 (tm 169)),
  sv 8 171 0,
  sv 9 172 13,
  sm 10 173 (.ia (.sl 32) (tm 171) (tm 172)),
  sm 11 174 (.ldA 32 (tm 173)),
  sm 12 175 (.ia (.sl 32) (tm 163) (tm 164)),
  se 13 (.st 32 (tm 175) (tm 170)),
  sm 14 176 (.ia (.sl 32) (tm 165) (tm 166)),
  se 15 (.st 32 (tm 176) (tm 174))])
  (.seq (.reg [sv 0 177 13,
  sv 1 10 177,
  sm 2 11 (.mv (.const (.bool false)))])
  .ret))))))))))))
def r88 : List Mo := [.mv (tm 10), .mv (tm 11)]
theorem c88_eq : compF Tryd.prog 88 = some c88 := by kernel_rfl
theorem r88_eq : compRs Tryd.prog 88 = some r88 := by kernel_rfl
/-! F89 math/bits.Len32 -/
def c89 : Cd := (.seq (.reg [sm 0 2 (.mv (.const (.int .i64 0)))])
  (.seq (.seq (.reg [sv 0 3 0,
  sm 1 4 (.bin .geq 105 (tm 3) (.const (.int .u32 65536)))])
  (.cond (tm 4) (.seq (.reg [sv 0 5 0,
  sm 1 6 (.bin .shr 105 (tm 5) (.const (.int .u64 16))),
  sv 2 0 6])
  (.reg [sm 0 2 (.mv (.const (.int .i64 16)))])) .skip))
  (.seq (.seq (.reg [sv 0 7 0,
  sm 1 8 (.bin .geq 105 (tm 7) (.const (.int .u32 256)))])
  (.cond (tm 8) (.seq (.reg [sv 0 9 0,
  sm 1 10 (.bin .shr 105 (tm 9) (.const (.int .u64 8))),
  sv 2 0 10])
  (.reg [sv 0 11 2,
  sm 1 12 (.bin .add 3 (tm 11) (.const (.int .i64 8))),
  sv 2 2 12])) .skip))
  (.seq (.reg [sv 0 13 2,
  sv 1 14 0,
  sm 2 15 (.cint .u8 (tm 14)),
  sm 3 16 (.ixT (.const (.string ⟨#[0, 1, 2, 2, 3, 3, 3, 3, 4, 4, 4, 4, 4, 4, 4, 4, 5, 5, 5, 5, 5, 5, 5, 5, 5, 5, 5, 5, 5, 5, 5, 5, 6, 6, 6, 6, 6, 6, 6, 6, 6, 6, 6, 6, 6, 6, 6, 6, 6, 6, 6, 6, 6, 6, 6, 6, 6, 6, 6, 6, 6, 6, 6, 6, 7, 7, 7, 7, 7, 7, 7, 7, 7, 7, 7, 7, 7, 7, 7, 7, 7, 7, 7, 7, 7, 7, 7, 7, 7, 7, 7, 7, 7, 7, 7, 7, 7, 7, 7, 7, 7, 7, 7, 7, 7, 7, 7, 7, 7, 7, 7, 7, 7, 7, 7, 7, 7, 7, 7, 7, 7, 7, 7, 7, 7, 7, 7, 7, 8, 8, 8, 8, 8, 8, 8, 8, 8, 8, 8, 8, 8, 8, 8, 8, 8, 8, 8, 8, 8, 8, 8, 8, 8, 8, 8, 8, 8, 8, 8, 8, 8, 8, 8, 8, 8, 8, 8, 8, 8, 8, 8, 8, 8, 8, 8, 8, 8, 8, 8, 8, 8, 8, 8, 8, 8, 8, 8, 8, 8, 8, 8, 8, 8, 8, 8, 8, 8, 8, 8, 8, 8, 8, 8, 8, 8, 8, 8, 8, 8, 8, 8, 8, 8, 8, 8, 8, 8, 8, 8, 8, 8, 8, 8, 8, 8, 8, 8, 8, 8, 8, 8, 8, 8, 8, 8, 8, 8, 8, 8, 8, 8, 8, 8, 8, 8, 8, 8, 8, 8, 8, 8, 8, 8, 8, 8, 8]⟩)) (tm 15)),
  sm 4 17 (.cint .i64 (tm 16)),
  sm 5 18 (.bin .add 3 (tm 13) (tm 17)),
  sv 6 2 18])
  .ret))))
def r89 : List Mo := [.mv (tm 2)]
theorem c89_eq : compF Tryd.prog 89 = some c89 := by kernel_rfl
theorem r89_eq : compRs Tryd.prog 89 = some r89 := by kernel_rfl
/-! F90 math/bits.Len64 -/
def c90 : Cd := (.seq (.reg [sm 0 2 (.mv (.const (.int .i64 0)))])
  (.seq (.seq (.reg [sv 0 3 0,
  sm 1 4 (.bin .geq 36 (tm 3) (.const (.int .u64 4294967296)))])
  (.cond (tm 4) (.seq (.reg [sv 0 5 0,
  sm 1 6 (.bin .shr 36 (tm 5) (.const (.int .u64 32))),
  sv 2 0 6])
  (.reg [sm 0 2 (.mv (.const (.int .i64 32)))])) .skip))
  (.seq (.seq (.reg [sv 0 7 0,
  sm 1 8 (.bin .geq 36 (tm 7) (.const (.int .u64 65536)))])
  (.cond (tm 8) (.seq (.reg [sv 0 9 0,
  sm 1 10 (.bin .shr 36 (tm 9) (.const (.int .u64 16))),
  sv 2 0 10])
  (.reg [sv 0 11 2,
  sm 1 12 (.bin .add 3 (tm 11) (.const (.int .i64 16))),
  sv 2 2 12])) .skip))
  (.seq (.seq (.reg [sv 0 13 0,
  sm 1 14 (.bin .geq 36 (tm 13) (.const (.int .u64 256)))])
  (.cond (tm 14) (.seq (.reg [sv 0 15 0,
  sm 1 16 (.bin .shr 36 (tm 15) (.const (.int .u64 8))),
  sv 2 0 16])
  (.reg [sv 0 17 2,
  sm 1 18 (.bin .add 3 (tm 17) (.const (.int .i64 8))),
  sv 2 2 18])) .skip))
  (.seq (.reg [sv 0 19 2,
  sv 1 20 0,
  sm 2 21 (.cint .u8 (tm 20)),
  sm 3 22 (.ixT (.const (.string ⟨#[0, 1, 2, 2, 3, 3, 3, 3, 4, 4, 4, 4, 4, 4, 4, 4, 5, 5, 5, 5, 5, 5, 5, 5, 5, 5, 5, 5, 5, 5, 5, 5, 6, 6, 6, 6, 6, 6, 6, 6, 6, 6, 6, 6, 6, 6, 6, 6, 6, 6, 6, 6, 6, 6, 6, 6, 6, 6, 6, 6, 6, 6, 6, 6, 7, 7, 7, 7, 7, 7, 7, 7, 7, 7, 7, 7, 7, 7, 7, 7, 7, 7, 7, 7, 7, 7, 7, 7, 7, 7, 7, 7, 7, 7, 7, 7, 7, 7, 7, 7, 7, 7, 7, 7, 7, 7, 7, 7, 7, 7, 7, 7, 7, 7, 7, 7, 7, 7, 7, 7, 7, 7, 7, 7, 7, 7, 7, 7, 8, 8, 8, 8, 8, 8, 8, 8, 8, 8, 8, 8, 8, 8, 8, 8, 8, 8, 8, 8, 8, 8, 8, 8, 8, 8, 8, 8, 8, 8, 8, 8, 8, 8, 8, 8, 8, 8, 8, 8, 8, 8, 8, 8, 8, 8, 8, 8, 8, 8, 8, 8, 8, 8, 8, 8, 8, 8, 8, 8, 8, 8, 8, 8, 8, 8, 8, 8, 8, 8, 8, 8, 8, 8, 8, 8, 8, 8, 8, 8, 8, 8, 8, 8, 8, 8, 8, 8, 8, 8, 8, 8, 8, 8, 8, 8, 8, 8, 8, 8, 8, 8, 8, 8, 8, 8, 8, 8, 8, 8, 8, 8, 8, 8, 8, 8, 8, 8, 8, 8, 8, 8, 8, 8, 8, 8, 8, 8]⟩)) (tm 21)),
  sm 4 23 (.cint .i64 (tm 22)),
  sm 5 24 (.bin .add 3 (tm 19) (tm 23)),
  sv 6 2 24])
  .ret)))))
def r90 : List Mo := [.mv (tm 2)]
theorem c90_eq : compF Tryd.prog 90 = some c90 := by kernel_rfl
theorem r90_eq : compRs Tryd.prog 90 = some r90 := by kernel_rfl
/-! F91 cmp.Compare[byte] -/
def c91 : Cd := (.seq (.reg [sm 0 4 (.mv (.const (.int .i64 0)))])
  (.seq (.reg [sv 0 7 0,
  sc 1 8 103 [(tm 7)],
  sv 2 5 8])
  (.seq (.reg [sv 0 9 1,
  sc 1 10 103 [(tm 9)],
  sv 2 6 10])
  (.seq (.seq (.reg [sv 0 11 5])
  (.cond (tm 11) (.seq (.seq (.reg [sv 0 12 6])
  (.cond (tm 12) (.seq (.reg [sm 0 4 (.mv (.const (.int .i64 0)))])
  .ret) .skip))
  (.seq (.reg [sm 0 4 (.mv (.const (.int .i64 (-1))))])
  .ret)) .skip))
  (.seq (.seq (.reg [sv 0 13 6])
  (.cond (tm 13) (.seq (.reg [sm 0 4 (.mv (.const (.int .i64 1)))])
  .ret) .skip))
  (.seq (.seq (.reg [sv 0 14 0,
  sv 1 15 1,
  sm 2 16 (.bin .lss 5 (tm 14) (tm 15))])
  (.cond (tm 16) (.seq (.reg [sm 0 4 (.mv (.const (.int .i64 (-1))))])
  .ret) .skip))
  (.seq (.seq (.reg [sv 0 17 0,
  sv 1 18 1,
  sm 2 19 (.bin .gtr 5 (tm 17) (tm 18))])
  (.cond (tm 19) (.seq (.reg [sm 0 4 (.mv (.const (.int .i64 1)))])
  .ret) .skip))
  (.seq (.reg [sm 0 4 (.mv (.const (.int .i64 0)))])
  .ret))))))))
def r91 : List Mo := [.mv (tm 4)]
theorem c91_eq : compF Tryd.prog 91 = some c91 := by kernel_rfl
theorem r91_eq : compRs Tryd.prog 91 = some r91 := by kernel_rfl
/-! F92 slices.IndexFunc[[][]byte,[]byte] -/
def l92_0 : Cd := (.seq (.reg [sm 0 9 (.bin .lss 3 (tm 8) (tm 7))])
  (.seq (.cond (tm 9) .skip (.exit 0))
  (.seq (.block 1 (.seq (.reg [sv 0 10 8,
  sv 1 5 10])
  (.seq (.reg [sv 0 11 1,
  sv 1 12 0,
  sv 2 13 5,
  sm 3 14 (.ia (.sl 1) (tm 12) (tm 13)),
  sm 4 15 (.ld1 (tm 14)),
  ⟨5, (some 16), none, .callV (tm 11) [(tm 15)], [], false⟩])
  (.cond (tm 16) (.seq (.reg [sv 0 17 5,
  sv 1 4 17])
  .ret) .skip))))
  (.reg [sm 0 18 (.bin .add 3 (tm 8) (.const (.int .i64 1))),
  sv 1 8 18]))))
def c92 : Cd := (.seq (.reg [sm 0 4 (.mv (.const (.int .i64 0)))])
  (.seq (.seq (.reg [sv 0 6 0,
  sm 1 7 (.len (.sl 1) (tm 6)),
  sm 2 8 (.mv (.const (.int .i64 0)))])
  (.block 0 (.loop l92_0)))
  (.seq (.reg [sm 0 4 (.mv (.const (.int .i64 (-1))))])
  .ret)))
def r92 : List Mo := [.mv (tm 4)]
theorem c92_eq : compF Tryd.prog 92 = some c92 := by kernel_rfl
theorem r92_eq : compRs Tryd.prog 92 = some r92 := by kernel_rfl
/-! F93 slices.Concat[[]byte,byte] -/
def l93_0 : Cd := (.seq (.reg [sm 0 12 (.bin .lss 3 (tm 11) (tm 10))])
  (.seq (.cond (tm 12) .skip (.exit 0))
  (.seq (.block 1 (.seq (.reg [sm 0 13 (.ia (.sl 1) (tm 9) (tm 11)),
  sm 1 14 (.ld1 (tm 13)),
  sv 2 5 14])
  (.seq (.reg [sv 0 15 3,
  sv 1 16 5,
  sm 2 17 (.len (.sl 1) (tm 16)),
  sm 3 18 (.bin .add 3 (tm 15) (tm 17)),
  sv 4 3 18])
  (.seq (.reg [sv 0 19 3,
  sm 1 20 (.bin .lss 3 (tm 19) (.const (.int .i64 0)))])
  (.cond (tm 20) (.reg [sm 0 21 (.mkI 9 (.const (.string ⟨#[108, 101, 110, 32, 111, 117, 116, 32, 111, 102, 32, 114, 97, 110, 103, 101]⟩))),
  se 1 (.stop)]) .skip)))))
  (.reg [sm 0 22 (.bin .add 3 (tm 11) (.const (.int .i64 1))),
  sv 1 11 22]))))
def l93_1 : Cd := (.seq (.reg [sm 0 28 (.bin .lss 3 (tm 27) (tm 26))])
  (.seq (.cond (tm 28) .skip (.exit 2))
  (.seq (.block 3 (.seq (.reg [sm 0 29 (.ia (.sl 1) (tm 25) (tm 27)),
  sm 1 30 (.ld1 (tm 29)),
  sv 2 8 30])
  (.reg [sv 0 31 6,
  sv 1 32 8,
  sm 2 33 (.app 1 1 (tm 31) (tm 32)),
  sv 3 6 33])))
  (.reg [sm 0 34 (.bin .add 3 (tm 27) (.const (.int .i64 1))),
  sv 1 27 34]))))
def c93 : Cd := (.seq (.reg [sm 0 2 (.mv (.const (.slice none 0 0)))])
  (.seq (.reg [sm 0 3 (.mv (.const (.int .i64 0)))])
  (.seq (.seq (.reg [sv 0 9 0,
  sm 1 10 (.len (.sl 1) (tm 9)),
  sm 2 11 (.mv (.const (.int .i64 0)))])
  (.block 0 (.loop l93_0)))
  (.seq (.reg [sv 0 23 3,
  sc 1 24 104 [(.const (.slice none 0 0)), (tm 23)],
  sv 2 6 24])
  (.seq (.seq (.reg [sv 0 25 0,
  sm 1 26 (.len (.sl 1) (tm 25)),
  sm 2 27 (.mv (.const (.int .i64 0)))])
  (.block 2 (.loop l93_1)))
  (.seq (.reg [sv 0 35 6,
  sv 1 2 35])
  .ret))))))
def r93 : List Mo := [.mv (tm 2)]
theorem c93_eq : compF Tryd.prog 93 = some c93 := by kernel_rfl
theorem r93_eq : compRs Tryd.prog 93 = some r93 := by kernel_rfl
/-! F94 braid/digest.grind -/
def l94_0 : Cd := (.seq (.reg [sm 0 53 (.bin .lss 3 (tm 52) (.const (.int .i64 64)))])
  (.seq (.cond (tm 53) .skip (.exit 0))
  (.seq (.block 1 (.seq (.reg [sv 0 54 52,
  sv 1 13 54])
  (.seq (.dreg [sv 0 55 12,
  sv 1 56 9,
  sv 4 59 9,
  sv 5 60 10,
  sm 6 61 (.bin .and 105 (tm 59) (tm 60)),
  sv 7 62 9,
  sm 8 63 (.un .xor (tm 62)),
  sv 9 64 11,
  sm 10 65 (.bin .and 105 (tm 63) (tm 64)),
  sm 11 66 (.bin .xor 105 (tm 61) (tm 65)),
  sv 13 68 13,
  sm 14 69 (.ia (.arr 64 1) (.global 0) (tm 68)),
  ⟨15, (some 70), none, .mo (.ld1 (tm 69)), [], true⟩,
  sv 17 72 13,
  sm 18 73 (.ia (.arr 64 1) (tm 4) (tm 72)),
  ⟨19, (some 74), none, .mo (.ld1 (tm 73)), [], true⟩,
  ⟨2, (some 57), none, .callF 106 [(tm 56), (.const (.int .i64 6)), (.const (.int .i64 11)), (.const (.int .i64 25))], [19, 15], false⟩,
  sm 3 58 (.bin .add 105 (tm 55) (tm 57)),
  sm 12 67 (.bin .add 105 (tm 58) (tm 66)),
  sm 16 71 (.bin .add 105 (tm 67) (tm 70)),
  sm 20 75 (.bin .add 105 (tm 71) (tm 74)),
  sv 21 14 75])
  (.seq (.reg [sv 0 76 5,
  sc 1 77 106 [(tm 76), (.const (.int .i64 2)), (.const (.int .i64 13)), (.const (.int .i64 22))],
  sv 2 78 5,
  sv 3 79 6,
  sm 4 80 (.bin .and 105 (tm 78) (tm 79)),
  sv 5 81 5,
  sv 6 82 7,
  sm 7 83 (.bin .and 105 (tm 81) (tm 82)),
  sm 8 84 (.bin .xor 105 (tm 80) (tm 83)),
  sv 9 85 6,
  sv 10 86 7,
  sm 11 87 (.bin .and 105 (tm 85) (tm 86)),
  sm 12 88 (.bin .xor 105 (tm 84) (tm 87)),
  sm 13 89 (.bin .add 105 (tm 77) (tm 88)),
  sv 14 15 89])
  (.reg [sv 0 90 14,
  sv 1 91 15,
  sm 2 92 (.bin .add 105 (tm 90) (tm 91)),
  sv 3 93 5,
  sv 4 94 6,
  sv 5 95 7,
  sv 6 96 8,
  sv 7 97 14,
  sm 8 98 (.bin .add 105 (tm 96) (tm 97)),
  sv 9 99 9,
  sv 10 100 10,
  sv 11 101 11,
  sv 12 5 92,
  sv 13 6 93,
  sv 14 7 94,
  sv 15 8 95,
  sv 16 9 98,
  sv 17 10 99,
  sv 18 11 100,
  sv 19 12 101])))))
  (.reg [sm 0 102 (.bin .add 3 (tm 52) (.const (.int .i64 1))),
  sv 1 52 102]))))
def l94_1 : Cd := (.seq (.reg [sm 0 113 (.bin .lss 3 (tm 112) (.const (.int .i64 8)))])
  (.seq (.cond (tm 113) .skip (.exit 2))
  (.seq (.block 3 (.seq (.reg [sv 0 114 112,
  sm 1 115 (.ix1 8 1 (tm 111) (tm 112)),
  sv 2 16 114,
  sv 3 17 115])
  (.reg [sv 0 116 0,
  sv 1 117 16,
  sm 2 118 (.nilc (tm 116)),
  sm 3 119 (.ia (.arr 8 1) (tm 118) (tm 117)),
  sm 4 120 (.ld1 (tm 119)),
  sv 5 121 17,
  sm 6 122 (.bin .add 105 (tm 120) (tm 121)),
  sm 7 123 (.nilc (tm 116)),
  sm 8 124 (.ia (.arr 8 1) (tm 123) (tm 117)),
  se 9 (.st 1 (tm 124) (tm 122))])))
  (.reg [sm 0 125 (.bin .add 3 (tm 112) (.const (.int .i64 1))),
  sv 1 112 125]))))
def c94 : Cd := (.seq (.reg [sv 0 18 1,
  sc 1 19 105 [(tm 18)],
  sm 2 4 (.alloc (rep 64 (.int .u32 0))),
  se 3 (.st 64 (tm 4) (tm 19))])
  (.seq (.reg [sv 0 20 0,
  sm 1 21 (.nilc (tm 20)),
  sm 2 22 (.ia (.arr 8 1) (tm 21) (.const (.int .i64 0))),
  sm 3 23 (.ld1 (tm 22)),
  sv 4 24 0,
  sm 5 25 (.nilc (tm 24)),
  sm 6 26 (.ia (.arr 8 1) (tm 25) (.const (.int .i64 1))),
  sm 7 27 (.ld1 (tm 26)),
  sv 8 28 0,
  sm 9 29 (.nilc (tm 28)),
  sm 10 30 (.ia (.arr 8 1) (tm 29) (.const (.int .i64 2))),
  sm 11 31 (.ld1 (tm 30)),
  sv 12 32 0,
  sm 13 33 (.nilc (tm 32)),
  sm 14 34 (.ia (.arr 8 1) (tm 33) (.const (.int .i64 3))),
  sm 15 35 (.ld1 (tm 34)),
  sv 16 36 0,
  sm 17 37 (.nilc (tm 36)),
  sm 18 38 (.ia (.arr 8 1) (tm 37) (.const (.int .i64 4))),
  sm 19 39 (.ld1 (tm 38)),
  sv 20 40 0,
  sm 21 41 (.nilc (tm 40)),
  sm 22 42 (.ia (.arr 8 1) (tm 41) (.const (.int .i64 5))),
  sm 23 43 (.ld1 (tm 42)),
  sv 24 44 0,
  sm 25 45 (.nilc (tm 44)),
  sm 26 46 (.ia (.arr 8 1) (tm 45) (.const (.int .i64 6))),
  sm 27 47 (.ld1 (tm 46)),
  sv 28 48 0,
  sm 29 49 (.nilc (tm 48)),
  sm 30 50 (.ia (.arr 8 1) (tm 49) (.const (.int .i64 7))),
  sm 31 51 (.ld1 (tm 50)),
  sv 32 5 23,
  sv 33 6 27,
  sv 34 7 31,
  sv 35 8 35,
  sv 36 9 39,
  sv 37 10 43,
  sv 38 11 47,
  sv 39 12 51])
  (.seq (.seq (.reg [sm 0 52 (.mv (.const (.int .i64 0)))])
  (.block 0 (.loop l94_0)))
  (.seq (.reg [sv 0 103 5,
  sv 1 104 6,
  sv 2 105 7,
  sv 3 106 8,
  sv 4 107 9,
  sv 5 108 10,
  sv 6 109 11,
  sv 7 110 12,
  sm 8 111 (.bld [.int .u32 0, .int .u32 0, .int .u32 0, .int .u32 0, .int .u32 0, .int .u32 0, .int .u32 0, .int .u32 0] [(0, 1, (tm 103)), (1, 1, (tm 104)), (2, 1, (tm 105)), (3, 1, (tm 106)), (4, 1, (tm 107)), (5, 1, (tm 108)), (6, 1, (tm 109)), (7, 1, (tm 110))]),
  sm 9 112 (.mv (.const (.int .i64 0)))])
  (.block 2 (.loop l94_1))))))
def r94 : List Mo := []
theorem c94_eq : compF Tryd.prog 94 = some c94 := by kernel_rfl
theorem r94_eq : compRs Tryd.prog 94 = some r94 := by kernel_rfl
/-! F95 slices.Clone[[]byte,byte] -/
def c95 : Cd := (.seq (.reg [sm 0 2 (.mv (.const (.slice none 0 0)))])
  (.seq (.seq (.reg [sv 0 3 0,
  sm 1 4 (.bin .eql 73 (tm 3) (.const (.slice none 0 0)))])
  (.cond (tm 4) (.seq (.reg [sm 0 2 (.mv (.const (.slice none 0 0)))])
  .ret) .skip))
  (.seq (.reg [sm 0 5 (.bsl 1 [.int .u8 0] 0 []),
  sv 1 6 0,
  sm 2 7 (.app 1 1 (tm 5) (tm 6)),
  sv 3 2 7])
  .ret)))
def r95 : List Mo := [.mv (tm 2)]
theorem c95_eq : compF Tryd.prog 95 = some c95 := by kernel_rfl
theorem r95_eq : compRs Tryd.prog 95 = some r95 := by kernel_rfl
/-! F96 braid/braidref01.turn -/
def c96 : Cd := (.seq (.reg [sm 0 4 (.mv (.const (.int .u32 0)))])
  (.seq (.reg [sv 0 5 0,
  sv 1 6 1,
  sm 2 7 (.bin .shr 105 (tm 5) (tm 6)),
  sv 3 8 0,
  sv 4 9 1,
  sm 5 10 (.bin .sub 3 (.const (.int .i64 32)) (tm 9)),
  sm 6 11 (.bin .shl 105 (tm 8) (tm 10)),
  sm 7 12 (.bin .or 105 (tm 7) (tm 11)),
  sv 8 4 12])
  .ret))
def r96 : List Mo := [.mv (tm 4)]
theorem c96_eq : compF Tryd.prog 96 = some c96 := by kernel_rfl
theorem r96_eq : compRs Tryd.prog 96 = some r96 := by kernel_rfl
/-! F97 braid/braidref01.constants -/
def c97 : Cd := (.seq (.reg [sm 0 0 (.mv (.const (.slice none 0 0)))])
  (.seq (.reg [sm 0 1 (.bsl 1 [.int .u32 0] 64 [(0, (.const (.int .u32 1116352408))), (1, (.const (.int .u32 1899447441))), (2, (.const (.int .u32 3049323471))), (3, (.const (.int .u32 3921009573))), (4, (.const (.int .u32 961987163))), (5, (.const (.int .u32 1508970993))), (6, (.const (.int .u32 2453635748))), (7, (.const (.int .u32 2870763221))), (8, (.const (.int .u32 3624381080))), (9, (.const (.int .u32 310598401))), (10, (.const (.int .u32 607225278))), (11, (.const (.int .u32 1426881987))), (12, (.const (.int .u32 1925078388))), (13, (.const (.int .u32 2162078206))), (14, (.const (.int .u32 2614888103))), (15, (.const (.int .u32 3248222580))), (16, (.const (.int .u32 3835390401))), (17, (.const (.int .u32 4022224774))), (18, (.const (.int .u32 264347078))), (19, (.const (.int .u32 604807628))), (20, (.const (.int .u32 770255983))), (21, (.const (.int .u32 1249150122))), (22, (.const (.int .u32 1555081692))), (23, (.const (.int .u32 1996064986))), (24, (.const (.int .u32 2554220882))), (25, (.const (.int .u32 2821834349))), (26, (.const (.int .u32 2952996808))), (27, (.const (.int .u32 3210313671))), (28, (.const (.int .u32 3336571891))), (29, (.const (.int .u32 3584528711))), (30, (.const (.int .u32 113926993))), (31, (.const (.int .u32 338241895))), (32, (.const (.int .u32 666307205))), (33, (.const (.int .u32 773529912))), (34, (.const (.int .u32 1294757372))), (35, (.const (.int .u32 1396182291))), (36, (.const (.int .u32 1695183700))), (37, (.const (.int .u32 1986661051))), (38, (.const (.int .u32 2177026350))), (39, (.const (.int .u32 2456956037))), (40, (.const (.int .u32 2730485921))), (41, (.const (.int .u32 2820302411))), (42, (.const (.int .u32 3259730800))), (43, (.const (.int .u32 3345764771))), (44, (.const (.int .u32 3516065817))), (45, (.const (.int .u32 3600352804))), (46, (.const (.int .u32 4094571909))), (47, (.const (.int .u32 275423344))), (48, (.const (.int .u32 430227734))), (49, (.const (.int .u32 506948616))), (50, (.const (.int .u32 659060556))), (51, (.const (.int .u32 883997877))), (52, (.const (.int .u32 958139571))), (53, (.const (.int .u32 1322822218))), (54, (.const (.int .u32 1537002063))), (55, (.const (.int .u32 1747873779))), (56, (.const (.int .u32 1955562222))), (57, (.const (.int .u32 2024104815))), (58, (.const (.int .u32 2227730452))), (59, (.const (.int .u32 2361852424))), (60, (.const (.int .u32 2428436474))), (61, (.const (.int .u32 2756734187))), (62, (.const (.int .u32 3204031479))), (63, (.const (.int .u32 3329325298)))]),
  sv 1 0 1])
  .ret))
def r97 : List Mo := [.mv (tm 0)]
theorem c97_eq : compF Tryd.prog 97 = some c97 := by kernel_rfl
theorem r97_eq : compRs Tryd.prog 97 = some r97 := by kernel_rfl
/-! F98 slices.siftDownCmpFunc[braid/api.ID] -/
def l98_0 : Cd := (.block 1 (.seq (.reg [sv 0 13 10,
  sm 1 14 (.bin .mul 3 (.const (.int .i64 2)) (tm 13)),
  sm 2 15 (.bin .add 3 (tm 14) (.const (.int .i64 1))),
  sv 3 11 15])
  (.seq (.seq (.reg [sv 0 16 11,
  sv 1 17 2,
  sm 2 18 (.bin .geq 3 (tm 16) (tm 17))])
  (.cond (tm 18) (.exit 0) .skip))
  (.seq (.seq (.reg [sv 0 19 11,
  sm 1 20 (.bin .add 3 (tm 19) (.const (.int .i64 1))),
  sv 2 21 2,
  sm 3 22 (.bin .lss 3 (tm 20) (tm 21)),
  sv 4 23 22,
  sg 5 24 23 true (.mv (tm 4)),
  sg 6 25 23 true (.mv (tm 0)),
  sg 7 26 23 true (.mv (tm 3)),
  sg 8 27 23 true (.mv (tm 11)),
  sg 9 28 23 true (.bin .add 3 (tm 26) (tm 27)),
  sg 10 29 23 true (.ia (.sl 32) (tm 25) (tm 28)),
  sg 11 30 23 true (.ldA 32 (tm 29)),
  sg 12 31 23 true (.mv (tm 0)),
  sg 13 32 23 true (.mv (tm 3)),
  sg 14 33 23 true (.mv (tm 11)),
  sg 15 34 23 true (.bin .add 3 (tm 32) (tm 33)),
  sg 16 35 23 true (.bin .add 3 (tm 34) (.const (.int .i64 1))),
  sg 17 36 23 true (.ia (.sl 32) (tm 31) (tm 35)),
  sg 18 37 23 true (.ldA 32 (tm 36)),
  ⟨19, (some 38), (some ((some 23), true)), .callV (tm 24) [(tm 30), (tm 37)], [], false⟩,
  sg 20 39 23 true (.bin .lss 3 (tm 38) (.const (.int .i64 0))),
  sm 21 40 (.pick (tm 23) (tm 39) (.const (.bool false)))])
  (.cond (tm 40) (.reg [sv 0 41 11,
  sm 1 42 (.bin .add 3 (tm 41) (.const (.int .i64 1))),
  sv 2 11 42]) .skip))
  (.seq (.seq (.reg [sv 0 43 4,
  sv 1 44 0,
  sv 2 45 3,
  sv 3 46 10,
  sm 4 47 (.bin .add 3 (tm 45) (tm 46)),
  sm 5 48 (.ia (.sl 32) (tm 44) (tm 47)),
  sm 6 49 (.ldA 32 (tm 48)),
  sv 7 50 0,
  sv 8 51 3,
  sv 9 52 11,
  sm 10 53 (.bin .add 3 (tm 51) (tm 52)),
  sm 11 54 (.ia (.sl 32) (tm 50) (tm 53)),
  sm 12 55 (.ldA 32 (tm 54)),
  ⟨13, (some 56), none, .callV (tm 43) [(tm 49), (tm 55)], [], false⟩,
  sm 14 57 (.bin .lss 3 (tm 56) (.const (.int .i64 0))),
  sm 15 58 (.un .not (tm 57))])
  (.cond (tm 58) .ret .skip))
  (.seq (.reg [sv 0 59 0,
  sv 1 60 3,
  sv 2 61 10,
  sm 3 62 (.bin .add 3 (tm 60) (tm 61)),
  sv 4 63 0,
  sv 5 64 3,
  sv 6 65 11,
  sm 7 66 (.bin .add 3 (tm 64) (tm 65)),
  sv 8 67 0,
  sv 9 68 3,
  sv 10 69 11,
  sm 11 70 (.bin .add 3 (tm 68) (tm 69)),
  sm 12 71 (.ia (.sl 32) (tm 67) (tm 70)),
  sm 13 72 (.ldA 32 (tm 71)),
  sv 14 73 0,
  sv 15 74 3,
  sv 16 75 10,
  sm 17 76 (.bin .add 3 (tm 74) (tm 75)),
  sm 18 77 (.ia (.sl 32) (tm 73) (tm 76)),
  sm 19 78 (.ldA 32 (tm 77)),
  sm 20 79 (.ia (.sl 32) (tm 59) (tm 62)),
  se 21 (.st 32 (tm 79) (tm 72)),
  sm 22 80 (.ia (.sl 32) (tm 63) (tm 66)),
  se 23 (.st 32 (tm 80) (tm 78))])
  (.reg [sv 0 81 11,
  sv 1 10 81])))))))
def c98 : Cd := (.seq (.reg [sv 0 12 1,
  sv 1 10 12])
  (.block 0 (.loop l98_0)))
def r98 : List Mo := []
theorem c98_eq : compF Tryd.prog 98 = some c98 := by kernel_rfl
theorem r98_eq : compRs Tryd.prog 98 = some r98 := by kernel_rfl
/-! F99 slices.nextPowerOfTwo -/
def c99 : Cd := (.seq (.reg [sm 0 2 (.mv (.const (.int .u64 0)))])
  (.seq (.reg [sv 0 3 0,
  sm 1 4 (.cint .u64 (tm 3)),
  sc 2 5 73 [(tm 4)],
  sm 3 6 (.bin .shl 74 (.const (.int .u64 1)) (tm 5)),
  sv 4 2 6])
  .ret))
def r99 : List Mo := [.mv (tm 2)]
theorem c99_eq : compF Tryd.prog 99 = some c99 := by kernel_rfl
theorem r99_eq : compRs Tryd.prog 99 = some r99 := by kernel_rfl
/-! F100 (*slices.xorshift).Next -/
def c100 : Cd := (.seq (.reg [sm 0 2 (.mv (.const (.int .u64 0)))])
  (.seq (.reg [sv 0 3 0,
  sm 1 4 (.nilc (tm 3)),
  sm 2 5 (.ld1 (tm 4)),
  sv 3 6 0,
  sm 4 7 (.nilc (tm 6)),
  sm 5 8 (.ld1 (tm 7)),
  sm 6 9 (.bin .shl 139 (tm 8) (.const (.int .u64 13))),
  sm 7 10 (.bin .xor 139 (tm 5) (tm 9)),
  sm 8 11 (.nilc (tm 3)),
  se 9 (.st 1 (tm 11) (tm 10))])
  (.seq (.reg [sv 0 12 0,
  sm 1 13 (.nilc (tm 12)),
  sm 2 14 (.ld1 (tm 13)),
  sv 3 15 0,
  sm 4 16 (.nilc (tm 15)),
  sm 5 17 (.ld1 (tm 16)),
  sm 6 18 (.bin .shr 139 (tm 17) (.const (.int .u64 7))),
  sm 7 19 (.bin .xor 139 (tm 14) (tm 18)),
  sm 8 20 (.nilc (tm 12)),
  se 9 (.st 1 (tm 20) (tm 19))])
  (.seq (.reg [sv 0 21 0,
  sm 1 22 (.nilc (tm 21)),
  sm 2 23 (.ld1 (tm 22)),
  sv 3 24 0,
  sm 4 25 (.nilc (tm 24)),
  sm 5 26 (.ld1 (tm 25)),
  sm 6 27 (.bin .shl 139 (tm 26) (.const (.int .u64 17))),
  sm 7 28 (.bin .xor 139 (tm 23) (tm 27)),
  sm 8 29 (.nilc (tm 21)),
  se 9 (.st 1 (tm 29) (tm 28))])
  (.seq (.reg [sv 0 30 0,
  sm 1 31 (.nilc (tm 30)),
  sm 2 32 (.ld1 (tm 31)),
  sv 3 2 32])
  .ret)))))
def r100 : List Mo := [.mv (tm 2)]
theorem c100_eq : compF Tryd.prog 100 = some c100 := by kernel_rfl
theorem r100_eq : compRs Tryd.prog 100 = some r100 := by kernel_rfl
/-! F101 slices.medianAdjacentCmpFunc[braid/api.ID] -/
def c101 : Cd := (.seq (.reg [sm 0 8 (.mv (.const (.int .i64 0)))])
  (.seq (.reg [sv 0 9 0,
  sv 1 10 1,
  sm 2 11 (.bin .sub 3 (tm 10) (.const (.int .i64 1))),
  sv 3 12 1,
  sv 4 13 1,
  sm 5 14 (.bin .add 3 (tm 13) (.const (.int .i64 1))),
  sv 6 15 2,
  sv 7 16 3,
  sc 8 17 102 [(tm 9), (tm 11), (tm 12), (tm 14), (tm 15), (tm 16)],
  sv 9 8 17])
  .ret))
def r101 : List Mo := [.mv (tm 8)]
theorem c101_eq : compF Tryd.prog 101 = some c101 := by kernel_rfl
theorem r101_eq : compRs Tryd.prog 101 = some r101 := by kernel_rfl
/-! F102 slices.medianCmpFunc[braid/api.ID] -/
def c102 : Cd := (.seq (.reg [sm 0 12 (.mv (.const (.int .i64 0)))])
  (.seq (.reg [sv 0 14 0,
  sv 1 15 1,
  sv 2 16 2,
  sv 3 17 4,
  sv 4 18 5,
  sc 5 19 107 [(tm 14), (tm 15), (tm 16), (tm 17), (tm 18)],
  sv 6 13 19,
  sm 7 20 (.ext (tm 13) 0),
  sm 8 21 (.ext (tm 13) 1),
  sv 9 1 20,
  sv 10 2 21])
  (.seq (.reg [sv 0 23 0,
  sv 1 24 2,
  sv 2 25 3,
  sv 3 26 4,
  sv 4 27 5,
  sc 5 28 107 [(tm 23), (tm 24), (tm 25), (tm 26), (tm 27)],
  sv 6 22 28,
  sm 7 29 (.ext (tm 22) 0),
  sm 8 30 (.ext (tm 22) 1),
  sv 9 2 29,
  sv 10 3 30])
  (.seq (.reg [sv 0 32 0,
  sv 1 33 1,
  sv 2 34 2,
  sv 3 35 4,
  sv 4 36 5,
  sc 5 37 107 [(tm 32), (tm 33), (tm 34), (tm 35), (tm 36)],
  sv 6 31 37,
  sm 7 38 (.ext (tm 31) 0),
  sm 8 39 (.ext (tm 31) 1),
  sv 9 1 38,
  sv 10 2 39])
  (.seq (.reg [sv 0 40 2,
  sv 1 12 40])
  .ret)))))
def r102 : List Mo := [.mv (tm 12)]
theorem c102_eq : compF Tryd.prog 102 = some c102 := by kernel_rfl
theorem r102_eq : compRs Tryd.prog 102 = some r102 := by kernel_rfl
/-! F103 cmp.isNaN[byte] -/
def c103 : Cd := (.seq (.reg [sm 0 2 (.mv (.const (.bool false)))])
  (.seq (.reg [sv 0 3 0,
  sv 1 4 0,
  sm 2 5 (.bin .neq 5 (tm 3) (tm 4)),
  sv 3 2 5])
  .ret))
def r103 : List Mo := [.mv (tm 2)]
theorem c103_eq : compF Tryd.prog 103 = some c103 := by kernel_rfl
theorem r103_eq : compRs Tryd.prog 103 = some r103 := by kernel_rfl
/-! F104 slices.Grow[[]byte,byte] -/
def c104 : Cd := (.seq (.reg [sm 0 4 (.mv (.const (.slice none 0 0)))])
  (.seq (.seq (.reg [sv 0 5 1,
  sm 1 6 (.bin .lss 3 (tm 5) (.const (.int .i64 0)))])
  (.cond (tm 6) (.reg [sm 0 7 (.mkI 9 (.const (.string ⟨#[99, 97, 110, 110, 111, 116, 32, 98, 101, 32, 110, 101, 103, 97, 116, 105, 118, 101]⟩))),
  se 1 (.stop)]) .skip))
  (.seq (.seq (.reg [sv 0 8 1,
  sv 1 9 0,
  sm 2 10 (.cap (.sl 1) (tm 9)),
  sv 3 11 0,
  sm 4 12 (.len (.sl 1) (tm 11)),
  sm 5 13 (.bin .sub 3 (tm 10) (tm 12)),
  sm 6 14 (.bin .sub 3 (tm 8) (tm 13)),
  sv 7 1 14])
  (.seq (.reg [sv 0 15 1,
  sm 1 16 (.bin .gtr 3 (tm 15) (.const (.int .i64 0)))])
  (.cond (tm 16) (.reg [sv 0 17 0,
  sv 1 18 0,
  sm 2 19 (.cap (.sl 1) (tm 18)),
  sm 3 20 (.slice (.sl 1) (tm 17) none (some (tm 19)) none),
  sv 4 21 1,
  sm 5 22 (.appZ 1 1 [.int .u8 0] (tm 20) (tm 21)),
  sv 6 23 0,
  sm 7 24 (.len (.sl 1) (tm 23)),
  sm 8 25 (.slice (.sl 1) (tm 22) none (some (tm 24)) none),
  sv 9 0 25]) .skip)))
  (.seq (.reg [sv 0 26 0,
  sv 1 4 26])
  .ret))))
def r104 : List Mo := [.mv (tm 4)]
theorem c104_eq : compF Tryd.prog 104 = some c104 := by kernel_rfl
theorem r104_eq : compRs Tryd.prog 104 = some r104 := by kernel_rfl
/-! F105 braid/digest.schedule -/
def l105_0 : Cd := (.seq (.reg [sm 0 14 (.bin .lss 3 (tm 13) (tm 12))])
  (.seq (.cond (tm 14) .skip (.exit 0))
  (.seq (.block 1 (.seq (.reg [sv 0 15 13,
  sm 1 16 (.ia (.sl 1) (tm 11) (tm 13)),
  sm 2 17 (.ld1 (tm 16)),
  sv 3 3 15,
  sv 4 4 17])
  (.reg [sv 0 18 3,
  sm 1 19 (.bin .quo 3 (tm 18) (.const (.int .i64 4))),
  sv 2 20 3,
  sm 3 21 (.bin .quo 3 (tm 20) (.const (.int .i64 4))),
  sm 4 22 (.ia (.arr 64 1) (tm 2) (tm 21)),
  sm 5 23 (.ld1 (tm 22)),
  sm 6 24 (.bin .shl 105 (tm 23) (.const (.int .u64 8))),
  sv 7 25 4,
  sm 8 26 (.cint .u32 (tm 25)),
  sm 9 27 (.bin .or 105 (tm 24) (tm 26)),
  sm 10 28 (.ia (.arr 64 1) (tm 2) (tm 19)),
  se 11 (.st 1 (tm 28) (tm 27))])))
  (.reg [sm 0 29 (.bin .add 3 (tm 13) (.const (.int .i64 1))),
  sv 1 13 29]))))
def l105_1 : Cd := (.seq (.seq (.reg [sv 0 30 5,
  sm 1 31 (.bin .lss 3 (tm 30) (.const (.int .i64 64)))])
  (.cond (tm 31) .skip (.exit 2)))
  (.seq (.block 3 (.seq (.reg [sv 0 34 5,
  sm 1 35 (.bin .sub 3 (tm 34) (.const (.int .i64 15))),
  sm 2 36 (.ia (.arr 64 1) (tm 2) (tm 35)),
  sm 3 37 (.ld1 (tm 36)),
  sv 4 38 5,
  sm 5 39 (.bin .sub 3 (tm 38) (.const (.int .i64 2))),
  sm 6 40 (.ia (.arr 64 1) (tm 2) (tm 39)),
  sm 7 41 (.ld1 (tm 40)),
  sv 8 6 37,
  sv 9 7 41])
  (.seq (.reg [sv 0 42 6,
  sc 1 43 108 [(tm 42), (.const (.int .i64 (-7)))],
  sv 2 44 6,
  sc 3 45 108 [(tm 44), (.const (.int .i64 (-18)))],
  sm 4 46 (.bin .xor 105 (tm 43) (tm 45)),
  sv 5 47 6,
  sm 6 48 (.bin .shr 105 (tm 47) (.const (.int .u64 3))),
  sm 7 49 (.bin .xor 105 (tm 46) (tm 48)),
  sv 8 8 49])
  (.seq (.reg [sv 0 50 7,
  sc 1 51 108 [(tm 50), (.const (.int .i64 (-17)))],
  sv 2 52 7,
  sc 3 53 108 [(tm 52), (.const (.int .i64 (-19)))],
  sm 4 54 (.bin .xor 105 (tm 51) (tm 53)),
  sv 5 55 7,
  sm 6 56 (.bin .shr 105 (tm 55) (.const (.int .u64 10))),
  sm 7 57 (.bin .xor 105 (tm 54) (tm 56)),
  sv 8 9 57])
  (.reg [sv 0 58 5,
  sv 1 59 5,
  sm 2 60 (.bin .sub 3 (tm 59) (.const (.int .i64 16))),
  sm 3 61 (.ia (.arr 64 1) (tm 2) (tm 60)),
  sm 4 62 (.ld1 (tm 61)),
  sv 5 63 5,
  sm 6 64 (.bin .sub 3 (tm 63) (.const (.int .i64 7))),
  sm 7 65 (.ia (.arr 64 1) (tm 2) (tm 64)),
  sm 8 66 (.ld1 (tm 65)),
  sm 9 67 (.bin .add 105 (tm 62) (tm 66)),
  sv 10 68 8,
  sm 11 69 (.bin .add 105 (tm 67) (tm 68)),
  sv 12 70 9,
  sm 13 71 (.bin .add 105 (tm 69) (tm 70)),
  sm 14 72 (.ia (.arr 64 1) (tm 2) (tm 58)),
  se 15 (.st 1 (tm 72) (tm 71))])))))
  (.reg [sv 0 32 5,
  sm 1 33 (.bin .add 3 (tm 32) (.const (.int .i64 1))),
  sv 2 5 33])))
def c105 : Cd := (.seq (.reg [sm 0 2 (.alloc (rep 64 (.int .u32 0)))])
  (.seq (.seq (.reg [sv 0 10 0,
  sm 1 11 (.slice (.sl 1) (tm 10) none (some (.const (.int .i64 64))) none),
  sm 2 12 (.len (.sl 1) (tm 11)),
  sm 3 13 (.mv (.const (.int .i64 0)))])
  (.block 0 (.loop l105_0)))
  (.seq (.seq (.reg [sm 0 5 (.mv (.const (.int .i64 16)))])
  (.block 2 (.loop l105_1)))
  (.seq (.reg [sm 0 73 (.ldA 64 (tm 2)),
  se 1 (.st 64 (tm 2) (tm 73))])
  .ret))))
def r105 : List Mo := [.ldA 64 (tm 2)]
theorem c105_eq : compF Tryd.prog 105 = some c105 := by kernel_rfl
theorem r105_eq : compRs Tryd.prog 105 = some r105 := by kernel_rfl
/-! F106 braid/digest.mix -/
def c106 : Cd := (.seq (.reg [sm 0 8 (.mv (.const (.int .u32 0)))])
  (.seq (.reg [sv 0 9 0,
  sv 1 10 1,
  sm 2 11 (.un .neg (tm 10)),
  sc 3 12 108 [(tm 9), (tm 11)],
  sv 4 13 0,
  sv 5 14 2,
  sm 6 15 (.un .neg (tm 14)),
  sc 7 16 108 [(tm 13), (tm 15)],
  sm 8 17 (.bin .xor 105 (tm 12) (tm 16)),
  sv 9 18 0,
  sv 10 19 3,
  sm 11 20 (.un .neg (tm 19)),
  sc 12 21 108 [(tm 18), (tm 20)],
  sm 13 22 (.bin .xor 105 (tm 17) (tm 21)),
  sv 14 8 22])
  .ret))
def r106 : List Mo := [.mv (tm 8)]
theorem c106_eq : compF Tryd.prog 106 = some c106 := by kernel_rfl
theorem r106_eq : compRs Tryd.prog 106 = some r106 := by kernel_rfl
/-! F107 slices.order2CmpFunc[braid/api.ID] -/
def c107 : Cd := (.seq (.reg [sm 0 10 (.mv (.const (.int .i64 0))),
  sm 1 11 (.mv (.const (.int .i64 0)))])
  (.seq (.seq (.reg [sv 0 12 4,
  sv 1 13 0,
  sv 2 14 2,
  sm 3 15 (.ia (.sl 32) (tm 13) (tm 14)),
  sm 4 16 (.ldA 32 (tm 15)),
  sv 5 17 0,
  sv 6 18 1,
  sm 7 19 (.ia (.sl 32) (tm 17) (tm 18)),
  sm 8 20 (.ldA 32 (tm 19)),
  ⟨9, (some 21), none, .callV (tm 12) [(tm 16), (tm 20)], [], false⟩,
  sm 10 22 (.bin .lss 3 (tm 21) (.const (.int .i64 0)))])
  (.cond (tm 22) (.seq (.reg [sv 0 23 3,
  sm 1 24 (.nilc (tm 23)),
  sm 2 25 (.ld1 (tm 24)),
  sm 3 26 (.bin .add 3 (tm 25) (.const (.int .i64 1))),
  sm 4 27 (.nilc (tm 23)),
  se 5 (.st 1 (tm 27) (tm 26))])
  (.seq (.reg [sv 0 28 2,
  sv 1 29 1,
  sv 2 10 28,
  sv 3 11 29])
  .ret)) .skip))
  (.seq (.reg [sv 0 30 1,
  sv 1 31 2,
  sv 2 10 30,
  sv 3 11 31])
  .ret)))
def r107 : List Mo := [.mv (tm 10), .mv (tm 11)]
theorem c107_eq : compF Tryd.prog 107 = some c107 := by kernel_rfl
theorem r107_eq : compRs Tryd.prog 107 = some r107 := by kernel_rfl
/-! F108 math/bits.RotateLeft32 -/
def c108 : Cd := (.seq (.reg [sm 0 4 (.mv (.const (.int .u32 0)))])
  (.seq (.reg [sv 0 6 1,
  sm 1 7 (.cint .u64 (tm 6)),
  sm 2 8 (.bin .and 74 (tm 7) (.const (.int .u64 31))),
  sv 3 5 8])
  (.seq (.reg [sv 0 9 0,
  sv 1 10 5,
  sm 2 11 (.bin .shl 105 (tm 9) (tm 10)),
  sv 3 12 0,
  sv 4 13 5,
  sm 5 14 (.bin .sub 74 (.const (.int .u64 32)) (tm 13)),
  sm 6 15 (.bin .shr 105 (tm 12) (tm 14)),
  sm 7 16 (.bin .or 105 (tm 11) (tm 15)),
  sv 8 4 16])
  .ret)))
def r108 : List Mo := [.mv (tm 4)]
theorem c108_eq : compF Tryd.prog 108 = some c108 := by kernel_rfl
theorem r108_eq : compRs Tryd.prog 108 = some r108 := by kernel_rfl
/-! F129 gosem.cut.vars -/
def c129 : Cd := (.reg [sm 0 0 (.bld (rep 64 (.int .u32 0)) [(0, 1, (.const (.int .u32 1116352408))), (1, 1, (.const (.int .u32 1899447441))), (2, 1, (.const (.int .u32 3049323471))), (3, 1, (.const (.int .u32 3921009573))), (4, 1, (.const (.int .u32 961987163))), (5, 1, (.const (.int .u32 1508970993))), (6, 1, (.const (.int .u32 2453635748))), (7, 1, (.const (.int .u32 2870763221))), (8, 1, (.const (.int .u32 3624381080))), (9, 1, (.const (.int .u32 310598401))), (10, 1, (.const (.int .u32 607225278))), (11, 1, (.const (.int .u32 1426881987))), (12, 1, (.const (.int .u32 1925078388))), (13, 1, (.const (.int .u32 2162078206))), (14, 1, (.const (.int .u32 2614888103))), (15, 1, (.const (.int .u32 3248222580))), (16, 1, (.const (.int .u32 3835390401))), (17, 1, (.const (.int .u32 4022224774))), (18, 1, (.const (.int .u32 264347078))), (19, 1, (.const (.int .u32 604807628))), (20, 1, (.const (.int .u32 770255983))), (21, 1, (.const (.int .u32 1249150122))), (22, 1, (.const (.int .u32 1555081692))), (23, 1, (.const (.int .u32 1996064986))), (24, 1, (.const (.int .u32 2554220882))), (25, 1, (.const (.int .u32 2821834349))), (26, 1, (.const (.int .u32 2952996808))), (27, 1, (.const (.int .u32 3210313671))), (28, 1, (.const (.int .u32 3336571891))), (29, 1, (.const (.int .u32 3584528711))), (30, 1, (.const (.int .u32 113926993))), (31, 1, (.const (.int .u32 338241895))), (32, 1, (.const (.int .u32 666307205))), (33, 1, (.const (.int .u32 773529912))), (34, 1, (.const (.int .u32 1294757372))), (35, 1, (.const (.int .u32 1396182291))), (36, 1, (.const (.int .u32 1695183700))), (37, 1, (.const (.int .u32 1986661051))), (38, 1, (.const (.int .u32 2177026350))), (39, 1, (.const (.int .u32 2456956037))), (40, 1, (.const (.int .u32 2730485921))), (41, 1, (.const (.int .u32 2820302411))), (42, 1, (.const (.int .u32 3259730800))), (43, 1, (.const (.int .u32 3345764771))), (44, 1, (.const (.int .u32 3516065817))), (45, 1, (.const (.int .u32 3600352804))), (46, 1, (.const (.int .u32 4094571909))), (47, 1, (.const (.int .u32 275423344))), (48, 1, (.const (.int .u32 430227734))), (49, 1, (.const (.int .u32 506948616))), (50, 1, (.const (.int .u32 659060556))), (51, 1, (.const (.int .u32 883997877))), (52, 1, (.const (.int .u32 958139571))), (53, 1, (.const (.int .u32 1322822218))), (54, 1, (.const (.int .u32 1537002063))), (55, 1, (.const (.int .u32 1747873779))), (56, 1, (.const (.int .u32 1955562222))), (57, 1, (.const (.int .u32 2024104815))), (58, 1, (.const (.int .u32 2227730452))), (59, 1, (.const (.int .u32 2361852424))), (60, 1, (.const (.int .u32 2428436474))), (61, 1, (.const (.int .u32 2756734187))), (62, 1, (.const (.int .u32 3204031479))), (63, 1, (.const (.int .u32 3329325298)))]),
  se 1 (.st 64 (.global 0) (tm 0))])
def r129 : List Mo := []
theorem c129_eq : compF Tryd.prog 129 = some c129 := by kernel_rfl
theorem r129_eq : compRs Tryd.prog 129 = some r129 := by kernel_rfl
def tblT : Tr (Cd × List Mo) := (.node (.node (.node (.node (.node (.node (.node .nil (some (c63, r63)) .nil) (some (c31, r31)) (.node .nil (some (c95, r95)) .nil)) (some (c15, r15)) (.node (.node .nil (some (c79, r79)) .nil) (some (c47, r47)) .nil)) (some (c7, r7)) (.node (.node (.node .nil (some (c71, r71)) .nil) (some (c39, r39)) (.node .nil (some (c103, r103)) .nil)) (some (c23, r23)) (.node (.node .nil (some (c87, r87)) .nil) (some (c55, r55)) .nil))) (some (c3, r3)) (.node (.node (.node (.node .nil (some (c67, r67)) .nil) (some (c35, r35)) (.node .nil (some (c99, r99)) .nil)) (some (c19, r19)) (.node (.node .nil (some (c83, r83)) .nil) (some (c51, r51)) .nil)) (some (c11, r11)) (.node (.node (.node .nil (some (c75, r75)) .nil) (some (c43, r43)) (.node .nil (some (c107, r107)) .nil)) (some (c27, r27)) (.node (.node .nil (some (c91, r91)) .nil) (some (c59, r59)) .nil)))) none (.node (.node (.node (.node (.node (.node .nil (some (c129, r129)) .nil) (some (c65, r65)) .nil) (some (c33, r33)) (.node .nil (some (c97, r97)) .nil)) (some (c17, r17)) (.node (.node .nil (some (c81, r81)) .nil) (some (c49, r49)) .nil)) (some (c9, r9)) (.node (.node (.node .nil (some (c73, r73)) .nil) (some (c41, r41)) (.node .nil (some (c105, r105)) .nil)) (some (c25, r25)) (.node (.node .nil (some (c89, r89)) .nil) (some (c57, r57)) .nil))) (some (c5, r5)) (.node (.node (.node (.node .nil (some (c69, r69)) .nil) (some (c37, r37)) (.node .nil (some (c101, r101)) .nil)) (some (c21, r21)) (.node (.node .nil (some (c85, r85)) .nil) (some (c53, r53)) .nil)) (some (c13, r13)) (.node (.node (.node .nil (some (c77, r77)) .nil) (some (c45, r45)) .nil) (some (c29, r29)) (.node (.node .nil (some (c93, r93)) .nil) (some (c61, r61)) .nil))))) none (.node (.node (.node (.node (.node (.node .nil (some (c64, r64)) .nil) (some (c32, r32)) (.node .nil (some (c96, r96)) .nil)) (some (c16, r16)) (.node (.node .nil (some (c80, r80)) .nil) (some (c48, r48)) .nil)) (some (c8, r8)) (.node (.node (.node .nil (some (c72, r72)) .nil) (some (c40, r40)) (.node .nil (some (c104, r104)) .nil)) (some (c24, r24)) (.node (.node .nil (some (c88, r88)) .nil) (some (c56, r56)) .nil))) (some (c4, r4)) (.node (.node (.node (.node .nil (some (c68, r68)) .nil) (some (c36, r36)) (.node .nil (some (c100, r100)) .nil)) (some (c20, r20)) (.node (.node .nil (some (c84, r84)) .nil) (some (c52, r52)) .nil)) (some (c12, r12)) (.node (.node (.node .nil (some (c76, r76)) .nil) (some (c44, r44)) (.node .nil (some (c108, r108)) .nil)) (some (c28, r28)) (.node (.node .nil (some (c92, r92)) .nil) (some (c60, r60)) .nil)))) none (.node (.node (.node (.node (.node .nil (some (c66, r66)) .nil) (some (c34, r34)) (.node .nil (some (c98, r98)) .nil)) (some (c18, r18)) (.node (.node .nil (some (c82, r82)) .nil) (some (c50, r50)) .nil)) (some (c10, r10)) (.node (.node (.node .nil (some (c74, r74)) .nil) (some (c42, r42)) (.node .nil (some (c106, r106)) .nil)) (some (c26, r26)) (.node (.node .nil (some (c90, r90)) .nil) (some (c58, r58)) .nil))) (some (c6, r6)) (.node (.node (.node (.node .nil (some (c70, r70)) .nil) (some (c38, r38)) (.node .nil (some (c102, r102)) .nil)) (some (c22, r22)) (.node (.node .nil (some (c86, r86)) .nil) (some (c54, r54)) .nil)) (some (c14, r14)) (.node (.node (.node .nil (some (c78, r78)) .nil) (some (c46, r46)) .nil) (some (c30, r30)) (.node (.node .nil (some (c94, r94)) .nil) (some (c62, r62)) .nil))))))
theorem tbl_all : AllT (TblP Tryd.prog) tblT := (allT_none (allT_none (allT_some ⟨c3_eq, r3_eq⟩ (allT_some ⟨c7_eq, r7_eq⟩ (allT_some ⟨c15_eq, r15_eq⟩ (allT_some ⟨c31_eq, r31_eq⟩ (allT_some ⟨c63_eq, r63_eq⟩ allT_nil allT_nil) (allT_some ⟨c95_eq, r95_eq⟩ allT_nil allT_nil)) (allT_some ⟨c47_eq, r47_eq⟩ (allT_some ⟨c79_eq, r79_eq⟩ allT_nil allT_nil) allT_nil)) (allT_some ⟨c23_eq, r23_eq⟩ (allT_some ⟨c39_eq, r39_eq⟩ (allT_some ⟨c71_eq, r71_eq⟩ allT_nil allT_nil) (allT_some ⟨c103_eq, r103_eq⟩ allT_nil allT_nil)) (allT_some ⟨c55_eq, r55_eq⟩ (allT_some ⟨c87_eq, r87_eq⟩ allT_nil allT_nil) allT_nil))) (allT_some ⟨c11_eq, r11_eq⟩ (allT_some ⟨c19_eq, r19_eq⟩ (allT_some ⟨c35_eq, r35_eq⟩ (allT_some ⟨c67_eq, r67_eq⟩ allT_nil allT_nil) (allT_some ⟨c99_eq, r99_eq⟩ allT_nil allT_nil)) (allT_some ⟨c51_eq, r51_eq⟩ (allT_some ⟨c83_eq, r83_eq⟩ allT_nil allT_nil) allT_nil)) (allT_some ⟨c27_eq, r27_eq⟩ (allT_some ⟨c43_eq, r43_eq⟩ (allT_some ⟨c75_eq, r75_eq⟩ allT_nil allT_nil) (allT_some ⟨c107_eq, r107_eq⟩ allT_nil allT_nil)) (allT_some ⟨c59_eq, r59_eq⟩ (allT_some ⟨c91_eq, r91_eq⟩ allT_nil allT_nil) allT_nil)))) (allT_some ⟨c5_eq, r5_eq⟩ (allT_some ⟨c9_eq, r9_eq⟩ (allT_some ⟨c17_eq, r17_eq⟩ (allT_some ⟨c33_eq, r33_eq⟩ (allT_some ⟨c65_eq, r65_eq⟩ (allT_some ⟨c129_eq, r129_eq⟩ allT_nil allT_nil) allT_nil) (allT_some ⟨c97_eq, r97_eq⟩ allT_nil allT_nil)) (allT_some ⟨c49_eq, r49_eq⟩ (allT_some ⟨c81_eq, r81_eq⟩ allT_nil allT_nil) allT_nil)) (allT_some ⟨c25_eq, r25_eq⟩ (allT_some ⟨c41_eq, r41_eq⟩ (allT_some ⟨c73_eq, r73_eq⟩ allT_nil allT_nil) (allT_some ⟨c105_eq, r105_eq⟩ allT_nil allT_nil)) (allT_some ⟨c57_eq, r57_eq⟩ (allT_some ⟨c89_eq, r89_eq⟩ allT_nil allT_nil) allT_nil))) (allT_some ⟨c13_eq, r13_eq⟩ (allT_some ⟨c21_eq, r21_eq⟩ (allT_some ⟨c37_eq, r37_eq⟩ (allT_some ⟨c69_eq, r69_eq⟩ allT_nil allT_nil) (allT_some ⟨c101_eq, r101_eq⟩ allT_nil allT_nil)) (allT_some ⟨c53_eq, r53_eq⟩ (allT_some ⟨c85_eq, r85_eq⟩ allT_nil allT_nil) allT_nil)) (allT_some ⟨c29_eq, r29_eq⟩ (allT_some ⟨c45_eq, r45_eq⟩ (allT_some ⟨c77_eq, r77_eq⟩ allT_nil allT_nil) allT_nil) (allT_some ⟨c61_eq, r61_eq⟩ (allT_some ⟨c93_eq, r93_eq⟩ allT_nil allT_nil) allT_nil))))) (allT_none (allT_some ⟨c4_eq, r4_eq⟩ (allT_some ⟨c8_eq, r8_eq⟩ (allT_some ⟨c16_eq, r16_eq⟩ (allT_some ⟨c32_eq, r32_eq⟩ (allT_some ⟨c64_eq, r64_eq⟩ allT_nil allT_nil) (allT_some ⟨c96_eq, r96_eq⟩ allT_nil allT_nil)) (allT_some ⟨c48_eq, r48_eq⟩ (allT_some ⟨c80_eq, r80_eq⟩ allT_nil allT_nil) allT_nil)) (allT_some ⟨c24_eq, r24_eq⟩ (allT_some ⟨c40_eq, r40_eq⟩ (allT_some ⟨c72_eq, r72_eq⟩ allT_nil allT_nil) (allT_some ⟨c104_eq, r104_eq⟩ allT_nil allT_nil)) (allT_some ⟨c56_eq, r56_eq⟩ (allT_some ⟨c88_eq, r88_eq⟩ allT_nil allT_nil) allT_nil))) (allT_some ⟨c12_eq, r12_eq⟩ (allT_some ⟨c20_eq, r20_eq⟩ (allT_some ⟨c36_eq, r36_eq⟩ (allT_some ⟨c68_eq, r68_eq⟩ allT_nil allT_nil) (allT_some ⟨c100_eq, r100_eq⟩ allT_nil allT_nil)) (allT_some ⟨c52_eq, r52_eq⟩ (allT_some ⟨c84_eq, r84_eq⟩ allT_nil allT_nil) allT_nil)) (allT_some ⟨c28_eq, r28_eq⟩ (allT_some ⟨c44_eq, r44_eq⟩ (allT_some ⟨c76_eq, r76_eq⟩ allT_nil allT_nil) (allT_some ⟨c108_eq, r108_eq⟩ allT_nil allT_nil)) (allT_some ⟨c60_eq, r60_eq⟩ (allT_some ⟨c92_eq, r92_eq⟩ allT_nil allT_nil) allT_nil)))) (allT_some ⟨c6_eq, r6_eq⟩ (allT_some ⟨c10_eq, r10_eq⟩ (allT_some ⟨c18_eq, r18_eq⟩ (allT_some ⟨c34_eq, r34_eq⟩ (allT_some ⟨c66_eq, r66_eq⟩ allT_nil allT_nil) (allT_some ⟨c98_eq, r98_eq⟩ allT_nil allT_nil)) (allT_some ⟨c50_eq, r50_eq⟩ (allT_some ⟨c82_eq, r82_eq⟩ allT_nil allT_nil) allT_nil)) (allT_some ⟨c26_eq, r26_eq⟩ (allT_some ⟨c42_eq, r42_eq⟩ (allT_some ⟨c74_eq, r74_eq⟩ allT_nil allT_nil) (allT_some ⟨c106_eq, r106_eq⟩ allT_nil allT_nil)) (allT_some ⟨c58_eq, r58_eq⟩ (allT_some ⟨c90_eq, r90_eq⟩ allT_nil allT_nil) allT_nil))) (allT_some ⟨c14_eq, r14_eq⟩ (allT_some ⟨c22_eq, r22_eq⟩ (allT_some ⟨c38_eq, r38_eq⟩ (allT_some ⟨c70_eq, r70_eq⟩ allT_nil allT_nil) (allT_some ⟨c102_eq, r102_eq⟩ allT_nil allT_nil)) (allT_some ⟨c54_eq, r54_eq⟩ (allT_some ⟨c86_eq, r86_eq⟩ allT_nil allT_nil) allT_nil)) (allT_some ⟨c30_eq, r30_eq⟩ (allT_some ⟨c46_eq, r46_eq⟩ (allT_some ⟨c78_eq, r78_eq⟩ allT_nil allT_nil) allT_nil) (allT_some ⟨c62_eq, r62_eq⟩ (allT_some ⟨c94_eq, r94_eq⟩ allT_nil allT_nil) allT_nil))))))
theorem tbl_ok : TblOk Tryd.prog (fun f => tblT.get f) := tblOk_of tbl_all
end Go.CM
