/-
  The code of the functions, without types, as the canonical machine reads it (printed by program).
-/
import Derived.Test.YtboebmmklamaeaaGreatDoorEg
import Derived.Test.YtboebmmklamaeaaGreatDoorRows
import Derived.ProofKit
namespace Go.CM
open Go Go.Proofs
set_option maxRecDepth 100000
def c3 : Cd := (.seq (.reg [sm 0 4 (.box (tm 0)),
  sm 1 5 (.box (tm 1)),
  sm 2 8 (.mv (.const (.bool false)))])
  (.seq (.seq (.reg [sm 0 22 (.ldA 1 (tm 4)),
  sc 1 23 9 [(tm 22)],
  sv 2 24 23,
  sg 3 25 24 false (.ldA 11 (tm 5)),
  ⟨4, (some 26), (some ((some 24), false)), .callF 10 [(tm 25)], [], false⟩,
  sm 5 27 (.pick (tm 24) (.const (.bool true)) (tm 26)),
  sv 6 28 27,
  sg 7 29 28 false (.mv (tm 2)),
  sg 8 30 28 false (.len (.sl 32) (tm 29)),
  sg 9 31 28 false (.bin .gtr 3 (tm 30) (.const (.int .i64 70))),
  sm 10 32 (.pick (tm 28) (.const (.bool true)) (tm 31)),
  sv 11 33 32,
  sg 12 34 33 false (.mv (tm 3)),
  sg 13 35 33 false (.len .str (tm 34)),
  sg 14 36 33 false (.bin .gtr 3 (tm 35) (.const (.int .i64 100))),
  sm 15 37 (.pick (tm 33) (.const (.bool true)) (tm 36))])
  (.cond (tm 37) (.seq (.reg [sm 0 8 (.mv (.const (.bool true)))])
  .ret) .skip))
  (.seq (.reg [sm 0 38 (.bsl 33 ([.str []] ++ rep 32 (.int .u8 0)) 0 []),
  sm 1 39 (.fa 0 (tm 4)),
  sm 2 40 (.ld1 (tm 39)),
  sm 3 41 (.app 33 48 (tm 38) (tm 40)),
  sm 4 42 (.bld [.nilS] [(0, 1, (tm 41))]),
  sm 5 9 (.alloc [.nilS]),
  se 6 (.st 1 (tm 9) (tm 42))])
  (.seq (.reg [sm 0 44 (.ldA 1 (tm 9)),
  sm 1 45 (.ldA 11 (tm 5)),
  sv 2 46 2,
  sc 3 47 11 [(tm 44), (tm 45), (tm 46)],
  sv 4 43 47,
  sm 5 48 (.ext (tm 43) 0),
  sm 6 49 (.ext (tm 43) 1),
  sm 7 10 (.alloc [.nilS]),
  se 8 (.st 1 (tm 10) (tm 48)),
  sv 9 11 49])
  (.seq (.reg [sm 0 51 (.ldA 1 (tm 4)),
  sm 1 52 (.ldA 11 (tm 5)),
  sv 2 53 2,
  sc 3 54 12 [(tm 51), (tm 52), (tm 53)],
  sv 4 50 54,
  sm 5 55 (.ext (tm 50) 0),
  sm 6 56 (.ext (tm 50) 1),
  sm 7 12 (.alloc [.nilS]),
  se 8 (.st 1 (tm 12) (tm 55)),
  sv 9 13 56])
  (.seq (.reg [sm 0 58 (.ldA 1 (tm 9)),
  sv 1 59 3,
  sc 2 60 13 [(tm 58), (tm 59)],
  sv 3 57 60,
  sm 4 61 (.ext (tm 57) 0),
  sm 5 62 (.ext (tm 57) 1),
  sv 6 14 61,
  sv 7 15 62])
  (.seq (.reg [sm 0 64 (.ldA 1 (tm 4)),
  sv 1 65 3,
  sc 2 66 14 [(tm 64), (tm 65)],
  sv 3 63 66,
  sm 4 67 (.ext (tm 63) 0),
  sm 5 68 (.ext (tm 63) 1),
  sv 6 16 67,
  sv 7 17 68])
  (.seq (.reg [sm 0 70 (.ldA 1 (tm 9)),
  sc 1 71 15 [(tm 70)],
  sv 2 69 71,
  sm 3 72 (.ext (tm 69) 0),
  sm 4 73 (.ext (tm 69) 1),
  sv 5 18 72,
  sv 6 19 73])
  (.seq (.reg [sm 0 75 (.ldA 1 (tm 4)),
  sc 1 76 16 [(tm 75)],
  sv 2 74 76,
  sm 3 77 (.ext (tm 74) 0),
  sm 4 78 (.ext (tm 74) 1),
  sv 5 20 77,
  sv 6 21 78])
  (.seq (.dreg [sc 0 79 17 [],
  sm 1 80 (.fld1 0 (tm 79)),
  sm 2 81 (.len (.sl 33) (tm 80)),
  sm 3 82 (.bin .eql 3 (tm 81) (.const (.int .i64 0))),
  sv 4 83 82,
  sg 5 84 83 true (.ldA 1 (tm 9)),
  ⟨7, (some 86), (some ((some 83), true)), .mo (.ldA 1 (tm 4)), [], true⟩,
  ⟨6, (some 85), (some ((some 83), true)), .callF 18 [(tm 84)], [7], false⟩,
  ⟨8, (some 87), (some ((some 83), true)), .callF 19 [(tm 86)], [], false⟩,
  sg 9 88 83 true (.bin .eql 3 (tm 85) (tm 87)),
  sm 10 89 (.pick (tm 83) (tm 88) (.const (.bool false))),
  sv 11 90 89,
  sg 12 91 90 true (.ldA 1 (tm 10)),
  sg 13 92 90 true (.ldA 1 (tm 12)),
  ⟨14, (some 93), (some ((some 90), true)), .callF 20 [(tm 91), (tm 92)], [], false⟩,
  sm 15 94 (.pick (tm 90) (tm 93) (.const (.bool false))),
  sv 16 95 94,
  sg 17 96 95 true (.mv (tm 11)),
  sg 18 97 95 true (.mv (tm 13)),
  sg 19 98 95 true (.bin .eql 3 (tm 96) (tm 97)),
  sm 20 99 (.pick (tm 95) (tm 98) (.const (.bool false))),
  sv 21 100 99,
  sg 22 101 100 true (.mv (tm 14)),
  sg 23 102 100 true (.mv (tm 16)),
  sg 24 103 100 true (.bin .eql 4 (tm 101) (tm 102)),
  sm 25 104 (.pick (tm 100) (tm 103) (.const (.bool false))),
  sv 26 105 104,
  sg 27 106 105 true (.mv (tm 15)),
  sg 28 107 105 true (.mv (tm 17)),
  sg 29 108 105 true (.bin .eql 3 (tm 106) (tm 107)),
  sm 30 109 (.pick (tm 105) (tm 108) (.const (.bool false))),
  sv 31 110 109,
  sg 32 111 110 true (.mv (tm 18)),
  sg 33 112 110 true (.mv (tm 20)),
  ⟨34, (some 113), (some ((some 110), true)), .callF 21 [(tm 111), (tm 112)], [], false⟩,
  sm 35 114 (.pick (tm 110) (tm 113) (.const (.bool false))),
  sv 36 115 114,
  sg 37 116 115 true (.mv (tm 19)),
  sg 38 117 115 true (.mv (tm 21)),
  sg 39 118 115 true (.bin .eql 3 (tm 116) (tm 117)),
  sm 40 119 (.pick (tm 115) (tm 118) (.const (.bool false))),
  sv 41 120 119,
  sg 42 121 120 true (.ldA 1 (tm 9)),
  sg 43 122 120 true (.ldA 1 (tm 4)),
  ⟨44, (some 123), (some ((some 120), true)), .callF 20 [(tm 121), (tm 122)], [], false⟩,
  sm 45 124 (.pick (tm 120) (tm 123) (.const (.bool false))),
  sv 46 8 124])
  .ret))))))))))
def r3 : List Mo := [.mv (tm 8)]
theorem c3_eq : compF Tryz.prog 3 = some c3 := by kernel_rfl
theorem r3_eq : compRs Tryz.prog 3 = some r3 := by kernel_rfl
def l6_0 : Cd := (.seq (.seq (.reg [sv 0 77 11,
  sm 1 78 (.fa 0 (tm 3)),
  sm 2 79 (.ld1 (tm 78)),
  sm 3 80 (.len (.sl 33) (tm 79)),
  sm 4 81 (.bin .lss 3 (tm 77) (tm 80))])
  (.cond (tm 81) .skip (.exit 0)))
  (.seq (.block 1 (.seq (.reg [sm 0 84 (.fa 3 (tm 4)),
  sm 1 85 (.fa 0 (tm 84)),
  sm 2 86 (.ld1 (tm 85)),
  sm 3 87 (.bin .eql 5 (tm 86) (.const (.int .u8 3))),
  sv 4 88 87,
  sg 5 89 88 true (.fa 0 (tm 3)),
  sg 6 90 88 true (.ld1 (tm 89)),
  sg 7 91 88 true (.mv (tm 11)),
  sg 8 92 88 true (.ia (.sl 33) (tm 90) (tm 91)),
  sg 9 93 88 true (.fa 0 (tm 92)),
  sg 10 94 88 true (.ld1 (tm 93)),
  sg 11 95 88 true (.fa 3 (tm 4)),
  sg 12 96 88 true (.fa 1 (tm 95)),
  sg 13 97 88 true (.ld1 (tm 96)),
  sg 14 98 88 true (.bin .eql 9 (tm 94) (tm 97)),
  sm 15 99 (.pick (tm 88) (tm 98) (.const (.bool false))),
  sv 16 100 99,
  sg 17 101 100 true (.mv (tm 2)),
  sg 18 102 100 true (.fa 0 (tm 3)),
  sg 19 103 100 true (.ld1 (tm 102)),
  sg 20 104 100 true (.mv (tm 11)),
  sg 21 105 100 true (.ia (.sl 33) (tm 103) (tm 104)),
  sg 22 106 100 true (.fa 1 (tm 105)),
  sg 23 107 100 true (.ldA 32 (tm 106)),
  ⟨24, (some 108), (some ((some 100), true)), .callF 30 [(tm 101), (tm 107)], [], false⟩,
  sm 25 109 (.pick (tm 100) (tm 108) (.const (.bool false))),
  sv 26 12 109])
  (.seq (.reg [sm 0 110 (.fa 0 (tm 8)),
  sm 1 111 (.ld1 (tm 110)),
  sm 2 112 (.fa 0 (tm 3)),
  sm 3 113 (.ld1 (tm 112)),
  sv 4 114 11,
  sm 5 115 (.ia (.sl 33) (tm 113) (tm 114)),
  sm 6 116 (.ldA 33 (tm 115)),
  sv 8 118 12,
  sc 7 117 33 [(tm 111), (tm 116)],
  sm 9 119 (.bin .eql 4 (tm 117) (tm 118))])
  (.cond (tm 119) (.seq (.reg [sm 0 6 (.mv (.const (.bool false)))])
  .ret) .skip))))
  (.reg [sv 0 82 11,
  sm 1 83 (.bin .add 3 (tm 82) (.const (.int .i64 1))),
  sv 2 11 83])))
def l6_1 : Cd := (.seq (.seq (.reg [sv 0 120 14,
  sm 1 121 (.fa 0 (tm 8)),
  sm 2 122 (.ld1 (tm 121)),
  sm 3 123 (.len (.sl 33) (tm 122)),
  sm 4 124 (.bin .lss 3 (tm 120) (tm 123))])
  (.cond (tm 124) .skip (.exit 2)))
  (.seq (.block 3 (.seq (.reg [sm 0 127 (.fa 0 (tm 3)),
  sm 1 128 (.ld1 (tm 127)),
  sm 2 129 (.fa 0 (tm 8)),
  sm 3 130 (.ld1 (tm 129)),
  sv 4 131 14,
  sm 5 132 (.ia (.sl 33) (tm 130) (tm 131)),
  sm 6 133 (.ldA 33 (tm 132)),
  sc 7 134 33 [(tm 128), (tm 133)],
  sm 8 135 (.un .not (tm 134))])
  (.cond (tm 135) (.seq (.reg [sv 0 136 13,
  sm 1 137 (.bin .add 3 (tm 136) (.const (.int .i64 1))),
  sv 2 13 137])
  (.seq (.reg [sm 0 138 (.fa 3 (tm 4)),
  sm 1 139 (.fa 0 (tm 138)),
  sm 2 140 (.ld1 (tm 139)),
  sm 3 141 (.bin .neq 5 (tm 140) (.const (.int .u8 2))),
  sv 4 142 141,
  sg 5 143 142 false (.fa 0 (tm 8)),
  sg 6 144 142 false (.ld1 (tm 143)),
  sg 7 145 142 false (.mv (tm 14)),
  sg 8 146 142 false (.ia (.sl 33) (tm 144) (tm 145)),
  sg 9 147 142 false (.ldA 33 (tm 146)),
  sg 10 148 142 false (.fa 3 (tm 4)),
  sg 11 149 142 false (.fa 1 (tm 148)),
  sg 12 150 142 false (.ld1 (tm 149)),
  sg 13 151 142 false (.ldA 32 (tm 10)),
  sg 14 152 142 false (.bld ([.str []] ++ rep 32 (.int .u8 0)) [(0, 1, (tm 150)), (1, 32, (tm 151))]),
  sg 15 153 142 false (.bin .neq 77 (tm 147) (tm 152)),
  sm 16 154 (.pick (tm 142) (.const (.bool true)) (tm 153))])
  (.cond (tm 154) (.seq (.reg [sm 0 6 (.mv (.const (.bool false)))])
  .ret) .skip))) .skip)))
  (.reg [sv 0 125 14,
  sm 1 126 (.bin .add 3 (tm 125) (.const (.int .i64 1))),
  sv 2 14 126])))
def c6 : Cd := (.seq (.reg [sm 0 3 (.box (tm 0)),
  sm 1 4 (.box (tm 1)),
  sm 2 6 (.mv (.const (.bool false)))])
  (.seq (.reg [sc 0 15 27 [],
  sv 1 7 15])
  (.seq (.seq (.reg [sm 0 16 (.ldA 1 (tm 3)),
  sc 1 17 9 [(tm 16)],
  sv 2 18 17,
  sg 3 19 18 false (.ldA 1 (tm 3)),
  ⟨4, (some 20), (some ((some 18), false)), .callF 19 [(tm 19)], [], false⟩,
  sg 5 21 18 false (.bin .neq 3 (tm 20) (.const (.int .i64 0))),
  sm 6 22 (.pick (tm 18) (.const (.bool true)) (tm 21)),
  sv 7 23 22,
  sg 8 24 23 false (.ldA 11 (tm 4)),
  ⟨9, (some 25), (some ((some 23), false)), .callF 10 [(tm 24)], [], false⟩,
  sm 10 26 (.pick (tm 23) (.const (.bool true)) (tm 25)),
  sv 11 27 26,
  sg 12 28 27 false (.ldA 11 (tm 4)),
  ⟨13, (some 29), (some ((some 27), false)), .callF 31 [(tm 28)], [], false⟩,
  sg 14 30 27 false (.bin .neq 3 (tm 29) (.const (.int .i64 0))),
  sm 15 31 (.pick (tm 27) (.const (.bool true)) (tm 30)),
  sv 16 32 31,
  sg 17 33 32 false (.mv (tm 2)),
  sg 18 34 32 false (.len (.sl 32) (tm 33)),
  sg 19 35 32 false (.bin .gtr 3 (tm 34) (.const (.int .i64 60))),
  sm 20 36 (.pick (tm 32) (.const (.bool true)) (tm 35)),
  sv 21 37 36,
  sg 22 38 37 false (.mv (tm 7)),
  sg 23 39 37 false (.un .not (tm 38)),
  sm 24 40 (.pick (tm 37) (.const (.bool true)) (tm 39))])
  (.cond (tm 40) (.seq (.reg [sv 0 41 7,
  sv 1 6 41])
  .ret) .skip))
  (.seq (.reg [sm 0 43 (.ldA 1 (tm 3)),
  sm 1 44 (.ldA 11 (tm 4)),
  sv 2 45 2,
  sc 3 46 11 [(tm 43), (tm 44), (tm 45)],
  sv 4 42 46,
  sm 5 47 (.ext (tm 42) 0),
  sm 6 48 (.ext (tm 42) 1),
  sm 7 8 (.alloc [.nilS]),
  se 8 (.st 1 (tm 8) (tm 47)),
  sv 9 9 48])
  (.seq (.reg [sm 0 49 (.ldA 11 (tm 4)),
  sc 1 50 32 [(tm 49)],
  sm 2 10 (.alloc (rep 32 (.int .u8 0))),
  se 3 (.st 32 (tm 10) (tm 50))])
  (.seq (.seq (.reg [sv 0 51 9,
  sm 1 52 (.bin .neq 38 (tm 51) (.const (.int .i64 0)))])
  (.cond (tm 52) (.seq (.reg [sv 0 53 7,
  sv 1 54 53,
  sg 2 55 54 true (.fa 3 (tm 4)),
  sg 3 56 54 true (.fa 0 (tm 55)),
  sg 4 57 54 true (.ld1 (tm 56)),
  sg 5 58 54 true (.bin .eql 5 (tm 57) (.const (.int .u8 2))),
  sm 6 59 (.pick (tm 54) (tm 58) (.const (.bool false))),
  sv 7 60 59,
  sg 8 61 60 true (.mv (tm 9)),
  sg 9 62 60 true (.bin .eql 38 (tm 61) (.const (.int .i64 14))),
  sg 10 63 60 true (.mv (tm 62)),
  sg 11 64 63 false (.mv (tm 9)),
  sg 12 65 63 false (.bin .eql 38 (tm 64) (.const (.int .i64 18))),
  sg 13 66 63 false (.mv (tm 65)),
  sg 14 67 66 true (.fa 0 (tm 3)),
  sg 15 68 66 true (.ld1 (tm 67)),
  sg 16 69 66 true (.len (.sl 33) (tm 68)),
  sg 17 70 66 true (.bin .eql 3 (tm 69) (.const (.int .i64 60))),
  sg 18 71 63 false (.pick (tm 66) (tm 70) (.const (.bool false))),
  sg 19 72 60 true (.pick (tm 63) (.const (.bool true)) (tm 71)),
  sm 20 73 (.pick (tm 60) (tm 72) (.const (.bool false))),
  sv 21 6 73])
  .ret) .skip))
  (.seq (.seq (.reg [sm 0 74 (.ldA 1 (tm 8)),
  sc 1 75 19 [(tm 74)],
  sm 2 76 (.bin .neq 3 (tm 75) (.const (.int .i64 0)))])
  (.cond (tm 76) (.seq (.reg [sm 0 6 (.mv (.const (.bool false)))])
  .ret) .skip))
  (.seq (.seq (.reg [sm 0 11 (.mv (.const (.int .i64 0)))])
  (.block 0 (.loop l6_0)))
  (.seq (.reg [sm 0 13 (.mv (.const (.int .i64 0)))])
  (.seq (.seq (.reg [sm 0 14 (.mv (.const (.int .i64 0)))])
  (.block 2 (.loop l6_1)))
  (.seq (.reg [sv 0 155 7,
  sv 1 156 155,
  sg 2 157 156 true (.mv (tm 13)),
  sg 3 158 156 true (.bin .eql 3 (tm 157) (.const (.int .i64 1))),
  sg 4 159 156 true (.fa 3 (tm 4)),
  sg 5 160 156 true (.fa 0 (tm 159)),
  sg 6 161 156 true (.ld1 (tm 160)),
  sg 7 162 156 true (.bin .eql 5 (tm 161) (.const (.int .u8 2))),
  sg 8 163 156 true (.bin .eql 4 (tm 158) (tm 162)),
  sm 9 164 (.pick (tm 156) (tm 163) (.const (.bool false))),
  sv 10 6 164])
  .ret)))))))))))
def r6 : List Mo := [.mv (tm 6)]
theorem c6_eq : compF Tryz.prog 6 = some c6 := by kernel_rfl
theorem r6_eq : compRs Tryz.prog 6 = some r6 := by kernel_rfl
def l9_0 : Cd := (.seq (.seq (.reg [sv 0 4 3,
  sm 1 5 (.fa 0 (tm 1)),
  sm 2 6 (.ld1 (tm 5)),
  sm 3 7 (.len (.sl 33) (tm 6)),
  sm 4 8 (.bin .lss 3 (tm 4) (tm 7)),
  sv 5 9 8,
  sg 6 10 9 true (.mv (tm 3)),
  sg 7 11 9 true (.bin .leq 3 (tm 10) (.const (.int .i64 100))),
  sm 8 12 (.pick (tm 9) (tm 11) (.const (.bool false)))])
  (.cond (tm 12) .skip (.exit 0)))
  (.seq (.block 1 (.seq (.reg [sm 0 15 (.fa 0 (tm 1)),
  sm 1 16 (.ld1 (tm 15)),
  sv 2 17 3,
  sm 3 18 (.ia (.sl 33) (tm 16) (tm 17)),
  sm 4 19 (.fa 0 (tm 18)),
  sm 5 20 (.ld1 (tm 19)),
  sm 6 21 (.len .str (tm 20)),
  sm 7 22 (.bin .gtr 3 (tm 21) (.const (.int .i64 100)))])
  (.cond (tm 22) (.seq (.reg [sm 0 2 (.mv (.const (.bool true)))])
  .ret) .skip)))
  (.reg [sv 0 13 3,
  sm 1 14 (.bin .add 3 (tm 13) (.const (.int .i64 1))),
  sv 2 3 14])))
def c9 : Cd := (.seq (.reg [sm 0 1 (.box (tm 0)),
  sm 1 2 (.mv (.const (.bool false)))])
  (.seq (.seq (.reg [sm 0 3 (.mv (.const (.int .i64 0)))])
  (.block 0 (.loop l9_0)))
  (.seq (.reg [sm 0 23 (.fa 0 (tm 1)),
  sm 1 24 (.ld1 (tm 23)),
  sm 2 25 (.len (.sl 33) (tm 24)),
  sm 3 26 (.bin .gtr 3 (tm 25) (.const (.int .i64 100))),
  sv 4 2 26])
  .ret)))
def r9 : List Mo := [.mv (tm 2)]
theorem c9_eq : compF Tryz.prog 9 = some c9 := by kernel_rfl
theorem r9_eq : compRs Tryz.prog 9 = some r9 := by kernel_rfl
def c10 : Cd := (.seq (.reg [sm 0 1 (.box (tm 0)),
  sm 1 2 (.mv (.const (.bool false)))])
  (.seq (.reg [sm 0 3 (.fa 1 (tm 1)),
  sm 1 4 (.ld1 (tm 3)),
  sm 2 5 (.len (.sl 32) (tm 4)),
  sm 3 6 (.bin .gtr 3 (tm 5) (.const (.int .i64 40))),
  sv 4 7 6,
  sg 5 8 7 false (.fa 3 (tm 1)),
  sg 6 9 7 false (.fa 1 (tm 8)),
  sg 7 10 7 false (.ld1 (tm 9)),
  sg 8 11 7 false (.len .str (tm 10)),
  sg 9 12 7 false (.bin .gtr 3 (tm 11) (.const (.int .i64 100))),
  sm 10 13 (.pick (tm 7) (.const (.bool true)) (tm 12)),
  sv 11 14 13,
  sg 12 15 14 false (.fa 3 (tm 1)),
  sg 13 16 14 false (.fa 2 (tm 15)),
  sg 14 17 14 false (.fa 3 (tm 16)),
  sg 15 18 14 false (.ld1 (tm 17)),
  sg 16 19 14 false (.len .str (tm 18)),
  sg 17 20 14 false (.bin .gtr 3 (tm 19) (.const (.int .i64 100))),
  sm 18 21 (.pick (tm 14) (.const (.bool true)) (tm 20)),
  sv 19 2 21])
  .ret))
def r10 : List Mo := [.mv (tm 2)]
theorem c10_eq : compF Tryz.prog 10 = some c10 := by kernel_rfl
theorem r10_eq : compRs Tryz.prog 10 = some r10 := by kernel_rfl
def c11 : Cd := (.seq (.reg [sm 0 3 (.box (tm 0)),
  sm 1 4 (.box (tm 1)),
  sm 2 5 (.box (tm 2)),
  sm 3 6 (.alloc [.nilS]),
  sm 4 7 (.mv (.const (.int .i64 0)))])
  (.seq (.seq (.reg [sm 0 15 (.ldA 1 (tm 3)),
  sc 1 16 18 [(tm 15)],
  sv 2 8 16])
  (.seq (.reg [sv 0 17 8,
  sm 1 18 (.bin .neq 38 (tm 17) (.const (.int .i64 0)))])
  (.cond (tm 18) (.seq (.reg [sm 0 19 (.bld [.nilS] []),
  sv 1 20 8,
  se 2 (.st 1 (tm 6) (tm 19)),
  sv 3 7 20])
  .ret) .skip)))
  (.seq (.reg [sm 0 22 (.ldA 11 (tm 4)),
  sc 1 23 38 [(tm 22)],
  sv 2 21 23,
  sm 3 24 (.ext (tm 21) 0),
  sm 4 25 (.ext (tm 21) 1),
  sm 5 9 (.alloc (rep 32 (.int .u8 0))),
  se 6 (.st 32 (tm 9) (tm 24)),
  sv 7 10 25])
  (.seq (.seq (.reg [sv 0 26 10,
  sm 1 27 (.bin .neq 38 (tm 26) (.const (.int .i64 0)))])
  (.cond (tm 27) (.seq (.reg [sm 0 28 (.bld [.nilS] []),
  se 1 (.st 1 (tm 6) (tm 28)),
  sm 2 7 (.mv (.const (.int .i64 8)))])
  .ret) .skip))
  (.seq (.seq (.reg [sm 0 29 (.ld1 (tm 5)),
  sm 1 30 (.len (.sl 32) (tm 29)),
  sm 2 31 (.bin .gtr 3 (tm 30) (.const (.int .i64 60)))])
  (.cond (tm 31) (.seq (.reg [sm 0 32 (.bld [.nilS] []),
  se 1 (.st 1 (tm 6) (tm 32)),
  sm 2 7 (.mv (.const (.int .i64 4)))])
  .ret) .skip))
  (.seq (.reg [sm 0 33 (.fa 0 (tm 3)),
  sm 1 34 (.ld1 (tm 33)),
  sc 2 35 39 [(tm 34)],
  sm 3 36 (.bld [.nilS] [(0, 1, (tm 35))]),
  sm 4 11 (.alloc [.nilS]),
  se 5 (.st 1 (tm 11) (tm 36))])
  (.seq (.seq (.reg [sm 0 37 (.fa 3 (tm 4)),
  sm 1 38 (.fa 0 (tm 37)),
  sm 2 39 (.ld1 (tm 38))])
  (.block 0 (.seq (.reg [sm 0 41 (.bin .eql 5 (tm 39) (.const (.int .u8 2))),
  sv 1 40 41])
  (.cond (tm 40) (.seq (.reg [sm 0 42 (.fa 3 (tm 4)),
  sm 1 43 (.fa 1 (tm 42)),
  sm 2 44 (.ld1 (tm 43)),
  sm 3 45 (.ldA 32 (tm 9)),
  sm 4 46 (.bld ([.str []] ++ rep 32 (.int .u8 0)) [(0, 1, (tm 44)), (1, 32, (tm 45))]),
  sm 5 12 (.alloc ([.str []] ++ rep 32 (.int .u8 0))),
  se 6 (.st 33 (tm 12) (tm 46))])
  (.seq (.reg [sm 0 48 (.fa 0 (tm 11)),
  sm 1 49 (.ld1 (tm 48)),
  sm 2 50 (.ldA 33 (tm 12)),
  sc 3 51 40 [(tm 49), (tm 50), (.func 41)],
  sv 4 47 51,
  sm 5 52 (.ext (tm 47) 0),
  sm 6 53 (.ext (tm 47) 1),
  sv 7 13 52,
  sv 8 14 53])
  (.seq (.seq (.reg [sv 0 54 14])
  (.cond (tm 54) (.seq (.reg [sm 0 55 (.bld [.nilS] []),
  se 1 (.st 1 (tm 6) (tm 55)),
  sm 2 7 (.mv (.const (.int .i64 14)))])
  .ret) .skip))
  (.seq (.seq (.reg [sm 0 56 (.fa 0 (tm 11)),
  sm 1 57 (.ld1 (tm 56)),
  sm 2 58 (.len (.sl 33) (tm 57)),
  sm 3 59 (.bin .eql 3 (tm 58) (.const (.int .i64 60)))])
  (.cond (tm 59) (.seq (.reg [sm 0 60 (.bld [.nilS] []),
  se 1 (.st 1 (tm 6) (tm 60)),
  sm 2 7 (.mv (.const (.int .i64 18)))])
  .ret) .skip))
  (.reg [sm 0 61 (.fa 0 (tm 11)),
  sm 1 62 (.ld1 (tm 61)),
  sv 2 63 13,
  sm 3 64 (.ldA 33 (tm 12)),
  sm 4 65 (.bsl 33 ([.str []] ++ rep 32 (.int .u8 0)) 1 [(0, (tm 64))]),
  sc 5 66 42 [(tm 62), (tm 63), (tm 65)],
  sm 6 67 (.fa 0 (tm 11)),
  se 7 (.st 1 (tm 67) (tm 66))]))))) (.seq (.reg [sm 0 69 (.bin .eql 5 (tm 39) (.const (.int .u8 3))),
  sv 1 68 69])
  (.cond (tm 68) (.reg [sm 0 70 (.fa 0 (tm 11)),
  sm 1 71 (.ld1 (tm 70)),
  sm 2 72 (.mkF 44 [] [(tm 4), (tm 5)]),
  sc 3 73 43 [(tm 71), (tm 72)],
  sm 4 74 (.fa 0 (tm 11)),
  se 5 (.st 1 (tm 74) (tm 73))]) .skip))))))
  (.seq (.reg [sm 0 75 (.ldA 1 (tm 11)),
  se 1 (.st 1 (tm 6) (tm 75)),
  sm 2 7 (.mv (.const (.int .i64 0)))])
  .ret))))))))
def r11 : List Mo := [.ldA 1 (tm 6), .mv (tm 7)]
theorem c11_eq : compF Tryz.prog 11 = some c11 := by kernel_rfl
theorem r11_eq : compRs Tryz.prog 11 = some r11 := by kernel_rfl
def c17 : Cd := (.seq (.reg [sm 0 0 (.alloc [.nilS])])
  (.seq (.reg [sm 0 1 (.bld [.nilS] []),
  se 1 (.st 1 (tm 0) (tm 1))])
  .ret))
def r17 : List Mo := [.ldA 1 (tm 0)]
theorem c17_eq : compF Tryz.prog 17 = some c17 := by kernel_rfl
theorem r17_eq : compRs Tryz.prog 17 = some r17 := by kernel_rfl
def l18_0 : Cd := (.seq (.reg [sm 0 13 (.bin .lss 3 (tm 12) (tm 11))])
  (.seq (.cond (tm 13) .skip (.exit 0))
  (.seq (.block 1 (.seq (.reg [sv 0 14 12,
  sm 1 15 (.ia (.sl 33) (tm 10) (tm 12)),
  sm 2 16 (.ldA 33 (tm 15)),
  sm 3 4 (.alloc ([.str []] ++ rep 32 (.int .u8 0))),
  sv 4 3 14,
  se 5 (.st 33 (tm 4) (tm 16))])
  (.seq (.reg [sm 0 17 (.fa 0 (tm 4)),
  sm 1 18 (.ld1 (tm 17)),
  sm 2 19 (.bld [.int .u8 0, .str [], .int .u8 0, .int .i64 0, .int .u64 0, .str []] [(0, 1, (.const (.int .u8 2))), (1, 1, (tm 18))]),
  sc 3 20 50 [(tm 19)],
  sm 4 21 (.bin .neq 38 (tm 20) (.const (.int .i64 0))),
  sv 5 22 21,
  sg 6 23 22 false (.mv (tm 3)),
  sg 7 24 22 false (.bin .gtr 3 (tm 23) (.const (.int .i64 0))),
  sg 8 25 22 false (.mv (tm 24)),
  sg 9 26 25 true (.fa 0 (tm 1)),
  sg 10 27 25 true (.ld1 (tm 26)),
  sg 11 28 25 true (.mv (tm 3)),
  sg 12 29 25 true (.bin .sub 3 (tm 28) (.const (.int .i64 1))),
  sg 13 30 25 true (.ia (.sl 33) (tm 27) (tm 29)),
  sg 14 31 25 true (.ldA 33 (tm 30)),
  sg 15 32 25 true (.ldA 33 (tm 4)),
  ⟨16, (some 33), (some ((some 25), true)), .callF 41 [(tm 31), (tm 32)], [], false⟩,
  sg 17 34 25 true (.bin .geq 3 (tm 33) (.const (.int .i64 0))),
  sg 18 35 22 false (.pick (tm 25) (tm 34) (.const (.bool false))),
  sm 19 36 (.pick (tm 22) (.const (.bool true)) (tm 35))])
  (.cond (tm 36) (.seq (.reg [sm 0 2 (.mv (.const (.int .i64 8)))])
  .ret) .skip))))
  (.reg [sm 0 37 (.bin .add 3 (tm 12) (.const (.int .i64 1))),
  sv 1 12 37]))))
def c18 : Cd := (.seq (.reg [sm 0 1 (.box (tm 0)),
  sm 1 2 (.mv (.const (.int .i64 0)))])
  (.seq (.seq (.reg [sm 0 5 (.fa 0 (tm 1)),
  sm 1 6 (.ld1 (tm 5)),
  sm 2 7 (.len (.sl 33) (tm 6)),
  sm 3 8 (.bin .gtr 3 (tm 7) (.const (.int .i64 60)))])
  (.cond (tm 8) (.seq (.reg [sm 0 2 (.mv (.const (.int .i64 4)))])
  .ret) .skip))
  (.seq (.seq (.reg [sm 0 9 (.fa 0 (tm 1)),
  sm 1 10 (.ld1 (tm 9)),
  sm 2 11 (.len (.sl 33) (tm 10)),
  sm 3 12 (.mv (.const (.int .i64 0)))])
  (.block 0 (.loop l18_0)))
  (.seq (.reg [sm 0 2 (.mv (.const (.int .i64 0)))])
  .ret))))
def r18 : List Mo := [.mv (tm 2)]
theorem c18_eq : compF Tryz.prog 18 = some c18 := by kernel_rfl
theorem r18_eq : compRs Tryz.prog 18 = some r18 := by kernel_rfl
def l19_0 : Cd := (.seq (.seq (.reg [sv 0 8 3,
  sm 1 9 (.fa 0 (tm 1)),
  sm 2 10 (.ld1 (tm 9)),
  sm 3 11 (.len (.sl 33) (tm 10)),
  sm 4 12 (.bin .lss 3 (tm 8) (tm 11))])
  (.cond (tm 12) .skip (.exit 0)))
  (.seq (.block 1 (.seq (.reg [sm 0 15 (.fa 0 (tm 1)),
  sm 1 16 (.ld1 (tm 15)),
  sv 2 17 3,
  sm 3 18 (.ia (.sl 33) (tm 16) (tm 17)),
  sm 4 19 (.fa 0 (tm 18)),
  sm 5 20 (.ld1 (tm 19)),
  sc 6 21 51 [(tm 20)],
  sm 7 22 (.un .not (tm 21)),
  sv 8 23 22,
  sg 9 24 23 false (.mv (tm 3)),
  sg 10 25 23 false (.bin .gtr 3 (tm 24) (.const (.int .i64 0))),
  sg 11 26 23 false (.mv (tm 25)),
  sg 12 27 26 true (.fa 0 (tm 1)),
  sg 13 28 26 true (.ld1 (tm 27)),
  sg 14 29 26 true (.mv (tm 3)),
  sg 15 30 26 true (.bin .sub 3 (tm 29) (.const (.int .i64 1))),
  sg 16 31 26 true (.ia (.sl 33) (tm 28) (tm 30)),
  sg 17 32 26 true (.ldA 33 (tm 31)),
  sg 18 33 26 true (.fa 0 (tm 1)),
  sg 19 34 26 true (.ld1 (tm 33)),
  sg 20 35 26 true (.mv (tm 3)),
  sg 21 36 26 true (.ia (.sl 33) (tm 34) (tm 35)),
  sg 22 37 26 true (.ldA 33 (tm 36)),
  ⟨23, (some 38), (some ((some 26), true)), .callF 52 [(tm 32), (tm 37)], [], false⟩,
  sg 24 39 26 true (.un .not (tm 38)),
  sg 25 40 23 false (.pick (tm 26) (tm 39) (.const (.bool false))),
  sm 26 41 (.pick (tm 23) (.const (.bool true)) (tm 40))])
  (.cond (tm 41) (.seq (.reg [sm 0 2 (.mv (.const (.int .i64 8)))])
  .ret) .skip)))
  (.reg [sv 0 13 3,
  sm 1 14 (.bin .add 3 (tm 13) (.const (.int .i64 1))),
  sv 2 3 14])))
def c19 : Cd := (.seq (.reg [sm 0 1 (.box (tm 0)),
  sm 1 2 (.mv (.const (.int .i64 0)))])
  (.seq (.seq (.reg [sm 0 4 (.fa 0 (tm 1)),
  sm 1 5 (.ld1 (tm 4)),
  sm 2 6 (.len (.sl 33) (tm 5)),
  sm 3 7 (.bin .gtr 3 (tm 6) (.const (.int .i64 60)))])
  (.cond (tm 7) (.seq (.reg [sm 0 2 (.mv (.const (.int .i64 4)))])
  .ret) .skip))
  (.seq (.seq (.reg [sm 0 3 (.mv (.const (.int .i64 0)))])
  (.block 0 (.loop l19_0)))
  (.seq (.reg [sm 0 2 (.mv (.const (.int .i64 0)))])
  .ret))))
def r19 : List Mo := [.mv (tm 2)]
theorem c19_eq : compF Tryz.prog 19 = some c19 := by kernel_rfl
theorem r19_eq : compRs Tryz.prog 19 = some r19 := by kernel_rfl
def l20_0 : Cd := (.seq (.seq (.reg [sv 0 13 5,
  sm 1 14 (.fa 0 (tm 2)),
  sm 2 15 (.ld1 (tm 14)),
  sm 3 16 (.len (.sl 33) (tm 15)),
  sm 4 17 (.bin .lss 3 (tm 13) (tm 16))])
  (.cond (tm 17) .skip (.exit 0)))
  (.seq (.block 1 (.seq (.reg [sm 0 20 (.fa 0 (tm 2)),
  sm 1 21 (.ld1 (tm 20)),
  sv 2 22 5,
  sm 3 23 (.ia (.sl 33) (tm 21) (tm 22)),
  sm 4 24 (.ldA 33 (tm 23)),
  sm 5 25 (.fa 0 (tm 3)),
  sm 6 26 (.ld1 (tm 25)),
  sv 7 27 5,
  sm 8 28 (.ia (.sl 33) (tm 26) (tm 27)),
  sm 9 29 (.ldA 33 (tm 28)),
  sm 10 30 (.bin .neq 77 (tm 24) (tm 29))])
  (.cond (tm 30) (.seq (.reg [sm 0 4 (.mv (.const (.bool false)))])
  .ret) .skip)))
  (.reg [sv 0 18 5,
  sm 1 19 (.bin .add 3 (tm 18) (.const (.int .i64 1))),
  sv 2 5 19])))
def c20 : Cd := (.seq (.reg [sm 0 2 (.box (tm 0)),
  sm 1 3 (.box (tm 1)),
  sm 2 4 (.mv (.const (.bool false)))])
  (.seq (.seq (.reg [sm 0 6 (.fa 0 (tm 2)),
  sm 1 7 (.ld1 (tm 6)),
  sm 2 8 (.len (.sl 33) (tm 7)),
  sm 3 9 (.fa 0 (tm 3)),
  sm 4 10 (.ld1 (tm 9)),
  sm 5 11 (.len (.sl 33) (tm 10)),
  sm 6 12 (.bin .neq 3 (tm 8) (tm 11))])
  (.cond (tm 12) (.seq (.reg [sm 0 4 (.mv (.const (.bool false)))])
  .ret) .skip))
  (.seq (.seq (.reg [sm 0 5 (.mv (.const (.int .i64 0)))])
  (.block 0 (.loop l20_0)))
  (.seq (.reg [sm 0 4 (.mv (.const (.bool true)))])
  .ret))))
def r20 : List Mo := [.mv (tm 4)]
theorem c20_eq : compF Tryz.prog 20 = some c20 := by kernel_rfl
theorem r20_eq : compRs Tryz.prog 20 = some r20 := by kernel_rfl
def l23_0 : Cd := (.seq (.seq (.reg [sv 0 10 4,
  sm 1 11 (.fa 1 (tm 1)),
  sm 2 12 (.ld1 (tm 11)),
  sm 3 13 (.len (.sl 11) (tm 12)),
  sm 4 14 (.bin .lss 3 (tm 10) (tm 13))])
  (.cond (tm 14) .skip (.exit 0)))
  (.seq (.block 1 (.dreg [sm 0 17 (.fa 1 (tm 3)),
  ⟨1, (some 18), none, .mo (.ld1 (tm 17)), [], true⟩,
  sm 2 19 (.fa 1 (tm 1)),
  sm 3 20 (.ld1 (tm 19)),
  sv 4 21 4,
  sm 5 22 (.ia (.sl 11) (tm 20) (tm 21)),
  sm 6 23 (.ldA 11 (tm 22)),
  ⟨7, (some 24), none, .callF 54 [(tm 23)], [1], false⟩,
  sm 8 25 (.bsl 11 [.int .u32 0, .nilS, .int .u64 0, .int .u8 0, .str [], .int .u8 0, .int .i64 0, .int .u64 0, .str [], .int .u32 0, .int .u32 0] 1 [(0, (tm 24))]),
  sm 9 26 (.app 11 112 (tm 18) (tm 25)),
  sm 10 27 (.fa 1 (tm 3)),
  se 11 (.st 1 (tm 27) (tm 26))]))
  (.reg [sv 0 15 4,
  sm 1 16 (.bin .add 3 (tm 15) (.const (.int .i64 1))),
  sv 2 4 16])))
def c23 : Cd := (.seq (.reg [sm 0 1 (.box (tm 0)),
  sm 1 2 (.alloc [.nilS, .nilS])])
  (.seq (.reg [sm 0 5 (.bsl 32 (rep 32 (.int .u8 0)) 0 []),
  sm 1 6 (.fa 0 (tm 1)),
  sm 2 7 (.ld1 (tm 6)),
  sm 3 8 (.app 32 32 (tm 5) (tm 7)),
  sm 4 9 (.bld [.nilS, .nilS] [(0, 1, (tm 8))]),
  sm 5 3 (.alloc [.nilS, .nilS]),
  se 6 (.st 2 (tm 3) (tm 9))])
  (.seq (.seq (.reg [sm 0 4 (.mv (.const (.int .i64 0)))])
  (.block 0 (.loop l23_0)))
  (.seq (.reg [sm 0 28 (.ldA 2 (tm 3)),
  se 1 (.st 2 (tm 2) (tm 28))])
  .ret))))
def r23 : List Mo := [.ldA 2 (tm 2)]
theorem c23_eq : compF Tryz.prog 23 = some c23 := by kernel_rfl
theorem r23_eq : compRs Tryz.prog 23 = some r23 := by kernel_rfl
def l24_0 : Cd := (.seq (.reg [sm 0 48 (.bin .lss 3 (tm 47) (tm 46))])
  (.seq (.cond (tm 48) .skip (.exit 2))
  (.seq (.block 3 (.seq (.reg [sm 0 49 (.ia (.sl 32) (tm 45) (tm 47)),
  sm 1 50 (.ldA 32 (tm 49)),
  sm 2 11 (.alloc (rep 32 (.int .u8 0))),
  se 3 (.st 32 (tm 11) (tm 50))])
  (.reg [sv 0 51 5,
  sm 1 52 (.fa 3 (tm 7)),
  sm 2 53 (.fa 1 (tm 52)),
  sm 3 54 (.ld1 (tm 53)),
  sm 4 55 (.ldA 32 (tm 11)),
  sm 5 56 (.bld ([.str []] ++ rep 32 (.int .u8 0)) [(0, 1, (tm 54)), (1, 32, (tm 55))]),
  se 6 (.mup 77 (tm 51) (tm 56) (.const (.bool true)))])))
  (.reg [sm 0 57 (.bin .add 3 (tm 47) (.const (.int .i64 1))),
  sv 1 47 57]))))
def l24_1 : Cd := (.seq (.reg [sm 0 27 (.bin .lss 3 (tm 26) (tm 25))])
  (.seq (.cond (tm 27) .skip (.exit 0))
  (.seq (.block 1 (.seq (.reg [sv 0 28 26,
  sm 1 29 (.ia (.sl 11) (tm 24) (tm 26)),
  sm 2 30 (.ldA 11 (tm 29)),
  sm 3 7 (.alloc [.int .u32 0, .nilS, .int .u64 0, .int .u8 0, .str [], .int .u8 0, .int .i64 0, .int .u64 0, .str [], .int .u32 0, .int .u32 0]),
  sv 4 6 28,
  se 5 (.st 11 (tm 7) (tm 30))])
  (.seq (.seq (.reg [sm 0 31 (.fa 3 (tm 7)),
  sm 1 32 (.fa 0 (tm 31)),
  sm 2 33 (.ld1 (tm 32)),
  sm 3 34 (.bin .neq 5 (tm 33) (.const (.int .u8 3)))])
  (.cond (tm 34) (.exit 1) .skip))
  (.seq (.reg [sm 0 36 (.ldA 2 (tm 1)),
  sm 1 37 (.fa 0 (tm 1)),
  sm 2 38 (.ld1 (tm 37)),
  sv 3 39 6,
  sm 4 40 (.ia (.sl 32) (tm 38) (tm 39)),
  sm 5 41 (.ldA 32 (tm 40)),
  sc 6 42 56 [(tm 36), (tm 41)],
  sv 7 35 42,
  sm 8 43 (.ext (tm 35) 0),
  sm 9 44 (.ext (tm 35) 1),
  sv 10 8 43,
  sv 11 9 44])
  (.seq (.reg [sv 0 45 8,
  sm 1 46 (.len (.sl 32) (tm 45)),
  sm 2 47 (.mv (.const (.int .i64 0)))])
  (.block 2 (.loop l24_0)))))))
  (.reg [sm 0 58 (.bin .add 3 (tm 26) (.const (.int .i64 1))),
  sv 1 26 58]))))
def l24_2 : Cd := (.seq (.reg [sm 0 63 (.bin .lss 3 (tm 62) (tm 61))])
  (.seq (.cond (tm 63) .skip (.exit 4))
  (.seq (.block 5 (.seq (.reg [sv 0 64 62,
  sm 1 65 (.ia (.sl 11) (tm 60) (tm 62)),
  sm 2 66 (.ldA 11 (tm 65)),
  sm 3 14 (.alloc [.int .u32 0, .nilS, .int .u64 0, .int .u8 0, .str [], .int .u8 0, .int .i64 0, .int .u64 0, .str [], .int .u32 0, .int .u32 0]),
  sv 4 13 64,
  se 5 (.st 11 (tm 14) (tm 66))])
  (.seq (.reg [sm 0 67 (.fa 3 (tm 14)),
  sm 1 68 (.fa 1 (tm 67)),
  sm 2 69 (.ld1 (tm 68)),
  sm 3 70 (.fa 0 (tm 1)),
  sm 4 71 (.ld1 (tm 70)),
  sv 5 72 13,
  sm 6 73 (.ia (.sl 32) (tm 71) (tm 72)),
  sm 7 74 (.ldA 32 (tm 73)),
  sm 8 75 (.bld ([.str []] ++ rep 32 (.int .u8 0)) [(0, 1, (tm 69)), (1, 32, (tm 74))]),
  sm 9 15 (.alloc ([.str []] ++ rep 32 (.int .u8 0))),
  se 10 (.st 33 (tm 15) (tm 75))])
  (.seq (.reg [sm 0 76 (.fa 3 (tm 14)),
  sm 1 77 (.fa 0 (tm 76)),
  sm 2 78 (.ld1 (tm 77)),
  sm 3 79 (.bin .eql 5 (tm 78) (.const (.int .u8 2))),
  sv 4 80 79,
  sg 5 81 80 true (.mv (tm 5)),
  sg 6 82 80 true (.ldA 33 (tm 15)),
  sg 7 83 80 true (.lkp 77 (.bool false) false (tm 81) (tm 82)),
  sg 8 84 80 true (.un .not (tm 83)),
  sm 9 85 (.pick (tm 80) (tm 84) (.const (.bool false)))])
  (.cond (tm 85) (.reg [sm 0 86 (.fa 0 (tm 12)),
  sm 1 87 (.ld1 (tm 86)),
  sm 2 88 (.ldA 33 (tm 15)),
  sm 3 89 (.bsl 33 ([.str []] ++ rep 32 (.int .u8 0)) 1 [(0, (tm 88))]),
  sm 4 90 (.app 33 48 (tm 87) (tm 89)),
  sm 5 91 (.fa 0 (tm 12)),
  se 6 (.st 1 (tm 91) (tm 90))]) .skip)))))
  (.reg [sm 0 92 (.bin .add 3 (tm 62) (.const (.int .i64 1))),
  sv 1 62 92]))))
def c24 : Cd := (.seq (.reg [sm 0 1 (.box (tm 0)),
  sm 1 2 (.alloc [.nilS]),
  sm 2 3 (.mv (.const (.int .i64 0)))])
  (.seq (.seq (.reg [sm 0 16 (.ldA 2 (tm 1)),
  sc 1 17 55 [(tm 16)],
  sv 2 4 17])
  (.seq (.reg [sv 0 18 4,
  sm 1 19 (.bin .neq 38 (tm 18) (.const (.int .i64 0)))])
  (.cond (tm 19) (.seq (.reg [sm 0 20 (.bld [.nilS] []),
  sv 1 21 4,
  se 2 (.st 1 (tm 2) (tm 20)),
  sv 3 3 21])
  .ret) .skip)))
  (.seq (.reg [sm 0 22 (.mkM none),
  sv 1 5 22])
  (.seq (.seq (.reg [sm 0 23 (.fa 1 (tm 1)),
  sm 1 24 (.ld1 (tm 23)),
  sm 2 25 (.len (.sl 11) (tm 24)),
  sm 3 26 (.mv (.const (.int .i64 0)))])
  (.block 0 (.loop l24_1)))
  (.seq (.reg [sm 0 12 (.alloc [.nilS])])
  (.seq (.seq (.reg [sm 0 59 (.fa 1 (tm 1)),
  sm 1 60 (.ld1 (tm 59)),
  sm 2 61 (.len (.sl 11) (tm 60)),
  sm 3 62 (.mv (.const (.int .i64 0)))])
  (.block 4 (.loop l24_2)))
  (.seq (.reg [sm 0 93 (.fa 0 (tm 12)),
  sm 1 94 (.ld1 (tm 93)),
  sc 2 95 57 [(tm 94), (.func 41)]])
  (.seq (.reg [sm 0 96 (.ldA 1 (tm 12)),
  se 1 (.st 1 (tm 2) (tm 96)),
  sm 2 3 (.mv (.const (.int .i64 0)))])
  .ret))))))))
def r24 : List Mo := [.ldA 1 (tm 2), .mv (tm 3)]
theorem c24_eq : compF Tryz.prog 24 = some c24 := by kernel_rfl
theorem r24_eq : compRs Tryz.prog 24 = some r24 := by kernel_rfl
def c27 : Cd := (.seq (.reg [sm 0 0 (.mv (.const (.bool false)))])
  (.seq (.reg [sc 0 12 36 [(.const (.int .u8 2)), (.const (.int .u64 1)), (.const (.slice none 0 0))],
  sm 1 1 (.alloc [.int .u32 0, .nilS, .int .u64 0, .int .u8 0, .str [], .int .u8 0, .int .i64 0, .int .u64 0, .str [], .int .u32 0, .int .u32 0]),
  se 2 (.st 11 (tm 1) (tm 12))])
  (.seq (.reg [sm 0 13 (.ldA 11 (tm 1)),
  sc 1 14 32 [(tm 13)],
  sm 2 15 (.bsl 32 (rep 32 (.int .u8 0)) 1 [(0, (tm 14))]),
  sc 3 16 36 [(.const (.int .u8 3)), (.const (.int .u64 2)), (tm 15)],
  sm 4 2 (.alloc [.int .u32 0, .nilS, .int .u64 0, .int .u8 0, .str [], .int .u8 0, .int .i64 0, .int .u64 0, .str [], .int .u32 0, .int .u32 0]),
  se 5 (.st 11 (tm 2) (tm 16))])
  (.seq (.reg [sc 0 17 36 [(.const (.int .u8 2)), (.const (.int .u64 3)), (.const (.slice none 0 0))],
  sm 1 3 (.alloc [.int .u32 0, .nilS, .int .u64 0, .int .u8 0, .str [], .int .u8 0, .int .i64 0, .int .u64 0, .str [], .int .u32 0, .int .u32 0]),
  se 2 (.st 11 (tm 3) (tm 17))])
  (.seq (.reg [sm 0 19 (.ldA 11 (tm 1)),
  sm 1 20 (.ldA 11 (tm 2)),
  sm 2 21 (.ldA 11 (tm 3)),
  sm 3 22 (.bsl 11 [.int .u32 0, .nilS, .int .u64 0, .int .u8 0, .str [], .int .u8 0, .int .i64 0, .int .u64 0, .str [], .int .u32 0, .int .u32 0] 3 [(0, (tm 19)), (1, (tm 20)), (2, (tm 21))]),
  sc 4 23 60 [(tm 22)],
  sv 5 18 23,
  sm 6 24 (.ext (tm 18) 0),
  sm 7 25 (.ext (tm 18) 1),
  sm 8 4 (.alloc [.nilS, .nilS]),
  se 9 (.st 2 (tm 4) (tm 24)),
  sv 10 5 25])
  (.seq (.reg [sm 0 27 (.ldA 11 (tm 1)),
  sm 1 28 (.ldA 11 (tm 2)),
  sm 2 29 (.bsl 11 [.int .u32 0, .nilS, .int .u64 0, .int .u8 0, .str [], .int .u8 0, .int .i64 0, .int .u64 0, .str [], .int .u32 0, .int .u32 0] 2 [(0, (tm 27)), (1, (tm 28))]),
  sc 3 30 60 [(tm 29)],
  sv 4 26 30,
  sm 5 31 (.ext (tm 26) 0),
  sm 6 32 (.ext (tm 26) 1),
  sm 7 6 (.alloc [.nilS, .nilS]),
  se 8 (.st 2 (tm 6) (tm 31)),
  sv 9 7 32])
  (.seq (.reg [sm 0 34 (.ldA 2 (tm 4)),
  sc 1 35 24 [(tm 34)],
  sv 2 33 35,
  sm 3 36 (.ext (tm 33) 0),
  sm 4 37 (.ext (tm 33) 1),
  sm 5 8 (.alloc [.nilS]),
  se 6 (.st 1 (tm 8) (tm 36)),
  sv 7 9 37])
  (.seq (.reg [sm 0 39 (.ldA 2 (tm 6)),
  sc 1 40 24 [(tm 39)],
  sv 2 38 40,
  sm 3 41 (.ext (tm 38) 0),
  sm 4 42 (.ext (tm 38) 1),
  sm 5 10 (.alloc [.nilS]),
  se 6 (.st 1 (tm 10) (tm 41)),
  sv 7 11 42])
  (.seq (.dreg [sv 0 43 5,
  sm 1 44 (.bin .eql 3 (tm 43) (.const (.int .i64 0))),
  sv 2 45 44,
  sg 3 46 45 true (.mv (tm 7)),
  sg 4 47 45 true (.bin .eql 3 (tm 46) (.const (.int .i64 0))),
  sm 5 48 (.pick (tm 45) (tm 47) (.const (.bool false))),
  sv 6 49 48,
  sg 7 50 49 true (.mv (tm 9)),
  sg 8 51 49 true (.bin .eql 38 (tm 50) (.const (.int .i64 0))),
  sm 9 52 (.pick (tm 49) (tm 51) (.const (.bool false))),
  sv 10 53 52,
  sg 11 54 53 true (.mv (tm 11)),
  sg 12 55 53 true (.bin .eql 38 (tm 54) (.const (.int .i64 0))),
  sm 13 56 (.pick (tm 53) (tm 55) (.const (.bool false))),
  sv 14 57 56,
  ⟨15, (some 58), (some ((some 57), true)), .mo (.ldA 1 (tm 8)), [], true⟩,
  sg 16 59 57 true (.ldA 11 (tm 3)),
  ⟨17, (some 60), (some ((some 57), true)), .callF 32 [(tm 59)], [15], false⟩,
  sg 18 61 57 true (.bld ([.str []] ++ rep 32 (.int .u8 0)) [(0, 1, (.const (.string ⟨#[107]⟩))), (1, 32, (tm 60))]),
  sg 19 62 57 true (.bsl 33 ([.str []] ++ rep 32 (.int .u8 0)) 1 [(0, (tm 61))]),
  sg 20 63 57 true (.bld [.nilS] [(0, 1, (tm 62))]),
  ⟨21, (some 64), (some ((some 57), true)), .callF 20 [(tm 58), (tm 63)], [], false⟩,
  sm 22 65 (.pick (tm 57) (tm 64) (.const (.bool false))),
  sv 23 66 65,
  sg 24 67 66 true (.fa 0 (tm 10)),
  sg 25 68 66 true (.ld1 (tm 67)),
  sg 26 69 66 true (.len (.sl 33) (tm 68)),
  sg 27 70 66 true (.bin .eql 3 (tm 69) (.const (.int .i64 0))),
  sm 28 71 (.pick (tm 66) (tm 70) (.const (.bool false))),
  sv 29 0 71])
  .ret)))))))))
def r27 : List Mo := [.mv (tm 0)]
theorem c27_eq : compF Tryz.prog 27 = some c27 := by kernel_rfl
theorem r27_eq : compRs Tryz.prog 27 = some r27 := by kernel_rfl
def l30_0 : Cd := (.seq (.seq (.reg [sv 0 6 5,
  sv 1 7 0,
  sm 2 8 (.len (.sl 32) (tm 7)),
  sm 3 9 (.bin .lss 3 (tm 6) (tm 8))])
  (.cond (tm 9) .skip (.exit 0)))
  (.seq (.block 1 (.seq (.reg [sv 0 12 0,
  sv 1 13 5,
  sm 2 14 (.ia (.sl 32) (tm 12) (tm 13)),
  sm 3 15 (.ldA 32 (tm 14)),
  sm 4 16 (.ldA 32 (tm 3)),
  sm 5 17 (.bin .eql 71 (tm 15) (tm 16))])
  (.cond (tm 17) (.seq (.reg [sm 0 4 (.mv (.const (.bool true)))])
  .ret) .skip)))
  (.reg [sv 0 10 5,
  sm 1 11 (.bin .add 3 (tm 10) (.const (.int .i64 1))),
  sv 2 5 11])))
def c30 : Cd := (.seq (.reg [sm 0 3 (.box (tm 1)),
  sm 1 4 (.mv (.const (.bool false)))])
  (.seq (.seq (.reg [sm 0 5 (.mv (.const (.int .i64 0)))])
  (.block 0 (.loop l30_0)))
  (.seq (.reg [sm 0 4 (.mv (.const (.bool false)))])
  .ret)))
def r30 : List Mo := [.mv (tm 4)]
theorem c30_eq : compF Tryz.prog 30 = some c30 := by kernel_rfl
theorem r30_eq : compRs Tryz.prog 30 = some r30 := by kernel_rfl
def c31 : Cd := (.seq (.reg [sm 0 1 (.box (tm 0)),
  sm 1 2 (.mv (.const (.int .i64 0)))])
  (.seq (.seq (.reg [sm 0 3 (.fa 1 (tm 1)),
  sm 1 4 (.ld1 (tm 3)),
  sm 2 5 (.len (.sl 32) (tm 4)),
  sm 3 6 (.bin .gtr 3 (tm 5) (.const (.int .i64 4)))])
  (.cond (tm 6) (.seq (.reg [sm 0 2 (.mv (.const (.int .i64 4)))])
  .ret) .skip))
  (.seq (.seq (.reg [sm 0 7 (.fa 1 (tm 1)),
  sm 1 8 (.ld1 (tm 7)),
  sc 2 9 63 [(tm 8)],
  sm 3 10 (.un .not (tm 9))])
  (.cond (tm 10) (.seq (.reg [sm 0 2 (.mv (.const (.int .i64 32)))])
  .ret) .skip))
  (.seq (.seq (.reg [sm 0 11 (.fa 0 (tm 1)),
  sm 1 12 (.ld1 (tm 11)),
  sc 2 13 64 [(tm 12)],
  sm 3 14 (.un .not (tm 13)),
  sv 4 15 14,
  sg 5 16 15 false (.fa 2 (tm 1)),
  sg 6 17 15 false (.ld1 (tm 16)),
  sg 7 18 15 false (.bin .gtr 27 (tm 17) (.const (.int .u64 1000000000000))),
  sm 8 19 (.pick (tm 15) (.const (.bool true)) (tm 18)),
  sv 9 20 19,
  sg 10 21 20 false (.fa 3 (tm 1)),
  sg 11 22 20 false (.ldA 6 (tm 21)),
  ⟨12, (some 23), (some ((some 20), false)), .callF 65 [(tm 22)], [], false⟩,
  sg 13 24 20 false (.bin .neq 3 (tm 23) (.const (.int .i64 0))),
  sm 14 25 (.pick (tm 20) (.const (.bool true)) (tm 24)),
  sv 15 26 25,
  sg 16 27 26 false (.fa 9 (tm 1)),
  sg 17 28 26 false (.fa 0 (tm 27)),
  sg 18 29 26 false (.ld1 (tm 28)),
  ⟨19, (some 30), (some ((some 26), false)), .callF 66 [(tm 29)], [], false⟩,
  sg 20 31 26 false (.un .not (tm 30)),
  sm 21 32 (.pick (tm 26) (.const (.bool true)) (tm 31)),
  sv 22 33 32,
  sg 23 34 33 false (.fa 9 (tm 1)),
  sg 24 35 33 false (.fa 1 (tm 34)),
  sg 25 36 33 false (.ld1 (tm 35)),
  ⟨26, (some 37), (some ((some 33), false)), .callF 66 [(tm 36)], [], false⟩,
  sg 27 38 33 false (.un .not (tm 37)),
  sm 28 39 (.pick (tm 33) (.const (.bool true)) (tm 38))])
  (.cond (tm 39) (.seq (.reg [sm 0 2 (.mv (.const (.int .i64 8)))])
  .ret) .skip))
  (.seq (.reg [sm 0 2 (.mv (.const (.int .i64 0)))])
  .ret)))))
def r31 : List Mo := [.mv (tm 2)]
theorem c31_eq : compF Tryz.prog 31 = some c31 := by kernel_rfl
theorem r31_eq : compRs Tryz.prog 31 = some r31 := by kernel_rfl
def c32 : Cd := (.seq (.reg [sm 0 1 (.box (tm 0)),
  sm 1 2 (.alloc (rep 32 (.int .u8 0)))])
  (.seq (.reg [sm 0 3 (.ldA 11 (tm 1)),
  sc 1 4 68 [(tm 3)],
  sc 2 5 67 [(tm 4)],
  se 3 (.st 32 (tm 2) (tm 5))])
  .ret))
def r32 : List Mo := [.ldA 32 (tm 2)]
theorem c32_eq : compF Tryz.prog 32 = some c32 := by kernel_rfl
theorem r32_eq : compRs Tryz.prog 32 = some r32 := by kernel_rfl
def l33_0 : Cd := (.seq (.seq (.reg [sv 0 6 5,
  sv 1 7 0,
  sm 2 8 (.len (.sl 33) (tm 7)),
  sm 3 9 (.bin .lss 3 (tm 6) (tm 8))])
  (.cond (tm 9) .skip (.exit 0)))
  (.seq (.block 1 (.seq (.reg [sv 0 12 0,
  sv 1 13 5,
  sm 2 14 (.ia (.sl 33) (tm 12) (tm 13)),
  sm 3 15 (.ldA 33 (tm 14)),
  sm 4 16 (.ldA 33 (tm 3)),
  sm 5 17 (.bin .eql 77 (tm 15) (tm 16))])
  (.cond (tm 17) (.seq (.reg [sm 0 4 (.mv (.const (.bool true)))])
  .ret) .skip)))
  (.reg [sv 0 10 5,
  sm 1 11 (.bin .add 3 (tm 10) (.const (.int .i64 1))),
  sv 2 5 11])))
def c33 : Cd := (.seq (.reg [sm 0 3 (.box (tm 1)),
  sm 1 4 (.mv (.const (.bool false)))])
  (.seq (.seq (.reg [sm 0 5 (.mv (.const (.int .i64 0)))])
  (.block 0 (.loop l33_0)))
  (.seq (.reg [sm 0 4 (.mv (.const (.bool false)))])
  .ret)))
def r33 : List Mo := [.mv (tm 4)]
theorem c33_eq : compF Tryz.prog 33 = some c33 := by kernel_rfl
theorem r33_eq : compRs Tryz.prog 33 = some r33 := by kernel_rfl
def c36 : Cd := (.seq (.reg [sm 0 6 (.alloc [.int .u32 0, .nilS, .int .u64 0, .int .u8 0, .str [], .int .u8 0, .int .i64 0, .int .u64 0, .str [], .int .u32 0, .int .u32 0])])
  (.seq (.reg [sv 0 10 2,
  sv 1 11 1,
  sv 2 12 0,
  sm 3 13 (.bld [.int .u8 0, .str [], .int .u8 0, .int .i64 0, .int .u64 0, .str []] [(0, 1, (tm 12)), (1, 1, (.const (.string ⟨#[107]⟩)))]),
  sm 4 14 (.bld [.int .u32 0, .nilS, .int .u64 0, .int .u8 0, .str [], .int .u8 0, .int .i64 0, .int .u64 0, .str [], .int .u32 0, .int .u32 0] [(1, 1, (tm 10)), (2, 1, (tm 11)), (3, 6, (tm 13))]),
  sc 5 15 71 [(.const (.int .u32 5)), (tm 14)],
  sv 6 9 15,
  sm 7 16 (.ext (tm 9) 0),
  sm 8 17 (.ext (tm 9) 1),
  sm 9 7 (.alloc [.int .u32 0, .nilS, .int .u64 0, .int .u8 0, .str [], .int .u8 0, .int .i64 0, .int .u64 0, .str [], .int .u32 0, .int .u32 0]),
  se 10 (.st 11 (tm 7) (tm 16)),
  sv 11 8 17])
  (.seq (.reg [sm 0 18 (.ldA 11 (tm 7)),
  se 1 (.st 11 (tm 6) (tm 18))])
  .ret)))
def r36 : List Mo := [.ldA 11 (tm 6)]
theorem c36_eq : compF Tryz.prog 36 = some c36 := by kernel_rfl
theorem r36_eq : compRs Tryz.prog 36 = some r36 := by kernel_rfl
def c38 : Cd := (.seq (.reg [sm 0 1 (.box (tm 0)),
  sm 1 2 (.alloc (rep 32 (.int .u8 0))),
  sm 2 3 (.mv (.const (.int .i64 0)))])
  (.seq (.reg [sm 0 7 (.ldA 11 (tm 1)),
  sc 1 8 72 [(tm 7)],
  sv 2 6 8,
  sm 3 9 (.ext (tm 6) 0),
  sm 4 10 (.ext (tm 6) 1),
  sv 5 4 9,
  sv 6 5 10])
  (.seq (.seq (.reg [sv 0 11 5,
  sm 1 12 (.bin .neq 38 (tm 11) (.const (.int .i64 0)))])
  (.cond (tm 12) (.seq (.reg [sm 0 13 (.bld (rep 32 (.int .u8 0)) []),
  sv 1 14 5,
  se 2 (.st 32 (tm 2) (tm 13)),
  sv 3 3 14])
  .ret) .skip))
  (.seq (.reg [sv 0 15 4,
  sc 1 16 73 [(tm 15)],
  sm 2 17 (.ext (tm 16) 0),
  sm 3 18 (.ext (tm 16) 1),
  se 4 (.st 32 (tm 2) (tm 17)),
  sv 5 3 18])
  .ret))))
def r38 : List Mo := [.ldA 32 (tm 2), .mv (tm 3)]
theorem c38_eq : compF Tryz.prog 38 = some c38 := by kernel_rfl
theorem r38_eq : compRs Tryz.prog 38 = some r38 := by kernel_rfl
def c39 : Cd := (.seq (.reg [sm 0 2 (.mv (.const (.slice none 0 0)))])
  (.seq (.seq (.reg [sv 0 3 0,
  sm 1 4 (.bin .eql 22 (tm 3) (.const (.slice none 0 0)))])
  (.cond (tm 4) (.seq (.reg [sm 0 2 (.mv (.const (.slice none 0 0)))])
  .ret) .skip))
  (.seq (.reg [sm 0 5 (.bsl 33 ([.str []] ++ rep 32 (.int .u8 0)) 0 []),
  sv 1 6 0,
  sm 2 7 (.app 33 48 (tm 5) (tm 6)),
  sv 3 2 7])
  .ret)))
def r39 : List Mo := [.mv (tm 2)]
theorem c39_eq : compF Tryz.prog 39 = some c39 := by kernel_rfl
theorem r39_eq : compRs Tryz.prog 39 = some r39 := by kernel_rfl
def l40_0 : Cd := (.seq (.seq (.reg [sv 0 15 9,
  sv 1 16 10,
  sm 2 17 (.bin .lss 3 (tm 15) (tm 16))])
  (.cond (tm 17) .skip (.exit 0)))
  (.block 1 (.seq (.reg [sv 0 18 9,
  sv 1 19 10,
  sm 2 20 (.bin .add 3 (tm 18) (tm 19)),
  sm 3 21 (.cint .u64 (tm 20)),
  sm 4 22 (.bin .shr 125 (tm 21) (.const (.int .u64 1))),
  sm 5 23 (.cint .i64 (tm 22)),
  sv 6 11 23])
  (.seq (.reg [sv 0 24 2,
  sv 1 25 0,
  sv 2 26 11,
  sm 3 27 (.ia (.sl 33) (tm 25) (tm 26)),
  sm 4 28 (.ldA 33 (tm 27)),
  sm 5 29 (.ldA 33 (tm 4)),
  ⟨6, (some 30), none, .callV (tm 24) [(tm 28), (tm 29)], [], false⟩,
  sm 7 31 (.bin .lss 3 (tm 30) (.const (.int .i64 0)))])
  (.cond (tm 31) (.reg [sv 0 32 11,
  sm 1 33 (.bin .add 3 (tm 32) (.const (.int .i64 1))),
  sv 2 9 33]) (.reg [sv 0 34 11,
  sv 1 10 34]))))))
def c40 : Cd := (.seq (.reg [sm 0 4 (.box (tm 1)),
  sm 1 6 (.mv (.const (.int .i64 0))),
  sm 2 7 (.mv (.const (.bool false)))])
  (.seq (.reg [sv 0 12 0,
  sm 1 13 (.len (.sl 33) (tm 12)),
  sv 2 8 13])
  (.seq (.reg [sv 0 14 8,
  sm 1 9 (.mv (.const (.int .i64 0))),
  sv 2 10 14])
  (.seq (.block 0 (.loop l40_0))
  (.seq (.reg [sv 0 35 9,
  sv 1 36 9,
  sv 2 37 8,
  sm 3 38 (.bin .lss 3 (tm 36) (tm 37)),
  sv 4 39 38,
  sg 5 40 39 true (.mv (tm 2)),
  sg 6 41 39 true (.mv (tm 0)),
  sg 7 42 39 true (.mv (tm 9)),
  sg 8 43 39 true (.ia (.sl 33) (tm 41) (tm 42)),
  sg 9 44 39 true (.ldA 33 (tm 43)),
  sg 10 45 39 true (.ldA 33 (tm 4)),
  ⟨11, (some 46), (some ((some 39), true)), .callV (tm 40) [(tm 44), (tm 45)], [], false⟩,
  sg 12 47 39 true (.bin .eql 3 (tm 46) (.const (.int .i64 0))),
  sm 13 48 (.pick (tm 39) (tm 47) (.const (.bool false))),
  sv 14 6 35,
  sv 15 7 48])
  .ret)))))
def r40 : List Mo := [.mv (tm 6), .mv (tm 7)]
theorem c40_eq : compF Tryz.prog 40 = some c40 := by kernel_rfl
theorem r40_eq : compRs Tryz.prog 40 = some r40 := by kernel_rfl
def c41 : Cd := (.seq (.reg [sm 0 2 (.box (tm 0)),
  sm 1 3 (.box (tm 1)),
  sm 2 4 (.mv (.const (.int .i64 0)))])
  (.seq (.reg [sm 0 5 (.fa 0 (tm 2)),
  sm 1 6 (.ld1 (tm 5)),
  sm 2 7 (.fa 0 (tm 3)),
  sm 3 8 (.ld1 (tm 7)),
  sm 5 10 (.fa 1 (tm 2)),
  sm 6 11 (.slice (.arr 32 1) (tm 10) none none none),
  sm 7 12 (.fa 1 (tm 3)),
  sm 8 13 (.slice (.arr 32 1) (tm 12) none none none),
  sc 4 9 75 [(tm 6), (tm 8)],
  sc 9 14 76 [(tm 11), (tm 13)],
  sm 10 15 (.bsl 1 [.int .i64 0] 2 [(0, (tm 9)), (1, (tm 14))]),
  sc 11 16 74 [(tm 15)],
  sv 12 4 16])
  .ret))
def r41 : List Mo := [.mv (tm 4)]
theorem c41_eq : compF Tryz.prog 41 = some c41 := by kernel_rfl
theorem r41_eq : compRs Tryz.prog 41 = some r41 := by kernel_rfl
def l43_0 : Cd := (.seq (.seq (.reg [sv 0 16 6,
  sv 1 17 0,
  sm 2 18 (.len (.sl 33) (tm 17)),
  sm 3 19 (.bin .lss 3 (tm 16) (tm 18))])
  (.cond (tm 19) .skip (.exit 0)))
  (.seq (.block 1 (.seq (.reg [sv 0 22 0,
  sv 1 23 6,
  sm 2 24 (.ia (.sl 33) (tm 22) (tm 23)),
  sm 3 25 (.ldA 33 (tm 24)),
  sm 4 7 (.alloc ([.str []] ++ rep 32 (.int .u8 0))),
  se 5 (.st 33 (tm 7) (tm 25))])
  (.seq (.reg [sv 0 26 1,
  sm 1 27 (.ldA 33 (tm 7)),
  ⟨2, (some 28), none, .callV (tm 26) [(tm 27)], [], false⟩,
  sm 3 29 (.un .not (tm 28))])
  (.cond (tm 29) (.seq (.reg [sv 0 30 0,
  sv 1 31 5,
  sm 2 32 (.ldA 33 (tm 7)),
  sm 3 33 (.ia (.sl 33) (tm 30) (tm 31)),
  se 4 (.st 33 (tm 33) (tm 32))])
  (.reg [sv 0 34 5,
  sm 1 35 (.bin .add 3 (tm 34) (.const (.int .i64 1))),
  sv 2 5 35])) .skip))))
  (.reg [sv 0 20 6,
  sm 1 21 (.bin .add 3 (tm 20) (.const (.int .i64 1))),
  sv 2 6 21])))
def c43 : Cd := (.seq (.reg [sm 0 4 (.mv (.const (.slice none 0 0)))])
  (.seq (.reg [sv 0 8 0,
  sv 1 9 1,
  sc 2 10 79 [(tm 8), (tm 9)],
  sv 3 5 10])
  (.seq (.seq (.reg [sv 0 11 5,
  sm 1 12 (.bin .eql 3 (tm 11) (.const (.int .i64 (-1))))])
  (.cond (tm 12) (.seq (.reg [sv 0 13 0,
  sv 1 4 13])
  .ret) .skip))
  (.seq (.seq (.reg [sv 0 14 5,
  sm 1 15 (.bin .add 3 (tm 14) (.const (.int .i64 1))),
  sv 2 6 15])
  (.block 0 (.loop l43_0)))
  (.seq (.reg [sv 0 36 0,
  sv 1 37 5,
  sm 2 38 (.slice (.sl 33) (tm 36) (some (tm 37)) none none),
  se 3 (.clr ([.str []] ++ rep 32 (.int .u8 0)) (tm 38))])
  (.seq (.reg [sv 0 39 0,
  sv 1 40 5,
  sm 2 41 (.slice (.sl 33) (tm 39) none (some (tm 40)) none),
  sv 3 4 41])
  .ret))))))
def r43 : List Mo := [.mv (tm 4)]
theorem c43_eq : compF Tryz.prog 43 = some c43 := by kernel_rfl
theorem r43_eq : compRs Tryz.prog 43 = some r43 := by kernel_rfl
def c44 : Cd := (.seq (.reg [sm 0 3 (.box (tm 0)),
  sm 1 4 (.mv (.const (.bool false)))])
  (.seq (.reg [sm 0 5 (.fa 0 (tm 3)),
  sm 1 6 (.ld1 (tm 5)),
  sm 2 7 (.fa 3 (tm 1)),
  sm 3 8 (.fa 1 (tm 7)),
  sm 4 9 (.ld1 (tm 8)),
  sm 5 10 (.bin .eql 9 (tm 6) (tm 9)),
  sv 6 11 10,
  sg 7 12 11 true (.ld1 (tm 2)),
  sg 8 13 11 true (.fa 1 (tm 3)),
  sg 9 14 11 true (.ldA 32 (tm 13)),
  ⟨10, (some 15), (some ((some 11), true)), .callF 45 [(tm 12), (tm 14)], [], false⟩,
  sm 11 16 (.pick (tm 11) (tm 15) (.const (.bool false))),
  sv 12 4 16])
  .ret))
def r44 : List Mo := [.mv (tm 4)]
theorem c44_eq : compF Tryz.prog 44 = some c44 := by kernel_rfl
theorem r44_eq : compRs Tryz.prog 44 = some r44 := by kernel_rfl
def c45 : Cd := (.seq (.reg [sm 0 3 (.box (tm 1)),
  sm 1 4 (.mv (.const (.bool false)))])
  (.seq (.reg [sv 0 5 0,
  sm 1 6 (.ldA 32 (tm 3)),
  sc 2 7 80 [(tm 5), (tm 6)],
  sm 3 8 (.bin .geq 3 (tm 7) (.const (.int .i64 0))),
  sv 4 4 8])
  .ret))
def r45 : List Mo := [.mv (tm 4)]
theorem c45_eq : compF Tryz.prog 45 = some c45 := by kernel_rfl
theorem r45_eq : compRs Tryz.prog 45 = some r45 := by kernel_rfl
def l46_0 : Cd := (.seq (.seq (.reg [sv 0 16 6,
  sm 1 17 (.bin .gtr 3 (tm 16) (.const (.int .i64 0))),
  sv 2 18 17,
  sg 3 19 18 true (.mv (tm 5)),
  sg 4 20 18 true (.mv (tm 6)),
  sg 5 21 18 true (.ia (.sl 33) (tm 19) (tm 20)),
  sg 6 22 18 true (.ldA 33 (tm 21)),
  sg 7 23 18 true (.mv (tm 5)),
  sg 8 24 18 true (.mv (tm 6)),
  sg 9 25 18 true (.bin .sub 3 (tm 24) (.const (.int .i64 1))),
  sg 10 26 18 true (.ia (.sl 33) (tm 23) (tm 25)),
  sg 11 27 18 true (.ldA 33 (tm 26)),
  ⟨12, (some 28), (some ((some 18), true)), .callF 52 [(tm 22), (tm 27)], [], false⟩,
  sm 13 29 (.pick (tm 18) (tm 28) (.const (.bool false)))])
  (.cond (tm 29) .skip (.exit 0)))
  (.seq (.block 1 (.reg [sv 0 32 5,
  sv 1 33 6,
  sv 2 34 5,
  sv 3 35 6,
  sm 4 36 (.bin .sub 3 (tm 35) (.const (.int .i64 1))),
  sv 5 37 5,
  sv 6 38 6,
  sm 7 39 (.bin .sub 3 (tm 38) (.const (.int .i64 1))),
  sm 8 40 (.ia (.sl 33) (tm 37) (tm 39)),
  sm 9 41 (.ldA 33 (tm 40)),
  sv 10 42 5,
  sv 11 43 6,
  sm 12 44 (.ia (.sl 33) (tm 42) (tm 43)),
  sm 13 45 (.ldA 33 (tm 44)),
  sm 14 46 (.ia (.sl 33) (tm 32) (tm 33)),
  se 15 (.st 33 (tm 46) (tm 41)),
  sm 16 47 (.ia (.sl 33) (tm 34) (tm 36)),
  se 17 (.st 33 (tm 47) (tm 45))]))
  (.reg [sv 0 30 6,
  sm 1 31 (.bin .sub 3 (tm 30) (.const (.int .i64 1))),
  sv 2 6 31])))
def c46 : Cd := (.seq (.reg [sm 0 3 (.box (tm 1)),
  sm 1 4 (.mv (.const (.slice none 0 0)))])
  (.seq (.dreg [sm 0 7 (.bsl 33 ([.str []] ++ rep 32 (.int .u8 0)) 0 []),
  sv 1 8 0,
  ⟨3, (some 10), none, .mo (.ldA 33 (tm 3)), [], true⟩,
  ⟨4, (some 11), none, .mo (.bsl 33 ([.str []] ++ rep 32 (.int .u8 0)) 1 [(0, (tm 10))]), [], true⟩,
  ⟨2, (some 9), none, .mo (.app 33 48 (tm 7) (tm 8)), [4, 3], false⟩,
  sm 5 12 (.app 33 48 (tm 9) (tm 11)),
  sv 6 5 12])
  (.seq (.seq (.reg [sv 0 13 5,
  sm 1 14 (.len (.sl 33) (tm 13)),
  sm 2 15 (.bin .sub 3 (tm 14) (.const (.int .i64 1))),
  sv 3 6 15])
  (.block 0 (.loop l46_0)))
  (.seq (.reg [sv 0 48 5,
  sv 1 4 48])
  .ret))))
def r46 : List Mo := [.mv (tm 4)]
theorem c46_eq : compF Tryz.prog 46 = some c46 := by kernel_rfl
theorem r46_eq : compRs Tryz.prog 46 = some r46 := by kernel_rfl
def c47 : Cd := (.seq (.reg [sm 0 4 (.mv (.const (.bool false)))])
  (.seq (.reg [sv 0 5 0,
  sv 1 6 1,
  sc 2 7 81 [(tm 5), (tm 6)],
  sm 3 8 (.bin .geq 3 (tm 7) (.const (.int .i64 0))),
  sv 4 4 8])
  .ret))
def r47 : List Mo := [.mv (tm 4)]
theorem c47_eq : compF Tryz.prog 47 = some c47 := by kernel_rfl
theorem r47_eq : compRs Tryz.prog 47 = some r47 := by kernel_rfl
def l48_0 : Cd := (.seq (.seq (.reg [sv 0 6 5,
  sv 1 7 0,
  sm 2 8 (.len (.sl 33) (tm 7)),
  sm 3 9 (.bin .lss 3 (tm 6) (tm 8))])
  (.cond (tm 9) .skip (.exit 0)))
  (.seq (.block 1 (.seq (.reg [sv 0 12 0,
  sv 1 13 5,
  sm 2 14 (.ia (.sl 33) (tm 12) (tm 13)),
  sm 3 15 (.fa 0 (tm 14)),
  sm 4 16 (.ld1 (tm 15)),
  sv 5 17 1,
  sm 6 18 (.bin .eql 9 (tm 16) (tm 17))])
  (.cond (tm 18) (.seq (.reg [sm 0 4 (.mv (.const (.bool true)))])
  .ret) .skip)))
  (.reg [sv 0 10 5,
  sm 1 11 (.bin .add 3 (tm 10) (.const (.int .i64 1))),
  sv 2 5 11])))
def c48 : Cd := (.seq (.reg [sm 0 4 (.mv (.const (.bool false)))])
  (.seq (.seq (.reg [sm 0 5 (.mv (.const (.int .i64 0)))])
  (.block 0 (.loop l48_0)))
  (.seq (.reg [sm 0 4 (.mv (.const (.bool false)))])
  .ret)))
def r48 : List Mo := [.mv (tm 4)]
theorem c48_eq : compF Tryz.prog 48 = some c48 := by kernel_rfl
theorem r48_eq : compRs Tryz.prog 48 = some r48 := by kernel_rfl
def c50 : Cd := (.seq (.reg [sm 0 1 (.box (tm 0)),
  sm 1 2 (.mv (.const (.int .i64 0)))])
  (.seq (.reg [sm 0 3 (.mv (.const (.bool false)))])
  (.seq (.seq (.reg [sm 0 4 (.fa 0 (tm 1)),
  sm 1 5 (.ld1 (tm 4))])
  (.block 0 (.seq (.reg [sm 0 7 (.bin .eql 5 (tm 5) (.const (.int .u8 1))),
  sv 1 6 7])
  (.cond (tm 6) (.reg [sm 0 8 (.ldA 6 (tm 1)),
  sm 1 9 (.bld [.int .u8 0, .str [], .int .u8 0, .int .i64 0, .int .u64 0, .str []] [(0, 1, (.const (.int .u8 1)))]),
  sm 2 10 (.bin .eql 31 (tm 8) (tm 9)),
  sv 3 3 10]) (.seq (.seq (.reg [sm 0 12 (.bin .eql 5 (tm 5) (.const (.int .u8 2))),
  sv 1 11 12])
  (.cond (tm 11) .skip (.reg [sm 0 13 (.bin .eql 5 (tm 5) (.const (.int .u8 3))),
  sv 1 11 13])))
  (.cond (tm 11) (.reg [sm 0 14 (.fa 1 (tm 1)),
  sm 1 15 (.ld1 (tm 14)),
  sc 2 16 82 [(tm 15)],
  sv 3 17 16,
  sg 4 18 17 true (.fa 2 (tm 1)),
  sg 5 19 17 true (.ldA 4 (tm 18)),
  sg 6 20 17 true (.bld [.int .u8 0, .int .i64 0, .int .u64 0, .str []] []),
  sg 7 21 17 true (.bin .eql 29 (tm 19) (tm 20)),
  sm 8 22 (.pick (tm 17) (tm 21) (.const (.bool false))),
  sv 9 3 22]) (.seq (.reg [sm 0 24 (.bin .eql 5 (tm 5) (.const (.int .u8 4))),
  sv 1 23 24])
  (.cond (tm 23) (.reg [sm 0 25 (.fa 1 (tm 1)),
  sm 1 26 (.ld1 (tm 25)),
  sc 2 27 82 [(tm 26)],
  sv 3 28 27,
  sg 4 29 28 true (.fa 2 (tm 1)),
  sg 5 30 28 true (.ldA 4 (tm 29)),
  ⟨6, (some 31), (some ((some 28), true)), .callF 83 [(tm 30)], [], false⟩,
  sg 7 32 28 true (.bin .eql 38 (tm 31) (.const (.int .i64 0))),
  sm 8 33 (.pick (tm 28) (tm 32) (.const (.bool false))),
  sv 9 3 33]) .skip))))))))
  (.seq (.seq (.reg [sv 0 34 3,
  sm 1 35 (.un .not (tm 34))])
  (.cond (tm 35) (.seq (.reg [sm 0 2 (.mv (.const (.int .i64 8)))])
  .ret) .skip))
  (.seq (.reg [sm 0 2 (.mv (.const (.int .i64 0)))])
  .ret)))))
def r50 : List Mo := [.mv (tm 2)]
theorem c50_eq : compF Tryz.prog 50 = some c50 := by kernel_rfl
theorem r50_eq : compRs Tryz.prog 50 = some r50 := by kernel_rfl
def l51_0 : Cd := (.seq (.seq (.reg [sv 0 12 3,
  sv 1 13 0,
  sm 2 14 (.len .str (tm 13)),
  sm 3 15 (.bin .lss 3 (tm 12) (tm 14))])
  (.cond (tm 15) .skip (.exit 0)))
  (.seq (.block 1 (.seq (.reg [sv 0 18 0,
  sv 1 19 3,
  sm 2 20 (.ixT (tm 18) (tm 19)),
  sm 3 21 (.bin .lss 5 (tm 20) (.const (.int .u8 33))),
  sv 4 22 21,
  sg 5 23 22 false (.mv (tm 0)),
  sg 6 24 22 false (.mv (tm 3)),
  sg 7 25 22 false (.ixT (tm 23) (tm 24)),
  sg 8 26 22 false (.bin .gtr 5 (tm 25) (.const (.int .u8 126))),
  sm 9 27 (.pick (tm 22) (.const (.bool true)) (tm 26))])
  (.cond (tm 27) (.seq (.reg [sm 0 2 (.mv (.const (.bool false)))])
  .ret) .skip)))
  (.reg [sv 0 16 3,
  sm 1 17 (.bin .add 3 (tm 16) (.const (.int .i64 1))),
  sv 2 3 17])))
def c51 : Cd := (.seq (.reg [sm 0 2 (.mv (.const (.bool false)))])
  (.seq (.seq (.reg [sv 0 4 0,
  sm 1 5 (.len .str (tm 4)),
  sm 2 6 (.bin .lss 3 (tm 5) (.const (.int .i64 1))),
  sv 3 7 6,
  sg 4 8 7 false (.mv (tm 0)),
  sg 5 9 7 false (.len .str (tm 8)),
  sg 6 10 7 false (.bin .gtr 3 (tm 9) (.const (.int .i64 20))),
  sm 7 11 (.pick (tm 7) (.const (.bool true)) (tm 10))])
  (.cond (tm 11) (.seq (.reg [sm 0 2 (.mv (.const (.bool false)))])
  .ret) .skip))
  (.seq (.seq (.reg [sm 0 3 (.mv (.const (.int .i64 0)))])
  (.block 0 (.loop l51_0)))
  (.seq (.reg [sm 0 2 (.mv (.const (.bool true)))])
  .ret))))
def r51 : List Mo := [.mv (tm 2)]
theorem c51_eq : compF Tryz.prog 51 = some c51 := by kernel_rfl
theorem r51_eq : compRs Tryz.prog 51 = some r51 := by kernel_rfl
def c52 : Cd := (.seq (.reg [sm 0 2 (.box (tm 0)),
  sm 1 3 (.box (tm 1)),
  sm 2 4 (.mv (.const (.bool false)))])
  (.seq (.seq (.reg [sm 0 5 (.fa 0 (tm 2)),
  sm 1 6 (.ld1 (tm 5)),
  sm 2 7 (.fa 0 (tm 3)),
  sm 3 8 (.ld1 (tm 7)),
  sm 4 9 (.bin .neq 9 (tm 6) (tm 8))])
  (.cond (tm 9) (.seq (.reg [sm 0 10 (.fa 0 (tm 2)),
  sm 1 11 (.ld1 (tm 10)),
  sm 2 12 (.fa 0 (tm 3)),
  sm 3 13 (.ld1 (tm 12)),
  sm 4 14 (.bin .lss 9 (tm 11) (tm 13)),
  sv 5 4 14])
  .ret) .skip))
  (.seq (.reg [sm 0 15 (.fa 1 (tm 2)),
  sm 1 16 (.ldA 32 (tm 15)),
  sm 2 17 (.fa 1 (tm 3)),
  sm 3 18 (.ldA 32 (tm 17)),
  sc 4 19 84 [(tm 16), (tm 18)],
  sm 5 20 (.bin .lss 3 (tm 19) (.const (.int .i64 0))),
  sv 6 4 20])
  .ret)))
def r52 : List Mo := [.mv (tm 4)]
theorem c52_eq : compF Tryz.prog 52 = some c52 := by kernel_rfl
theorem r52_eq : compRs Tryz.prog 52 = some r52 := by kernel_rfl
def c54 : Cd := (.seq (.reg [sm 0 1 (.box (tm 0)),
  sm 1 2 (.alloc [.int .u32 0, .nilS, .int .u64 0, .int .u8 0, .str [], .int .u8 0, .int .i64 0, .int .u64 0, .str [], .int .u32 0, .int .u32 0])])
  (.seq (.reg [sm 0 3 (.bsl 32 (rep 32 (.int .u8 0)) 0 []),
  sm 1 4 (.fa 1 (tm 1)),
  sm 2 5 (.ld1 (tm 4)),
  sm 3 6 (.app 32 32 (tm 3) (tm 5)),
  sm 4 7 (.fa 1 (tm 1)),
  se 5 (.st 1 (tm 7) (tm 6))])
  (.seq (.reg [sm 0 8 (.ldA 11 (tm 1)),
  se 1 (.st 11 (tm 2) (tm 8))])
  .ret)))
def r54 : List Mo := [.ldA 11 (tm 2)]
theorem c54_eq : compF Tryz.prog 54 = some c54 := by kernel_rfl
theorem r54_eq : compRs Tryz.prog 54 = some r54 := by kernel_rfl
def l55_0 : Cd := (.seq (.reg [sm 0 22 (.bin .lss 3 (tm 21) (tm 20))])
  (.seq (.cond (tm 22) .skip (.exit 0))
  (.seq (.block 1 (.seq (.reg [sv 0 23 21,
  sm 1 24 (.ia (.sl 11) (tm 19) (tm 21)),
  sm 2 25 (.ldA 11 (tm 24)),
  sm 3 4 (.alloc [.int .u32 0, .nilS, .int .u64 0, .int .u8 0, .str [], .int .u8 0, .int .i64 0, .int .u64 0, .str [], .int .u32 0, .int .u32 0]),
  sv 4 3 23,
  se 5 (.st 11 (tm 4) (tm 25))])
  (.seq (.reg [sm 0 27 (.ldA 11 (tm 4)),
  sc 1 28 38 [(tm 27)],
  sv 2 26 28,
  sm 3 29 (.ext (tm 26) 0),
  sm 4 30 (.ext (tm 26) 1),
  sm 5 5 (.alloc (rep 32 (.int .u8 0))),
  se 6 (.st 32 (tm 5) (tm 29)),
  sv 7 6 30])
  (.seq (.reg [sv 0 31 6,
  sm 1 32 (.bin .neq 38 (tm 31) (.const (.int .i64 0))),
  sv 2 33 32,
  sg 3 34 33 false (.ldA 32 (tm 5)),
  sg 4 35 33 false (.fa 0 (tm 1)),
  sg 5 36 33 false (.ld1 (tm 35)),
  sg 6 37 33 false (.mv (tm 3)),
  sg 7 38 33 false (.ia (.sl 32) (tm 36) (tm 37)),
  sg 8 39 33 false (.ldA 32 (tm 38)),
  sg 9 40 33 false (.bin .neq 71 (tm 34) (tm 39)),
  sm 10 41 (.pick (tm 33) (.const (.bool true)) (tm 40)),
  sv 11 42 41,
  sg 12 43 42 false (.ldA 11 (tm 4)),
  ⟨13, (some 44), (some ((some 42), false)), .callF 85 [(tm 43)], [], false⟩,
  sg 14 45 42 false (.bin .neq 38 (tm 44) (.const (.int .i64 0))),
  sm 15 46 (.pick (tm 42) (.const (.bool true)) (tm 45))])
  (.cond (tm 46) (.seq (.reg [sm 0 2 (.mv (.const (.int .i64 8)))])
  .ret) .skip)))))
  (.reg [sm 0 47 (.bin .add 3 (tm 21) (.const (.int .i64 1))),
  sv 1 21 47]))))
def c55 : Cd := (.seq (.reg [sm 0 1 (.box (tm 0)),
  sm 1 2 (.mv (.const (.int .i64 0)))])
  (.seq (.seq (.reg [sm 0 7 (.fa 1 (tm 1)),
  sm 1 8 (.ld1 (tm 7)),
  sm 2 9 (.len (.sl 11) (tm 8)),
  sm 3 10 (.bin .gtr 3 (tm 9) (.const (.int .i64 60)))])
  (.cond (tm 10) (.seq (.reg [sm 0 2 (.mv (.const (.int .i64 4)))])
  .ret) .skip))
  (.seq (.seq (.reg [sm 0 11 (.fa 0 (tm 1)),
  sm 1 12 (.ld1 (tm 11)),
  sm 2 13 (.len (.sl 32) (tm 12)),
  sm 3 14 (.fa 1 (tm 1)),
  sm 4 15 (.ld1 (tm 14)),
  sm 5 16 (.len (.sl 11) (tm 15)),
  sm 6 17 (.bin .neq 3 (tm 13) (tm 16))])
  (.cond (tm 17) (.seq (.reg [sm 0 2 (.mv (.const (.int .i64 8)))])
  .ret) .skip))
  (.seq (.seq (.reg [sm 0 18 (.fa 1 (tm 1)),
  sm 1 19 (.ld1 (tm 18)),
  sm 2 20 (.len (.sl 11) (tm 19)),
  sm 3 21 (.mv (.const (.int .i64 0)))])
  (.block 0 (.loop l55_0)))
  (.seq (.reg [sm 0 48 (.ldA 2 (tm 1)),
  sc 1 49 86 [(tm 48)],
  sv 2 2 49])
  .ret)))))
def r55 : List Mo := [.mv (tm 2)]
theorem c55_eq : compF Tryz.prog 55 = some c55 := by kernel_rfl
theorem r55_eq : compRs Tryz.prog 55 = some r55 := by kernel_rfl
def c56 : Cd := (.seq (.reg [sm 0 2 (.box (tm 0)),
  sm 1 3 (.box (tm 1)),
  sm 2 4 (.mv (.const (.slice none 0 0))),
  sm 3 5 (.mv (.const (.int .i64 0)))])
  (.seq (.reg [sm 0 9 (.ldA 2 (tm 2)),
  sm 1 10 (.ldA 32 (tm 3)),
  sc 2 11 87 [(tm 9), (tm 10)],
  sv 3 8 11,
  sm 4 12 (.ext (tm 8) 0),
  sm 5 13 (.ext (tm 8) 1),
  sv 6 6 12,
  sv 7 7 13])
  (.seq (.seq (.reg [sv 0 14 7,
  sm 1 15 (.bin .neq 38 (tm 14) (.const (.int .i64 0)))])
  (.cond (tm 15) (.seq (.reg [sv 0 16 7,
  sm 1 4 (.mv (.const (.slice none 0 0))),
  sv 2 5 16])
  .ret) .skip))
  (.seq (.dreg [⟨0, (some 17), none, .mo (.ldA 2 (tm 2)), [], true⟩,
  sm 1 18 (.ldA 2 (tm 2)),
  sm 2 19 (.fa 1 (tm 2)),
  sm 3 20 (.ld1 (tm 19)),
  sv 4 21 6,
  sm 5 22 (.ia (.sl 11) (tm 20) (tm 21)),
  sm 6 23 (.fa 1 (tm 22)),
  sm 7 24 (.ld1 (tm 23)),
  ⟨8, (some 25), none, .callF 89 [(tm 18), (tm 24)], [0], false⟩,
  sc 9 26 88 [(tm 17), (tm 25)],
  sv 10 4 26,
  sm 11 5 (.mv (.const (.int .i64 0)))])
  .ret))))
def r56 : List Mo := [.mv (tm 4), .mv (tm 5)]
theorem c56_eq : compF Tryz.prog 56 = some c56 := by kernel_rfl
theorem r56_eq : compRs Tryz.prog 56 = some r56 := by kernel_rfl
def c57 : Cd := (.seq (.reg [sv 0 5 0,
  sm 1 6 (.len (.sl 33) (tm 5)),
  sv 2 4 6])
  (.reg [sv 0 7 0,
  sv 1 8 4,
  sv 2 9 4,
  sm 3 10 (.cint .u64 (tm 9)),
  sc 4 11 91 [(tm 10)],
  sv 5 12 1,
  sc 6 13 90 [(tm 7), (.const (.int .i64 0)), (tm 8), (tm 11), (tm 12)]]))
def r57 : List Mo := []
theorem c57_eq : compF Tryz.prog 57 = some c57 := by kernel_rfl
theorem r57_eq : compRs Tryz.prog 57 = some r57 := by kernel_rfl
def l58_0 : Cd := (.seq (.seq (.reg [sv 0 11 5,
  sv 1 12 0,
  sm 2 13 (.len (.sl 32) (tm 12)),
  sm 3 14 (.bin .lss 3 (tm 11) (tm 13))])
  (.cond (tm 14) .skip (.exit 0)))
  (.seq (.block 1 (.seq (.reg [sv 0 17 0,
  sv 1 18 5,
  sm 2 19 (.ia (.sl 32) (tm 17) (tm 18)),
  sm 3 20 (.ldA 32 (tm 19)),
  sv 4 21 1,
  sv 5 22 5,
  sm 6 23 (.ia (.sl 32) (tm 21) (tm 22)),
  sm 7 24 (.ldA 32 (tm 23)),
  sm 8 25 (.bin .neq 71 (tm 20) (tm 24))])
  (.cond (tm 25) (.seq (.reg [sm 0 4 (.mv (.const (.bool false)))])
  .ret) .skip)))
  (.reg [sv 0 15 5,
  sm 1 16 (.bin .add 3 (tm 15) (.const (.int .i64 1))),
  sv 2 5 16])))
def c58 : Cd := (.seq (.reg [sm 0 4 (.mv (.const (.bool false)))])
  (.seq (.seq (.reg [sv 0 6 0,
  sm 1 7 (.len (.sl 32) (tm 6)),
  sv 2 8 1,
  sm 3 9 (.len (.sl 32) (tm 8)),
  sm 4 10 (.bin .neq 3 (tm 7) (tm 9))])
  (.cond (tm 10) (.seq (.reg [sm 0 4 (.mv (.const (.bool false)))])
  .ret) .skip))
  (.seq (.seq (.reg [sm 0 5 (.mv (.const (.int .i64 0)))])
  (.block 0 (.loop l58_0)))
  (.seq (.reg [sm 0 4 (.mv (.const (.bool true)))])
  .ret))))
def r58 : List Mo := [.mv (tm 4)]
theorem c58_eq : compF Tryz.prog 58 = some c58 := by kernel_rfl
theorem r58_eq : compRs Tryz.prog 58 = some r58 := by kernel_rfl
def l60_0 : Cd := (.seq (.seq (.reg [sv 0 12 4,
  sv 1 13 0,
  sm 2 14 (.len (.sl 11) (tm 13)),
  sm 3 15 (.bin .lss 3 (tm 12) (tm 14))])
  (.cond (tm 15) .skip (.exit 0)))
  (.seq (.block 1 (.seq (.reg [sv 0 18 0,
  sv 1 19 4,
  sm 2 20 (.ia (.sl 11) (tm 18) (tm 19)),
  sm 3 21 (.ldA 11 (tm 20)),
  sc 4 22 61 [(tm 21)],
  sm 5 23 (.bin .neq 3 (tm 22) (.const (.int .i64 0)))])
  (.cond (tm 23) (.seq (.reg [sm 0 24 (.bld [.nilS, .nilS] []),
  sv 1 25 0,
  sv 2 26 4,
  sm 3 27 (.ia (.sl 11) (tm 25) (tm 26)),
  sm 4 28 (.ldA 11 (tm 27)),
  sc 5 29 61 [(tm 28)],
  se 6 (.st 2 (tm 2) (tm 24)),
  sv 7 3 29])
  .ret) .skip)))
  (.reg [sv 0 16 4,
  sm 1 17 (.bin .add 3 (tm 16) (.const (.int .i64 1))),
  sv 2 4 17])))
def l60_1 : Cd := (.seq (.seq (.reg [sv 0 30 6,
  sv 1 31 0,
  sm 2 32 (.len (.sl 11) (tm 31)),
  sm 3 33 (.bin .lss 3 (tm 30) (tm 32))])
  (.cond (tm 33) .skip (.exit 2)))
  (.seq (.block 3 (.seq (.reg [sv 0 36 0,
  sv 1 37 6,
  sm 2 38 (.ia (.sl 11) (tm 36) (tm 37)),
  sm 3 39 (.ldA 11 (tm 38)),
  sc 4 40 32 [(tm 39)],
  sm 5 7 (.alloc (rep 32 (.int .u8 0))),
  se 6 (.st 32 (tm 7) (tm 40))])
  (.seq (.seq (.reg [sm 0 41 (.fa 0 (tm 5)),
  sm 1 42 (.ld1 (tm 41)),
  sm 2 43 (.ldA 32 (tm 7)),
  sc 3 44 70 [(tm 42), (tm 43)],
  sm 4 45 (.bin .geq 3 (tm 44) (.const (.int .i64 0)))])
  (.cond (tm 45) (.seq (.reg [sm 0 46 (.bld [.nilS, .nilS] []),
  se 1 (.st 2 (tm 2) (tm 46)),
  sm 2 3 (.mv (.const (.int .i64 14)))])
  .ret) .skip))
  (.reg [sm 0 47 (.ldA 2 (tm 5)),
  sm 1 48 (.ldA 32 (tm 7)),
  sv 2 49 0,
  sv 3 50 6,
  sm 4 51 (.ia (.sl 11) (tm 49) (tm 50)),
  sm 5 52 (.ldA 11 (tm 51)),
  sc 6 53 92 [(tm 47), (tm 48), (tm 52)],
  se 7 (.st 2 (tm 5) (tm 53))]))))
  (.reg [sv 0 34 6,
  sm 1 35 (.bin .add 3 (tm 34) (.const (.int .i64 1))),
  sv 2 6 35])))
def c60 : Cd := (.seq (.reg [sm 0 2 (.alloc [.nilS, .nilS]),
  sm 1 3 (.mv (.const (.int .i64 0)))])
  (.seq (.seq (.reg [sv 0 8 0,
  sm 1 9 (.len (.sl 11) (tm 8)),
  sm 2 10 (.bin .gtr 3 (tm 9) (.const (.int .i64 60)))])
  (.cond (tm 10) (.seq (.reg [sm 0 11 (.bld [.nilS, .nilS] []),
  se 1 (.st 2 (tm 2) (tm 11)),
  sm 2 3 (.mv (.const (.int .i64 4)))])
  .ret) .skip))
  (.seq (.seq (.reg [sm 0 4 (.mv (.const (.int .i64 0)))])
  (.block 0 (.loop l60_0)))
  (.seq (.reg [sm 0 5 (.alloc [.nilS, .nilS])])
  (.seq (.seq (.reg [sm 0 6 (.mv (.const (.int .i64 0)))])
  (.block 2 (.loop l60_1)))
  (.seq (.seq (.reg [sm 0 54 (.ldA 2 (tm 5)),
  sc 1 55 62 [(tm 54)],
  sm 2 56 (.bin .neq 3 (tm 55) (.const (.int .i64 0)))])
  (.cond (tm 56) (.seq (.reg [sm 0 57 (.bld [.nilS, .nilS] []),
  sm 1 58 (.ldA 2 (tm 5)),
  sc 2 59 62 [(tm 58)],
  se 3 (.st 2 (tm 2) (tm 57)),
  sv 4 3 59])
  .ret) .skip))
  (.seq (.reg [sm 0 60 (.ldA 2 (tm 5)),
  se 1 (.st 2 (tm 2) (tm 60)),
  sm 2 3 (.mv (.const (.int .i64 0)))])
  .ret)))))))
def r60 : List Mo := [.ldA 2 (tm 2), .mv (tm 3)]
theorem c60_eq : compF Tryz.prog 60 = some c60 := by kernel_rfl
theorem r60_eq : compRs Tryz.prog 60 = some r60 := by kernel_rfl
def c61 : Cd := (.seq (.reg [sm 0 1 (.box (tm 0)),
  sm 1 2 (.mv (.const (.int .i64 0)))])
  (.seq (.seq (.reg [sm 0 3 (.ldA 11 (tm 1)),
  sc 1 4 31 [(tm 3)],
  sm 2 5 (.bin .neq 3 (tm 4) (.const (.int .i64 0)))])
  (.cond (tm 5) (.seq (.reg [sm 0 6 (.ldA 11 (tm 1)),
  sc 1 7 31 [(tm 6)],
  sv 2 2 7])
  .ret) .skip))
  (.seq (.seq (.reg [sm 0 8 (.ldA 11 (tm 1)),
  sc 1 9 93 [(tm 8)],
  sm 2 10 (.un .not (tm 9))])
  (.cond (tm 10) (.seq (.reg [sm 0 2 (.mv (.const (.int .i64 22)))])
  .ret) .skip))
  (.seq (.reg [sm 0 2 (.mv (.const (.int .i64 0)))])
  .ret))))
def r61 : List Mo := [.mv (tm 2)]
theorem c61_eq : compF Tryz.prog 61 = some c61 := by kernel_rfl
theorem r61_eq : compRs Tryz.prog 61 = some r61 := by kernel_rfl
def l62_0 : Cd := (.seq (.seq (.reg [sv 0 8 3,
  sm 1 9 (.fa 1 (tm 1)),
  sm 2 10 (.ld1 (tm 9)),
  sm 3 11 (.len (.sl 11) (tm 10)),
  sm 4 12 (.bin .lss 3 (tm 8) (tm 11))])
  (.cond (tm 12) .skip (.exit 0)))
  (.seq (.block 1 (.seq (.reg [sm 0 15 (.fa 0 (tm 1)),
  sm 1 16 (.ld1 (tm 15)),
  sm 2 17 (.fa 1 (tm 1)),
  sm 3 18 (.ld1 (tm 17)),
  sv 4 19 3,
  sm 5 20 (.ia (.sl 11) (tm 18) (tm 19)),
  sm 6 21 (.fa 1 (tm 20)),
  sm 7 22 (.ld1 (tm 21)),
  sc 8 23 69 [(tm 16), (tm 22)],
  sm 9 24 (.un .not (tm 23))])
  (.cond (tm 24) (.seq (.reg [sm 0 2 (.mv (.const (.int .i64 40)))])
  .ret) .skip)))
  (.reg [sv 0 13 3,
  sm 1 14 (.bin .add 3 (tm 13) (.const (.int .i64 1))),
  sv 2 3 14])))
def c62 : Cd := (.seq (.reg [sm 0 1 (.box (tm 0)),
  sm 1 2 (.mv (.const (.int .i64 0)))])
  (.seq (.seq (.reg [sm 0 4 (.fa 0 (tm 1)),
  sm 1 5 (.ld1 (tm 4)),
  sc 2 6 63 [(tm 5)],
  sm 3 7 (.un .not (tm 6))])
  (.cond (tm 7) (.seq (.reg [sm 0 2 (.mv (.const (.int .i64 32)))])
  .ret) .skip))
  (.seq (.seq (.reg [sm 0 3 (.mv (.const (.int .i64 0)))])
  (.block 0 (.loop l62_0)))
  (.seq (.seq (.dreg [sm 0 25 (.ldA 2 (tm 1)),
  sm 3 28 (.fa 1 (tm 1)),
  ⟨4, (some 29), none, .mo (.ld1 (tm 28)), [], true⟩,
  sm 5 30 (.len (.sl 11) (tm 29)),
  ⟨1, (some 26), none, .callF 94 [(tm 25)], [4], false⟩,
  sm 2 27 (.len (.sl 1) (tm 26)),
  sm 6 31 (.bin .lss 3 (tm 27) (tm 30))])
  (.cond (tm 31) (.seq (.reg [sm 0 2 (.mv (.const (.int .i64 36)))])
  .ret) .skip))
  (.seq (.reg [sm 0 2 (.mv (.const (.int .i64 0)))])
  .ret)))))
def r62 : List Mo := [.mv (tm 2)]
theorem c62_eq : compF Tryz.prog 62 = some c62 := by kernel_rfl
theorem r62_eq : compRs Tryz.prog 62 = some r62 := by kernel_rfl
def l63_0 : Cd := (.seq (.seq (.reg [sv 0 4 3,
  sv 1 5 0,
  sm 2 6 (.len (.sl 32) (tm 5)),
  sm 3 7 (.bin .lss 3 (tm 4) (tm 6))])
  (.cond (tm 7) .skip (.exit 0)))
  (.seq (.block 1 (.seq (.reg [sv 0 10 0,
  sv 1 11 3,
  sm 2 12 (.bin .sub 3 (tm 11) (.const (.int .i64 1))),
  sm 3 13 (.ia (.sl 32) (tm 10) (tm 12)),
  sm 4 14 (.ldA 32 (tm 13)),
  sv 5 15 0,
  sv 6 16 3,
  sm 7 17 (.ia (.sl 32) (tm 15) (tm 16)),
  sm 8 18 (.ldA 32 (tm 17)),
  sc 9 19 84 [(tm 14), (tm 18)],
  sm 10 20 (.bin .geq 3 (tm 19) (.const (.int .i64 0)))])
  (.cond (tm 20) (.seq (.reg [sm 0 2 (.mv (.const (.bool false)))])
  .ret) .skip)))
  (.reg [sv 0 8 3,
  sm 1 9 (.bin .add 3 (tm 8) (.const (.int .i64 1))),
  sv 2 3 9])))
def c63 : Cd := (.seq (.reg [sm 0 2 (.mv (.const (.bool false)))])
  (.seq (.seq (.reg [sm 0 3 (.mv (.const (.int .i64 1)))])
  (.block 0 (.loop l63_0)))
  (.seq (.reg [sm 0 2 (.mv (.const (.bool true)))])
  .ret)))
def r63 : List Mo := [.mv (tm 2)]
theorem c63_eq : compF Tryz.prog 63 = some c63 := by kernel_rfl
theorem r63_eq : compRs Tryz.prog 63 = some r63 := by kernel_rfl
def c64 : Cd := (.seq (.reg [sm 0 2 (.mv (.const (.bool false)))])
  (.seq (.reg [sv 0 3 0,
  sm 1 4 (.bin .geq 25 (tm 3) (.const (.int .u32 1))),
  sv 2 5 4,
  sg 3 6 5 true (.mv (tm 0)),
  sg 4 7 5 true (.bin .lss 25 (tm 6) (.const (.int .u32 1000000007))),
  sm 5 8 (.pick (tm 5) (tm 7) (.const (.bool false))),
  sv 6 9 8,
  sg 7 10 9 true (.mv (tm 0)),
  sg 8 11 9 true (.cint .u64 (tm 10)),
  ⟨9, (some 12), (some ((some 9), true)), .callF 95 [(tm 11), (.const (.int .u64 500000003)), (.const (.int .u64 1000000007))], [], false⟩,
  sg 10 13 9 true (.bin .eql 27 (tm 12) (.const (.int .u64 1))),
  sm 11 14 (.pick (tm 9) (tm 13) (.const (.bool false))),
  sv 12 2 14])
  .ret))
def r64 : List Mo := [.mv (tm 2)]
theorem c64_eq : compF Tryz.prog 64 = some c64 := by kernel_rfl
theorem r64_eq : compRs Tryz.prog 64 = some r64 := by kernel_rfl
def c65 : Cd := (.seq (.reg [sm 0 1 (.box (tm 0)),
  sm 1 2 (.mv (.const (.int .i64 0)))])
  (.seq (.reg [sm 0 4 (.fa 2 (tm 1)),
  sm 1 5 (.ldA 4 (tm 4)),
  sm 2 6 (.bld [.int .u8 0, .int .i64 0, .int .u64 0, .str []] []),
  sm 3 7 (.bin .eql 29 (tm 5) (tm 6)),
  sv 4 3 7])
  (.seq (.seq (.reg [sm 0 8 (.fa 0 (tm 1)),
  sm 1 9 (.ld1 (tm 8))])
  (.block 0 (.seq (.reg [sm 0 11 (.bin .eql 5 (tm 9) (.const (.int .u8 1))),
  sv 1 10 11])
  (.cond (tm 10) (.seq (.reg [sm 0 12 (.fa 1 (tm 1)),
  sm 1 13 (.ld1 (tm 12)),
  sm 2 14 (.bin .eql 9 (tm 13) (.const (.string ⟨#[]⟩))),
  sv 3 15 14,
  sg 4 16 15 true (.mv (tm 3)),
  sm 5 17 (.pick (tm 15) (tm 16) (.const (.bool false)))])
  (.cond (tm 17) (.seq (.reg [sm 0 2 (.mv (.const (.int .i64 0)))])
  .ret) .skip)) (.seq (.seq (.reg [sm 0 19 (.bin .eql 5 (tm 9) (.const (.int .u8 2))),
  sv 1 18 19])
  (.cond (tm 18) .skip (.reg [sm 0 20 (.bin .eql 5 (tm 9) (.const (.int .u8 3))),
  sv 1 18 20])))
  (.cond (tm 18) (.seq (.reg [sm 0 21 (.fa 1 (tm 1)),
  sm 1 22 (.ld1 (tm 21)),
  sc 2 23 51 [(tm 22)],
  sv 3 24 23,
  sg 4 25 24 true (.mv (tm 3)),
  sm 5 26 (.pick (tm 24) (tm 25) (.const (.bool false)))])
  (.cond (tm 26) (.seq (.reg [sm 0 2 (.mv (.const (.int .i64 0)))])
  .ret) .skip)) (.seq (.reg [sm 0 28 (.bin .eql 5 (tm 9) (.const (.int .u8 4))),
  sv 1 27 28])
  (.cond (tm 27) (.seq (.reg [sm 0 29 (.fa 1 (tm 1)),
  sm 1 30 (.ld1 (tm 29)),
  sc 2 31 51 [(tm 30)],
  sv 3 32 31,
  sg 4 33 32 true (.fa 2 (tm 1)),
  sg 5 34 32 true (.ldA 4 (tm 33)),
  ⟨6, (some 35), (some ((some 32), true)), .callF 96 [(tm 34)], [], false⟩,
  sg 7 36 32 true (.bin .eql 3 (tm 35) (.const (.int .i64 0))),
  sm 8 37 (.pick (tm 32) (tm 36) (.const (.bool false)))])
  (.cond (tm 37) (.seq (.reg [sm 0 2 (.mv (.const (.int .i64 0)))])
  .ret) .skip)) .skip))))))))
  (.seq (.reg [sm 0 2 (.mv (.const (.int .i64 8)))])
  .ret))))
def r65 : List Mo := [.mv (tm 2)]
theorem c65_eq : compF Tryz.prog 65 = some c65 := by kernel_rfl
theorem r65_eq : compRs Tryz.prog 65 = some r65 := by kernel_rfl
def c66 : Cd := (.seq (.reg [sm 0 2 (.mv (.const (.bool false)))])
  (.seq (.reg [sv 0 3 0,
  sm 1 4 (.cint .u64 (tm 3)),
  sm 2 5 (.bin .lss 27 (tm 4) (.const (.int .u64 500000003))),
  sv 3 2 5])
  .ret))
def r66 : List Mo := [.mv (tm 2)]
theorem c66_eq : compF Tryz.prog 66 = some c66 := by kernel_rfl
theorem r66_eq : compRs Tryz.prog 66 = some r66 := by kernel_rfl
def c67 : Cd := (.seq (.reg [sm 0 2 (.alloc (rep 32 (.int .u8 0)))])
  (.seq (.reg [sc 0 3 99 [],
  sm 1 4 (.bsl 1 [.int .u8 0] 0 []),
  sv 2 5 0,
  sm 3 6 (.app 1 1 (tm 4) (tm 5)),
  sv 4 7 0,
  sm 5 8 (.len (.sl 1) (tm 7)),
  sc 6 9 100 [(tm 8)],
  sm 7 10 (.app 1 1 (tm 6) (tm 9)),
  sc 8 11 98 [(tm 3), (tm 10)],
  sc 9 12 97 [(tm 11)],
  se 10 (.st 32 (tm 2) (tm 12))])
  .ret))
def r67 : List Mo := [.ldA 32 (tm 2)]
theorem c67_eq : compF Tryz.prog 67 = some c67 := by kernel_rfl
theorem r67_eq : compRs Tryz.prog 67 = some r67 := by kernel_rfl
def c68 : Cd := (.seq (.reg [sm 0 1 (.box (tm 0)),
  sm 1 2 (.mv (.const (.slice none 0 0)))])
  (.seq (.dreg [sm 0 3 (.ldA 11 (tm 1)),
  sm 2 5 (.fa 9 (tm 1)),
  sm 3 6 (.fa 0 (tm 5)),
  ⟨4, (some 7), none, .mo (.ld1 (tm 6)), [], true⟩,
  ⟨5, (some 8), none, .mo (.cint .u64 (tm 7)), [], true⟩,
  sm 8 11 (.fa 9 (tm 1)),
  sm 9 12 (.fa 1 (tm 11)),
  ⟨10, (some 13), none, .mo (.ld1 (tm 12)), [], true⟩,
  ⟨11, (some 14), none, .mo (.cint .u64 (tm 13)), [], true⟩,
  ⟨1, (some 4), none, .callF 101 [(tm 3)], [11, 10, 5, 4], false⟩,
  ⟨6, (some 9), none, .callF 102 [(tm 8)], [11, 10], false⟩,
  ⟨7, (some 10), none, .mo (.app 1 1 (tm 4) (tm 9)), [11, 10], false⟩,
  sc 12 15 102 [(tm 14)],
  sm 13 16 (.app 1 1 (tm 10) (tm 15)),
  sv 14 2 16])
  .ret))
def r68 : List Mo := [.mv (tm 2)]
theorem c68_eq : compF Tryz.prog 68 = some c68 := by kernel_rfl
theorem r68_eq : compRs Tryz.prog 68 = some r68 := by kernel_rfl
def l69_0 : Cd := (.seq (.seq (.reg [sv 0 6 5,
  sv 1 7 1,
  sm 2 8 (.len (.sl 32) (tm 7)),
  sm 3 9 (.bin .lss 3 (tm 6) (tm 8))])
  (.cond (tm 9) .skip (.exit 0)))
  (.seq (.block 1 (.seq (.reg [sv 0 12 0,
  sv 1 13 1,
  sv 2 14 5,
  sm 3 15 (.ia (.sl 32) (tm 13) (tm 14)),
  sm 4 16 (.ldA 32 (tm 15)),
  sc 5 17 70 [(tm 12), (tm 16)],
  sm 6 18 (.bin .lss 3 (tm 17) (.const (.int .i64 0)))])
  (.cond (tm 18) (.seq (.reg [sm 0 4 (.mv (.const (.bool false)))])
  .ret) .skip)))
  (.reg [sv 0 10 5,
  sm 1 11 (.bin .add 3 (tm 10) (.const (.int .i64 1))),
  sv 2 5 11])))
def c69 : Cd := (.seq (.reg [sm 0 4 (.mv (.const (.bool false)))])
  (.seq (.seq (.reg [sm 0 5 (.mv (.const (.int .i64 0)))])
  (.block 0 (.loop l69_0)))
  (.seq (.reg [sm 0 4 (.mv (.const (.bool true)))])
  .ret)))
def r69 : List Mo := [.mv (tm 4)]
theorem c69_eq : compF Tryz.prog 69 = some c69 := by kernel_rfl
theorem r69_eq : compRs Tryz.prog 69 = some r69 := by kernel_rfl
def l70_0 : Cd := (.seq (.seq (.reg [sv 0 6 5,
  sv 1 7 0,
  sm 2 8 (.len (.sl 32) (tm 7)),
  sm 3 9 (.bin .lss 3 (tm 6) (tm 8))])
  (.cond (tm 9) .skip (.exit 0)))
  (.seq (.block 1 (.seq (.reg [sv 0 12 0,
  sv 1 13 5,
  sm 2 14 (.ia (.sl 32) (tm 12) (tm 13)),
  sm 3 15 (.ldA 32 (tm 14)),
  sm 4 16 (.ldA 32 (tm 3)),
  sm 5 17 (.bin .eql 71 (tm 15) (tm 16))])
  (.cond (tm 17) (.seq (.reg [sv 0 18 5,
  sv 1 4 18])
  .ret) .skip)))
  (.reg [sv 0 10 5,
  sm 1 11 (.bin .add 3 (tm 10) (.const (.int .i64 1))),
  sv 2 5 11])))
def c70 : Cd := (.seq (.reg [sm 0 3 (.box (tm 1)),
  sm 1 4 (.mv (.const (.int .i64 0)))])
  (.seq (.seq (.reg [sm 0 5 (.mv (.const (.int .i64 0)))])
  (.block 0 (.loop l70_0)))
  (.seq (.reg [sm 0 4 (.mv (.const (.int .i64 (-1))))])
  .ret)))
def r70 : List Mo := [.mv (tm 4)]
theorem c70_eq : compF Tryz.prog 70 = some c70 := by kernel_rfl
theorem r70_eq : compRs Tryz.prog 70 = some r70 := by kernel_rfl
def c71 : Cd := (.seq (.reg [sm 0 3 (.box (tm 1)),
  sm 1 4 (.alloc [.int .u32 0, .nilS, .int .u64 0, .int .u8 0, .str [], .int .u8 0, .int .i64 0, .int .u64 0, .str [], .int .u32 0, .int .u32 0]),
  sm 2 5 (.mv (.const (.int .i64 0)))])
  (.seq (.seq (.reg [sv 0 7 0,
  sc 1 8 103 [(tm 7)],
  sm 2 9 (.bin .neq 3 (tm 8) (.const (.int .i64 0)))])
  (.cond (tm 9) (.seq (.reg [sm 0 10 (.bld [.int .u32 0, .nilS, .int .u64 0, .int .u8 0, .str [], .int .u8 0, .int .i64 0, .int .u64 0, .str [], .int .u32 0, .int .u32 0] []),
  sv 1 11 0,
  sc 2 12 103 [(tm 11)],
  se 3 (.st 11 (tm 4) (tm 10)),
  sv 4 5 12])
  .ret) .skip))
  (.seq (.reg [sm 0 13 (.ldA 11 (tm 3)),
  sc 1 14 104 [(tm 13)],
  sc 2 15 54 [(tm 14)],
  sm 3 6 (.alloc [.int .u32 0, .nilS, .int .u64 0, .int .u8 0, .str [], .int .u8 0, .int .i64 0, .int .u64 0, .str [], .int .u32 0, .int .u32 0]),
  se 4 (.st 11 (tm 6) (tm 15))])
  (.seq (.reg [sv 0 16 0,
  sc 1 17 105 [(tm 16)],
  sm 2 18 (.fa 0 (tm 6)),
  se 3 (.st 1 (tm 18) (tm 17))])
  (.seq (.seq (.reg [sm 0 19 (.ldA 11 (tm 6)),
  sc 1 20 31 [(tm 19)],
  sm 2 21 (.bin .neq 3 (tm 20) (.const (.int .i64 0)))])
  (.cond (tm 21) (.seq (.reg [sm 0 22 (.bld [.int .u32 0, .nilS, .int .u64 0, .int .u8 0, .str [], .int .u8 0, .int .i64 0, .int .u64 0, .str [], .int .u32 0, .int .u32 0] []),
  sm 1 23 (.ldA 11 (tm 6)),
  sc 2 24 31 [(tm 23)],
  se 3 (.st 11 (tm 4) (tm 22)),
  sv 4 5 24])
  .ret) .skip))
  (.seq (.reg [sv 0 25 0,
  sm 1 26 (.ldA 11 (tm 6)),
  sc 2 27 101 [(tm 26)],
  sc 3 28 106 [(tm 25), (tm 27)],
  sm 4 29 (.fa 9 (tm 6)),
  se 5 (.st 2 (tm 29) (tm 28))])
  (.seq (.reg [sm 0 30 (.ldA 11 (tm 6)),
  se 1 (.st 11 (tm 4) (tm 30)),
  sm 2 5 (.mv (.const (.int .i64 0)))])
  .ret)))))))
def r71 : List Mo := [.ldA 11 (tm 4), .mv (tm 5)]
theorem c71_eq : compF Tryz.prog 71 = some c71 := by kernel_rfl
theorem r71_eq : compRs Tryz.prog 71 = some r71 := by kernel_rfl
def c72 : Cd := (.seq (.reg [sm 0 1 (.box (tm 0)),
  sm 1 2 (.mv (.const (.slice none 0 0))),
  sm 2 3 (.mv (.const (.int .i64 0)))])
  (.seq (.seq (.reg [sm 0 7 (.ldA 11 (tm 1)),
  sc 1 8 107 [(tm 7)],
  sv 2 4 8])
  (.seq (.reg [sv 0 9 4,
  sm 1 10 (.bin .neq 38 (tm 9) (.const (.int .i64 0)))])
  (.cond (tm 10) (.seq (.reg [sv 0 11 4,
  sm 1 2 (.mv (.const (.slice none 0 0))),
  sv 2 3 11])
  .ret) .skip)))
  (.seq (.reg [sm 0 13 (.ldA 11 (tm 1)),
  sc 1 14 108 [(tm 13)],
  sv 2 12 14,
  sm 3 15 (.ext (tm 12) 0),
  sm 4 16 (.ext (tm 12) 1),
  sv 5 5 15,
  sv 6 6 16])
  (.seq (.dreg [sv 0 17 5,
  sm 1 18 (.fa 9 (tm 1)),
  sm 2 19 (.fa 0 (tm 18)),
  sm 3 20 (.ld1 (tm 19)),
  sm 4 21 (.cint .u64 (tm 20)),
  sm 6 23 (.fa 9 (tm 1)),
  sm 7 24 (.fa 1 (tm 23)),
  ⟨8, (some 25), none, .mo (.ld1 (tm 24)), [], true⟩,
  ⟨9, (some 26), none, .mo (.cint .u64 (tm 25)), [], true⟩,
  ⟨5, (some 22), none, .callF 110 [(tm 21)], [9, 8], false⟩,
  sc 10 27 110 [(tm 26)],
  sm 11 28 (.bsl 1 [.nilS] 3 [(0, (tm 17)), (1, (tm 22)), (2, (tm 27))]),
  sc 12 29 109 [(tm 28)],
  sv 13 2 29,
  sm 14 3 (.mv (.const (.int .i64 0)))])
  .ret))))
def r72 : List Mo := [.mv (tm 2), .mv (tm 3)]
theorem c72_eq : compF Tryz.prog 72 = some c72 := by kernel_rfl
theorem r72_eq : compRs Tryz.prog 72 = some r72 := by kernel_rfl
def c73 : Cd := (.seq (.reg [sm 0 2 (.alloc (rep 32 (.int .u8 0))),
  sm 1 3 (.mv (.const (.int .i64 0)))])
  (.seq (.reg [sv 0 4 0,
  sm 1 5 (.bsl 1 [.nilS] 1 [(0, (tm 4))]),
  sc 2 6 111 [(tm 5)],
  sm 3 7 (.ext (tm 6) 0),
  sm 4 8 (.ext (tm 6) 1),
  se 5 (.st 32 (tm 2) (tm 7)),
  sv 6 3 8])
  .ret))
def r73 : List Mo := [.ldA 32 (tm 2), .mv (tm 3)]
theorem c73_eq : compF Tryz.prog 73 = some c73 := by kernel_rfl
theorem r73_eq : compRs Tryz.prog 73 = some r73 := by kernel_rfl
def l74_0 : Cd := (.seq (.reg [sm 0 9 (.bin .lss 3 (tm 8) (tm 7))])
  (.seq (.cond (tm 9) .skip (.exit 0))
  (.seq (.block 1 (.seq (.reg [sm 0 10 (.ia (.sl 1) (tm 6) (tm 8)),
  sm 1 11 (.ld1 (tm 10)),
  sv 2 5 11])
  (.seq (.reg [sv 0 12 5,
  sv 1 13 3,
  sm 2 14 (.bin .neq 3 (tm 12) (tm 13))])
  (.cond (tm 14) (.seq (.reg [sv 0 15 5,
  sv 1 2 15])
  .ret) .skip))))
  (.reg [sm 0 16 (.bin .add 3 (tm 8) (.const (.int .i64 1))),
  sv 1 8 16]))))
def c74 : Cd := (.seq (.reg [sm 0 2 (.mv (.const (.int .i64 0)))])
  (.seq (.reg [sm 0 3 (.mv (.const (.int .i64 0)))])
  (.seq (.seq (.reg [sv 0 6 0,
  sm 1 7 (.len (.sl 1) (tm 6)),
  sm 2 8 (.mv (.const (.int .i64 0)))])
  (.block 0 (.loop l74_0)))
  (.seq (.reg [sv 0 17 3,
  sv 1 2 17])
  .ret))))
def r74 : List Mo := [.mv (tm 2)]
theorem c74_eq : compF Tryz.prog 74 = some c74 := by kernel_rfl
theorem r74_eq : compRs Tryz.prog 74 = some r74 := by kernel_rfl
def c75 : Cd := (.seq (.reg [sm 0 4 (.mv (.const (.int .i64 0)))])
  (.seq (.reg [sv 0 7 0,
  sc 1 8 112 [(tm 7)],
  sv 2 5 8])
  (.seq (.reg [sv 0 9 1,
  sc 1 10 112 [(tm 9)],
  sv 2 6 10])
  (.seq (.seq (.reg [sv 0 11 5])
  (.cond (tm 11) (.seq (.seq (.reg [sv 0 12 6])
  (.cond (tm 12) (.seq (.reg [sm 0 4 (.mv (.const (.int .i64 0)))])
  .ret) .skip))
  (.seq (.reg [sm 0 4 (.mv (.const (.int .i64 (-1))))])
  .ret)) .skip))
  (.seq (.seq (.reg [sv 0 13 6])
  (.cond (tm 13) (.seq (.reg [sm 0 4 (.mv (.const (.int .i64 1)))])
  .ret) .skip))
  (.seq (.seq (.reg [sv 0 14 0,
  sv 1 15 1,
  sm 2 16 (.bin .lss 9 (tm 14) (tm 15))])
  (.cond (tm 16) (.seq (.reg [sm 0 4 (.mv (.const (.int .i64 (-1))))])
  .ret) .skip))
  (.seq (.seq (.reg [sv 0 17 0,
  sv 1 18 1,
  sm 2 19 (.bin .gtr 9 (tm 17) (tm 18))])
  (.cond (tm 19) (.seq (.reg [sm 0 4 (.mv (.const (.int .i64 1)))])
  .ret) .skip))
  (.seq (.reg [sm 0 4 (.mv (.const (.int .i64 0)))])
  .ret))))))))
def r75 : List Mo := [.mv (tm 4)]
theorem c75_eq : compF Tryz.prog 75 = some c75 := by kernel_rfl
theorem r75_eq : compRs Tryz.prog 75 = some r75 := by kernel_rfl
def c76 : Cd := (.seq (.reg [sm 0 4 (.mv (.const (.int .i64 0)))])
  (.seq (.reg [sv 0 5 0,
  sv 1 6 1,
  sm 2 7 (.cmpB 113 (.func 113) (tm 5) (tm 6)),
  sv 3 4 7])
  .ret))
def r76 : List Mo := [.mv (tm 4)]
theorem c76_eq : compF Tryz.prog 76 = some c76 := by kernel_rfl
theorem r76_eq : compRs Tryz.prog 76 = some r76 := by kernel_rfl
def l79_0 : Cd := (.seq (.reg [sm 0 9 (.bin .lss 3 (tm 8) (tm 7))])
  (.seq (.cond (tm 9) .skip (.exit 0))
  (.seq (.block 1 (.seq (.reg [sv 0 10 8,
  sv 1 5 10])
  (.seq (.reg [sv 0 11 1,
  sv 1 12 0,
  sv 2 13 5,
  sm 3 14 (.ia (.sl 33) (tm 12) (tm 13)),
  sm 4 15 (.ldA 33 (tm 14)),
  ⟨5, (some 16), none, .callV (tm 11) [(tm 15)], [], false⟩])
  (.cond (tm 16) (.seq (.reg [sv 0 17 5,
  sv 1 4 17])
  .ret) .skip))))
  (.reg [sm 0 18 (.bin .add 3 (tm 8) (.const (.int .i64 1))),
  sv 1 8 18]))))
def c79 : Cd := (.seq (.reg [sm 0 4 (.mv (.const (.int .i64 0)))])
  (.seq (.seq (.reg [sv 0 6 0,
  sm 1 7 (.len (.sl 33) (tm 6)),
  sm 2 8 (.mv (.const (.int .i64 0)))])
  (.block 0 (.loop l79_0)))
  (.seq (.reg [sm 0 4 (.mv (.const (.int .i64 (-1))))])
  .ret)))
def r79 : List Mo := [.mv (tm 4)]
theorem c79_eq : compF Tryz.prog 79 = some c79 := by kernel_rfl
theorem r79_eq : compRs Tryz.prog 79 = some r79 := by kernel_rfl
def l80_0 : Cd := (.seq (.reg [sm 0 9 (.bin .lss 3 (tm 8) (tm 7))])
  (.seq (.cond (tm 9) .skip (.exit 0))
  (.seq (.block 1 (.seq (.reg [sv 0 10 8,
  sv 1 5 10])
  (.seq (.reg [sm 0 11 (.ldA 32 (tm 3)),
  sv 1 12 0,
  sv 2 13 5,
  sm 3 14 (.ia (.sl 32) (tm 12) (tm 13)),
  sm 4 15 (.ldA 32 (tm 14)),
  sm 5 16 (.bin .eql 71 (tm 11) (tm 15))])
  (.cond (tm 16) (.seq (.reg [sv 0 17 5,
  sv 1 4 17])
  .ret) .skip))))
  (.reg [sm 0 18 (.bin .add 3 (tm 8) (.const (.int .i64 1))),
  sv 1 8 18]))))
def c80 : Cd := (.seq (.reg [sm 0 3 (.box (tm 1)),
  sm 1 4 (.mv (.const (.int .i64 0)))])
  (.seq (.seq (.reg [sv 0 6 0,
  sm 1 7 (.len (.sl 32) (tm 6)),
  sm 2 8 (.mv (.const (.int .i64 0)))])
  (.block 0 (.loop l80_0)))
  (.seq (.reg [sm 0 4 (.mv (.const (.int .i64 (-1))))])
  .ret)))
def r80 : List Mo := [.mv (tm 4)]
theorem c80_eq : compF Tryz.prog 80 = some c80 := by kernel_rfl
theorem r80_eq : compRs Tryz.prog 80 = some r80 := by kernel_rfl
def l81_0 : Cd := (.seq (.reg [sm 0 9 (.bin .lss 3 (tm 8) (tm 7))])
  (.seq (.cond (tm 9) .skip (.exit 0))
  (.seq (.block 1 (.seq (.reg [sv 0 10 8,
  sv 1 5 10])
  (.seq (.reg [sv 0 11 1,
  sv 1 12 0,
  sv 2 13 5,
  sm 3 14 (.ia (.sl 1) (tm 12) (tm 13)),
  sm 4 15 (.ld1 (tm 14)),
  sm 5 16 (.bin .eql 9 (tm 11) (tm 15))])
  (.cond (tm 16) (.seq (.reg [sv 0 17 5,
  sv 1 4 17])
  .ret) .skip))))
  (.reg [sm 0 18 (.bin .add 3 (tm 8) (.const (.int .i64 1))),
  sv 1 8 18]))))
def c81 : Cd := (.seq (.reg [sm 0 4 (.mv (.const (.int .i64 0)))])
  (.seq (.seq (.reg [sv 0 6 0,
  sm 1 7 (.len (.sl 1) (tm 6)),
  sm 2 8 (.mv (.const (.int .i64 0)))])
  (.block 0 (.loop l81_0)))
  (.seq (.reg [sm 0 4 (.mv (.const (.int .i64 (-1))))])
  .ret)))
def r81 : List Mo := [.mv (tm 4)]
theorem c81_eq : compF Tryz.prog 81 = some c81 := by kernel_rfl
theorem r81_eq : compRs Tryz.prog 81 = some r81 := by kernel_rfl
def c82 : Cd := (.seq (.reg [sm 0 2 (.mv (.const (.bool false)))])
  (.seq (.reg [sv 0 3 0,
  sm 1 4 (.len .str (tm 3)),
  sm 2 5 (.bin .geq 3 (tm 4) (.const (.int .i64 1))),
  sv 3 6 5,
  sg 4 7 6 true (.mv (tm 0)),
  sg 5 8 6 true (.len .str (tm 7)),
  sg 6 9 6 true (.bin .leq 3 (tm 8) (.const (.int .i64 20))),
  sm 7 10 (.pick (tm 6) (tm 9) (.const (.bool false))),
  sv 8 11 10,
  sg 9 12 11 true (.mv (tm 0)),
  ⟨10, (some 13), (some ((some 11), true)), .callF 115 [(tm 12), (.func 116)], [], false⟩,
  sg 11 14 11 true (.bin .lss 3 (tm 13) (.const (.int .i64 0))),
  sm 12 15 (.pick (tm 11) (tm 14) (.const (.bool false))),
  sv 13 2 15])
  .ret))
def r82 : List Mo := [.mv (tm 2)]
theorem c82_eq : compF Tryz.prog 82 = some c82 := by kernel_rfl
theorem r82_eq : compRs Tryz.prog 82 = some r82 := by kernel_rfl
def c83 : Cd := (.seq (.reg [sm 0 1 (.box (tm 0)),
  sm 1 2 (.mv (.const (.int .i64 0)))])
  (.seq (.reg [sm 0 3 (.alloc [.int .u8 0, .int .i64 0, .int .u64 0, .str []])])
  (.seq (.seq (.reg [sm 0 4 (.fa 0 (tm 1)),
  sm 1 5 (.ld1 (tm 4))])
  (.block 0 (.seq (.reg [sm 0 7 (.bin .eql 5 (tm 5) (.const (.int .u8 1))),
  sv 1 6 7])
  (.cond (tm 6) (.reg [sm 0 8 (.fa 1 (tm 1)),
  sm 1 9 (.ld1 (tm 8)),
  sc 2 10 117 [(tm 9)],
  se 3 (.st 4 (tm 3) (tm 10))]) (.seq (.reg [sm 0 12 (.bin .eql 5 (tm 5) (.const (.int .u8 2))),
  sv 1 11 12])
  (.cond (tm 11) (.reg [sm 0 13 (.fa 2 (tm 1)),
  sm 1 14 (.ld1 (tm 13)),
  sc 2 15 118 [(tm 14)],
  se 3 (.st 4 (tm 3) (tm 15))]) (.seq (.reg [sm 0 17 (.bin .eql 5 (tm 5) (.const (.int .u8 3))),
  sv 1 16 17])
  (.cond (tm 16) (.reg [sm 0 19 (.fa 3 (tm 1)),
  sm 1 20 (.ld1 (tm 19)),
  sc 2 21 119 [(tm 20)],
  sv 3 18 21,
  sm 4 22 (.ext (tm 18) 0),
  sm 5 23 (.ext (tm 18) 1),
  se 6 (.st 4 (tm 3) (tm 22))]) .skip))))))))
  (.seq (.seq (.reg [sm 0 24 (.ldA 4 (tm 1)),
  sm 1 25 (.ldA 4 (tm 3)),
  sm 2 26 (.bin .neq 29 (tm 24) (tm 25)),
  sv 3 27 26,
  sg 4 28 27 false (.fa 0 (tm 1)),
  sg 5 29 27 false (.ld1 (tm 28)),
  sg 6 30 27 false (.bin .eql 5 (tm 29) (.const (.int .u8 0))),
  sm 7 31 (.pick (tm 27) (.const (.bool true)) (tm 30))])
  (.cond (tm 31) (.seq (.reg [sm 0 2 (.mv (.const (.int .i64 8)))])
  .ret) .skip))
  (.seq (.reg [sm 0 2 (.mv (.const (.int .i64 0)))])
  .ret)))))
def r83 : List Mo := [.mv (tm 2)]
theorem c83_eq : compF Tryz.prog 83 = some c83 := by kernel_rfl
theorem r83_eq : compRs Tryz.prog 83 = some r83 := by kernel_rfl
def l84_0 : Cd := (.seq (.seq (.reg [sv 0 6 5,
  sm 1 7 (.bin .lss 3 (tm 6) (.const (.int .i64 32)))])
  (.cond (tm 7) .skip (.exit 0)))
  (.seq (.block 1 (.seq (.seq (.reg [sv 0 10 5,
  sm 1 11 (.ia (.arr 32 1) (tm 2) (tm 10)),
  sm 2 12 (.ld1 (tm 11)),
  sv 3 13 5,
  sm 4 14 (.ia (.arr 32 1) (tm 3) (tm 13)),
  sm 5 15 (.ld1 (tm 14)),
  sm 6 16 (.bin .lss 5 (tm 12) (tm 15))])
  (.cond (tm 16) (.seq (.reg [sm 0 4 (.mv (.const (.int .i64 (-1))))])
  .ret) .skip))
  (.seq (.reg [sv 0 17 5,
  sm 1 18 (.ia (.arr 32 1) (tm 2) (tm 17)),
  sm 2 19 (.ld1 (tm 18)),
  sv 3 20 5,
  sm 4 21 (.ia (.arr 32 1) (tm 3) (tm 20)),
  sm 5 22 (.ld1 (tm 21)),
  sm 6 23 (.bin .gtr 5 (tm 19) (tm 22))])
  (.cond (tm 23) (.seq (.reg [sm 0 4 (.mv (.const (.int .i64 1)))])
  .ret) .skip))))
  (.reg [sv 0 8 5,
  sm 1 9 (.bin .add 3 (tm 8) (.const (.int .i64 1))),
  sv 2 5 9])))
def c84 : Cd := (.seq (.reg [sm 0 2 (.box (tm 0)),
  sm 1 3 (.box (tm 1)),
  sm 2 4 (.mv (.const (.int .i64 0)))])
  (.seq (.seq (.reg [sm 0 5 (.mv (.const (.int .i64 0)))])
  (.block 0 (.loop l84_0)))
  (.seq (.reg [sm 0 4 (.mv (.const (.int .i64 0)))])
  .ret)))
def r84 : List Mo := [.mv (tm 4)]
theorem c84_eq : compF Tryz.prog 84 = some c84 := by kernel_rfl
theorem r84_eq : compRs Tryz.prog 84 = some r84 := by kernel_rfl
def c85 : Cd := (.seq (.reg [sm 0 1 (.box (tm 0)),
  sm 1 2 (.mv (.const (.int .i64 0)))])
  (.seq (.seq (.reg [sm 0 6 (.ldA 11 (tm 1)),
  sc 1 7 107 [(tm 6)],
  sv 2 3 7])
  (.seq (.reg [sv 0 8 3,
  sm 1 9 (.bin .neq 38 (tm 8) (.const (.int .i64 0)))])
  (.cond (tm 9) (.seq (.reg [sv 0 10 3,
  sv 1 2 10])
  .ret) .skip)))
  (.seq (.reg [sm 0 12 (.ldA 11 (tm 1)),
  sc 1 13 108 [(tm 12)],
  sv 2 11 13,
  sm 3 14 (.ext (tm 11) 0),
  sm 4 15 (.ext (tm 11) 1),
  sv 5 4 14,
  sv 6 5 15])
  (.seq (.reg [sm 0 16 (.fa 0 (tm 1)),
  sm 1 17 (.ld1 (tm 16)),
  sv 2 18 4,
  sm 3 19 (.fa 9 (tm 1)),
  sm 4 20 (.ldA 2 (tm 19)),
  sc 5 21 120 [(tm 17), (tm 18), (tm 20)],
  sv 6 2 21])
  .ret))))
def r85 : List Mo := [.mv (tm 2)]
theorem c85_eq : compF Tryz.prog 85 = some c85 := by kernel_rfl
theorem r85_eq : compRs Tryz.prog 85 = some r85 := by kernel_rfl
def l86_0 : Cd := (.seq (.seq (.reg [sv 0 16 3,
  sm 1 17 (.fa 0 (tm 1)),
  sm 2 18 (.ld1 (tm 17)),
  sm 3 19 (.len (.sl 32) (tm 18)),
  sm 4 20 (.bin .lss 3 (tm 16) (tm 19))])
  (.cond (tm 20) .skip (.exit 0)))
  (.seq (.block 1 (.seq (.reg [sm 0 23 (.fa 0 (tm 1)),
  sm 1 24 (.ld1 (tm 23)),
  sv 2 25 3,
  sm 3 26 (.bin .sub 3 (tm 25) (.const (.int .i64 1))),
  sm 4 27 (.ia (.sl 32) (tm 24) (tm 26)),
  sm 5 28 (.ldA 32 (tm 27)),
  sm 6 29 (.fa 0 (tm 1)),
  sm 7 30 (.ld1 (tm 29)),
  sv 8 31 3,
  sm 9 32 (.ia (.sl 32) (tm 30) (tm 31)),
  sm 10 33 (.ldA 32 (tm 32)),
  sc 11 34 121 [(tm 28), (tm 33)],
  sm 12 35 (.bin .geq 3 (tm 34) (.const (.int .i64 0)))])
  (.cond (tm 35) (.seq (.reg [sm 0 2 (.mv (.const (.int .i64 32)))])
  .ret) .skip)))
  (.reg [sv 0 21 3,
  sm 1 22 (.bin .add 3 (tm 21) (.const (.int .i64 1))),
  sv 2 3 22])))
def l86_1 : Cd := (.seq (.reg [sm 0 56 (.bin .lss 3 (tm 55) (tm 54))])
  (.seq (.cond (tm 56) .skip (.exit 4))
  (.seq (.block 5 (.seq (.reg [sm 0 57 (.ia (.sl 32) (tm 53) (tm 55)),
  sm 1 58 (.ldA 32 (tm 57)),
  sm 2 10 (.alloc (rep 32 (.int .u8 0))),
  se 3 (.st 32 (tm 10) (tm 58))])
  (.seq (.reg [sm 0 60 (.ldA 2 (tm 1)),
  sm 1 61 (.ldA 32 (tm 10)),
  sc 2 62 122 [(tm 60), (tm 61)],
  sv 3 59 62,
  sm 4 63 (.ext (tm 59) 0),
  sm 5 64 (.ext (tm 59) 1),
  sv 6 11 63,
  sv 7 12 64])
  (.seq (.seq (.reg [sv 0 65 12,
  sm 1 66 (.un .not (tm 65))])
  (.cond (tm 66) (.seq (.reg [sm 0 2 (.mv (.const (.int .i64 40)))])
  .ret) .skip))
  (.reg [sv 0 67 5,
  sv 1 68 11,
  sv 2 69 5,
  sv 3 70 11,
  sm 4 71 (.ia (.sl 1) (tm 69) (tm 70)),
  sm 5 72 (.ld1 (tm 71)),
  sv 6 73 7,
  sm 7 74 (.bsl 1 [.int .i64 0] 1 [(0, (tm 73))]),
  sm 8 75 (.app 1 8 (tm 72) (tm 74)),
  sm 9 76 (.ia (.sl 1) (tm 67) (tm 68)),
  se 10 (.st 1 (tm 76) (tm 75))])))))
  (.reg [sm 0 77 (.bin .add 3 (tm 55) (.const (.int .i64 1))),
  sv 1 55 77]))))
def l86_2 : Cd := (.seq (.reg [sm 0 48 (.bin .lss 3 (tm 47) (tm 46))])
  (.seq (.cond (tm 48) .skip (.exit 2))
  (.seq (.block 3 (.seq (.reg [sv 0 49 47,
  sm 1 50 (.ia (.sl 11) (tm 45) (tm 47)),
  sm 2 51 (.ldA 11 (tm 50)),
  sm 3 8 (.alloc [.int .u32 0, .nilS, .int .u64 0, .int .u8 0, .str [], .int .u8 0, .int .i64 0, .int .u64 0, .str [], .int .u32 0, .int .u32 0]),
  sv 4 7 49,
  se 5 (.st 11 (tm 8) (tm 51))])
  (.seq (.seq (.reg [sm 0 52 (.fa 1 (tm 8)),
  sm 1 53 (.ld1 (tm 52)),
  sm 2 54 (.len (.sl 32) (tm 53)),
  sm 3 55 (.mv (.const (.int .i64 0)))])
  (.block 4 (.loop l86_1)))
  (.seq (.reg [sv 0 78 4,
  sv 1 79 7,
  sm 2 80 (.fa 1 (tm 8)),
  sm 3 81 (.ld1 (tm 80)),
  sm 4 82 (.len (.sl 32) (tm 81)),
  sm 5 83 (.ia (.sl 1) (tm 78) (tm 79)),
  se 6 (.st 1 (tm 83) (tm 82))])
  (.seq (.reg [sv 0 84 4,
  sv 1 85 7,
  sm 2 86 (.ia (.sl 1) (tm 84) (tm 85)),
  sm 3 87 (.ld1 (tm 86)),
  sm 4 88 (.bin .eql 3 (tm 87) (.const (.int .i64 0)))])
  (.cond (tm 88) (.reg [sv 0 89 6,
  sv 1 90 7,
  sm 2 91 (.bsl 1 [.int .i64 0] 1 [(0, (tm 90))]),
  sm 3 92 (.app 1 8 (tm 89) (tm 91)),
  sv 4 6 92]) .skip))))))
  (.reg [sm 0 93 (.bin .add 3 (tm 47) (.const (.int .i64 1))),
  sv 1 47 93]))))
def l86_3 : Cd := (.seq (.reg [sm 0 109 (.bin .lss 3 (tm 108) (tm 107))])
  (.seq (.cond (tm 109) .skip (.exit 8))
  (.seq (.block 9 (.seq (.reg [sm 0 110 (.ia (.sl 1) (tm 106) (tm 108)),
  sm 1 111 (.ld1 (tm 110)),
  sv 2 15 111])
  (.seq (.reg [sv 0 112 4,
  sv 1 113 15,
  sm 2 114 (.ia (.sl 1) (tm 112) (tm 113)),
  sm 3 115 (.ld1 (tm 114)),
  sm 4 116 (.bin .sub 3 (tm 115) (.const (.int .i64 1))),
  sm 5 117 (.ia (.sl 1) (tm 112) (tm 113)),
  se 6 (.st 1 (tm 117) (tm 116))])
  (.seq (.reg [sv 0 118 4,
  sv 1 119 15,
  sm 2 120 (.ia (.sl 1) (tm 118) (tm 119)),
  sm 3 121 (.ld1 (tm 120)),
  sm 4 122 (.bin .eql 3 (tm 121) (.const (.int .i64 0)))])
  (.cond (tm 122) (.reg [sv 0 123 6,
  sv 1 124 15,
  sm 2 125 (.bsl 1 [.int .i64 0] 1 [(0, (tm 124))]),
  sm 3 126 (.app 1 8 (tm 123) (tm 125)),
  sv 4 6 126]) .skip)))))
  (.reg [sm 0 127 (.bin .add 3 (tm 108) (.const (.int .i64 1))),
  sv 1 108 127]))))
def l86_4 : Cd := (.seq (.seq (.reg [sv 0 94 13,
  sv 1 95 6,
  sm 2 96 (.len (.sl 1) (tm 95)),
  sm 3 97 (.bin .lss 3 (tm 94) (tm 96))])
  (.cond (tm 97) .skip (.exit 6)))
  (.seq (.block 7 (.seq (.reg [sv 0 100 5,
  sv 1 101 6,
  sv 2 102 13,
  sm 3 103 (.ia (.sl 1) (tm 101) (tm 102)),
  sm 4 104 (.ld1 (tm 103)),
  sm 5 105 (.ia (.sl 1) (tm 100) (tm 104)),
  sm 6 106 (.ld1 (tm 105)),
  sm 7 107 (.len (.sl 1) (tm 106)),
  sm 8 108 (.mv (.const (.int .i64 0)))])
  (.block 8 (.loop l86_3))))
  (.reg [sv 0 98 13,
  sm 1 99 (.bin .add 3 (tm 98) (.const (.int .i64 1))),
  sv 2 13 99])))
def c86 : Cd := (.seq (.reg [sm 0 1 (.box (tm 0)),
  sm 1 2 (.mv (.const (.int .i64 0)))])
  (.seq (.seq (.reg [sm 0 3 (.mv (.const (.int .i64 1)))])
  (.block 0 (.loop l86_0)))
  (.seq (.reg [sm 0 36 (.fa 1 (tm 1)),
  sm 1 37 (.ld1 (tm 36)),
  sm 2 38 (.len (.sl 11) (tm 37)),
  sm 3 39 (.mks 1 8 [.int .i64 0] (tm 38) (tm 38)),
  sv 4 4 39])
  (.seq (.reg [sm 0 40 (.fa 1 (tm 1)),
  sm 1 41 (.ld1 (tm 40)),
  sm 2 42 (.len (.sl 11) (tm 41)),
  sm 3 43 (.mks 1 24 [.nilS] (tm 42) (tm 42)),
  sv 4 5 43])
  (.seq (.reg [sm 0 6 (.mv (.const (.slice none 0 0)))])
  (.seq (.seq (.reg [sm 0 44 (.fa 1 (tm 1)),
  sm 1 45 (.ld1 (tm 44)),
  sm 2 46 (.len (.sl 11) (tm 45)),
  sm 3 47 (.mv (.const (.int .i64 0)))])
  (.block 2 (.loop l86_2)))
  (.seq (.reg [sm 0 13 (.mv (.const (.int .i64 0)))])
  (.seq (.block 6 (.loop l86_4))
  (.seq (.seq (.reg [sv 0 128 13,
  sm 1 129 (.fa 1 (tm 1)),
  sm 2 130 (.ld1 (tm 129)),
  sm 3 131 (.len (.sl 11) (tm 130)),
  sm 4 132 (.bin .lss 3 (tm 128) (tm 131))])
  (.cond (tm 132) (.seq (.reg [sm 0 2 (.mv (.const (.int .i64 36)))])
  .ret) .skip))
  (.seq (.reg [sm 0 2 (.mv (.const (.int .i64 0)))])
  .ret))))))))))
def r86 : List Mo := [.mv (tm 2)]
theorem c86_eq : compF Tryz.prog 86 = some c86 := by kernel_rfl
theorem r86_eq : compRs Tryz.prog 86 = some r86 := by kernel_rfl
def c87 : Cd := (.seq (.reg [sm 0 2 (.box (tm 0)),
  sm 1 3 (.box (tm 1)),
  sm 2 4 (.mv (.const (.int .i64 0))),
  sm 3 5 (.mv (.const (.int .i64 0)))])
  (.seq (.seq (.reg [sm 0 9 (.ldA 2 (tm 2)),
  sc 1 10 55 [(tm 9)],
  sv 2 6 10])
  (.seq (.reg [sv 0 11 6,
  sm 1 12 (.bin .neq 38 (tm 11) (.const (.int .i64 0)))])
  (.cond (tm 12) (.seq (.reg [sv 0 13 6,
  sm 1 4 (.mv (.const (.int .i64 0))),
  sv 2 5 13])
  .ret) .skip)))
  (.seq (.reg [sm 0 15 (.fa 0 (tm 2)),
  sm 1 16 (.ld1 (tm 15)),
  sm 2 17 (.ldA 32 (tm 3)),
  sc 3 18 123 [(tm 16), (tm 17), (.func 121)],
  sv 4 14 18,
  sm 5 19 (.ext (tm 14) 0),
  sm 6 20 (.ext (tm 14) 1),
  sv 7 7 19,
  sv 8 8 20])
  (.seq (.seq (.reg [sv 0 21 8,
  sm 1 22 (.un .not (tm 21))])
  (.cond (tm 22) (.seq (.reg [sm 0 4 (.mv (.const (.int .i64 0))),
  sm 1 5 (.mv (.const (.int .i64 6)))])
  .ret) .skip))
  (.seq (.reg [sv 0 23 7,
  sv 1 4 23,
  sm 2 5 (.mv (.const (.int .i64 0)))])
  .ret)))))
def r87 : List Mo := [.mv (tm 4), .mv (tm 5)]
theorem c87_eq : compF Tryz.prog 87 = some c87 := by kernel_rfl
theorem r87_eq : compRs Tryz.prog 87 = some r87 := by kernel_rfl
def l88_0 : Cd := (.seq (.reg [sm 0 10 (.bin .lss 3 (tm 9) (tm 8))])
  (.seq (.cond (tm 10) .skip (.exit 0))
  (.seq (.block 1 (.seq (.reg [sv 0 11 9,
  sv 1 6 11])
  (.seq (.reg [sv 0 12 1,
  sv 1 13 6,
  sm 2 14 (.ia (.sl 1) (tm 12) (tm 13)),
  sm 3 15 (.ld1 (tm 14))])
  (.cond (tm 15) (.reg [sv 0 16 5,
  sm 1 17 (.fa 0 (tm 2)),
  sm 2 18 (.ld1 (tm 17)),
  sv 3 19 6,
  sm 4 20 (.ia (.sl 32) (tm 18) (tm 19)),
  sm 5 21 (.ldA 32 (tm 20)),
  sm 6 22 (.bsl 32 (rep 32 (.int .u8 0)) 1 [(0, (tm 21))]),
  sm 7 23 (.app 32 32 (tm 16) (tm 22)),
  sv 8 5 23]) .skip))))
  (.reg [sm 0 24 (.bin .add 3 (tm 9) (.const (.int .i64 1))),
  sv 1 9 24]))))
def c88 : Cd := (.seq (.reg [sm 0 2 (.box (tm 0)),
  sm 1 4 (.mv (.const (.slice none 0 0)))])
  (.seq (.reg [sm 0 5 (.mv (.const (.slice none 0 0)))])
  (.seq (.seq (.reg [sv 0 7 1,
  sm 1 8 (.len (.sl 1) (tm 7)),
  sm 2 9 (.mv (.const (.int .i64 0)))])
  (.block 0 (.loop l88_0)))
  (.seq (.reg [sv 0 25 5,
  sv 1 4 25])
  .ret))))
def r88 : List Mo := [.mv (tm 4)]
theorem c88_eq : compF Tryz.prog 88 = some c88 := by kernel_rfl
theorem r88_eq : compRs Tryz.prog 88 = some r88 := by kernel_rfl
def l89_0 : Cd := (.seq (.reg [sm 0 20 (.bin .lss 3 (tm 19) (tm 18))])
  (.seq (.cond (tm 20) .skip (.exit 0))
  (.seq (.block 1 (.seq (.reg [sm 0 21 (.ia (.sl 32) (tm 17) (tm 19)),
  sm 1 22 (.ldA 32 (tm 21)),
  sm 2 9 (.alloc (rep 32 (.int .u8 0))),
  se 3 (.st 32 (tm 9) (tm 22))])
  (.reg [sm 0 23 (.ld1 (tm 7)),
  sm 1 24 (.ldA 32 (tm 9)),
  ⟨2, (some 25), none, .callV (tm 23) [(tm 24)], [], false⟩])))
  (.reg [sm 0 26 (.bin .add 3 (tm 19) (.const (.int .i64 1))),
  sv 1 19 26]))))
def c89 : Cd := (.seq (.reg [sm 0 2 (.box (tm 0)),
  sm 1 4 (.mv (.const (.slice none 0 0)))])
  (.seq (.reg [sm 0 10 (.ldA 2 (tm 2)),
  sc 1 11 124 [(tm 10)],
  sm 2 5 (.alloc [.nilM]),
  se 3 (.st 1 (tm 5) (tm 11))])
  (.seq (.reg [sm 0 12 (.fa 0 (tm 2)),
  sm 1 13 (.ld1 (tm 12)),
  sm 2 14 (.len (.sl 32) (tm 13)),
  sm 3 15 (.mks 1 1 [.bool false] (tm 14) (tm 14)),
  sm 4 6 (.alloc [.nilS]),
  se 5 (.st 1 (tm 6) (tm 15))])
  (.seq (.reg [sm 0 7 (.alloc [.nilF])])
  (.seq (.reg [sm 0 16 (.mkF 125 [] [(tm 5), (tm 6), (tm 2), (tm 7)]),
  se 1 (.st 1 (tm 7) (tm 16))])
  (.seq (.seq (.reg [sv 0 17 1,
  sm 1 18 (.len (.sl 32) (tm 17)),
  sm 2 19 (.mv (.const (.int .i64 0)))])
  (.block 0 (.loop l89_0)))
  (.seq (.reg [sm 0 27 (.ld1 (tm 6)),
  sv 1 4 27])
  .ret)))))))
def r89 : List Mo := [.mv (tm 4)]
theorem c89_eq : compF Tryz.prog 89 = some c89 := by kernel_rfl
theorem r89_eq : compRs Tryz.prog 89 = some r89 := by kernel_rfl
def l90_0 : Cd := (.block 1 (.seq (.reg [sv 0 21 2,
  sv 1 22 1,
  sm 2 23 (.bin .sub 3 (tm 21) (tm 22)),
  sv 3 12 23])
  (.seq (.seq (.reg [sv 0 24 12,
  sm 1 25 (.bin .leq 3 (tm 24) (.const (.int .i64 12)))])
  (.cond (tm 25) (.seq (.reg [sv 0 26 0,
  sv 1 27 1,
  sv 2 28 2,
  sv 3 29 4,
  sc 4 30 126 [(tm 26), (tm 27), (tm 28), (tm 29)]])
  .ret) .skip))
  (.seq (.seq (.reg [sv 0 31 3,
  sm 1 32 (.bin .eql 3 (tm 31) (.const (.int .i64 0)))])
  (.cond (tm 32) (.seq (.reg [sv 0 33 0,
  sv 1 34 1,
  sv 2 35 2,
  sv 3 36 4,
  sc 4 37 127 [(tm 33), (tm 34), (tm 35), (tm 36)]])
  .ret) .skip))
  (.seq (.seq (.reg [sv 0 38 10,
  sm 1 39 (.un .not (tm 38))])
  (.cond (tm 39) (.seq (.reg [sv 0 40 0,
  sv 1 41 1,
  sv 2 42 2,
  sv 3 43 4,
  sc 4 44 128 [(tm 40), (tm 41), (tm 42), (tm 43)]])
  (.reg [sv 0 45 3,
  sm 1 46 (.bin .sub 3 (tm 45) (.const (.int .i64 1))),
  sv 2 3 46])) .skip))
  (.seq (.reg [sv 0 48 0,
  sv 1 49 1,
  sv 2 50 2,
  sv 3 51 4,
  sc 4 52 129 [(tm 48), (tm 49), (tm 50), (tm 51)],
  sv 5 47 52,
  sm 6 53 (.ext (tm 47) 0),
  sm 7 54 (.ext (tm 47) 1),
  sv 8 13 53,
  sv 9 14 54])
  (.seq (.seq (.reg [sv 0 55 14,
  sm 1 56 (.bin .eql 173 (tm 55) (.const (.int .i64 2)))])
  (.cond (tm 56) (.seq (.reg [sv 0 57 0,
  sv 1 58 1,
  sv 2 59 2,
  sv 3 60 4,
  sc 4 61 130 [(tm 57), (tm 58), (tm 59), (tm 60)]])
  (.seq (.reg [sv 0 62 2,
  sm 1 63 (.bin .sub 3 (tm 62) (.const (.int .i64 1))),
  sv 2 64 13,
  sv 3 65 1,
  sm 4 66 (.bin .sub 3 (tm 64) (tm 65)),
  sm 5 67 (.bin .sub 3 (tm 63) (tm 66)),
  sv 6 13 67])
  (.reg [sm 0 14 (.mv (.const (.int .i64 1)))]))) .skip))
  (.seq (.seq (.reg [sv 0 68 10,
  sv 1 69 68,
  sg 2 70 69 true (.mv (tm 11)),
  sm 3 71 (.pick (tm 69) (tm 70) (.const (.bool false))),
  sv 4 72 71,
  sg 5 73 72 true (.mv (tm 14)),
  sg 6 74 72 true (.bin .eql 173 (tm 73) (.const (.int .i64 1))),
  sm 7 75 (.pick (tm 72) (tm 74) (.const (.bool false)))])
  (.cond (tm 75) (.seq (.reg [sv 0 76 0,
  sv 1 77 1,
  sv 2 78 2,
  sv 3 79 4,
  sc 4 80 131 [(tm 76), (tm 77), (tm 78), (tm 79)]])
  (.cond (tm 80) .ret .skip)) .skip))
  (.seq (.seq (.reg [sv 0 81 1,
  sm 1 82 (.bin .gtr 3 (tm 81) (.const (.int .i64 0))),
  sv 2 83 82,
  sg 3 84 83 true (.mv (tm 4)),
  sg 4 85 83 true (.mv (tm 0)),
  sg 5 86 83 true (.mv (tm 1)),
  sg 6 87 83 true (.bin .sub 3 (tm 86) (.const (.int .i64 1))),
  sg 7 88 83 true (.ia (.sl 33) (tm 85) (tm 87)),
  sg 8 89 83 true (.ldA 33 (tm 88)),
  sg 9 90 83 true (.mv (tm 0)),
  sg 10 91 83 true (.mv (tm 13)),
  sg 11 92 83 true (.ia (.sl 33) (tm 90) (tm 91)),
  sg 12 93 83 true (.ldA 33 (tm 92)),
  ⟨13, (some 94), (some ((some 83), true)), .callV (tm 84) [(tm 89), (tm 93)], [], false⟩,
  sg 14 95 83 true (.bin .lss 3 (tm 94) (.const (.int .i64 0))),
  sg 15 96 83 true (.un .not (tm 95)),
  sm 16 97 (.pick (tm 83) (tm 96) (.const (.bool false)))])
  (.cond (tm 97) (.seq (.reg [sv 0 98 0,
  sv 1 99 1,
  sv 2 100 2,
  sv 3 101 13,
  sv 4 102 4,
  sc 5 103 132 [(tm 98), (tm 99), (tm 100), (tm 101), (tm 102)],
  sv 6 15 103])
  (.seq (.reg [sv 0 104 15,
  sv 1 1 104])
  (.exit 1))) .skip))
  (.seq (.reg [sv 0 106 0,
  sv 1 107 1,
  sv 2 108 2,
  sv 3 109 13,
  sv 4 110 4,
  sc 5 111 133 [(tm 106), (tm 107), (tm 108), (tm 109), (tm 110)],
  sv 6 105 111,
  sm 7 112 (.ext (tm 105) 0),
  sm 8 113 (.ext (tm 105) 1),
  sv 9 16 112,
  sv 10 17 113])
  (.seq (.reg [sv 0 114 17,
  sv 1 11 114])
  (.seq (.reg [sv 0 115 16,
  sv 1 116 1,
  sm 2 117 (.bin .sub 3 (tm 115) (tm 116)),
  sv 3 118 2,
  sv 4 119 16,
  sm 5 120 (.bin .sub 3 (tm 118) (tm 119)),
  sv 6 18 117,
  sv 7 19 120])
  (.seq (.reg [sv 0 121 12,
  sm 1 122 (.bin .quo 3 (tm 121) (.const (.int .i64 8))),
  sv 2 20 122])
  (.seq (.reg [sv 0 123 18,
  sv 1 124 19,
  sm 2 125 (.bin .lss 3 (tm 123) (tm 124))])
  (.cond (tm 125) (.seq (.reg [sv 0 126 18,
  sv 1 127 20,
  sm 2 128 (.bin .geq 3 (tm 126) (tm 127)),
  sv 3 10 128])
  (.seq (.reg [sv 0 129 0,
  sv 1 130 1,
  sv 2 131 16,
  sv 3 132 3,
  sv 4 133 4,
  sc 5 134 90 [(tm 129), (tm 130), (tm 131), (tm 132), (tm 133)]])
  (.reg [sv 0 135 16,
  sm 1 136 (.bin .add 3 (tm 135) (.const (.int .i64 1))),
  sv 2 1 136]))) (.seq (.reg [sv 0 137 19,
  sv 1 138 20,
  sm 2 139 (.bin .geq 3 (tm 137) (tm 138)),
  sv 3 10 139])
  (.seq (.reg [sv 0 140 0,
  sv 1 141 16,
  sm 2 142 (.bin .add 3 (tm 141) (.const (.int .i64 1))),
  sv 3 143 2,
  sv 4 144 3,
  sv 5 145 4,
  sc 6 146 90 [(tm 140), (tm 142), (tm 143), (tm 144), (tm 145)]])
  (.reg [sv 0 147 16,
  sv 1 2 147]))))))))))))))))))
def c90 : Cd := (.seq (.reg [sm 0 10 (.mv (.const (.bool true)))])
  (.seq (.reg [sm 0 11 (.mv (.const (.bool true)))])
  (.block 0 (.loop l90_0))))
def r90 : List Mo := []
theorem c90_eq : compF Tryz.prog 90 = some c90 := by kernel_rfl
theorem r90_eq : compRs Tryz.prog 90 = some r90 := by kernel_rfl
def c91 : Cd := (.seq (.reg [sm 0 2 (.mv (.const (.int .i64 0)))])
  (.seq (.cond (.const (.bool false)) (.seq (.reg [sv 0 3 0,
  sm 1 4 (.cint .u32 (tm 3)),
  sc 2 5 134 [(tm 4)],
  sv 3 2 5])
  .ret) .skip)
  (.seq (.reg [sv 0 6 0,
  sc 1 7 135 [(tm 6)],
  sv 2 2 7])
  .ret)))
def r91 : List Mo := [.mv (tm 2)]
theorem c91_eq : compF Tryz.prog 91 = some c91 := by kernel_rfl
theorem r91_eq : compRs Tryz.prog 91 = some r91 := by kernel_rfl
def l92_0 : Cd := (.seq (.seq (.reg [sv 0 10 8,
  sm 1 11 (.fa 0 (tm 3)),
  sm 2 12 (.ld1 (tm 11)),
  sm 3 13 (.len (.sl 32) (tm 12)),
  sm 4 14 (.bin .lss 3 (tm 10) (tm 13)),
  sv 5 15 14,
  sg 6 16 15 true (.fa 0 (tm 3)),
  sg 7 17 15 true (.ld1 (tm 16)),
  sg 8 18 15 true (.mv (tm 8)),
  sg 9 19 15 true (.ia (.sl 32) (tm 17) (tm 18)),
  sg 10 20 15 true (.ldA 32 (tm 19)),
  sg 11 21 15 true (.ldA 32 (tm 4)),
  ⟨12, (some 22), (some ((some 15), true)), .callF 84 [(tm 20), (tm 21)], [], false⟩,
  sg 13 23 15 true (.bin .lss 3 (tm 22) (.const (.int .i64 0))),
  sm 14 24 (.pick (tm 15) (tm 23) (.const (.bool false)))])
  (.cond (tm 24) .skip (.exit 0)))
  (.block 1 (.reg [sv 0 25 8,
  sm 1 26 (.bin .add 3 (tm 25) (.const (.int .i64 1))),
  sv 2 8 26])))
def c92 : Cd := (.seq (.reg [sm 0 3 (.box (tm 0)),
  sm 1 4 (.box (tm 1)),
  sm 2 5 (.box (tm 2)),
  sm 3 6 (.alloc [.nilS, .nilS])])
  (.seq (.reg [sm 0 9 (.bld [.nilS, .nilS] []),
  sm 1 7 (.alloc [.nilS, .nilS]),
  se 2 (.st 2 (tm 7) (tm 9))])
  (.seq (.reg [sm 0 8 (.mv (.const (.int .i64 0)))])
  (.seq (.block 0 (.loop l92_0))
  (.seq (.dreg [sm 0 27 (.bsl 32 (rep 32 (.int .u8 0)) 0 []),
  sm 1 28 (.fa 0 (tm 3)),
  sm 2 29 (.ld1 (tm 28)),
  sv 3 30 8,
  sm 4 31 (.slice (.sl 32) (tm 29) none (some (tm 30)) none),
  ⟨6, (some 33), none, .mo (.ldA 32 (tm 4)), [], true⟩,
  ⟨7, (some 34), none, .mo (.bsl 32 (rep 32 (.int .u8 0)) 1 [(0, (tm 33))]), [], true⟩,
  sm 9 36 (.fa 0 (tm 3)),
  ⟨10, (some 37), none, .mo (.ld1 (tm 36)), [], true⟩,
  sv 11 38 8,
  sm 12 39 (.slice (.sl 32) (tm 37) (some (tm 38)) none none),
  ⟨5, (some 32), none, .mo (.app 32 32 (tm 27) (tm 31)), [10, 7, 6], false⟩,
  ⟨8, (some 35), none, .mo (.app 32 32 (tm 32) (tm 34)), [10], false⟩,
  sm 13 40 (.app 32 32 (tm 35) (tm 39)),
  sm 14 41 (.fa 0 (tm 7)),
  se 15 (.st 1 (tm 41) (tm 40))])
  (.seq (.dreg [sm 0 42 (.bsl 11 [.int .u32 0, .nilS, .int .u64 0, .int .u8 0, .str [], .int .u8 0, .int .i64 0, .int .u64 0, .str [], .int .u32 0, .int .u32 0] 0 []),
  sm 1 43 (.fa 1 (tm 3)),
  sm 2 44 (.ld1 (tm 43)),
  sv 3 45 8,
  sm 4 46 (.slice (.sl 11) (tm 44) none (some (tm 45)) none),
  ⟨6, (some 48), none, .mo (.ldA 11 (tm 5)), [], true⟩,
  ⟨7, (some 49), none, .mo (.bsl 11 [.int .u32 0, .nilS, .int .u64 0, .int .u8 0, .str [], .int .u8 0, .int .i64 0, .int .u64 0, .str [], .int .u32 0, .int .u32 0] 1 [(0, (tm 48))]), [], true⟩,
  sm 9 51 (.fa 1 (tm 3)),
  ⟨10, (some 52), none, .mo (.ld1 (tm 51)), [], true⟩,
  sv 11 53 8,
  sm 12 54 (.slice (.sl 11) (tm 52) (some (tm 53)) none none),
  ⟨5, (some 47), none, .mo (.app 11 112 (tm 42) (tm 46)), [10, 7, 6], false⟩,
  ⟨8, (some 50), none, .mo (.app 11 112 (tm 47) (tm 49)), [10], false⟩,
  sm 13 55 (.app 11 112 (tm 50) (tm 54)),
  sm 14 56 (.fa 1 (tm 7)),
  se 15 (.st 1 (tm 56) (tm 55))])
  (.seq (.reg [sm 0 57 (.ldA 2 (tm 7)),
  sc 1 58 23 [(tm 57)],
  se 2 (.st 2 (tm 6) (tm 58))])
  .ret)))))))
def r92 : List Mo := [.ldA 2 (tm 6)]
theorem c92_eq : compF Tryz.prog 92 = some c92 := by kernel_rfl
theorem r92_eq : compRs Tryz.prog 92 = some r92 := by kernel_rfl
def c93 : Cd := (.seq (.reg [sm 0 1 (.box (tm 0)),
  sm 1 2 (.mv (.const (.bool false)))])
  (.seq (.dreg [sm 0 3 (.fa 0 (tm 1)),
  ⟨1, (some 4), none, .mo (.ld1 (tm 3)), [], true⟩,
  sm 2 5 (.ldA 11 (tm 1)),
  sm 4 7 (.fa 9 (tm 1)),
  ⟨5, (some 8), none, .mo (.ldA 2 (tm 7)), [], true⟩,
  ⟨3, (some 6), none, .callF 101 [(tm 5)], [5, 1], false⟩,
  sc 6 9 136 [(tm 4), (tm 6), (tm 8)],
  sv 7 2 9])
  .ret))
def r93 : List Mo := [.mv (tm 2)]
theorem c93_eq : compF Tryz.prog 93 = some c93 := by kernel_rfl
theorem r93_eq : compRs Tryz.prog 93 = some r93 := by kernel_rfl
def l94_0 : Cd := (.seq (.seq (.reg [sv 0 13 7,
  sm 1 14 (.fa 1 (tm 1)),
  sm 2 15 (.ld1 (tm 14)),
  sm 3 16 (.len (.sl 11) (tm 15)),
  sm 4 17 (.bin .lss 3 (tm 13) (tm 16))])
  (.cond (tm 17) .skip (.exit 2)))
  (.seq (.block 3 (.seq (.reg [sv 0 20 5,
  sv 1 21 7,
  sm 2 22 (.ia (.sl 1) (tm 20) (tm 21)),
  sm 3 23 (.ld1 (tm 22)),
  sm 4 24 (.un .not (tm 23)),
  sv 5 25 24,
  sg 6 26 25 true (.mv (tm 4)),
  sg 7 27 25 true (.fa 1 (tm 1)),
  sg 8 28 25 true (.ld1 (tm 27)),
  sg 9 29 25 true (.mv (tm 7)),
  sg 10 30 25 true (.ia (.sl 11) (tm 28) (tm 29)),
  sg 11 31 25 true (.fa 1 (tm 30)),
  sg 12 32 25 true (.ld1 (tm 31)),
  ⟨13, (some 33), (some ((some 25), true)), .callF 69 [(tm 26), (tm 32)], [], false⟩,
  sm 14 34 (.pick (tm 25) (tm 33) (.const (.bool false)))])
  (.cond (tm 34) (.seq (.dreg [sv 0 35 5,
  sv 1 36 7,
  sv 2 37 3,
  sv 3 38 7,
  sm 4 39 (.bsl 1 [.int .i64 0] 1 [(0, (tm 38))]),
  sv 6 41 4,
  sm 7 42 (.fa 0 (tm 1)),
  ⟨8, (some 43), none, .mo (.ld1 (tm 42)), [], true⟩,
  sv 9 44 7,
  sm 10 45 (.ia (.sl 32) (tm 43) (tm 44)),
  ⟨11, (some 46), none, .mo (.ldA 32 (tm 45)), [], true⟩,
  ⟨12, (some 47), none, .mo (.bsl 32 (rep 32 (.int .u8 0)) 1 [(0, (tm 46))]), [], true⟩,
  ⟨5, (some 40), none, .mo (.app 1 8 (tm 37) (tm 39)), [12, 11, 8], false⟩,
  sm 13 48 (.app 32 32 (tm 41) (tm 47)),
  sv 14 3 40,
  sv 15 4 48,
  sm 16 49 (.ia (.sl 1) (tm 35) (tm 36)),
  se 17 (.st 1 (tm 49) (.const (.bool true))),
  sm 18 6 (.mv (.const (.bool true)))])
  (.exit 2)) .skip)))
  (.reg [sv 0 18 7,
  sm 1 19 (.bin .add 3 (tm 18) (.const (.int .i64 1))),
  sv 2 7 19])))
def l94_1 : Cd := (.seq (.seq (.reg [sv 0 12 6])
  (.cond (tm 12) .skip (.exit 0)))
  (.block 1 (.seq (.reg [sm 0 6 (.mv (.const (.bool false)))])
  (.seq (.reg [sm 0 7 (.mv (.const (.int .i64 0)))])
  (.block 2 (.loop l94_0))))))
def c94 : Cd := (.seq (.reg [sm 0 1 (.box (tm 0)),
  sm 1 2 (.mv (.const (.slice none 0 0)))])
  (.seq (.reg [sm 0 3 (.mv (.const (.slice none 0 0)))])
  (.seq (.reg [sm 0 4 (.mv (.const (.slice none 0 0)))])
  (.seq (.reg [sm 0 8 (.fa 1 (tm 1)),
  sm 1 9 (.ld1 (tm 8)),
  sm 2 10 (.len (.sl 11) (tm 9)),
  sm 3 11 (.mks 1 1 [.bool false] (tm 10) (tm 10)),
  sv 4 5 11])
  (.seq (.seq (.reg [sm 0 6 (.mv (.const (.bool true)))])
  (.block 0 (.loop l94_1)))
  (.seq (.reg [sv 0 50 3,
  sv 1 2 50])
  .ret))))))
def r94 : List Mo := [.mv (tm 2)]
theorem c94_eq : compF Tryz.prog 94 = some c94 := by kernel_rfl
theorem r94_eq : compRs Tryz.prog 94 = some r94 := by kernel_rfl
def l95_0 : Cd := (.seq (.seq (.reg [sv 0 8 1,
  sm 1 9 (.bin .gtr 27 (tm 8) (.const (.int .u64 0)))])
  (.cond (tm 9) .skip (.exit 0)))
  (.block 1 (.seq (.seq (.reg [sv 0 10 1,
  sm 1 11 (.bin .rem 27 (tm 10) (.const (.int .u64 2))),
  sm 2 12 (.bin .eql 27 (tm 11) (.const (.int .u64 1)))])
  (.cond (tm 12) (.reg [sv 0 13 7,
  sv 1 14 0,
  sm 2 15 (.bin .mul 27 (tm 13) (tm 14)),
  sv 3 16 2,
  sm 4 17 (.bin .rem 27 (tm 15) (tm 16)),
  sv 5 7 17]) .skip))
  (.seq (.reg [sv 0 18 0,
  sv 1 19 0,
  sm 2 20 (.bin .mul 27 (tm 18) (tm 19)),
  sv 3 21 2,
  sm 4 22 (.bin .rem 27 (tm 20) (tm 21)),
  sv 5 0 22])
  (.reg [sv 0 23 1,
  sm 1 24 (.bin .quo 27 (tm 23) (.const (.int .u64 2))),
  sv 2 1 24])))))
def c95 : Cd := (.seq (.reg [sm 0 6 (.mv (.const (.int .u64 0)))])
  (.seq (.reg [sm 0 7 (.mv (.const (.int .u64 1)))])
  (.seq (.block 0 (.loop l95_0))
  (.seq (.reg [sv 0 25 7,
  sv 1 6 25])
  .ret))))
def r95 : List Mo := [.mv (tm 6)]
theorem c95_eq : compF Tryz.prog 95 = some c95 := by kernel_rfl
theorem r95_eq : compRs Tryz.prog 95 = some r95 := by kernel_rfl
def c96 : Cd := (.seq (.reg [sm 0 1 (.box (tm 0)),
  sm 1 2 (.mv (.const (.int .i64 0)))])
  (.seq (.seq (.reg [sm 0 3 (.fa 0 (tm 1)),
  sm 1 4 (.ld1 (tm 3))])
  (.block 0 (.seq (.reg [sm 0 6 (.bin .eql 5 (tm 4) (.const (.int .u8 1))),
  sv 1 5 6])
  (.cond (tm 5) (.seq (.reg [sm 0 7 (.fa 2 (tm 1)),
  sm 1 8 (.ld1 (tm 7)),
  sm 2 9 (.bin .eql 27 (tm 8) (.const (.int .u64 0))),
  sv 3 10 9,
  sg 4 11 10 true (.fa 3 (tm 1)),
  sg 5 12 10 true (.ld1 (tm 11)),
  sg 6 13 10 true (.bin .eql 9 (tm 12) (.const (.string ⟨#[]⟩))),
  sm 7 14 (.pick (tm 10) (tm 13) (.const (.bool false)))])
  (.cond (tm 14) (.seq (.reg [sm 0 2 (.mv (.const (.int .i64 0)))])
  .ret) .skip)) (.seq (.reg [sm 0 16 (.bin .eql 5 (tm 4) (.const (.int .u8 2))),
  sv 1 15 16])
  (.cond (tm 15) (.seq (.dreg [sm 0 17 (.fa 1 (tm 1)),
  sm 1 18 (.ld1 (tm 17)),
  sm 2 19 (.bin .eql 2 (tm 18) (.const (.int .i64 0))),
  sv 3 20 19,
  sg 4 21 20 true (.fa 3 (tm 1)),
  sg 5 22 20 true (.ld1 (tm 21)),
  sg 6 23 20 true (.bin .eql 9 (tm 22) (.const (.string ⟨#[]⟩))),
  sm 7 24 (.pick (tm 20) (tm 23) (.const (.bool false))),
  sv 8 25 24,
  sg 9 26 25 true (.fa 2 (tm 1)),
  sg 10 27 25 true (.ld1 (tm 26)),
  sg 12 29 25 true (.fa 2 (tm 1)),
  ⟨13, (some 30), (some ((some 25), true)), .mo (.ld1 (tm 29)), [], true⟩,
  ⟨11, (some 28), (some ((some 25), true)), .callF 137 [(tm 27)], [13], false⟩,
  sg 14 31 25 true (.bin .eql 27 (tm 28) (tm 30)),
  sm 15 32 (.pick (tm 25) (tm 31) (.const (.bool false)))])
  (.cond (tm 32) (.seq (.reg [sm 0 2 (.mv (.const (.int .i64 0)))])
  .ret) .skip)) (.seq (.reg [sm 0 34 (.bin .eql 5 (tm 4) (.const (.int .u8 3))),
  sv 1 33 34])
  (.cond (tm 33) (.seq (.reg [sm 0 35 (.fa 1 (tm 1)),
  sm 1 36 (.ld1 (tm 35)),
  sm 2 37 (.bin .eql 2 (tm 36) (.const (.int .i64 0))),
  sv 3 38 37,
  sg 4 39 38 true (.fa 2 (tm 1)),
  sg 5 40 38 true (.ld1 (tm 39)),
  sg 6 41 38 true (.bin .eql 27 (tm 40) (.const (.int .u64 0))),
  sm 7 42 (.pick (tm 38) (tm 41) (.const (.bool false))),
  sv 8 43 42,
  sg 9 44 43 true (.fa 3 (tm 1)),
  sg 10 45 43 true (.ld1 (tm 44)),
  sg 11 46 43 true (.len .str (tm 45)),
  sg 12 47 43 true (.bin .leq 3 (tm 46) (.const (.int .i64 30))),
  sm 13 48 (.pick (tm 43) (tm 47) (.const (.bool false))),
  sv 14 49 48,
  sg 15 50 49 true (.fa 3 (tm 1)),
  sg 16 51 49 true (.ld1 (tm 50)),
  ⟨17, (some 52), (some ((some 49), true)), .callF 138 [(tm 51)], [], false⟩,
  sm 18 53 (.pick (tm 49) (tm 52) (.const (.bool false)))])
  (.cond (tm 53) (.seq (.reg [sm 0 2 (.mv (.const (.int .i64 0)))])
  .ret) .skip)) .skip))))))))
  (.seq (.reg [sm 0 2 (.mv (.const (.int .i64 8)))])
  .ret)))
def r96 : List Mo := [.mv (tm 2)]
theorem c96_eq : compF Tryz.prog 96 = some c96 := by kernel_rfl
theorem r96_eq : compRs Tryz.prog 96 = some r96 := by kernel_rfl
def l97_0 : Cd := (.seq (.seq (.reg [sv 0 5 4,
  sm 1 6 (.bin .lss 3 (tm 5) (.const (.int .i64 32)))])
  (.cond (tm 6) .skip (.exit 0)))
  (.seq (.block 1 (.reg [sv 0 9 4,
  sv 1 10 4,
  sm 2 11 (.bin .quo 3 (tm 10) (.const (.int .i64 4))),
  sm 3 12 (.ia (.arr 8 1) (tm 1) (tm 11)),
  sm 4 13 (.ld1 (tm 12)),
  sv 5 14 4,
  sm 6 15 (.bin .rem 3 (tm 14) (.const (.int .i64 4))),
  sm 7 16 (.bin .mul 3 (.const (.int .i64 8)) (tm 15)),
  sm 8 17 (.bin .sub 3 (.const (.int .i64 24)) (tm 16)),
  sm 9 18 (.bin .shr 25 (tm 13) (tm 17)),
  sm 10 19 (.cint .u8 (tm 18)),
  sm 11 20 (.ia (.arr 32 1) (tm 3) (tm 9)),
  se 12 (.st 1 (tm 20) (tm 19))]))
  (.reg [sv 0 7 4,
  sm 1 8 (.bin .add 3 (tm 7) (.const (.int .i64 1))),
  sv 2 4 8])))
def c97 : Cd := (.seq (.reg [sm 0 1 (.box (tm 0)),
  sm 1 2 (.alloc (rep 32 (.int .u8 0)))])
  (.seq (.reg [sm 0 3 (.alloc (rep 32 (.int .u8 0)))])
  (.seq (.seq (.reg [sm 0 4 (.mv (.const (.int .i64 0)))])
  (.block 0 (.loop l97_0)))
  (.seq (.reg [sm 0 21 (.ldA 32 (tm 3)),
  se 1 (.st 32 (tm 2) (tm 21))])
  .ret))))
def r97 : List Mo := [.ldA 32 (tm 2)]
theorem c97_eq : compF Tryz.prog 97 = some c97 := by kernel_rfl
theorem r97_eq : compRs Tryz.prog 97 = some r97 := by kernel_rfl
def l98_0 : Cd := (.seq (.seq (.reg [sv 0 6 5,
  sm 1 7 (.bin .add 3 (tm 6) (.const (.int .i64 64))),
  sv 2 8 1,
  sm 3 9 (.len (.sl 1) (tm 8)),
  sm 4 10 (.bin .leq 3 (tm 7) (tm 9))])
  (.cond (tm 10) .skip (.exit 0)))
  (.seq (.block 1 (.reg [sm 0 13 (.ldA 8 (tm 2)),
  sv 1 14 1,
  sv 2 15 5,
  sv 3 16 5,
  sm 4 17 (.bin .add 3 (tm 16) (.const (.int .i64 64))),
  sm 5 18 (.slice (.sl 1) (tm 14) (some (tm 15)) (some (tm 17)) none),
  sc 6 19 139 [(tm 13), (tm 18)],
  se 7 (.st 8 (tm 2) (tm 19))]))
  (.reg [sv 0 11 5,
  sm 1 12 (.bin .add 3 (tm 11) (.const (.int .i64 64))),
  sv 2 5 12])))
def c98 : Cd := (.seq (.reg [sm 0 2 (.box (tm 0)),
  sm 1 4 (.alloc [.int .u32 0, .int .u32 0, .int .u32 0, .int .u32 0, .int .u32 0, .int .u32 0, .int .u32 0, .int .u32 0])])
  (.seq (.seq (.reg [sm 0 5 (.mv (.const (.int .i64 0)))])
  (.block 0 (.loop l98_0)))
  (.seq (.reg [sm 0 20 (.ldA 8 (tm 2)),
  se 1 (.st 8 (tm 4) (tm 20))])
  .ret)))
def r98 : List Mo := [.ldA 8 (tm 4)]
theorem c98_eq : compF Tryz.prog 98 = some c98 := by kernel_rfl
theorem r98_eq : compRs Tryz.prog 98 = some r98 := by kernel_rfl
def c99 : Cd := (.seq (.reg [sm 0 0 (.alloc [.int .u32 0, .int .u32 0, .int .u32 0, .int .u32 0, .int .u32 0, .int .u32 0, .int .u32 0, .int .u32 0])])
  (.seq (.reg [sm 0 1 (.bld [.int .u32 0, .int .u32 0, .int .u32 0, .int .u32 0, .int .u32 0, .int .u32 0, .int .u32 0, .int .u32 0] [(0, 1, (.const (.int .u32 1779033703))), (1, 1, (.const (.int .u32 3144134277))), (2, 1, (.const (.int .u32 1013904242))), (3, 1, (.const (.int .u32 2773480762))), (4, 1, (.const (.int .u32 1359893119))), (5, 1, (.const (.int .u32 2600822924))), (6, 1, (.const (.int .u32 528734635))), (7, 1, (.const (.int .u32 1541459225)))]),
  se 1 (.st 8 (tm 0) (tm 1))])
  .ret))
def r99 : List Mo := [.ldA 8 (tm 0)]
theorem c99_eq : compF Tryz.prog 99 = some c99 := by kernel_rfl
theorem r99_eq : compRs Tryz.prog 99 = some r99 := by kernel_rfl
def l100_0 : Cd := (.seq (.seq (.reg [sv 0 6 0,
  sv 1 7 3,
  sm 2 8 (.len (.sl 1) (tm 7)),
  sm 3 9 (.bin .add 3 (tm 6) (tm 8)),
  sm 4 10 (.bin .add 3 (tm 9) (.const (.int .i64 8))),
  sm 5 11 (.bin .rem 3 (tm 10) (.const (.int .i64 64))),
  sm 6 12 (.bin .neq 3 (tm 11) (.const (.int .i64 0)))])
  (.cond (tm 12) .skip (.exit 0)))
  (.block 1 (.reg [sv 0 13 3,
  sm 1 14 (.bsl 1 [.int .u8 0] 1 [(0, (.const (.int .u8 0)))]),
  sm 2 15 (.app 1 1 (tm 13) (tm 14)),
  sv 3 3 15])))
def l100_1 : Cd := (.seq (.seq (.reg [sv 0 16 4,
  sm 1 17 (.bin .geq 3 (tm 16) (.const (.int .i64 0)))])
  (.cond (tm 17) .skip (.exit 2)))
  (.seq (.block 3 (.reg [sv 0 20 3,
  sv 1 21 0,
  sm 2 22 (.cint .u64 (tm 21)),
  sm 3 23 (.bin .mul 27 (.const (.int .u64 8)) (tm 22)),
  sv 4 24 4,
  sm 5 25 (.bin .mul 3 (.const (.int .i64 8)) (tm 24)),
  sm 6 26 (.bin .shr 27 (tm 23) (tm 25)),
  sm 7 27 (.cint .u8 (tm 26)),
  sm 8 28 (.bsl 1 [.int .u8 0] 1 [(0, (tm 27))]),
  sm 9 29 (.app 1 1 (tm 20) (tm 28)),
  sv 10 3 29]))
  (.reg [sv 0 18 4,
  sm 1 19 (.bin .sub 3 (tm 18) (.const (.int .i64 1))),
  sv 2 4 19])))
def c100 : Cd := (.seq (.reg [sm 0 2 (.mv (.const (.slice none 0 0)))])
  (.seq (.reg [sm 0 5 (.bsl 1 [.int .u8 0] 1 [(0, (.const (.int .u8 128)))]),
  sv 1 3 5])
  (.seq (.block 0 (.loop l100_0))
  (.seq (.seq (.reg [sm 0 4 (.mv (.const (.int .i64 7)))])
  (.block 2 (.loop l100_1)))
  (.seq (.reg [sv 0 30 3,
  sv 1 2 30])
  .ret)))))
def r100 : List Mo := [.mv (tm 2)]
theorem c100_eq : compF Tryz.prog 100 = some c100 := by kernel_rfl
theorem r100_eq : compRs Tryz.prog 100 = some r100 := by kernel_rfl
def c101 : Cd := (.seq (.reg [sm 0 1 (.box (tm 0)),
  sm 1 2 (.mv (.const (.slice none 0 0)))])
  (.seq (.reg [sm 0 4 (.bsl 1 [.int .u8 0] 1 [(0, (.const (.int .u8 111)))]),
  sm 1 5 (.fa 0 (tm 1)),
  sm 2 6 (.ld1 (tm 5)),
  sm 3 7 (.cint .u64 (tm 6)),
  sc 4 8 102 [(tm 7)],
  sm 5 9 (.app 1 1 (tm 4) (tm 8)),
  sv 6 3 9])
  (.seq (.dreg [sv 0 10 3,
  sm 1 11 (.fa 1 (tm 1)),
  sm 2 12 (.ld1 (tm 11)),
  sm 5 15 (.fa 2 (tm 1)),
  ⟨6, (some 16), none, .mo (.ld1 (tm 15)), [], true⟩,
  ⟨3, (some 13), none, .callF 140 [(tm 12)], [6], false⟩,
  ⟨4, (some 14), none, .mo (.app 1 1 (tm 10) (tm 13)), [6], false⟩,
  sc 7 17 102 [(tm 16)],
  sm 8 18 (.app 1 1 (tm 14) (tm 17)),
  sv 9 3 18])
  (.seq (.reg [sv 0 19 3,
  sm 1 20 (.fa 3 (tm 1)),
  sm 2 21 (.fa 0 (tm 20)),
  sm 3 22 (.ld1 (tm 21)),
  sm 4 23 (.bsl 1 [.int .u8 0] 1 [(0, (tm 22))]),
  sm 5 24 (.app 1 1 (tm 19) (tm 23)),
  sv 6 3 24])
  (.seq (.seq (.reg [sm 0 25 (.fa 3 (tm 1)),
  sm 1 26 (.fa 0 (tm 25)),
  sm 2 27 (.ld1 (tm 26)),
  sm 3 28 (.bin .neq 5 (tm 27) (.const (.int .u8 1)))])
  (.cond (tm 28) (.reg [sv 0 29 3,
  sm 1 30 (.fa 3 (tm 1)),
  sm 2 31 (.fa 1 (tm 30)),
  sm 3 32 (.ld1 (tm 31)),
  sm 4 33 (.csb (tm 32)),
  sc 5 34 141 [(tm 33)],
  sm 6 35 (.app 1 1 (tm 29) (tm 34)),
  sv 7 3 35]) .skip))
  (.seq (.seq (.reg [sm 0 36 (.fa 3 (tm 1)),
  sm 1 37 (.fa 0 (tm 36)),
  sm 2 38 (.ld1 (tm 37)),
  sm 3 39 (.bin .eql 5 (tm 38) (.const (.int .u8 4)))])
  (.cond (tm 39) (.reg [sv 0 40 3,
  sm 1 41 (.fa 3 (tm 1)),
  sm 2 42 (.fa 2 (tm 41)),
  sm 3 43 (.ldA 4 (tm 42)),
  sc 4 44 142 [(tm 43)],
  sm 5 45 (.app 1 1 (tm 40) (tm 44)),
  sv 6 3 45]) .skip))
  (.seq (.reg [sv 0 46 3,
  sv 1 2 46])
  .ret)))))))
def r101 : List Mo := [.mv (tm 2)]
theorem c101_eq : compF Tryz.prog 101 = some c101 := by kernel_rfl
theorem r101_eq : compRs Tryz.prog 101 = some r101 := by kernel_rfl
def l102_0 : Cd := (.seq (.seq (.reg [sv 0 11 0,
  sm 1 12 (.bin .gtr 27 (tm 11) (.const (.int .u64 0)))])
  (.cond (tm 12) .skip (.exit 0)))
  (.block 1 (.seq (.reg [sv 0 13 3,
  sv 1 14 0,
  sm 2 15 (.bin .rem 27 (tm 14) (.const (.int .u64 256))),
  sm 3 16 (.cint .u8 (tm 15)),
  sm 4 17 (.bsl 1 [.int .u8 0] 1 [(0, (tm 16))]),
  sm 5 18 (.app 1 1 (tm 13) (tm 17)),
  sv 6 3 18])
  (.reg [sv 0 19 0,
  sm 1 20 (.bin .quo 27 (tm 19) (.const (.int .u64 256))),
  sv 2 0 20]))))
def l102_1 : Cd := (.seq (.seq (.reg [sv 0 29 5,
  sm 1 30 (.bin .geq 3 (tm 29) (.const (.int .i64 0)))])
  (.cond (tm 30) .skip (.exit 2)))
  (.seq (.block 3 (.reg [sv 0 33 4,
  sv 1 34 3,
  sv 2 35 5,
  sm 3 36 (.ia (.sl 1) (tm 34) (tm 35)),
  sm 4 37 (.ld1 (tm 36)),
  sm 5 38 (.bsl 1 [.int .u8 0] 1 [(0, (tm 37))]),
  sm 6 39 (.app 1 1 (tm 33) (tm 38)),
  sv 7 4 39]))
  (.reg [sv 0 31 5,
  sm 1 32 (.bin .sub 3 (tm 31) (.const (.int .i64 1))),
  sv 2 5 32])))
def c102 : Cd := (.seq (.reg [sm 0 2 (.mv (.const (.slice none 0 0)))])
  (.seq (.seq (.reg [sv 0 6 0,
  sm 1 7 (.bin .leq 27 (tm 6) (.const (.int .u64 247)))])
  (.cond (tm 7) (.seq (.reg [sv 0 8 0,
  sm 1 9 (.cint .u8 (tm 8)),
  sm 2 10 (.bsl 1 [.int .u8 0] 1 [(0, (tm 9))]),
  sv 3 2 10])
  .ret) .skip))
  (.seq (.reg [sm 0 3 (.mv (.const (.slice none 0 0)))])
  (.seq (.block 0 (.loop l102_0))
  (.seq (.reg [sv 0 21 3,
  sm 1 22 (.len (.sl 1) (tm 21)),
  sm 2 23 (.bin .add 3 (.const (.int .i64 247)) (tm 22)),
  sm 3 24 (.cint .u8 (tm 23)),
  sm 4 25 (.bsl 1 [.int .u8 0] 1 [(0, (tm 24))]),
  sv 5 4 25])
  (.seq (.seq (.reg [sv 0 26 3,
  sm 1 27 (.len (.sl 1) (tm 26)),
  sm 2 28 (.bin .sub 3 (tm 27) (.const (.int .i64 1))),
  sv 3 5 28])
  (.block 2 (.loop l102_1)))
  (.seq (.reg [sv 0 40 4,
  sv 1 2 40])
  .ret)))))))
def r102 : List Mo := [.mv (tm 2)]
theorem c102_eq : compF Tryz.prog 102 = some c102 := by kernel_rfl
theorem r102_eq : compRs Tryz.prog 102 = some r102 := by kernel_rfl
def c103 : Cd := (.seq (.reg [sm 0 2 (.mv (.const (.int .i64 0)))])
  (.seq (.seq (.reg [sv 0 3 0,
  sm 1 4 (.bin .eql 25 (tm 3) (.const (.int .u32 0))),
  sv 2 5 4,
  sg 3 6 5 false (.mv (tm 0)),
  sg 4 7 5 false (.cint .u64 (tm 6)),
  sg 5 8 5 false (.bin .geq 27 (tm 7) (.const (.int .u64 500000003))),
  sm 6 9 (.pick (tm 5) (.const (.bool true)) (tm 8))])
  (.cond (tm 9) (.seq (.reg [sm 0 2 (.mv (.const (.int .i64 2)))])
  .ret) .skip))
  (.seq (.reg [sm 0 2 (.mv (.const (.int .i64 0)))])
  .ret)))
def r103 : List Mo := [.mv (tm 2)]
theorem c103_eq : compF Tryz.prog 103 = some c103 := by kernel_rfl
theorem r103_eq : compRs Tryz.prog 103 = some r103 := by kernel_rfl
def c104 : Cd := (.seq (.reg [sm 0 1 (.box (tm 0)),
  sm 1 2 (.alloc [.int .u32 0, .nilS, .int .u64 0, .int .u8 0, .str [], .int .u8 0, .int .i64 0, .int .u64 0, .str [], .int .u32 0, .int .u32 0])])
  (.seq (.reg [sm 0 3 (.bld [.int .u32 0, .int .u32 0] []),
  sm 1 4 (.fa 9 (tm 1)),
  se 2 (.st 2 (tm 4) (tm 3))])
  (.seq (.reg [sm 0 5 (.ldA 11 (tm 1)),
  se 1 (.st 11 (tm 2) (tm 5))])
  .ret)))
def r104 : List Mo := [.ldA 11 (tm 2)]
theorem c104_eq : compF Tryz.prog 104 = some c104 := by kernel_rfl
theorem r104_eq : compRs Tryz.prog 104 = some r104 := by kernel_rfl
def c105 : Cd := (.seq (.reg [sm 0 2 (.mv (.const (.int .u32 0)))])
  (.seq (.reg [sv 0 3 0,
  sm 1 4 (.cint .u64 (tm 3)),
  sc 2 5 143 [(tm 4)],
  sv 3 2 5])
  .ret))
def r105 : List Mo := [.mv (tm 2)]
theorem c105_eq : compF Tryz.prog 105 = some c105 := by kernel_rfl
theorem r105_eq : compRs Tryz.prog 105 = some r105 := by kernel_rfl
def c106 : Cd := (.seq (.reg [sm 0 4 (.alloc [.int .u32 0, .int .u32 0])])
  (.seq (.reg [sv 0 7 0,
  sv 1 8 1,
  sc 2 9 144 [(tm 7), (tm 8)],
  sv 3 5 9])
  (.seq (.reg [sv 0 10 5,
  sc 1 11 105 [(tm 10)],
  sv 2 12 0,
  sc 3 13 105 [(tm 12)],
  sv 4 14 1,
  sc 5 15 145 [(tm 11), (tm 13), (tm 14)],
  sv 6 6 15])
  (.seq (.reg [sv 0 16 6,
  sv 1 17 5,
  sv 2 18 6,
  sv 3 19 0,
  sc 4 20 147 [(tm 18), (tm 19)],
  sc 5 21 146 [(tm 17), (tm 20)],
  sm 6 22 (.bld [.int .u32 0, .int .u32 0] [(0, 1, (tm 16)), (1, 1, (tm 21))]),
  se 7 (.st 2 (tm 4) (tm 22))])
  .ret))))
def r106 : List Mo := [.ldA 2 (tm 4)]
theorem c106_eq : compF Tryz.prog 106 = some c106 := by kernel_rfl
theorem r106_eq : compRs Tryz.prog 106 = some r106 := by kernel_rfl
def c107 : Cd := (.seq (.reg [sm 0 1 (.box (tm 0)),
  sm 1 2 (.mv (.const (.int .i64 0)))])
  (.seq (.block 0 (.seq (.reg [sm 0 4 (.fa 1 (tm 1)),
  sm 1 5 (.ld1 (tm 4)),
  sm 2 6 (.len (.sl 32) (tm 5)),
  sm 3 7 (.bin .gtr 3 (tm 6) (.const (.int .i64 4))),
  sv 4 3 7])
  (.cond (tm 3) (.seq (.reg [sm 0 2 (.mv (.const (.int .i64 4)))])
  .ret) (.seq (.dreg [sm 0 9 (.fa 1 (tm 1)),
  sm 1 10 (.ld1 (tm 9)),
  sc 2 11 148 [(tm 10), (.func 121)],
  sm 3 12 (.un .not (tm 11)),
  sv 4 13 12,
  sg 5 14 13 false (.fa 1 (tm 1)),
  sg 6 15 13 false (.ld1 (tm 14)),
  sg 10 19 13 false (.fa 1 (tm 1)),
  ⟨11, (some 20), (some ((some 13), false)), .mo (.ld1 (tm 19)), [], true⟩,
  sg 12 21 13 false (.len (.sl 32) (tm 20)),
  ⟨7, (some 16), (some ((some 13), false)), .callF 150 [(tm 15)], [11], false⟩,
  ⟨8, (some 17), (some ((some 13), false)), .callF 149 [(tm 16)], [11], false⟩,
  sg 9 18 13 false (.len (.sl 32) (tm 17)),
  sg 13 22 13 false (.bin .neq 3 (tm 18) (tm 21)),
  sm 14 23 (.pick (tm 13) (.const (.bool true)) (tm 22)),
  sv 15 8 23])
  (.cond (tm 8) (.seq (.reg [sm 0 2 (.mv (.const (.int .i64 32)))])
  .ret) (.seq (.reg [sm 0 25 (.fa 0 (tm 1)),
  sm 1 26 (.ld1 (tm 25)),
  sc 2 27 151 [(tm 26)],
  sm 3 28 (.un .not (tm 27)),
  sv 4 29 28,
  sg 5 30 29 false (.fa 2 (tm 1)),
  sg 6 31 29 false (.ld1 (tm 30)),
  sg 7 32 29 false (.bin .gtr 27 (tm 31) (.const (.int .u64 1000000000000))),
  sm 8 33 (.pick (tm 29) (.const (.bool true)) (tm 32)),
  sv 9 34 33,
  sg 10 35 34 false (.fa 9 (tm 1)),
  sg 11 36 34 false (.fa 0 (tm 35)),
  sg 12 37 34 false (.ld1 (tm 36)),
  sg 13 38 34 false (.fa 9 (tm 1)),
  sg 14 39 34 false (.fa 1 (tm 38)),
  sg 15 40 34 false (.ld1 (tm 39)),
  sg 16 41 34 false (.max (tm 37) (tm 40)),
  sg 17 42 34 false (.bin .geq 25 (tm 41) (.const (.int .u32 500000003))),
  sm 18 43 (.pick (tm 34) (.const (.bool true)) (tm 42)),
  sv 19 24 43])
  (.cond (tm 24) (.seq (.reg [sm 0 2 (.mv (.const (.int .i64 8)))])
  .ret) .skip)))))))
  (.seq (.reg [sm 0 44 (.fa 3 (tm 1)),
  sm 1 45 (.ldA 6 (tm 44)),
  sc 2 46 50 [(tm 45)],
  sv 3 2 46])
  .ret)))
def r107 : List Mo := [.mv (tm 2)]
theorem c107_eq : compF Tryz.prog 107 = some c107 := by kernel_rfl
theorem r107_eq : compRs Tryz.prog 107 = some r107 := by kernel_rfl
def c108 : Cd := (.seq (.reg [sm 0 1 (.box (tm 0)),
  sm 1 2 (.mv (.const (.slice none 0 0))),
  sm 2 3 (.mv (.const (.int .i64 0)))])
  (.seq (.reg [sm 0 12 (.bld [.int .u32 0, .int .u32 0] []),
  sm 1 13 (.fa 9 (tm 1)),
  se 2 (.st 2 (tm 13) (tm 12))])
  (.seq (.seq (.reg [sm 0 14 (.ldA 11 (tm 1)),
  sc 1 15 107 [(tm 14)],
  sv 2 4 15])
  (.seq (.reg [sv 0 16 4,
  sm 1 17 (.bin .neq 38 (tm 16) (.const (.int .i64 0)))])
  (.cond (tm 17) (.seq (.reg [sv 0 18 4,
  sm 1 2 (.mv (.const (.slice none 0 0))),
  sv 2 3 18])
  .ret) .skip)))
  (.seq (.reg [sm 0 20 (.fa 1 (tm 1)),
  sm 1 21 (.ld1 (tm 20)),
  sc 2 22 152 [(tm 21)],
  sv 3 19 22,
  sm 4 23 (.ext (tm 19) 0),
  sm 5 24 (.ext (tm 19) 1),
  sv 6 5 23,
  sv 7 6 24])
  (.seq (.dreg [⟨0, (some 25), none, .mo (.bsl 1 [.int .u8 0] 1 [(0, (.const (.int .u8 111)))]), [], true⟩,
  sm 1 26 (.fa 0 (tm 1)),
  sm 2 27 (.ld1 (tm 26)),
  sm 3 28 (.cint .u64 (tm 27)),
  sv 5 30 5,
  sm 6 31 (.fa 2 (tm 1)),
  ⟨7, (some 32), none, .mo (.ld1 (tm 31)), [], true⟩,
  sm 9 34 (.fa 3 (tm 1)),
  sm 10 35 (.fa 0 (tm 34)),
  ⟨11, (some 36), none, .mo (.ld1 (tm 35)), [], true⟩,
  ⟨12, (some 37), none, .mo (.bsl 1 [.int .u8 0] 1 [(0, (tm 36))]), [], true⟩,
  ⟨4, (some 29), none, .callF 110 [(tm 28)], [12, 11, 7, 0], false⟩,
  ⟨8, (some 33), none, .callF 110 [(tm 32)], [12, 11, 0], false⟩,
  sm 13 38 (.bsl 1 [.nilS] 5 [(0, (tm 25)), (1, (tm 29)), (2, (tm 30)), (3, (tm 33)), (4, (tm 37))]),
  sc 14 39 109 [(tm 38)],
  sv 15 7 39])
  (.seq (.seq (.reg [sm 0 40 (.fa 3 (tm 1)),
  sm 1 41 (.fa 0 (tm 40)),
  sm 2 42 (.ld1 (tm 41)),
  sm 3 43 (.bin .eql 5 (tm 42) (.const (.int .u8 1)))])
  (.cond (tm 43) (.seq (.reg [sv 0 44 7,
  sv 1 2 44,
  sm 2 3 (.mv (.const (.int .i64 0)))])
  .ret) .skip))
  (.seq (.reg [sm 0 46 (.fa 3 (tm 1)),
  sm 1 47 (.fa 1 (tm 46)),
  sm 2 48 (.ld1 (tm 47)),
  sm 3 49 (.csb (tm 48)),
  sc 4 50 153 [(tm 49)],
  sv 5 45 50,
  sm 6 51 (.ext (tm 45) 0),
  sm 7 52 (.ext (tm 45) 1),
  sv 8 8 51,
  sv 9 9 52])
  (.seq (.reg [sv 0 53 7,
  sv 1 54 8,
  sm 2 55 (.app 1 1 (tm 53) (tm 54)),
  sv 3 7 55])
  (.seq (.seq (.reg [sm 0 56 (.fa 3 (tm 1)),
  sm 1 57 (.fa 0 (tm 56)),
  sm 2 58 (.ld1 (tm 57)),
  sm 3 59 (.bin .eql 5 (tm 58) (.const (.int .u8 4)))])
  (.cond (tm 59) (.seq (.reg [sm 0 61 (.fa 3 (tm 1)),
  sm 1 62 (.fa 2 (tm 61)),
  sm 2 63 (.ldA 4 (tm 62)),
  sc 3 64 154 [(tm 63)],
  sv 4 60 64,
  sm 5 65 (.ext (tm 60) 0),
  sm 6 66 (.ext (tm 60) 1),
  sv 7 10 65,
  sv 8 11 66])
  (.reg [sv 0 67 7,
  sv 1 68 10,
  sm 2 69 (.app 1 1 (tm 67) (tm 68)),
  sv 3 7 69])) .skip))
  (.seq (.reg [sv 0 70 7,
  sv 1 2 70,
  sm 2 3 (.mv (.const (.int .i64 0)))])
  .ret))))))))))
def r108 : List Mo := [.mv (tm 2), .mv (tm 3)]
theorem c108_eq : compF Tryz.prog 108 = some c108 := by kernel_rfl
theorem r108_eq : compRs Tryz.prog 108 = some r108 := by kernel_rfl
def l109_0 : Cd := (.seq (.reg [sm 0 12 (.bin .lss 3 (tm 11) (tm 10))])
  (.seq (.cond (tm 12) .skip (.exit 0))
  (.seq (.block 1 (.seq (.reg [sm 0 13 (.ia (.sl 1) (tm 9) (tm 11)),
  sm 1 14 (.ld1 (tm 13)),
  sv 2 5 14])
  (.seq (.reg [sv 0 15 3,
  sv 1 16 5,
  sm 2 17 (.len (.sl 1) (tm 16)),
  sm 3 18 (.bin .add 3 (tm 15) (tm 17)),
  sv 4 3 18])
  (.seq (.reg [sv 0 19 3,
  sm 1 20 (.bin .lss 3 (tm 19) (.const (.int .i64 0)))])
  (.cond (tm 20) (.reg [sm 0 21 (.mkI 9 (.const (.string ⟨#[108, 101, 110, 32, 111, 117, 116, 32, 111, 102, 32, 114, 97, 110, 103, 101]⟩))),
  se 1 (.stop)]) .skip)))))
  (.reg [sm 0 22 (.bin .add 3 (tm 11) (.const (.int .i64 1))),
  sv 1 11 22]))))
def l109_1 : Cd := (.seq (.reg [sm 0 28 (.bin .lss 3 (tm 27) (tm 26))])
  (.seq (.cond (tm 28) .skip (.exit 2))
  (.seq (.block 3 (.seq (.reg [sm 0 29 (.ia (.sl 1) (tm 25) (tm 27)),
  sm 1 30 (.ld1 (tm 29)),
  sv 2 8 30])
  (.reg [sv 0 31 6,
  sv 1 32 8,
  sm 2 33 (.app 1 1 (tm 31) (tm 32)),
  sv 3 6 33])))
  (.reg [sm 0 34 (.bin .add 3 (tm 27) (.const (.int .i64 1))),
  sv 1 27 34]))))
def c109 : Cd := (.seq (.reg [sm 0 2 (.mv (.const (.slice none 0 0)))])
  (.seq (.reg [sm 0 3 (.mv (.const (.int .i64 0)))])
  (.seq (.seq (.reg [sv 0 9 0,
  sm 1 10 (.len (.sl 1) (tm 9)),
  sm 2 11 (.mv (.const (.int .i64 0)))])
  (.block 0 (.loop l109_0)))
  (.seq (.reg [sv 0 23 3,
  sc 1 24 155 [(.const (.slice none 0 0)), (tm 23)],
  sv 2 6 24])
  (.seq (.seq (.reg [sv 0 25 0,
  sm 1 26 (.len (.sl 1) (tm 25)),
  sm 2 27 (.mv (.const (.int .i64 0)))])
  (.block 2 (.loop l109_1)))
  (.seq (.reg [sv 0 35 6,
  sv 1 2 35])
  .ret))))))
def r109 : List Mo := [.mv (tm 2)]
theorem c109_eq : compF Tryz.prog 109 = some c109 := by kernel_rfl
theorem r109_eq : compRs Tryz.prog 109 = some r109 := by kernel_rfl
def l110_0 : Cd := (.seq (.reg [sm 0 25 (.bin .lss 3 (tm 24) (tm 23))])
  (.seq (.cond (tm 25) .skip (.exit 0))
  (.seq (.block 1 (.seq (.reg [sv 0 26 24,
  sv 1 5 26])
  (.reg [sv 0 27 4,
  sv 1 28 3,
  sv 2 29 5,
  sm 3 30 (.bin .sub 3 (tm 28) (tm 29)),
  sv 4 31 0,
  sv 5 32 5,
  sm 6 33 (.bin .mul 3 (.const (.int .i64 8)) (tm 32)),
  sm 7 34 (.bin .shr 27 (tm 31) (tm 33)),
  sm 8 35 (.cint .u8 (tm 34)),
  sm 9 36 (.ia (.sl 1) (tm 27) (tm 30)),
  se 10 (.st 1 (tm 36) (tm 35))])))
  (.reg [sm 0 37 (.bin .add 3 (tm 24) (.const (.int .i64 1))),
  sv 1 24 37]))))
def c110 : Cd := (.seq (.reg [sm 0 2 (.mv (.const (.slice none 0 0)))])
  (.seq (.seq (.reg [sv 0 6 0,
  sm 1 7 (.bin .leq 27 (tm 6) (.const (.int .u64 247)))])
  (.cond (tm 7) (.seq (.reg [sv 0 8 0,
  sm 1 9 (.cint .u8 (tm 8)),
  sm 2 10 (.bsl 1 [.int .u8 0] 1 [(0, (tm 9))]),
  sv 3 2 10])
  .ret) .skip))
  (.seq (.reg [sv 0 11 0,
  sc 1 12 135 [(tm 11)],
  sm 2 13 (.bin .add 3 (tm 12) (.const (.int .i64 7))),
  sm 3 14 (.bin .quo 3 (tm 13) (.const (.int .i64 8))),
  sv 4 3 14])
  (.seq (.reg [sv 0 15 3,
  sm 1 16 (.bin .add 3 (tm 15) (.const (.int .i64 1))),
  sm 2 17 (.mks 1 1 [.int .u8 0] (tm 16) (tm 16)),
  sv 3 4 17])
  (.seq (.reg [sv 0 18 4,
  sv 1 19 3,
  sm 2 20 (.bin .add 3 (.const (.int .i64 247)) (tm 19)),
  sm 3 21 (.cint .u8 (tm 20)),
  sm 4 22 (.ia (.sl 1) (tm 18) (.const (.int .i64 0))),
  se 5 (.st 1 (tm 22) (tm 21))])
  (.seq (.seq (.reg [sv 0 23 3,
  sm 1 24 (.mv (.const (.int .i64 0)))])
  (.block 0 (.loop l110_0)))
  (.seq (.reg [sv 0 38 4,
  sv 1 2 38])
  .ret)))))))
def r110 : List Mo := [.mv (tm 2)]
theorem c110_eq : compF Tryz.prog 110 = some c110 := by kernel_rfl
theorem r110_eq : compRs Tryz.prog 110 = some r110 := by kernel_rfl
def l111_0 : Cd := (.seq (.reg [sm 0 19 (.bin .lss 3 (tm 18) (tm 17))])
  (.seq (.cond (tm 19) .skip (.exit 0))
  (.seq (.block 1 (.seq (.reg [sm 0 20 (.ia (.sl 1) (tm 16) (tm 18)),
  sm 1 21 (.ld1 (tm 20)),
  sv 2 6 21])
  (.reg [sm 0 22 (.ldA 10 (tm 4)),
  sv 1 23 6,
  sc 2 24 159 [(tm 22), (tm 23)],
  se 3 (.st 10 (tm 4) (tm 24))])))
  (.reg [sm 0 25 (.bin .add 3 (tm 18) (.const (.int .i64 1))),
  sv 1 18 25]))))
def c111 : Cd := (.seq (.reg [sm 0 2 (.alloc (rep 32 (.int .u8 0))),
  sm 1 3 (.mv (.const (.int .i64 0)))])
  (.seq (.seq (.reg [sv 0 7 0,
  sm 1 8 (.len (.sl 1) (tm 7)),
  sm 2 9 (.bin .gtr 3 (tm 8) (.const (.int .i64 20))),
  sv 3 10 9,
  sg 4 11 10 false (.mv (tm 0)),
  ⟨5, (some 12), (some ((some 10), false)), .callF 156 [(tm 11), (.func 157)], [], false⟩,
  sm 6 13 (.pick (tm 10) (.const (.bool true)) (tm 12))])
  (.cond (tm 13) (.seq (.reg [sm 0 14 (.bld (rep 32 (.int .u8 0)) []),
  se 1 (.st 32 (tm 2) (tm 14)),
  sm 2 3 (.mv (.const (.int .i64 4)))])
  .ret) .skip))
  (.seq (.reg [sc 0 15 158 [],
  sm 1 4 (.alloc [.int .u32 0, .int .u32 0, .int .u32 0, .int .u32 0, .int .u32 0, .int .u32 0, .int .u32 0, .int .u32 0, .nilS, .int .i64 0]),
  se 2 (.st 10 (tm 4) (tm 15))])
  (.seq (.seq (.reg [sv 0 16 0,
  sm 1 17 (.len (.sl 1) (tm 16)),
  sm 2 18 (.mv (.const (.int .i64 0)))])
  (.block 0 (.loop l111_0)))
  (.seq (.reg [sm 0 26 (.ldA 10 (tm 4)),
  sc 1 27 160 [(tm 26)],
  se 2 (.st 32 (tm 2) (tm 27)),
  sm 3 3 (.mv (.const (.int .i64 0)))])
  .ret)))))
def r111 : List Mo := [.ldA 32 (tm 2), .mv (tm 3)]
theorem c111_eq : compF Tryz.prog 111 = some c111 := by kernel_rfl
theorem r111_eq : compRs Tryz.prog 111 = some r111 := by kernel_rfl
def c112 : Cd := (.seq (.reg [sm 0 2 (.mv (.const (.bool false)))])
  (.seq (.reg [sv 0 3 0,
  sv 1 4 0,
  sm 2 5 (.bin .neq 9 (tm 3) (tm 4)),
  sv 3 2 5])
  .ret))
def r112 : List Mo := [.mv (tm 2)]
theorem c112_eq : compF Tryz.prog 112 = some c112 := by kernel_rfl
theorem r112_eq : compRs Tryz.prog 112 = some r112 := by kernel_rfl
def c115 : Cd := (.seq (.reg [sm 0 4 (.mv (.const (.int .i64 0)))])
  (.seq (.reg [sv 0 5 0,
  sv 1 6 1,
  sc 2 7 162 [(tm 5), (tm 6), (.const (.bool true))],
  sv 3 4 7])
  .ret))
def r115 : List Mo := [.mv (tm 4)]
theorem c115_eq : compF Tryz.prog 115 = some c115 := by kernel_rfl
theorem r115_eq : compRs Tryz.prog 115 = some r115 := by kernel_rfl
def c116 : Cd := (.seq (.reg [sm 0 2 (.mv (.const (.bool false)))])
  (.seq (.reg [sv 0 3 0,
  sm 1 4 (.bin .lss 21 (tm 3) (.const (.int .i32 33))),
  sv 2 5 4,
  sg 3 6 5 false (.mv (tm 0)),
  sg 4 7 5 false (.bin .gtr 21 (tm 6) (.const (.int .i32 126))),
  sm 5 8 (.pick (tm 5) (.const (.bool true)) (tm 7)),
  sv 6 2 8])
  .ret))
def r116 : List Mo := [.mv (tm 2)]
theorem c116_eq : compF Tryz.prog 116 = some c116 := by kernel_rfl
theorem r116_eq : compRs Tryz.prog 116 = some r116 := by kernel_rfl
def c117 : Cd := (.seq (.reg [sm 0 2 (.alloc [.int .u8 0, .int .i64 0, .int .u64 0, .str []])])
  (.seq (.reg [sv 0 3 0,
  sm 1 4 (.bld [.int .u8 0, .int .i64 0, .int .u64 0, .str []] [(0, 1, (.const (.int .u8 1))), (1, 1, (tm 3))]),
  se 2 (.st 4 (tm 2) (tm 4))])
  .ret))
def r117 : List Mo := [.ldA 4 (tm 2)]
theorem c117_eq : compF Tryz.prog 117 = some c117 := by kernel_rfl
theorem r117_eq : compRs Tryz.prog 117 = some r117 := by kernel_rfl
def c118 : Cd := (.seq (.reg [sm 0 2 (.alloc [.int .u8 0, .int .i64 0, .int .u64 0, .str []])])
  (.seq (.reg [sv 0 3 0,
  sc 1 4 163 [(tm 3)],
  sm 2 5 (.bld [.int .u8 0, .int .i64 0, .int .u64 0, .str []] [(0, 1, (.const (.int .u8 2))), (2, 1, (tm 4))]),
  se 3 (.st 4 (tm 2) (tm 5))])
  .ret))
def r118 : List Mo := [.ldA 4 (tm 2)]
theorem c118_eq : compF Tryz.prog 118 = some c118 := by kernel_rfl
theorem r118_eq : compRs Tryz.prog 118 = some r118 := by kernel_rfl
def c119 : Cd := (.seq (.reg [sm 0 2 (.alloc [.int .u8 0, .int .i64 0, .int .u64 0, .str []]),
  sm 1 3 (.mv (.const (.int .i64 0)))])
  (.seq (.seq (.reg [sv 0 4 0,
  sm 1 5 (.len .str (tm 4)),
  sm 2 6 (.bin .gtr 3 (tm 5) (.const (.int .i64 30)))])
  (.cond (tm 6) (.seq (.reg [sm 0 7 (.bld [.int .u8 0, .int .i64 0, .int .u64 0, .str []] []),
  se 1 (.st 4 (tm 2) (tm 7)),
  sm 2 3 (.mv (.const (.int .i64 4)))])
  .ret) .skip))
  (.seq (.seq (.reg [sv 0 8 0,
  sc 1 9 115 [(tm 8), (.func 164)],
  sm 2 10 (.bin .geq 3 (tm 9) (.const (.int .i64 0)))])
  (.cond (tm 10) (.seq (.reg [sm 0 11 (.bld [.int .u8 0, .int .i64 0, .int .u64 0, .str []] []),
  se 1 (.st 4 (tm 2) (tm 11)),
  sm 2 3 (.mv (.const (.int .i64 8)))])
  .ret) .skip))
  (.seq (.reg [sv 0 12 0,
  sm 1 13 (.bld [.int .u8 0, .int .i64 0, .int .u64 0, .str []] [(0, 1, (.const (.int .u8 3))), (3, 1, (tm 12))]),
  se 2 (.st 4 (tm 2) (tm 13)),
  sm 3 3 (.mv (.const (.int .i64 0)))])
  .ret))))
def r119 : List Mo := [.ldA 4 (tm 2), .mv (tm 3)]
theorem c119_eq : compF Tryz.prog 119 = some c119 := by kernel_rfl
theorem r119_eq : compRs Tryz.prog 119 = some r119 := by kernel_rfl
def c120 : Cd := (.seq (.reg [sm 0 5 (.box (tm 2)),
  sm 1 6 (.mv (.const (.int .i64 0)))])
  (.seq (.seq (.reg [sv 0 13 0,
  sc 1 14 151 [(tm 13)],
  sm 2 15 (.un .not (tm 14))])
  (.cond (tm 15) (.seq (.reg [sm 0 6 (.mv (.const (.int .i64 2)))])
  .ret) .skip))
  (.seq (.seq (.reg [sv 0 16 1,
  sm 1 17 (.len (.sl 1) (tm 16)),
  sm 2 18 (.bin .gtr 3 (tm 17) (.const (.int .i64 9991)))])
  (.cond (tm 18) (.seq (.reg [sm 0 6 (.mv (.const (.int .i64 4)))])
  .ret) .skip))
  (.seq (.seq (.reg [sm 0 19 (.fa 0 (tm 5)),
  sm 1 20 (.ld1 (tm 19)),
  sm 2 21 (.fa 1 (tm 5)),
  sm 3 22 (.ld1 (tm 21)),
  sm 4 23 (.max (tm 20) (tm 22)),
  sm 5 24 (.bin .geq 25 (tm 23) (.const (.int .u32 500000003)))])
  (.cond (tm 24) (.seq (.reg [sm 0 6 (.mv (.const (.int .i64 22)))])
  .ret) .skip))
  (.seq (.reg [sv 0 26 0,
  sm 1 27 (.fa 0 (tm 5)),
  sm 2 28 (.ld1 (tm 27)),
  sm 3 29 (.cint .u64 (tm 28)),
  sm 4 30 (.bin .sub 27 (.const (.int .u64 500000003)) (tm 29)),
  sc 5 31 165 [(tm 26), (tm 30)],
  sv 6 25 31,
  sm 7 32 (.ext (tm 25) 0),
  sm 8 33 (.ext (tm 25) 1),
  sv 9 7 32,
  sv 10 8 33])
  (.seq (.reg [sm 0 35 (.fa 1 (tm 5)),
  sm 1 36 (.ld1 (tm 35)),
  sm 2 37 (.cint .u64 (tm 36)),
  sc 3 38 167 [(tm 37)],
  sv 4 39 7,
  sc 5 40 166 [(tm 38), (tm 39)],
  sv 6 34 40,
  sm 7 41 (.ext (tm 34) 0),
  sm 8 42 (.ext (tm 34) 1),
  sv 9 9 41,
  sv 10 10 42])
  (.seq (.seq (.reg [sv 0 44 9,
  sv 1 45 0,
  sv 2 46 1,
  sc 3 47 168 [(tm 44), (tm 45), (tm 46)],
  sv 4 43 47,
  sm 5 48 (.ext (tm 43) 0),
  sm 6 49 (.ext (tm 43) 1),
  sv 7 11 48,
  sv 8 12 49])
  (.seq (.reg [sv 0 50 12,
  sm 1 51 (.bin .neq 38 (tm 50) (.const (.int .i64 0))),
  sv 2 52 51,
  sg 3 53 52 false (.mv (tm 11)),
  sg 4 54 52 false (.fa 0 (tm 5)),
  sg 5 55 52 false (.ld1 (tm 54)),
  sg 6 56 52 false (.bin .neq 25 (tm 53) (tm 55)),
  sm 7 57 (.pick (tm 52) (.const (.bool true)) (tm 56))])
  (.cond (tm 57) (.seq (.reg [sm 0 6 (.mv (.const (.int .i64 22)))])
  .ret) .skip)))
  (.seq (.reg [sm 0 6 (.mv (.const (.int .i64 0)))])
  .ret))))))))
def r120 : List Mo := [.mv (tm 6)]
theorem c120_eq : compF Tryz.prog 120 = some c120 := by kernel_rfl
theorem r120_eq : compRs Tryz.prog 120 = some r120 := by kernel_rfl
def c121 : Cd := (.seq (.reg [sm 0 2 (.box (tm 0)),
  sm 1 3 (.box (tm 1)),
  sm 2 4 (.mv (.const (.int .i64 0)))])
  (.seq (.reg [sm 0 5 (.slice (.arr 32 1) (tm 2) none none none),
  sm 1 6 (.slice (.arr 32 1) (tm 3) none none none),
  sc 2 7 76 [(tm 5), (tm 6)],
  sv 3 4 7])
  .ret))
def r121 : List Mo := [.mv (tm 4)]
theorem c121_eq : compF Tryz.prog 121 = some c121 := by kernel_rfl
theorem r121_eq : compRs Tryz.prog 121 = some r121 := by kernel_rfl
def c122 : Cd := (.seq (.reg [sm 0 2 (.box (tm 0)),
  sm 1 3 (.box (tm 1)),
  sm 2 4 (.mv (.const (.int .i64 0))),
  sm 3 5 (.mv (.const (.bool false)))])
  (.seq (.reg [sm 0 6 (.fa 0 (tm 2)),
  sm 1 7 (.ld1 (tm 6)),
  sm 2 8 (.ldA 32 (tm 3)),
  sc 3 9 123 [(tm 7), (tm 8), (.func 121)],
  sm 4 10 (.ext (tm 9) 0),
  sm 5 11 (.ext (tm 9) 1),
  sv 6 4 10,
  sv 7 5 11])
  .ret))
def r122 : List Mo := [.mv (tm 4), .mv (tm 5)]
theorem c122_eq : compF Tryz.prog 122 = some c122 := by kernel_rfl
theorem r122_eq : compRs Tryz.prog 122 = some r122 := by kernel_rfl
def l123_0 : Cd := (.seq (.seq (.reg [sv 0 15 9,
  sv 1 16 10,
  sm 2 17 (.bin .lss 3 (tm 15) (tm 16))])
  (.cond (tm 17) .skip (.exit 0)))
  (.block 1 (.seq (.reg [sv 0 18 9,
  sv 1 19 10,
  sm 2 20 (.bin .add 3 (tm 18) (tm 19)),
  sm 3 21 (.cint .u64 (tm 20)),
  sm 4 22 (.bin .shr 125 (tm 21) (.const (.int .u64 1))),
  sm 5 23 (.cint .i64 (tm 22)),
  sv 6 11 23])
  (.seq (.reg [sv 0 24 2,
  sv 1 25 0,
  sv 2 26 11,
  sm 3 27 (.ia (.sl 32) (tm 25) (tm 26)),
  sm 4 28 (.ldA 32 (tm 27)),
  sm 5 29 (.ldA 32 (tm 4)),
  ⟨6, (some 30), none, .callV (tm 24) [(tm 28), (tm 29)], [], false⟩,
  sm 7 31 (.bin .lss 3 (tm 30) (.const (.int .i64 0)))])
  (.cond (tm 31) (.reg [sv 0 32 11,
  sm 1 33 (.bin .add 3 (tm 32) (.const (.int .i64 1))),
  sv 2 9 33]) (.reg [sv 0 34 11,
  sv 1 10 34]))))))
def c123 : Cd := (.seq (.reg [sm 0 4 (.box (tm 1)),
  sm 1 6 (.mv (.const (.int .i64 0))),
  sm 2 7 (.mv (.const (.bool false)))])
  (.seq (.reg [sv 0 12 0,
  sm 1 13 (.len (.sl 32) (tm 12)),
  sv 2 8 13])
  (.seq (.reg [sv 0 14 8,
  sm 1 9 (.mv (.const (.int .i64 0))),
  sv 2 10 14])
  (.seq (.block 0 (.loop l123_0))
  (.seq (.reg [sv 0 35 9,
  sv 1 36 9,
  sv 2 37 8,
  sm 3 38 (.bin .lss 3 (tm 36) (tm 37)),
  sv 4 39 38,
  sg 5 40 39 true (.mv (tm 2)),
  sg 6 41 39 true (.mv (tm 0)),
  sg 7 42 39 true (.mv (tm 9)),
  sg 8 43 39 true (.ia (.sl 32) (tm 41) (tm 42)),
  sg 9 44 39 true (.ldA 32 (tm 43)),
  sg 10 45 39 true (.ldA 32 (tm 4)),
  ⟨11, (some 46), (some ((some 39), true)), .callV (tm 40) [(tm 44), (tm 45)], [], false⟩,
  sg 12 47 39 true (.bin .eql 3 (tm 46) (.const (.int .i64 0))),
  sm 13 48 (.pick (tm 39) (tm 47) (.const (.bool false))),
  sv 14 6 35,
  sv 15 7 48])
  .ret)))))
def r123 : List Mo := [.mv (tm 6), .mv (tm 7)]
theorem c123_eq : compF Tryz.prog 123 = some c123 := by kernel_rfl
theorem r123_eq : compRs Tryz.prog 123 = some r123 := by kernel_rfl
def l124_0 : Cd := (.seq (.reg [sm 0 14 (.bin .lss 3 (tm 13) (tm 12))])
  (.seq (.cond (tm 14) .skip (.exit 0))
  (.seq (.block 1 (.seq (.reg [sv 0 15 13,
  sm 1 16 (.ia (.sl 32) (tm 11) (tm 13)),
  sm 2 17 (.ldA 32 (tm 16)),
  sm 3 5 (.alloc (rep 32 (.int .u8 0))),
  sv 4 4 15,
  se 5 (.st 32 (tm 5) (tm 17))])
  (.reg [sv 0 18 3,
  sm 1 19 (.ldA 32 (tm 5)),
  sv 2 20 4,
  se 3 (.mup 71 (tm 18) (tm 19) (tm 20))])))
  (.reg [sm 0 21 (.bin .add 3 (tm 13) (.const (.int .i64 1))),
  sv 1 13 21]))))
def c124 : Cd := (.seq (.reg [sm 0 1 (.box (tm 0)),
  sm 1 2 (.mv (.const (.map none)))])
  (.seq (.reg [sm 0 6 (.fa 0 (tm 1)),
  sm 1 7 (.ld1 (tm 6)),
  sm 2 8 (.len (.sl 32) (tm 7)),
  sm 3 9 (.mkM (some (tm 8))),
  sv 4 3 9])
  (.seq (.seq (.reg [sm 0 10 (.fa 0 (tm 1)),
  sm 1 11 (.ld1 (tm 10)),
  sm 2 12 (.len (.sl 32) (tm 11)),
  sm 3 13 (.mv (.const (.int .i64 0)))])
  (.block 0 (.loop l124_0)))
  (.seq (.reg [sv 0 22 3,
  sv 1 2 22])
  .ret))))
def r124 : List Mo := [.mv (tm 2)]
theorem c124_eq : compF Tryz.prog 124 = some c124 := by kernel_rfl
theorem r124_eq : compRs Tryz.prog 124 = some r124 := by kernel_rfl
def l125_0 : Cd := (.seq (.reg [sm 0 27 (.bin .lss 3 (tm 26) (tm 25))])
  (.seq (.cond (tm 27) .skip (.exit 0))
  (.seq (.block 1 (.seq (.reg [sm 0 28 (.ia (.sl 32) (tm 24) (tm 26)),
  sm 1 29 (.ldA 32 (tm 28)),
  sm 2 8 (.alloc (rep 32 (.int .u8 0))),
  se 3 (.st 32 (tm 8) (tm 29))])
  (.reg [sm 0 30 (.ld1 (tm 4)),
  sm 1 31 (.ldA 32 (tm 8)),
  ⟨2, (some 32), none, .callV (tm 30) [(tm 31)], [], false⟩])))
  (.reg [sm 0 33 (.bin .add 3 (tm 26) (.const (.int .i64 1))),
  sv 1 26 33]))))
def c125 : Cd := (.seq (.reg [sm 0 5 (.box (tm 0))])
  (.seq (.reg [sm 0 9 (.ld1 (tm 1)),
  sm 1 10 (.ldA 32 (tm 5)),
  sm 2 11 (.lkp 71 (.int .i64 0) false (tm 9) (tm 10)),
  sv 3 6 11])
  (.seq (.seq (.reg [sm 0 12 (.ld1 (tm 2)),
  sv 1 13 6,
  sm 2 14 (.ia (.sl 1) (tm 12) (tm 13)),
  sm 3 15 (.ld1 (tm 14))])
  (.cond (tm 15) .ret .skip))
  (.seq (.reg [sm 0 16 (.ld1 (tm 2)),
  sv 1 17 6,
  sm 2 18 (.ia (.sl 1) (tm 16) (tm 17)),
  se 3 (.st 1 (tm 18) (.const (.bool true)))])
  (.seq (.reg [sm 0 19 (.fa 1 (tm 3)),
  sm 1 20 (.ld1 (tm 19)),
  sv 2 21 6,
  sm 3 22 (.ia (.sl 11) (tm 20) (tm 21)),
  sm 4 23 (.fa 1 (tm 22)),
  sm 5 24 (.ld1 (tm 23)),
  sm 6 25 (.len (.sl 32) (tm 24)),
  sm 7 26 (.mv (.const (.int .i64 0)))])
  (.block 0 (.loop l125_0)))))))
def r125 : List Mo := []
theorem c125_eq : compF Tryz.prog 125 = some c125 := by kernel_rfl
theorem r125_eq : compRs Tryz.prog 125 = some r125 := by kernel_rfl
def l126_0 : Cd := (.seq (.seq (.reg [sv 0 18 9,
  sv 1 19 1,
  sm 2 20 (.bin .gtr 3 (tm 18) (tm 19)),
  sv 3 21 20,
  sg 4 22 21 true (.mv (tm 3)),
  sg 5 23 21 true (.mv (tm 0)),
  sg 6 24 21 true (.mv (tm 9)),
  sg 7 25 21 true (.ia (.sl 33) (tm 23) (tm 24)),
  sg 8 26 21 true (.ldA 33 (tm 25)),
  sg 9 27 21 true (.mv (tm 0)),
  sg 10 28 21 true (.mv (tm 9)),
  sg 11 29 21 true (.bin .sub 3 (tm 28) (.const (.int .i64 1))),
  sg 12 30 21 true (.ia (.sl 33) (tm 27) (tm 29)),
  sg 13 31 21 true (.ldA 33 (tm 30)),
  ⟨14, (some 32), (some ((some 21), true)), .callV (tm 22) [(tm 26), (tm 31)], [], false⟩,
  sg 15 33 21 true (.bin .lss 3 (tm 32) (.const (.int .i64 0))),
  sm 16 34 (.pick (tm 21) (tm 33) (.const (.bool false)))])
  (.cond (tm 34) .skip (.exit 2)))
  (.seq (.block 3 (.reg [sv 0 37 0,
  sv 1 38 9,
  sv 2 39 0,
  sv 3 40 9,
  sm 4 41 (.bin .sub 3 (tm 40) (.const (.int .i64 1))),
  sv 5 42 0,
  sv 6 43 9,
  sm 7 44 (.bin .sub 3 (tm 43) (.const (.int .i64 1))),
  sm 8 45 (.ia (.sl 33) (tm 42) (tm 44)),
  sm 9 46 (.ldA 33 (tm 45)),
  sv 10 47 0,
  sv 11 48 9,
  sm 12 49 (.ia (.sl 33) (tm 47) (tm 48)),
  sm 13 50 (.ldA 33 (tm 49)),
  sm 14 51 (.ia (.sl 33) (tm 37) (tm 38)),
  se 15 (.st 33 (tm 51) (tm 46)),
  sm 16 52 (.ia (.sl 33) (tm 39) (tm 41)),
  se 17 (.st 33 (tm 52) (tm 50))]))
  (.reg [sv 0 35 9,
  sm 1 36 (.bin .sub 3 (tm 35) (.const (.int .i64 1))),
  sv 2 9 36])))
def l126_1 : Cd := (.seq (.seq (.reg [sv 0 12 8,
  sv 1 13 2,
  sm 2 14 (.bin .lss 3 (tm 12) (tm 13))])
  (.cond (tm 14) .skip (.exit 0)))
  (.seq (.block 1 (.seq (.reg [sv 0 17 8,
  sv 1 9 17])
  (.block 2 (.loop l126_0))))
  (.reg [sv 0 15 8,
  sm 1 16 (.bin .add 3 (tm 15) (.const (.int .i64 1))),
  sv 2 8 16])))
def c126 : Cd := (.seq (.reg [sv 0 10 1,
  sm 1 11 (.bin .add 3 (tm 10) (.const (.int .i64 1))),
  sv 2 8 11])
  (.block 0 (.loop l126_1)))
def r126 : List Mo := []
theorem c126_eq : compF Tryz.prog 126 = some c126 := by kernel_rfl
theorem r126_eq : compRs Tryz.prog 126 = some r126 := by kernel_rfl
def c135 : Cd := (.seq (.reg [sm 0 2 (.mv (.const (.int .i64 0)))])
  (.seq (.seq (.reg [sv 0 3 0,
  sm 1 4 (.bin .geq 27 (tm 3) (.const (.int .u64 4294967296)))])
  (.cond (tm 4) (.seq (.reg [sv 0 5 0,
  sm 1 6 (.bin .shr 27 (tm 5) (.const (.int .u64 32))),
  sv 2 0 6])
  (.reg [sm 0 2 (.mv (.const (.int .i64 32)))])) .skip))
  (.seq (.seq (.reg [sv 0 7 0,
  sm 1 8 (.bin .geq 27 (tm 7) (.const (.int .u64 65536)))])
  (.cond (tm 8) (.seq (.reg [sv 0 9 0,
  sm 1 10 (.bin .shr 27 (tm 9) (.const (.int .u64 16))),
  sv 2 0 10])
  (.reg [sv 0 11 2,
  sm 1 12 (.bin .add 3 (tm 11) (.const (.int .i64 16))),
  sv 2 2 12])) .skip))
  (.seq (.seq (.reg [sv 0 13 0,
  sm 1 14 (.bin .geq 27 (tm 13) (.const (.int .u64 256)))])
  (.cond (tm 14) (.seq (.reg [sv 0 15 0,
  sm 1 16 (.bin .shr 27 (tm 15) (.const (.int .u64 8))),
  sv 2 0 16])
  (.reg [sv 0 17 2,
  sm 1 18 (.bin .add 3 (tm 17) (.const (.int .i64 8))),
  sv 2 2 18])) .skip))
  (.seq (.reg [sv 0 19 2,
  sv 1 20 0,
  sm 2 21 (.cint .u8 (tm 20)),
  sm 3 22 (.ixT (.const (.string ⟨#[0, 1, 2, 2, 3, 3, 3, 3, 4, 4, 4, 4, 4, 4, 4, 4, 5, 5, 5, 5, 5, 5, 5, 5, 5, 5, 5, 5, 5, 5, 5, 5, 6, 6, 6, 6, 6, 6, 6, 6, 6, 6, 6, 6, 6, 6, 6, 6, 6, 6, 6, 6, 6, 6, 6, 6, 6, 6, 6, 6, 6, 6, 6, 6, 7, 7, 7, 7, 7, 7, 7, 7, 7, 7, 7, 7, 7, 7, 7, 7, 7, 7, 7, 7, 7, 7, 7, 7, 7, 7, 7, 7, 7, 7, 7, 7, 7, 7, 7, 7, 7, 7, 7, 7, 7, 7, 7, 7, 7, 7, 7, 7, 7, 7, 7, 7, 7, 7, 7, 7, 7, 7, 7, 7, 7, 7, 7, 7, 8, 8, 8, 8, 8, 8, 8, 8, 8, 8, 8, 8, 8, 8, 8, 8, 8, 8, 8, 8, 8, 8, 8, 8, 8, 8, 8, 8, 8, 8, 8, 8, 8, 8, 8, 8, 8, 8, 8, 8, 8, 8, 8, 8, 8, 8, 8, 8, 8, 8, 8, 8, 8, 8, 8, 8, 8, 8, 8, 8, 8, 8, 8, 8, 8, 8, 8, 8, 8, 8, 8, 8, 8, 8, 8, 8, 8, 8, 8, 8, 8, 8, 8, 8, 8, 8, 8, 8, 8, 8, 8, 8, 8, 8, 8, 8, 8, 8, 8, 8, 8, 8, 8, 8, 8, 8, 8, 8, 8, 8, 8, 8, 8, 8, 8, 8, 8, 8, 8, 8, 8, 8, 8, 8, 8, 8, 8, 8]⟩)) (tm 21)),
  sm 4 23 (.cint .i64 (tm 22)),
  sm 5 24 (.bin .add 3 (tm 19) (tm 23)),
  sv 6 2 24])
  .ret)))))
def r135 : List Mo := [.mv (tm 2)]
theorem c135_eq : compF Tryz.prog 135 = some c135 := by kernel_rfl
theorem r135_eq : compRs Tryz.prog 135 = some r135 := by kernel_rfl
def c136 : Cd := (.seq (.reg [sm 0 5 (.box (tm 2)),
  sm 1 6 (.mv (.const (.bool false)))])
  (.seq (.seq (.reg [sm 0 9 (.fa 0 (tm 5)),
  sm 1 10 (.ld1 (tm 9)),
  sc 2 11 66 [(tm 10)],
  sm 3 12 (.un .not (tm 11)),
  sv 4 13 12,
  sg 5 14 13 false (.fa 1 (tm 5)),
  sg 6 15 13 false (.ld1 (tm 14)),
  ⟨7, (some 16), (some ((some 13), false)), .callF 66 [(tm 15)], [], false⟩,
  sg 8 17 13 false (.un .not (tm 16)),
  sm 9 18 (.pick (tm 13) (.const (.bool true)) (tm 17))])
  (.cond (tm 18) (.seq (.reg [sm 0 6 (.mv (.const (.bool false)))])
  .ret) .skip))
  (.seq (.reg [sv 0 20 0,
  sm 1 21 (.fa 0 (tm 5)),
  sm 2 22 (.ld1 (tm 21)),
  sm 3 23 (.cint .u64 (tm 22)),
  sc 4 24 175 [(tm 20), (tm 23)],
  sc 5 25 174 [(tm 24)],
  sv 6 19 25,
  sm 7 26 (.ext (tm 19) 0),
  sm 8 27 (.ext (tm 19) 1),
  sv 9 7 26,
  sv 10 8 27])
  (.seq (.dreg [sm 0 28 (.fa 1 (tm 5)),
  sm 1 29 (.ld1 (tm 28)),
  sv 3 31 7,
  sv 5 33 0,
  sv 6 34 1,
  sm 8 36 (.fa 0 (tm 5)),
  ⟨9, (some 37), none, .mo (.ld1 (tm 36)), [], true⟩,
  ⟨2, (some 30), none, .callF 105 [(tm 29)], [9], false⟩,
  ⟨4, (some 32), none, .callF 176 [(tm 30), (tm 31)], [9], false⟩,
  ⟨7, (some 35), none, .callF 145 [(tm 32), (tm 33), (tm 34)], [9], false⟩,
  sm 10 38 (.bin .eql 25 (tm 35) (tm 37)),
  sv 11 6 38])
  .ret))))
def r136 : List Mo := [.mv (tm 6)]
theorem c136_eq : compF Tryz.prog 136 = some c136 := by kernel_rfl
theorem r136_eq : compRs Tryz.prog 136 = some r136 := by kernel_rfl
def c137 : Cd := (.seq (.reg [sm 0 2 (.mv (.const (.int .u64 0)))])
  (.seq (.seq (.reg [sv 0 3 0,
  sc 1 4 177 [(tm 3)],
  sm 2 5 (.bin .eql 5 (tm 4) (.const (.int .u8 5)))])
  (.cond (tm 5) (.seq (.reg [sm 0 2 (.mv (.const (.int .u64 9221120237041090560)))])
  .ret) .skip))
  (.seq (.reg [sv 0 6 0,
  sv 1 2 6])
  .ret)))
def r137 : List Mo := [.mv (tm 2)]
theorem c137_eq : compF Tryz.prog 137 = some c137 := by kernel_rfl
theorem r137_eq : compRs Tryz.prog 137 = some r137 := by kernel_rfl
def l138_0 : Cd := (.seq (.seq (.reg [sv 0 4 3,
  sv 1 5 0,
  sm 2 6 (.len .str (tm 5)),
  sm 3 7 (.bin .lss 3 (tm 4) (tm 6))])
  (.cond (tm 7) .skip (.exit 0)))
  (.seq (.block 1 (.seq (.reg [sv 0 10 0,
  sv 1 11 3,
  sm 2 12 (.ixT (tm 10) (tm 11)),
  sm 3 13 (.bin .lss 5 (tm 12) (.const (.int .u8 32))),
  sv 4 14 13,
  sg 5 15 14 false (.mv (tm 0)),
  sg 6 16 14 false (.mv (tm 3)),
  sg 7 17 14 false (.ixT (tm 15) (tm 16)),
  sg 8 18 14 false (.bin .gtr 5 (tm 17) (.const (.int .u8 126))),
  sm 9 19 (.pick (tm 14) (.const (.bool true)) (tm 18))])
  (.cond (tm 19) (.seq (.reg [sm 0 2 (.mv (.const (.bool false)))])
  .ret) .skip)))
  (.reg [sv 0 8 3,
  sm 1 9 (.bin .add 3 (tm 8) (.const (.int .i64 1))),
  sv 2 3 9])))
def c138 : Cd := (.seq (.reg [sm 0 2 (.mv (.const (.bool false)))])
  (.seq (.seq (.reg [sm 0 3 (.mv (.const (.int .i64 0)))])
  (.block 0 (.loop l138_0)))
  (.seq (.reg [sm 0 2 (.mv (.const (.bool true)))])
  .ret)))
def r138 : List Mo := [.mv (tm 2)]
theorem c138_eq : compF Tryz.prog 138 = some c138 := by kernel_rfl
theorem r138_eq : compRs Tryz.prog 138 = some r138 := by kernel_rfl
def l139_0 : Cd := (.seq (.seq (.reg [sv 0 22 6,
  sm 1 23 (.bin .lss 3 (tm 22) (.const (.int .i64 16)))])
  (.cond (tm 23) .skip (.exit 0)))
  (.seq (.block 1 (.reg [sv 0 26 5,
  sv 1 27 1,
  sv 2 28 6,
  sm 3 29 (.bin .mul 3 (.const (.int .i64 4)) (tm 28)),
  sm 4 30 (.ia (.sl 1) (tm 27) (tm 29)),
  sm 5 31 (.ld1 (tm 30)),
  sm 6 32 (.cint .u32 (tm 31)),
  sm 7 33 (.bin .mul 25 (tm 32) (.const (.int .u32 256))),
  sv 8 34 1,
  sv 9 35 6,
  sm 10 36 (.bin .mul 3 (.const (.int .i64 4)) (tm 35)),
  sm 11 37 (.bin .add 3 (tm 36) (.const (.int .i64 1))),
  sm 12 38 (.ia (.sl 1) (tm 34) (tm 37)),
  sm 13 39 (.ld1 (tm 38)),
  sm 14 40 (.cint .u32 (tm 39)),
  sm 15 41 (.bin .add 25 (tm 33) (tm 40)),
  sm 16 42 (.bin .mul 25 (tm 41) (.const (.int .u32 256))),
  sv 17 43 1,
  sv 18 44 6,
  sm 19 45 (.bin .mul 3 (.const (.int .i64 4)) (tm 44)),
  sm 20 46 (.bin .add 3 (tm 45) (.const (.int .i64 2))),
  sm 21 47 (.ia (.sl 1) (tm 43) (tm 46)),
  sm 22 48 (.ld1 (tm 47)),
  sm 23 49 (.cint .u32 (tm 48)),
  sm 24 50 (.bin .add 25 (tm 42) (tm 49)),
  sm 25 51 (.bin .mul 25 (tm 50) (.const (.int .u32 256))),
  sv 26 52 1,
  sv 27 53 6,
  sm 28 54 (.bin .mul 3 (.const (.int .i64 4)) (tm 53)),
  sm 29 55 (.bin .add 3 (tm 54) (.const (.int .i64 3))),
  sm 30 56 (.ia (.sl 1) (tm 52) (tm 55)),
  sm 31 57 (.ld1 (tm 56)),
  sm 32 58 (.cint .u32 (tm 57)),
  sm 33 59 (.bin .add 25 (tm 51) (tm 58)),
  sm 34 60 (.bsl 1 [.int .u32 0] 1 [(0, (tm 59))]),
  sm 35 61 (.app 1 4 (tm 26) (tm 60)),
  sv 36 5 61]))
  (.reg [sv 0 24 6,
  sm 1 25 (.bin .add 3 (tm 24) (.const (.int .i64 1))),
  sv 2 6 25])))
def l139_1 : Cd := (.seq (.seq (.reg [sv 0 62 7,
  sm 1 63 (.bin .lss 3 (tm 62) (.const (.int .i64 64)))])
  (.cond (tm 63) .skip (.exit 2)))
  (.seq (.block 3 (.seq (.reg [sv 0 66 5,
  sv 1 67 7,
  sm 2 68 (.bin .sub 3 (tm 67) (.const (.int .i64 15))),
  sm 3 69 (.ia (.sl 1) (tm 66) (tm 68)),
  sm 4 70 (.ld1 (tm 69)),
  sv 5 71 5,
  sv 6 72 7,
  sm 7 73 (.bin .sub 3 (tm 72) (.const (.int .i64 2))),
  sm 8 74 (.ia (.sl 1) (tm 71) (tm 73)),
  sm 9 75 (.ld1 (tm 74)),
  sv 10 8 70,
  sv 11 9 75])
  (.dreg [sv 0 76 5,
  sv 1 77 5,
  sv 2 78 7,
  sm 3 79 (.bin .sub 3 (tm 78) (.const (.int .i64 16))),
  sm 4 80 (.ia (.sl 1) (tm 77) (tm 79)),
  ⟨5, (some 81), none, .mo (.ld1 (tm 80)), [], true⟩,
  sv 6 82 5,
  sv 7 83 7,
  sm 8 84 (.bin .sub 3 (tm 83) (.const (.int .i64 7))),
  sm 9 85 (.ia (.sl 1) (tm 82) (tm 84)),
  ⟨10, (some 86), none, .mo (.ld1 (tm 85)), [], true⟩,
  sm 11 87 (.bin .add 25 (tm 81) (tm 86)),
  sv 12 88 8,
  sv 14 90 8,
  sv 17 93 8,
  sm 18 94 (.bin .shr 25 (tm 93) (.const (.int .u64 3))),
  sv 21 97 9,
  sv 23 99 9,
  sv 26 102 9,
  sm 27 103 (.bin .shr 25 (tm 102) (.const (.int .u64 10))),
  ⟨13, (some 89), none, .callF 178 [(tm 88), (.const (.int .i64 7))], [10, 5], false⟩,
  ⟨15, (some 91), none, .callF 178 [(tm 90), (.const (.int .i64 18))], [10, 5], false⟩,
  sm 16 92 (.bin .xor 25 (tm 89) (tm 91)),
  sm 19 95 (.bin .xor 25 (tm 92) (tm 94)),
  sm 20 96 (.bin .add 25 (tm 87) (tm 95)),
  ⟨22, (some 98), none, .callF 178 [(tm 97), (.const (.int .i64 17))], [10, 5], false⟩,
  ⟨24, (some 100), none, .callF 178 [(tm 99), (.const (.int .i64 19))], [10, 5], false⟩,
  sm 25 101 (.bin .xor 25 (tm 98) (tm 100)),
  sm 28 104 (.bin .xor 25 (tm 101) (tm 103)),
  sm 29 105 (.bin .add 25 (tm 96) (tm 104)),
  sm 30 106 (.bsl 1 [.int .u32 0] 1 [(0, (tm 105))]),
  sm 31 107 (.app 1 4 (tm 76) (tm 106)),
  sv 32 5 107])))
  (.reg [sv 0 64 7,
  sm 1 65 (.bin .add 3 (tm 64) (.const (.int .i64 1))),
  sv 2 7 65])))
def l139_2 : Cd := (.seq (.seq (.reg [sv 0 110 12,
  sm 1 111 (.bin .lss 3 (tm 110) (.const (.int .i64 64)))])
  (.cond (tm 111) .skip (.exit 4)))
  (.seq (.block 5 (.seq (.reg [sm 0 114 (.ia (.arr 8 1) (tm 11) (.const (.int .i64 0))),
  sm 1 115 (.ld1 (tm 114)),
  sm 2 116 (.ia (.arr 8 1) (tm 11) (.const (.int .i64 1))),
  sm 3 117 (.ld1 (tm 116)),
  sm 4 118 (.ia (.arr 8 1) (tm 11) (.const (.int .i64 2))),
  sm 5 119 (.ld1 (tm 118)),
  sm 6 120 (.ia (.arr 8 1) (tm 11) (.const (.int .i64 4))),
  sm 7 121 (.ld1 (tm 120)),
  sm 8 122 (.ia (.arr 8 1) (tm 11) (.const (.int .i64 5))),
  sm 9 123 (.ld1 (tm 122)),
  sm 10 124 (.ia (.arr 8 1) (tm 11) (.const (.int .i64 6))),
  sm 11 125 (.ld1 (tm 124)),
  sv 12 13 115,
  sv 13 14 117,
  sv 14 15 119,
  sv 15 16 121,
  sv 16 17 123,
  sv 17 18 125])
  (.seq (.dreg [sm 0 126 (.ia (.arr 8 1) (tm 11) (.const (.int .i64 7))),
  ⟨1, (some 127), none, .mo (.ld1 (tm 126)), [], true⟩,
  sv 2 128 16,
  sv 4 130 16,
  sv 7 133 16,
  sv 11 137 16,
  sv 12 138 17,
  sm 13 139 (.bin .and 25 (tm 137) (tm 138)),
  sv 14 140 16,
  sm 15 141 (.un .xor (tm 140)),
  sv 16 142 18,
  sm 17 143 (.bin .and 25 (tm 141) (tm 142)),
  sm 18 144 (.bin .xor 25 (tm 139) (tm 143)),
  sv 20 146 10,
  sv 21 147 12,
  sm 22 148 (.ia (.sl 1) (tm 146) (tm 147)),
  ⟨23, (some 149), none, .mo (.ld1 (tm 148)), [], true⟩,
  sv 25 151 5,
  sv 26 152 12,
  sm 27 153 (.ia (.sl 1) (tm 151) (tm 152)),
  ⟨28, (some 154), none, .mo (.ld1 (tm 153)), [], true⟩,
  ⟨3, (some 129), none, .callF 178 [(tm 128), (.const (.int .i64 6))], [28, 23, 1], false⟩,
  ⟨5, (some 131), none, .callF 178 [(tm 130), (.const (.int .i64 11))], [28, 23, 1], false⟩,
  sm 6 132 (.bin .xor 25 (tm 129) (tm 131)),
  ⟨8, (some 134), none, .callF 178 [(tm 133), (.const (.int .i64 25))], [28, 23, 1], false⟩,
  sm 9 135 (.bin .xor 25 (tm 132) (tm 134)),
  sm 10 136 (.bin .add 25 (tm 127) (tm 135)),
  sm 19 145 (.bin .add 25 (tm 136) (tm 144)),
  sm 24 150 (.bin .add 25 (tm 145) (tm 149)),
  sm 29 155 (.bin .add 25 (tm 150) (tm 154)),
  sv 30 19 155])
  (.seq (.reg [sv 0 156 13,
  sc 1 157 178 [(tm 156), (.const (.int .i64 2))],
  sv 2 158 13,
  sc 3 159 178 [(tm 158), (.const (.int .i64 13))],
  sm 4 160 (.bin .xor 25 (tm 157) (tm 159)),
  sv 5 161 13,
  sc 6 162 178 [(tm 161), (.const (.int .i64 22))],
  sm 7 163 (.bin .xor 25 (tm 160) (tm 162)),
  sv 8 164 13,
  sv 9 165 14,
  sm 10 166 (.bin .and 25 (tm 164) (tm 165)),
  sv 11 167 13,
  sv 12 168 15,
  sm 13 169 (.bin .and 25 (tm 167) (tm 168)),
  sm 14 170 (.bin .xor 25 (tm 166) (tm 169)),
  sv 15 171 14,
  sv 16 172 15,
  sm 17 173 (.bin .and 25 (tm 171) (tm 172)),
  sm 18 174 (.bin .xor 25 (tm 170) (tm 173)),
  sm 19 175 (.bin .add 25 (tm 163) (tm 174)),
  sv 20 20 175])
  (.reg [sv 0 176 19,
  sv 1 177 20,
  sm 2 178 (.bin .add 25 (tm 176) (tm 177)),
  sv 3 179 13,
  sv 4 180 14,
  sv 5 181 15,
  sm 6 182 (.ia (.arr 8 1) (tm 11) (.const (.int .i64 3))),
  sm 7 183 (.ld1 (tm 182)),
  sv 8 184 19,
  sm 9 185 (.bin .add 25 (tm 183) (tm 184)),
  sv 10 186 16,
  sv 11 187 17,
  sv 12 188 18,
  sm 13 189 (.bld [.int .u32 0, .int .u32 0, .int .u32 0, .int .u32 0, .int .u32 0, .int .u32 0, .int .u32 0, .int .u32 0] [(0, 1, (tm 178)), (1, 1, (tm 179)), (2, 1, (tm 180)), (3, 1, (tm 181)), (4, 1, (tm 185)), (5, 1, (tm 186)), (6, 1, (tm 187)), (7, 1, (tm 188))]),
  se 14 (.st 8 (tm 11) (tm 189))])))))
  (.reg [sv 0 112 12,
  sm 1 113 (.bin .add 3 (tm 112) (.const (.int .i64 1))),
  sv 2 12 113])))
def l139_3 : Cd := (.seq (.seq (.reg [sv 0 190 21,
  sm 1 191 (.bin .lss 3 (tm 190) (.const (.int .i64 8)))])
  (.cond (tm 191) .skip (.exit 6)))
  (.seq (.block 7 (.reg [sv 0 194 21,
  sm 1 195 (.ia (.arr 8 1) (tm 2) (tm 194)),
  sm 2 196 (.ld1 (tm 195)),
  sv 3 197 21,
  sm 4 198 (.ia (.arr 8 1) (tm 11) (tm 197)),
  sm 5 199 (.ld1 (tm 198)),
  sm 6 200 (.bin .add 25 (tm 196) (tm 199)),
  sm 7 201 (.ia (.arr 8 1) (tm 2) (tm 194)),
  se 8 (.st 1 (tm 201) (tm 200))]))
  (.reg [sv 0 192 21,
  sm 1 193 (.bin .add 3 (tm 192) (.const (.int .i64 1))),
  sv 2 21 193])))
def c139 : Cd := (.seq (.reg [sm 0 2 (.box (tm 0)),
  sm 1 4 (.alloc [.int .u32 0, .int .u32 0, .int .u32 0, .int .u32 0, .int .u32 0, .int .u32 0, .int .u32 0, .int .u32 0])])
  (.seq (.reg [sm 0 5 (.mv (.const (.slice none 0 0)))])
  (.seq (.seq (.reg [sm 0 6 (.mv (.const (.int .i64 0)))])
  (.block 0 (.loop l139_0)))
  (.seq (.seq (.reg [sm 0 7 (.mv (.const (.int .i64 16)))])
  (.block 2 (.loop l139_1)))
  (.seq (.reg [sc 0 108 179 [],
  sv 1 10 108])
  (.seq (.reg [sm 0 109 (.ldA 8 (tm 2)),
  sm 1 11 (.alloc [.int .u32 0, .int .u32 0, .int .u32 0, .int .u32 0, .int .u32 0, .int .u32 0, .int .u32 0, .int .u32 0]),
  se 2 (.st 8 (tm 11) (tm 109))])
  (.seq (.seq (.reg [sm 0 12 (.mv (.const (.int .i64 0)))])
  (.block 4 (.loop l139_2)))
  (.seq (.seq (.reg [sm 0 21 (.mv (.const (.int .i64 0)))])
  (.block 6 (.loop l139_3)))
  (.seq (.reg [sm 0 202 (.ldA 8 (tm 2)),
  se 1 (.st 8 (tm 4) (tm 202))])
  .ret)))))))))
def r139 : List Mo := [.ldA 8 (tm 4)]
theorem c139_eq : compF Tryz.prog 139 = some c139 := by kernel_rfl
theorem r139_eq : compRs Tryz.prog 139 = some r139 := by kernel_rfl
def l140_0 : Cd := (.seq (.seq (.reg [sv 0 9 4,
  sv 1 10 0,
  sm 2 11 (.len (.sl 32) (tm 10)),
  sm 3 12 (.bin .lss 3 (tm 9) (tm 11))])
  (.cond (tm 12) .skip (.exit 0)))
  (.seq (.block 1 (.reg [sv 0 15 3,
  sv 1 16 0,
  sv 2 17 4,
  sm 3 18 (.ia (.sl 32) (tm 16) (tm 17)),
  sm 4 19 (.slice (.arr 32 1) (tm 18) none none none),
  sm 5 20 (.app 1 1 (tm 15) (tm 19)),
  sv 6 3 20]))
  (.reg [sv 0 13 4,
  sm 1 14 (.bin .add 3 (tm 13) (.const (.int .i64 1))),
  sv 2 4 14])))
def c140 : Cd := (.seq (.reg [sm 0 2 (.mv (.const (.slice none 0 0)))])
  (.seq (.reg [sv 0 5 0,
  sm 1 6 (.len (.sl 32) (tm 5)),
  sm 2 7 (.cint .u64 (tm 6)),
  sc 3 8 102 [(tm 7)],
  sv 4 3 8])
  (.seq (.seq (.reg [sm 0 4 (.mv (.const (.int .i64 0)))])
  (.block 0 (.loop l140_0)))
  (.seq (.reg [sv 0 21 3,
  sv 1 2 21])
  .ret))))
def r140 : List Mo := [.mv (tm 2)]
theorem c140_eq : compF Tryz.prog 140 = some c140 := by kernel_rfl
theorem r140_eq : compRs Tryz.prog 140 = some r140 := by kernel_rfl
def c141 : Cd := (.seq (.reg [sm 0 2 (.mv (.const (.slice none 0 0)))])
  (.seq (.reg [sv 0 3 0,
  sm 1 4 (.len (.sl 1) (tm 3)),
  sm 2 5 (.cint .u64 (tm 4)),
  sc 3 6 102 [(tm 5)],
  sv 4 7 0,
  sm 5 8 (.app 1 1 (tm 6) (tm 7)),
  sv 6 2 8])
  .ret))
def r141 : List Mo := [.mv (tm 2)]
theorem c141_eq : compF Tryz.prog 141 = some c141 := by kernel_rfl
theorem r141_eq : compRs Tryz.prog 141 = some r141 := by kernel_rfl
def l142_0 : Cd := (.seq (.seq (.reg [sv 0 19 4,
  sm 1 20 (.bin .geq 3 (tm 19) (.const (.int .i64 0)))])
  (.cond (tm 20) .skip (.exit 1)))
  (.seq (.block 2 (.reg [sv 0 23 3,
  sm 1 24 (.fa 2 (tm 1)),
  sm 2 25 (.ld1 (tm 24)),
  sv 3 26 4,
  sm 4 27 (.bin .mul 3 (.const (.int .i64 8)) (tm 26)),
  sm 5 28 (.bin .shr 27 (tm 25) (tm 27)),
  sm 6 29 (.cint .u8 (tm 28)),
  sm 7 30 (.bsl 1 [.int .u8 0] 1 [(0, (tm 29))]),
  sm 8 31 (.app 1 1 (tm 23) (tm 30)),
  sv 9 3 31]))
  (.reg [sv 0 21 4,
  sm 1 22 (.bin .sub 3 (tm 21) (.const (.int .i64 1))),
  sv 2 4 22])))
def c142 : Cd := (.seq (.reg [sm 0 1 (.box (tm 0)),
  sm 1 2 (.mv (.const (.slice none 0 0)))])
  (.seq (.reg [sm 0 5 (.fa 0 (tm 1)),
  sm 1 6 (.ld1 (tm 5)),
  sm 2 7 (.bsl 1 [.int .u8 0] 1 [(0, (tm 6))]),
  sv 3 3 7])
  (.seq (.seq (.reg [sm 0 8 (.fa 0 (tm 1)),
  sm 1 9 (.ld1 (tm 8))])
  (.block 0 (.seq (.reg [sm 0 11 (.bin .eql 5 (tm 9) (.const (.int .u8 1))),
  sv 1 10 11])
  (.cond (tm 10) (.seq (.reg [sv 0 12 3,
  sm 1 13 (.fa 1 (tm 1)),
  sm 2 14 (.ld1 (tm 13)),
  sc 3 15 180 [(tm 14)],
  sm 4 16 (.app 1 1 (tm 12) (tm 15)),
  sv 5 2 16])
  .ret) (.seq (.reg [sm 0 18 (.bin .eql 5 (tm 9) (.const (.int .u8 2))),
  sv 1 17 18])
  (.cond (tm 17) (.seq (.seq (.reg [sm 0 4 (.mv (.const (.int .i64 7)))])
  (.block 1 (.loop l142_0)))
  (.seq (.reg [sv 0 32 3,
  sv 1 2 32])
  .ret)) .skip))))))
  (.seq (.reg [sv 0 33 3,
  sm 1 34 (.fa 3 (tm 1)),
  sm 2 35 (.ld1 (tm 34)),
  sm 3 36 (.csb (tm 35)),
  sc 4 37 141 [(tm 36)],
  sm 5 38 (.app 1 1 (tm 33) (tm 37)),
  sv 6 2 38])
  .ret))))
def r142 : List Mo := [.mv (tm 2)]
theorem c142_eq : compF Tryz.prog 142 = some c142 := by kernel_rfl
theorem r142_eq : compRs Tryz.prog 142 = some r142 := by kernel_rfl
def c143 : Cd := (.seq (.reg [sm 0 2 (.mv (.const (.int .u32 0)))])
  (.seq (.reg [sv 0 3 0,
  sc 1 4 175 [(.const (.int .u32 4)), (tm 3)],
  sv 2 2 4])
  .ret))
def r143 : List Mo := [.mv (tm 2)]
theorem c143_eq : compF Tryz.prog 143 = some c143 := by kernel_rfl
theorem r143_eq : compRs Tryz.prog 143 = some r143 := by kernel_rfl
def c144 : Cd := (.seq (.reg [sm 0 4 (.mv (.const (.int .u32 0)))])
  (.seq (.reg [sm 0 6 (.bsl 1 [.int .u8 0] 1 [(0, (.const (.int .u8 110)))]),
  sv 1 7 0,
  sc 2 8 181 [(tm 7)],
  sm 3 9 (.app 1 1 (tm 6) (tm 8)),
  sv 4 5 9])
  (.seq (.reg [sv 0 10 5,
  sv 1 11 1,
  sm 2 12 (.app 1 1 (tm 10) (tm 11)),
  sc 3 13 182 [(tm 12)],
  sm 4 14 (.bin .rem 27 (tm 13) (.const (.int .u64 500000002))),
  sm 5 15 (.cint .u32 (tm 14)),
  sm 6 16 (.bin .add 25 (tm 15) (.const (.int .u32 1))),
  sv 7 4 16])
  .ret)))
def r144 : List Mo := [.mv (tm 4)]
theorem c144_eq : compF Tryz.prog 144 = some c144 := by kernel_rfl
theorem r144_eq : compRs Tryz.prog 144 = some r144 := by kernel_rfl
def c145 : Cd := (.seq (.reg [sm 0 6 (.mv (.const (.int .u32 0)))])
  (.seq (.reg [sm 0 8 (.bsl 1 [.int .u8 0] 1 [(0, (.const (.int .u8 99)))]),
  sv 1 9 0,
  sc 2 10 181 [(tm 9)],
  sm 3 11 (.app 1 1 (tm 8) (tm 10)),
  sv 4 12 1,
  sc 5 13 181 [(tm 12)],
  sm 6 14 (.app 1 1 (tm 11) (tm 13)),
  sv 7 7 14])
  (.seq (.reg [sv 0 15 7,
  sv 1 16 2,
  sm 2 17 (.app 1 1 (tm 15) (tm 16)),
  sc 3 18 182 [(tm 17)],
  sm 4 19 (.bin .rem 27 (tm 18) (.const (.int .u64 500000003))),
  sm 5 20 (.cint .u32 (tm 19)),
  sv 6 6 20])
  .ret)))
def r145 : List Mo := [.mv (tm 6)]
theorem c145_eq : compF Tryz.prog 145 = some c145 := by kernel_rfl
theorem r145_eq : compRs Tryz.prog 145 = some r145 := by kernel_rfl
def c146 : Cd := (.seq (.reg [sm 0 4 (.mv (.const (.int .u32 0)))])
  (.seq (.reg [sv 0 5 0,
  sm 1 6 (.cint .u64 (tm 5)),
  sv 2 7 1,
  sm 3 8 (.cint .u64 (tm 7)),
  sm 4 9 (.bin .add 27 (tm 6) (tm 8)),
  sm 5 10 (.bin .rem 27 (tm 9) (.const (.int .u64 500000003))),
  sm 6 11 (.cint .u32 (tm 10)),
  sv 7 4 11])
  .ret))
def r146 : List Mo := [.mv (tm 4)]
theorem c146_eq : compF Tryz.prog 146 = some c146 := by kernel_rfl
theorem r146_eq : compRs Tryz.prog 146 = some r146 := by kernel_rfl
def c147 : Cd := (.seq (.reg [sm 0 4 (.mv (.const (.int .u32 0)))])
  (.seq (.reg [sv 0 5 0,
  sm 1 6 (.cint .u64 (tm 5)),
  sv 2 7 1,
  sm 3 8 (.cint .u64 (tm 7)),
  sm 4 9 (.bin .mul 27 (tm 6) (tm 8)),
  sm 5 10 (.bin .rem 27 (tm 9) (.const (.int .u64 500000003))),
  sm 6 11 (.cint .u32 (tm 10)),
  sv 7 4 11])
  .ret))
def r147 : List Mo := [.mv (tm 4)]
theorem c147_eq : compF Tryz.prog 147 = some c147 := by kernel_rfl
theorem r147_eq : compRs Tryz.prog 147 = some r147 := by kernel_rfl
def l148_0 : Cd := (.seq (.seq (.reg [sv 0 9 5,
  sm 1 10 (.bin .gtr 3 (tm 9) (.const (.int .i64 0)))])
  (.cond (tm 10) .skip (.exit 0)))
  (.seq (.block 1 (.seq (.reg [sv 0 13 1,
  sv 1 14 0,
  sv 2 15 5,
  sm 3 16 (.ia (.sl 32) (tm 14) (tm 15)),
  sm 4 17 (.ldA 32 (tm 16)),
  sv 5 18 0,
  sv 6 19 5,
  sm 7 20 (.bin .sub 3 (tm 19) (.const (.int .i64 1))),
  sm 8 21 (.ia (.sl 32) (tm 18) (tm 20)),
  sm 9 22 (.ldA 32 (tm 21)),
  ⟨10, (some 23), none, .callV (tm 13) [(tm 17), (tm 22)], [], false⟩,
  sm 11 24 (.bin .lss 3 (tm 23) (.const (.int .i64 0)))])
  (.cond (tm 24) (.seq (.reg [sm 0 4 (.mv (.const (.bool false)))])
  .ret) .skip)))
  (.reg [sv 0 11 5,
  sm 1 12 (.bin .sub 3 (tm 11) (.const (.int .i64 1))),
  sv 2 5 12])))
def c148 : Cd := (.seq (.reg [sm 0 4 (.mv (.const (.bool false)))])
  (.seq (.seq (.reg [sv 0 6 0,
  sm 1 7 (.len (.sl 32) (tm 6)),
  sm 2 8 (.bin .sub 3 (tm 7) (.const (.int .i64 1))),
  sv 3 5 8])
  (.block 0 (.loop l148_0)))
  (.seq (.reg [sm 0 4 (.mv (.const (.bool true)))])
  .ret)))
def r148 : List Mo := [.mv (tm 4)]
theorem c148_eq : compF Tryz.prog 148 = some c148 := by kernel_rfl
theorem r148_eq : compRs Tryz.prog 148 = some r148 := by kernel_rfl
def l149_0 : Cd := (.seq (.seq (.reg [sv 0 29 5,
  sv 1 30 4,
  sm 2 31 (.len (.sl 32) (tm 30)),
  sm 3 32 (.bin .lss 3 (tm 29) (tm 31))])
  (.cond (tm 32) .skip (.exit 2)))
  (.seq (.block 3 (.seq (.reg [sv 0 35 4,
  sv 1 36 5,
  sm 2 37 (.ia (.sl 32) (tm 35) (tm 36)),
  sm 3 38 (.ldA 32 (tm 37)),
  sv 4 39 4,
  sv 5 40 5,
  sm 6 41 (.bin .sub 3 (tm 40) (.const (.int .i64 1))),
  sm 7 42 (.ia (.sl 32) (tm 39) (tm 41)),
  sm 8 43 (.ldA 32 (tm 42)),
  sm 9 44 (.bin .neq 71 (tm 38) (tm 43))])
  (.cond (tm 44) (.seq (.reg [sv 0 45 0,
  sv 1 46 3,
  sv 2 47 4,
  sv 3 48 5,
  sm 4 49 (.ia (.sl 32) (tm 47) (tm 48)),
  sm 5 50 (.ldA 32 (tm 49)),
  sm 6 51 (.ia (.sl 32) (tm 45) (tm 46)),
  se 7 (.st 32 (tm 51) (tm 50))])
  (.reg [sv 0 52 3,
  sm 1 53 (.bin .add 3 (tm 52) (.const (.int .i64 1))),
  sv 2 3 53])) .skip)))
  (.reg [sv 0 33 5,
  sm 1 34 (.bin .add 3 (tm 33) (.const (.int .i64 1))),
  sv 2 5 34])))
def l149_1 : Cd := (.seq (.seq (.reg [sv 0 10 3,
  sv 1 11 0,
  sm 2 12 (.len (.sl 32) (tm 11)),
  sm 3 13 (.bin .lss 3 (tm 10) (tm 12))])
  (.cond (tm 13) .skip (.exit 0)))
  (.seq (.block 1 (.seq (.reg [sv 0 16 0,
  sv 1 17 3,
  sm 2 18 (.ia (.sl 32) (tm 16) (tm 17)),
  sm 3 19 (.ldA 32 (tm 18)),
  sv 4 20 0,
  sv 5 21 3,
  sm 6 22 (.bin .sub 3 (tm 21) (.const (.int .i64 1))),
  sm 7 23 (.ia (.sl 32) (tm 20) (tm 22)),
  sm 8 24 (.ldA 32 (tm 23)),
  sm 9 25 (.bin .eql 71 (tm 19) (tm 24))])
  (.cond (tm 25) (.seq (.reg [sv 0 26 0,
  sv 1 27 3,
  sm 2 28 (.slice (.sl 32) (tm 26) (some (tm 27)) none none),
  sv 3 4 28])
  (.seq (.seq (.reg [sm 0 5 (.mv (.const (.int .i64 1)))])
  (.block 2 (.loop l149_0)))
  (.seq (.reg [sv 0 54 0,
  sv 1 55 3,
  sm 2 56 (.slice (.sl 32) (tm 54) (some (tm 55)) none none),
  se 3 (.clr (rep 32 (.int .u8 0)) (tm 56))])
  (.seq (.reg [sv 0 57 0,
  sv 1 58 3,
  sm 2 59 (.slice (.sl 32) (tm 57) none (some (tm 58)) none),
  sv 3 2 59])
  .ret)))) .skip)))
  (.reg [sv 0 14 3,
  sm 1 15 (.bin .add 3 (tm 14) (.const (.int .i64 1))),
  sv 2 3 15])))
def c149 : Cd := (.seq (.reg [sm 0 2 (.mv (.const (.slice none 0 0)))])
  (.seq (.seq (.reg [sv 0 6 0,
  sm 1 7 (.len (.sl 32) (tm 6)),
  sm 2 8 (.bin .lss 3 (tm 7) (.const (.int .i64 2)))])
  (.cond (tm 8) (.seq (.reg [sv 0 9 0,
  sv 1 2 9])
  .ret) .skip))
  (.seq (.seq (.reg [sm 0 3 (.mv (.const (.int .i64 1)))])
  (.block 0 (.loop l149_1)))
  (.seq (.reg [sv 0 60 0,
  sv 1 2 60])
  .ret))))
def r149 : List Mo := [.mv (tm 2)]
theorem c149_eq : compF Tryz.prog 149 = some c149 := by kernel_rfl
theorem r149_eq : compRs Tryz.prog 149 = some r149 := by kernel_rfl
def c150 : Cd := (.seq (.reg [sm 0 2 (.mv (.const (.slice none 0 0)))])
  (.seq (.seq (.reg [sv 0 3 0,
  sm 1 4 (.bin .eql 26 (tm 3) (.const (.slice none 0 0)))])
  (.cond (tm 4) (.seq (.reg [sm 0 2 (.mv (.const (.slice none 0 0)))])
  .ret) .skip))
  (.seq (.reg [sm 0 5 (.bsl 32 (rep 32 (.int .u8 0)) 0 []),
  sv 1 6 0,
  sm 2 7 (.app 32 32 (tm 5) (tm 6)),
  sv 3 2 7])
  .ret)))
def r150 : List Mo := [.mv (tm 2)]
theorem c150_eq : compF Tryz.prog 150 = some c150 := by kernel_rfl
theorem r150_eq : compRs Tryz.prog 150 = some r150 := by kernel_rfl
def c151 : Cd := (.seq (.reg [sm 0 2 (.mv (.const (.bool false)))])
  (.seq (.reg [sv 0 3 0,
  sm 1 4 (.bin .gtr 25 (tm 3) (.const (.int .u32 0))),
  sv 2 5 4,
  sg 3 6 5 true (.mv (tm 0)),
  sg 4 7 5 true (.bin .lss 25 (tm 6) (.const (.int .u32 1000000007))),
  sm 5 8 (.pick (tm 5) (tm 7) (.const (.bool false))),
  sv 6 9 8,
  sg 7 10 9 true (.mv (tm 0)),
  ⟨8, (some 11), (some ((some 9), true)), .callF 183 [(tm 10), (.const (.int .u64 500000003))], [], false⟩,
  sg 9 12 9 true (.bin .eql 25 (tm 11) (.const (.int .u32 1))),
  sm 10 13 (.pick (tm 9) (tm 12) (.const (.bool false))),
  sv 11 2 13])
  .ret))
def r151 : List Mo := [.mv (tm 2)]
theorem c151_eq : compF Tryz.prog 151 = some c151 := by kernel_rfl
theorem r151_eq : compRs Tryz.prog 151 = some r151 := by kernel_rfl
def l152_0 : Cd := (.seq (.reg [sm 0 20 (.bin .lss 3 (tm 19) (tm 18))])
  (.seq (.cond (tm 20) .skip (.exit 0))
  (.seq (.block 1 (.seq (.reg [sm 0 21 (.ia (.sl 32) (tm 17) (tm 19)),
  sm 1 22 (.ldA 32 (tm 21)),
  sm 2 6 (.alloc (rep 32 (.int .u8 0))),
  se 3 (.st 32 (tm 6) (tm 22))])
  (.reg [sv 0 23 4,
  sm 1 24 (.slice (.arr 32 1) (tm 6) none none none),
  sm 2 25 (.app 1 1 (tm 23) (tm 24)),
  sv 3 4 25])))
  (.reg [sm 0 26 (.bin .add 3 (tm 19) (.const (.int .i64 1))),
  sv 1 19 26]))))
def c152 : Cd := (.seq (.reg [sm 0 2 (.mv (.const (.slice none 0 0))),
  sm 1 3 (.mv (.const (.int .i64 0)))])
  (.seq (.seq (.reg [sv 0 7 0,
  sm 1 8 (.len (.sl 32) (tm 7)),
  sm 2 9 (.bin .gtr 3 (tm 8) (.const (.int .i64 60)))])
  (.cond (tm 9) (.seq (.reg [sm 0 2 (.mv (.const (.slice none 0 0))),
  sm 1 3 (.mv (.const (.int .i64 4)))])
  .ret) .skip))
  (.seq (.seq (.reg [sv 0 10 0,
  sc 1 11 184 [(tm 10)],
  sm 2 12 (.un .not (tm 11))])
  (.cond (tm 12) (.seq (.reg [sm 0 2 (.mv (.const (.slice none 0 0))),
  sm 1 3 (.mv (.const (.int .i64 32)))])
  .ret) .skip))
  (.seq (.reg [sv 0 13 0,
  sm 1 14 (.len (.sl 32) (tm 13)),
  sm 2 15 (.cint .u64 (tm 14)),
  sc 3 16 110 [(tm 15)],
  sv 4 4 16])
  (.seq (.seq (.reg [sv 0 17 0,
  sm 1 18 (.len (.sl 32) (tm 17)),
  sm 2 19 (.mv (.const (.int .i64 0)))])
  (.block 0 (.loop l152_0)))
  (.seq (.reg [sv 0 27 4,
  sv 1 2 27,
  sm 2 3 (.mv (.const (.int .i64 0)))])
  .ret))))))
def r152 : List Mo := [.mv (tm 2), .mv (tm 3)]
theorem c152_eq : compF Tryz.prog 152 = some c152 := by kernel_rfl
theorem r152_eq : compRs Tryz.prog 152 = some r152 := by kernel_rfl
def c153 : Cd := (.seq (.reg [sm 0 2 (.mv (.const (.slice none 0 0))),
  sm 1 3 (.mv (.const (.int .i64 0)))])
  (.seq (.seq (.reg [sv 0 4 0,
  sm 1 5 (.len (.sl 1) (tm 4)),
  sm 2 6 (.bin .gtr 3 (tm 5) (.const (.int .i64 10000)))])
  (.cond (tm 6) (.seq (.reg [sm 0 2 (.mv (.const (.slice none 0 0))),
  sm 1 3 (.mv (.const (.int .i64 4)))])
  .ret) .skip))
  (.seq (.reg [sv 0 7 0,
  sm 1 8 (.len (.sl 1) (tm 7)),
  sm 2 9 (.cint .u64 (tm 8)),
  sc 3 10 110 [(tm 9)],
  sv 4 11 0,
  sm 5 12 (.app 1 1 (tm 10) (tm 11)),
  sv 6 2 12,
  sm 7 3 (.mv (.const (.int .i64 0)))])
  .ret)))
def r153 : List Mo := [.mv (tm 2), .mv (tm 3)]
theorem c153_eq : compF Tryz.prog 153 = some c153 := by kernel_rfl
theorem r153_eq : compRs Tryz.prog 153 = some r153 := by kernel_rfl
def l154_0 : Cd := (.seq (.seq (.reg [sv 0 28 6,
  sm 1 29 (.bin .geq 3 (tm 28) (.const (.int .i64 0)))])
  (.cond (tm 29) .skip (.exit 1)))
  (.seq (.block 2 (.reg [sv 0 32 5,
  sm 1 33 (.fa 2 (tm 1)),
  sm 2 34 (.ld1 (tm 33)),
  sv 3 35 6,
  sm 4 36 (.bin .shr 27 (tm 34) (tm 35)),
  sm 5 37 (.cint .u8 (tm 36)),
  sm 6 38 (.bsl 1 [.int .u8 0] 1 [(0, (tm 37))]),
  sm 7 39 (.app 1 1 (tm 32) (tm 38)),
  sv 8 5 39]))
  (.reg [sv 0 30 6,
  sm 1 31 (.bin .sub 3 (tm 30) (.const (.int .i64 8))),
  sv 2 6 31])))
def c154 : Cd := (.seq (.reg [sm 0 1 (.box (tm 0)),
  sm 1 2 (.mv (.const (.slice none 0 0))),
  sm 2 3 (.mv (.const (.int .i64 0)))])
  (.seq (.seq (.reg [sm 0 9 (.ldA 4 (tm 1)),
  sc 1 10 83 [(tm 9)],
  sv 2 4 10])
  (.seq (.reg [sv 0 11 4,
  sm 1 12 (.bin .neq 38 (tm 11) (.const (.int .i64 0)))])
  (.cond (tm 12) (.seq (.reg [sv 0 13 4,
  sm 1 2 (.mv (.const (.slice none 0 0))),
  sv 2 3 13])
  .ret) .skip)))
  (.seq (.reg [sm 0 14 (.fa 0 (tm 1)),
  sm 1 15 (.ld1 (tm 14)),
  sm 2 16 (.bsl 1 [.int .u8 0] 1 [(0, (tm 15))]),
  sv 3 5 16])
  (.seq (.seq (.reg [sm 0 17 (.fa 0 (tm 1)),
  sm 1 18 (.ld1 (tm 17))])
  (.block 0 (.seq (.reg [sm 0 20 (.bin .eql 5 (tm 18) (.const (.int .u8 1))),
  sv 1 19 20])
  (.cond (tm 19) (.reg [sv 0 21 5,
  sm 1 22 (.fa 1 (tm 1)),
  sm 2 23 (.ld1 (tm 22)),
  sc 3 24 185 [(tm 23)],
  sm 4 25 (.app 1 1 (tm 21) (tm 24)),
  sv 5 5 25]) (.seq (.reg [sm 0 27 (.bin .eql 5 (tm 18) (.const (.int .u8 2))),
  sv 1 26 27])
  (.cond (tm 26) (.seq (.reg [sm 0 6 (.mv (.const (.int .i64 56)))])
  (.block 1 (.loop l154_0))) (.seq (.reg [sm 0 41 (.bin .eql 5 (tm 18) (.const (.int .u8 3))),
  sv 1 40 41])
  (.cond (tm 40) (.seq (.reg [sm 0 43 (.fa 3 (tm 1)),
  sm 1 44 (.ld1 (tm 43)),
  sm 2 45 (.csb (tm 44)),
  sc 3 46 153 [(tm 45)],
  sv 4 42 46,
  sm 5 47 (.ext (tm 42) 0),
  sm 6 48 (.ext (tm 42) 1),
  sv 7 7 47,
  sv 8 8 48])
  (.reg [sv 0 49 5,
  sv 1 50 7,
  sm 2 51 (.app 1 1 (tm 49) (tm 50)),
  sv 3 5 51])) .skip))))))))
  (.seq (.reg [sv 0 52 5,
  sv 1 2 52,
  sm 2 3 (.mv (.const (.int .i64 0)))])
  .ret)))))
def r154 : List Mo := [.mv (tm 2), .mv (tm 3)]
theorem c154_eq : compF Tryz.prog 154 = some c154 := by kernel_rfl
theorem r154_eq : compRs Tryz.prog 154 = some r154 := by kernel_rfl
def c155 : Cd := (.seq (.reg [sm 0 4 (.mv (.const (.slice none 0 0)))])
  (.seq (.seq (.reg [sv 0 5 1,
  sm 1 6 (.bin .lss 3 (tm 5) (.const (.int .i64 0)))])
  (.cond (tm 6) (.reg [sm 0 7 (.mkI 9 (.const (.string ⟨#[99, 97, 110, 110, 111, 116, 32, 98, 101, 32, 110, 101, 103, 97, 116, 105, 118, 101]⟩))),
  se 1 (.stop)]) .skip))
  (.seq (.seq (.reg [sv 0 8 1,
  sv 1 9 0,
  sm 2 10 (.cap (.sl 1) (tm 9)),
  sv 3 11 0,
  sm 4 12 (.len (.sl 1) (tm 11)),
  sm 5 13 (.bin .sub 3 (tm 10) (tm 12)),
  sm 6 14 (.bin .sub 3 (tm 8) (tm 13)),
  sv 7 1 14])
  (.seq (.reg [sv 0 15 1,
  sm 1 16 (.bin .gtr 3 (tm 15) (.const (.int .i64 0)))])
  (.cond (tm 16) (.reg [sv 0 17 0,
  sv 1 18 0,
  sm 2 19 (.cap (.sl 1) (tm 18)),
  sm 3 20 (.slice (.sl 1) (tm 17) none (some (tm 19)) none),
  sv 4 21 1,
  sm 5 22 (.appZ 1 1 [.int .u8 0] (tm 20) (tm 21)),
  sv 6 23 0,
  sm 7 24 (.len (.sl 1) (tm 23)),
  sm 8 25 (.slice (.sl 1) (tm 22) none (some (tm 24)) none),
  sv 9 0 25]) .skip)))
  (.seq (.reg [sv 0 26 0,
  sv 1 4 26])
  .ret))))
def r155 : List Mo := [.mv (tm 4)]
theorem c155_eq : compF Tryz.prog 155 = some c155 := by kernel_rfl
theorem r155_eq : compRs Tryz.prog 155 = some r155 := by kernel_rfl
def c156 : Cd := (.seq (.reg [sm 0 4 (.mv (.const (.bool false)))])
  (.seq (.reg [sv 0 5 0,
  sv 1 6 1,
  sc 2 7 186 [(tm 5), (tm 6)],
  sm 3 8 (.bin .geq 3 (tm 7) (.const (.int .i64 0))),
  sv 4 4 8])
  .ret))
def r156 : List Mo := [.mv (tm 4)]
theorem c156_eq : compF Tryz.prog 156 = some c156 := by kernel_rfl
theorem r156_eq : compRs Tryz.prog 156 = some r156 := by kernel_rfl
def c157 : Cd := (.seq (.reg [sm 0 2 (.mv (.const (.bool false)))])
  (.seq (.reg [sv 0 3 0,
  sm 1 4 (.len (.sl 1) (tm 3)),
  sm 2 5 (.bin .gtr 3 (tm 4) (.const (.int .i64 10000))),
  sv 3 2 5])
  .ret))
def r157 : List Mo := [.mv (tm 2)]
theorem c157_eq : compF Tryz.prog 157 = some c157 := by kernel_rfl
theorem r157_eq : compRs Tryz.prog 157 = some r157 := by kernel_rfl
def c158 : Cd := (.seq (.reg [sm 0 0 (.alloc [.int .u32 0, .int .u32 0, .int .u32 0, .int .u32 0, .int .u32 0, .int .u32 0, .int .u32 0, .int .u32 0, .nilS, .int .i64 0])])
  (.seq (.reg [sm 0 1 (.bld [.int .u32 0, .int .u32 0, .int .u32 0, .int .u32 0, .int .u32 0, .int .u32 0, .int .u32 0, .int .u32 0] [(0, 1, (.const (.int .u32 1779033703))), (1, 1, (.const (.int .u32 3144134277))), (2, 1, (.const (.int .u32 1013904242))), (3, 1, (.const (.int .u32 2773480762))), (4, 1, (.const (.int .u32 1359893119))), (5, 1, (.const (.int .u32 2600822924))), (6, 1, (.const (.int .u32 528734635))), (7, 1, (.const (.int .u32 1541459225)))]),
  sm 1 2 (.bld [.int .u32 0, .int .u32 0, .int .u32 0, .int .u32 0, .int .u32 0, .int .u32 0, .int .u32 0, .int .u32 0, .nilS, .int .i64 0] [(0, 8, (tm 1))]),
  se 2 (.st 10 (tm 0) (tm 2))])
  .ret))
def r158 : List Mo := [.ldA 10 (tm 0)]
theorem c158_eq : compF Tryz.prog 158 = some c158 := by kernel_rfl
theorem r158_eq : compRs Tryz.prog 158 = some r158 := by kernel_rfl
def l159_0 : Cd := (.seq (.seq (.reg [sv 0 11 5,
  sm 1 12 (.len (.sl 1) (tm 11)),
  sm 2 13 (.bin .geq 3 (tm 12) (.const (.int .i64 64)))])
  (.cond (tm 13) .skip (.exit 0)))
  (.block 1 (.seq (.reg [sm 0 14 (.fa 0 (tm 2)),
  sv 1 15 5,
  sc 2 16 187 [(tm 14), (tm 15)]])
  (.reg [sv 0 17 5,
  sm 1 18 (.slice (.sl 1) (tm 17) (some (.const (.int .i64 64))) none none),
  sv 2 5 18]))))
def c159 : Cd := (.seq (.reg [sm 0 2 (.box (tm 0)),
  sm 1 4 (.alloc [.int .u32 0, .int .u32 0, .int .u32 0, .int .u32 0, .int .u32 0, .int .u32 0, .int .u32 0, .int .u32 0, .nilS, .int .i64 0])])
  (.seq (.reg [sm 0 6 (.fa 8 (tm 2)),
  sm 1 7 (.ld1 (tm 6)),
  sv 2 8 1,
  sm 3 9 (.bsl 1 [.nilS] 2 [(0, (tm 7)), (1, (tm 8))]),
  sc 4 10 109 [(tm 9)],
  sv 5 5 10])
  (.seq (.block 0 (.loop l159_0))
  (.seq (.dreg [sm 0 19 (.fa 9 (tm 2)),
  ⟨1, (some 20), none, .mo (.ld1 (tm 19)), [], true⟩,
  sv 2 21 1,
  sm 3 22 (.len (.sl 1) (tm 21)),
  sm 4 23 (.bin .add 3 (tm 20) (tm 22)),
  sv 5 24 5,
  ⟨6, (some 25), none, .callF 188 [(tm 24)], [1], false⟩,
  sm 7 26 (.fa 9 (tm 2)),
  se 8 (.st 1 (tm 26) (tm 23)),
  sm 9 27 (.fa 8 (tm 2)),
  se 10 (.st 1 (tm 27) (tm 25))])
  (.seq (.reg [sm 0 28 (.ldA 10 (tm 2)),
  se 1 (.st 10 (tm 4) (tm 28))])
  .ret)))))
def r159 : List Mo := [.ldA 10 (tm 4)]
theorem c159_eq : compF Tryz.prog 159 = some c159 := by kernel_rfl
theorem r159_eq : compRs Tryz.prog 159 = some r159 := by kernel_rfl
def l160_0 : Cd := (.seq (.seq (.reg [sv 0 19 5,
  sm 1 20 (.bin .geq 3 (tm 19) (.const (.int .i64 0)))])
  (.cond (tm 20) .skip (.exit 0)))
  (.seq (.block 1 (.reg [sv 0 23 4,
  sv 1 24 3,
  sv 2 25 5,
  sm 3 26 (.bin .shr 27 (tm 24) (tm 25)),
  sm 4 27 (.cint .u8 (tm 26)),
  sm 5 28 (.bsl 1 [.int .u8 0] 1 [(0, (tm 27))]),
  sm 6 29 (.app 1 1 (tm 23) (tm 28)),
  sv 7 4 29]))
  (.reg [sv 0 21 5,
  sm 1 22 (.bin .sub 3 (tm 21) (.const (.int .i64 8))),
  sv 2 5 22])))
def l160_1 : Cd := (.seq (.reg [sm 0 35 (.bin .lss 3 (tm 34) (.const (.int .i64 8)))])
  (.seq (.cond (tm 35) .skip (.exit 2))
  (.seq (.block 3 (.seq (.reg [sv 0 36 34,
  sm 1 37 (.ix1 8 1 (tm 33) (tm 34)),
  sv 2 6 36,
  sv 3 7 37])
  (.reg [sv 0 38 6,
  sm 1 39 (.bin .mul 3 (.const (.int .i64 4)) (tm 38)),
  sv 2 40 6,
  sm 3 41 (.bin .mul 3 (.const (.int .i64 4)) (tm 40)),
  sm 4 42 (.bin .add 3 (tm 41) (.const (.int .i64 1))),
  sv 5 43 6,
  sm 6 44 (.bin .mul 3 (.const (.int .i64 4)) (tm 43)),
  sm 7 45 (.bin .add 3 (tm 44) (.const (.int .i64 2))),
  sv 8 46 6,
  sm 9 47 (.bin .mul 3 (.const (.int .i64 4)) (tm 46)),
  sm 10 48 (.bin .add 3 (tm 47) (.const (.int .i64 3))),
  sv 11 49 7,
  sm 12 50 (.bin .shr 25 (tm 49) (.const (.int .u64 24))),
  sm 13 51 (.cint .u8 (tm 50)),
  sv 14 52 7,
  sm 15 53 (.bin .shr 25 (tm 52) (.const (.int .u64 16))),
  sm 16 54 (.cint .u8 (tm 53)),
  sv 17 55 7,
  sm 18 56 (.bin .shr 25 (tm 55) (.const (.int .u64 8))),
  sm 19 57 (.cint .u8 (tm 56)),
  sv 20 58 7,
  sm 21 59 (.cint .u8 (tm 58)),
  sm 22 60 (.ia (.arr 32 1) (tm 2) (tm 39)),
  se 23 (.st 1 (tm 60) (tm 51)),
  sm 24 61 (.ia (.arr 32 1) (tm 2) (tm 42)),
  se 25 (.st 1 (tm 61) (tm 54)),
  sm 26 62 (.ia (.arr 32 1) (tm 2) (tm 45)),
  se 27 (.st 1 (tm 62) (tm 57)),
  sm 28 63 (.ia (.arr 32 1) (tm 2) (tm 48)),
  se 29 (.st 1 (tm 63) (tm 59))])))
  (.reg [sm 0 64 (.bin .add 3 (tm 34) (.const (.int .i64 1))),
  sv 1 34 64]))))
def c160 : Cd := (.seq (.reg [sm 0 1 (.box (tm 0)),
  sm 1 2 (.alloc (rep 32 (.int .u8 0)))])
  (.seq (.reg [sm 0 8 (.fa 9 (tm 1)),
  sm 1 9 (.ld1 (tm 8)),
  sm 2 10 (.cint .u64 (tm 9)),
  sm 3 11 (.bin .mul 27 (tm 10) (.const (.int .u64 8))),
  sv 4 3 11])
  (.seq (.reg [sm 0 12 (.bsl 1 [.int .u8 0] 1 [(0, (.const (.int .u8 128)))]),
  sm 1 13 (.fa 9 (tm 1)),
  sm 2 14 (.ld1 (tm 13)),
  sm 3 15 (.bin .rem 3 (tm 14) (.const (.int .i64 64))),
  sm 4 16 (.bin .sub 3 (.const (.int .i64 119)) (tm 15)),
  sm 5 17 (.bin .rem 3 (tm 16) (.const (.int .i64 64))),
  sm 6 18 (.appZ 1 1 [.int .u8 0] (tm 12) (tm 17)),
  sv 7 4 18])
  (.seq (.seq (.reg [sm 0 5 (.mv (.const (.int .i64 56)))])
  (.block 0 (.loop l160_0)))
  (.seq (.seq (.reg [sm 0 30 (.ldA 10 (tm 1)),
  sv 1 31 4,
  sc 2 32 159 [(tm 30), (tm 31)],
  sm 3 33 (.fldA 8 0 (tm 32)),
  sm 4 34 (.mv (.const (.int .i64 0)))])
  (.block 2 (.loop l160_1)))
  (.seq (.reg [sm 0 65 (.ldA 32 (tm 2)),
  se 1 (.st 32 (tm 2) (tm 65))])
  .ret))))))
def r160 : List Mo := [.ldA 32 (tm 2)]
theorem c160_eq : compF Tryz.prog 160 = some c160 := by kernel_rfl
theorem r160_eq : compRs Tryz.prog 160 = some r160 := by kernel_rfl
def l162_0 : Cd := (.seq (.reg [sm 0 11 (.nxtS (tm 10)),
  sm 1 12 (.ext (tm 11) 0)])
  (.seq (.cond (tm 12) .skip (.exit 0))
  (.block 1 (.seq (.reg [sm 0 13 (.ext (tm 11) 1),
  sm 1 14 (.ext (tm 11) 2),
  sv 2 7 13,
  sv 3 8 14])
  (.seq (.reg [sv 0 15 1,
  sv 1 16 8,
  ⟨2, (some 17), none, .callV (tm 15) [(tm 16)], [], false⟩,
  sv 3 18 2,
  sm 4 19 (.bin .eql 4 (tm 17) (tm 18))])
  (.cond (tm 19) (.seq (.reg [sv 0 20 7,
  sv 1 6 20])
  .ret) .skip))))))
def c162 : Cd := (.seq (.reg [sm 0 6 (.mv (.const (.int .i64 0)))])
  (.seq (.seq (.reg [sv 0 9 0,
  sm 1 10 (.rngS (tm 9))])
  (.block 0 (.loop l162_0)))
  (.seq (.reg [sm 0 6 (.mv (.const (.int .i64 (-1))))])
  .ret)))
def r162 : List Mo := [.mv (tm 6)]
theorem c162_eq : compF Tryz.prog 162 = some c162 := by kernel_rfl
theorem r162_eq : compRs Tryz.prog 162 = some r162 := by kernel_rfl
def c163 : Cd := (.seq (.reg [sm 0 2 (.mv (.const (.int .u64 0)))])
  (.seq (.seq (.reg [sv 0 3 0,
  sc 1 4 189 [(tm 3)],
  sm 2 5 (.bin .eql 5 (tm 4) (.const (.int .u8 5)))])
  (.cond (tm 5) (.seq (.reg [sm 0 2 (.mv (.const (.int .u64 9221120237041090560)))])
  .ret) .skip))
  (.seq (.reg [sv 0 6 0,
  sv 1 2 6])
  .ret)))
def r163 : List Mo := [.mv (tm 2)]
theorem c163_eq : compF Tryz.prog 163 = some c163 := by kernel_rfl
theorem r163_eq : compRs Tryz.prog 163 = some r163 := by kernel_rfl
def c164 : Cd := (.seq (.reg [sm 0 2 (.mv (.const (.bool false)))])
  (.seq (.reg [sv 0 3 0,
  sm 1 4 (.bin .lss 21 (tm 3) (.const (.int .i32 32))),
  sv 2 5 4,
  sg 3 6 5 false (.mv (tm 0)),
  sg 4 7 5 false (.bin .gtr 21 (tm 6) (.const (.int .i32 126))),
  sm 5 8 (.pick (tm 5) (.const (.bool true)) (tm 7)),
  sv 6 2 8])
  .ret))
def r164 : List Mo := [.mv (tm 2)]
theorem c164_eq : compF Tryz.prog 164 = some c164 := by kernel_rfl
theorem r164_eq : compRs Tryz.prog 164 = some r164 := by kernel_rfl
def c165 : Cd := (.seq (.reg [sm 0 4 (.mv (.const (.int .u32 0))),
  sm 1 5 (.mv (.const (.int .i64 0)))])
  (.seq (.seq (.reg [sv 0 6 0,
  sm 1 7 (.bsl 1 [.int .u32 0] 1 [(0, (tm 6))]),
  sc 2 8 190 [(tm 7)],
  sm 3 9 (.un .not (tm 8))])
  (.cond (tm 9) (.seq (.reg [sm 0 4 (.mv (.const (.int .u32 0))),
  sm 1 5 (.mv (.const (.int .i64 2)))])
  .ret) .skip))
  (.seq (.reg [sv 0 10 0,
  sv 1 11 1,
  sc 2 12 183 [(tm 10), (tm 11)],
  sv 3 4 12,
  sm 4 5 (.mv (.const (.int .i64 0)))])
  .ret)))
def r165 : List Mo := [.mv (tm 4), .mv (tm 5)]
theorem c165_eq : compF Tryz.prog 165 = some c165 := by kernel_rfl
theorem r165_eq : compRs Tryz.prog 165 = some r165 := by kernel_rfl
def c166 : Cd := (.seq (.reg [sm 0 4 (.mv (.const (.int .u32 0))),
  sm 1 5 (.mv (.const (.int .i64 0)))])
  (.seq (.seq (.reg [sv 0 6 0,
  sv 1 7 1,
  sm 2 8 (.bsl 1 [.int .u32 0] 2 [(0, (tm 6)), (1, (tm 7))]),
  sc 3 9 190 [(tm 8)],
  sm 4 10 (.un .not (tm 9))])
  (.cond (tm 10) (.seq (.reg [sm 0 4 (.mv (.const (.int .u32 0))),
  sm 1 5 (.mv (.const (.int .i64 2)))])
  .ret) .skip))
  (.seq (.reg [sv 0 11 0,
  sv 1 12 1,
  sm 2 13 (.bsl 1 [.int .u32 0] 2 [(0, (tm 11)), (1, (tm 12))]),
  sc 3 14 191 [(.const (.int .u64 1000000007)), (tm 13)],
  sv 4 4 14,
  sm 5 5 (.mv (.const (.int .i64 0)))])
  .ret)))
def r166 : List Mo := [.mv (tm 4), .mv (tm 5)]
theorem c166_eq : compF Tryz.prog 166 = some c166 := by kernel_rfl
theorem r166_eq : compRs Tryz.prog 166 = some r166 := by kernel_rfl
def c167 : Cd := (.seq (.reg [sm 0 2 (.mv (.const (.int .u32 0)))])
  (.seq (.reg [sv 0 3 0,
  sc 1 4 183 [(.const (.int .u32 4)), (tm 3)],
  sv 2 2 4])
  .ret))
def r167 : List Mo := [.mv (tm 2)]
theorem c167_eq : compF Tryz.prog 167 = some c167 := by kernel_rfl
theorem r167_eq : compRs Tryz.prog 167 = some r167 := by kernel_rfl
def c168 : Cd := (.seq (.reg [sm 0 6 (.mv (.const (.int .u32 0))),
  sm 1 7 (.mv (.const (.int .i64 0)))])
  (.seq (.reg [sv 0 11 2,
  sv 1 12 0,
  sv 2 13 1,
  sm 3 14 (.bsl 1 [.int .u32 0] 2 [(0, (tm 12)), (1, (tm 13))]),
  sc 4 15 192 [(.const (.int .u8 99)), (tm 11), (tm 14)],
  sv 5 10 15,
  sm 6 16 (.ext (tm 10) 0),
  sm 7 17 (.ext (tm 10) 1),
  sv 8 8 16,
  sv 9 9 17])
  (.seq (.seq (.reg [sv 0 18 9,
  sm 1 19 (.bin .neq 38 (tm 18) (.const (.int .i64 0)))])
  (.cond (tm 19) (.seq (.reg [sv 0 20 9,
  sm 1 6 (.mv (.const (.int .u32 0))),
  sv 2 7 20])
  .ret) .skip))
  (.seq (.reg [sv 0 21 8,
  sm 1 22 (.bin .rem 27 (tm 21) (.const (.int .u64 500000003))),
  sm 2 23 (.cint .u32 (tm 22)),
  sv 3 6 23,
  sm 4 7 (.mv (.const (.int .i64 0)))])
  .ret))))
def r168 : List Mo := [.mv (tm 6), .mv (tm 7)]
theorem c168_eq : compF Tryz.prog 168 = some c168 := by kernel_rfl
theorem r168_eq : compRs Tryz.prog 168 = some r168 := by kernel_rfl
def c174 : Cd := (.seq (.reg [sm 0 2 (.mv (.const (.int .u32 0))),
  sm 1 3 (.mv (.const (.int .i64 0)))])
  (.seq (.seq (.reg [sv 0 4 0,
  sc 1 5 64 [(tm 4)],
  sm 2 6 (.un .not (tm 5))])
  (.cond (tm 6) (.seq (.reg [sm 0 2 (.mv (.const (.int .u32 0))),
  sm 1 3 (.mv (.const (.int .i64 2)))])
  .ret) .skip))
  (.seq (.reg [sv 0 7 0,
  sc 1 8 175 [(tm 7), (.const (.int .u64 500000002))],
  sv 2 2 8,
  sm 3 3 (.mv (.const (.int .i64 0)))])
  .ret)))
def r174 : List Mo := [.mv (tm 2), .mv (tm 3)]
theorem c174_eq : compF Tryz.prog 174 = some c174 := by kernel_rfl
theorem r174_eq : compRs Tryz.prog 174 = some r174 := by kernel_rfl
def c175 : Cd := (.seq (.reg [sm 0 4 (.mv (.const (.int .u32 0)))])
  (.seq (.reg [sv 0 5 0,
  sm 1 6 (.cint .u64 (tm 5)),
  sv 2 7 1,
  sc 3 8 95 [(tm 6), (tm 7), (.const (.int .u64 1000000007))],
  sm 4 9 (.cint .u32 (tm 8)),
  sv 5 4 9])
  .ret))
def r175 : List Mo := [.mv (tm 4)]
theorem c175_eq : compF Tryz.prog 175 = some c175 := by kernel_rfl
theorem r175_eq : compRs Tryz.prog 175 = some r175 := by kernel_rfl
def c176 : Cd := (.seq (.reg [sm 0 4 (.mv (.const (.int .u32 0)))])
  (.seq (.reg [sv 0 5 0,
  sm 1 6 (.cint .u64 (tm 5)),
  sv 2 7 1,
  sm 3 8 (.cint .u64 (tm 7)),
  sm 4 9 (.bin .mul 27 (tm 6) (tm 8)),
  sm 5 10 (.bin .rem 27 (tm 9) (.const (.int .u64 1000000007))),
  sm 6 11 (.cint .u32 (tm 10)),
  sv 7 4 11])
  .ret))
def r176 : List Mo := [.mv (tm 4)]
theorem c176_eq : compF Tryz.prog 176 = some c176 := by kernel_rfl
theorem r176_eq : compRs Tryz.prog 176 = some r176 := by kernel_rfl
def c177 : Cd := (.seq (.reg [sm 0 2 (.mv (.const (.int .u8 0)))])
  (.seq (.reg [sv 0 5 0,
  sc 1 6 194 [(tm 5)],
  sv 2 7 0,
  sc 3 8 195 [(tm 7)],
  sv 4 3 6,
  sv 5 4 8])
  (.seq (.seq (.reg [sv 0 9 3,
  sm 1 10 (.bin .eql 3 (tm 9) (.const (.int .i64 0))),
  sv 2 11 10,
  sg 3 12 11 true (.mv (tm 4)),
  sg 4 13 11 true (.bin .eql 27 (tm 12) (.const (.int .u64 0))),
  sm 5 14 (.pick (tm 11) (tm 13) (.const (.bool false)))])
  (.cond (tm 14) (.seq (.reg [sm 0 2 (.mv (.const (.int .u8 1)))])
  .ret) .skip))
  (.seq (.seq (.reg [sv 0 15 3,
  sm 1 16 (.bin .eql 3 (tm 15) (.const (.int .i64 0)))])
  (.cond (tm 16) (.seq (.reg [sm 0 2 (.mv (.const (.int .u8 2)))])
  .ret) .skip))
  (.seq (.seq (.reg [sv 0 17 3,
  sm 1 18 (.bin .lss 3 (tm 17) (.const (.int .i64 2047)))])
  (.cond (tm 18) (.seq (.reg [sm 0 2 (.mv (.const (.int .u8 3)))])
  .ret) .skip))
  (.seq (.seq (.reg [sv 0 19 4,
  sm 1 20 (.bin .eql 27 (tm 19) (.const (.int .u64 0)))])
  (.cond (tm 20) (.seq (.reg [sm 0 2 (.mv (.const (.int .u8 4)))])
  .ret) .skip))
  (.seq (.reg [sm 0 2 (.mv (.const (.int .u8 5)))])
  .ret)))))))
def r177 : List Mo := [.mv (tm 2)]
theorem c177_eq : compF Tryz.prog 177 = some c177 := by kernel_rfl
theorem r177_eq : compRs Tryz.prog 177 = some r177 := by kernel_rfl
def c178 : Cd := (.seq (.reg [sm 0 4 (.mv (.const (.int .u32 0)))])
  (.seq (.reg [sv 0 5 0,
  sv 1 6 1,
  sm 2 7 (.bin .shr 25 (tm 5) (tm 6)),
  sv 3 8 0,
  sv 4 9 1,
  sm 5 10 (.bin .sub 3 (.const (.int .i64 32)) (tm 9)),
  sm 6 11 (.bin .shl 25 (tm 8) (tm 10)),
  sm 7 12 (.bin .or 25 (tm 7) (tm 11)),
  sv 8 4 12])
  .ret))
def r178 : List Mo := [.mv (tm 4)]
theorem c178_eq : compF Tryz.prog 178 = some c178 := by kernel_rfl
theorem r178_eq : compRs Tryz.prog 178 = some r178 := by kernel_rfl
def c179 : Cd := (.seq (.reg [sm 0 0 (.mv (.const (.slice none 0 0)))])
  (.seq (.reg [sm 0 1 (.bsl 1 [.int .u32 0] 64 [(0, (.const (.int .u32 1116352408))), (1, (.const (.int .u32 1899447441))), (2, (.const (.int .u32 3049323471))), (3, (.const (.int .u32 3921009573))), (4, (.const (.int .u32 961987163))), (5, (.const (.int .u32 1508970993))), (6, (.const (.int .u32 2453635748))), (7, (.const (.int .u32 2870763221))), (8, (.const (.int .u32 3624381080))), (9, (.const (.int .u32 310598401))), (10, (.const (.int .u32 607225278))), (11, (.const (.int .u32 1426881987))), (12, (.const (.int .u32 1925078388))), (13, (.const (.int .u32 2162078206))), (14, (.const (.int .u32 2614888103))), (15, (.const (.int .u32 3248222580))), (16, (.const (.int .u32 3835390401))), (17, (.const (.int .u32 4022224774))), (18, (.const (.int .u32 264347078))), (19, (.const (.int .u32 604807628))), (20, (.const (.int .u32 770255983))), (21, (.const (.int .u32 1249150122))), (22, (.const (.int .u32 1555081692))), (23, (.const (.int .u32 1996064986))), (24, (.const (.int .u32 2554220882))), (25, (.const (.int .u32 2821834349))), (26, (.const (.int .u32 2952996808))), (27, (.const (.int .u32 3210313671))), (28, (.const (.int .u32 3336571891))), (29, (.const (.int .u32 3584528711))), (30, (.const (.int .u32 113926993))), (31, (.const (.int .u32 338241895))), (32, (.const (.int .u32 666307205))), (33, (.const (.int .u32 773529912))), (34, (.const (.int .u32 1294757372))), (35, (.const (.int .u32 1396182291))), (36, (.const (.int .u32 1695183700))), (37, (.const (.int .u32 1986661051))), (38, (.const (.int .u32 2177026350))), (39, (.const (.int .u32 2456956037))), (40, (.const (.int .u32 2730485921))), (41, (.const (.int .u32 2820302411))), (42, (.const (.int .u32 3259730800))), (43, (.const (.int .u32 3345764771))), (44, (.const (.int .u32 3516065817))), (45, (.const (.int .u32 3600352804))), (46, (.const (.int .u32 4094571909))), (47, (.const (.int .u32 275423344))), (48, (.const (.int .u32 430227734))), (49, (.const (.int .u32 506948616))), (50, (.const (.int .u32 659060556))), (51, (.const (.int .u32 883997877))), (52, (.const (.int .u32 958139571))), (53, (.const (.int .u32 1322822218))), (54, (.const (.int .u32 1537002063))), (55, (.const (.int .u32 1747873779))), (56, (.const (.int .u32 1955562222))), (57, (.const (.int .u32 2024104815))), (58, (.const (.int .u32 2227730452))), (59, (.const (.int .u32 2361852424))), (60, (.const (.int .u32 2428436474))), (61, (.const (.int .u32 2756734187))), (62, (.const (.int .u32 3204031479))), (63, (.const (.int .u32 3329325298)))]),
  sv 1 0 1])
  .ret))
def r179 : List Mo := [.mv (tm 0)]
theorem c179_eq : compF Tryz.prog 179 = some c179 := by kernel_rfl
theorem r179_eq : compRs Tryz.prog 179 = some r179 := by kernel_rfl
def c180 : Cd := (.seq (.reg [sm 0 2 (.mv (.const (.slice none 0 0)))])
  (.seq (.seq (.reg [sv 0 3 0,
  sm 1 4 (.bin .geq 2 (tm 3) (.const (.int .i64 0)))])
  (.cond (tm 4) (.seq (.reg [sv 0 5 0,
  sm 1 6 (.cint .u64 (tm 5)),
  sm 2 7 (.bin .mul 27 (.const (.int .u64 2)) (tm 6)),
  sc 3 8 102 [(tm 7)],
  sv 4 2 8])
  .ret) .skip))
  (.seq (.reg [sv 0 9 0,
  sm 1 10 (.bin .add 2 (tm 9) (.const (.int .i64 1))),
  sm 2 11 (.un .neg (tm 10)),
  sm 3 12 (.cint .u64 (tm 11)),
  sm 4 13 (.bin .mul 27 (.const (.int .u64 2)) (tm 12)),
  sm 5 14 (.bin .add 27 (tm 13) (.const (.int .u64 1))),
  sc 6 15 102 [(tm 14)],
  sv 7 2 15])
  .ret)))
def r180 : List Mo := [.mv (tm 2)]
theorem c180_eq : compF Tryz.prog 180 = some c180 := by kernel_rfl
theorem r180_eq : compRs Tryz.prog 180 = some r180 := by kernel_rfl
def c181 : Cd := (.seq (.reg [sm 0 2 (.mv (.const (.slice none 0 0)))])
  (.seq (.reg [sv 0 3 0,
  sm 1 4 (.bin .quo 25 (tm 3) (.const (.int .u32 16777216))),
  sm 2 5 (.cint .u8 (tm 4)),
  sv 3 6 0,
  sm 4 7 (.bin .quo 25 (tm 6) (.const (.int .u32 65536))),
  sm 5 8 (.bin .rem 25 (tm 7) (.const (.int .u32 256))),
  sm 6 9 (.cint .u8 (tm 8)),
  sv 7 10 0,
  sm 8 11 (.bin .quo 25 (tm 10) (.const (.int .u32 256))),
  sm 9 12 (.bin .rem 25 (tm 11) (.const (.int .u32 256))),
  sm 10 13 (.cint .u8 (tm 12)),
  sv 11 14 0,
  sm 12 15 (.bin .rem 25 (tm 14) (.const (.int .u32 256))),
  sm 13 16 (.cint .u8 (tm 15)),
  sm 14 17 (.bsl 1 [.int .u8 0] 4 [(0, (tm 5)), (1, (tm 9)), (2, (tm 13)), (3, (tm 16))]),
  sv 15 2 17])
  .ret))
def r181 : List Mo := [.mv (tm 2)]
theorem c181_eq : compF Tryz.prog 181 = some c181 := by kernel_rfl
theorem r181_eq : compRs Tryz.prog 181 = some r181 := by kernel_rfl
def l182_0 : Cd := (.seq (.seq (.reg [sv 0 8 5,
  sm 1 9 (.bin .lss 3 (tm 8) (.const (.int .i64 8)))])
  (.cond (tm 9) .skip (.exit 0)))
  (.seq (.block 1 (.reg [sv 0 12 4,
  sm 1 13 (.bin .mul 27 (.const (.int .u64 256)) (tm 12)),
  sv 2 14 5,
  sm 3 15 (.ia (.arr 32 1) (tm 3) (tm 14)),
  sm 4 16 (.ld1 (tm 15)),
  sm 5 17 (.cint .u64 (tm 16)),
  sm 6 18 (.bin .add 27 (tm 13) (tm 17)),
  sv 7 4 18]))
  (.reg [sv 0 10 5,
  sm 1 11 (.bin .add 3 (tm 10) (.const (.int .i64 1))),
  sv 2 5 11])))
def c182 : Cd := (.seq (.reg [sm 0 2 (.mv (.const (.int .u64 0)))])
  (.seq (.reg [sv 0 6 0,
  sc 1 7 67 [(tm 6)],
  sm 2 3 (.alloc (rep 32 (.int .u8 0))),
  se 3 (.st 32 (tm 3) (tm 7))])
  (.seq (.reg [sm 0 4 (.mv (.const (.int .u64 0)))])
  (.seq (.seq (.reg [sm 0 5 (.mv (.const (.int .i64 0)))])
  (.block 0 (.loop l182_0)))
  (.seq (.reg [sv 0 19 4,
  sv 1 2 19])
  .ret)))))
def r182 : List Mo := [.mv (tm 2)]
theorem c182_eq : compF Tryz.prog 182 = some c182 := by kernel_rfl
theorem r182_eq : compRs Tryz.prog 182 = some r182 := by kernel_rfl
def l183_0 : Cd := (.seq (.reg [sm 0 10 (.bin .lss 3 (tm 9) (.const (.int .i64 64)))])
  (.seq (.cond (tm 10) .skip (.exit 0))
  (.seq (.block 1 (.seq (.reg [sv 0 11 9,
  sv 1 7 11])
  (.seq (.reg [sv 0 12 6,
  ⟨1, (some 13), none, .callV (tm 12) [], [], false⟩])
  (.seq (.reg [sv 0 14 1,
  sv 1 15 7,
  sm 2 16 (.bin .sub 3 (.const (.int .i64 63)) (tm 15)),
  sm 3 17 (.bin .shr 27 (tm 14) (tm 16)),
  sm 4 18 (.bin .and 27 (tm 17) (.const (.int .u64 1))),
  sm 5 19 (.bin .eql 27 (tm 18) (.const (.int .u64 1)))])
  (.cond (tm 19) (.reg [sm 0 20 (.ld1 (tm 5)),
  sv 1 21 0,
  sm 2 22 (.bsl 1 [.int .u32 0] 2 [(0, (tm 20)), (1, (tm 21))]),
  sc 3 23 191 [(.const (.int .u64 1000000007)), (tm 22)],
  se 4 (.st 1 (tm 5) (tm 23))]) .skip)))))
  (.reg [sm 0 24 (.bin .add 3 (tm 9) (.const (.int .i64 1))),
  sv 1 9 24]))))
def c183 : Cd := (.seq (.reg [sm 0 4 (.mv (.const (.int .u32 0)))])
  (.seq (.reg [sm 0 5 (.alloc [.int .u32 0]),
  se 1 (.st 1 (tm 5) (.const (.int .u32 1)))])
  (.seq (.reg [sm 0 8 (.mkF 196 [] [(tm 5)]),
  sv 1 6 8])
  (.seq (.seq (.reg [sm 0 9 (.mv (.const (.int .i64 0)))])
  (.block 0 (.loop l183_0)))
  (.seq (.reg [sm 0 25 (.ld1 (tm 5)),
  sv 1 4 25])
  .ret)))))
def r183 : List Mo := [.mv (tm 4)]
theorem c183_eq : compF Tryz.prog 183 = some c183 := by kernel_rfl
theorem r183_eq : compRs Tryz.prog 183 = some r183 := by kernel_rfl
def c184 : Cd := (.seq (.reg [sm 0 1 (.box (tm 0)),
  sm 1 2 (.mv (.const (.bool false)))])
  (.seq (.reg [sm 0 3 (.alloc [.int .i64 0]),
  se 1 (.st 1 (tm 3) (.const (.int .i64 0)))])
  (.seq (.reg [sm 0 4 (.ld1 (tm 1)),
  sm 1 5 (.mkF 198 [] [(tm 3), (tm 1)]),
  sc 2 6 197 [(tm 4), (tm 5)],
  sm 3 7 (.un .not (tm 6)),
  sv 4 2 7])
  .ret)))
def r184 : List Mo := [.mv (tm 2)]
theorem c184_eq : compF Tryz.prog 184 = some c184 := by kernel_rfl
theorem r184_eq : compRs Tryz.prog 184 = some r184 := by kernel_rfl
def c185 : Cd := (.seq (.reg [sm 0 2 (.mv (.const (.slice none 0 0)))])
  (.seq (.reg [sv 0 3 0,
  sm 1 4 (.cint .u64 (tm 3)),
  sm 2 5 (.bin .shl 27 (tm 4) (.const (.int .u64 1))),
  sv 3 6 0,
  sm 4 7 (.bin .shr 2 (tm 6) (.const (.int .u64 63))),
  sm 5 8 (.cint .u64 (tm 7)),
  sm 6 9 (.bin .xor 27 (tm 5) (tm 8)),
  sc 7 10 110 [(tm 9)],
  sv 8 2 10])
  .ret))
def r185 : List Mo := [.mv (tm 2)]
theorem c185_eq : compF Tryz.prog 185 = some c185 := by kernel_rfl
theorem r185_eq : compRs Tryz.prog 185 = some r185 := by kernel_rfl
def l186_0 : Cd := (.seq (.reg [sm 0 9 (.bin .lss 3 (tm 8) (tm 7))])
  (.seq (.cond (tm 9) .skip (.exit 0))
  (.seq (.block 1 (.seq (.reg [sv 0 10 8,
  sv 1 5 10])
  (.seq (.reg [sv 0 11 1,
  sv 1 12 0,
  sv 2 13 5,
  sm 3 14 (.ia (.sl 1) (tm 12) (tm 13)),
  sm 4 15 (.ld1 (tm 14)),
  ⟨5, (some 16), none, .callV (tm 11) [(tm 15)], [], false⟩])
  (.cond (tm 16) (.seq (.reg [sv 0 17 5,
  sv 1 4 17])
  .ret) .skip))))
  (.reg [sm 0 18 (.bin .add 3 (tm 8) (.const (.int .i64 1))),
  sv 1 8 18]))))
def c186 : Cd := (.seq (.reg [sm 0 4 (.mv (.const (.int .i64 0)))])
  (.seq (.seq (.reg [sv 0 6 0,
  sm 1 7 (.len (.sl 1) (tm 6)),
  sm 2 8 (.mv (.const (.int .i64 0)))])
  (.block 0 (.loop l186_0)))
  (.seq (.reg [sm 0 4 (.mv (.const (.int .i64 (-1))))])
  .ret)))
def r186 : List Mo := [.mv (tm 4)]
theorem c186_eq : compF Tryz.prog 186 = some c186 := by kernel_rfl
theorem r186_eq : compRs Tryz.prog 186 = some r186 := by kernel_rfl
def l187_0 : Cd := (.seq (.reg [sm 0 53 (.bin .lss 3 (tm 52) (.const (.int .i64 64)))])
  (.seq (.cond (tm 53) .skip (.exit 0))
  (.seq (.block 1 (.seq (.reg [sv 0 54 52,
  sv 1 13 54])
  (.seq (.dreg [sv 0 55 12,
  sv 1 56 9,
  sv 4 59 9,
  sv 5 60 10,
  sm 6 61 (.bin .and 25 (tm 59) (tm 60)),
  sv 7 62 9,
  sm 8 63 (.un .xor (tm 62)),
  sv 9 64 11,
  sm 10 65 (.bin .and 25 (tm 63) (tm 64)),
  sm 11 66 (.bin .xor 25 (tm 61) (tm 65)),
  sv 13 68 13,
  sm 14 69 (.ia (.arr 64 1) (.global 1) (tm 68)),
  ⟨15, (some 70), none, .mo (.ld1 (tm 69)), [], true⟩,
  sv 17 72 13,
  sm 18 73 (.ia (.arr 64 1) (tm 4) (tm 72)),
  ⟨19, (some 74), none, .mo (.ld1 (tm 73)), [], true⟩,
  ⟨2, (some 57), none, .callF 200 [(tm 56), (.const (.int .i64 6)), (.const (.int .i64 11)), (.const (.int .i64 25))], [19, 15], false⟩,
  sm 3 58 (.bin .add 25 (tm 55) (tm 57)),
  sm 12 67 (.bin .add 25 (tm 58) (tm 66)),
  sm 16 71 (.bin .add 25 (tm 67) (tm 70)),
  sm 20 75 (.bin .add 25 (tm 71) (tm 74)),
  sv 21 14 75])
  (.seq (.reg [sv 0 76 5,
  sc 1 77 200 [(tm 76), (.const (.int .i64 2)), (.const (.int .i64 13)), (.const (.int .i64 22))],
  sv 2 78 5,
  sv 3 79 6,
  sm 4 80 (.bin .and 25 (tm 78) (tm 79)),
  sv 5 81 5,
  sv 6 82 7,
  sm 7 83 (.bin .and 25 (tm 81) (tm 82)),
  sm 8 84 (.bin .xor 25 (tm 80) (tm 83)),
  sv 9 85 6,
  sv 10 86 7,
  sm 11 87 (.bin .and 25 (tm 85) (tm 86)),
  sm 12 88 (.bin .xor 25 (tm 84) (tm 87)),
  sm 13 89 (.bin .add 25 (tm 77) (tm 88)),
  sv 14 15 89])
  (.reg [sv 0 90 14,
  sv 1 91 15,
  sm 2 92 (.bin .add 25 (tm 90) (tm 91)),
  sv 3 93 5,
  sv 4 94 6,
  sv 5 95 7,
  sv 6 96 8,
  sv 7 97 14,
  sm 8 98 (.bin .add 25 (tm 96) (tm 97)),
  sv 9 99 9,
  sv 10 100 10,
  sv 11 101 11,
  sv 12 5 92,
  sv 13 6 93,
  sv 14 7 94,
  sv 15 8 95,
  sv 16 9 98,
  sv 17 10 99,
  sv 18 11 100,
  sv 19 12 101])))))
  (.reg [sm 0 102 (.bin .add 3 (tm 52) (.const (.int .i64 1))),
  sv 1 52 102]))))
def l187_1 : Cd := (.seq (.reg [sm 0 113 (.bin .lss 3 (tm 112) (.const (.int .i64 8)))])
  (.seq (.cond (tm 113) .skip (.exit 2))
  (.seq (.block 3 (.seq (.reg [sv 0 114 112,
  sm 1 115 (.ix1 8 1 (tm 111) (tm 112)),
  sv 2 16 114,
  sv 3 17 115])
  (.reg [sv 0 116 0,
  sv 1 117 16,
  sm 2 118 (.nilc (tm 116)),
  sm 3 119 (.ia (.arr 8 1) (tm 118) (tm 117)),
  sm 4 120 (.ld1 (tm 119)),
  sv 5 121 17,
  sm 6 122 (.bin .add 25 (tm 120) (tm 121)),
  sm 7 123 (.nilc (tm 116)),
  sm 8 124 (.ia (.arr 8 1) (tm 123) (tm 117)),
  se 9 (.st 1 (tm 124) (tm 122))])))
  (.reg [sm 0 125 (.bin .add 3 (tm 112) (.const (.int .i64 1))),
  sv 1 112 125]))))
def c187 : Cd := (.seq (.reg [sv 0 18 1,
  sc 1 19 199 [(tm 18)],
  sm 2 4 (.alloc (rep 64 (.int .u32 0))),
  se 3 (.st 64 (tm 4) (tm 19))])
  (.seq (.reg [sv 0 20 0,
  sm 1 21 (.nilc (tm 20)),
  sm 2 22 (.ia (.arr 8 1) (tm 21) (.const (.int .i64 0))),
  sm 3 23 (.ld1 (tm 22)),
  sv 4 24 0,
  sm 5 25 (.nilc (tm 24)),
  sm 6 26 (.ia (.arr 8 1) (tm 25) (.const (.int .i64 1))),
  sm 7 27 (.ld1 (tm 26)),
  sv 8 28 0,
  sm 9 29 (.nilc (tm 28)),
  sm 10 30 (.ia (.arr 8 1) (tm 29) (.const (.int .i64 2))),
  sm 11 31 (.ld1 (tm 30)),
  sv 12 32 0,
  sm 13 33 (.nilc (tm 32)),
  sm 14 34 (.ia (.arr 8 1) (tm 33) (.const (.int .i64 3))),
  sm 15 35 (.ld1 (tm 34)),
  sv 16 36 0,
  sm 17 37 (.nilc (tm 36)),
  sm 18 38 (.ia (.arr 8 1) (tm 37) (.const (.int .i64 4))),
  sm 19 39 (.ld1 (tm 38)),
  sv 20 40 0,
  sm 21 41 (.nilc (tm 40)),
  sm 22 42 (.ia (.arr 8 1) (tm 41) (.const (.int .i64 5))),
  sm 23 43 (.ld1 (tm 42)),
  sv 24 44 0,
  sm 25 45 (.nilc (tm 44)),
  sm 26 46 (.ia (.arr 8 1) (tm 45) (.const (.int .i64 6))),
  sm 27 47 (.ld1 (tm 46)),
  sv 28 48 0,
  sm 29 49 (.nilc (tm 48)),
  sm 30 50 (.ia (.arr 8 1) (tm 49) (.const (.int .i64 7))),
  sm 31 51 (.ld1 (tm 50)),
  sv 32 5 23,
  sv 33 6 27,
  sv 34 7 31,
  sv 35 8 35,
  sv 36 9 39,
  sv 37 10 43,
  sv 38 11 47,
  sv 39 12 51])
  (.seq (.seq (.reg [sm 0 52 (.mv (.const (.int .i64 0)))])
  (.block 0 (.loop l187_0)))
  (.seq (.reg [sv 0 103 5,
  sv 1 104 6,
  sv 2 105 7,
  sv 3 106 8,
  sv 4 107 9,
  sv 5 108 10,
  sv 6 109 11,
  sv 7 110 12,
  sm 8 111 (.bld [.int .u32 0, .int .u32 0, .int .u32 0, .int .u32 0, .int .u32 0, .int .u32 0, .int .u32 0, .int .u32 0] [(0, 1, (tm 103)), (1, 1, (tm 104)), (2, 1, (tm 105)), (3, 1, (tm 106)), (4, 1, (tm 107)), (5, 1, (tm 108)), (6, 1, (tm 109)), (7, 1, (tm 110))]),
  sm 9 112 (.mv (.const (.int .i64 0)))])
  (.block 2 (.loop l187_1))))))
def r187 : List Mo := []
theorem c187_eq : compF Tryz.prog 187 = some c187 := by kernel_rfl
theorem r187_eq : compRs Tryz.prog 187 = some r187 := by kernel_rfl
def c188 : Cd := (.seq (.reg [sm 0 2 (.mv (.const (.slice none 0 0)))])
  (.seq (.seq (.reg [sv 0 3 0,
  sm 1 4 (.bin .eql 117 (tm 3) (.const (.slice none 0 0)))])
  (.cond (tm 4) (.seq (.reg [sm 0 2 (.mv (.const (.slice none 0 0)))])
  .ret) .skip))
  (.seq (.reg [sm 0 5 (.bsl 1 [.int .u8 0] 0 []),
  sv 1 6 0,
  sm 2 7 (.app 1 1 (tm 5) (tm 6)),
  sv 3 2 7])
  .ret)))
def r188 : List Mo := [.mv (tm 2)]
theorem c188_eq : compF Tryz.prog 188 = some c188 := by kernel_rfl
theorem r188_eq : compRs Tryz.prog 188 = some r188 := by kernel_rfl
def c189 : Cd := (.seq (.reg [sm 0 2 (.mv (.const (.int .u8 0)))])
  (.seq (.reg [sv 0 6 0,
  sc 1 7 201 [(tm 6)],
  sv 2 5 7,
  sm 3 8 (.ext (tm 5) 0),
  sm 4 9 (.ext (tm 5) 1),
  sv 5 3 8,
  sv 6 4 9])
  (.seq (.block 0 (.seq (.reg [sv 0 11 3,
  sm 1 12 (.bin .eql 3 (tm 11) (.const (.int .i64 2047))),
  sv 2 13 12,
  sg 3 14 13 true (.mv (tm 4)),
  sg 4 15 13 true (.bin .neq 27 (tm 14) (.const (.int .u64 0))),
  sm 5 16 (.pick (tm 13) (tm 15) (.const (.bool false))),
  sv 6 10 16])
  (.cond (tm 10) (.seq (.reg [sm 0 2 (.mv (.const (.int .u8 5)))])
  .ret) (.seq (.reg [sv 0 18 3,
  sm 1 19 (.bin .eql 3 (tm 18) (.const (.int .i64 2047))),
  sv 2 17 19])
  (.cond (tm 17) (.seq (.reg [sm 0 2 (.mv (.const (.int .u8 4)))])
  .ret) (.seq (.reg [sv 0 21 3,
  sm 1 22 (.bin .neq 3 (tm 21) (.const (.int .i64 0))),
  sv 2 20 22])
  (.cond (tm 20) (.seq (.reg [sm 0 2 (.mv (.const (.int .u8 3)))])
  .ret) (.seq (.reg [sv 0 24 4,
  sm 1 25 (.bin .neq 27 (tm 24) (.const (.int .u64 0))),
  sv 2 23 25])
  (.cond (tm 23) (.seq (.reg [sm 0 2 (.mv (.const (.int .u8 2)))])
  .ret) .skip)))))))))
  (.seq (.reg [sm 0 2 (.mv (.const (.int .u8 1)))])
  .ret))))
def r189 : List Mo := [.mv (tm 2)]
theorem c189_eq : compF Tryz.prog 189 = some c189 := by kernel_rfl
theorem r189_eq : compRs Tryz.prog 189 = some r189 := by kernel_rfl
def l190_0 : Cd := (.seq (.reg [sm 0 8 (.bin .lss 3 (tm 7) (tm 6))])
  (.seq (.cond (tm 8) .skip (.exit 0))
  (.seq (.block 1 (.seq (.reg [sm 0 9 (.ia (.sl 1) (tm 5) (tm 7)),
  sm 1 10 (.ld1 (tm 9)),
  sv 2 4 10])
  (.seq (.reg [sv 0 11 4,
  sc 1 12 151 [(tm 11)],
  sm 2 13 (.un .not (tm 12))])
  (.cond (tm 13) (.seq (.reg [sm 0 2 (.mv (.const (.bool false)))])
  .ret) .skip))))
  (.reg [sm 0 14 (.bin .add 3 (tm 7) (.const (.int .i64 1))),
  sv 1 7 14]))))
def c190 : Cd := (.seq (.reg [sm 0 2 (.mv (.const (.bool false)))])
  (.seq (.seq (.reg [sv 0 5 0,
  sm 1 6 (.len (.sl 1) (tm 5)),
  sm 2 7 (.mv (.const (.int .i64 0)))])
  (.block 0 (.loop l190_0)))
  (.seq (.reg [sm 0 2 (.mv (.const (.bool true)))])
  .ret)))
def r190 : List Mo := [.mv (tm 2)]
theorem c190_eq : compF Tryz.prog 190 = some c190 := by kernel_rfl
theorem r190_eq : compRs Tryz.prog 190 = some r190 := by kernel_rfl
def l191_0 : Cd := (.seq (.reg [sm 0 11 (.bin .lss 3 (tm 10) (tm 9))])
  (.seq (.cond (tm 11) .skip (.exit 0))
  (.seq (.block 1 (.seq (.reg [sm 0 12 (.ia (.sl 1) (tm 8) (tm 10)),
  sm 1 13 (.ld1 (tm 12)),
  sv 2 7 13])
  (.reg [sv 0 14 5,
  sv 1 15 7,
  sm 2 16 (.cint .u64 (tm 15)),
  sm 3 17 (.bin .mul 27 (tm 14) (tm 16)),
  sv 4 18 0,
  sm 5 19 (.bin .rem 27 (tm 17) (tm 18)),
  sv 6 5 19])))
  (.reg [sm 0 20 (.bin .add 3 (tm 10) (.const (.int .i64 1))),
  sv 1 10 20]))))
def c191 : Cd := (.seq (.reg [sm 0 4 (.mv (.const (.int .u32 0)))])
  (.seq (.reg [sm 0 5 (.mv (.const (.int .u64 1)))])
  (.seq (.seq (.reg [sv 0 8 1,
  sm 1 9 (.len (.sl 1) (tm 8)),
  sm 2 10 (.mv (.const (.int .i64 0)))])
  (.block 0 (.loop l191_0)))
  (.seq (.reg [sv 0 21 5,
  sm 1 22 (.cint .u32 (tm 21)),
  sv 2 4 22])
  .ret))))
def r191 : List Mo := [.mv (tm 4)]
theorem c191_eq : compF Tryz.prog 191 = some c191 := by kernel_rfl
theorem r191_eq : compRs Tryz.prog 191 = some r191 := by kernel_rfl
def l192_0 : Cd := (.seq (.reg [sm 0 24 (.bin .lss 3 (tm 23) (tm 22))])
  (.seq (.cond (tm 24) .skip (.exit 0))
  (.seq (.block 1 (.seq (.reg [sm 0 25 (.ia (.sl 1) (tm 21) (tm 23)),
  sm 1 26 (.ld1 (tm 25)),
  sv 2 10 26])
  (.reg [sv 0 27 8,
  sv 1 28 10,
  sm 2 29 (.bin .shr 25 (tm 28) (.const (.int .u64 24))),
  sm 3 30 (.cint .u8 (tm 29)),
  sv 4 31 10,
  sm 5 32 (.bin .shr 25 (tm 31) (.const (.int .u64 16))),
  sm 6 33 (.cint .u8 (tm 32)),
  sv 7 34 10,
  sm 8 35 (.bin .shr 25 (tm 34) (.const (.int .u64 8))),
  sm 9 36 (.cint .u8 (tm 35)),
  sv 10 37 10,
  sm 11 38 (.cint .u8 (tm 37)),
  sm 12 39 (.bsl 1 [.int .u8 0] 4 [(0, (tm 30)), (1, (tm 33)), (2, (tm 36)), (3, (tm 38))]),
  sm 13 40 (.app 1 1 (tm 27) (tm 39)),
  sv 14 8 40])))
  (.reg [sm 0 41 (.bin .add 3 (tm 23) (.const (.int .i64 1))),
  sv 1 23 41]))))
def l192_1 : Cd := (.seq (.reg [sm 0 52 (.bin .lss 3 (tm 51) (tm 50))])
  (.seq (.cond (tm 52) .skip (.exit 2))
  (.seq (.block 3 (.seq (.reg [sm 0 53 (.ia (.sl 1) (tm 49) (tm 51)),
  sm 1 54 (.ld1 (tm 53)),
  sv 2 15 54])
  (.reg [sv 0 55 13,
  sm 1 56 (.bin .shl 27 (tm 55) (.const (.int .u64 8))),
  sv 2 57 15,
  sm 3 58 (.cint .u64 (tm 57)),
  sm 4 59 (.bin .or 27 (tm 56) (tm 58)),
  sv 5 13 59])))
  (.reg [sm 0 60 (.bin .add 3 (tm 51) (.const (.int .i64 1))),
  sv 1 51 60]))))
def c192 : Cd := (.seq (.reg [sm 0 6 (.mv (.const (.int .u64 0))),
  sm 1 7 (.mv (.const (.int .i64 0)))])
  (.seq (.seq (.reg [sv 0 16 1,
  sm 1 17 (.len (.sl 1) (tm 16)),
  sm 2 18 (.bin .gtr 3 (tm 17) (.const (.int .i64 9991)))])
  (.cond (tm 18) (.seq (.reg [sm 0 6 (.mv (.const (.int .u64 0))),
  sm 1 7 (.mv (.const (.int .i64 4)))])
  .ret) .skip))
  (.seq (.reg [sv 0 19 0,
  sm 1 20 (.bsl 1 [.int .u8 0] 1 [(0, (tm 19))]),
  sv 2 8 20])
  (.seq (.seq (.reg [sv 0 21 2,
  sm 1 22 (.len (.sl 1) (tm 21)),
  sm 2 23 (.mv (.const (.int .i64 0)))])
  (.block 0 (.loop l192_0)))
  (.seq (.reg [sv 0 43 8,
  sv 1 44 1,
  sm 2 45 (.bsl 1 [.nilS] 2 [(0, (tm 43)), (1, (tm 44))]),
  sc 3 46 111 [(tm 45)],
  sv 4 42 46,
  sm 5 47 (.ext (tm 42) 0),
  sm 6 48 (.ext (tm 42) 1),
  sm 7 11 (.alloc (rep 32 (.int .u8 0))),
  se 8 (.st 32 (tm 11) (tm 47)),
  sv 9 12 48])
  (.seq (.reg [sm 0 13 (.mv (.const (.int .u64 0)))])
  (.seq (.seq (.reg [sm 0 49 (.slice (.arr 32 1) (tm 11) none (some (.const (.int .i64 8))) none),
  sm 1 50 (.len (.sl 1) (tm 49)),
  sm 2 51 (.mv (.const (.int .i64 0)))])
  (.block 2 (.loop l192_1)))
  (.seq (.reg [sv 0 61 13,
  sv 1 62 12,
  sv 2 6 61,
  sv 3 7 62])
  .ret))))))))
def r192 : List Mo := [.mv (tm 6), .mv (tm 7)]
theorem c192_eq : compF Tryz.prog 192 = some c192 := by kernel_rfl
theorem r192_eq : compRs Tryz.prog 192 = some r192 := by kernel_rfl
def c194 : Cd := (.seq (.reg [sm 0 2 (.mv (.const (.int .i64 0)))])
  (.seq (.reg [sv 0 3 0,
  sm 1 4 (.bin .rem 27 (tm 3) (.const (.int .u64 9223372036854775808))),
  sm 2 5 (.bin .quo 27 (tm 4) (.const (.int .u64 4503599627370496))),
  sm 3 6 (.cint .i64 (tm 5)),
  sv 4 2 6])
  .ret))
def r194 : List Mo := [.mv (tm 2)]
theorem c194_eq : compF Tryz.prog 194 = some c194 := by kernel_rfl
theorem r194_eq : compRs Tryz.prog 194 = some r194 := by kernel_rfl
def c195 : Cd := (.seq (.reg [sm 0 2 (.mv (.const (.int .u64 0)))])
  (.seq (.reg [sv 0 3 0,
  sm 1 4 (.bin .rem 27 (tm 3) (.const (.int .u64 4503599627370496))),
  sv 2 2 4])
  .ret))
def r195 : List Mo := [.mv (tm 2)]
theorem c195_eq : compF Tryz.prog 195 = some c195 := by kernel_rfl
theorem r195_eq : compRs Tryz.prog 195 = some r195 := by kernel_rfl
def c196 : Cd := (.reg [sm 0 1 (.ld1 (tm 0)),
  sm 1 2 (.ld1 (tm 0)),
  sm 2 3 (.bsl 1 [.int .u32 0] 2 [(0, (tm 1)), (1, (tm 2))]),
  sc 3 4 191 [(.const (.int .u64 1000000007)), (tm 3)],
  se 4 (.st 1 (tm 0) (tm 4))])
def r196 : List Mo := []
theorem c196_eq : compF Tryz.prog 196 = some c196 := by kernel_rfl
theorem r196_eq : compRs Tryz.prog 196 = some r196 := by kernel_rfl
def c197 : Cd := (.seq (.reg [sm 0 4 (.mv (.const (.bool false)))])
  (.seq (.reg [sv 0 5 0,
  sv 1 6 1,
  sc 2 7 202 [(tm 5), (tm 6)],
  sm 3 8 (.bin .geq 3 (tm 7) (.const (.int .i64 0))),
  sv 4 4 8])
  .ret))
def r197 : List Mo := [.mv (tm 4)]
theorem c197_eq : compF Tryz.prog 197 = some c197 := by kernel_rfl
theorem r197_eq : compRs Tryz.prog 197 = some r197 := by kernel_rfl
def c198 : Cd := (.seq (.reg [sm 0 3 (.box (tm 0)),
  sm 1 4 (.mv (.const (.bool false)))])
  (.seq (.reg [sm 0 5 (.ld1 (tm 1)),
  sm 1 6 (.bin .add 3 (tm 5) (.const (.int .i64 1))),
  se 2 (.st 1 (tm 1) (tm 6))])
  (.seq (.reg [sm 0 7 (.ld1 (tm 1)),
  sm 1 8 (.ld1 (tm 2)),
  sm 2 9 (.len (.sl 32) (tm 8)),
  sm 3 10 (.bin .lss 3 (tm 7) (tm 9)),
  sv 4 11 10,
  sg 5 12 11 true (.ld1 (tm 2)),
  sg 6 13 11 true (.ld1 (tm 1)),
  sg 7 14 11 true (.bin .sub 3 (tm 13) (.const (.int .i64 1))),
  sg 8 15 11 true (.ia (.sl 32) (tm 12) (tm 14)),
  sg 9 16 11 true (.ldA 32 (tm 15)),
  sg 10 17 11 true (.ld1 (tm 2)),
  sg 11 18 11 true (.ld1 (tm 1)),
  sg 12 19 11 true (.ia (.sl 32) (tm 17) (tm 18)),
  sg 13 20 11 true (.ldA 32 (tm 19)),
  ⟨14, (some 21), (some ((some 11), true)), .callF 121 [(tm 16), (tm 20)], [], false⟩,
  sg 15 22 11 true (.bin .geq 3 (tm 21) (.const (.int .i64 0))),
  sm 16 23 (.pick (tm 11) (tm 22) (.const (.bool false))),
  sv 17 4 23])
  .ret)))
def r198 : List Mo := [.mv (tm 4)]
theorem c198_eq : compF Tryz.prog 198 = some c198 := by kernel_rfl
theorem r198_eq : compRs Tryz.prog 198 = some r198 := by kernel_rfl
def l199_0 : Cd := (.seq (.reg [sm 0 14 (.bin .lss 3 (tm 13) (tm 12))])
  (.seq (.cond (tm 14) .skip (.exit 0))
  (.seq (.block 1 (.seq (.reg [sv 0 15 13,
  sm 1 16 (.ia (.sl 1) (tm 11) (tm 13)),
  sm 2 17 (.ld1 (tm 16)),
  sv 3 3 15,
  sv 4 4 17])
  (.reg [sv 0 18 3,
  sm 1 19 (.bin .quo 3 (tm 18) (.const (.int .i64 4))),
  sv 2 20 3,
  sm 3 21 (.bin .quo 3 (tm 20) (.const (.int .i64 4))),
  sm 4 22 (.ia (.arr 64 1) (tm 2) (tm 21)),
  sm 5 23 (.ld1 (tm 22)),
  sm 6 24 (.bin .shl 25 (tm 23) (.const (.int .u64 8))),
  sv 7 25 4,
  sm 8 26 (.cint .u32 (tm 25)),
  sm 9 27 (.bin .or 25 (tm 24) (tm 26)),
  sm 10 28 (.ia (.arr 64 1) (tm 2) (tm 19)),
  se 11 (.st 1 (tm 28) (tm 27))])))
  (.reg [sm 0 29 (.bin .add 3 (tm 13) (.const (.int .i64 1))),
  sv 1 13 29]))))
def l199_1 : Cd := (.seq (.seq (.reg [sv 0 30 5,
  sm 1 31 (.bin .lss 3 (tm 30) (.const (.int .i64 64)))])
  (.cond (tm 31) .skip (.exit 2)))
  (.seq (.block 3 (.seq (.reg [sv 0 34 5,
  sm 1 35 (.bin .sub 3 (tm 34) (.const (.int .i64 15))),
  sm 2 36 (.ia (.arr 64 1) (tm 2) (tm 35)),
  sm 3 37 (.ld1 (tm 36)),
  sv 4 38 5,
  sm 5 39 (.bin .sub 3 (tm 38) (.const (.int .i64 2))),
  sm 6 40 (.ia (.arr 64 1) (tm 2) (tm 39)),
  sm 7 41 (.ld1 (tm 40)),
  sv 8 6 37,
  sv 9 7 41])
  (.seq (.reg [sv 0 42 6,
  sc 1 43 203 [(tm 42), (.const (.int .i64 (-7)))],
  sv 2 44 6,
  sc 3 45 203 [(tm 44), (.const (.int .i64 (-18)))],
  sm 4 46 (.bin .xor 25 (tm 43) (tm 45)),
  sv 5 47 6,
  sm 6 48 (.bin .shr 25 (tm 47) (.const (.int .u64 3))),
  sm 7 49 (.bin .xor 25 (tm 46) (tm 48)),
  sv 8 8 49])
  (.seq (.reg [sv 0 50 7,
  sc 1 51 203 [(tm 50), (.const (.int .i64 (-17)))],
  sv 2 52 7,
  sc 3 53 203 [(tm 52), (.const (.int .i64 (-19)))],
  sm 4 54 (.bin .xor 25 (tm 51) (tm 53)),
  sv 5 55 7,
  sm 6 56 (.bin .shr 25 (tm 55) (.const (.int .u64 10))),
  sm 7 57 (.bin .xor 25 (tm 54) (tm 56)),
  sv 8 9 57])
  (.reg [sv 0 58 5,
  sv 1 59 5,
  sm 2 60 (.bin .sub 3 (tm 59) (.const (.int .i64 16))),
  sm 3 61 (.ia (.arr 64 1) (tm 2) (tm 60)),
  sm 4 62 (.ld1 (tm 61)),
  sv 5 63 5,
  sm 6 64 (.bin .sub 3 (tm 63) (.const (.int .i64 7))),
  sm 7 65 (.ia (.arr 64 1) (tm 2) (tm 64)),
  sm 8 66 (.ld1 (tm 65)),
  sm 9 67 (.bin .add 25 (tm 62) (tm 66)),
  sv 10 68 8,
  sm 11 69 (.bin .add 25 (tm 67) (tm 68)),
  sv 12 70 9,
  sm 13 71 (.bin .add 25 (tm 69) (tm 70)),
  sm 14 72 (.ia (.arr 64 1) (tm 2) (tm 58)),
  se 15 (.st 1 (tm 72) (tm 71))])))))
  (.reg [sv 0 32 5,
  sm 1 33 (.bin .add 3 (tm 32) (.const (.int .i64 1))),
  sv 2 5 33])))
def c199 : Cd := (.seq (.reg [sm 0 2 (.alloc (rep 64 (.int .u32 0)))])
  (.seq (.seq (.reg [sv 0 10 0,
  sm 1 11 (.slice (.sl 1) (tm 10) none (some (.const (.int .i64 64))) none),
  sm 2 12 (.len (.sl 1) (tm 11)),
  sm 3 13 (.mv (.const (.int .i64 0)))])
  (.block 0 (.loop l199_0)))
  (.seq (.seq (.reg [sm 0 5 (.mv (.const (.int .i64 16)))])
  (.block 2 (.loop l199_1)))
  (.seq (.reg [sm 0 73 (.ldA 64 (tm 2)),
  se 1 (.st 64 (tm 2) (tm 73))])
  .ret))))
def r199 : List Mo := [.ldA 64 (tm 2)]
theorem c199_eq : compF Tryz.prog 199 = some c199 := by kernel_rfl
theorem r199_eq : compRs Tryz.prog 199 = some r199 := by kernel_rfl
def c200 : Cd := (.seq (.reg [sm 0 8 (.mv (.const (.int .u32 0)))])
  (.seq (.reg [sv 0 9 0,
  sv 1 10 1,
  sm 2 11 (.un .neg (tm 10)),
  sc 3 12 203 [(tm 9), (tm 11)],
  sv 4 13 0,
  sv 5 14 2,
  sm 6 15 (.un .neg (tm 14)),
  sc 7 16 203 [(tm 13), (tm 15)],
  sm 8 17 (.bin .xor 25 (tm 12) (tm 16)),
  sv 9 18 0,
  sv 10 19 3,
  sm 11 20 (.un .neg (tm 19)),
  sc 12 21 203 [(tm 18), (tm 20)],
  sm 13 22 (.bin .xor 25 (tm 17) (tm 21)),
  sv 14 8 22])
  .ret))
def r200 : List Mo := [.mv (tm 8)]
theorem c200_eq : compF Tryz.prog 200 = some c200 := by kernel_rfl
theorem r200_eq : compRs Tryz.prog 200 = some r200 := by kernel_rfl
def c201 : Cd := (.seq (.reg [sm 0 2 (.mv (.const (.int .i64 0))),
  sm 1 3 (.mv (.const (.int .u64 0)))])
  (.seq (.reg [sv 0 4 0,
  sm 1 5 (.bin .shr 27 (tm 4) (.const (.int .u64 52))),
  sm 2 6 (.cint .i64 (tm 5)),
  sm 3 7 (.bin .and 3 (tm 6) (.const (.int .i64 2047))),
  sv 4 8 0,
  sm 5 9 (.bin .and 27 (tm 8) (.const (.int .u64 4503599627370495))),
  sv 6 2 7,
  sv 7 3 9])
  .ret))
def r201 : List Mo := [.mv (tm 2), .mv (tm 3)]
theorem c201_eq : compF Tryz.prog 201 = some c201 := by kernel_rfl
theorem r201_eq : compRs Tryz.prog 201 = some r201 := by kernel_rfl
def l202_0 : Cd := (.seq (.reg [sm 0 9 (.bin .lss 3 (tm 8) (tm 7))])
  (.seq (.cond (tm 9) .skip (.exit 0))
  (.seq (.block 1 (.seq (.reg [sv 0 10 8,
  sv 1 5 10])
  (.seq (.reg [sv 0 11 1,
  sv 1 12 0,
  sv 2 13 5,
  sm 3 14 (.ia (.sl 32) (tm 12) (tm 13)),
  sm 4 15 (.ldA 32 (tm 14)),
  ⟨5, (some 16), none, .callV (tm 11) [(tm 15)], [], false⟩])
  (.cond (tm 16) (.seq (.reg [sv 0 17 5,
  sv 1 4 17])
  .ret) .skip))))
  (.reg [sm 0 18 (.bin .add 3 (tm 8) (.const (.int .i64 1))),
  sv 1 8 18]))))
def c202 : Cd := (.seq (.reg [sm 0 4 (.mv (.const (.int .i64 0)))])
  (.seq (.seq (.reg [sv 0 6 0,
  sm 1 7 (.len (.sl 32) (tm 6)),
  sm 2 8 (.mv (.const (.int .i64 0)))])
  (.block 0 (.loop l202_0)))
  (.seq (.reg [sm 0 4 (.mv (.const (.int .i64 (-1))))])
  .ret)))
def r202 : List Mo := [.mv (tm 4)]
theorem c202_eq : compF Tryz.prog 202 = some c202 := by kernel_rfl
theorem r202_eq : compRs Tryz.prog 202 = some r202 := by kernel_rfl
def c203 : Cd := (.seq (.reg [sm 0 4 (.mv (.const (.int .u32 0)))])
  (.seq (.reg [sv 0 6 1,
  sm 1 7 (.cint .u64 (tm 6)),
  sm 2 8 (.bin .and 125 (tm 7) (.const (.int .u64 31))),
  sv 3 5 8])
  (.seq (.reg [sv 0 9 0,
  sv 1 10 5,
  sm 2 11 (.bin .shl 25 (tm 9) (tm 10)),
  sv 3 12 0,
  sv 4 13 5,
  sm 5 14 (.bin .sub 125 (.const (.int .u64 32)) (tm 13)),
  sm 6 15 (.bin .shr 25 (tm 12) (tm 14)),
  sm 7 16 (.bin .or 25 (tm 11) (tm 15)),
  sv 8 4 16])
  .ret)))
def r203 : List Mo := [.mv (tm 4)]
theorem c203_eq : compF Tryz.prog 203 = some c203 := by kernel_rfl
theorem r203_eq : compRs Tryz.prog 203 = some r203 := by kernel_rfl
def tblT : Tr (Cd × List Mo) := (.node (.node (.node (.node (.node (.node (.node .nil (some (c63, r63)) (.node .nil (some (c191, r191)) .nil)) (some (c31, r31)) (.node (.node .nil (some (c159, r159)) .nil) (some (c95, r95)) .nil)) none (.node (.node (.node .nil (some (c143, r143)) .nil) (some (c79, r79)) .nil) (some (c47, r47)) (.node (.node .nil (some (c175, r175)) .nil) (some (c111, r111)) .nil))) none (.node (.node (.node (.node .nil (some (c135, r135)) .nil) (some (c71, r71)) (.node .nil (some (c199, r199)) .nil)) (some (c39, r39)) (.node (.node .nil (some (c167, r167)) .nil) (some (c103, r103)) .nil)) (some (c23, r23)) (.node (.node (.node .nil (some (c151, r151)) .nil) (some (c87, r87)) .nil) (some (c55, r55)) (.node (.node .nil (some (c183, r183)) .nil) (some (c119, r119)) .nil)))) (some (c3, r3)) (.node (.node (.node (.node .nil (some (c67, r67)) (.node .nil (some (c195, r195)) .nil)) none (.node (.node .nil (some (c163, r163)) .nil) (some (c99, r99)) .nil)) (some (c19, r19)) (.node (.node (.node .nil (some (c147, r147)) .nil) (some (c83, r83)) .nil) (some (c51, r51)) (.node (.node .nil (some (c179, r179)) .nil) (some (c115, r115)) .nil))) (some (c11, r11)) (.node (.node (.node (.node .nil (some (c139, r139)) .nil) (some (c75, r75)) (.node .nil (some (c203, r203)) .nil)) (some (c43, r43)) (.node .nil (some (c107, r107)) .nil)) (some (c27, r27)) (.node (.node (.node .nil (some (c155, r155)) .nil) (some (c91, r91)) .nil) none (.node (.node .nil (some (c187, r187)) .nil) (some (c123, r123)) .nil))))) none (.node (.node (.node (.node (.node .nil (some (c65, r65)) .nil) (some (c33, r33)) (.node .nil (some (c97, r97)) .nil)) (some (c17, r17)) (.node (.node (.node .nil (some (c145, r145)) .nil) (some (c81, r81)) .nil) none (.node (.node .nil (some (c177, r177)) .nil) none .nil))) (some (c9, r9)) (.node (.node (.node (.node .nil (some (c137, r137)) .nil) (some (c73, r73)) (.node .nil (some (c201, r201)) .nil)) (some (c41, r41)) (.node .nil (some (c105, r105)) .nil)) none (.node (.node (.node .nil (some (c153, r153)) .nil) (some (c89, r89)) .nil) (some (c57, r57)) (.node (.node .nil (some (c185, r185)) .nil) (some (c121, r121)) .nil)))) none (.node (.node (.node (.node .nil (some (c69, r69)) (.node .nil (some (c197, r197)) .nil)) none (.node (.node .nil (some (c165, r165)) .nil) (some (c101, r101)) .nil)) none (.node (.node (.node .nil (some (c149, r149)) .nil) (some (c85, r85)) .nil) none (.node (.node .nil (some (c181, r181)) .nil) (some (c117, r117)) .nil))) none (.node (.node (.node (.node .nil (some (c141, r141)) .nil) none .nil) (some (c45, r45)) (.node .nil (some (c109, r109)) .nil)) none (.node (.node (.node .nil (some (c157, r157)) .nil) (some (c93, r93)) .nil) (some (c61, r61)) (.node (.node .nil (some (c189, r189)) .nil) (some (c125, r125)) .nil)))))) none (.node (.node (.node (.node (.node (.node .nil (some (c64, r64)) (.node .nil (some (c192, r192)) .nil)) (some (c32, r32)) (.node (.node .nil (some (c160, r160)) .nil) (some (c96, r96)) .nil)) none (.node (.node (.node .nil (some (c144, r144)) .nil) (some (c80, r80)) .nil) (some (c48, r48)) (.node (.node .nil (some (c176, r176)) .nil) (some (c112, r112)) .nil))) none (.node (.node (.node (.node .nil (some (c136, r136)) .nil) (some (c72, r72)) (.node .nil (some (c200, r200)) .nil)) (some (c40, r40)) (.node (.node .nil (some (c168, r168)) .nil) (some (c104, r104)) .nil)) (some (c24, r24)) (.node (.node (.node .nil (some (c152, r152)) .nil) (some (c88, r88)) .nil) (some (c56, r56)) (.node (.node .nil (some (c184, r184)) .nil) (some (c120, r120)) .nil)))) none (.node (.node (.node (.node .nil (some (c68, r68)) (.node .nil (some (c196, r196)) .nil)) (some (c36, r36)) (.node (.node .nil (some (c164, r164)) .nil) (some (c100, r100)) .nil)) (some (c20, r20)) (.node (.node (.node .nil (some (c148, r148)) .nil) (some (c84, r84)) .nil) (some (c52, r52)) (.node (.node .nil (some (c180, r180)) .nil) (some (c116, r116)) .nil))) none (.node (.node (.node (.node .nil (some (c140, r140)) .nil) (some (c76, r76)) .nil) (some (c44, r44)) (.node .nil (some (c108, r108)) .nil)) none (.node (.node (.node .nil (some (c156, r156)) .nil) (some (c92, r92)) .nil) (some (c60, r60)) (.node (.node .nil (some (c188, r188)) .nil) (some (c124, r124)) .nil))))) none (.node (.node (.node (.node (.node .nil (some (c66, r66)) (.node .nil (some (c194, r194)) .nil)) none (.node (.node .nil (some (c162, r162)) .nil) (some (c98, r98)) .nil)) (some (c18, r18)) (.node (.node (.node .nil (some (c146, r146)) .nil) (some (c82, r82)) .nil) (some (c50, r50)) (.node (.node .nil (some (c178, r178)) .nil) none .nil))) (some (c10, r10)) (.node (.node (.node (.node .nil (some (c138, r138)) .nil) (some (c74, r74)) (.node .nil (some (c202, r202)) .nil)) none (.node .nil (some (c106, r106)) .nil)) none (.node (.node (.node .nil (some (c154, r154)) .nil) (some (c90, r90)) .nil) (some (c58, r58)) (.node (.node .nil (some (c186, r186)) .nil) (some (c122, r122)) .nil)))) (some (c6, r6)) (.node (.node (.node (.node .nil (some (c70, r70)) (.node .nil (some (c198, r198)) .nil)) (some (c38, r38)) (.node (.node .nil (some (c166, r166)) .nil) (some (c102, r102)) .nil)) none (.node (.node (.node .nil (some (c150, r150)) .nil) (some (c86, r86)) .nil) (some (c54, r54)) (.node (.node .nil (some (c182, r182)) .nil) (some (c118, r118)) .nil))) none (.node (.node (.node (.node .nil (some (c142, r142)) .nil) none .nil) (some (c46, r46)) (.node (.node .nil (some (c174, r174)) .nil) (some (c110, r110)) .nil)) (some (c30, r30)) (.node (.node (.node .nil (some (c158, r158)) .nil) (some (c94, r94)) .nil) (some (c62, r62)) (.node (.node .nil (some (c190, r190)) .nil) (some (c126, r126)) .nil)))))))
theorem tbl_all : AllT (TblP Tryz.prog) tblT := (allT_none (allT_none (allT_some ⟨c3_eq, r3_eq⟩ (allT_none (allT_none (allT_some ⟨c31_eq, r31_eq⟩ (allT_some ⟨c63_eq, r63_eq⟩ allT_nil (allT_some ⟨c191_eq, r191_eq⟩ allT_nil allT_nil)) (allT_some ⟨c95_eq, r95_eq⟩ (allT_some ⟨c159_eq, r159_eq⟩ allT_nil allT_nil) allT_nil)) (allT_some ⟨c47_eq, r47_eq⟩ (allT_some ⟨c79_eq, r79_eq⟩ (allT_some ⟨c143_eq, r143_eq⟩ allT_nil allT_nil) allT_nil) (allT_some ⟨c111_eq, r111_eq⟩ (allT_some ⟨c175_eq, r175_eq⟩ allT_nil allT_nil) allT_nil))) (allT_some ⟨c23_eq, r23_eq⟩ (allT_some ⟨c39_eq, r39_eq⟩ (allT_some ⟨c71_eq, r71_eq⟩ (allT_some ⟨c135_eq, r135_eq⟩ allT_nil allT_nil) (allT_some ⟨c199_eq, r199_eq⟩ allT_nil allT_nil)) (allT_some ⟨c103_eq, r103_eq⟩ (allT_some ⟨c167_eq, r167_eq⟩ allT_nil allT_nil) allT_nil)) (allT_some ⟨c55_eq, r55_eq⟩ (allT_some ⟨c87_eq, r87_eq⟩ (allT_some ⟨c151_eq, r151_eq⟩ allT_nil allT_nil) allT_nil) (allT_some ⟨c119_eq, r119_eq⟩ (allT_some ⟨c183_eq, r183_eq⟩ allT_nil allT_nil) allT_nil)))) (allT_some ⟨c11_eq, r11_eq⟩ (allT_some ⟨c19_eq, r19_eq⟩ (allT_none (allT_some ⟨c67_eq, r67_eq⟩ allT_nil (allT_some ⟨c195_eq, r195_eq⟩ allT_nil allT_nil)) (allT_some ⟨c99_eq, r99_eq⟩ (allT_some ⟨c163_eq, r163_eq⟩ allT_nil allT_nil) allT_nil)) (allT_some ⟨c51_eq, r51_eq⟩ (allT_some ⟨c83_eq, r83_eq⟩ (allT_some ⟨c147_eq, r147_eq⟩ allT_nil allT_nil) allT_nil) (allT_some ⟨c115_eq, r115_eq⟩ (allT_some ⟨c179_eq, r179_eq⟩ allT_nil allT_nil) allT_nil))) (allT_some ⟨c27_eq, r27_eq⟩ (allT_some ⟨c43_eq, r43_eq⟩ (allT_some ⟨c75_eq, r75_eq⟩ (allT_some ⟨c139_eq, r139_eq⟩ allT_nil allT_nil) (allT_some ⟨c203_eq, r203_eq⟩ allT_nil allT_nil)) (allT_some ⟨c107_eq, r107_eq⟩ allT_nil allT_nil)) (allT_none (allT_some ⟨c91_eq, r91_eq⟩ (allT_some ⟨c155_eq, r155_eq⟩ allT_nil allT_nil) allT_nil) (allT_some ⟨c123_eq, r123_eq⟩ (allT_some ⟨c187_eq, r187_eq⟩ allT_nil allT_nil) allT_nil))))) (allT_none (allT_some ⟨c9_eq, r9_eq⟩ (allT_some ⟨c17_eq, r17_eq⟩ (allT_some ⟨c33_eq, r33_eq⟩ (allT_some ⟨c65_eq, r65_eq⟩ allT_nil allT_nil) (allT_some ⟨c97_eq, r97_eq⟩ allT_nil allT_nil)) (allT_none (allT_some ⟨c81_eq, r81_eq⟩ (allT_some ⟨c145_eq, r145_eq⟩ allT_nil allT_nil) allT_nil) (allT_none (allT_some ⟨c177_eq, r177_eq⟩ allT_nil allT_nil) allT_nil))) (allT_none (allT_some ⟨c41_eq, r41_eq⟩ (allT_some ⟨c73_eq, r73_eq⟩ (allT_some ⟨c137_eq, r137_eq⟩ allT_nil allT_nil) (allT_some ⟨c201_eq, r201_eq⟩ allT_nil allT_nil)) (allT_some ⟨c105_eq, r105_eq⟩ allT_nil allT_nil)) (allT_some ⟨c57_eq, r57_eq⟩ (allT_some ⟨c89_eq, r89_eq⟩ (allT_some ⟨c153_eq, r153_eq⟩ allT_nil allT_nil) allT_nil) (allT_some ⟨c121_eq, r121_eq⟩ (allT_some ⟨c185_eq, r185_eq⟩ allT_nil allT_nil) allT_nil)))) (allT_none (allT_none (allT_none (allT_some ⟨c69_eq, r69_eq⟩ allT_nil (allT_some ⟨c197_eq, r197_eq⟩ allT_nil allT_nil)) (allT_some ⟨c101_eq, r101_eq⟩ (allT_some ⟨c165_eq, r165_eq⟩ allT_nil allT_nil) allT_nil)) (allT_none (allT_some ⟨c85_eq, r85_eq⟩ (allT_some ⟨c149_eq, r149_eq⟩ allT_nil allT_nil) allT_nil) (allT_some ⟨c117_eq, r117_eq⟩ (allT_some ⟨c181_eq, r181_eq⟩ allT_nil allT_nil) allT_nil))) (allT_none (allT_some ⟨c45_eq, r45_eq⟩ (allT_none (allT_some ⟨c141_eq, r141_eq⟩ allT_nil allT_nil) allT_nil) (allT_some ⟨c109_eq, r109_eq⟩ allT_nil allT_nil)) (allT_some ⟨c61_eq, r61_eq⟩ (allT_some ⟨c93_eq, r93_eq⟩ (allT_some ⟨c157_eq, r157_eq⟩ allT_nil allT_nil) allT_nil) (allT_some ⟨c125_eq, r125_eq⟩ (allT_some ⟨c189_eq, r189_eq⟩ allT_nil allT_nil) allT_nil)))))) (allT_none (allT_none (allT_none (allT_none (allT_some ⟨c32_eq, r32_eq⟩ (allT_some ⟨c64_eq, r64_eq⟩ allT_nil (allT_some ⟨c192_eq, r192_eq⟩ allT_nil allT_nil)) (allT_some ⟨c96_eq, r96_eq⟩ (allT_some ⟨c160_eq, r160_eq⟩ allT_nil allT_nil) allT_nil)) (allT_some ⟨c48_eq, r48_eq⟩ (allT_some ⟨c80_eq, r80_eq⟩ (allT_some ⟨c144_eq, r144_eq⟩ allT_nil allT_nil) allT_nil) (allT_some ⟨c112_eq, r112_eq⟩ (allT_some ⟨c176_eq, r176_eq⟩ allT_nil allT_nil) allT_nil))) (allT_some ⟨c24_eq, r24_eq⟩ (allT_some ⟨c40_eq, r40_eq⟩ (allT_some ⟨c72_eq, r72_eq⟩ (allT_some ⟨c136_eq, r136_eq⟩ allT_nil allT_nil) (allT_some ⟨c200_eq, r200_eq⟩ allT_nil allT_nil)) (allT_some ⟨c104_eq, r104_eq⟩ (allT_some ⟨c168_eq, r168_eq⟩ allT_nil allT_nil) allT_nil)) (allT_some ⟨c56_eq, r56_eq⟩ (allT_some ⟨c88_eq, r88_eq⟩ (allT_some ⟨c152_eq, r152_eq⟩ allT_nil allT_nil) allT_nil) (allT_some ⟨c120_eq, r120_eq⟩ (allT_some ⟨c184_eq, r184_eq⟩ allT_nil allT_nil) allT_nil)))) (allT_none (allT_some ⟨c20_eq, r20_eq⟩ (allT_some ⟨c36_eq, r36_eq⟩ (allT_some ⟨c68_eq, r68_eq⟩ allT_nil (allT_some ⟨c196_eq, r196_eq⟩ allT_nil allT_nil)) (allT_some ⟨c100_eq, r100_eq⟩ (allT_some ⟨c164_eq, r164_eq⟩ allT_nil allT_nil) allT_nil)) (allT_some ⟨c52_eq, r52_eq⟩ (allT_some ⟨c84_eq, r84_eq⟩ (allT_some ⟨c148_eq, r148_eq⟩ allT_nil allT_nil) allT_nil) (allT_some ⟨c116_eq, r116_eq⟩ (allT_some ⟨c180_eq, r180_eq⟩ allT_nil allT_nil) allT_nil))) (allT_none (allT_some ⟨c44_eq, r44_eq⟩ (allT_some ⟨c76_eq, r76_eq⟩ (allT_some ⟨c140_eq, r140_eq⟩ allT_nil allT_nil) allT_nil) (allT_some ⟨c108_eq, r108_eq⟩ allT_nil allT_nil)) (allT_some ⟨c60_eq, r60_eq⟩ (allT_some ⟨c92_eq, r92_eq⟩ (allT_some ⟨c156_eq, r156_eq⟩ allT_nil allT_nil) allT_nil) (allT_some ⟨c124_eq, r124_eq⟩ (allT_some ⟨c188_eq, r188_eq⟩ allT_nil allT_nil) allT_nil))))) (allT_some ⟨c6_eq, r6_eq⟩ (allT_some ⟨c10_eq, r10_eq⟩ (allT_some ⟨c18_eq, r18_eq⟩ (allT_none (allT_some ⟨c66_eq, r66_eq⟩ allT_nil (allT_some ⟨c194_eq, r194_eq⟩ allT_nil allT_nil)) (allT_some ⟨c98_eq, r98_eq⟩ (allT_some ⟨c162_eq, r162_eq⟩ allT_nil allT_nil) allT_nil)) (allT_some ⟨c50_eq, r50_eq⟩ (allT_some ⟨c82_eq, r82_eq⟩ (allT_some ⟨c146_eq, r146_eq⟩ allT_nil allT_nil) allT_nil) (allT_none (allT_some ⟨c178_eq, r178_eq⟩ allT_nil allT_nil) allT_nil))) (allT_none (allT_none (allT_some ⟨c74_eq, r74_eq⟩ (allT_some ⟨c138_eq, r138_eq⟩ allT_nil allT_nil) (allT_some ⟨c202_eq, r202_eq⟩ allT_nil allT_nil)) (allT_some ⟨c106_eq, r106_eq⟩ allT_nil allT_nil)) (allT_some ⟨c58_eq, r58_eq⟩ (allT_some ⟨c90_eq, r90_eq⟩ (allT_some ⟨c154_eq, r154_eq⟩ allT_nil allT_nil) allT_nil) (allT_some ⟨c122_eq, r122_eq⟩ (allT_some ⟨c186_eq, r186_eq⟩ allT_nil allT_nil) allT_nil)))) (allT_none (allT_none (allT_some ⟨c38_eq, r38_eq⟩ (allT_some ⟨c70_eq, r70_eq⟩ allT_nil (allT_some ⟨c198_eq, r198_eq⟩ allT_nil allT_nil)) (allT_some ⟨c102_eq, r102_eq⟩ (allT_some ⟨c166_eq, r166_eq⟩ allT_nil allT_nil) allT_nil)) (allT_some ⟨c54_eq, r54_eq⟩ (allT_some ⟨c86_eq, r86_eq⟩ (allT_some ⟨c150_eq, r150_eq⟩ allT_nil allT_nil) allT_nil) (allT_some ⟨c118_eq, r118_eq⟩ (allT_some ⟨c182_eq, r182_eq⟩ allT_nil allT_nil) allT_nil))) (allT_some ⟨c30_eq, r30_eq⟩ (allT_some ⟨c46_eq, r46_eq⟩ (allT_none (allT_some ⟨c142_eq, r142_eq⟩ allT_nil allT_nil) allT_nil) (allT_some ⟨c110_eq, r110_eq⟩ (allT_some ⟨c174_eq, r174_eq⟩ allT_nil allT_nil) allT_nil)) (allT_some ⟨c62_eq, r62_eq⟩ (allT_some ⟨c94_eq, r94_eq⟩ (allT_some ⟨c158_eq, r158_eq⟩ allT_nil allT_nil) allT_nil) (allT_some ⟨c126_eq, r126_eq⟩ (allT_some ⟨c190_eq, r190_eq⟩ allT_nil allT_nil) allT_nil)))))))
theorem tbl_ok : TblOk Tryz.prog (fun f => tblT.get f) := tblOk_of tbl_all
end Go.CM
