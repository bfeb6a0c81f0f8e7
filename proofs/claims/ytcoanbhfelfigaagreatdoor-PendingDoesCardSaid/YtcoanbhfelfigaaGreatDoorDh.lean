/-
  The code of the functions, without types, as the canonical machine reads it (printed by program).
-/
import Derived.Test.YtcoanbhfelfigaaGreatDoorDg
import Derived.Test.YtcoanbhfelfigaaGreatDoorRows
import Derived.ProofKit
set_option linter.unusedVariables false
set_option linter.unusedSimpArgs false
set_option linter.unnecessarySimpa false
namespace Go.CM
open Go Go.Proofs
set_option maxRecDepth 100000
def l3_0 : Cd := (.seq (.seq (.reg [sv 0 74 13,
 sv 1 75 10,
 sm 2 76 (.len (.sl 45) (tm 75)),
 sm 3 77 (.bin .lss 3 (tm 74) (tm 76))])
 (.cond (tm 77) .skip (.exit 2)))
 (.seq (.block 3 (.seq (.reg [sm 0 80 (.ldA 2 (tm 2)),
 sv 1 81 10,
 sv 2 82 13,
 sm 3 83 (.ia (.sl 45) (tm 81) (tm 82)),
 sm 4 84 (.fa 12 (tm 83)),
 sm 5 85 (.ldA 32 (tm 84)),
 sc 6 86 12 [(tm 80), (tm 85)],
 sv 7 14 86])
 (.seq (.seq (.reg [sv 0 87 14,
 sm 1 88 (.bin .lss 3 (tm 87) (.const (.int .i64 0))),
 sv 2 89 88,
 sg 3 90 89 false (.mv (tm 10)),
 sg 4 91 89 false (.mv (tm 13)),
 sg 5 92 89 false (.ia (.sl 45) (tm 90) (tm 91)),
 sg 6 93 89 false (.fa 0 (tm 92)),
 sg 7 94 89 false (.ld1 (tm 93)),
 sg 8 95 89 false (.mv (tm 12)),
 sg 9 96 89 false (.bin .leq 3 (tm 94) (tm 95)),
 sm 10 97 (.pick (tm 89) (.const (.bool true)) (tm 96)),
 sv 11 98 97,
 sg 12 99 98 false (.mv (tm 10)),
 sg 13 100 98 false (.mv (tm 13)),
 sg 14 101 98 false (.ia (.sl 45) (tm 99) (tm 100)),
 sg 15 102 98 false (.fa 0 (tm 101)),
 sg 16 103 98 false (.ld1 (tm 102)),
 sg 17 104 98 false (.fa 1 (tm 2)),
 sg 18 105 98 false (.ld1 (tm 104)),
 sg 19 106 98 false (.mv (tm 14)),
 sg 20 107 98 false (.ia (.sl 45) (tm 105) (tm 106)),
 sg 21 108 98 false (.fa 0 (tm 107)),
 sg 22 109 98 false (.ld1 (tm 108)),
 sg 23 110 98 false (.bin .neq 3 (tm 103) (tm 109)),
 sm 24 111 (.pick (tm 98) (.const (.bool true)) (tm 110)),
 sv 25 112 111,
 sg 26 113 112 false (.fa 1 (tm 2)),
 sg 27 114 112 false (.ld1 (tm 113)),
 sg 28 115 112 false (.mv (tm 14)),
 sg 29 116 112 false (.ia (.sl 45) (tm 114) (tm 115)),
 sg 30 117 112 false (.fa 44 (tm 116)),
 sg 31 118 112 false (.ld1 (tm 117)),
 sg 32 119 112 false (.mv (tm 1)),
 sg 33 120 112 false (.mv (tm 8)),
 sg 34 121 112 false (.ia (.sl 32) (tm 119) (tm 120)),
 sg 35 122 112 false (.ldA 32 (tm 121)),
 ⟨36, (some 123), (some ((some 112), false)), .callF 13 [(tm 118), (tm 122)], [], false⟩,
 sg 37 124 112 false (.un .not (tm 123)),
 sm 38 125 (.pick (tm 112) (.const (.bool true)) (tm 124)),
 sv 39 126 125,
 sg 40 127 126 false (.fa 1 (tm 2)),
 sg 41 128 126 false (.ld1 (tm 127)),
 sg 42 129 126 false (.mv (tm 14)),
 sg 43 130 126 false (.ia (.sl 45) (tm 128) (tm 129)),
 sg 44 131 126 false (.fa 44 (tm 130)),
 sg 45 132 126 false (.ld1 (tm 131)),
 sg 46 133 126 false (.mv (tm 7)),
 ⟨47, (some 134), (some ((some 126), false)), .callF 14 [(tm 132), (tm 133)], [], false⟩,
 sg 48 135 126 false (.un .not (tm 134)),
 sm 49 136 (.pick (tm 126) (.const (.bool true)) (tm 135))])
 (.cond (tm 136) (.seq (.reg [sm 0 4 (.mv (.const (.bool false)))])
 .ret) .skip))
 (.reg [sv 0 137 10,
 sv 1 138 13,
 sm 2 139 (.ia (.sl 45) (tm 137) (tm 138)),
 sm 3 140 (.fa 0 (tm 139)),
 sm 4 141 (.ld1 (tm 140)),
 sv 5 12 141]))))
 (.reg [sv 0 78 13,
 sm 1 79 (.bin .add 3 (tm 78) (.const (.int .i64 1))),
 sv 2 13 79])))
def l3_1 : Cd := (.seq (.seq (.reg [sv 0 142 15,
 sm 1 143 (.fa 1 (tm 9)),
 sm 2 144 (.ld1 (tm 143)),
 sm 3 145 (.len (.sl 45) (tm 144)),
 sm 4 146 (.bin .lss 3 (tm 142) (tm 145))])
 (.cond (tm 146) .skip (.exit 4)))
 (.seq (.block 5 (.seq (.reg [sm 0 149 (.ldA 2 (tm 2)),
 sm 1 150 (.fa 1 (tm 9)),
 sm 2 151 (.ld1 (tm 150)),
 sv 3 152 15,
 sm 4 153 (.ia (.sl 45) (tm 151) (tm 152)),
 sm 5 154 (.fa 12 (tm 153)),
 sm 6 155 (.ldA 32 (tm 154)),
 sc 7 156 12 [(tm 149), (tm 155)],
 sv 8 16 156])
 (.seq (.reg [sv 0 157 16,
 sm 1 158 (.bin .lss 3 (tm 157) (.const (.int .i64 0))),
 sv 2 159 158,
 sg 3 160 159 false (.fa 1 (tm 2)),
 sg 4 161 159 false (.ld1 (tm 160)),
 sg 5 162 159 false (.mv (tm 16)),
 sg 6 163 159 false (.ia (.sl 45) (tm 161) (tm 162)),
 sg 7 164 159 false (.fa 44 (tm 163)),
 sg 8 165 159 false (.ld1 (tm 164)),
 sg 9 166 159 false (.mv (tm 7)),
 ⟨10, (some 167), (some ((some 159), false)), .callF 14 [(tm 165), (tm 166)], [], false⟩,
 sm 11 168 (.pick (tm 159) (.const (.bool true)) (tm 167))])
 (.cond (tm 168) (.seq (.reg [sm 0 4 (.mv (.const (.bool false)))])
 .ret) .skip))))
 (.reg [sv 0 147 15,
 sm 1 148 (.bin .add 3 (tm 147) (.const (.int .i64 1))),
 sv 2 15 148])))
def l3_2 : Cd := (.seq (.seq (.reg [sv 0 32 8,
 sv 1 33 1,
 sm 2 34 (.len (.sl 32) (tm 33)),
 sm 3 35 (.bin .lss 3 (tm 32) (tm 34))])
 (.cond (tm 35) .skip (.exit 0)))
 (.seq (.block 1 (.seq (.dreg [sm 0 39 (.ldA 2 (tm 6)),
 sv 1 40 1,
 sv 2 41 8,
 sm 3 42 (.ia (.sl 32) (tm 40) (tm 41)),
 sm 4 43 (.ldA 32 (tm 42)),
 ⟨10, (some 9), none, .mo (.alloc [.int .i64 0, .nilS]), [], true⟩,
 ⟨5, (some 44), none, .callF 10 [(tm 39), (tm 43)], [10], false⟩,
 sv 6 38 44,
 sm 7 45 (.ext (tm 38) 0),
 sm 8 46 (.ext (tm 38) 1),
 sm 9 47 (.ext (tm 38) 2),
 se 11 (.st 2 (tm 9) (tm 45)),
 sv 12 10 46,
 sv 13 11 47])
 (.seq (.reg [sv 0 48 7,
 sv 1 49 1,
 sv 2 50 8,
 sm 3 51 (.ia (.sl 32) (tm 49) (tm 50)),
 sm 4 52 (.ldA 32 (tm 51)),
 sm 5 53 (.bsl 32 (rep 32 (.int .u8 0)) 1 [(0, (tm 52))]),
 sm 6 54 (.app 32 32 (tm 48) (tm 53)),
 sv 7 7 54])
 (.seq (.seq (.reg [sv 0 55 11,
 sm 1 56 (.bin .neq 28 (tm 55) (.const (.int .i64 0))),
 sv 2 57 56,
 sg 3 58 57 false (.ldA 2 (tm 9)),
 ⟨4, (some 59), (some ((some 57), false)), .callF 11 [(tm 58)], [], false⟩,
 sg 5 60 57 false (.bin .neq 3 (tm 59) (.const (.int .i64 0))),
 sm 6 61 (.pick (tm 57) (.const (.bool true)) (tm 60)),
 sv 7 62 61,
 sg 8 63 62 false (.fa 1 (tm 9)),
 sg 9 64 62 false (.ld1 (tm 63)),
 sg 10 65 62 false (.len (.sl 45) (tm 64)),
 sg 11 66 62 false (.mv (tm 10)),
 sg 12 67 62 false (.len (.sl 45) (tm 66)),
 sg 13 68 62 false (.bin .add 3 (tm 65) (tm 67)),
 sg 14 69 62 false (.fa 1 (tm 6)),
 sg 15 70 62 false (.ld1 (tm 69)),
 sg 16 71 62 false (.len (.sl 45) (tm 70)),
 sg 17 72 62 false (.bin .neq 3 (tm 68) (tm 71)),
 sm 18 73 (.pick (tm 62) (.const (.bool true)) (tm 72))])
 (.cond (tm 73) (.seq (.reg [sm 0 4 (.mv (.const (.bool false)))])
 .ret) .skip))
 (.seq (.reg [sm 0 12 (.mv (.const (.int .i64 (-1))))])
 (.seq (.seq (.reg [sm 0 13 (.mv (.const (.int .i64 0)))])
 (.block 2 (.loop l3_0)))
 (.seq (.seq (.reg [sm 0 15 (.mv (.const (.int .i64 0)))])
 (.block 4 (.loop l3_1)))
 (.reg [sm 0 169 (.ldA 2 (tm 9)),
 se 1 (.st 2 (tm 6) (tm 169))]))))))))
 (.reg [sv 0 36 8,
 sm 1 37 (.bin .add 3 (tm 36) (.const (.int .i64 1))),
 sv 2 8 37])))
def c3 : Cd := (.seq (.reg [sm 0 2 (.box (tm 0)),
 sm 1 4 (.mv (.const (.bool false)))])
 (.seq (.reg [sc 0 17 8 [],
 sv 1 5 17])
 (.seq (.seq (.reg [sm 0 18 (.ldA 2 (tm 2)),
 sc 1 19 9 [(tm 18)],
 sm 2 20 (.un .not (tm 19)),
 sv 3 21 20,
 sg 4 22 21 false (.mv (tm 1)),
 sg 5 23 21 false (.len (.sl 32) (tm 22)),
 sg 6 24 21 false (.bin .gtr 3 (tm 23) (.const (.int .i64 40))),
 sm 7 25 (.pick (tm 21) (.const (.bool true)) (tm 24)),
 sv 8 26 25,
 sg 9 27 26 false (.mv (tm 5)),
 sg 10 28 26 false (.un .not (tm 27)),
 sm 11 29 (.pick (tm 26) (.const (.bool true)) (tm 28))])
 (.cond (tm 29) (.seq (.reg [sv 0 30 5,
 sv 1 4 30])
 .ret) .skip))
 (.seq (.reg [sm 0 31 (.ldA 2 (tm 2)),
 sm 1 6 (.alloc [.int .i64 0, .nilS]),
 se 2 (.st 2 (tm 6) (tm 31))])
 (.seq (.reg [sm 0 7 (.mv (.const (.slice none 0 0)))])
 (.seq (.seq (.reg [sm 0 8 (.mv (.const (.int .i64 0)))])
 (.block 0 (.loop l3_2)))
 (.seq (.reg [sv 0 170 5,
 sv 1 4 170])
 .ret)))))))
def r3 : List Mo := [.mv (tm 4)]
theorem c3_eq : compF Tryz.prog 3 = some c3 := by kernel_rfl
theorem r3_eq : compRs Tryz.prog 3 = some r3 := by kernel_rfl
def l4_0 : Cd := (.seq (.seq (.reg [sv 0 63 13,
 sv 1 64 6,
 sm 2 65 (.len (.sl 32) (tm 64)),
 sm 3 66 (.bin .lss 3 (tm 63) (tm 65))])
 (.cond (tm 66) .skip (.exit 0)))
 (.seq (.block 1 (.seq (.dreg [sm 0 70 (.ldA 2 (tm 11)),
 sv 1 71 6,
 sv 2 72 13,
 sm 3 73 (.ia (.sl 32) (tm 71) (tm 72)),
 sm 4 74 (.ldA 32 (tm 73)),
 ⟨10, (some 14), none, .mo (.alloc [.int .i64 0, .nilS]), [], true⟩,
 ⟨5, (some 75), none, .callF 10 [(tm 70), (tm 74)], [10], false⟩,
 sv 6 69 75,
 sm 7 76 (.ext (tm 69) 0),
 sm 8 77 (.ext (tm 69) 1),
 sm 9 78 (.ext (tm 69) 2),
 se 11 (.st 2 (tm 14) (tm 76)),
 sv 12 15 77,
 sv 13 16 78])
 (.seq (.seq (.reg [sv 0 79 16,
 sm 1 80 (.bin .neq 28 (tm 79) (.const (.int .i64 0))),
 sv 2 81 80,
 sg 3 82 81 false (.mv (tm 13)),
 sg 4 83 81 false (.bin .gtr 3 (tm 82) (.const (.int .i64 0))),
 sg 5 84 81 false (.mv (tm 83)),
 sg 6 85 84 true (.mv (tm 6)),
 sg 7 86 84 true (.mv (tm 13)),
 sg 8 87 84 true (.bin .sub 3 (tm 86) (.const (.int .i64 1))),
 sg 9 88 84 true (.ia (.sl 32) (tm 85) (tm 87)),
 sg 10 89 84 true (.ldA 32 (tm 88)),
 sg 11 90 84 true (.mv (tm 6)),
 sg 12 91 84 true (.mv (tm 13)),
 sg 13 92 84 true (.ia (.sl 32) (tm 90) (tm 91)),
 sg 14 93 84 true (.ldA 32 (tm 92)),
 sg 15 94 84 true (.bin .eql 32 (tm 89) (tm 93)),
 sg 16 95 81 false (.pick (tm 84) (tm 94) (.const (.bool false))),
 sm 17 96 (.pick (tm 81) (.const (.bool true)) (tm 95))])
 (.cond (tm 96) (.seq (.reg [sm 0 4 (.mv (.const (.bool false)))])
 .ret) .skip))
 (.reg [sm 0 97 (.ldA 2 (tm 14)),
 sv 1 98 12,
 sv 2 99 15,
 sm 3 100 (.len (.sl 45) (tm 99)),
 sm 4 101 (.bin .add 3 (tm 98) (tm 100)),
 se 5 (.st 2 (tm 11) (tm 97)),
 sv 6 12 101]))))
 (.reg [sv 0 67 13,
 sm 1 68 (.bin .add 3 (tm 67) (.const (.int .i64 1))),
 sv 2 13 68])))
def c4 : Cd := (.seq (.reg [sm 0 2 (.box (tm 0)),
 sm 1 3 (.box (tm 1)),
 sm 2 4 (.mv (.const (.bool false)))])
 (.seq (.reg [sc 0 17 8 [],
 sv 1 5 17])
 (.seq (.seq (.reg [sm 0 18 (.ldA 2 (tm 2)),
 sc 1 19 9 [(tm 18)],
 sm 2 20 (.un .not (tm 19)),
 sv 3 21 20,
 sg 4 22 21 false (.mv (tm 5)),
 sg 5 23 21 false (.un .not (tm 22)),
 sm 6 24 (.pick (tm 21) (.const (.bool true)) (tm 23))])
 (.cond (tm 24) (.seq (.reg [sv 0 25 5,
 sv 1 4 25])
 .ret) .skip))
 (.seq (.reg [sm 0 27 (.ldA 2 (tm 2)),
 sc 1 28 15 [(tm 27)],
 sv 2 26 28,
 sm 3 29 (.ext (tm 26) 0),
 sm 4 30 (.ext (tm 26) 1),
 sv 5 6 29,
 sv 6 7 30])
 (.seq (.seq (.reg [sv 0 31 7,
 sm 1 32 (.bin .neq 28 (tm 31) (.const (.int .i64 0))),
 sv 2 33 32,
 sg 3 34 33 false (.mv (tm 6)),
 sg 4 35 33 false (.len (.sl 32) (tm 34)),
 sg 5 36 33 false (.bin .gtr 3 (tm 35) (.const (.int .i64 40))),
 sm 6 37 (.pick (tm 33) (.const (.bool true)) (tm 36))])
 (.cond (tm 37) (.seq (.reg [sm 0 4 (.mv (.const (.bool false)))])
 .ret) .skip))
 (.seq (.seq (.reg [sv 0 38 6,
 sm 1 39 (.ldA 32 (tm 3)),
 sc 2 40 13 [(tm 38), (tm 39)],
 sm 3 41 (.un .not (tm 40))])
 (.cond (tm 41) (.seq (.reg [sm 0 43 (.ldA 2 (tm 2)),
 sm 1 44 (.ldA 32 (tm 3)),
 sc 2 45 10 [(tm 43), (tm 44)],
 sv 3 42 45,
 sm 4 46 (.ext (tm 42) 0),
 sm 5 47 (.ext (tm 42) 1),
 sm 6 48 (.ext (tm 42) 2),
 sm 7 8 (.alloc [.int .i64 0, .nilS]),
 se 8 (.st 2 (tm 8) (tm 46)),
 sv 9 9 47,
 sv 10 10 48])
 (.seq (.reg [sv 0 49 10,
 sm 1 50 (.bin .neq 28 (tm 49) (.const (.int .i64 0))),
 sv 2 51 50,
 sg 3 52 51 false (.mv (tm 9)),
 sg 4 53 51 false (.len (.sl 45) (tm 52)),
 sg 5 54 51 false (.bin .neq 3 (tm 53) (.const (.int .i64 0))),
 sm 6 55 (.pick (tm 51) (.const (.bool true)) (tm 54)),
 sv 7 56 55,
 sg 8 57 56 false (.ldA 2 (tm 8)),
 sg 9 58 56 false (.ldA 2 (tm 2)),
 ⟨10, (some 59), (some ((some 56), false)), .callF 16 [(tm 57), (tm 58)], [], false⟩,
 sg 11 60 56 false (.un .not (tm 59)),
 sm 12 61 (.pick (tm 56) (.const (.bool true)) (tm 60))])
 (.cond (tm 61) (.seq (.reg [sm 0 4 (.mv (.const (.bool false)))])
 .ret) .skip))) .skip))
 (.seq (.reg [sm 0 62 (.ldA 2 (tm 2)),
 sm 1 11 (.alloc [.int .i64 0, .nilS]),
 se 2 (.st 2 (tm 11) (tm 62)),
 sm 3 12 (.mv (.const (.int .i64 0)))])
 (.seq (.seq (.reg [sm 0 13 (.mv (.const (.int .i64 0)))])
 (.block 0 (.loop l4_0)))
 (.seq (.reg [sv 0 102 5,
 sv 1 103 102,
 sg 2 104 103 true (.fa 1 (tm 11)),
 sg 3 105 103 true (.ld1 (tm 104)),
 sg 4 106 103 true (.len (.sl 45) (tm 105)),
 sg 5 107 103 true (.bin .eql 3 (tm 106) (.const (.int .i64 0))),
 sm 6 108 (.pick (tm 103) (tm 107) (.const (.bool false))),
 sv 7 109 108,
 sg 8 110 109 true (.mv (tm 12)),
 sg 9 111 109 true (.fa 1 (tm 2)),
 sg 10 112 109 true (.ld1 (tm 111)),
 sg 11 113 109 true (.len (.sl 45) (tm 112)),
 sg 12 114 109 true (.bin .eql 3 (tm 110) (tm 113)),
 sm 13 115 (.pick (tm 109) (tm 114) (.const (.bool false))),
 sv 14 4 115])
 .ret)))))))))
def r4 : List Mo := [.mv (tm 4)]
theorem c4_eq : compF Tryz.prog 4 = some c4 := by kernel_rfl
theorem r4_eq : compRs Tryz.prog 4 = some r4 := by kernel_rfl
def c5 : Cd := (.seq (.reg [sm 0 7 (.box (tm 1)),
 sm 1 9 (.box (tm 3)),
 sm 2 11 (.box (tm 5)),
 sm 3 12 (.mv (.const (.bool false)))])
 (.seq (.seq (.reg [sm 0 36 (.ldA 2 (tm 7)),
 sc 1 37 17 [(tm 36)],
 sv 2 38 37,
 sg 3 39 38 false (.ldA 11 (tm 9)),
 ⟨4, (some 40), (some ((some 38), false)), .callF 18 [(tm 39)], [], false⟩,
 sm 5 41 (.pick (tm 38) (.const (.bool true)) (tm 40)),
 sv 6 42 41,
 sg 7 43 42 false (.mv (tm 4)),
 sg 8 44 42 false (.len (.sl 32) (tm 43)),
 sg 9 45 42 false (.bin .gtr 3 (tm 44) (.const (.int .i64 40))),
 sm 10 46 (.pick (tm 42) (.const (.bool true)) (tm 45))])
 (.cond (tm 46) (.seq (.reg [sm 0 12 (.mv (.const (.bool true)))])
 .ret) .skip))
 (.seq (.reg [sm 0 47 (.ldA 2 (tm 7)),
 sc 1 48 19 [(tm 47)],
 sm 2 13 (.alloc [.int .i64 0, .nilS]),
 se 3 (.st 2 (tm 13) (tm 48))])
 (.seq (.reg [sv 0 50 0,
 sc 1 51 20 [(tm 50)],
 sv 2 49 51,
 sm 3 52 (.ext (tm 49) 0),
 sm 4 53 (.ext (tm 49) 1),
 sm 5 14 (.alloc [.int .i64 0, .nilS]),
 se 6 (.st 2 (tm 14) (tm 52)),
 sv 7 15 53])
 (.seq (.reg [sv 0 55 0,
 sc 1 56 21 [(tm 55)],
 sv 2 54 56,
 sm 3 57 (.ext (tm 54) 0),
 sm 4 58 (.ext (tm 54) 1),
 sm 5 16 (.alloc [.int .i64 0, .nilS]),
 se 6 (.st 2 (tm 16) (tm 57)),
 sv 7 17 58])
 (.seq (.reg [sm 0 60 (.ldA 2 (tm 13)),
 sv 1 61 2,
 sm 2 62 (.ldA 11 (tm 9)),
 sv 3 63 4,
 sc 4 64 22 [(tm 60), (tm 61), (tm 62), (tm 63)],
 sv 5 59 64,
 sm 6 65 (.ext (tm 59) 0),
 sm 7 66 (.ext (tm 59) 1),
 sm 8 18 (.alloc [.int .i64 0, .nilS]),
 se 9 (.st 2 (tm 18) (tm 65)),
 sv 10 19 66])
 (.seq (.reg [sm 0 68 (.ldA 2 (tm 7)),
 sv 1 69 2,
 sm 2 70 (.ldA 11 (tm 9)),
 sv 3 71 4,
 sc 4 72 23 [(tm 68), (tm 69), (tm 70), (tm 71)],
 sv 5 67 72,
 sm 6 73 (.ext (tm 67) 0),
 sm 7 74 (.ext (tm 67) 1),
 sm 8 20 (.alloc [.int .i64 0, .nilS]),
 se 9 (.st 2 (tm 20) (tm 73)),
 sv 10 21 74])
 (.seq (.reg [sm 0 76 (.ldA 2 (tm 13)),
 sm 1 77 (.ldA 32 (tm 11)),
 sc 2 78 10 [(tm 76), (tm 77)],
 sv 3 75 78,
 sm 4 79 (.ext (tm 75) 0),
 sm 5 80 (.ext (tm 75) 1),
 sm 6 81 (.ext (tm 75) 2),
 sm 7 22 (.alloc [.int .i64 0, .nilS]),
 se 8 (.st 2 (tm 22) (tm 79)),
 sv 9 23 80,
 sv 10 24 81])
 (.seq (.reg [sm 0 83 (.ldA 2 (tm 7)),
 sm 1 84 (.ldA 32 (tm 11)),
 sc 2 85 24 [(tm 83), (tm 84)],
 sv 3 82 85,
 sm 4 86 (.ext (tm 82) 0),
 sm 5 87 (.ext (tm 82) 1),
 sm 6 88 (.ext (tm 82) 2),
 sm 7 25 (.alloc [.int .i64 0, .nilS]),
 se 8 (.st 2 (tm 25) (tm 86)),
 sv 9 26 87,
 sv 10 27 88])
 (.seq (.seq (.reg [sm 0 89 (.ldA 2 (tm 14)),
 sm 1 90 (.ldA 2 (tm 16)),
 sc 2 91 16 [(tm 89), (tm 90)],
 sm 3 92 (.un .not (tm 91)),
 sv 4 93 92,
 sg 5 94 93 false (.mv (tm 15)),
 sg 6 95 93 false (.mv (tm 17)),
 sg 7 96 93 false (.bin .neq 3 (tm 94) (tm 95)),
 sm 8 97 (.pick (tm 93) (.const (.bool true)) (tm 96)),
 sv 9 98 97,
 sg 10 99 98 false (.ldA 2 (tm 18)),
 sg 11 100 98 false (.ldA 2 (tm 20)),
 ⟨12, (some 101), (some ((some 98), false)), .callF 16 [(tm 99), (tm 100)], [], false⟩,
 sg 13 102 98 false (.un .not (tm 101)),
 sm 14 103 (.pick (tm 98) (.const (.bool true)) (tm 102)),
 sv 15 104 103,
 sg 16 105 104 false (.mv (tm 19)),
 sg 17 106 104 false (.mv (tm 21)),
 sg 18 107 104 false (.bin .neq 3 (tm 105) (tm 106)),
 sm 19 108 (.pick (tm 104) (.const (.bool true)) (tm 107)),
 sv 20 109 108,
 sg 21 110 109 false (.ldA 2 (tm 22)),
 sg 22 111 109 false (.ldA 2 (tm 25)),
 ⟨23, (some 112), (some ((some 109), false)), .callF 16 [(tm 110), (tm 111)], [], false⟩,
 sg 24 113 109 false (.un .not (tm 112)),
 sm 25 114 (.pick (tm 109) (.const (.bool true)) (tm 113)),
 sv 26 115 114,
 sg 27 116 115 false (.mv (tm 23)),
 sg 28 117 115 false (.mv (tm 26)),
 ⟨29, (some 118), (some ((some 115), false)), .callF 25 [(tm 116), (tm 117)], [], false⟩,
 sg 30 119 115 false (.un .not (tm 118)),
 sm 31 120 (.pick (tm 115) (.const (.bool true)) (tm 119)),
 sv 32 121 120,
 sg 33 122 121 false (.mv (tm 24)),
 sg 34 123 121 false (.mv (tm 27)),
 sg 35 124 121 false (.bin .neq 3 (tm 122) (tm 123)),
 sm 36 125 (.pick (tm 121) (.const (.bool true)) (tm 124))])
 (.cond (tm 125) (.seq (.reg [sm 0 12 (.mv (.const (.bool false)))])
 .ret) .skip))
 (.seq (.reg [sm 0 127 (.ldA 2 (tm 13)),
 sm 1 128 (.ldA 32 (tm 11)),
 sc 2 129 26 [(tm 127), (tm 128)],
 sv 3 126 129,
 sm 4 130 (.ext (tm 126) 0),
 sm 5 131 (.ext (tm 126) 1),
 sv 6 28 130,
 sv 7 29 131])
 (.seq (.reg [sm 0 133 (.ldA 2 (tm 7)),
 sm 1 134 (.ldA 32 (tm 11)),
 sc 2 135 27 [(tm 133), (tm 134)],
 sv 3 132 135,
 sm 4 136 (.ext (tm 132) 0),
 sm 5 137 (.ext (tm 132) 1),
 sv 6 30 136,
 sv 7 31 137])
 (.seq (.reg [sm 0 139 (.ldA 2 (tm 13)),
 sc 1 140 15 [(tm 139)],
 sv 2 138 140,
 sm 3 141 (.ext (tm 138) 0),
 sm 4 142 (.ext (tm 138) 1),
 sv 5 32 141,
 sv 6 33 142])
 (.seq (.reg [sm 0 144 (.ldA 2 (tm 7)),
 sc 1 145 28 [(tm 144)],
 sv 2 143 145,
 sm 3 146 (.ext (tm 143) 0),
 sm 4 147 (.ext (tm 143) 1),
 sv 5 34 146,
 sv 6 35 147])
 (.seq (.dreg [sm 0 148 (.ldA 2 (tm 13)),
 ⟨2, (some 150), none, .mo (.ldA 2 (tm 7)), [], true⟩,
 ⟨1, (some 149), none, .callF 29 [(tm 148)], [2], false⟩,
 sc 3 151 11 [(tm 150)],
 sm 4 152 (.bin .eql 3 (tm 149) (tm 151)),
 sv 5 153 152,
 sg 6 154 153 true (.mv (tm 28)),
 sg 7 155 153 true (.mv (tm 30)),
 sg 8 156 153 true (.bin .eql 4 (tm 154) (tm 155)),
 sm 9 157 (.pick (tm 153) (tm 156) (.const (.bool false))),
 sv 10 158 157,
 sg 11 159 158 true (.mv (tm 29)),
 sg 12 160 158 true (.mv (tm 31)),
 sg 13 161 158 true (.bin .eql 3 (tm 159) (tm 160)),
 sm 14 162 (.pick (tm 158) (tm 161) (.const (.bool false))),
 sv 15 163 162,
 sg 16 164 163 true (.mv (tm 32)),
 sg 17 165 163 true (.mv (tm 34)),
 ⟨18, (some 166), (some ((some 163), true)), .callF 30 [(tm 164), (tm 165)], [], false⟩,
 sm 19 167 (.pick (tm 163) (tm 166) (.const (.bool false))),
 sv 20 168 167,
 sg 21 169 168 true (.mv (tm 33)),
 sg 22 170 168 true (.mv (tm 35)),
 sg 23 171 168 true (.bin .eql 3 (tm 169) (tm 170)),
 sm 24 172 (.pick (tm 168) (tm 171) (.const (.bool false))),
 sv 25 173 172,
 sg 26 174 173 true (.ldA 2 (tm 13)),
 sg 27 175 173 true (.ldA 2 (tm 7)),
 ⟨28, (some 176), (some ((some 173), true)), .callF 16 [(tm 174), (tm 175)], [], false⟩,
 sm 29 177 (.pick (tm 173) (tm 176) (.const (.bool false))),
 sv 30 12 177])
 .ret)))))))))))))))
def r5 : List Mo := [.mv (tm 12)]
theorem c5_eq : compF Tryz.prog 5 = some c5 := by kernel_rfl
theorem r5_eq : compRs Tryz.prog 5 = some r5 := by kernel_rfl
def c9 : Cd := (.seq (.reg [sm 0 1 (.box (tm 0)),
 sm 1 2 (.mv (.const (.bool false)))])
 (.seq (.reg [sm 0 3 (.ldA 2 (tm 1)),
 sc 1 4 17 [(tm 3)],
 sm 2 5 (.un .not (tm 4)),
 sv 3 6 5,
 sg 4 7 6 true (.ldA 2 (tm 1)),
 ⟨5, (some 8), (some ((some 6), true)), .callF 11 [(tm 7)], [], false⟩,
 sg 6 9 6 true (.bin .eql 3 (tm 8) (.const (.int .i64 0))),
 sm 7 10 (.pick (tm 6) (tm 9) (.const (.bool false))),
 sv 8 2 10])
 .ret))
def r9 : List Mo := [.mv (tm 2)]
theorem c9_eq : compF Tryz.prog 9 = some c9 := by kernel_rfl
theorem r9_eq : compRs Tryz.prog 9 = some r9 := by kernel_rfl
def l10_0 : Cd := (.seq (.reg [sm 0 25 (.bin .lss 3 (tm 24) (tm 23))])
 (.seq (.cond (tm 25) .skip (.exit 0))
 (.seq (.block 1 (.seq (.reg [sm 0 26 (.ia (.sl 45) (tm 22) (tm 24)),
 sm 1 27 (.ldA 45 (tm 26)),
 sm 2 11 (.alloc ([.int .i64 0, .int .u32 0, .nilS, .int .u64 0, .int .u8 0, .str [], .int .u8 0, .int .i64 0, .int .u64 0, .str [], .int .u32 0, .int .u32 0] ++ rep 32 (.int .u8 0) ++ [.nilS])),
 se 3 (.st 45 (tm 11) (tm 27))])
 (.seq (.reg [sm 0 28 (.ldA 45 (tm 11)),
 sc 1 29 35 [(tm 28)],
 se 2 (.st 45 (tm 11) (tm 29))])
 (.seq (.reg [sm 0 30 (.fa 44 (tm 11)),
 sm 1 31 (.ld1 (tm 30)),
 sm 2 32 (.mkF 37 [] [(tm 3)]),
 sc 3 33 36 [(tm 31), (tm 32)],
 sm 4 34 (.fa 44 (tm 11)),
 se 5 (.st 1 (tm 34) (tm 33))])
 (.seq (.reg [sm 0 35 (.fa 44 (tm 11)),
 sm 1 36 (.ld1 (tm 35)),
 sm 2 37 (.len (.sl 32) (tm 36)),
 sm 3 38 (.bin .eql 3 (tm 37) (.const (.int .i64 0)))])
 (.cond (tm 38) (.reg [sv 0 39 9,
 sm 1 40 (.ldA 45 (tm 11)),
 sm 2 41 (.bsl 45 ([.int .i64 0, .int .u32 0, .nilS, .int .u64 0, .int .u8 0, .str [], .int .u8 0, .int .i64 0, .int .u64 0, .str [], .int .u32 0, .int .u32 0] ++ rep 32 (.int .u8 0) ++ [.nilS]) 1 [(0, (tm 40))]),
 sm 3 42 (.app 45 176 (tm 39) (tm 41)),
 sv 4 9 42]) (.reg [sm 0 43 (.fa 1 (tm 8)),
 sm 1 44 (.ld1 (tm 43)),
 sm 2 45 (.ldA 45 (tm 11)),
 sm 3 46 (.bsl 45 ([.int .i64 0, .int .u32 0, .nilS, .int .u64 0, .int .u8 0, .str [], .int .u8 0, .int .i64 0, .int .u64 0, .str [], .int .u32 0, .int .u32 0] ++ rep 32 (.int .u8 0) ++ [.nilS]) 1 [(0, (tm 45))]),
 sm 4 47 (.app 45 176 (tm 44) (tm 46)),
 sm 5 48 (.fa 1 (tm 8)),
 se 6 (.st 1 (tm 48) (tm 47))])))))))
 (.reg [sm 0 49 (.bin .add 3 (tm 24) (.const (.int .i64 1))),
 sv 1 24 49]))))
def c10 : Cd := (.seq (.reg [sm 0 2 (.box (tm 0)),
 sm 1 3 (.box (tm 1)),
 sm 2 4 (.alloc [.int .i64 0, .nilS]),
 sm 3 5 (.mv (.const (.slice none 0 0))),
 sm 4 6 (.mv (.const (.int .i64 0)))])
 (.seq (.seq (.reg [sm 0 12 (.ldA 2 (tm 2)),
 sc 1 13 29 [(tm 12)],
 sv 2 7 13])
 (.seq (.reg [sv 0 14 7,
 sm 1 15 (.bin .neq 28 (tm 14) (.const (.int .i64 0)))])
 (.cond (tm 15) (.seq (.reg [sm 0 16 (.bld [.int .i64 0, .nilS] []),
 sv 1 17 7,
 se 2 (.st 2 (tm 4) (tm 16)),
 sm 3 5 (.mv (.const (.slice none 0 0))),
 sv 4 6 17])
 .ret) .skip)))
 (.seq (.reg [sm 0 18 (.fa 0 (tm 2)),
 sm 1 19 (.ld1 (tm 18)),
 sm 2 20 (.bld [.int .i64 0, .nilS] [(0, 1, (tm 19))]),
 sm 3 8 (.alloc [.int .i64 0, .nilS]),
 se 4 (.st 2 (tm 8) (tm 20))])
 (.seq (.reg [sm 0 9 (.mv (.const (.slice none 0 0)))])
 (.seq (.seq (.reg [sm 0 21 (.fa 1 (tm 2)),
 sm 1 22 (.ld1 (tm 21)),
 sm 2 23 (.len (.sl 45) (tm 22)),
 sm 3 24 (.mv (.const (.int .i64 0)))])
 (.block 0 (.loop l10_0)))
 (.seq (.reg [sm 0 50 (.ldA 2 (tm 8)),
 sv 1 51 9,
 se 2 (.st 2 (tm 4) (tm 50)),
 sv 3 5 51,
 sm 4 6 (.mv (.const (.int .i64 0)))])
 .ret))))))
def r10 : List Mo := [.ldA 2 (tm 4), .mv (tm 5), .mv (tm 6)]
theorem c10_eq : compF Tryz.prog 10 = some c10 := by kernel_rfl
theorem r10_eq : compRs Tryz.prog 10 = some r10 := by kernel_rfl
def l11_0 : Cd := (.seq (.seq (.reg [sv 0 23 3,
 sm 1 24 (.fa 1 (tm 1)),
 sm 2 25 (.ld1 (tm 24)),
 sm 3 26 (.len (.sl 45) (tm 25)),
 sm 4 27 (.bin .lss 3 (tm 23) (tm 26))])
 (.cond (tm 27) .skip (.exit 0)))
 (.seq (.block 1 (.seq (.reg [sm 0 30 (.fa 1 (tm 1)),
 sm 1 31 (.ld1 (tm 30)),
 sv 2 32 3,
 sm 3 33 (.ia (.sl 45) (tm 31) (tm 32)),
 sm 4 34 (.ldA 45 (tm 33)),
 sm 5 4 (.alloc ([.int .i64 0, .int .u32 0, .nilS, .int .u64 0, .int .u8 0, .str [], .int .u8 0, .int .i64 0, .int .u64 0, .str [], .int .u32 0, .int .u32 0] ++ rep 32 (.int .u8 0) ++ [.nilS])),
 se 6 (.st 45 (tm 4) (tm 34))])
 (.seq (.seq (.reg [sm 0 35 (.fa 0 (tm 4)),
 sm 1 36 (.ld1 (tm 35)),
 sm 2 37 (.bin .lss 3 (tm 36) (.const (.int .i64 0))),
 sv 3 38 37,
 sg 4 39 38 false (.fa 0 (tm 4)),
 sg 5 40 38 false (.ld1 (tm 39)),
 sg 6 41 38 false (.bin .gtr 3 (tm 40) (.const (.int .i64 1000000000))),
 sm 7 42 (.pick (tm 38) (.const (.bool true)) (tm 41)),
 sv 8 43 42,
 sg 9 44 43 false (.mv (tm 3)),
 sg 10 45 43 false (.bin .gtr 3 (tm 44) (.const (.int .i64 0))),
 sg 11 46 43 false (.mv (tm 45)),
 sg 12 47 46 true (.fa 1 (tm 1)),
 sg 13 48 46 true (.ld1 (tm 47)),
 sg 14 49 46 true (.mv (tm 3)),
 sg 15 50 46 true (.bin .sub 3 (tm 49) (.const (.int .i64 1))),
 sg 16 51 46 true (.ia (.sl 45) (tm 48) (tm 50)),
 sg 17 52 46 true (.fa 0 (tm 51)),
 sg 18 53 46 true (.ld1 (tm 52)),
 sg 19 54 46 true (.fa 0 (tm 4)),
 sg 20 55 46 true (.ld1 (tm 54)),
 sg 21 56 46 true (.bin .geq 3 (tm 53) (tm 55)),
 sg 22 57 43 false (.pick (tm 46) (tm 56) (.const (.bool false))),
 sm 23 58 (.pick (tm 43) (.const (.bool true)) (tm 57)),
 sv 24 59 58,
 sg 25 60 59 false (.ldA 2 (tm 1)),
 sg 26 61 59 false (.fa 12 (tm 4)),
 sg 27 62 59 false (.ldA 32 (tm 61)),
 sg 29 64 59 false (.mv (tm 3)),
 ⟨28, (some 63), (some ((some 59), false)), .callF 12 [(tm 60), (tm 62)], [], false⟩,
 sg 30 65 59 false (.bin .neq 3 (tm 63) (tm 64)),
 sm 31 66 (.pick (tm 59) (.const (.bool true)) (tm 65))])
 (.cond (tm 66) (.seq (.reg [sm 0 2 (.mv (.const (.int .i64 8)))])
 .ret) .skip))
 (.seq (.reg [sm 0 68 (.fa 1 (tm 4)),
 sm 1 69 (.ldA 11 (tm 68)),
 sc 2 70 33 [(tm 69)],
 sv 3 67 70,
 sm 4 71 (.ext (tm 67) 0),
 sm 5 72 (.ext (tm 67) 1),
 sm 6 5 (.alloc (rep 32 (.int .u8 0))),
 se 7 (.st 32 (tm 5) (tm 71)),
 sv 8 6 72])
 (.seq (.reg [sv 0 73 6,
 sm 1 74 (.bin .neq 3 (tm 73) (.const (.int .i64 0))),
 sv 2 75 74,
 sg 3 76 75 false (.ldA 32 (tm 5)),
 sg 4 77 75 false (.fa 12 (tm 4)),
 sg 5 78 75 false (.ldA 32 (tm 77)),
 sg 6 79 75 false (.bin .neq 32 (tm 76) (tm 78)),
 sm 7 80 (.pick (tm 75) (.const (.bool true)) (tm 79)),
 sv 8 81 80,
 sg 9 82 81 false (.fa 1 (tm 4)),
 sg 10 83 81 false (.ldA 11 (tm 82)),
 sg 11 84 81 false (.fa 44 (tm 4)),
 sg 12 85 81 false (.ld1 (tm 84)),
 ⟨13, (some 86), (some ((some 81), false)), .callF 38 [(tm 83), (tm 85)], [], false⟩,
 sg 14 87 81 false (.un .not (tm 86)),
 sm 15 88 (.pick (tm 81) (.const (.bool true)) (tm 87))])
 (.cond (tm 88) (.seq (.reg [sm 0 2 (.mv (.const (.int .i64 8)))])
 .ret) .skip))))))
 (.reg [sv 0 28 3,
 sm 1 29 (.bin .add 3 (tm 28) (.const (.int .i64 1))),
 sv 2 3 29])))
def c11 : Cd := (.seq (.reg [sm 0 1 (.box (tm 0)),
 sm 1 2 (.mv (.const (.int .i64 0)))])
 (.seq (.seq (.reg [sm 0 7 (.fa 0 (tm 1)),
 sm 1 8 (.ld1 (tm 7)),
 sm 2 9 (.bin .lss 3 (tm 8) (.const (.int .i64 1))),
 sv 3 10 9,
 sg 4 11 10 false (.fa 0 (tm 1)),
 sg 5 12 10 false (.ld1 (tm 11)),
 sg 6 13 10 false (.bin .gtr 3 (tm 12) (.const (.int .i64 8))),
 sm 7 14 (.pick (tm 10) (.const (.bool true)) (tm 13)),
 sv 8 15 14,
 sg 9 16 15 false (.fa 1 (tm 1)),
 sg 10 17 15 false (.ld1 (tm 16)),
 sg 11 18 15 false (.len (.sl 45) (tm 17)),
 sg 12 19 15 false (.fa 0 (tm 1)),
 sg 13 20 15 false (.ld1 (tm 19)),
 sg 14 21 15 false (.bin .gtr 3 (tm 18) (tm 20)),
 sm 15 22 (.pick (tm 15) (.const (.bool true)) (tm 21))])
 (.cond (tm 22) (.seq (.reg [sm 0 2 (.mv (.const (.int .i64 8)))])
 .ret) .skip))
 (.seq (.seq (.reg [sm 0 3 (.mv (.const (.int .i64 0)))])
 (.block 0 (.loop l11_0)))
 (.seq (.reg [sm 0 2 (.mv (.const (.int .i64 0)))])
 .ret))))
def r11 : List Mo := [.mv (tm 2)]
theorem c11_eq : compF Tryz.prog 11 = some c11 := by kernel_rfl
theorem r11_eq : compRs Tryz.prog 11 = some r11 := by kernel_rfl
def l12_0 : Cd := (.seq (.seq (.reg [sv 0 6 5,
 sm 1 7 (.fa 1 (tm 2)),
 sm 2 8 (.ld1 (tm 7)),
 sm 3 9 (.len (.sl 45) (tm 8)),
 sm 4 10 (.bin .lss 3 (tm 6) (tm 9))])
 (.cond (tm 10) .skip (.exit 0)))
 (.seq (.block 1 (.seq (.reg [sm 0 13 (.fa 1 (tm 2)),
 sm 1 14 (.ld1 (tm 13)),
 sv 2 15 5,
 sm 3 16 (.ia (.sl 45) (tm 14) (tm 15)),
 sm 4 17 (.fa 12 (tm 16)),
 sm 5 18 (.ldA 32 (tm 17)),
 sm 6 19 (.ldA 32 (tm 3)),
 sm 7 20 (.bin .eql 32 (tm 18) (tm 19))])
 (.cond (tm 20) (.seq (.reg [sv 0 21 5,
 sv 1 4 21])
 .ret) .skip)))
 (.reg [sv 0 11 5,
 sm 1 12 (.bin .add 3 (tm 11) (.const (.int .i64 1))),
 sv 2 5 12])))
def c12 : Cd := (.seq (.reg [sm 0 2 (.box (tm 0)),
 sm 1 3 (.box (tm 1)),
 sm 2 4 (.mv (.const (.int .i64 0)))])
 (.seq (.seq (.reg [sm 0 5 (.mv (.const (.int .i64 0)))])
 (.block 0 (.loop l12_0)))
 (.seq (.reg [sm 0 4 (.mv (.const (.int .i64 (-1))))])
 .ret)))
def r12 : List Mo := [.mv (tm 4)]
theorem c12_eq : compF Tryz.prog 12 = some c12 := by kernel_rfl
theorem r12_eq : compRs Tryz.prog 12 = some r12 := by kernel_rfl
def l13_0 : Cd := (.seq (.seq (.reg [sv 0 6 5,
 sv 1 7 0,
 sm 2 8 (.len (.sl 32) (tm 7)),
 sm 3 9 (.bin .lss 3 (tm 6) (tm 8))])
 (.cond (tm 9) .skip (.exit 0)))
 (.seq (.block 1 (.seq (.reg [sv 0 12 0,
 sv 1 13 5,
 sm 2 14 (.ia (.sl 32) (tm 12) (tm 13)),
 sm 3 15 (.ldA 32 (tm 14)),
 sm 4 16 (.ldA 32 (tm 3)),
 sm 5 17 (.bin .eql 32 (tm 15) (tm 16))])
 (.cond (tm 17) (.seq (.reg [sm 0 4 (.mv (.const (.bool true)))])
 .ret) .skip)))
 (.reg [sv 0 10 5,
 sm 1 11 (.bin .add 3 (tm 10) (.const (.int .i64 1))),
 sv 2 5 11])))
def c13 : Cd := (.seq (.reg [sm 0 3 (.box (tm 1)),
 sm 1 4 (.mv (.const (.bool false)))])
 (.seq (.seq (.reg [sm 0 5 (.mv (.const (.int .i64 0)))])
 (.block 0 (.loop l13_0)))
 (.seq (.reg [sm 0 4 (.mv (.const (.bool false)))])
 .ret)))
def r13 : List Mo := [.mv (tm 4)]
theorem c13_eq : compF Tryz.prog 13 = some c13 := by kernel_rfl
theorem r13_eq : compRs Tryz.prog 13 = some r13 := by kernel_rfl
def l14_0 : Cd := (.seq (.seq (.reg [sv 0 6 5,
 sv 1 7 0,
 sm 2 8 (.len (.sl 32) (tm 7)),
 sm 3 9 (.bin .lss 3 (tm 6) (tm 8))])
 (.cond (tm 9) .skip (.exit 0)))
 (.seq (.block 1 (.seq (.reg [sv 0 12 1,
 sv 1 13 0,
 sv 2 14 5,
 sm 3 15 (.ia (.sl 32) (tm 13) (tm 14)),
 sm 4 16 (.ldA 32 (tm 15)),
 sc 5 17 13 [(tm 12), (tm 16)],
 sm 6 18 (.un .not (tm 17))])
 (.cond (tm 18) (.seq (.reg [sm 0 4 (.mv (.const (.bool false)))])
 .ret) .skip)))
 (.reg [sv 0 10 5,
 sm 1 11 (.bin .add 3 (tm 10) (.const (.int .i64 1))),
 sv 2 5 11])))
def c14 : Cd := (.seq (.reg [sm 0 4 (.mv (.const (.bool false)))])
 (.seq (.seq (.reg [sm 0 5 (.mv (.const (.int .i64 0)))])
 (.block 0 (.loop l14_0)))
 (.seq (.reg [sm 0 4 (.mv (.const (.bool true)))])
 .ret)))
def r14 : List Mo := [.mv (tm 4)]
theorem c14_eq : compF Tryz.prog 14 = some c14 := by kernel_rfl
theorem r14_eq : compRs Tryz.prog 14 = some r14 := by kernel_rfl
def l15_0 : Cd := (.seq (.reg [sm 0 17 (.bin .lss 3 (tm 16) (tm 15))])
 (.seq (.cond (tm 17) .skip (.exit 0))
 (.seq (.block 1 (.seq (.reg [sm 0 18 (.ia (.sl 45) (tm 14) (tm 16)),
 sm 1 19 (.ldA 45 (tm 18)),
 sm 2 7 (.alloc ([.int .i64 0, .int .u32 0, .nilS, .int .u64 0, .int .u8 0, .str [], .int .u8 0, .int .i64 0, .int .u64 0, .str [], .int .u32 0, .int .u32 0] ++ rep 32 (.int .u8 0) ++ [.nilS])),
 se 3 (.st 45 (tm 7) (tm 19))])
 (.reg [sv 0 20 5,
 sm 1 21 (.fa 44 (tm 7)),
 sm 2 22 (.ld1 (tm 21)),
 sm 3 23 (.app 32 32 (tm 20) (tm 22)),
 sv 4 5 23])))
 (.reg [sm 0 24 (.bin .add 3 (tm 16) (.const (.int .i64 1))),
 sv 1 16 24]))))
def c15 : Cd := (.seq (.reg [sm 0 1 (.box (tm 0)),
 sm 1 2 (.mv (.const (.slice none 0 0))),
 sm 2 3 (.mv (.const (.int .i64 0)))])
 (.seq (.seq (.reg [sm 0 8 (.ldA 2 (tm 1)),
 sc 1 9 29 [(tm 8)],
 sv 2 4 9])
 (.seq (.reg [sv 0 10 4,
 sm 1 11 (.bin .neq 28 (tm 10) (.const (.int .i64 0)))])
 (.cond (tm 11) (.seq (.reg [sv 0 12 4,
 sm 1 2 (.mv (.const (.slice none 0 0))),
 sv 2 3 12])
 .ret) .skip)))
 (.seq (.reg [sm 0 5 (.mv (.const (.slice none 0 0)))])
 (.seq (.seq (.reg [sm 0 13 (.fa 1 (tm 1)),
 sm 1 14 (.ld1 (tm 13)),
 sm 2 15 (.len (.sl 45) (tm 14)),
 sm 3 16 (.mv (.const (.int .i64 0)))])
 (.block 0 (.loop l15_0)))
 (.seq (.reg [sv 0 25 5,
 sc 1 26 39 [(tm 25), (.func 40)]])
 (.seq (.reg [sv 0 27 5,
 sc 1 28 41 [(tm 27)],
 sv 2 2 28,
 sm 3 3 (.mv (.const (.int .i64 0)))])
 .ret))))))
def r15 : List Mo := [.mv (tm 2), .mv (tm 3)]
theorem c15_eq : compF Tryz.prog 15 = some c15 := by kernel_rfl
theorem r15_eq : compRs Tryz.prog 15 = some r15 := by kernel_rfl
def c16 : Cd := (.seq (.reg [sm 0 2 (.box (tm 0)),
 sm 1 3 (.box (tm 1)),
 sm 2 4 (.mv (.const (.bool false)))])
 (.seq (.reg [sm 0 5 (.fa 0 (tm 2)),
 sm 1 6 (.ld1 (tm 5)),
 sm 2 7 (.fa 0 (tm 3)),
 sm 3 8 (.ld1 (tm 7)),
 sm 4 9 (.bin .eql 3 (tm 6) (tm 8)),
 sv 5 10 9,
 sg 6 11 10 true (.fa 1 (tm 2)),
 sg 7 12 10 true (.ld1 (tm 11)),
 sg 8 13 10 true (.fa 1 (tm 3)),
 sg 9 14 10 true (.ld1 (tm 13)),
 ⟨10, (some 15), (some ((some 10), true)), .callF 25 [(tm 12), (tm 14)], [], false⟩,
 sm 11 16 (.pick (tm 10) (tm 15) (.const (.bool false))),
 sv 12 4 16])
 .ret))
def r16 : List Mo := [.mv (tm 4)]
theorem c16_eq : compF Tryz.prog 16 = some c16 := by kernel_rfl
theorem r16_eq : compRs Tryz.prog 16 = some r16 := by kernel_rfl
def l17_0 : Cd := (.seq (.seq (.reg [sv 0 4 3,
 sm 1 5 (.fa 1 (tm 1)),
 sm 2 6 (.ld1 (tm 5)),
 sm 3 7 (.len (.sl 45) (tm 6)),
 sm 4 8 (.bin .lss 3 (tm 4) (tm 7)),
 sv 5 9 8,
 sg 6 10 9 true (.mv (tm 3)),
 sg 7 11 9 true (.bin .leq 3 (tm 10) (.const (.int .i64 20))),
 sm 8 12 (.pick (tm 9) (tm 11) (.const (.bool false)))])
 (.cond (tm 12) .skip (.exit 0)))
 (.seq (.block 1 (.seq (.reg [sm 0 15 (.fa 1 (tm 1)),
 sm 1 16 (.ld1 (tm 15)),
 sv 2 17 3,
 sm 3 18 (.ia (.sl 45) (tm 16) (tm 17)),
 sm 4 19 (.fa 1 (tm 18)),
 sm 5 20 (.ldA 11 (tm 19)),
 sc 6 21 18 [(tm 20)],
 sv 7 22 21,
 sg 8 23 22 false (.fa 1 (tm 1)),
 sg 9 24 22 false (.ld1 (tm 23)),
 sg 10 25 22 false (.mv (tm 3)),
 sg 11 26 22 false (.ia (.sl 45) (tm 24) (tm 25)),
 sg 12 27 22 false (.fa 44 (tm 26)),
 sg 13 28 22 false (.ld1 (tm 27)),
 sg 14 29 22 false (.len (.sl 32) (tm 28)),
 sg 15 30 22 false (.bin .gtr 3 (tm 29) (.const (.int .i64 40))),
 sm 16 31 (.pick (tm 22) (.const (.bool true)) (tm 30))])
 (.cond (tm 31) (.seq (.reg [sm 0 2 (.mv (.const (.bool true)))])
 .ret) .skip)))
 (.reg [sv 0 13 3,
 sm 1 14 (.bin .add 3 (tm 13) (.const (.int .i64 1))),
 sv 2 3 14])))
def c17 : Cd := (.seq (.reg [sm 0 1 (.box (tm 0)),
 sm 1 2 (.mv (.const (.bool false)))])
 (.seq (.seq (.reg [sm 0 3 (.mv (.const (.int .i64 0)))])
 (.block 0 (.loop l17_0)))
 (.seq (.reg [sm 0 32 (.fa 1 (tm 1)),
 sm 1 33 (.ld1 (tm 32)),
 sm 2 34 (.len (.sl 45) (tm 33)),
 sm 3 35 (.bin .gtr 3 (tm 34) (.const (.int .i64 20))),
 sv 4 2 35])
 .ret)))
def r17 : List Mo := [.mv (tm 2)]
theorem c17_eq : compF Tryz.prog 17 = some c17 := by kernel_rfl
theorem r17_eq : compRs Tryz.prog 17 = some r17 := by kernel_rfl
def c18 : Cd := (.seq (.reg [sm 0 1 (.box (tm 0)),
 sm 1 2 (.mv (.const (.bool false)))])
 (.seq (.reg [sm 0 3 (.fa 1 (tm 1)),
 sm 1 4 (.ld1 (tm 3)),
 sm 2 5 (.len (.sl 32) (tm 4)),
 sm 3 6 (.bin .gtr 3 (tm 5) (.const (.int .i64 40))),
 sv 4 7 6,
 sg 5 8 7 false (.fa 3 (tm 1)),
 sg 6 9 7 false (.fa 1 (tm 8)),
 sg 7 10 7 false (.ld1 (tm 9)),
 sg 8 11 7 false (.len .str (tm 10)),
 sg 9 12 7 false (.bin .gtr 3 (tm 11) (.const (.int .i64 100))),
 sm 10 13 (.pick (tm 7) (.const (.bool true)) (tm 12)),
 sv 11 14 13,
 sg 12 15 14 false (.fa 3 (tm 1)),
 sg 13 16 14 false (.fa 2 (tm 15)),
 sg 14 17 14 false (.fa 3 (tm 16)),
 sg 15 18 14 false (.ld1 (tm 17)),
 sg 16 19 14 false (.len .str (tm 18)),
 sg 17 20 14 false (.bin .gtr 3 (tm 19) (.const (.int .i64 100))),
 sm 18 21 (.pick (tm 14) (.const (.bool true)) (tm 20)),
 sv 19 2 21])
 .ret))
def r18 : List Mo := [.mv (tm 2)]
theorem c18_eq : compF Tryz.prog 18 = some c18 := by kernel_rfl
theorem r18_eq : compRs Tryz.prog 18 = some r18 := by kernel_rfl
def l19_0 : Cd := (.seq (.seq (.reg [sv 0 8 4,
 sm 1 9 (.fa 1 (tm 1)),
 sm 2 10 (.ld1 (tm 9)),
 sm 3 11 (.len (.sl 45) (tm 10)),
 sm 4 12 (.bin .lss 3 (tm 8) (tm 11))])
 (.cond (tm 12) .skip (.exit 0)))
 (.seq (.block 1 (.dreg [sm 0 15 (.fa 1 (tm 3)),
 ⟨1, (some 16), none, .mo (.ld1 (tm 15)), [], true⟩,
 sm 2 17 (.fa 1 (tm 1)),
 sm 3 18 (.ld1 (tm 17)),
 sv 4 19 4,
 sm 5 20 (.ia (.sl 45) (tm 18) (tm 19)),
 sm 6 21 (.ldA 45 (tm 20)),
 ⟨7, (some 22), none, .callF 42 [(tm 21)], [1], false⟩,
 sm 8 23 (.bsl 45 ([.int .i64 0, .int .u32 0, .nilS, .int .u64 0, .int .u8 0, .str [], .int .u8 0, .int .i64 0, .int .u64 0, .str [], .int .u32 0, .int .u32 0] ++ rep 32 (.int .u8 0) ++ [.nilS]) 1 [(0, (tm 22))]),
 sm 9 24 (.app 45 176 (tm 16) (tm 23)),
 sm 10 25 (.fa 1 (tm 3)),
 se 11 (.st 1 (tm 25) (tm 24))]))
 (.reg [sv 0 13 4,
 sm 1 14 (.bin .add 3 (tm 13) (.const (.int .i64 1))),
 sv 2 4 14])))
def c19 : Cd := (.seq (.reg [sm 0 1 (.box (tm 0)),
 sm 1 2 (.alloc [.int .i64 0, .nilS])])
 (.seq (.reg [sm 0 5 (.fa 0 (tm 1)),
 sm 1 6 (.ld1 (tm 5)),
 sm 2 7 (.bld [.int .i64 0, .nilS] [(0, 1, (tm 6))]),
 sm 3 3 (.alloc [.int .i64 0, .nilS]),
 se 4 (.st 2 (tm 3) (tm 7))])
 (.seq (.seq (.reg [sm 0 4 (.mv (.const (.int .i64 0)))])
 (.block 0 (.loop l19_0)))
 (.seq (.reg [sm 0 26 (.ldA 2 (tm 3)),
 se 1 (.st 2 (tm 2) (tm 26))])
 .ret))))
def r19 : List Mo := [.ldA 2 (tm 2)]
theorem c19_eq : compF Tryz.prog 19 = some c19 := by kernel_rfl
theorem r19_eq : compRs Tryz.prog 19 = some r19 := by kernel_rfl
def c20 : Cd := (.seq (.reg [sm 0 2 (.alloc [.int .i64 0, .nilS]),
 sm 1 3 (.mv (.const (.int .i64 0)))])
 (.seq (.seq (.reg [sv 0 4 0,
 sm 1 5 (.bin .lss 3 (tm 4) (.const (.int .i64 1))),
 sv 2 6 5,
 sg 3 7 6 false (.mv (tm 0)),
 sg 4 8 6 false (.bin .gtr 3 (tm 7) (.const (.int .i64 8))),
 sm 5 9 (.pick (tm 6) (.const (.bool true)) (tm 8))])
 (.cond (tm 9) (.seq (.reg [sm 0 10 (.bld [.int .i64 0, .nilS] []),
 se 1 (.st 2 (tm 2) (tm 10)),
 sm 2 3 (.mv (.const (.int .i64 2)))])
 .ret) .skip))
 (.seq (.reg [sv 0 11 0,
 sm 1 12 (.bld [.int .i64 0, .nilS] [(0, 1, (tm 11))]),
 se 2 (.st 2 (tm 2) (tm 12)),
 sm 3 3 (.mv (.const (.int .i64 0)))])
 .ret)))
def r20 : List Mo := [.ldA 2 (tm 2), .mv (tm 3)]
theorem c20_eq : compF Tryz.prog 20 = some c20 := by kernel_rfl
theorem r20_eq : compRs Tryz.prog 20 = some r20 := by kernel_rfl
def c21 : Cd := (.seq (.reg [sm 0 2 (.alloc [.int .i64 0, .nilS]),
 sm 1 3 (.mv (.const (.int .i64 0)))])
 (.seq (.seq (.reg [sv 0 4 0,
 sm 1 5 (.bin .lss 3 (tm 4) (.const (.int .i64 1))),
 sv 2 6 5,
 sg 3 7 6 false (.mv (tm 0)),
 sg 4 8 6 false (.bin .gtr 3 (tm 7) (.const (.int .i64 8))),
 sm 5 9 (.pick (tm 6) (.const (.bool true)) (tm 8))])
 (.cond (tm 9) (.seq (.reg [sm 0 10 (.bld [.int .i64 0, .nilS] []),
 se 1 (.st 2 (tm 2) (tm 10)),
 sm 2 3 (.mv (.const (.int .i64 2)))])
 .ret) .skip))
 (.seq (.reg [sv 0 11 0,
 sm 1 12 (.bld [.int .i64 0, .nilS] [(0, 1, (tm 11))]),
 se 2 (.st 2 (tm 2) (tm 12)),
 sm 3 3 (.mv (.const (.int .i64 0)))])
 .ret)))
def r21 : List Mo := [.ldA 2 (tm 2), .mv (tm 3)]
theorem c21_eq : compF Tryz.prog 21 = some c21 := by kernel_rfl
theorem r21_eq : compRs Tryz.prog 21 = some r21 := by kernel_rfl
def c22 : Cd := (.seq (.reg [sm 0 4 (.box (tm 0)),
 sm 1 6 (.box (tm 2)),
 sm 2 8 (.alloc [.int .i64 0, .nilS]),
 sm 3 9 (.mv (.const (.int .i64 0)))])
 (.seq (.seq (.reg [sm 0 15 (.ldA 2 (tm 4)),
 sc 1 16 29 [(tm 15)],
 sv 2 10 16])
 (.seq (.reg [sv 0 17 10,
 sm 1 18 (.bin .neq 28 (tm 17) (.const (.int .i64 0)))])
 (.cond (tm 18) (.seq (.reg [sm 0 19 (.bld [.int .i64 0, .nilS] []),
 sv 1 20 10,
 se 2 (.st 2 (tm 8) (tm 19)),
 sv 3 9 20])
 .ret) .skip)))
 (.seq (.reg [sm 0 22 (.ldA 11 (tm 6)),
 sc 1 23 43 [(tm 22)],
 sv 2 21 23,
 sm 3 24 (.ext (tm 21) 0),
 sm 4 25 (.ext (tm 21) 1),
 sm 5 11 (.alloc (rep 32 (.int .u8 0))),
 se 6 (.st 32 (tm 11) (tm 24)),
 sv 7 12 25])
 (.seq (.reg [sm 0 26 (.fa 1 (tm 4)),
 sm 1 27 (.ld1 (tm 26)),
 sm 2 28 (.len (.sl 45) (tm 27)),
 sv 3 13 28])
 (.seq (.block 0 (.seq (.reg [sv 0 30 12,
 sm 1 31 (.bin .neq 28 (tm 30) (.const (.int .i64 0))),
 sv 2 29 31])
 (.cond (tm 29) (.seq (.reg [sm 0 32 (.bld [.int .i64 0, .nilS] []),
 se 1 (.st 2 (tm 8) (tm 32)),
 sm 2 9 (.mv (.const (.int .i64 8)))])
 .ret) (.seq (.reg [sv 0 34 1,
 sm 1 35 (.bin .lss 3 (tm 34) (.const (.int .i64 0))),
 sv 2 36 35,
 sg 3 37 36 false (.mv (tm 1)),
 sg 4 38 36 false (.bin .gtr 3 (tm 37) (.const (.int .i64 1000000000))),
 sm 5 39 (.pick (tm 36) (.const (.bool true)) (tm 38)),
 sv 6 40 39,
 sg 7 41 40 false (.ldA 11 (tm 6)),
 sg 8 42 40 false (.mv (tm 3)),
 ⟨9, (some 43), (some ((some 40), false)), .callF 44 [(tm 41), (tm 42)], [], false⟩,
 sg 10 44 40 false (.un .not (tm 43)),
 sm 11 45 (.pick (tm 40) (.const (.bool true)) (tm 44)),
 sv 12 33 45])
 (.cond (tm 33) (.seq (.reg [sm 0 46 (.bld [.int .i64 0, .nilS] []),
 se 1 (.st 2 (tm 8) (tm 46)),
 sm 2 9 (.mv (.const (.int .i64 2)))])
 .ret) (.seq (.reg [sm 0 48 (.fa 1 (tm 4)),
 sm 1 49 (.ld1 (tm 48)),
 sm 2 50 (.ldA 32 (tm 11)),
 sc 3 51 45 [(tm 49), (tm 50)],
 sm 4 52 (.bin .geq 3 (tm 51) (.const (.int .i64 0))),
 sv 5 47 52])
 (.cond (tm 47) (.seq (.reg [sm 0 53 (.bld [.int .i64 0, .nilS] []),
 se 1 (.st 2 (tm 8) (tm 53)),
 sm 2 9 (.mv (.const (.int .i64 14)))])
 .ret) (.seq (.reg [sv 0 55 13,
 sm 1 56 (.bin .gtr 3 (tm 55) (.const (.int .i64 0))),
 sv 2 57 56,
 sg 3 58 57 true (.fa 1 (tm 4)),
 sg 4 59 57 true (.ld1 (tm 58)),
 sg 5 60 57 true (.mv (tm 13)),
 sg 6 61 57 true (.bin .sub 3 (tm 60) (.const (.int .i64 1))),
 sg 7 62 57 true (.ia (.sl 45) (tm 59) (tm 61)),
 sg 8 63 57 true (.fa 0 (tm 62)),
 sg 9 64 57 true (.ld1 (tm 63)),
 sg 10 65 57 true (.mv (tm 1)),
 sg 11 66 57 true (.bin .geq 3 (tm 64) (tm 65)),
 sm 12 67 (.pick (tm 57) (tm 66) (.const (.bool false))),
 sv 13 54 67])
 (.cond (tm 54) (.seq (.reg [sm 0 68 (.bld [.int .i64 0, .nilS] []),
 se 1 (.st 2 (tm 8) (tm 68)),
 sm 2 9 (.mv (.const (.int .i64 32)))])
 .ret) (.seq (.reg [sv 0 70 13,
 sm 1 71 (.fa 0 (tm 4)),
 sm 2 72 (.ld1 (tm 71)),
 sm 3 73 (.bin .eql 3 (tm 70) (tm 72)),
 sv 4 69 73])
 (.cond (tm 69) (.seq (.reg [sm 0 74 (.bld [.int .i64 0, .nilS] []),
 se 1 (.st 2 (tm 8) (tm 74)),
 sm 2 9 (.mv (.const (.int .i64 18)))])
 .ret) .skip)))))))))))
 (.seq (.reg [sm 0 75 (.ldA 2 (tm 4)),
 sc 1 76 46 [(tm 75)],
 sm 2 14 (.alloc [.int .i64 0, .nilS]),
 se 3 (.st 2 (tm 14) (tm 76))])
 (.seq (.dreg [sm 0 77 (.fa 1 (tm 14)),
 ⟨1, (some 78), none, .mo (.ld1 (tm 77)), [], true⟩,
 sv 2 79 1,
 sm 3 80 (.ldA 11 (tm 6)),
 sm 4 81 (.ldA 32 (tm 11)),
 sv 5 82 3,
 sm 6 83 (.bld ([.int .i64 0, .int .u32 0, .nilS, .int .u64 0, .int .u8 0, .str [], .int .u8 0, .int .i64 0, .int .u64 0, .str [], .int .u32 0, .int .u32 0] ++ rep 32 (.int .u8 0) ++ [.nilS]) [(0, 1, (tm 79)), (1, 11, (tm 80)), (12, 32, (tm 81)), (44, 1, (tm 82))]),
 ⟨7, (some 84), none, .callF 35 [(tm 83)], [1], false⟩,
 sm 8 85 (.bsl 45 ([.int .i64 0, .int .u32 0, .nilS, .int .u64 0, .int .u8 0, .str [], .int .u8 0, .int .i64 0, .int .u64 0, .str [], .int .u32 0, .int .u32 0] ++ rep 32 (.int .u8 0) ++ [.nilS]) 1 [(0, (tm 84))]),
 sm 9 86 (.app 45 176 (tm 78) (tm 85)),
 sm 10 87 (.fa 1 (tm 14)),
 se 11 (.st 1 (tm 87) (tm 86))])
 (.seq (.reg [sm 0 88 (.ldA 2 (tm 14)),
 se 1 (.st 2 (tm 8) (tm 88)),
 sm 2 9 (.mv (.const (.int .i64 0)))])
 .ret))))))))
def r22 : List Mo := [.ldA 2 (tm 8), .mv (tm 9)]
theorem c22_eq : compF Tryz.prog 22 = some c22 := by kernel_rfl
theorem r22_eq : compRs Tryz.prog 22 = some r22 := by kernel_rfl
def l23_0 : Cd := (.seq (.seq (.reg [sv 0 46 12,
 sm 1 47 (.fa 1 (tm 4)),
 sm 2 48 (.ld1 (tm 47)),
 sm 3 49 (.len (.sl 45) (tm 48)),
 sm 4 50 (.bin .lss 3 (tm 46) (tm 49))])
 (.cond (tm 50) .skip (.exit 0)))
 (.seq (.block 1 (.seq (.reg [sm 0 53 (.fa 1 (tm 4)),
 sm 1 54 (.ld1 (tm 53)),
 sv 2 55 12,
 sm 3 56 (.ia (.sl 45) (tm 54) (tm 55)),
 sm 4 57 (.fa 0 (tm 56)),
 sm 5 58 (.ld1 (tm 57)),
 sv 6 59 1,
 sm 7 60 (.bin .geq 3 (tm 58) (tm 59))])
 (.cond (tm 60) (.seq (.reg [sm 0 61 (.bld [.int .i64 0, .nilS] []),
 se 1 (.st 2 (tm 8) (tm 61)),
 sm 2 9 (.mv (.const (.int .i64 32)))])
 .ret) .skip)))
 (.reg [sv 0 51 12,
 sm 1 52 (.bin .add 3 (tm 51) (.const (.int .i64 1))),
 sv 2 12 52])))
def c23 : Cd := (.seq (.reg [sm 0 4 (.box (tm 0)),
 sm 1 6 (.box (tm 2)),
 sm 2 8 (.alloc [.int .i64 0, .nilS]),
 sm 3 9 (.mv (.const (.int .i64 0)))])
 (.seq (.seq (.reg [sm 0 14 (.ldA 2 (tm 4)),
 sc 1 15 11 [(tm 14)],
 sm 2 16 (.bin .neq 3 (tm 15) (.const (.int .i64 0)))])
 (.cond (tm 16) (.seq (.reg [sm 0 17 (.bld [.int .i64 0, .nilS] []),
 sm 1 18 (.ldA 2 (tm 4)),
 sc 2 19 11 [(tm 18)],
 se 3 (.st 2 (tm 8) (tm 17)),
 sv 4 9 19])
 .ret) .skip))
 (.seq (.reg [sm 0 21 (.ldA 11 (tm 6)),
 sc 1 22 33 [(tm 21)],
 sv 2 20 22,
 sm 3 23 (.ext (tm 20) 0),
 sm 4 24 (.ext (tm 20) 1),
 sm 5 10 (.alloc (rep 32 (.int .u8 0))),
 se 6 (.st 32 (tm 10) (tm 23)),
 sv 7 11 24])
 (.seq (.seq (.reg [sv 0 25 11,
 sm 1 26 (.bin .neq 3 (tm 25) (.const (.int .i64 0)))])
 (.cond (tm 26) (.seq (.reg [sm 0 27 (.bld [.int .i64 0, .nilS] []),
 se 1 (.st 2 (tm 8) (tm 27)),
 sm 2 9 (.mv (.const (.int .i64 8)))])
 .ret) .skip))
 (.seq (.seq (.reg [sv 0 28 1,
 sm 1 29 (.bin .lss 3 (tm 28) (.const (.int .i64 0))),
 sv 2 30 29,
 sg 3 31 30 false (.mv (tm 1)),
 sg 4 32 30 false (.bin .gtr 3 (tm 31) (.const (.int .i64 1000000000))),
 sm 5 33 (.pick (tm 30) (.const (.bool true)) (tm 32)),
 sv 6 34 33,
 sg 7 35 34 false (.ldA 11 (tm 6)),
 sg 8 36 34 false (.mv (tm 3)),
 ⟨9, (some 37), (some ((some 34), false)), .callF 38 [(tm 35), (tm 36)], [], false⟩,
 sg 10 38 34 false (.un .not (tm 37)),
 sm 11 39 (.pick (tm 34) (.const (.bool true)) (tm 38))])
 (.cond (tm 39) (.seq (.reg [sm 0 40 (.bld [.int .i64 0, .nilS] []),
 se 1 (.st 2 (tm 8) (tm 40)),
 sm 2 9 (.mv (.const (.int .i64 2)))])
 .ret) .skip))
 (.seq (.seq (.reg [sm 0 41 (.ldA 2 (tm 4)),
 sm 1 42 (.ldA 32 (tm 10)),
 sc 2 43 12 [(tm 41), (tm 42)],
 sm 3 44 (.bin .geq 3 (tm 43) (.const (.int .i64 0)))])
 (.cond (tm 44) (.seq (.reg [sm 0 45 (.bld [.int .i64 0, .nilS] []),
 se 1 (.st 2 (tm 8) (tm 45)),
 sm 2 9 (.mv (.const (.int .i64 14)))])
 .ret) .skip))
 (.seq (.seq (.reg [sm 0 12 (.mv (.const (.int .i64 0)))])
 (.block 0 (.loop l23_0)))
 (.seq (.seq (.reg [sm 0 62 (.fa 1 (tm 4)),
 sm 1 63 (.ld1 (tm 62)),
 sm 2 64 (.len (.sl 45) (tm 63)),
 sm 3 65 (.fa 0 (tm 4)),
 sm 4 66 (.ld1 (tm 65)),
 sm 5 67 (.bin .eql 3 (tm 64) (tm 66))])
 (.cond (tm 67) (.seq (.reg [sm 0 68 (.bld [.int .i64 0, .nilS] []),
 se 1 (.st 2 (tm 8) (tm 68)),
 sm 2 9 (.mv (.const (.int .i64 18)))])
 .ret) .skip))
 (.seq (.reg [sm 0 69 (.ldA 2 (tm 4)),
 sc 1 70 19 [(tm 69)],
 sm 2 13 (.alloc [.int .i64 0, .nilS]),
 se 3 (.st 2 (tm 13) (tm 70))])
 (.seq (.dreg [sm 0 71 (.fa 1 (tm 13)),
 ⟨1, (some 72), none, .mo (.ld1 (tm 71)), [], true⟩,
 sv 2 73 1,
 sm 3 74 (.ldA 11 (tm 6)),
 sm 4 75 (.ldA 32 (tm 10)),
 sv 5 76 3,
 sm 6 77 (.bld ([.int .i64 0, .int .u32 0, .nilS, .int .u64 0, .int .u8 0, .str [], .int .u8 0, .int .i64 0, .int .u64 0, .str [], .int .u32 0, .int .u32 0] ++ rep 32 (.int .u8 0) ++ [.nilS]) [(0, 1, (tm 73)), (1, 11, (tm 74)), (12, 32, (tm 75)), (44, 1, (tm 76))]),
 ⟨7, (some 78), none, .callF 42 [(tm 77)], [1], false⟩,
 sm 8 79 (.bsl 45 ([.int .i64 0, .int .u32 0, .nilS, .int .u64 0, .int .u8 0, .str [], .int .u8 0, .int .i64 0, .int .u64 0, .str [], .int .u32 0, .int .u32 0] ++ rep 32 (.int .u8 0) ++ [.nilS]) 1 [(0, (tm 78))]),
 sm 9 80 (.app 45 176 (tm 72) (tm 79)),
 sm 10 81 (.fa 1 (tm 13)),
 se 11 (.st 1 (tm 81) (tm 80))])
 (.seq (.reg [sm 0 82 (.ldA 2 (tm 13)),
 se 1 (.st 2 (tm 8) (tm 82)),
 sm 2 9 (.mv (.const (.int .i64 0)))])
 .ret)))))))))))
def r23 : List Mo := [.ldA 2 (tm 8), .mv (tm 9)]
theorem c23_eq : compF Tryz.prog 23 = some c23 := by kernel_rfl
theorem r23_eq : compRs Tryz.prog 23 = some r23 := by kernel_rfl
def l24_0 : Cd := (.seq (.seq (.reg [sv 0 20 9,
 sm 1 21 (.fa 1 (tm 2)),
 sm 2 22 (.ld1 (tm 21)),
 sm 3 23 (.len (.sl 45) (tm 22)),
 sm 4 24 (.bin .lss 3 (tm 20) (tm 23))])
 (.cond (tm 24) .skip (.exit 0)))
 (.seq (.block 1 (.seq (.reg [sm 0 27 (.fa 1 (tm 2)),
 sm 1 28 (.ld1 (tm 27)),
 sv 2 29 9,
 sm 3 30 (.ia (.sl 45) (tm 28) (tm 29)),
 sm 4 31 (.ldA 45 (tm 30)),
 sc 5 32 42 [(tm 31)],
 sm 6 10 (.alloc ([.int .i64 0, .int .u32 0, .nilS, .int .u64 0, .int .u8 0, .str [], .int .u8 0, .int .i64 0, .int .u64 0, .str [], .int .u32 0, .int .u32 0] ++ rep 32 (.int .u8 0) ++ [.nilS])),
 se 7 (.st 45 (tm 10) (tm 32))])
 (.seq (.reg [sm 0 33 (.fa 44 (tm 10)),
 sm 1 34 (.ld1 (tm 33)),
 sm 2 35 (.ldA 32 (tm 3)),
 sc 3 36 47 [(tm 34), (tm 35)],
 sm 4 37 (.fa 44 (tm 10)),
 se 5 (.st 1 (tm 37) (tm 36))])
 (.seq (.reg [sm 0 38 (.fa 44 (tm 10)),
 sm 1 39 (.ld1 (tm 38)),
 sm 2 40 (.len (.sl 32) (tm 39)),
 sm 3 41 (.bin .eql 3 (tm 40) (.const (.int .i64 0)))])
 (.cond (tm 41) (.reg [sv 0 42 8,
 sm 1 43 (.ldA 45 (tm 10)),
 sm 2 44 (.bsl 45 ([.int .i64 0, .int .u32 0, .nilS, .int .u64 0, .int .u8 0, .str [], .int .u8 0, .int .i64 0, .int .u64 0, .str [], .int .u32 0, .int .u32 0] ++ rep 32 (.int .u8 0) ++ [.nilS]) 1 [(0, (tm 43))]),
 sm 3 45 (.app 45 176 (tm 42) (tm 44)),
 sv 4 8 45]) (.reg [sm 0 46 (.fa 1 (tm 7)),
 sm 1 47 (.ld1 (tm 46)),
 sm 2 48 (.ldA 45 (tm 10)),
 sm 3 49 (.bsl 45 ([.int .i64 0, .int .u32 0, .nilS, .int .u64 0, .int .u8 0, .str [], .int .u8 0, .int .i64 0, .int .u64 0, .str [], .int .u32 0, .int .u32 0] ++ rep 32 (.int .u8 0) ++ [.nilS]) 1 [(0, (tm 48))]),
 sm 4 50 (.app 45 176 (tm 47) (tm 49)),
 sm 5 51 (.fa 1 (tm 7)),
 se 6 (.st 1 (tm 51) (tm 50))]))))))
 (.reg [sv 0 25 9,
 sm 1 26 (.bin .add 3 (tm 25) (.const (.int .i64 1))),
 sv 2 9 26])))
def c24 : Cd := (.seq (.reg [sm 0 2 (.box (tm 0)),
 sm 1 3 (.box (tm 1)),
 sm 2 4 (.alloc [.int .i64 0, .nilS]),
 sm 3 5 (.mv (.const (.slice none 0 0))),
 sm 4 6 (.mv (.const (.int .i64 0)))])
 (.seq (.seq (.reg [sm 0 11 (.ldA 2 (tm 2)),
 sc 1 12 11 [(tm 11)],
 sm 2 13 (.bin .neq 3 (tm 12) (.const (.int .i64 0)))])
 (.cond (tm 13) (.seq (.reg [sm 0 14 (.bld [.int .i64 0, .nilS] []),
 sm 1 15 (.ldA 2 (tm 2)),
 sc 2 16 11 [(tm 15)],
 se 3 (.st 2 (tm 4) (tm 14)),
 sm 4 5 (.mv (.const (.slice none 0 0))),
 sv 5 6 16])
 .ret) .skip))
 (.seq (.reg [sm 0 17 (.fa 0 (tm 2)),
 sm 1 18 (.ld1 (tm 17)),
 sm 2 19 (.bld [.int .i64 0, .nilS] [(0, 1, (tm 18))]),
 sm 3 7 (.alloc [.int .i64 0, .nilS]),
 se 4 (.st 2 (tm 7) (tm 19))])
 (.seq (.reg [sm 0 8 (.mv (.const (.slice none 0 0)))])
 (.seq (.seq (.reg [sm 0 9 (.mv (.const (.int .i64 0)))])
 (.block 0 (.loop l24_0)))
 (.seq (.reg [sm 0 52 (.ldA 2 (tm 7)),
 sv 1 53 8,
 se 2 (.st 2 (tm 4) (tm 52)),
 sv 3 5 53,
 sm 4 6 (.mv (.const (.int .i64 0)))])
 .ret))))))
def r24 : List Mo := [.ldA 2 (tm 4), .mv (tm 5), .mv (tm 6)]
theorem c24_eq : compF Tryz.prog 24 = some c24 := by kernel_rfl
theorem r24_eq : compRs Tryz.prog 24 = some r24 := by kernel_rfl
def l25_0 : Cd := (.seq (.seq (.reg [sv 0 11 5,
 sv 1 12 0,
 sm 2 13 (.len (.sl 45) (tm 12)),
 sm 3 14 (.bin .lss 3 (tm 11) (tm 13))])
 (.cond (tm 14) .skip (.exit 0)))
 (.seq (.block 1 (.seq (.reg [sv 0 17 0,
 sv 1 18 5,
 sm 2 19 (.ia (.sl 45) (tm 17) (tm 18)),
 sm 3 20 (.fa 0 (tm 19)),
 sm 4 21 (.ld1 (tm 20)),
 sv 5 22 1,
 sv 6 23 5,
 sm 7 24 (.ia (.sl 45) (tm 22) (tm 23)),
 sm 8 25 (.fa 0 (tm 24)),
 sm 9 26 (.ld1 (tm 25)),
 sm 10 27 (.bin .neq 3 (tm 21) (tm 26)),
 sv 11 28 27,
 sg 12 29 28 false (.mv (tm 0)),
 sg 13 30 28 false (.mv (tm 5)),
 sg 14 31 28 false (.ia (.sl 45) (tm 29) (tm 30)),
 sg 15 32 28 false (.fa 12 (tm 31)),
 sg 16 33 28 false (.ldA 32 (tm 32)),
 sg 17 34 28 false (.mv (tm 1)),
 sg 18 35 28 false (.mv (tm 5)),
 sg 19 36 28 false (.ia (.sl 45) (tm 34) (tm 35)),
 sg 20 37 28 false (.fa 12 (tm 36)),
 sg 21 38 28 false (.ldA 32 (tm 37)),
 sg 22 39 28 false (.bin .neq 32 (tm 33) (tm 38)),
 sm 23 40 (.pick (tm 28) (.const (.bool true)) (tm 39)),
 sv 24 41 40,
 sg 25 42 41 false (.mv (tm 0)),
 sg 26 43 41 false (.mv (tm 5)),
 sg 27 44 41 false (.ia (.sl 45) (tm 42) (tm 43)),
 sg 28 45 41 false (.fa 1 (tm 44)),
 sg 29 46 41 false (.ldA 11 (tm 45)),
 sg 30 47 41 false (.mv (tm 1)),
 sg 31 48 41 false (.mv (tm 5)),
 sg 32 49 41 false (.ia (.sl 45) (tm 47) (tm 48)),
 sg 33 50 41 false (.fa 1 (tm 49)),
 sg 34 51 41 false (.ldA 11 (tm 50)),
 ⟨35, (some 52), (some ((some 41), false)), .callF 34 [(tm 46), (tm 51)], [], false⟩,
 sg 36 53 41 false (.un .not (tm 52)),
 sm 37 54 (.pick (tm 41) (.const (.bool true)) (tm 53)),
 sv 38 55 54,
 sg 39 56 55 false (.mv (tm 0)),
 sg 40 57 55 false (.mv (tm 5)),
 sg 41 58 55 false (.ia (.sl 45) (tm 56) (tm 57)),
 sg 42 59 55 false (.fa 44 (tm 58)),
 sg 43 60 55 false (.ld1 (tm 59)),
 sg 44 61 55 false (.mv (tm 1)),
 sg 45 62 55 false (.mv (tm 5)),
 sg 46 63 55 false (.ia (.sl 45) (tm 61) (tm 62)),
 sg 47 64 55 false (.fa 44 (tm 63)),
 sg 48 65 55 false (.ld1 (tm 64)),
 ⟨49, (some 66), (some ((some 55), false)), .callF 30 [(tm 60), (tm 65)], [], false⟩,
 sg 50 67 55 false (.un .not (tm 66)),
 sm 51 68 (.pick (tm 55) (.const (.bool true)) (tm 67))])
 (.cond (tm 68) (.seq (.reg [sm 0 4 (.mv (.const (.bool false)))])
 .ret) .skip)))
 (.reg [sv 0 15 5,
 sm 1 16 (.bin .add 3 (tm 15) (.const (.int .i64 1))),
 sv 2 5 16])))
def c25 : Cd := (.seq (.reg [sm 0 4 (.mv (.const (.bool false)))])
 (.seq (.seq (.reg [sv 0 6 0,
 sm 1 7 (.len (.sl 45) (tm 6)),
 sv 2 8 1,
 sm 3 9 (.len (.sl 45) (tm 8)),
 sm 4 10 (.bin .neq 3 (tm 7) (tm 9))])
 (.cond (tm 10) (.seq (.reg [sm 0 4 (.mv (.const (.bool false)))])
 .ret) .skip))
 (.seq (.seq (.reg [sm 0 5 (.mv (.const (.int .i64 0)))])
 (.block 0 (.loop l25_0)))
 (.seq (.reg [sm 0 4 (.mv (.const (.bool true)))])
 .ret))))
def r25 : List Mo := [.mv (tm 4)]
theorem c25_eq : compF Tryz.prog 25 = some c25 := by kernel_rfl
theorem r25_eq : compRs Tryz.prog 25 = some r25 := by kernel_rfl
def c26 : Cd := (.seq (.reg [sm 0 2 (.box (tm 0)),
 sm 1 3 (.box (tm 1)),
 sm 2 4 (.mv (.const (.bool false))),
 sm 3 5 (.mv (.const (.int .i64 0)))])
 (.seq (.seq (.reg [sm 0 7 (.ldA 2 (tm 2)),
 sc 1 8 29 [(tm 7)],
 sv 2 6 8])
 (.seq (.reg [sv 0 9 6,
 sm 1 10 (.bin .neq 28 (tm 9) (.const (.int .i64 0)))])
 (.cond (tm 10) (.seq (.reg [sv 0 11 6,
 sm 1 4 (.mv (.const (.bool false))),
 sv 2 5 11])
 .ret) .skip)))
 (.seq (.reg [sm 0 12 (.fa 1 (tm 2)),
 sm 1 13 (.ld1 (tm 12)),
 sm 2 14 (.ldA 32 (tm 3)),
 sc 3 15 45 [(tm 13), (tm 14)],
 sm 4 16 (.bin .geq 3 (tm 15) (.const (.int .i64 0))),
 sv 5 4 16,
 sm 6 5 (.mv (.const (.int .i64 0)))])
 .ret)))
def r26 : List Mo := [.mv (tm 4), .mv (tm 5)]
theorem c26_eq : compF Tryz.prog 26 = some c26 := by kernel_rfl
theorem r26_eq : compRs Tryz.prog 26 = some r26 := by kernel_rfl
def c27 : Cd := (.seq (.reg [sm 0 2 (.box (tm 0)),
 sm 1 3 (.box (tm 1)),
 sm 2 4 (.mv (.const (.bool false))),
 sm 3 5 (.mv (.const (.int .i64 0)))])
 (.seq (.seq (.reg [sm 0 6 (.ldA 2 (tm 2)),
 sc 1 7 11 [(tm 6)],
 sm 2 8 (.bin .neq 3 (tm 7) (.const (.int .i64 0)))])
 (.cond (tm 8) (.seq (.reg [sm 0 9 (.ldA 2 (tm 2)),
 sc 1 10 11 [(tm 9)],
 sm 2 4 (.mv (.const (.bool false))),
 sv 3 5 10])
 .ret) .skip))
 (.seq (.reg [sm 0 11 (.ldA 2 (tm 2)),
 sm 1 12 (.ldA 32 (tm 3)),
 sc 2 13 12 [(tm 11), (tm 12)],
 sm 3 14 (.bin .geq 3 (tm 13) (.const (.int .i64 0))),
 sv 4 4 14,
 sm 5 5 (.mv (.const (.int .i64 0)))])
 .ret)))
def r27 : List Mo := [.mv (tm 4), .mv (tm 5)]
theorem c27_eq : compF Tryz.prog 27 = some c27 := by kernel_rfl
theorem r27_eq : compRs Tryz.prog 27 = some r27 := by kernel_rfl
def c28 : Cd := (.seq (.reg [sm 0 1 (.box (tm 0)),
 sm 1 2 (.mv (.const (.slice none 0 0))),
 sm 2 3 (.mv (.const (.int .i64 0)))])
 (.seq (.seq (.reg [sm 0 4 (.ldA 2 (tm 1)),
 sc 1 5 11 [(tm 4)],
 sm 2 6 (.bin .neq 3 (tm 5) (.const (.int .i64 0)))])
 (.cond (tm 6) (.seq (.reg [sm 0 7 (.ldA 2 (tm 1)),
 sc 1 8 11 [(tm 7)],
 sm 2 2 (.mv (.const (.slice none 0 0))),
 sv 3 3 8])
 .ret) .skip))
 (.seq (.reg [sm 0 9 (.ldA 2 (tm 1)),
 sc 1 10 48 [(tm 9)],
 sv 2 2 10,
 sm 3 3 (.mv (.const (.int .i64 0)))])
 .ret)))
def r28 : List Mo := [.mv (tm 2), .mv (tm 3)]
theorem c28_eq : compF Tryz.prog 28 = some c28 := by kernel_rfl
theorem r28_eq : compRs Tryz.prog 28 = some r28 := by kernel_rfl
def l29_0 : Cd := (.seq (.reg [sm 0 28 (.bin .lss 3 (tm 27) (tm 26))])
 (.seq (.cond (tm 28) .skip (.exit 0))
 (.seq (.block 1 (.seq (.reg [sv 0 29 27,
 sm 1 30 (.ia (.sl 45) (tm 25) (tm 27)),
 sm 2 31 (.ldA 45 (tm 30)),
 sm 3 5 (.alloc ([.int .i64 0, .int .u32 0, .nilS, .int .u64 0, .int .u8 0, .str [], .int .u8 0, .int .i64 0, .int .u64 0, .str [], .int .u32 0, .int .u32 0] ++ rep 32 (.int .u8 0) ++ [.nilS])),
 sv 4 4 29,
 se 5 (.st 45 (tm 5) (tm 31))])
 (.seq (.reg [sm 0 33 (.fa 1 (tm 5)),
 sm 1 34 (.ldA 11 (tm 33)),
 sc 2 35 43 [(tm 34)],
 sv 3 32 35,
 sm 4 36 (.ext (tm 32) 0),
 sm 5 37 (.ext (tm 32) 1),
 sm 6 6 (.alloc (rep 32 (.int .u8 0))),
 se 7 (.st 32 (tm 6) (tm 36)),
 sv 8 7 37])
 (.seq (.seq (.reg [sv 0 38 7,
 sm 1 39 (.bin .neq 28 (tm 38) (.const (.int .i64 0))),
 sv 2 40 39,
 sg 3 41 40 false (.ldA 32 (tm 6)),
 sg 4 42 40 false (.fa 12 (tm 5)),
 sg 5 43 40 false (.ldA 32 (tm 42)),
 sg 6 44 40 false (.bin .neq 32 (tm 41) (tm 43)),
 sm 7 45 (.pick (tm 40) (.const (.bool true)) (tm 44)),
 sv 8 46 45,
 sg 9 47 46 false (.fa 0 (tm 5)),
 sg 10 48 46 false (.ld1 (tm 47)),
 sg 11 49 46 false (.mv (tm 3)),
 sg 12 50 46 false (.bin .leq 3 (tm 48) (tm 49)),
 sm 13 51 (.pick (tm 46) (.const (.bool true)) (tm 50)),
 sv 14 52 51,
 sg 15 53 52 false (.fa 0 (tm 5)),
 sg 16 54 52 false (.ld1 (tm 53)),
 sg 17 55 52 false (.bin .gtr 3 (tm 54) (.const (.int .i64 1000000000))),
 sm 18 56 (.pick (tm 52) (.const (.bool true)) (tm 55)),
 sv 19 57 56,
 sg 20 58 57 false (.fa 1 (tm 5)),
 sg 21 59 57 false (.ldA 11 (tm 58)),
 sg 22 60 57 false (.fa 44 (tm 5)),
 sg 23 61 57 false (.ld1 (tm 60)),
 ⟨24, (some 62), (some ((some 57), false)), .callF 44 [(tm 59), (tm 61)], [], false⟩,
 sg 25 63 57 false (.un .not (tm 62)),
 sm 26 64 (.pick (tm 57) (.const (.bool true)) (tm 63)),
 sv 27 65 64,
 sg 28 66 65 false (.fa 1 (tm 1)),
 sg 29 67 65 false (.ld1 (tm 66)),
 sg 30 68 65 false (.mv (tm 4)),
 sg 31 69 65 false (.slice (.sl 45) (tm 67) none (some (tm 68)) none),
 sg 32 70 65 false (.fa 12 (tm 5)),
 sg 33 71 65 false (.ldA 32 (tm 70)),
 ⟨34, (some 72), (some ((some 65), false)), .callF 45 [(tm 69), (tm 71)], [], false⟩,
 sg 35 73 65 false (.bin .geq 3 (tm 72) (.const (.int .i64 0))),
 sm 36 74 (.pick (tm 65) (.const (.bool true)) (tm 73))])
 (.cond (tm 74) (.seq (.reg [sm 0 2 (.mv (.const (.int .i64 8)))])
 .ret) .skip))
 (.reg [sm 0 75 (.fa 0 (tm 5)),
 sm 1 76 (.ld1 (tm 75)),
 sv 2 3 76])))))
 (.reg [sm 0 77 (.bin .add 3 (tm 27) (.const (.int .i64 1))),
 sv 1 27 77]))))
def c29 : Cd := (.seq (.reg [sm 0 1 (.box (tm 0)),
 sm 1 2 (.mv (.const (.int .i64 0)))])
 (.seq (.seq (.reg [sm 0 8 (.fa 0 (tm 1)),
 sm 1 9 (.ld1 (tm 8)),
 sm 2 10 (.bin .lss 3 (tm 9) (.const (.int .i64 1))),
 sv 3 11 10,
 sg 4 12 11 false (.fa 0 (tm 1)),
 sg 5 13 11 false (.ld1 (tm 12)),
 sg 6 14 11 false (.bin .gtr 3 (tm 13) (.const (.int .i64 8))),
 sm 7 15 (.pick (tm 11) (.const (.bool true)) (tm 14)),
 sv 8 16 15,
 sg 9 17 16 false (.fa 1 (tm 1)),
 sg 10 18 16 false (.ld1 (tm 17)),
 sg 11 19 16 false (.len (.sl 45) (tm 18)),
 sg 12 20 16 false (.fa 0 (tm 1)),
 sg 13 21 16 false (.ld1 (tm 20)),
 sg 14 22 16 false (.bin .gtr 3 (tm 19) (tm 21)),
 sm 15 23 (.pick (tm 16) (.const (.bool true)) (tm 22))])
 (.cond (tm 23) (.seq (.reg [sm 0 2 (.mv (.const (.int .i64 8)))])
 .ret) .skip))
 (.seq (.reg [sm 0 3 (.mv (.const (.int .i64 (-1))))])
 (.seq (.seq (.reg [sm 0 24 (.fa 1 (tm 1)),
 sm 1 25 (.ld1 (tm 24)),
 sm 2 26 (.len (.sl 45) (tm 25)),
 sm 3 27 (.mv (.const (.int .i64 0)))])
 (.block 0 (.loop l29_0)))
 (.seq (.reg [sm 0 2 (.mv (.const (.int .i64 0)))])
 .ret)))))
def r29 : List Mo := [.mv (tm 2)]
theorem c29_eq : compF Tryz.prog 29 = some c29 := by kernel_rfl
theorem r29_eq : compRs Tryz.prog 29 = some r29 := by kernel_rfl
def l30_0 : Cd := (.seq (.seq (.reg [sv 0 11 5,
 sv 1 12 0,
 sm 2 13 (.len (.sl 32) (tm 12)),
 sm 3 14 (.bin .lss 3 (tm 11) (tm 13))])
 (.cond (tm 14) .skip (.exit 0)))
 (.seq (.block 1 (.seq (.reg [sv 0 17 0,
 sv 1 18 5,
 sm 2 19 (.ia (.sl 32) (tm 17) (tm 18)),
 sm 3 20 (.ldA 32 (tm 19)),
 sv 4 21 1,
 sv 5 22 5,
 sm 6 23 (.ia (.sl 32) (tm 21) (tm 22)),
 sm 7 24 (.ldA 32 (tm 23)),
 sm 8 25 (.bin .neq 32 (tm 20) (tm 24))])
 (.cond (tm 25) (.seq (.reg [sm 0 4 (.mv (.const (.bool false)))])
 .ret) .skip)))
 (.reg [sv 0 15 5,
 sm 1 16 (.bin .add 3 (tm 15) (.const (.int .i64 1))),
 sv 2 5 16])))
def c30 : Cd := (.seq (.reg [sm 0 4 (.mv (.const (.bool false)))])
 (.seq (.seq (.reg [sv 0 6 0,
 sm 1 7 (.len (.sl 32) (tm 6)),
 sv 2 8 1,
 sm 3 9 (.len (.sl 32) (tm 8)),
 sm 4 10 (.bin .neq 3 (tm 7) (tm 9))])
 (.cond (tm 10) (.seq (.reg [sm 0 4 (.mv (.const (.bool false)))])
 .ret) .skip))
 (.seq (.seq (.reg [sm 0 5 (.mv (.const (.int .i64 0)))])
 (.block 0 (.loop l30_0)))
 (.seq (.reg [sm 0 4 (.mv (.const (.bool true)))])
 .ret))))
def r30 : List Mo := [.mv (tm 4)]
theorem c30_eq : compF Tryz.prog 30 = some c30 := by kernel_rfl
theorem r30_eq : compRs Tryz.prog 30 = some r30 := by kernel_rfl
def c33 : Cd := (.seq (.reg [sm 0 1 (.box (tm 0)),
 sm 1 2 (.alloc (rep 32 (.int .u8 0))),
 sm 2 3 (.mv (.const (.int .i64 0)))])
 (.seq (.seq (.reg [sm 0 4 (.ldA 11 (tm 1)),
 sc 1 5 50 [(tm 4)],
 sm 2 6 (.bin .neq 3 (tm 5) (.const (.int .i64 0)))])
 (.cond (tm 6) (.seq (.reg [sm 0 7 (.bld (rep 32 (.int .u8 0)) []),
 sm 1 8 (.ldA 11 (tm 1)),
 sc 2 9 50 [(tm 8)],
 se 3 (.st 32 (tm 2) (tm 7)),
 sv 4 3 9])
 .ret) .skip))
 (.seq (.reg [sm 0 10 (.ldA 11 (tm 1)),
 sc 1 11 51 [(tm 10)],
 se 2 (.st 32 (tm 2) (tm 11)),
 sm 3 3 (.mv (.const (.int .i64 0)))])
 .ret)))
def r33 : List Mo := [.ldA 32 (tm 2), .mv (tm 3)]
theorem c33_eq : compF Tryz.prog 33 = some c33 := by kernel_rfl
theorem r33_eq : compRs Tryz.prog 33 = some r33 := by kernel_rfl
def c34 : Cd := (.seq (.reg [sm 0 2 (.box (tm 0)),
 sm 1 3 (.box (tm 1)),
 sm 2 4 (.mv (.const (.bool false)))])
 (.seq (.reg [sm 0 5 (.fa 0 (tm 2)),
 sm 1 6 (.ld1 (tm 5)),
 sm 2 7 (.fa 0 (tm 3)),
 sm 3 8 (.ld1 (tm 7)),
 sm 4 9 (.bin .eql 35 (tm 6) (tm 8)),
 sv 5 10 9,
 sg 6 11 10 true (.fa 1 (tm 2)),
 sg 7 12 10 true (.ld1 (tm 11)),
 sg 8 13 10 true (.fa 1 (tm 3)),
 sg 9 14 10 true (.ld1 (tm 13)),
 ⟨10, (some 15), (some ((some 10), true)), .callF 30 [(tm 12), (tm 14)], [], false⟩,
 sm 11 16 (.pick (tm 10) (tm 15) (.const (.bool false))),
 sv 12 17 16,
 sg 13 18 17 true (.fa 2 (tm 2)),
 sg 14 19 17 true (.ld1 (tm 18)),
 sg 15 20 17 true (.fa 2 (tm 3)),
 sg 16 21 17 true (.ld1 (tm 20)),
 sg 17 22 17 true (.bin .eql 36 (tm 19) (tm 21)),
 sm 18 23 (.pick (tm 17) (tm 22) (.const (.bool false))),
 sv 19 24 23,
 sg 20 25 24 true (.fa 3 (tm 2)),
 sg 21 26 24 true (.ldA 6 (tm 25)),
 sg 22 27 24 true (.fa 3 (tm 3)),
 sg 23 28 24 true (.ldA 6 (tm 27)),
 sg 24 29 24 true (.bin .eql 40 (tm 26) (tm 28)),
 sm 25 30 (.pick (tm 24) (tm 29) (.const (.bool false))),
 sv 26 31 30,
 sg 27 32 31 true (.fa 9 (tm 2)),
 sg 28 33 31 true (.ldA 2 (tm 32)),
 sg 29 34 31 true (.fa 9 (tm 3)),
 sg 30 35 31 true (.ldA 2 (tm 34)),
 sg 31 36 31 true (.bin .eql 42 (tm 33) (tm 35)),
 sm 32 37 (.pick (tm 31) (tm 36) (.const (.bool false))),
 sv 33 4 37])
 .ret))
def r34 : List Mo := [.mv (tm 4)]
theorem c34_eq : compF Tryz.prog 34 = some c34 := by kernel_rfl
theorem r34_eq : compRs Tryz.prog 34 = some r34 := by kernel_rfl
def c35 : Cd := (.seq (.reg [sm 0 1 (.box (tm 0)),
 sm 1 2 (.alloc ([.int .i64 0, .int .u32 0, .nilS, .int .u64 0, .int .u8 0, .str [], .int .u8 0, .int .i64 0, .int .u64 0, .str [], .int .u32 0, .int .u32 0] ++ rep 32 (.int .u8 0) ++ [.nilS]))])
 (.seq (.dreg [sm 0 3 (.fa 1 (tm 1)),
 sm 1 4 (.fa 1 (tm 3)),
 sm 2 5 (.ld1 (tm 4)),
 sm 4 7 (.fa 44 (tm 1)),
 ⟨5, (some 8), none, .mo (.ld1 (tm 7)), [], true⟩,
 ⟨3, (some 6), none, .callF 52 [(tm 5)], [5], false⟩,
 sm 7 10 (.fa 1 (tm 1)),
 sm 8 11 (.fa 1 (tm 10)),
 sc 6 9 52 [(tm 8)],
 se 9 (.st 1 (tm 11) (tm 6)),
 sm 10 12 (.fa 44 (tm 1)),
 se 11 (.st 1 (tm 12) (tm 9))])
 (.seq (.reg [sm 0 13 (.ldA 45 (tm 1)),
 se 1 (.st 45 (tm 2) (tm 13))])
 .ret)))
def r35 : List Mo := [.ldA 45 (tm 2)]
theorem c35_eq : compF Tryz.prog 35 = some c35 := by kernel_rfl
theorem r35_eq : compRs Tryz.prog 35 = some r35 := by kernel_rfl
def l36_0 : Cd := (.seq (.seq (.reg [sv 0 16 6,
 sv 1 17 0,
 sm 2 18 (.len (.sl 32) (tm 17)),
 sm 3 19 (.bin .lss 3 (tm 16) (tm 18))])
 (.cond (tm 19) .skip (.exit 0)))
 (.seq (.block 1 (.seq (.reg [sv 0 22 0,
 sv 1 23 6,
 sm 2 24 (.ia (.sl 32) (tm 22) (tm 23)),
 sm 3 25 (.ldA 32 (tm 24)),
 sm 4 7 (.alloc (rep 32 (.int .u8 0))),
 se 5 (.st 32 (tm 7) (tm 25))])
 (.seq (.reg [sv 0 26 1,
 sm 1 27 (.ldA 32 (tm 7)),
 ⟨2, (some 28), none, .callV (tm 26) [(tm 27)], [], false⟩,
 sm 3 29 (.un .not (tm 28))])
 (.cond (tm 29) (.seq (.reg [sv 0 30 0,
 sv 1 31 5,
 sm 2 32 (.ldA 32 (tm 7)),
 sm 3 33 (.ia (.sl 32) (tm 30) (tm 31)),
 se 4 (.st 32 (tm 33) (tm 32))])
 (.reg [sv 0 34 5,
 sm 1 35 (.bin .add 3 (tm 34) (.const (.int .i64 1))),
 sv 2 5 35])) .skip))))
 (.reg [sv 0 20 6,
 sm 1 21 (.bin .add 3 (tm 20) (.const (.int .i64 1))),
 sv 2 6 21])))
def c36 : Cd := (.seq (.reg [sm 0 4 (.mv (.const (.slice none 0 0)))])
 (.seq (.reg [sv 0 8 0,
 sv 1 9 1,
 sc 2 10 53 [(tm 8), (tm 9)],
 sv 3 5 10])
 (.seq (.seq (.reg [sv 0 11 5,
 sm 1 12 (.bin .eql 3 (tm 11) (.const (.int .i64 (-1))))])
 (.cond (tm 12) (.seq (.reg [sv 0 13 0,
 sv 1 4 13])
 .ret) .skip))
 (.seq (.seq (.reg [sv 0 14 5,
 sm 1 15 (.bin .add 3 (tm 14) (.const (.int .i64 1))),
 sv 2 6 15])
 (.block 0 (.loop l36_0)))
 (.seq (.reg [sv 0 36 0,
 sv 1 37 5,
 sm 2 38 (.slice (.sl 32) (tm 36) (some (tm 37)) none none),
 se 3 (.clr (rep 32 (.int .u8 0)) (tm 38))])
 (.seq (.reg [sv 0 39 0,
 sv 1 40 5,
 sm 2 41 (.slice (.sl 32) (tm 39) none (some (tm 40)) none),
 sv 3 4 41])
 .ret))))))
def r36 : List Mo := [.mv (tm 4)]
theorem c36_eq : compF Tryz.prog 36 = some c36 := by kernel_rfl
theorem r36_eq : compRs Tryz.prog 36 = some r36 := by kernel_rfl
def c37 : Cd := (.seq (.reg [sm 0 2 (.box (tm 0)),
 sm 1 3 (.mv (.const (.bool false)))])
 (.seq (.reg [sm 0 4 (.ldA 32 (tm 2)),
 sm 1 5 (.ldA 32 (tm 1)),
 sm 2 6 (.bin .eql 32 (tm 4) (tm 5)),
 sv 3 3 6])
 .ret))
def r37 : List Mo := [.mv (tm 3)]
theorem c37_eq : compF Tryz.prog 37 = some c37 := by kernel_rfl
theorem r37_eq : compRs Tryz.prog 37 = some r37 := by kernel_rfl
def l38_0 : Cd := (.seq (.seq (.reg [sv 0 22 5,
 sv 1 23 1,
 sm 2 24 (.len (.sl 32) (tm 23)),
 sm 3 25 (.bin .lss 3 (tm 22) (tm 24))])
 (.cond (tm 25) .skip (.exit 0)))
 (.seq (.block 1 (.seq (.reg [sm 0 28 (.fa 1 (tm 2)),
 sm 1 29 (.ld1 (tm 28)),
 sv 2 30 1,
 sv 3 31 5,
 sm 4 32 (.ia (.sl 32) (tm 30) (tm 31)),
 sm 5 33 (.ldA 32 (tm 32)),
 sc 6 34 13 [(tm 29), (tm 33)],
 sm 7 35 (.un .not (tm 34))])
 (.cond (tm 35) (.seq (.reg [sm 0 4 (.mv (.const (.bool false)))])
 .ret) .skip)))
 (.reg [sv 0 26 5,
 sm 1 27 (.bin .add 3 (tm 26) (.const (.int .i64 1))),
 sv 2 5 27])))
def c38 : Cd := (.seq (.reg [sm 0 2 (.box (tm 0)),
 sm 1 4 (.mv (.const (.bool false)))])
 (.seq (.seq (.reg [sv 0 6 1,
 sm 1 7 (.len (.sl 32) (tm 6)),
 sm 2 8 (.bin .eql 3 (tm 7) (.const (.int .i64 0))),
 sv 3 9 8,
 sg 4 10 9 false (.mv (tm 1)),
 sg 5 11 9 false (.len (.sl 32) (tm 10)),
 sg 6 12 9 false (.fa 1 (tm 2)),
 sg 7 13 9 false (.ld1 (tm 12)),
 sg 8 14 9 false (.len (.sl 32) (tm 13)),
 sg 9 15 9 false (.bin .gtr 3 (tm 11) (tm 14)),
 sm 10 16 (.pick (tm 9) (.const (.bool true)) (tm 15)),
 sv 11 17 16,
 sg 12 18 17 false (.mv (tm 1)),
 ⟨13, (some 19), (some ((some 17), false)), .callF 54 [(tm 18)], [], false⟩,
 sg 14 20 17 false (.un .not (tm 19)),
 sm 15 21 (.pick (tm 17) (.const (.bool true)) (tm 20))])
 (.cond (tm 21) (.seq (.reg [sm 0 4 (.mv (.const (.bool false)))])
 .ret) .skip))
 (.seq (.seq (.reg [sm 0 5 (.mv (.const (.int .i64 0)))])
 (.block 0 (.loop l38_0)))
 (.seq (.reg [sm 0 4 (.mv (.const (.bool true)))])
 .ret))))
def r38 : List Mo := [.mv (tm 4)]
theorem c38_eq : compF Tryz.prog 38 = some c38 := by kernel_rfl
theorem r38_eq : compRs Tryz.prog 38 = some r38 := by kernel_rfl
def c39 : Cd := (.seq (.reg [sv 0 5 0,
 sm 1 6 (.len (.sl 32) (tm 5)),
 sv 2 4 6])
 (.reg [sv 0 7 0,
 sv 1 8 4,
 sv 2 9 4,
 sm 3 10 (.cint .u64 (tm 9)),
 sc 4 11 56 [(tm 10)],
 sv 5 12 1,
 sc 6 13 55 [(tm 7), (.const (.int .i64 0)), (tm 8), (tm 11), (tm 12)]]))
def r39 : List Mo := []
theorem c39_eq : compF Tryz.prog 39 = some c39 := by kernel_rfl
theorem r39_eq : compRs Tryz.prog 39 = some r39 := by kernel_rfl
def c40 : Cd := (.seq (.reg [sm 0 2 (.box (tm 0)),
 sm 1 3 (.box (tm 1)),
 sm 2 4 (.mv (.const (.int .i64 0)))])
 (.seq (.reg [sm 0 5 (.slice (.arr 32 1) (tm 2) none none none),
 sm 1 6 (.slice (.arr 32 1) (tm 3) none none none),
 sc 2 7 57 [(tm 5), (tm 6)],
 sv 3 4 7])
 .ret))
def r40 : List Mo := [.mv (tm 4)]
theorem c40_eq : compF Tryz.prog 40 = some c40 := by kernel_rfl
theorem r40_eq : compRs Tryz.prog 40 = some r40 := by kernel_rfl
def l41_0 : Cd := (.seq (.seq (.reg [sv 0 29 5,
 sv 1 30 4,
 sm 2 31 (.len (.sl 32) (tm 30)),
 sm 3 32 (.bin .lss 3 (tm 29) (tm 31))])
 (.cond (tm 32) .skip (.exit 2)))
 (.seq (.block 3 (.seq (.reg [sv 0 35 4,
 sv 1 36 5,
 sm 2 37 (.ia (.sl 32) (tm 35) (tm 36)),
 sm 3 38 (.ldA 32 (tm 37)),
 sv 4 39 4,
 sv 5 40 5,
 sm 6 41 (.bin .sub 3 (tm 40) (.const (.int .i64 1))),
 sm 7 42 (.ia (.sl 32) (tm 39) (tm 41)),
 sm 8 43 (.ldA 32 (tm 42)),
 sm 9 44 (.bin .neq 32 (tm 38) (tm 43))])
 (.cond (tm 44) (.seq (.reg [sv 0 45 0,
 sv 1 46 3,
 sv 2 47 4,
 sv 3 48 5,
 sm 4 49 (.ia (.sl 32) (tm 47) (tm 48)),
 sm 5 50 (.ldA 32 (tm 49)),
 sm 6 51 (.ia (.sl 32) (tm 45) (tm 46)),
 se 7 (.st 32 (tm 51) (tm 50))])
 (.reg [sv 0 52 3,
 sm 1 53 (.bin .add 3 (tm 52) (.const (.int .i64 1))),
 sv 2 3 53])) .skip)))
 (.reg [sv 0 33 5,
 sm 1 34 (.bin .add 3 (tm 33) (.const (.int .i64 1))),
 sv 2 5 34])))
def l41_1 : Cd := (.seq (.seq (.reg [sv 0 10 3,
 sv 1 11 0,
 sm 2 12 (.len (.sl 32) (tm 11)),
 sm 3 13 (.bin .lss 3 (tm 10) (tm 12))])
 (.cond (tm 13) .skip (.exit 0)))
 (.seq (.block 1 (.seq (.reg [sv 0 16 0,
 sv 1 17 3,
 sm 2 18 (.ia (.sl 32) (tm 16) (tm 17)),
 sm 3 19 (.ldA 32 (tm 18)),
 sv 4 20 0,
 sv 5 21 3,
 sm 6 22 (.bin .sub 3 (tm 21) (.const (.int .i64 1))),
 sm 7 23 (.ia (.sl 32) (tm 20) (tm 22)),
 sm 8 24 (.ldA 32 (tm 23)),
 sm 9 25 (.bin .eql 32 (tm 19) (tm 24))])
 (.cond (tm 25) (.seq (.reg [sv 0 26 0,
 sv 1 27 3,
 sm 2 28 (.slice (.sl 32) (tm 26) (some (tm 27)) none none),
 sv 3 4 28])
 (.seq (.seq (.reg [sm 0 5 (.mv (.const (.int .i64 1)))])
 (.block 2 (.loop l41_0)))
 (.seq (.reg [sv 0 54 0,
 sv 1 55 3,
 sm 2 56 (.slice (.sl 32) (tm 54) (some (tm 55)) none none),
 se 3 (.clr (rep 32 (.int .u8 0)) (tm 56))])
 (.seq (.reg [sv 0 57 0,
 sv 1 58 3,
 sm 2 59 (.slice (.sl 32) (tm 57) none (some (tm 58)) none),
 sv 3 2 59])
 .ret)))) .skip)))
 (.reg [sv 0 14 3,
 sm 1 15 (.bin .add 3 (tm 14) (.const (.int .i64 1))),
 sv 2 3 15])))
def c41 : Cd := (.seq (.reg [sm 0 2 (.mv (.const (.slice none 0 0)))])
 (.seq (.seq (.reg [sv 0 6 0,
 sm 1 7 (.len (.sl 32) (tm 6)),
 sm 2 8 (.bin .lss 3 (tm 7) (.const (.int .i64 2)))])
 (.cond (tm 8) (.seq (.reg [sv 0 9 0,
 sv 1 2 9])
 .ret) .skip))
 (.seq (.seq (.reg [sm 0 3 (.mv (.const (.int .i64 1)))])
 (.block 0 (.loop l41_1)))
 (.seq (.reg [sv 0 60 0,
 sv 1 2 60])
 .ret))))
def r41 : List Mo := [.mv (tm 2)]
theorem c41_eq : compF Tryz.prog 41 = some c41 := by kernel_rfl
theorem r41_eq : compRs Tryz.prog 41 = some r41 := by kernel_rfl
def c42 : Cd := (.seq (.reg [sm 0 1 (.box (tm 0)),
 sm 1 2 (.alloc ([.int .i64 0, .int .u32 0, .nilS, .int .u64 0, .int .u8 0, .str [], .int .u8 0, .int .i64 0, .int .u64 0, .str [], .int .u32 0, .int .u32 0] ++ rep 32 (.int .u8 0) ++ [.nilS]))])
 (.seq (.dreg [sm 0 3 (.fa 0 (tm 1)),
 ⟨1, (some 4), none, .mo (.ld1 (tm 3)), [], true⟩,
 sm 2 5 (.fa 1 (tm 1)),
 sm 3 6 (.ldA 11 (tm 5)),
 sm 5 8 (.fa 12 (tm 1)),
 ⟨6, (some 9), none, .mo (.ldA 32 (tm 8)), [], true⟩,
 ⟨7, (some 10), none, .mo (.bsl 32 (rep 32 (.int .u8 0)) 0 []), [], true⟩,
 sm 8 11 (.fa 44 (tm 1)),
 ⟨9, (some 12), none, .mo (.ld1 (tm 11)), [], true⟩,
 ⟨4, (some 7), none, .callF 58 [(tm 6)], [9, 7, 6, 1], false⟩,
 ⟨10, (some 13), none, .mo (.app 32 32 (tm 10) (tm 12)), [6, 1], false⟩,
 sm 11 14 (.bld ([.int .i64 0, .int .u32 0, .nilS, .int .u64 0, .int .u8 0, .str [], .int .u8 0, .int .i64 0, .int .u64 0, .str [], .int .u32 0, .int .u32 0] ++ rep 32 (.int .u8 0) ++ [.nilS]) [(0, 1, (tm 4)), (1, 11, (tm 7)), (12, 32, (tm 9)), (44, 1, (tm 13))]),
 se 12 (.st 45 (tm 2) (tm 14))])
 .ret))
def r42 : List Mo := [.ldA 45 (tm 2)]
theorem c42_eq : compF Tryz.prog 42 = some c42 := by kernel_rfl
theorem r42_eq : compRs Tryz.prog 42 = some r42 := by kernel_rfl
def c43 : Cd := (.seq (.reg [sm 0 1 (.box (tm 0)),
 sm 1 2 (.alloc (rep 32 (.int .u8 0))),
 sm 2 3 (.mv (.const (.int .i64 0)))])
 (.seq (.reg [sm 0 7 (.ldA 11 (tm 1)),
 sc 1 8 59 [(tm 7)],
 sv 2 6 8,
 sm 3 9 (.ext (tm 6) 0),
 sm 4 10 (.ext (tm 6) 1),
 sv 5 4 9,
 sv 6 5 10])
 (.seq (.seq (.reg [sv 0 11 5,
 sm 1 12 (.bin .neq 28 (tm 11) (.const (.int .i64 0)))])
 (.cond (tm 12) (.seq (.reg [sm 0 13 (.bld (rep 32 (.int .u8 0)) []),
 sv 1 14 5,
 se 2 (.st 32 (tm 2) (tm 13)),
 sv 3 3 14])
 .ret) .skip))
 (.seq (.reg [sv 0 15 4,
 sc 1 16 60 [(tm 15)],
 sm 2 17 (.ext (tm 16) 0),
 sm 3 18 (.ext (tm 16) 1),
 se 4 (.st 32 (tm 2) (tm 17)),
 sv 5 3 18])
 .ret))))
def r43 : List Mo := [.ldA 32 (tm 2), .mv (tm 3)]
theorem c43_eq : compF Tryz.prog 43 = some c43 := by kernel_rfl
theorem r43_eq : compRs Tryz.prog 43 = some r43 := by kernel_rfl
def l44_0 : Cd := (.seq (.reg [sm 0 10 (.bin .lss 3 (tm 9) (tm 8))])
 (.seq (.cond (tm 10) .skip (.exit 0))
 (.seq (.block 1 (.seq (.reg [sv 0 11 9,
 sm 1 12 (.ia (.sl 32) (tm 7) (tm 9)),
 sm 2 13 (.ldA 32 (tm 12)),
 sm 3 6 (.alloc (rep 32 (.int .u8 0))),
 sv 4 5 11,
 se 5 (.st 32 (tm 6) (tm 13))])
 (.seq (.reg [sv 0 14 5,
 sm 1 15 (.bin .gtr 3 (tm 14) (.const (.int .i64 0))),
 sv 2 16 15,
 sg 3 17 16 true (.mv (tm 1)),
 sg 4 18 16 true (.mv (tm 5)),
 sg 5 19 16 true (.bin .sub 3 (tm 18) (.const (.int .i64 1))),
 sg 6 20 16 true (.ia (.sl 32) (tm 17) (tm 19)),
 sg 7 21 16 true (.ldA 32 (tm 20)),
 sg 8 22 16 true (.ldA 32 (tm 6)),
 ⟨9, (some 23), (some ((some 16), true)), .callF 40 [(tm 21), (tm 22)], [], false⟩,
 sg 10 24 16 true (.bin .geq 3 (tm 23) (.const (.int .i64 0))),
 sm 11 25 (.pick (tm 16) (tm 24) (.const (.bool false))),
 sv 12 26 25,
 sg 13 27 26 false (.fa 1 (tm 2)),
 sg 14 28 26 false (.ld1 (tm 27)),
 sg 15 29 26 false (.ldA 32 (tm 6)),
 ⟨16, (some 30), (some ((some 26), false)), .callF 61 [(tm 28), (tm 29)], [], false⟩,
 sg 17 31 26 false (.un .not (tm 30)),
 sm 18 32 (.pick (tm 26) (.const (.bool true)) (tm 31))])
 (.cond (tm 32) (.seq (.reg [sm 0 4 (.mv (.const (.bool false)))])
 .ret) .skip))))
 (.reg [sm 0 33 (.bin .add 3 (tm 9) (.const (.int .i64 1))),
 sv 1 9 33]))))
def c44 : Cd := (.seq (.reg [sm 0 2 (.box (tm 0)),
 sm 1 4 (.mv (.const (.bool false)))])
 (.seq (.seq (.reg [sv 0 7 1,
 sm 1 8 (.len (.sl 32) (tm 7)),
 sm 2 9 (.mv (.const (.int .i64 0)))])
 (.block 0 (.loop l44_0)))
 (.seq (.reg [sv 0 34 1,
 sm 1 35 (.len (.sl 32) (tm 34)),
 sm 2 36 (.bin .gtr 3 (tm 35) (.const (.int .i64 0))),
 sv 3 4 36])
 .ret)))
def r44 : List Mo := [.mv (tm 4)]
theorem c44_eq : compF Tryz.prog 44 = some c44 := by kernel_rfl
theorem r44_eq : compRs Tryz.prog 44 = some r44 := by kernel_rfl
def c45 : Cd := (.seq (.reg [sm 0 3 (.box (tm 1)),
 sm 1 4 (.mv (.const (.int .i64 0)))])
 (.seq (.reg [sv 0 5 0,
 sm 1 6 (.mkF 63 [] [(tm 3)]),
 sc 2 7 62 [(tm 5), (tm 6)],
 sv 3 4 7])
 .ret))
def r45 : List Mo := [.mv (tm 4)]
theorem c45_eq : compF Tryz.prog 45 = some c45 := by kernel_rfl
theorem r45_eq : compRs Tryz.prog 45 = some r45 := by kernel_rfl
def l46_0 : Cd := (.seq (.reg [sm 0 13 (.bin .lss 3 (tm 12) (tm 11))])
 (.seq (.cond (tm 13) .skip (.exit 0))
 (.seq (.block 1 (.seq (.reg [sm 0 14 (.ia (.sl 45) (tm 10) (tm 12)),
 sm 1 15 (.ldA 45 (tm 14)),
 sm 2 5 (.alloc ([.int .i64 0, .int .u32 0, .nilS, .int .u64 0, .int .u8 0, .str [], .int .u8 0, .int .i64 0, .int .u64 0, .str [], .int .u32 0, .int .u32 0] ++ rep 32 (.int .u8 0) ++ [.nilS])),
 se 3 (.st 45 (tm 5) (tm 15))])
 (.dreg [sm 0 16 (.fa 1 (tm 3)),
 ⟨1, (some 17), none, .mo (.ld1 (tm 16)), [], true⟩,
 sm 2 18 (.ldA 45 (tm 5)),
 ⟨3, (some 19), none, .callF 35 [(tm 18)], [1], false⟩,
 sm 4 20 (.bsl 45 ([.int .i64 0, .int .u32 0, .nilS, .int .u64 0, .int .u8 0, .str [], .int .u8 0, .int .i64 0, .int .u64 0, .str [], .int .u32 0, .int .u32 0] ++ rep 32 (.int .u8 0) ++ [.nilS]) 1 [(0, (tm 19))]),
 sm 5 21 (.app 45 176 (tm 17) (tm 20)),
 sm 6 22 (.fa 1 (tm 3)),
 se 7 (.st 1 (tm 22) (tm 21))])))
 (.reg [sm 0 23 (.bin .add 3 (tm 12) (.const (.int .i64 1))),
 sv 1 12 23]))))
def c46 : Cd := (.seq (.reg [sm 0 1 (.box (tm 0)),
 sm 1 2 (.alloc [.int .i64 0, .nilS])])
 (.seq (.reg [sm 0 6 (.fa 0 (tm 1)),
 sm 1 7 (.ld1 (tm 6)),
 sm 2 8 (.bld [.int .i64 0, .nilS] [(0, 1, (tm 7))]),
 sm 3 3 (.alloc [.int .i64 0, .nilS]),
 se 4 (.st 2 (tm 3) (tm 8))])
 (.seq (.seq (.reg [sm 0 9 (.fa 1 (tm 1)),
 sm 1 10 (.ld1 (tm 9)),
 sm 2 11 (.len (.sl 45) (tm 10)),
 sm 3 12 (.mv (.const (.int .i64 0)))])
 (.block 0 (.loop l46_0)))
 (.seq (.reg [sm 0 24 (.ldA 2 (tm 3)),
 se 1 (.st 2 (tm 2) (tm 24))])
 .ret))))
def r46 : List Mo := [.ldA 2 (tm 2)]
theorem c46_eq : compF Tryz.prog 46 = some c46 := by kernel_rfl
theorem r46_eq : compRs Tryz.prog 46 = some r46 := by kernel_rfl
def l47_0 : Cd := (.seq (.seq (.reg [sv 0 7 6,
 sv 1 8 0,
 sm 2 9 (.len (.sl 32) (tm 8)),
 sm 3 10 (.bin .lss 3 (tm 7) (tm 9))])
 (.cond (tm 10) .skip (.exit 0)))
 (.seq (.block 1 (.seq (.reg [sv 0 13 0,
 sv 1 14 6,
 sm 2 15 (.ia (.sl 32) (tm 13) (tm 14)),
 sm 3 16 (.ldA 32 (tm 15)),
 sm 4 17 (.ldA 32 (tm 3)),
 sm 5 18 (.bin .neq 32 (tm 16) (tm 17))])
 (.cond (tm 18) (.reg [sv 0 19 5,
 sv 1 20 0,
 sv 2 21 6,
 sm 3 22 (.ia (.sl 32) (tm 20) (tm 21)),
 sm 4 23 (.ldA 32 (tm 22)),
 sm 5 24 (.bsl 32 (rep 32 (.int .u8 0)) 1 [(0, (tm 23))]),
 sm 6 25 (.app 32 32 (tm 19) (tm 24)),
 sv 7 5 25]) .skip)))
 (.reg [sv 0 11 6,
 sm 1 12 (.bin .add 3 (tm 11) (.const (.int .i64 1))),
 sv 2 6 12])))
def c47 : Cd := (.seq (.reg [sm 0 3 (.box (tm 1)),
 sm 1 4 (.mv (.const (.slice none 0 0)))])
 (.seq (.reg [sm 0 5 (.mv (.const (.slice none 0 0)))])
 (.seq (.seq (.reg [sm 0 6 (.mv (.const (.int .i64 0)))])
 (.block 0 (.loop l47_0)))
 (.seq (.reg [sv 0 26 5,
 sv 1 4 26])
 .ret))))
def r47 : List Mo := [.mv (tm 4)]
theorem c47_eq : compF Tryz.prog 47 = some c47 := by kernel_rfl
theorem r47_eq : compRs Tryz.prog 47 = some r47 := by kernel_rfl
def l48_0 : Cd := (.seq (.seq (.reg [sv 0 16 5,
 sm 1 17 (.fa 1 (tm 1)),
 sm 2 18 (.ld1 (tm 17)),
 sv 3 19 4,
 sm 4 20 (.ia (.sl 45) (tm 18) (tm 19)),
 sm 5 21 (.fa 44 (tm 20)),
 sm 6 22 (.ld1 (tm 21)),
 sm 7 23 (.len (.sl 32) (tm 22)),
 sm 8 24 (.bin .lss 3 (tm 16) (tm 23))])
 (.cond (tm 24) .skip (.exit 2)))
 (.seq (.block 3 (.seq (.reg [sm 0 27 (.fa 1 (tm 1)),
 sm 1 28 (.ld1 (tm 27)),
 sv 2 29 4,
 sm 3 30 (.ia (.sl 45) (tm 28) (tm 29)),
 sm 4 31 (.fa 44 (tm 30)),
 sm 5 32 (.ld1 (tm 31)),
 sv 6 33 5,
 sm 7 34 (.ia (.sl 32) (tm 32) (tm 33)),
 sm 8 35 (.ldA 32 (tm 34)),
 sm 9 6 (.alloc (rep 32 (.int .u8 0))),
 se 10 (.st 32 (tm 6) (tm 35))])
 (.seq (.reg [sv 0 36 3,
 sm 1 37 (.ldA 32 (tm 6)),
 sc 2 38 13 [(tm 36), (tm 37)],
 sm 3 39 (.un .not (tm 38))])
 (.cond (tm 39) (.reg [sv 0 40 3,
 sm 1 41 (.ldA 32 (tm 6)),
 sm 2 42 (.bsl 32 (rep 32 (.int .u8 0)) 1 [(0, (tm 41))]),
 sm 3 43 (.app 32 32 (tm 40) (tm 42)),
 sv 4 3 43]) .skip))))
 (.reg [sv 0 25 5,
 sm 1 26 (.bin .add 3 (tm 25) (.const (.int .i64 1))),
 sv 2 5 26])))
def l48_1 : Cd := (.seq (.seq (.reg [sv 0 9 4,
 sm 1 10 (.fa 1 (tm 1)),
 sm 2 11 (.ld1 (tm 10)),
 sm 3 12 (.len (.sl 45) (tm 11)),
 sm 4 13 (.bin .lss 3 (tm 9) (tm 12))])
 (.cond (tm 13) .skip (.exit 0)))
 (.seq (.block 1 (.seq (.reg [sm 0 5 (.mv (.const (.int .i64 0)))])
 (.block 2 (.loop l48_0))))
 (.reg [sv 0 14 4,
 sm 1 15 (.bin .add 3 (tm 14) (.const (.int .i64 1))),
 sv 2 4 15])))
def l48_2 : Cd := (.seq (.seq (.reg [sv 0 51 8,
 sm 1 52 (.bin .gtr 3 (tm 51) (.const (.int .i64 0))),
 sv 2 53 52,
 sg 3 54 53 true (.mv (tm 3)),
 sg 4 55 53 true (.mv (tm 8)),
 sg 5 56 53 true (.bin .sub 3 (tm 55) (.const (.int .i64 1))),
 sg 6 57 53 true (.ia (.sl 32) (tm 54) (tm 56)),
 sg 7 58 53 true (.ldA 32 (tm 57)),
 sg 8 59 53 true (.mv (tm 3)),
 sg 9 60 53 true (.mv (tm 8)),
 sg 10 61 53 true (.ia (.sl 32) (tm 59) (tm 60)),
 sg 11 62 53 true (.ldA 32 (tm 61)),
 ⟨12, (some 63), (some ((some 53), true)), .callF 64 [(tm 58), (tm 62)], [], false⟩,
 sg 13 64 53 true (.bin .gtr 3 (tm 63) (.const (.int .i64 0))),
 sm 14 65 (.pick (tm 53) (tm 64) (.const (.bool false)))])
 (.cond (tm 65) .skip (.exit 6)))
 (.seq (.block 7 (.reg [sv 0 68 3,
 sv 1 69 8,
 sm 2 70 (.bin .sub 3 (tm 69) (.const (.int .i64 1))),
 sv 3 71 3,
 sv 4 72 8,
 sv 5 73 3,
 sv 6 74 8,
 sm 7 75 (.ia (.sl 32) (tm 73) (tm 74)),
 sm 8 76 (.ldA 32 (tm 75)),
 sv 9 77 3,
 sv 10 78 8,
 sm 11 79 (.bin .sub 3 (tm 78) (.const (.int .i64 1))),
 sm 12 80 (.ia (.sl 32) (tm 77) (tm 79)),
 sm 13 81 (.ldA 32 (tm 80)),
 sm 14 82 (.ia (.sl 32) (tm 68) (tm 70)),
 se 15 (.st 32 (tm 82) (tm 76)),
 sm 16 83 (.ia (.sl 32) (tm 71) (tm 72)),
 se 17 (.st 32 (tm 83) (tm 81))]))
 (.reg [sv 0 66 8,
 sm 1 67 (.bin .sub 3 (tm 66) (.const (.int .i64 1))),
 sv 2 8 67])))
def l48_3 : Cd := (.seq (.seq (.reg [sv 0 44 7,
 sv 1 45 3,
 sm 2 46 (.len (.sl 32) (tm 45)),
 sm 3 47 (.bin .lss 3 (tm 44) (tm 46))])
 (.cond (tm 47) .skip (.exit 4)))
 (.seq (.block 5 (.seq (.reg [sv 0 50 7,
 sv 1 8 50])
 (.block 6 (.loop l48_2))))
 (.reg [sv 0 48 7,
 sm 1 49 (.bin .add 3 (tm 48) (.const (.int .i64 1))),
 sv 2 7 49])))
def c48 : Cd := (.seq (.reg [sm 0 1 (.box (tm 0)),
 sm 1 2 (.mv (.const (.slice none 0 0)))])
 (.seq (.reg [sm 0 3 (.mv (.const (.slice none 0 0)))])
 (.seq (.seq (.reg [sm 0 4 (.mv (.const (.int .i64 0)))])
 (.block 0 (.loop l48_1)))
 (.seq (.seq (.reg [sm 0 7 (.mv (.const (.int .i64 0)))])
 (.block 4 (.loop l48_3)))
 (.seq (.reg [sv 0 84 3,
 sv 1 2 84])
 .ret)))))
def r48 : List Mo := [.mv (tm 2)]
theorem c48_eq : compF Tryz.prog 48 = some c48 := by kernel_rfl
theorem r48_eq : compRs Tryz.prog 48 = some r48 := by kernel_rfl
def c50 : Cd := (.seq (.reg [sm 0 1 (.box (tm 0)),
 sm 1 2 (.mv (.const (.int .i64 0)))])
 (.seq (.seq (.reg [sm 0 3 (.fa 1 (tm 1)),
 sm 1 4 (.ld1 (tm 3)),
 sm 2 5 (.len (.sl 32) (tm 4)),
 sm 3 6 (.bin .gtr 3 (tm 5) (.const (.int .i64 4)))])
 (.cond (tm 6) (.seq (.reg [sm 0 2 (.mv (.const (.int .i64 4)))])
 .ret) .skip))
 (.seq (.seq (.reg [sm 0 7 (.fa 1 (tm 1)),
 sm 1 8 (.ld1 (tm 7)),
 sc 2 9 54 [(tm 8)],
 sm 3 10 (.un .not (tm 9))])
 (.cond (tm 10) (.seq (.reg [sm 0 2 (.mv (.const (.int .i64 32)))])
 .ret) .skip))
 (.seq (.seq (.reg [sm 0 11 (.fa 0 (tm 1)),
 sm 1 12 (.ld1 (tm 11)),
 sc 2 13 71 [(tm 12)],
 sm 3 14 (.un .not (tm 13)),
 sv 4 15 14,
 sg 5 16 15 false (.fa 2 (tm 1)),
 sg 6 17 15 false (.ld1 (tm 16)),
 sg 7 18 15 false (.bin .gtr 36 (tm 17) (.const (.int .u64 1000000000000))),
 sm 8 19 (.pick (tm 15) (.const (.bool true)) (tm 18)),
 sv 9 20 19,
 sg 10 21 20 false (.fa 3 (tm 1)),
 sg 11 22 20 false (.ldA 6 (tm 21)),
 ⟨12, (some 23), (some ((some 20), false)), .callF 72 [(tm 22)], [], false⟩,
 sg 13 24 20 false (.bin .neq 3 (tm 23) (.const (.int .i64 0))),
 sm 14 25 (.pick (tm 20) (.const (.bool true)) (tm 24)),
 sv 15 26 25,
 sg 16 27 26 false (.fa 9 (tm 1)),
 sg 17 28 26 false (.fa 0 (tm 27)),
 sg 18 29 26 false (.ld1 (tm 28)),
 ⟨19, (some 30), (some ((some 26), false)), .callF 73 [(tm 29)], [], false⟩,
 sg 20 31 26 false (.un .not (tm 30)),
 sm 21 32 (.pick (tm 26) (.const (.bool true)) (tm 31)),
 sv 22 33 32,
 sg 23 34 33 false (.fa 9 (tm 1)),
 sg 24 35 33 false (.fa 1 (tm 34)),
 sg 25 36 33 false (.ld1 (tm 35)),
 ⟨26, (some 37), (some ((some 33), false)), .callF 73 [(tm 36)], [], false⟩,
 sg 27 38 33 false (.un .not (tm 37)),
 sm 28 39 (.pick (tm 33) (.const (.bool true)) (tm 38))])
 (.cond (tm 39) (.seq (.reg [sm 0 2 (.mv (.const (.int .i64 8)))])
 .ret) .skip))
 (.seq (.reg [sm 0 2 (.mv (.const (.int .i64 0)))])
 .ret)))))
def r50 : List Mo := [.mv (tm 2)]
theorem c50_eq : compF Tryz.prog 50 = some c50 := by kernel_rfl
theorem r50_eq : compRs Tryz.prog 50 = some r50 := by kernel_rfl
def c51 : Cd := (.seq (.reg [sm 0 1 (.box (tm 0)),
 sm 1 2 (.alloc (rep 32 (.int .u8 0)))])
 (.seq (.reg [sm 0 3 (.ldA 11 (tm 1)),
 sc 1 4 75 [(tm 3)],
 sc 2 5 74 [(tm 4)],
 se 3 (.st 32 (tm 2) (tm 5))])
 .ret))
def r51 : List Mo := [.ldA 32 (tm 2)]
theorem c51_eq : compF Tryz.prog 51 = some c51 := by kernel_rfl
theorem r51_eq : compRs Tryz.prog 51 = some r51 := by kernel_rfl
def c52 : Cd := (.seq (.reg [sm 0 2 (.mv (.const (.slice none 0 0)))])
 (.seq (.seq (.reg [sv 0 3 0,
 sm 1 4 (.bin .eql 25 (tm 3) (.const (.slice none 0 0)))])
 (.cond (tm 4) (.seq (.reg [sm 0 2 (.mv (.const (.slice none 0 0)))])
 .ret) .skip))
 (.seq (.reg [sm 0 5 (.bsl 32 (rep 32 (.int .u8 0)) 0 []),
 sv 1 6 0,
 sm 2 7 (.app 32 32 (tm 5) (tm 6)),
 sv 3 2 7])
 .ret)))
def r52 : List Mo := [.mv (tm 2)]
theorem c52_eq : compF Tryz.prog 52 = some c52 := by kernel_rfl
theorem r52_eq : compRs Tryz.prog 52 = some r52 := by kernel_rfl
def l53_0 : Cd := (.seq (.reg [sm 0 9 (.bin .lss 3 (tm 8) (tm 7))])
 (.seq (.cond (tm 9) .skip (.exit 0))
 (.seq (.block 1 (.seq (.reg [sv 0 10 8,
 sv 1 5 10])
 (.seq (.reg [sv 0 11 1,
 sv 1 12 0,
 sv 2 13 5,
 sm 3 14 (.ia (.sl 32) (tm 12) (tm 13)),
 sm 4 15 (.ldA 32 (tm 14)),
 ⟨5, (some 16), none, .callV (tm 11) [(tm 15)], [], false⟩])
 (.cond (tm 16) (.seq (.reg [sv 0 17 5,
 sv 1 4 17])
 .ret) .skip))))
 (.reg [sm 0 18 (.bin .add 3 (tm 8) (.const (.int .i64 1))),
 sv 1 8 18]))))
def c53 : Cd := (.seq (.reg [sm 0 4 (.mv (.const (.int .i64 0)))])
 (.seq (.seq (.reg [sv 0 6 0,
 sm 1 7 (.len (.sl 32) (tm 6)),
 sm 2 8 (.mv (.const (.int .i64 0)))])
 (.block 0 (.loop l53_0)))
 (.seq (.reg [sm 0 4 (.mv (.const (.int .i64 (-1))))])
 .ret)))
def r53 : List Mo := [.mv (tm 4)]
theorem c53_eq : compF Tryz.prog 53 = some c53 := by kernel_rfl
theorem r53_eq : compRs Tryz.prog 53 = some r53 := by kernel_rfl
def l54_0 : Cd := (.seq (.seq (.reg [sv 0 4 3,
 sv 1 5 0,
 sm 2 6 (.len (.sl 32) (tm 5)),
 sm 3 7 (.bin .lss 3 (tm 4) (tm 6))])
 (.cond (tm 7) .skip (.exit 0)))
 (.seq (.block 1 (.seq (.reg [sv 0 10 0,
 sv 1 11 3,
 sm 2 12 (.bin .sub 3 (tm 11) (.const (.int .i64 1))),
 sm 3 13 (.ia (.sl 32) (tm 10) (tm 12)),
 sm 4 14 (.ldA 32 (tm 13)),
 sv 5 15 0,
 sv 6 16 3,
 sm 7 17 (.ia (.sl 32) (tm 15) (tm 16)),
 sm 8 18 (.ldA 32 (tm 17)),
 sc 9 19 64 [(tm 14), (tm 18)],
 sm 10 20 (.bin .geq 3 (tm 19) (.const (.int .i64 0)))])
 (.cond (tm 20) (.seq (.reg [sm 0 2 (.mv (.const (.bool false)))])
 .ret) .skip)))
 (.reg [sv 0 8 3,
 sm 1 9 (.bin .add 3 (tm 8) (.const (.int .i64 1))),
 sv 2 3 9])))
def c54 : Cd := (.seq (.reg [sm 0 2 (.mv (.const (.bool false)))])
 (.seq (.seq (.reg [sm 0 3 (.mv (.const (.int .i64 1)))])
 (.block 0 (.loop l54_0)))
 (.seq (.reg [sm 0 2 (.mv (.const (.bool true)))])
 .ret)))
def r54 : List Mo := [.mv (tm 2)]
theorem c54_eq : compF Tryz.prog 54 = some c54 := by kernel_rfl
theorem r54_eq : compRs Tryz.prog 54 = some r54 := by kernel_rfl
def l55_0 : Cd := (.block 1 (.seq (.reg [sv 0 21 2,
 sv 1 22 1,
 sm 2 23 (.bin .sub 3 (tm 21) (tm 22)),
 sv 3 12 23])
 (.seq (.seq (.reg [sv 0 24 12,
 sm 1 25 (.bin .leq 3 (tm 24) (.const (.int .i64 12)))])
 (.cond (tm 25) (.seq (.reg [sv 0 26 0,
 sv 1 27 1,
 sv 2 28 2,
 sv 3 29 4,
 sc 4 30 76 [(tm 26), (tm 27), (tm 28), (tm 29)]])
 .ret) .skip))
 (.seq (.seq (.reg [sv 0 31 3,
 sm 1 32 (.bin .eql 3 (tm 31) (.const (.int .i64 0)))])
 (.cond (tm 32) (.seq (.reg [sv 0 33 0,
 sv 1 34 1,
 sv 2 35 2,
 sv 3 36 4,
 sc 4 37 77 [(tm 33), (tm 34), (tm 35), (tm 36)]])
 .ret) .skip))
 (.seq (.seq (.reg [sv 0 38 10,
 sm 1 39 (.un .not (tm 38))])
 (.cond (tm 39) (.seq (.reg [sv 0 40 0,
 sv 1 41 1,
 sv 2 42 2,
 sv 3 43 4,
 sc 4 44 78 [(tm 40), (tm 41), (tm 42), (tm 43)]])
 (.reg [sv 0 45 3,
 sm 1 46 (.bin .sub 3 (tm 45) (.const (.int .i64 1))),
 sv 2 3 46])) .skip))
 (.seq (.reg [sv 0 48 0,
 sv 1 49 1,
 sv 2 50 2,
 sv 3 51 4,
 sc 4 52 79 [(tm 48), (tm 49), (tm 50), (tm 51)],
 sv 5 47 52,
 sm 6 53 (.ext (tm 47) 0),
 sm 7 54 (.ext (tm 47) 1),
 sv 8 13 53,
 sv 9 14 54])
 (.seq (.seq (.reg [sv 0 55 14,
 sm 1 56 (.bin .eql 116 (tm 55) (.const (.int .i64 2)))])
 (.cond (tm 56) (.seq (.reg [sv 0 57 0,
 sv 1 58 1,
 sv 2 59 2,
 sv 3 60 4,
 sc 4 61 80 [(tm 57), (tm 58), (tm 59), (tm 60)]])
 (.seq (.reg [sv 0 62 2,
 sm 1 63 (.bin .sub 3 (tm 62) (.const (.int .i64 1))),
 sv 2 64 13,
 sv 3 65 1,
 sm 4 66 (.bin .sub 3 (tm 64) (tm 65)),
 sm 5 67 (.bin .sub 3 (tm 63) (tm 66)),
 sv 6 13 67])
 (.reg [sm 0 14 (.mv (.const (.int .i64 1)))]))) .skip))
 (.seq (.seq (.reg [sv 0 68 10,
 sv 1 69 68,
 sg 2 70 69 true (.mv (tm 11)),
 sm 3 71 (.pick (tm 69) (tm 70) (.const (.bool false))),
 sv 4 72 71,
 sg 5 73 72 true (.mv (tm 14)),
 sg 6 74 72 true (.bin .eql 116 (tm 73) (.const (.int .i64 1))),
 sm 7 75 (.pick (tm 72) (tm 74) (.const (.bool false)))])
 (.cond (tm 75) (.seq (.reg [sv 0 76 0,
 sv 1 77 1,
 sv 2 78 2,
 sv 3 79 4,
 sc 4 80 81 [(tm 76), (tm 77), (tm 78), (tm 79)]])
 (.cond (tm 80) .ret .skip)) .skip))
 (.seq (.seq (.reg [sv 0 81 1,
 sm 1 82 (.bin .gtr 3 (tm 81) (.const (.int .i64 0))),
 sv 2 83 82,
 sg 3 84 83 true (.mv (tm 4)),
 sg 4 85 83 true (.mv (tm 0)),
 sg 5 86 83 true (.mv (tm 1)),
 sg 6 87 83 true (.bin .sub 3 (tm 86) (.const (.int .i64 1))),
 sg 7 88 83 true (.ia (.sl 32) (tm 85) (tm 87)),
 sg 8 89 83 true (.ldA 32 (tm 88)),
 sg 9 90 83 true (.mv (tm 0)),
 sg 10 91 83 true (.mv (tm 13)),
 sg 11 92 83 true (.ia (.sl 32) (tm 90) (tm 91)),
 sg 12 93 83 true (.ldA 32 (tm 92)),
 ⟨13, (some 94), (some ((some 83), true)), .callV (tm 84) [(tm 89), (tm 93)], [], false⟩,
 sg 14 95 83 true (.bin .lss 3 (tm 94) (.const (.int .i64 0))),
 sg 15 96 83 true (.un .not (tm 95)),
 sm 16 97 (.pick (tm 83) (tm 96) (.const (.bool false)))])
 (.cond (tm 97) (.seq (.reg [sv 0 98 0,
 sv 1 99 1,
 sv 2 100 2,
 sv 3 101 13,
 sv 4 102 4,
 sc 5 103 82 [(tm 98), (tm 99), (tm 100), (tm 101), (tm 102)],
 sv 6 15 103])
 (.seq (.reg [sv 0 104 15,
 sv 1 1 104])
 (.exit 1))) .skip))
 (.seq (.reg [sv 0 106 0,
 sv 1 107 1,
 sv 2 108 2,
 sv 3 109 13,
 sv 4 110 4,
 sc 5 111 83 [(tm 106), (tm 107), (tm 108), (tm 109), (tm 110)],
 sv 6 105 111,
 sm 7 112 (.ext (tm 105) 0),
 sm 8 113 (.ext (tm 105) 1),
 sv 9 16 112,
 sv 10 17 113])
 (.seq (.reg [sv 0 114 17,
 sv 1 11 114])
 (.seq (.reg [sv 0 115 16,
 sv 1 116 1,
 sm 2 117 (.bin .sub 3 (tm 115) (tm 116)),
 sv 3 118 2,
 sv 4 119 16,
 sm 5 120 (.bin .sub 3 (tm 118) (tm 119)),
 sv 6 18 117,
 sv 7 19 120])
 (.seq (.reg [sv 0 121 12,
 sm 1 122 (.bin .quo 3 (tm 121) (.const (.int .i64 8))),
 sv 2 20 122])
 (.seq (.reg [sv 0 123 18,
 sv 1 124 19,
 sm 2 125 (.bin .lss 3 (tm 123) (tm 124))])
 (.cond (tm 125) (.seq (.reg [sv 0 126 18,
 sv 1 127 20,
 sm 2 128 (.bin .geq 3 (tm 126) (tm 127)),
 sv 3 10 128])
 (.seq (.reg [sv 0 129 0,
 sv 1 130 1,
 sv 2 131 16,
 sv 3 132 3,
 sv 4 133 4,
 sc 5 134 55 [(tm 129), (tm 130), (tm 131), (tm 132), (tm 133)]])
 (.reg [sv 0 135 16,
 sm 1 136 (.bin .add 3 (tm 135) (.const (.int .i64 1))),
 sv 2 1 136]))) (.seq (.reg [sv 0 137 19,
 sv 1 138 20,
 sm 2 139 (.bin .geq 3 (tm 137) (tm 138)),
 sv 3 10 139])
 (.seq (.reg [sv 0 140 0,
 sv 1 141 16,
 sm 2 142 (.bin .add 3 (tm 141) (.const (.int .i64 1))),
 sv 3 143 2,
 sv 4 144 3,
 sv 5 145 4,
 sc 6 146 55 [(tm 140), (tm 142), (tm 143), (tm 144), (tm 145)]])
 (.reg [sv 0 147 16,
 sv 1 2 147]))))))))))))))))))
def c55 : Cd := (.seq (.reg [sm 0 10 (.mv (.const (.bool true)))])
 (.seq (.reg [sm 0 11 (.mv (.const (.bool true)))])
 (.block 0 (.loop l55_0))))
def r55 : List Mo := []
theorem c55_eq : compF Tryz.prog 55 = some c55 := by kernel_rfl
theorem r55_eq : compRs Tryz.prog 55 = some r55 := by kernel_rfl
def c56 : Cd := (.seq (.reg [sm 0 2 (.mv (.const (.int .i64 0)))])
 (.seq (.cond (.const (.bool false)) (.seq (.reg [sv 0 3 0,
 sm 1 4 (.cint .u32 (tm 3)),
 sc 2 5 84 [(tm 4)],
 sv 3 2 5])
 .ret) .skip)
 (.seq (.reg [sv 0 6 0,
 sc 1 7 85 [(tm 6)],
 sv 2 2 7])
 .ret)))
def r56 : List Mo := [.mv (tm 2)]
theorem c56_eq : compF Tryz.prog 56 = some c56 := by kernel_rfl
theorem r56_eq : compRs Tryz.prog 56 = some r56 := by kernel_rfl
def c57 : Cd := (.seq (.reg [sm 0 4 (.mv (.const (.int .i64 0)))])
 (.seq (.reg [sv 0 5 0,
 sv 1 6 1,
 sm 2 7 (.cmpB 86 (.func 86) (tm 5) (tm 6)),
 sv 3 4 7])
 .ret))
def r57 : List Mo := [.mv (tm 4)]
theorem c57_eq : compF Tryz.prog 57 = some c57 := by kernel_rfl
theorem r57_eq : compRs Tryz.prog 57 = some r57 := by kernel_rfl
def c58 : Cd := (.seq (.reg [sm 0 1 (.box (tm 0)),
 sm 1 2 (.alloc [.int .u32 0, .nilS, .int .u64 0, .int .u8 0, .str [], .int .u8 0, .int .i64 0, .int .u64 0, .str [], .int .u32 0, .int .u32 0])])
 (.seq (.reg [sm 0 3 (.bsl 32 (rep 32 (.int .u8 0)) 0 []),
 sm 1 4 (.fa 1 (tm 1)),
 sm 2 5 (.ld1 (tm 4)),
 sm 3 6 (.app 32 32 (tm 3) (tm 5)),
 sm 4 7 (.fa 1 (tm 1)),
 se 5 (.st 1 (tm 7) (tm 6))])
 (.seq (.reg [sm 0 8 (.ldA 11 (tm 1)),
 se 1 (.st 11 (tm 2) (tm 8))])
 .ret)))
def r58 : List Mo := [.ldA 11 (tm 2)]
theorem c58_eq : compF Tryz.prog 58 = some c58 := by kernel_rfl
theorem r58_eq : compRs Tryz.prog 58 = some r58 := by kernel_rfl
def c59 : Cd := (.seq (.reg [sm 0 1 (.box (tm 0)),
 sm 1 2 (.mv (.const (.slice none 0 0))),
 sm 2 3 (.mv (.const (.int .i64 0)))])
 (.seq (.seq (.reg [sm 0 7 (.ldA 11 (tm 1)),
 sc 1 8 87 [(tm 7)],
 sv 2 4 8])
 (.seq (.reg [sv 0 9 4,
 sm 1 10 (.bin .neq 28 (tm 9) (.const (.int .i64 0)))])
 (.cond (tm 10) (.seq (.reg [sv 0 11 4,
 sm 1 2 (.mv (.const (.slice none 0 0))),
 sv 2 3 11])
 .ret) .skip)))
 (.seq (.reg [sm 0 13 (.ldA 11 (tm 1)),
 sc 1 14 88 [(tm 13)],
 sv 2 12 14,
 sm 3 15 (.ext (tm 12) 0),
 sm 4 16 (.ext (tm 12) 1),
 sv 5 5 15,
 sv 6 6 16])
 (.seq (.dreg [sv 0 17 5,
 sm 1 18 (.fa 9 (tm 1)),
 sm 2 19 (.fa 0 (tm 18)),
 sm 3 20 (.ld1 (tm 19)),
 sm 4 21 (.cint .u64 (tm 20)),
 sm 6 23 (.fa 9 (tm 1)),
 sm 7 24 (.fa 1 (tm 23)),
 ⟨8, (some 25), none, .mo (.ld1 (tm 24)), [], true⟩,
 ⟨9, (some 26), none, .mo (.cint .u64 (tm 25)), [], true⟩,
 ⟨5, (some 22), none, .callF 90 [(tm 21)], [9, 8], false⟩,
 sc 10 27 90 [(tm 26)],
 sm 11 28 (.bsl 1 [.nilS] 3 [(0, (tm 17)), (1, (tm 22)), (2, (tm 27))]),
 sc 12 29 89 [(tm 28)],
 sv 13 2 29,
 sm 14 3 (.mv (.const (.int .i64 0)))])
 .ret))))
def r59 : List Mo := [.mv (tm 2), .mv (tm 3)]
theorem c59_eq : compF Tryz.prog 59 = some c59 := by kernel_rfl
theorem r59_eq : compRs Tryz.prog 59 = some r59 := by kernel_rfl
def c60 : Cd := (.seq (.reg [sm 0 2 (.alloc (rep 32 (.int .u8 0))),
 sm 1 3 (.mv (.const (.int .i64 0)))])
 (.seq (.reg [sv 0 4 0,
 sm 1 5 (.bsl 1 [.nilS] 1 [(0, (tm 4))]),
 sc 2 6 91 [(tm 5)],
 sm 3 7 (.ext (tm 6) 0),
 sm 4 8 (.ext (tm 6) 1),
 se 5 (.st 32 (tm 2) (tm 7)),
 sv 6 3 8])
 .ret))
def r60 : List Mo := [.ldA 32 (tm 2), .mv (tm 3)]
theorem c60_eq : compF Tryz.prog 60 = some c60 := by kernel_rfl
theorem r60_eq : compRs Tryz.prog 60 = some r60 := by kernel_rfl
def c61 : Cd := (.seq (.reg [sm 0 3 (.box (tm 1)),
 sm 1 4 (.mv (.const (.bool false)))])
 (.seq (.reg [sv 0 5 0,
 sm 1 6 (.ldA 32 (tm 3)),
 sc 2 7 92 [(tm 5), (tm 6)],
 sm 3 8 (.bin .geq 3 (tm 7) (.const (.int .i64 0))),
 sv 4 4 8])
 .ret))
def r61 : List Mo := [.mv (tm 4)]
theorem c61_eq : compF Tryz.prog 61 = some c61 := by kernel_rfl
theorem r61_eq : compRs Tryz.prog 61 = some r61 := by kernel_rfl
def l62_0 : Cd := (.seq (.reg [sm 0 9 (.bin .lss 3 (tm 8) (tm 7))])
 (.seq (.cond (tm 9) .skip (.exit 0))
 (.seq (.block 1 (.seq (.reg [sv 0 10 8,
 sv 1 5 10])
 (.seq (.reg [sv 0 11 1,
 sv 1 12 0,
 sv 2 13 5,
 sm 3 14 (.ia (.sl 45) (tm 12) (tm 13)),
 sm 4 15 (.ldA 45 (tm 14)),
 ⟨5, (some 16), none, .callV (tm 11) [(tm 15)], [], false⟩])
 (.cond (tm 16) (.seq (.reg [sv 0 17 5,
 sv 1 4 17])
 .ret) .skip))))
 (.reg [sm 0 18 (.bin .add 3 (tm 8) (.const (.int .i64 1))),
 sv 1 8 18]))))
def c62 : Cd := (.seq (.reg [sm 0 4 (.mv (.const (.int .i64 0)))])
 (.seq (.seq (.reg [sv 0 6 0,
 sm 1 7 (.len (.sl 45) (tm 6)),
 sm 2 8 (.mv (.const (.int .i64 0)))])
 (.block 0 (.loop l62_0)))
 (.seq (.reg [sm 0 4 (.mv (.const (.int .i64 (-1))))])
 .ret)))
def r62 : List Mo := [.mv (tm 4)]
theorem c62_eq : compF Tryz.prog 62 = some c62 := by kernel_rfl
theorem r62_eq : compRs Tryz.prog 62 = some r62 := by kernel_rfl
def c63 : Cd := (.seq (.reg [sm 0 2 (.box (tm 0)),
 sm 1 3 (.mv (.const (.bool false)))])
 (.seq (.reg [sm 0 4 (.fa 12 (tm 2)),
 sm 1 5 (.ldA 32 (tm 4)),
 sm 2 6 (.ldA 32 (tm 1)),
 sm 3 7 (.bin .eql 32 (tm 5) (tm 6)),
 sv 4 3 7])
 .ret))
def r63 : List Mo := [.mv (tm 3)]
theorem c63_eq : compF Tryz.prog 63 = some c63 := by kernel_rfl
theorem r63_eq : compRs Tryz.prog 63 = some r63 := by kernel_rfl
def l64_0 : Cd := (.seq (.seq (.reg [sv 0 6 5,
 sm 1 7 (.bin .lss 3 (tm 6) (.const (.int .i64 32)))])
 (.cond (tm 7) .skip (.exit 0)))
 (.seq (.block 1 (.seq (.seq (.reg [sv 0 10 5,
 sm 1 11 (.ia (.arr 32 1) (tm 2) (tm 10)),
 sm 2 12 (.ld1 (tm 11)),
 sv 3 13 5,
 sm 4 14 (.ia (.arr 32 1) (tm 3) (tm 13)),
 sm 5 15 (.ld1 (tm 14)),
 sm 6 16 (.bin .lss 5 (tm 12) (tm 15))])
 (.cond (tm 16) (.seq (.reg [sm 0 4 (.mv (.const (.int .i64 (-1))))])
 .ret) .skip))
 (.seq (.reg [sv 0 17 5,
 sm 1 18 (.ia (.arr 32 1) (tm 2) (tm 17)),
 sm 2 19 (.ld1 (tm 18)),
 sv 3 20 5,
 sm 4 21 (.ia (.arr 32 1) (tm 3) (tm 20)),
 sm 5 22 (.ld1 (tm 21)),
 sm 6 23 (.bin .gtr 5 (tm 19) (tm 22))])
 (.cond (tm 23) (.seq (.reg [sm 0 4 (.mv (.const (.int .i64 1)))])
 .ret) .skip))))
 (.reg [sv 0 8 5,
 sm 1 9 (.bin .add 3 (tm 8) (.const (.int .i64 1))),
 sv 2 5 9])))
def c64 : Cd := (.seq (.reg [sm 0 2 (.box (tm 0)),
 sm 1 3 (.box (tm 1)),
 sm 2 4 (.mv (.const (.int .i64 0)))])
 (.seq (.seq (.reg [sm 0 5 (.mv (.const (.int .i64 0)))])
 (.block 0 (.loop l64_0)))
 (.seq (.reg [sm 0 4 (.mv (.const (.int .i64 0)))])
 .ret)))
def r64 : List Mo := [.mv (tm 4)]
theorem c64_eq : compF Tryz.prog 64 = some c64 := by kernel_rfl
theorem r64_eq : compRs Tryz.prog 64 = some r64 := by kernel_rfl
def c70 : Cd := (.seq (.reg [sm 0 1 (.box (tm 0)),
 sm 1 2 (.mv (.const (.slice none 0 0)))])
 (.seq (.reg [sm 0 4 (.bsl 1 [.int .u8 0] 1 [(0, (.const (.int .u8 111)))]),
 sm 1 5 (.fa 0 (tm 1)),
 sm 2 6 (.ld1 (tm 5)),
 sm 3 7 (.cint .u64 (tm 6)),
 sc 4 8 98 [(tm 7)],
 sm 5 9 (.app 1 1 (tm 4) (tm 8)),
 sv 6 3 9])
 (.seq (.dreg [sv 0 10 3,
 sm 1 11 (.fa 1 (tm 1)),
 sm 2 12 (.ld1 (tm 11)),
 sm 5 15 (.fa 2 (tm 1)),
 ⟨6, (some 16), none, .mo (.ld1 (tm 15)), [], true⟩,
 ⟨3, (some 13), none, .callF 99 [(tm 12)], [6], false⟩,
 ⟨4, (some 14), none, .mo (.app 1 1 (tm 10) (tm 13)), [6], false⟩,
 sc 7 17 98 [(tm 16)],
 sm 8 18 (.app 1 1 (tm 14) (tm 17)),
 sv 9 3 18])
 (.seq (.reg [sv 0 19 3,
 sm 1 20 (.fa 3 (tm 1)),
 sm 2 21 (.fa 0 (tm 20)),
 sm 3 22 (.ld1 (tm 21)),
 sm 4 23 (.bsl 1 [.int .u8 0] 1 [(0, (tm 22))]),
 sm 5 24 (.app 1 1 (tm 19) (tm 23)),
 sv 6 3 24])
 (.seq (.seq (.reg [sm 0 25 (.fa 3 (tm 1)),
 sm 1 26 (.fa 0 (tm 25)),
 sm 2 27 (.ld1 (tm 26)),
 sm 3 28 (.bin .neq 5 (tm 27) (.const (.int .u8 1)))])
 (.cond (tm 28) (.reg [sv 0 29 3,
 sm 1 30 (.fa 3 (tm 1)),
 sm 2 31 (.fa 1 (tm 30)),
 sm 3 32 (.ld1 (tm 31)),
 sm 4 33 (.csb (tm 32)),
 sc 5 34 100 [(tm 33)],
 sm 6 35 (.app 1 1 (tm 29) (tm 34)),
 sv 7 3 35]) .skip))
 (.seq (.seq (.reg [sm 0 36 (.fa 3 (tm 1)),
 sm 1 37 (.fa 0 (tm 36)),
 sm 2 38 (.ld1 (tm 37)),
 sm 3 39 (.bin .eql 5 (tm 38) (.const (.int .u8 4)))])
 (.cond (tm 39) (.reg [sv 0 40 3,
 sm 1 41 (.fa 3 (tm 1)),
 sm 2 42 (.fa 2 (tm 41)),
 sm 3 43 (.ldA 4 (tm 42)),
 sc 4 44 101 [(tm 43)],
 sm 5 45 (.app 1 1 (tm 40) (tm 44)),
 sv 6 3 45]) .skip))
 (.seq (.reg [sv 0 46 3,
 sv 1 2 46])
 .ret)))))))
def r70 : List Mo := [.mv (tm 2)]
theorem c70_eq : compF Tryz.prog 70 = some c70 := by kernel_rfl
theorem r70_eq : compRs Tryz.prog 70 = some r70 := by kernel_rfl
def c71 : Cd := (.seq (.reg [sm 0 2 (.mv (.const (.bool false)))])
 (.seq (.reg [sv 0 3 0,
 sm 1 4 (.bin .geq 35 (tm 3) (.const (.int .u32 1))),
 sv 2 5 4,
 sg 3 6 5 true (.mv (tm 0)),
 sg 4 7 5 true (.bin .lss 35 (tm 6) (.const (.int .u32 1000000007))),
 sm 5 8 (.pick (tm 5) (tm 7) (.const (.bool false))),
 sv 6 9 8,
 sg 7 10 9 true (.mv (tm 0)),
 sg 8 11 9 true (.cint .u64 (tm 10)),
 ⟨9, (some 12), (some ((some 9), true)), .callF 102 [(tm 11), (.const (.int .u64 500000003)), (.const (.int .u64 1000000007))], [], false⟩,
 sg 10 13 9 true (.bin .eql 36 (tm 12) (.const (.int .u64 1))),
 sm 11 14 (.pick (tm 9) (tm 13) (.const (.bool false))),
 sv 12 2 14])
 .ret))
def r71 : List Mo := [.mv (tm 2)]
theorem c71_eq : compF Tryz.prog 71 = some c71 := by kernel_rfl
theorem r71_eq : compRs Tryz.prog 71 = some r71 := by kernel_rfl
def c72 : Cd := (.seq (.reg [sm 0 1 (.box (tm 0)),
 sm 1 2 (.mv (.const (.int .i64 0)))])
 (.seq (.reg [sm 0 4 (.fa 2 (tm 1)),
 sm 1 5 (.ldA 4 (tm 4)),
 sm 2 6 (.bld [.int .u8 0, .int .i64 0, .int .u64 0, .str []] []),
 sm 3 7 (.bin .eql 38 (tm 5) (tm 6)),
 sv 4 3 7])
 (.seq (.seq (.reg [sm 0 8 (.fa 0 (tm 1)),
 sm 1 9 (.ld1 (tm 8))])
 (.block 0 (.seq (.reg [sm 0 11 (.bin .eql 5 (tm 9) (.const (.int .u8 1))),
 sv 1 10 11])
 (.cond (tm 10) (.seq (.reg [sm 0 12 (.fa 1 (tm 1)),
 sm 1 13 (.ld1 (tm 12)),
 sm 2 14 (.bin .eql 9 (tm 13) (.const (.string ⟨#[]⟩))),
 sv 3 15 14,
 sg 4 16 15 true (.mv (tm 3)),
 sm 5 17 (.pick (tm 15) (tm 16) (.const (.bool false)))])
 (.cond (tm 17) (.seq (.reg [sm 0 2 (.mv (.const (.int .i64 0)))])
 .ret) .skip)) (.seq (.seq (.reg [sm 0 19 (.bin .eql 5 (tm 9) (.const (.int .u8 2))),
 sv 1 18 19])
 (.cond (tm 18) .skip (.reg [sm 0 20 (.bin .eql 5 (tm 9) (.const (.int .u8 3))),
 sv 1 18 20])))
 (.cond (tm 18) (.seq (.reg [sm 0 21 (.fa 1 (tm 1)),
 sm 1 22 (.ld1 (tm 21)),
 sc 2 23 103 [(tm 22)],
 sv 3 24 23,
 sg 4 25 24 true (.mv (tm 3)),
 sm 5 26 (.pick (tm 24) (tm 25) (.const (.bool false)))])
 (.cond (tm 26) (.seq (.reg [sm 0 2 (.mv (.const (.int .i64 0)))])
 .ret) .skip)) (.seq (.reg [sm 0 28 (.bin .eql 5 (tm 9) (.const (.int .u8 4))),
 sv 1 27 28])
 (.cond (tm 27) (.seq (.reg [sm 0 29 (.fa 1 (tm 1)),
 sm 1 30 (.ld1 (tm 29)),
 sc 2 31 103 [(tm 30)],
 sv 3 32 31,
 sg 4 33 32 true (.fa 2 (tm 1)),
 sg 5 34 32 true (.ldA 4 (tm 33)),
 ⟨6, (some 35), (some ((some 32), true)), .callF 104 [(tm 34)], [], false⟩,
 sg 7 36 32 true (.bin .eql 3 (tm 35) (.const (.int .i64 0))),
 sm 8 37 (.pick (tm 32) (tm 36) (.const (.bool false)))])
 (.cond (tm 37) (.seq (.reg [sm 0 2 (.mv (.const (.int .i64 0)))])
 .ret) .skip)) .skip))))))))
 (.seq (.reg [sm 0 2 (.mv (.const (.int .i64 8)))])
 .ret))))
def r72 : List Mo := [.mv (tm 2)]
theorem c72_eq : compF Tryz.prog 72 = some c72 := by kernel_rfl
theorem r72_eq : compRs Tryz.prog 72 = some r72 := by kernel_rfl
def c73 : Cd := (.seq (.reg [sm 0 2 (.mv (.const (.bool false)))])
 (.seq (.reg [sv 0 3 0,
 sm 1 4 (.cint .u64 (tm 3)),
 sm 2 5 (.bin .lss 36 (tm 4) (.const (.int .u64 500000003))),
 sv 3 2 5])
 .ret))
def r73 : List Mo := [.mv (tm 2)]
theorem c73_eq : compF Tryz.prog 73 = some c73 := by kernel_rfl
theorem r73_eq : compRs Tryz.prog 73 = some r73 := by kernel_rfl
def c74 : Cd := (.seq (.reg [sm 0 2 (.alloc (rep 32 (.int .u8 0)))])
 (.seq (.reg [sc 0 3 107 [],
 sm 1 4 (.bsl 1 [.int .u8 0] 0 []),
 sv 2 5 0,
 sm 3 6 (.app 1 1 (tm 4) (tm 5)),
 sv 4 7 0,
 sm 5 8 (.len (.sl 1) (tm 7)),
 sc 6 9 108 [(tm 8)],
 sm 7 10 (.app 1 1 (tm 6) (tm 9)),
 sc 8 11 106 [(tm 3), (tm 10)],
 sc 9 12 105 [(tm 11)],
 se 10 (.st 32 (tm 2) (tm 12))])
 .ret))
def r74 : List Mo := [.ldA 32 (tm 2)]
theorem c74_eq : compF Tryz.prog 74 = some c74 := by kernel_rfl
theorem r74_eq : compRs Tryz.prog 74 = some r74 := by kernel_rfl
def c75 : Cd := (.seq (.reg [sm 0 1 (.box (tm 0)),
 sm 1 2 (.mv (.const (.slice none 0 0)))])
 (.seq (.dreg [sm 0 3 (.ldA 11 (tm 1)),
 sm 2 5 (.fa 9 (tm 1)),
 sm 3 6 (.fa 0 (tm 5)),
 ⟨4, (some 7), none, .mo (.ld1 (tm 6)), [], true⟩,
 ⟨5, (some 8), none, .mo (.cint .u64 (tm 7)), [], true⟩,
 sm 8 11 (.fa 9 (tm 1)),
 sm 9 12 (.fa 1 (tm 11)),
 ⟨10, (some 13), none, .mo (.ld1 (tm 12)), [], true⟩,
 ⟨11, (some 14), none, .mo (.cint .u64 (tm 13)), [], true⟩,
 ⟨1, (some 4), none, .callF 70 [(tm 3)], [11, 10, 5, 4], false⟩,
 ⟨6, (some 9), none, .callF 98 [(tm 8)], [11, 10], false⟩,
 ⟨7, (some 10), none, .mo (.app 1 1 (tm 4) (tm 9)), [11, 10], false⟩,
 sc 12 15 98 [(tm 14)],
 sm 13 16 (.app 1 1 (tm 10) (tm 15)),
 sv 14 2 16])
 .ret))
def r75 : List Mo := [.mv (tm 2)]
theorem c75_eq : compF Tryz.prog 75 = some c75 := by kernel_rfl
theorem r75_eq : compRs Tryz.prog 75 = some r75 := by kernel_rfl
def l76_0 : Cd := (.seq (.seq (.reg [sv 0 18 9,
 sv 1 19 1,
 sm 2 20 (.bin .gtr 3 (tm 18) (tm 19)),
 sv 3 21 20,
 sg 4 22 21 true (.mv (tm 3)),
 sg 5 23 21 true (.mv (tm 0)),
 sg 6 24 21 true (.mv (tm 9)),
 sg 7 25 21 true (.ia (.sl 32) (tm 23) (tm 24)),
 sg 8 26 21 true (.ldA 32 (tm 25)),
 sg 9 27 21 true (.mv (tm 0)),
 sg 10 28 21 true (.mv (tm 9)),
 sg 11 29 21 true (.bin .sub 3 (tm 28) (.const (.int .i64 1))),
 sg 12 30 21 true (.ia (.sl 32) (tm 27) (tm 29)),
 sg 13 31 21 true (.ldA 32 (tm 30)),
 ⟨14, (some 32), (some ((some 21), true)), .callV (tm 22) [(tm 26), (tm 31)], [], false⟩,
 sg 15 33 21 true (.bin .lss 3 (tm 32) (.const (.int .i64 0))),
 sm 16 34 (.pick (tm 21) (tm 33) (.const (.bool false)))])
 (.cond (tm 34) .skip (.exit 2)))
 (.seq (.block 3 (.reg [sv 0 37 0,
 sv 1 38 9,
 sv 2 39 0,
 sv 3 40 9,
 sm 4 41 (.bin .sub 3 (tm 40) (.const (.int .i64 1))),
 sv 5 42 0,
 sv 6 43 9,
 sm 7 44 (.bin .sub 3 (tm 43) (.const (.int .i64 1))),
 sm 8 45 (.ia (.sl 32) (tm 42) (tm 44)),
 sm 9 46 (.ldA 32 (tm 45)),
 sv 10 47 0,
 sv 11 48 9,
 sm 12 49 (.ia (.sl 32) (tm 47) (tm 48)),
 sm 13 50 (.ldA 32 (tm 49)),
 sm 14 51 (.ia (.sl 32) (tm 37) (tm 38)),
 se 15 (.st 32 (tm 51) (tm 46)),
 sm 16 52 (.ia (.sl 32) (tm 39) (tm 41)),
 se 17 (.st 32 (tm 52) (tm 50))]))
 (.reg [sv 0 35 9,
 sm 1 36 (.bin .sub 3 (tm 35) (.const (.int .i64 1))),
 sv 2 9 36])))
def l76_1 : Cd := (.seq (.seq (.reg [sv 0 12 8,
 sv 1 13 2,
 sm 2 14 (.bin .lss 3 (tm 12) (tm 13))])
 (.cond (tm 14) .skip (.exit 0)))
 (.seq (.block 1 (.seq (.reg [sv 0 17 8,
 sv 1 9 17])
 (.block 2 (.loop l76_0))))
 (.reg [sv 0 15 8,
 sm 1 16 (.bin .add 3 (tm 15) (.const (.int .i64 1))),
 sv 2 8 16])))
def c76 : Cd := (.seq (.reg [sv 0 10 1,
 sm 1 11 (.bin .add 3 (tm 10) (.const (.int .i64 1))),
 sv 2 8 11])
 (.block 0 (.loop l76_1)))
def r76 : List Mo := []
theorem c76_eq : compF Tryz.prog 76 = some c76 := by kernel_rfl
theorem r76_eq : compRs Tryz.prog 76 = some r76 := by kernel_rfl
def c85 : Cd := (.seq (.reg [sm 0 2 (.mv (.const (.int .i64 0)))])
 (.seq (.seq (.reg [sv 0 3 0,
 sm 1 4 (.bin .geq 36 (tm 3) (.const (.int .u64 4294967296)))])
 (.cond (tm 4) (.seq (.reg [sv 0 5 0,
 sm 1 6 (.bin .shr 36 (tm 5) (.const (.int .u64 32))),
 sv 2 0 6])
 (.reg [sm 0 2 (.mv (.const (.int .i64 32)))])) .skip))
 (.seq (.seq (.reg [sv 0 7 0,
 sm 1 8 (.bin .geq 36 (tm 7) (.const (.int .u64 65536)))])
 (.cond (tm 8) (.seq (.reg [sv 0 9 0,
 sm 1 10 (.bin .shr 36 (tm 9) (.const (.int .u64 16))),
 sv 2 0 10])
 (.reg [sv 0 11 2,
 sm 1 12 (.bin .add 3 (tm 11) (.const (.int .i64 16))),
 sv 2 2 12])) .skip))
 (.seq (.seq (.reg [sv 0 13 0,
 sm 1 14 (.bin .geq 36 (tm 13) (.const (.int .u64 256)))])
 (.cond (tm 14) (.seq (.reg [sv 0 15 0,
 sm 1 16 (.bin .shr 36 (tm 15) (.const (.int .u64 8))),
 sv 2 0 16])
 (.reg [sv 0 17 2,
 sm 1 18 (.bin .add 3 (tm 17) (.const (.int .i64 8))),
 sv 2 2 18])) .skip))
 (.seq (.reg [sv 0 19 2,
 sv 1 20 0,
 sm 2 21 (.cint .u8 (tm 20)),
 sm 3 22 (.ixT (.const (.string ⟨#[0, 1, 2, 2, 3, 3, 3, 3, 4, 4, 4, 4, 4, 4, 4, 4, 5, 5, 5, 5, 5, 5, 5, 5, 5, 5, 5, 5, 5, 5, 5, 5, 6, 6, 6, 6, 6, 6, 6, 6, 6, 6, 6, 6, 6, 6, 6, 6, 6, 6, 6, 6, 6, 6, 6, 6, 6, 6, 6, 6, 6, 6, 6, 6, 7, 7, 7, 7, 7, 7, 7, 7, 7, 7, 7, 7, 7, 7, 7, 7, 7, 7, 7, 7, 7, 7, 7, 7, 7, 7, 7, 7, 7, 7, 7, 7, 7, 7, 7, 7, 7, 7, 7, 7, 7, 7, 7, 7, 7, 7, 7, 7, 7, 7, 7, 7, 7, 7, 7, 7, 7, 7, 7, 7, 7, 7, 7, 7, 8, 8, 8, 8, 8, 8, 8, 8, 8, 8, 8, 8, 8, 8, 8, 8, 8, 8, 8, 8, 8, 8, 8, 8, 8, 8, 8, 8, 8, 8, 8, 8, 8, 8, 8, 8, 8, 8, 8, 8, 8, 8, 8, 8, 8, 8, 8, 8, 8, 8, 8, 8, 8, 8, 8, 8, 8, 8, 8, 8, 8, 8, 8, 8, 8, 8, 8, 8, 8, 8, 8, 8, 8, 8, 8, 8, 8, 8, 8, 8, 8, 8, 8, 8, 8, 8, 8, 8, 8, 8, 8, 8, 8, 8, 8, 8, 8, 8, 8, 8, 8, 8, 8, 8, 8, 8, 8, 8, 8, 8, 8, 8, 8, 8, 8, 8, 8, 8, 8, 8, 8, 8, 8, 8, 8, 8, 8, 8]⟩)) (tm 21)),
 sm 4 23 (.cint .i64 (tm 22)),
 sm 5 24 (.bin .add 3 (tm 19) (tm 23)),
 sv 6 2 24])
 .ret)))))
def r85 : List Mo := [.mv (tm 2)]
theorem c85_eq : compF Tryz.prog 85 = some c85 := by kernel_rfl
theorem r85_eq : compRs Tryz.prog 85 = some r85 := by kernel_rfl
def c87 : Cd := (.seq (.reg [sm 0 1 (.box (tm 0)),
 sm 1 2 (.mv (.const (.int .i64 0)))])
 (.seq (.block 0 (.seq (.reg [sm 0 4 (.fa 1 (tm 1)),
 sm 1 5 (.ld1 (tm 4)),
 sm 2 6 (.len (.sl 32) (tm 5)),
 sm 3 7 (.bin .gtr 3 (tm 6) (.const (.int .i64 4))),
 sv 4 3 7])
 (.cond (tm 3) (.seq (.reg [sm 0 2 (.mv (.const (.int .i64 4)))])
 .ret) (.seq (.dreg [sm 0 9 (.fa 1 (tm 1)),
 sm 1 10 (.ld1 (tm 9)),
 sc 2 11 114 [(tm 10), (.func 115)],
 sm 3 12 (.un .not (tm 11)),
 sv 4 13 12,
 sg 5 14 13 false (.fa 1 (tm 1)),
 sg 6 15 13 false (.ld1 (tm 14)),
 sg 10 19 13 false (.fa 1 (tm 1)),
 ⟨11, (some 20), (some ((some 13), false)), .mo (.ld1 (tm 19)), [], true⟩,
 sg 12 21 13 false (.len (.sl 32) (tm 20)),
 ⟨7, (some 16), (some ((some 13), false)), .callF 52 [(tm 15)], [11], false⟩,
 ⟨8, (some 17), (some ((some 13), false)), .callF 41 [(tm 16)], [11], false⟩,
 sg 9 18 13 false (.len (.sl 32) (tm 17)),
 sg 13 22 13 false (.bin .neq 3 (tm 18) (tm 21)),
 sm 14 23 (.pick (tm 13) (.const (.bool true)) (tm 22)),
 sv 15 8 23])
 (.cond (tm 8) (.seq (.reg [sm 0 2 (.mv (.const (.int .i64 32)))])
 .ret) (.seq (.reg [sm 0 25 (.fa 0 (tm 1)),
 sm 1 26 (.ld1 (tm 25)),
 sc 2 27 116 [(tm 26)],
 sm 3 28 (.un .not (tm 27)),
 sv 4 29 28,
 sg 5 30 29 false (.fa 2 (tm 1)),
 sg 6 31 29 false (.ld1 (tm 30)),
 sg 7 32 29 false (.bin .gtr 36 (tm 31) (.const (.int .u64 1000000000000))),
 sm 8 33 (.pick (tm 29) (.const (.bool true)) (tm 32)),
 sv 9 34 33,
 sg 10 35 34 false (.fa 9 (tm 1)),
 sg 11 36 34 false (.fa 0 (tm 35)),
 sg 12 37 34 false (.ld1 (tm 36)),
 sg 13 38 34 false (.fa 9 (tm 1)),
 sg 14 39 34 false (.fa 1 (tm 38)),
 sg 15 40 34 false (.ld1 (tm 39)),
 sg 16 41 34 false (.max (tm 37) (tm 40)),
 sg 17 42 34 false (.bin .geq 35 (tm 41) (.const (.int .u32 500000003))),
 sm 18 43 (.pick (tm 34) (.const (.bool true)) (tm 42)),
 sv 19 24 43])
 (.cond (tm 24) (.seq (.reg [sm 0 2 (.mv (.const (.int .i64 8)))])
 .ret) .skip)))))))
 (.seq (.reg [sm 0 44 (.fa 3 (tm 1)),
 sm 1 45 (.ldA 6 (tm 44)),
 sc 2 46 117 [(tm 45)],
 sv 3 2 46])
 .ret)))
def r87 : List Mo := [.mv (tm 2)]
theorem c87_eq : compF Tryz.prog 87 = some c87 := by kernel_rfl
theorem r87_eq : compRs Tryz.prog 87 = some r87 := by kernel_rfl
def c88 : Cd := (.seq (.reg [sm 0 1 (.box (tm 0)),
 sm 1 2 (.mv (.const (.slice none 0 0))),
 sm 2 3 (.mv (.const (.int .i64 0)))])
 (.seq (.reg [sm 0 12 (.bld [.int .u32 0, .int .u32 0] []),
 sm 1 13 (.fa 9 (tm 1)),
 se 2 (.st 2 (tm 13) (tm 12))])
 (.seq (.seq (.reg [sm 0 14 (.ldA 11 (tm 1)),
 sc 1 15 87 [(tm 14)],
 sv 2 4 15])
 (.seq (.reg [sv 0 16 4,
 sm 1 17 (.bin .neq 28 (tm 16) (.const (.int .i64 0)))])
 (.cond (tm 17) (.seq (.reg [sv 0 18 4,
 sm 1 2 (.mv (.const (.slice none 0 0))),
 sv 2 3 18])
 .ret) .skip)))
 (.seq (.reg [sm 0 20 (.fa 1 (tm 1)),
 sm 1 21 (.ld1 (tm 20)),
 sc 2 22 118 [(tm 21)],
 sv 3 19 22,
 sm 4 23 (.ext (tm 19) 0),
 sm 5 24 (.ext (tm 19) 1),
 sv 6 5 23,
 sv 7 6 24])
 (.seq (.dreg [⟨0, (some 25), none, .mo (.bsl 1 [.int .u8 0] 1 [(0, (.const (.int .u8 111)))]), [], true⟩,
 sm 1 26 (.fa 0 (tm 1)),
 sm 2 27 (.ld1 (tm 26)),
 sm 3 28 (.cint .u64 (tm 27)),
 sv 5 30 5,
 sm 6 31 (.fa 2 (tm 1)),
 ⟨7, (some 32), none, .mo (.ld1 (tm 31)), [], true⟩,
 sm 9 34 (.fa 3 (tm 1)),
 sm 10 35 (.fa 0 (tm 34)),
 ⟨11, (some 36), none, .mo (.ld1 (tm 35)), [], true⟩,
 ⟨12, (some 37), none, .mo (.bsl 1 [.int .u8 0] 1 [(0, (tm 36))]), [], true⟩,
 ⟨4, (some 29), none, .callF 90 [(tm 28)], [12, 11, 7, 0], false⟩,
 ⟨8, (some 33), none, .callF 90 [(tm 32)], [12, 11, 0], false⟩,
 sm 13 38 (.bsl 1 [.nilS] 5 [(0, (tm 25)), (1, (tm 29)), (2, (tm 30)), (3, (tm 33)), (4, (tm 37))]),
 sc 14 39 89 [(tm 38)],
 sv 15 7 39])
 (.seq (.seq (.reg [sm 0 40 (.fa 3 (tm 1)),
 sm 1 41 (.fa 0 (tm 40)),
 sm 2 42 (.ld1 (tm 41)),
 sm 3 43 (.bin .eql 5 (tm 42) (.const (.int .u8 1)))])
 (.cond (tm 43) (.seq (.reg [sv 0 44 7,
 sv 1 2 44,
 sm 2 3 (.mv (.const (.int .i64 0)))])
 .ret) .skip))
 (.seq (.reg [sm 0 46 (.fa 3 (tm 1)),
 sm 1 47 (.fa 1 (tm 46)),
 sm 2 48 (.ld1 (tm 47)),
 sm 3 49 (.csb (tm 48)),
 sc 4 50 119 [(tm 49)],
 sv 5 45 50,
 sm 6 51 (.ext (tm 45) 0),
 sm 7 52 (.ext (tm 45) 1),
 sv 8 8 51,
 sv 9 9 52])
 (.seq (.reg [sv 0 53 7,
 sv 1 54 8,
 sm 2 55 (.app 1 1 (tm 53) (tm 54)),
 sv 3 7 55])
 (.seq (.seq (.reg [sm 0 56 (.fa 3 (tm 1)),
 sm 1 57 (.fa 0 (tm 56)),
 sm 2 58 (.ld1 (tm 57)),
 sm 3 59 (.bin .eql 5 (tm 58) (.const (.int .u8 4)))])
 (.cond (tm 59) (.seq (.reg [sm 0 61 (.fa 3 (tm 1)),
 sm 1 62 (.fa 2 (tm 61)),
 sm 2 63 (.ldA 4 (tm 62)),
 sc 3 64 120 [(tm 63)],
 sv 4 60 64,
 sm 5 65 (.ext (tm 60) 0),
 sm 6 66 (.ext (tm 60) 1),
 sv 7 10 65,
 sv 8 11 66])
 (.reg [sv 0 67 7,
 sv 1 68 10,
 sm 2 69 (.app 1 1 (tm 67) (tm 68)),
 sv 3 7 69])) .skip))
 (.seq (.reg [sv 0 70 7,
 sv 1 2 70,
 sm 2 3 (.mv (.const (.int .i64 0)))])
 .ret))))))))))
def r88 : List Mo := [.mv (tm 2), .mv (tm 3)]
theorem c88_eq : compF Tryz.prog 88 = some c88 := by kernel_rfl
theorem r88_eq : compRs Tryz.prog 88 = some r88 := by kernel_rfl
def l89_0 : Cd := (.seq (.reg [sm 0 12 (.bin .lss 3 (tm 11) (tm 10))])
 (.seq (.cond (tm 12) .skip (.exit 0))
 (.seq (.block 1 (.seq (.reg [sm 0 13 (.ia (.sl 1) (tm 9) (tm 11)),
 sm 1 14 (.ld1 (tm 13)),
 sv 2 5 14])
 (.seq (.reg [sv 0 15 3,
 sv 1 16 5,
 sm 2 17 (.len (.sl 1) (tm 16)),
 sm 3 18 (.bin .add 3 (tm 15) (tm 17)),
 sv 4 3 18])
 (.seq (.reg [sv 0 19 3,
 sm 1 20 (.bin .lss 3 (tm 19) (.const (.int .i64 0)))])
 (.cond (tm 20) (.reg [sm 0 21 (.mkI 9 (.const (.string ⟨#[108, 101, 110, 32, 111, 117, 116, 32, 111, 102, 32, 114, 97, 110, 103, 101]⟩))),
 se 1 (.stop)]) .skip)))))
 (.reg [sm 0 22 (.bin .add 3 (tm 11) (.const (.int .i64 1))),
 sv 1 11 22]))))
def l89_1 : Cd := (.seq (.reg [sm 0 28 (.bin .lss 3 (tm 27) (tm 26))])
 (.seq (.cond (tm 28) .skip (.exit 2))
 (.seq (.block 3 (.seq (.reg [sm 0 29 (.ia (.sl 1) (tm 25) (tm 27)),
 sm 1 30 (.ld1 (tm 29)),
 sv 2 8 30])
 (.reg [sv 0 31 6,
 sv 1 32 8,
 sm 2 33 (.app 1 1 (tm 31) (tm 32)),
 sv 3 6 33])))
 (.reg [sm 0 34 (.bin .add 3 (tm 27) (.const (.int .i64 1))),
 sv 1 27 34]))))
def c89 : Cd := (.seq (.reg [sm 0 2 (.mv (.const (.slice none 0 0)))])
 (.seq (.reg [sm 0 3 (.mv (.const (.int .i64 0)))])
 (.seq (.seq (.reg [sv 0 9 0,
 sm 1 10 (.len (.sl 1) (tm 9)),
 sm 2 11 (.mv (.const (.int .i64 0)))])
 (.block 0 (.loop l89_0)))
 (.seq (.reg [sv 0 23 3,
 sc 1 24 121 [(.const (.slice none 0 0)), (tm 23)],
 sv 2 6 24])
 (.seq (.seq (.reg [sv 0 25 0,
 sm 1 26 (.len (.sl 1) (tm 25)),
 sm 2 27 (.mv (.const (.int .i64 0)))])
 (.block 2 (.loop l89_1)))
 (.seq (.reg [sv 0 35 6,
 sv 1 2 35])
 .ret))))))
def r89 : List Mo := [.mv (tm 2)]
theorem c89_eq : compF Tryz.prog 89 = some c89 := by kernel_rfl
theorem r89_eq : compRs Tryz.prog 89 = some r89 := by kernel_rfl
def l90_0 : Cd := (.seq (.reg [sm 0 25 (.bin .lss 3 (tm 24) (tm 23))])
 (.seq (.cond (tm 25) .skip (.exit 0))
 (.seq (.block 1 (.seq (.reg [sv 0 26 24,
 sv 1 5 26])
 (.reg [sv 0 27 4,
 sv 1 28 3,
 sv 2 29 5,
 sm 3 30 (.bin .sub 3 (tm 28) (tm 29)),
 sv 4 31 0,
 sv 5 32 5,
 sm 6 33 (.bin .mul 3 (.const (.int .i64 8)) (tm 32)),
 sm 7 34 (.bin .shr 36 (tm 31) (tm 33)),
 sm 8 35 (.cint .u8 (tm 34)),
 sm 9 36 (.ia (.sl 1) (tm 27) (tm 30)),
 se 10 (.st 1 (tm 36) (tm 35))])))
 (.reg [sm 0 37 (.bin .add 3 (tm 24) (.const (.int .i64 1))),
 sv 1 24 37]))))
def c90 : Cd := (.seq (.reg [sm 0 2 (.mv (.const (.slice none 0 0)))])
 (.seq (.seq (.reg [sv 0 6 0,
 sm 1 7 (.bin .leq 36 (tm 6) (.const (.int .u64 247)))])
 (.cond (tm 7) (.seq (.reg [sv 0 8 0,
 sm 1 9 (.cint .u8 (tm 8)),
 sm 2 10 (.bsl 1 [.int .u8 0] 1 [(0, (tm 9))]),
 sv 3 2 10])
 .ret) .skip))
 (.seq (.reg [sv 0 11 0,
 sc 1 12 85 [(tm 11)],
 sm 2 13 (.bin .add 3 (tm 12) (.const (.int .i64 7))),
 sm 3 14 (.bin .quo 3 (tm 13) (.const (.int .i64 8))),
 sv 4 3 14])
 (.seq (.reg [sv 0 15 3,
 sm 1 16 (.bin .add 3 (tm 15) (.const (.int .i64 1))),
 sm 2 17 (.mks 1 1 [.int .u8 0] (tm 16) (tm 16)),
 sv 3 4 17])
 (.seq (.reg [sv 0 18 4,
 sv 1 19 3,
 sm 2 20 (.bin .add 3 (.const (.int .i64 247)) (tm 19)),
 sm 3 21 (.cint .u8 (tm 20)),
 sm 4 22 (.ia (.sl 1) (tm 18) (.const (.int .i64 0))),
 se 5 (.st 1 (tm 22) (tm 21))])
 (.seq (.seq (.reg [sv 0 23 3,
 sm 1 24 (.mv (.const (.int .i64 0)))])
 (.block 0 (.loop l90_0)))
 (.seq (.reg [sv 0 38 4,
 sv 1 2 38])
 .ret)))))))
def r90 : List Mo := [.mv (tm 2)]
theorem c90_eq : compF Tryz.prog 90 = some c90 := by kernel_rfl
theorem r90_eq : compRs Tryz.prog 90 = some r90 := by kernel_rfl
def l91_0 : Cd := (.seq (.reg [sm 0 19 (.bin .lss 3 (tm 18) (tm 17))])
 (.seq (.cond (tm 19) .skip (.exit 0))
 (.seq (.block 1 (.seq (.reg [sm 0 20 (.ia (.sl 1) (tm 16) (tm 18)),
 sm 1 21 (.ld1 (tm 20)),
 sv 2 6 21])
 (.reg [sm 0 22 (.ldA 10 (tm 4)),
 sv 1 23 6,
 sc 2 24 125 [(tm 22), (tm 23)],
 se 3 (.st 10 (tm 4) (tm 24))])))
 (.reg [sm 0 25 (.bin .add 3 (tm 18) (.const (.int .i64 1))),
 sv 1 18 25]))))
def c91 : Cd := (.seq (.reg [sm 0 2 (.alloc (rep 32 (.int .u8 0))),
 sm 1 3 (.mv (.const (.int .i64 0)))])
 (.seq (.seq (.reg [sv 0 7 0,
 sm 1 8 (.len (.sl 1) (tm 7)),
 sm 2 9 (.bin .gtr 3 (tm 8) (.const (.int .i64 20))),
 sv 3 10 9,
 sg 4 11 10 false (.mv (tm 0)),
 ⟨5, (some 12), (some ((some 10), false)), .callF 122 [(tm 11), (.func 123)], [], false⟩,
 sm 6 13 (.pick (tm 10) (.const (.bool true)) (tm 12))])
 (.cond (tm 13) (.seq (.reg [sm 0 14 (.bld (rep 32 (.int .u8 0)) []),
 se 1 (.st 32 (tm 2) (tm 14)),
 sm 2 3 (.mv (.const (.int .i64 4)))])
 .ret) .skip))
 (.seq (.reg [sc 0 15 124 [],
 sm 1 4 (.alloc [.int .u32 0, .int .u32 0, .int .u32 0, .int .u32 0, .int .u32 0, .int .u32 0, .int .u32 0, .int .u32 0, .nilS, .int .i64 0]),
 se 2 (.st 10 (tm 4) (tm 15))])
 (.seq (.seq (.reg [sv 0 16 0,
 sm 1 17 (.len (.sl 1) (tm 16)),
 sm 2 18 (.mv (.const (.int .i64 0)))])
 (.block 0 (.loop l91_0)))
 (.seq (.reg [sm 0 26 (.ldA 10 (tm 4)),
 sc 1 27 126 [(tm 26)],
 se 2 (.st 32 (tm 2) (tm 27)),
 sm 3 3 (.mv (.const (.int .i64 0)))])
 .ret)))))
def r91 : List Mo := [.ldA 32 (tm 2), .mv (tm 3)]
theorem c91_eq : compF Tryz.prog 91 = some c91 := by kernel_rfl
theorem r91_eq : compRs Tryz.prog 91 = some r91 := by kernel_rfl
def l92_0 : Cd := (.seq (.reg [sm 0 9 (.bin .lss 3 (tm 8) (tm 7))])
 (.seq (.cond (tm 9) .skip (.exit 0))
 (.seq (.block 1 (.seq (.reg [sv 0 10 8,
 sv 1 5 10])
 (.seq (.reg [sm 0 11 (.ldA 32 (tm 3)),
 sv 1 12 0,
 sv 2 13 5,
 sm 3 14 (.ia (.sl 32) (tm 12) (tm 13)),
 sm 4 15 (.ldA 32 (tm 14)),
 sm 5 16 (.bin .eql 32 (tm 11) (tm 15))])
 (.cond (tm 16) (.seq (.reg [sv 0 17 5,
 sv 1 4 17])
 .ret) .skip))))
 (.reg [sm 0 18 (.bin .add 3 (tm 8) (.const (.int .i64 1))),
 sv 1 8 18]))))
def c92 : Cd := (.seq (.reg [sm 0 3 (.box (tm 1)),
 sm 1 4 (.mv (.const (.int .i64 0)))])
 (.seq (.seq (.reg [sv 0 6 0,
 sm 1 7 (.len (.sl 32) (tm 6)),
 sm 2 8 (.mv (.const (.int .i64 0)))])
 (.block 0 (.loop l92_0)))
 (.seq (.reg [sm 0 4 (.mv (.const (.int .i64 (-1))))])
 .ret)))
def r92 : List Mo := [.mv (tm 4)]
theorem c92_eq : compF Tryz.prog 92 = some c92 := by kernel_rfl
theorem r92_eq : compRs Tryz.prog 92 = some r92 := by kernel_rfl
def l98_0 : Cd := (.seq (.seq (.reg [sv 0 11 0,
 sm 1 12 (.bin .gtr 36 (tm 11) (.const (.int .u64 0)))])
 (.cond (tm 12) .skip (.exit 0)))
 (.block 1 (.seq (.reg [sv 0 13 3,
 sv 1 14 0,
 sm 2 15 (.bin .rem 36 (tm 14) (.const (.int .u64 256))),
 sm 3 16 (.cint .u8 (tm 15)),
 sm 4 17 (.bsl 1 [.int .u8 0] 1 [(0, (tm 16))]),
 sm 5 18 (.app 1 1 (tm 13) (tm 17)),
 sv 6 3 18])
 (.reg [sv 0 19 0,
 sm 1 20 (.bin .quo 36 (tm 19) (.const (.int .u64 256))),
 sv 2 0 20]))))
def l98_1 : Cd := (.seq (.seq (.reg [sv 0 29 5,
 sm 1 30 (.bin .geq 3 (tm 29) (.const (.int .i64 0)))])
 (.cond (tm 30) .skip (.exit 2)))
 (.seq (.block 3 (.reg [sv 0 33 4,
 sv 1 34 3,
 sv 2 35 5,
 sm 3 36 (.ia (.sl 1) (tm 34) (tm 35)),
 sm 4 37 (.ld1 (tm 36)),
 sm 5 38 (.bsl 1 [.int .u8 0] 1 [(0, (tm 37))]),
 sm 6 39 (.app 1 1 (tm 33) (tm 38)),
 sv 7 4 39]))
 (.reg [sv 0 31 5,
 sm 1 32 (.bin .sub 3 (tm 31) (.const (.int .i64 1))),
 sv 2 5 32])))
def c98 : Cd := (.seq (.reg [sm 0 2 (.mv (.const (.slice none 0 0)))])
 (.seq (.seq (.reg [sv 0 6 0,
 sm 1 7 (.bin .leq 36 (tm 6) (.const (.int .u64 247)))])
 (.cond (tm 7) (.seq (.reg [sv 0 8 0,
 sm 1 9 (.cint .u8 (tm 8)),
 sm 2 10 (.bsl 1 [.int .u8 0] 1 [(0, (tm 9))]),
 sv 3 2 10])
 .ret) .skip))
 (.seq (.reg [sm 0 3 (.mv (.const (.slice none 0 0)))])
 (.seq (.block 0 (.loop l98_0))
 (.seq (.reg [sv 0 21 3,
 sm 1 22 (.len (.sl 1) (tm 21)),
 sm 2 23 (.bin .add 3 (.const (.int .i64 247)) (tm 22)),
 sm 3 24 (.cint .u8 (tm 23)),
 sm 4 25 (.bsl 1 [.int .u8 0] 1 [(0, (tm 24))]),
 sv 5 4 25])
 (.seq (.seq (.reg [sv 0 26 3,
 sm 1 27 (.len (.sl 1) (tm 26)),
 sm 2 28 (.bin .sub 3 (tm 27) (.const (.int .i64 1))),
 sv 3 5 28])
 (.block 2 (.loop l98_1)))
 (.seq (.reg [sv 0 40 4,
 sv 1 2 40])
 .ret)))))))
def r98 : List Mo := [.mv (tm 2)]
theorem c98_eq : compF Tryz.prog 98 = some c98 := by kernel_rfl
theorem r98_eq : compRs Tryz.prog 98 = some r98 := by kernel_rfl
def l99_0 : Cd := (.seq (.seq (.reg [sv 0 9 4,
 sv 1 10 0,
 sm 2 11 (.len (.sl 32) (tm 10)),
 sm 3 12 (.bin .lss 3 (tm 9) (tm 11))])
 (.cond (tm 12) .skip (.exit 0)))
 (.seq (.block 1 (.reg [sv 0 15 3,
 sv 1 16 0,
 sv 2 17 4,
 sm 3 18 (.ia (.sl 32) (tm 16) (tm 17)),
 sm 4 19 (.slice (.arr 32 1) (tm 18) none none none),
 sm 5 20 (.app 1 1 (tm 15) (tm 19)),
 sv 6 3 20]))
 (.reg [sv 0 13 4,
 sm 1 14 (.bin .add 3 (tm 13) (.const (.int .i64 1))),
 sv 2 4 14])))
def c99 : Cd := (.seq (.reg [sm 0 2 (.mv (.const (.slice none 0 0)))])
 (.seq (.reg [sv 0 5 0,
 sm 1 6 (.len (.sl 32) (tm 5)),
 sm 2 7 (.cint .u64 (tm 6)),
 sc 3 8 98 [(tm 7)],
 sv 4 3 8])
 (.seq (.seq (.reg [sm 0 4 (.mv (.const (.int .i64 0)))])
 (.block 0 (.loop l99_0)))
 (.seq (.reg [sv 0 21 3,
 sv 1 2 21])
 .ret))))
def r99 : List Mo := [.mv (tm 2)]
theorem c99_eq : compF Tryz.prog 99 = some c99 := by kernel_rfl
theorem r99_eq : compRs Tryz.prog 99 = some r99 := by kernel_rfl
def c100 : Cd := (.seq (.reg [sm 0 2 (.mv (.const (.slice none 0 0)))])
 (.seq (.reg [sv 0 3 0,
 sm 1 4 (.len (.sl 1) (tm 3)),
 sm 2 5 (.cint .u64 (tm 4)),
 sc 3 6 98 [(tm 5)],
 sv 4 7 0,
 sm 5 8 (.app 1 1 (tm 6) (tm 7)),
 sv 6 2 8])
 .ret))
def r100 : List Mo := [.mv (tm 2)]
theorem c100_eq : compF Tryz.prog 100 = some c100 := by kernel_rfl
theorem r100_eq : compRs Tryz.prog 100 = some r100 := by kernel_rfl
def l101_0 : Cd := (.seq (.seq (.reg [sv 0 19 4,
 sm 1 20 (.bin .geq 3 (tm 19) (.const (.int .i64 0)))])
 (.cond (tm 20) .skip (.exit 1)))
 (.seq (.block 2 (.reg [sv 0 23 3,
 sm 1 24 (.fa 2 (tm 1)),
 sm 2 25 (.ld1 (tm 24)),
 sv 3 26 4,
 sm 4 27 (.bin .mul 3 (.const (.int .i64 8)) (tm 26)),
 sm 5 28 (.bin .shr 36 (tm 25) (tm 27)),
 sm 6 29 (.cint .u8 (tm 28)),
 sm 7 30 (.bsl 1 [.int .u8 0] 1 [(0, (tm 29))]),
 sm 8 31 (.app 1 1 (tm 23) (tm 30)),
 sv 9 3 31]))
 (.reg [sv 0 21 4,
 sm 1 22 (.bin .sub 3 (tm 21) (.const (.int .i64 1))),
 sv 2 4 22])))
def c101 : Cd := (.seq (.reg [sm 0 1 (.box (tm 0)),
 sm 1 2 (.mv (.const (.slice none 0 0)))])
 (.seq (.reg [sm 0 5 (.fa 0 (tm 1)),
 sm 1 6 (.ld1 (tm 5)),
 sm 2 7 (.bsl 1 [.int .u8 0] 1 [(0, (tm 6))]),
 sv 3 3 7])
 (.seq (.seq (.reg [sm 0 8 (.fa 0 (tm 1)),
 sm 1 9 (.ld1 (tm 8))])
 (.block 0 (.seq (.reg [sm 0 11 (.bin .eql 5 (tm 9) (.const (.int .u8 1))),
 sv 1 10 11])
 (.cond (tm 10) (.seq (.reg [sv 0 12 3,
 sm 1 13 (.fa 1 (tm 1)),
 sm 2 14 (.ld1 (tm 13)),
 sc 3 15 130 [(tm 14)],
 sm 4 16 (.app 1 1 (tm 12) (tm 15)),
 sv 5 2 16])
 .ret) (.seq (.reg [sm 0 18 (.bin .eql 5 (tm 9) (.const (.int .u8 2))),
 sv 1 17 18])
 (.cond (tm 17) (.seq (.seq (.reg [sm 0 4 (.mv (.const (.int .i64 7)))])
 (.block 1 (.loop l101_0)))
 (.seq (.reg [sv 0 32 3,
 sv 1 2 32])
 .ret)) .skip))))))
 (.seq (.reg [sv 0 33 3,
 sm 1 34 (.fa 3 (tm 1)),
 sm 2 35 (.ld1 (tm 34)),
 sm 3 36 (.csb (tm 35)),
 sc 4 37 100 [(tm 36)],
 sm 5 38 (.app 1 1 (tm 33) (tm 37)),
 sv 6 2 38])
 .ret))))
def r101 : List Mo := [.mv (tm 2)]
theorem c101_eq : compF Tryz.prog 101 = some c101 := by kernel_rfl
theorem r101_eq : compRs Tryz.prog 101 = some r101 := by kernel_rfl
def l102_0 : Cd := (.seq (.seq (.reg [sv 0 8 1,
 sm 1 9 (.bin .gtr 36 (tm 8) (.const (.int .u64 0)))])
 (.cond (tm 9) .skip (.exit 0)))
 (.block 1 (.seq (.seq (.reg [sv 0 10 1,
 sm 1 11 (.bin .rem 36 (tm 10) (.const (.int .u64 2))),
 sm 2 12 (.bin .eql 36 (tm 11) (.const (.int .u64 1)))])
 (.cond (tm 12) (.reg [sv 0 13 7,
 sv 1 14 0,
 sm 2 15 (.bin .mul 36 (tm 13) (tm 14)),
 sv 3 16 2,
 sm 4 17 (.bin .rem 36 (tm 15) (tm 16)),
 sv 5 7 17]) .skip))
 (.seq (.reg [sv 0 18 0,
 sv 1 19 0,
 sm 2 20 (.bin .mul 36 (tm 18) (tm 19)),
 sv 3 21 2,
 sm 4 22 (.bin .rem 36 (tm 20) (tm 21)),
 sv 5 0 22])
 (.reg [sv 0 23 1,
 sm 1 24 (.bin .quo 36 (tm 23) (.const (.int .u64 2))),
 sv 2 1 24])))))
def c102 : Cd := (.seq (.reg [sm 0 6 (.mv (.const (.int .u64 0)))])
 (.seq (.reg [sm 0 7 (.mv (.const (.int .u64 1)))])
 (.seq (.block 0 (.loop l102_0))
 (.seq (.reg [sv 0 25 7,
 sv 1 6 25])
 .ret))))
def r102 : List Mo := [.mv (tm 6)]
theorem c102_eq : compF Tryz.prog 102 = some c102 := by kernel_rfl
theorem r102_eq : compRs Tryz.prog 102 = some r102 := by kernel_rfl
def l103_0 : Cd := (.seq (.seq (.reg [sv 0 12 3,
 sv 1 13 0,
 sm 2 14 (.len .str (tm 13)),
 sm 3 15 (.bin .lss 3 (tm 12) (tm 14))])
 (.cond (tm 15) .skip (.exit 0)))
 (.seq (.block 1 (.seq (.reg [sv 0 18 0,
 sv 1 19 3,
 sm 2 20 (.ixT (tm 18) (tm 19)),
 sm 3 21 (.bin .lss 5 (tm 20) (.const (.int .u8 33))),
 sv 4 22 21,
 sg 5 23 22 false (.mv (tm 0)),
 sg 6 24 22 false (.mv (tm 3)),
 sg 7 25 22 false (.ixT (tm 23) (tm 24)),
 sg 8 26 22 false (.bin .gtr 5 (tm 25) (.const (.int .u8 126))),
 sm 9 27 (.pick (tm 22) (.const (.bool true)) (tm 26))])
 (.cond (tm 27) (.seq (.reg [sm 0 2 (.mv (.const (.bool false)))])
 .ret) .skip)))
 (.reg [sv 0 16 3,
 sm 1 17 (.bin .add 3 (tm 16) (.const (.int .i64 1))),
 sv 2 3 17])))
def c103 : Cd := (.seq (.reg [sm 0 2 (.mv (.const (.bool false)))])
 (.seq (.seq (.reg [sv 0 4 0,
 sm 1 5 (.len .str (tm 4)),
 sm 2 6 (.bin .lss 3 (tm 5) (.const (.int .i64 1))),
 sv 3 7 6,
 sg 4 8 7 false (.mv (tm 0)),
 sg 5 9 7 false (.len .str (tm 8)),
 sg 6 10 7 false (.bin .gtr 3 (tm 9) (.const (.int .i64 20))),
 sm 7 11 (.pick (tm 7) (.const (.bool true)) (tm 10))])
 (.cond (tm 11) (.seq (.reg [sm 0 2 (.mv (.const (.bool false)))])
 .ret) .skip))
 (.seq (.seq (.reg [sm 0 3 (.mv (.const (.int .i64 0)))])
 (.block 0 (.loop l103_0)))
 (.seq (.reg [sm 0 2 (.mv (.const (.bool true)))])
 .ret))))
def r103 : List Mo := [.mv (tm 2)]
theorem c103_eq : compF Tryz.prog 103 = some c103 := by kernel_rfl
theorem r103_eq : compRs Tryz.prog 103 = some r103 := by kernel_rfl
def c104 : Cd := (.seq (.reg [sm 0 1 (.box (tm 0)),
 sm 1 2 (.mv (.const (.int .i64 0)))])
 (.seq (.seq (.reg [sm 0 3 (.fa 0 (tm 1)),
 sm 1 4 (.ld1 (tm 3))])
 (.block 0 (.seq (.reg [sm 0 6 (.bin .eql 5 (tm 4) (.const (.int .u8 1))),
 sv 1 5 6])
 (.cond (tm 5) (.seq (.reg [sm 0 7 (.fa 2 (tm 1)),
 sm 1 8 (.ld1 (tm 7)),
 sm 2 9 (.bin .eql 36 (tm 8) (.const (.int .u64 0))),
 sv 3 10 9,
 sg 4 11 10 true (.fa 3 (tm 1)),
 sg 5 12 10 true (.ld1 (tm 11)),
 sg 6 13 10 true (.bin .eql 9 (tm 12) (.const (.string ⟨#[]⟩))),
 sm 7 14 (.pick (tm 10) (tm 13) (.const (.bool false)))])
 (.cond (tm 14) (.seq (.reg [sm 0 2 (.mv (.const (.int .i64 0)))])
 .ret) .skip)) (.seq (.reg [sm 0 16 (.bin .eql 5 (tm 4) (.const (.int .u8 2))),
 sv 1 15 16])
 (.cond (tm 15) (.seq (.dreg [sm 0 17 (.fa 1 (tm 1)),
 sm 1 18 (.ld1 (tm 17)),
 sm 2 19 (.bin .eql 2 (tm 18) (.const (.int .i64 0))),
 sv 3 20 19,
 sg 4 21 20 true (.fa 3 (tm 1)),
 sg 5 22 20 true (.ld1 (tm 21)),
 sg 6 23 20 true (.bin .eql 9 (tm 22) (.const (.string ⟨#[]⟩))),
 sm 7 24 (.pick (tm 20) (tm 23) (.const (.bool false))),
 sv 8 25 24,
 sg 9 26 25 true (.fa 2 (tm 1)),
 sg 10 27 25 true (.ld1 (tm 26)),
 sg 12 29 25 true (.fa 2 (tm 1)),
 ⟨13, (some 30), (some ((some 25), true)), .mo (.ld1 (tm 29)), [], true⟩,
 ⟨11, (some 28), (some ((some 25), true)), .callF 131 [(tm 27)], [13], false⟩,
 sg 14 31 25 true (.bin .eql 36 (tm 28) (tm 30)),
 sm 15 32 (.pick (tm 25) (tm 31) (.const (.bool false)))])
 (.cond (tm 32) (.seq (.reg [sm 0 2 (.mv (.const (.int .i64 0)))])
 .ret) .skip)) (.seq (.reg [sm 0 34 (.bin .eql 5 (tm 4) (.const (.int .u8 3))),
 sv 1 33 34])
 (.cond (tm 33) (.seq (.reg [sm 0 35 (.fa 1 (tm 1)),
 sm 1 36 (.ld1 (tm 35)),
 sm 2 37 (.bin .eql 2 (tm 36) (.const (.int .i64 0))),
 sv 3 38 37,
 sg 4 39 38 true (.fa 2 (tm 1)),
 sg 5 40 38 true (.ld1 (tm 39)),
 sg 6 41 38 true (.bin .eql 36 (tm 40) (.const (.int .u64 0))),
 sm 7 42 (.pick (tm 38) (tm 41) (.const (.bool false))),
 sv 8 43 42,
 sg 9 44 43 true (.fa 3 (tm 1)),
 sg 10 45 43 true (.ld1 (tm 44)),
 sg 11 46 43 true (.len .str (tm 45)),
 sg 12 47 43 true (.bin .leq 3 (tm 46) (.const (.int .i64 30))),
 sm 13 48 (.pick (tm 43) (tm 47) (.const (.bool false))),
 sv 14 49 48,
 sg 15 50 49 true (.fa 3 (tm 1)),
 sg 16 51 49 true (.ld1 (tm 50)),
 ⟨17, (some 52), (some ((some 49), true)), .callF 132 [(tm 51)], [], false⟩,
 sm 18 53 (.pick (tm 49) (tm 52) (.const (.bool false)))])
 (.cond (tm 53) (.seq (.reg [sm 0 2 (.mv (.const (.int .i64 0)))])
 .ret) .skip)) .skip))))))))
 (.seq (.reg [sm 0 2 (.mv (.const (.int .i64 8)))])
 .ret)))
def r104 : List Mo := [.mv (tm 2)]
theorem c104_eq : compF Tryz.prog 104 = some c104 := by kernel_rfl
theorem r104_eq : compRs Tryz.prog 104 = some r104 := by kernel_rfl
def l105_0 : Cd := (.seq (.seq (.reg [sv 0 5 4,
 sm 1 6 (.bin .lss 3 (tm 5) (.const (.int .i64 32)))])
 (.cond (tm 6) .skip (.exit 0)))
 (.seq (.block 1 (.reg [sv 0 9 4,
 sv 1 10 4,
 sm 2 11 (.bin .quo 3 (tm 10) (.const (.int .i64 4))),
 sm 3 12 (.ia (.arr 8 1) (tm 1) (tm 11)),
 sm 4 13 (.ld1 (tm 12)),
 sv 5 14 4,
 sm 6 15 (.bin .rem 3 (tm 14) (.const (.int .i64 4))),
 sm 7 16 (.bin .mul 3 (.const (.int .i64 8)) (tm 15)),
 sm 8 17 (.bin .sub 3 (.const (.int .i64 24)) (tm 16)),
 sm 9 18 (.bin .shr 35 (tm 13) (tm 17)),
 sm 10 19 (.cint .u8 (tm 18)),
 sm 11 20 (.ia (.arr 32 1) (tm 3) (tm 9)),
 se 12 (.st 1 (tm 20) (tm 19))]))
 (.reg [sv 0 7 4,
 sm 1 8 (.bin .add 3 (tm 7) (.const (.int .i64 1))),
 sv 2 4 8])))
def c105 : Cd := (.seq (.reg [sm 0 1 (.box (tm 0)),
 sm 1 2 (.alloc (rep 32 (.int .u8 0)))])
 (.seq (.reg [sm 0 3 (.alloc (rep 32 (.int .u8 0)))])
 (.seq (.seq (.reg [sm 0 4 (.mv (.const (.int .i64 0)))])
 (.block 0 (.loop l105_0)))
 (.seq (.reg [sm 0 21 (.ldA 32 (tm 3)),
 se 1 (.st 32 (tm 2) (tm 21))])
 .ret))))
def r105 : List Mo := [.ldA 32 (tm 2)]
theorem c105_eq : compF Tryz.prog 105 = some c105 := by kernel_rfl
theorem r105_eq : compRs Tryz.prog 105 = some r105 := by kernel_rfl
def l106_0 : Cd := (.seq (.seq (.reg [sv 0 6 5,
 sm 1 7 (.bin .add 3 (tm 6) (.const (.int .i64 64))),
 sv 2 8 1,
 sm 3 9 (.len (.sl 1) (tm 8)),
 sm 4 10 (.bin .leq 3 (tm 7) (tm 9))])
 (.cond (tm 10) .skip (.exit 0)))
 (.seq (.block 1 (.reg [sm 0 13 (.ldA 8 (tm 2)),
 sv 1 14 1,
 sv 2 15 5,
 sv 3 16 5,
 sm 4 17 (.bin .add 3 (tm 16) (.const (.int .i64 64))),
 sm 5 18 (.slice (.sl 1) (tm 14) (some (tm 15)) (some (tm 17)) none),
 sc 6 19 133 [(tm 13), (tm 18)],
 se 7 (.st 8 (tm 2) (tm 19))]))
 (.reg [sv 0 11 5,
 sm 1 12 (.bin .add 3 (tm 11) (.const (.int .i64 64))),
 sv 2 5 12])))
def c106 : Cd := (.seq (.reg [sm 0 2 (.box (tm 0)),
 sm 1 4 (.alloc [.int .u32 0, .int .u32 0, .int .u32 0, .int .u32 0, .int .u32 0, .int .u32 0, .int .u32 0, .int .u32 0])])
 (.seq (.seq (.reg [sm 0 5 (.mv (.const (.int .i64 0)))])
 (.block 0 (.loop l106_0)))
 (.seq (.reg [sm 0 20 (.ldA 8 (tm 2)),
 se 1 (.st 8 (tm 4) (tm 20))])
 .ret)))
def r106 : List Mo := [.ldA 8 (tm 4)]
theorem c106_eq : compF Tryz.prog 106 = some c106 := by kernel_rfl
theorem r106_eq : compRs Tryz.prog 106 = some r106 := by kernel_rfl
def c107 : Cd := (.seq (.reg [sm 0 0 (.alloc [.int .u32 0, .int .u32 0, .int .u32 0, .int .u32 0, .int .u32 0, .int .u32 0, .int .u32 0, .int .u32 0])])
 (.seq (.reg [sm 0 1 (.bld [.int .u32 0, .int .u32 0, .int .u32 0, .int .u32 0, .int .u32 0, .int .u32 0, .int .u32 0, .int .u32 0] [(0, 1, (.const (.int .u32 1779033703))), (1, 1, (.const (.int .u32 3144134277))), (2, 1, (.const (.int .u32 1013904242))), (3, 1, (.const (.int .u32 2773480762))), (4, 1, (.const (.int .u32 1359893119))), (5, 1, (.const (.int .u32 2600822924))), (6, 1, (.const (.int .u32 528734635))), (7, 1, (.const (.int .u32 1541459225)))]),
 se 1 (.st 8 (tm 0) (tm 1))])
 .ret))
def r107 : List Mo := [.ldA 8 (tm 0)]
theorem c107_eq : compF Tryz.prog 107 = some c107 := by kernel_rfl
theorem r107_eq : compRs Tryz.prog 107 = some r107 := by kernel_rfl
def l108_0 : Cd := (.seq (.seq (.reg [sv 0 6 0,
 sv 1 7 3,
 sm 2 8 (.len (.sl 1) (tm 7)),
 sm 3 9 (.bin .add 3 (tm 6) (tm 8)),
 sm 4 10 (.bin .add 3 (tm 9) (.const (.int .i64 8))),
 sm 5 11 (.bin .rem 3 (tm 10) (.const (.int .i64 64))),
 sm 6 12 (.bin .neq 3 (tm 11) (.const (.int .i64 0)))])
 (.cond (tm 12) .skip (.exit 0)))
 (.block 1 (.reg [sv 0 13 3,
 sm 1 14 (.bsl 1 [.int .u8 0] 1 [(0, (.const (.int .u8 0)))]),
 sm 2 15 (.app 1 1 (tm 13) (tm 14)),
 sv 3 3 15])))
def l108_1 : Cd := (.seq (.seq (.reg [sv 0 16 4,
 sm 1 17 (.bin .geq 3 (tm 16) (.const (.int .i64 0)))])
 (.cond (tm 17) .skip (.exit 2)))
 (.seq (.block 3 (.reg [sv 0 20 3,
 sv 1 21 0,
 sm 2 22 (.cint .u64 (tm 21)),
 sm 3 23 (.bin .mul 36 (.const (.int .u64 8)) (tm 22)),
 sv 4 24 4,
 sm 5 25 (.bin .mul 3 (.const (.int .i64 8)) (tm 24)),
 sm 6 26 (.bin .shr 36 (tm 23) (tm 25)),
 sm 7 27 (.cint .u8 (tm 26)),
 sm 8 28 (.bsl 1 [.int .u8 0] 1 [(0, (tm 27))]),
 sm 9 29 (.app 1 1 (tm 20) (tm 28)),
 sv 10 3 29]))
 (.reg [sv 0 18 4,
 sm 1 19 (.bin .sub 3 (tm 18) (.const (.int .i64 1))),
 sv 2 4 19])))
def c108 : Cd := (.seq (.reg [sm 0 2 (.mv (.const (.slice none 0 0)))])
 (.seq (.reg [sm 0 5 (.bsl 1 [.int .u8 0] 1 [(0, (.const (.int .u8 128)))]),
 sv 1 3 5])
 (.seq (.block 0 (.loop l108_0))
 (.seq (.seq (.reg [sm 0 4 (.mv (.const (.int .i64 7)))])
 (.block 2 (.loop l108_1)))
 (.seq (.reg [sv 0 30 3,
 sv 1 2 30])
 .ret)))))
def r108 : List Mo := [.mv (tm 2)]
theorem c108_eq : compF Tryz.prog 108 = some c108 := by kernel_rfl
theorem r108_eq : compRs Tryz.prog 108 = some r108 := by kernel_rfl
def l114_0 : Cd := (.seq (.seq (.reg [sv 0 9 5,
 sm 1 10 (.bin .gtr 3 (tm 9) (.const (.int .i64 0)))])
 (.cond (tm 10) .skip (.exit 0)))
 (.seq (.block 1 (.seq (.reg [sv 0 13 1,
 sv 1 14 0,
 sv 2 15 5,
 sm 3 16 (.ia (.sl 32) (tm 14) (tm 15)),
 sm 4 17 (.ldA 32 (tm 16)),
 sv 5 18 0,
 sv 6 19 5,
 sm 7 20 (.bin .sub 3 (tm 19) (.const (.int .i64 1))),
 sm 8 21 (.ia (.sl 32) (tm 18) (tm 20)),
 sm 9 22 (.ldA 32 (tm 21)),
 ⟨10, (some 23), none, .callV (tm 13) [(tm 17), (tm 22)], [], false⟩,
 sm 11 24 (.bin .lss 3 (tm 23) (.const (.int .i64 0)))])
 (.cond (tm 24) (.seq (.reg [sm 0 4 (.mv (.const (.bool false)))])
 .ret) .skip)))
 (.reg [sv 0 11 5,
 sm 1 12 (.bin .sub 3 (tm 11) (.const (.int .i64 1))),
 sv 2 5 12])))
def c114 : Cd := (.seq (.reg [sm 0 4 (.mv (.const (.bool false)))])
 (.seq (.seq (.reg [sv 0 6 0,
 sm 1 7 (.len (.sl 32) (tm 6)),
 sm 2 8 (.bin .sub 3 (tm 7) (.const (.int .i64 1))),
 sv 3 5 8])
 (.block 0 (.loop l114_0)))
 (.seq (.reg [sm 0 4 (.mv (.const (.bool true)))])
 .ret)))
def r114 : List Mo := [.mv (tm 4)]
theorem c114_eq : compF Tryz.prog 114 = some c114 := by kernel_rfl
theorem r114_eq : compRs Tryz.prog 114 = some r114 := by kernel_rfl
def c115 : Cd := (.seq (.reg [sm 0 2 (.box (tm 0)),
 sm 1 3 (.box (tm 1)),
 sm 2 4 (.mv (.const (.int .i64 0)))])
 (.seq (.reg [sm 0 5 (.slice (.arr 32 1) (tm 2) none none none),
 sm 1 6 (.slice (.arr 32 1) (tm 3) none none none),
 sc 2 7 57 [(tm 5), (tm 6)],
 sv 3 4 7])
 .ret))
def r115 : List Mo := [.mv (tm 4)]
theorem c115_eq : compF Tryz.prog 115 = some c115 := by kernel_rfl
theorem r115_eq : compRs Tryz.prog 115 = some r115 := by kernel_rfl
def c116 : Cd := (.seq (.reg [sm 0 2 (.mv (.const (.bool false)))])
 (.seq (.reg [sv 0 3 0,
 sm 1 4 (.bin .gtr 35 (tm 3) (.const (.int .u32 0))),
 sv 2 5 4,
 sg 3 6 5 true (.mv (tm 0)),
 sg 4 7 5 true (.bin .lss 35 (tm 6) (.const (.int .u32 1000000007))),
 sm 5 8 (.pick (tm 5) (tm 7) (.const (.bool false))),
 sv 6 9 8,
 sg 7 10 9 true (.mv (tm 0)),
 ⟨8, (some 11), (some ((some 9), true)), .callF 135 [(tm 10), (.const (.int .u64 500000003))], [], false⟩,
 sg 9 12 9 true (.bin .eql 35 (tm 11) (.const (.int .u32 1))),
 sm 10 13 (.pick (tm 9) (tm 12) (.const (.bool false))),
 sv 11 2 13])
 .ret))
def r116 : List Mo := [.mv (tm 2)]
theorem c116_eq : compF Tryz.prog 116 = some c116 := by kernel_rfl
theorem r116_eq : compRs Tryz.prog 116 = some r116 := by kernel_rfl
def c117 : Cd := (.seq (.reg [sm 0 1 (.box (tm 0)),
 sm 1 2 (.mv (.const (.int .i64 0)))])
 (.seq (.reg [sm 0 3 (.mv (.const (.bool false)))])
 (.seq (.seq (.reg [sm 0 4 (.fa 0 (tm 1)),
 sm 1 5 (.ld1 (tm 4))])
 (.block 0 (.seq (.reg [sm 0 7 (.bin .eql 5 (tm 5) (.const (.int .u8 1))),
 sv 1 6 7])
 (.cond (tm 6) (.reg [sm 0 8 (.ldA 6 (tm 1)),
 sm 1 9 (.bld [.int .u8 0, .str [], .int .u8 0, .int .i64 0, .int .u64 0, .str []] [(0, 1, (.const (.int .u8 1)))]),
 sm 2 10 (.bin .eql 40 (tm 8) (tm 9)),
 sv 3 3 10]) (.seq (.seq (.reg [sm 0 12 (.bin .eql 5 (tm 5) (.const (.int .u8 2))),
 sv 1 11 12])
 (.cond (tm 11) .skip (.reg [sm 0 13 (.bin .eql 5 (tm 5) (.const (.int .u8 3))),
 sv 1 11 13])))
 (.cond (tm 11) (.reg [sm 0 14 (.fa 1 (tm 1)),
 sm 1 15 (.ld1 (tm 14)),
 sc 2 16 136 [(tm 15)],
 sv 3 17 16,
 sg 4 18 17 true (.fa 2 (tm 1)),
 sg 5 19 17 true (.ldA 4 (tm 18)),
 sg 6 20 17 true (.bld [.int .u8 0, .int .i64 0, .int .u64 0, .str []] []),
 sg 7 21 17 true (.bin .eql 38 (tm 19) (tm 20)),
 sm 8 22 (.pick (tm 17) (tm 21) (.const (.bool false))),
 sv 9 3 22]) (.seq (.reg [sm 0 24 (.bin .eql 5 (tm 5) (.const (.int .u8 4))),
 sv 1 23 24])
 (.cond (tm 23) (.reg [sm 0 25 (.fa 1 (tm 1)),
 sm 1 26 (.ld1 (tm 25)),
 sc 2 27 136 [(tm 26)],
 sv 3 28 27,
 sg 4 29 28 true (.fa 2 (tm 1)),
 sg 5 30 28 true (.ldA 4 (tm 29)),
 ⟨6, (some 31), (some ((some 28), true)), .callF 137 [(tm 30)], [], false⟩,
 sg 7 32 28 true (.bin .eql 28 (tm 31) (.const (.int .i64 0))),
 sm 8 33 (.pick (tm 28) (tm 32) (.const (.bool false))),
 sv 9 3 33]) .skip))))))))
 (.seq (.seq (.reg [sv 0 34 3,
 sm 1 35 (.un .not (tm 34))])
 (.cond (tm 35) (.seq (.reg [sm 0 2 (.mv (.const (.int .i64 8)))])
 .ret) .skip))
 (.seq (.reg [sm 0 2 (.mv (.const (.int .i64 0)))])
 .ret)))))
def r117 : List Mo := [.mv (tm 2)]
theorem c117_eq : compF Tryz.prog 117 = some c117 := by kernel_rfl
theorem r117_eq : compRs Tryz.prog 117 = some r117 := by kernel_rfl
def l118_0 : Cd := (.seq (.reg [sm 0 20 (.bin .lss 3 (tm 19) (tm 18))])
 (.seq (.cond (tm 20) .skip (.exit 0))
 (.seq (.block 1 (.seq (.reg [sm 0 21 (.ia (.sl 32) (tm 17) (tm 19)),
 sm 1 22 (.ldA 32 (tm 21)),
 sm 2 6 (.alloc (rep 32 (.int .u8 0))),
 se 3 (.st 32 (tm 6) (tm 22))])
 (.reg [sv 0 23 4,
 sm 1 24 (.slice (.arr 32 1) (tm 6) none none none),
 sm 2 25 (.app 1 1 (tm 23) (tm 24)),
 sv 3 4 25])))
 (.reg [sm 0 26 (.bin .add 3 (tm 19) (.const (.int .i64 1))),
 sv 1 19 26]))))
def c118 : Cd := (.seq (.reg [sm 0 2 (.mv (.const (.slice none 0 0))),
 sm 1 3 (.mv (.const (.int .i64 0)))])
 (.seq (.seq (.reg [sv 0 7 0,
 sm 1 8 (.len (.sl 32) (tm 7)),
 sm 2 9 (.bin .gtr 3 (tm 8) (.const (.int .i64 60)))])
 (.cond (tm 9) (.seq (.reg [sm 0 2 (.mv (.const (.slice none 0 0))),
 sm 1 3 (.mv (.const (.int .i64 4)))])
 .ret) .skip))
 (.seq (.seq (.reg [sv 0 10 0,
 sc 1 11 138 [(tm 10)],
 sm 2 12 (.un .not (tm 11))])
 (.cond (tm 12) (.seq (.reg [sm 0 2 (.mv (.const (.slice none 0 0))),
 sm 1 3 (.mv (.const (.int .i64 32)))])
 .ret) .skip))
 (.seq (.reg [sv 0 13 0,
 sm 1 14 (.len (.sl 32) (tm 13)),
 sm 2 15 (.cint .u64 (tm 14)),
 sc 3 16 90 [(tm 15)],
 sv 4 4 16])
 (.seq (.seq (.reg [sv 0 17 0,
 sm 1 18 (.len (.sl 32) (tm 17)),
 sm 2 19 (.mv (.const (.int .i64 0)))])
 (.block 0 (.loop l118_0)))
 (.seq (.reg [sv 0 27 4,
 sv 1 2 27,
 sm 2 3 (.mv (.const (.int .i64 0)))])
 .ret))))))
def r118 : List Mo := [.mv (tm 2), .mv (tm 3)]
theorem c118_eq : compF Tryz.prog 118 = some c118 := by kernel_rfl
theorem r118_eq : compRs Tryz.prog 118 = some r118 := by kernel_rfl
def c119 : Cd := (.seq (.reg [sm 0 2 (.mv (.const (.slice none 0 0))),
 sm 1 3 (.mv (.const (.int .i64 0)))])
 (.seq (.seq (.reg [sv 0 4 0,
 sm 1 5 (.len (.sl 1) (tm 4)),
 sm 2 6 (.bin .gtr 3 (tm 5) (.const (.int .i64 10000)))])
 (.cond (tm 6) (.seq (.reg [sm 0 2 (.mv (.const (.slice none 0 0))),
 sm 1 3 (.mv (.const (.int .i64 4)))])
 .ret) .skip))
 (.seq (.reg [sv 0 7 0,
 sm 1 8 (.len (.sl 1) (tm 7)),
 sm 2 9 (.cint .u64 (tm 8)),
 sc 3 10 90 [(tm 9)],
 sv 4 11 0,
 sm 5 12 (.app 1 1 (tm 10) (tm 11)),
 sv 6 2 12,
 sm 7 3 (.mv (.const (.int .i64 0)))])
 .ret)))
def r119 : List Mo := [.mv (tm 2), .mv (tm 3)]
theorem c119_eq : compF Tryz.prog 119 = some c119 := by kernel_rfl
theorem r119_eq : compRs Tryz.prog 119 = some r119 := by kernel_rfl
def l120_0 : Cd := (.seq (.seq (.reg [sv 0 28 6,
 sm 1 29 (.bin .geq 3 (tm 28) (.const (.int .i64 0)))])
 (.cond (tm 29) .skip (.exit 1)))
 (.seq (.block 2 (.reg [sv 0 32 5,
 sm 1 33 (.fa 2 (tm 1)),
 sm 2 34 (.ld1 (tm 33)),
 sv 3 35 6,
 sm 4 36 (.bin .shr 36 (tm 34) (tm 35)),
 sm 5 37 (.cint .u8 (tm 36)),
 sm 6 38 (.bsl 1 [.int .u8 0] 1 [(0, (tm 37))]),
 sm 7 39 (.app 1 1 (tm 32) (tm 38)),
 sv 8 5 39]))
 (.reg [sv 0 30 6,
 sm 1 31 (.bin .sub 3 (tm 30) (.const (.int .i64 8))),
 sv 2 6 31])))
def c120 : Cd := (.seq (.reg [sm 0 1 (.box (tm 0)),
 sm 1 2 (.mv (.const (.slice none 0 0))),
 sm 2 3 (.mv (.const (.int .i64 0)))])
 (.seq (.seq (.reg [sm 0 9 (.ldA 4 (tm 1)),
 sc 1 10 137 [(tm 9)],
 sv 2 4 10])
 (.seq (.reg [sv 0 11 4,
 sm 1 12 (.bin .neq 28 (tm 11) (.const (.int .i64 0)))])
 (.cond (tm 12) (.seq (.reg [sv 0 13 4,
 sm 1 2 (.mv (.const (.slice none 0 0))),
 sv 2 3 13])
 .ret) .skip)))
 (.seq (.reg [sm 0 14 (.fa 0 (tm 1)),
 sm 1 15 (.ld1 (tm 14)),
 sm 2 16 (.bsl 1 [.int .u8 0] 1 [(0, (tm 15))]),
 sv 3 5 16])
 (.seq (.seq (.reg [sm 0 17 (.fa 0 (tm 1)),
 sm 1 18 (.ld1 (tm 17))])
 (.block 0 (.seq (.reg [sm 0 20 (.bin .eql 5 (tm 18) (.const (.int .u8 1))),
 sv 1 19 20])
 (.cond (tm 19) (.reg [sv 0 21 5,
 sm 1 22 (.fa 1 (tm 1)),
 sm 2 23 (.ld1 (tm 22)),
 sc 3 24 139 [(tm 23)],
 sm 4 25 (.app 1 1 (tm 21) (tm 24)),
 sv 5 5 25]) (.seq (.reg [sm 0 27 (.bin .eql 5 (tm 18) (.const (.int .u8 2))),
 sv 1 26 27])
 (.cond (tm 26) (.seq (.reg [sm 0 6 (.mv (.const (.int .i64 56)))])
 (.block 1 (.loop l120_0))) (.seq (.reg [sm 0 41 (.bin .eql 5 (tm 18) (.const (.int .u8 3))),
 sv 1 40 41])
 (.cond (tm 40) (.seq (.reg [sm 0 43 (.fa 3 (tm 1)),
 sm 1 44 (.ld1 (tm 43)),
 sm 2 45 (.csb (tm 44)),
 sc 3 46 119 [(tm 45)],
 sv 4 42 46,
 sm 5 47 (.ext (tm 42) 0),
 sm 6 48 (.ext (tm 42) 1),
 sv 7 7 47,
 sv 8 8 48])
 (.reg [sv 0 49 5,
 sv 1 50 7,
 sm 2 51 (.app 1 1 (tm 49) (tm 50)),
 sv 3 5 51])) .skip))))))))
 (.seq (.reg [sv 0 52 5,
 sv 1 2 52,
 sm 2 3 (.mv (.const (.int .i64 0)))])
 .ret)))))
def r120 : List Mo := [.mv (tm 2), .mv (tm 3)]
theorem c120_eq : compF Tryz.prog 120 = some c120 := by kernel_rfl
theorem r120_eq : compRs Tryz.prog 120 = some r120 := by kernel_rfl
def c121 : Cd := (.seq (.reg [sm 0 4 (.mv (.const (.slice none 0 0)))])
 (.seq (.seq (.reg [sv 0 5 1,
 sm 1 6 (.bin .lss 3 (tm 5) (.const (.int .i64 0)))])
 (.cond (tm 6) (.reg [sm 0 7 (.mkI 9 (.const (.string ⟨#[99, 97, 110, 110, 111, 116, 32, 98, 101, 32, 110, 101, 103, 97, 116, 105, 118, 101]⟩))),
 se 1 (.stop)]) .skip))
 (.seq (.seq (.reg [sv 0 8 1,
 sv 1 9 0,
 sm 2 10 (.cap (.sl 1) (tm 9)),
 sv 3 11 0,
 sm 4 12 (.len (.sl 1) (tm 11)),
 sm 5 13 (.bin .sub 3 (tm 10) (tm 12)),
 sm 6 14 (.bin .sub 3 (tm 8) (tm 13)),
 sv 7 1 14])
 (.seq (.reg [sv 0 15 1,
 sm 1 16 (.bin .gtr 3 (tm 15) (.const (.int .i64 0)))])
 (.cond (tm 16) (.reg [sv 0 17 0,
 sv 1 18 0,
 sm 2 19 (.cap (.sl 1) (tm 18)),
 sm 3 20 (.slice (.sl 1) (tm 17) none (some (tm 19)) none),
 sv 4 21 1,
 sm 5 22 (.appZ 1 1 [.int .u8 0] (tm 20) (tm 21)),
 sv 6 23 0,
 sm 7 24 (.len (.sl 1) (tm 23)),
 sm 8 25 (.slice (.sl 1) (tm 22) none (some (tm 24)) none),
 sv 9 0 25]) .skip)))
 (.seq (.reg [sv 0 26 0,
 sv 1 4 26])
 .ret))))
def r121 : List Mo := [.mv (tm 4)]
theorem c121_eq : compF Tryz.prog 121 = some c121 := by kernel_rfl
theorem r121_eq : compRs Tryz.prog 121 = some r121 := by kernel_rfl
def c122 : Cd := (.seq (.reg [sm 0 4 (.mv (.const (.bool false)))])
 (.seq (.reg [sv 0 5 0,
 sv 1 6 1,
 sc 2 7 140 [(tm 5), (tm 6)],
 sm 3 8 (.bin .geq 3 (tm 7) (.const (.int .i64 0))),
 sv 4 4 8])
 .ret))
def r122 : List Mo := [.mv (tm 4)]
theorem c122_eq : compF Tryz.prog 122 = some c122 := by kernel_rfl
theorem r122_eq : compRs Tryz.prog 122 = some r122 := by kernel_rfl
def c123 : Cd := (.seq (.reg [sm 0 2 (.mv (.const (.bool false)))])
 (.seq (.reg [sv 0 3 0,
 sm 1 4 (.len (.sl 1) (tm 3)),
 sm 2 5 (.bin .gtr 3 (tm 4) (.const (.int .i64 10000))),
 sv 3 2 5])
 .ret))
def r123 : List Mo := [.mv (tm 2)]
theorem c123_eq : compF Tryz.prog 123 = some c123 := by kernel_rfl
theorem r123_eq : compRs Tryz.prog 123 = some r123 := by kernel_rfl
def c124 : Cd := (.seq (.reg [sm 0 0 (.alloc [.int .u32 0, .int .u32 0, .int .u32 0, .int .u32 0, .int .u32 0, .int .u32 0, .int .u32 0, .int .u32 0, .nilS, .int .i64 0])])
 (.seq (.reg [sm 0 1 (.bld [.int .u32 0, .int .u32 0, .int .u32 0, .int .u32 0, .int .u32 0, .int .u32 0, .int .u32 0, .int .u32 0] [(0, 1, (.const (.int .u32 1779033703))), (1, 1, (.const (.int .u32 3144134277))), (2, 1, (.const (.int .u32 1013904242))), (3, 1, (.const (.int .u32 2773480762))), (4, 1, (.const (.int .u32 1359893119))), (5, 1, (.const (.int .u32 2600822924))), (6, 1, (.const (.int .u32 528734635))), (7, 1, (.const (.int .u32 1541459225)))]),
 sm 1 2 (.bld [.int .u32 0, .int .u32 0, .int .u32 0, .int .u32 0, .int .u32 0, .int .u32 0, .int .u32 0, .int .u32 0, .nilS, .int .i64 0] [(0, 8, (tm 1))]),
 se 2 (.st 10 (tm 0) (tm 2))])
 .ret))
def r124 : List Mo := [.ldA 10 (tm 0)]
theorem c124_eq : compF Tryz.prog 124 = some c124 := by kernel_rfl
theorem r124_eq : compRs Tryz.prog 124 = some r124 := by kernel_rfl
def l125_0 : Cd := (.seq (.seq (.reg [sv 0 11 5,
 sm 1 12 (.len (.sl 1) (tm 11)),
 sm 2 13 (.bin .geq 3 (tm 12) (.const (.int .i64 64)))])
 (.cond (tm 13) .skip (.exit 0)))
 (.block 1 (.seq (.reg [sm 0 14 (.fa 0 (tm 2)),
 sv 1 15 5,
 sc 2 16 141 [(tm 14), (tm 15)]])
 (.reg [sv 0 17 5,
 sm 1 18 (.slice (.sl 1) (tm 17) (some (.const (.int .i64 64))) none none),
 sv 2 5 18]))))
def c125 : Cd := (.seq (.reg [sm 0 2 (.box (tm 0)),
 sm 1 4 (.alloc [.int .u32 0, .int .u32 0, .int .u32 0, .int .u32 0, .int .u32 0, .int .u32 0, .int .u32 0, .int .u32 0, .nilS, .int .i64 0])])
 (.seq (.reg [sm 0 6 (.fa 8 (tm 2)),
 sm 1 7 (.ld1 (tm 6)),
 sv 2 8 1,
 sm 3 9 (.bsl 1 [.nilS] 2 [(0, (tm 7)), (1, (tm 8))]),
 sc 4 10 89 [(tm 9)],
 sv 5 5 10])
 (.seq (.block 0 (.loop l125_0))
 (.seq (.dreg [sm 0 19 (.fa 9 (tm 2)),
 ⟨1, (some 20), none, .mo (.ld1 (tm 19)), [], true⟩,
 sv 2 21 1,
 sm 3 22 (.len (.sl 1) (tm 21)),
 sm 4 23 (.bin .add 3 (tm 20) (tm 22)),
 sv 5 24 5,
 ⟨6, (some 25), none, .callF 142 [(tm 24)], [1], false⟩,
 sm 7 26 (.fa 9 (tm 2)),
 se 8 (.st 1 (tm 26) (tm 23)),
 sm 9 27 (.fa 8 (tm 2)),
 se 10 (.st 1 (tm 27) (tm 25))])
 (.seq (.reg [sm 0 28 (.ldA 10 (tm 2)),
 se 1 (.st 10 (tm 4) (tm 28))])
 .ret)))))
def r125 : List Mo := [.ldA 10 (tm 4)]
theorem c125_eq : compF Tryz.prog 125 = some c125 := by kernel_rfl
theorem r125_eq : compRs Tryz.prog 125 = some r125 := by kernel_rfl
def l126_0 : Cd := (.seq (.seq (.reg [sv 0 19 5,
 sm 1 20 (.bin .geq 3 (tm 19) (.const (.int .i64 0)))])
 (.cond (tm 20) .skip (.exit 0)))
 (.seq (.block 1 (.reg [sv 0 23 4,
 sv 1 24 3,
 sv 2 25 5,
 sm 3 26 (.bin .shr 36 (tm 24) (tm 25)),
 sm 4 27 (.cint .u8 (tm 26)),
 sm 5 28 (.bsl 1 [.int .u8 0] 1 [(0, (tm 27))]),
 sm 6 29 (.app 1 1 (tm 23) (tm 28)),
 sv 7 4 29]))
 (.reg [sv 0 21 5,
 sm 1 22 (.bin .sub 3 (tm 21) (.const (.int .i64 8))),
 sv 2 5 22])))
def l126_1 : Cd := (.seq (.reg [sm 0 35 (.bin .lss 3 (tm 34) (.const (.int .i64 8)))])
 (.seq (.cond (tm 35) .skip (.exit 2))
 (.seq (.block 3 (.seq (.reg [sv 0 36 34,
 sm 1 37 (.ix1 8 1 (tm 33) (tm 34)),
 sv 2 6 36,
 sv 3 7 37])
 (.reg [sv 0 38 6,
 sm 1 39 (.bin .mul 3 (.const (.int .i64 4)) (tm 38)),
 sv 2 40 6,
 sm 3 41 (.bin .mul 3 (.const (.int .i64 4)) (tm 40)),
 sm 4 42 (.bin .add 3 (tm 41) (.const (.int .i64 1))),
 sv 5 43 6,
 sm 6 44 (.bin .mul 3 (.const (.int .i64 4)) (tm 43)),
 sm 7 45 (.bin .add 3 (tm 44) (.const (.int .i64 2))),
 sv 8 46 6,
 sm 9 47 (.bin .mul 3 (.const (.int .i64 4)) (tm 46)),
 sm 10 48 (.bin .add 3 (tm 47) (.const (.int .i64 3))),
 sv 11 49 7,
 sm 12 50 (.bin .shr 35 (tm 49) (.const (.int .u64 24))),
 sm 13 51 (.cint .u8 (tm 50)),
 sv 14 52 7,
 sm 15 53 (.bin .shr 35 (tm 52) (.const (.int .u64 16))),
 sm 16 54 (.cint .u8 (tm 53)),
 sv 17 55 7,
 sm 18 56 (.bin .shr 35 (tm 55) (.const (.int .u64 8))),
 sm 19 57 (.cint .u8 (tm 56)),
 sv 20 58 7,
 sm 21 59 (.cint .u8 (tm 58)),
 sm 22 60 (.ia (.arr 32 1) (tm 2) (tm 39)),
 se 23 (.st 1 (tm 60) (tm 51)),
 sm 24 61 (.ia (.arr 32 1) (tm 2) (tm 42)),
 se 25 (.st 1 (tm 61) (tm 54)),
 sm 26 62 (.ia (.arr 32 1) (tm 2) (tm 45)),
 se 27 (.st 1 (tm 62) (tm 57)),
 sm 28 63 (.ia (.arr 32 1) (tm 2) (tm 48)),
 se 29 (.st 1 (tm 63) (tm 59))])))
 (.reg [sm 0 64 (.bin .add 3 (tm 34) (.const (.int .i64 1))),
 sv 1 34 64]))))
def c126 : Cd := (.seq (.reg [sm 0 1 (.box (tm 0)),
 sm 1 2 (.alloc (rep 32 (.int .u8 0)))])
 (.seq (.reg [sm 0 8 (.fa 9 (tm 1)),
 sm 1 9 (.ld1 (tm 8)),
 sm 2 10 (.cint .u64 (tm 9)),
 sm 3 11 (.bin .mul 36 (tm 10) (.const (.int .u64 8))),
 sv 4 3 11])
 (.seq (.reg [sm 0 12 (.bsl 1 [.int .u8 0] 1 [(0, (.const (.int .u8 128)))]),
 sm 1 13 (.fa 9 (tm 1)),
 sm 2 14 (.ld1 (tm 13)),
 sm 3 15 (.bin .rem 3 (tm 14) (.const (.int .i64 64))),
 sm 4 16 (.bin .sub 3 (.const (.int .i64 119)) (tm 15)),
 sm 5 17 (.bin .rem 3 (tm 16) (.const (.int .i64 64))),
 sm 6 18 (.appZ 1 1 [.int .u8 0] (tm 12) (tm 17)),
 sv 7 4 18])
 (.seq (.seq (.reg [sm 0 5 (.mv (.const (.int .i64 56)))])
 (.block 0 (.loop l126_0)))
 (.seq (.seq (.reg [sm 0 30 (.ldA 10 (tm 1)),
 sv 1 31 4,
 sc 2 32 125 [(tm 30), (tm 31)],
 sm 3 33 (.fldA 8 0 (tm 32)),
 sm 4 34 (.mv (.const (.int .i64 0)))])
 (.block 2 (.loop l126_1)))
 (.seq (.reg [sm 0 65 (.ldA 32 (tm 2)),
 se 1 (.st 32 (tm 2) (tm 65))])
 .ret))))))
def r126 : List Mo := [.ldA 32 (tm 2)]
theorem c126_eq : compF Tryz.prog 126 = some c126 := by kernel_rfl
theorem r126_eq : compRs Tryz.prog 126 = some r126 := by kernel_rfl
def c130 : Cd := (.seq (.reg [sm 0 2 (.mv (.const (.slice none 0 0)))])
 (.seq (.seq (.reg [sv 0 3 0,
 sm 1 4 (.bin .geq 2 (tm 3) (.const (.int .i64 0)))])
 (.cond (tm 4) (.seq (.reg [sv 0 5 0,
 sm 1 6 (.cint .u64 (tm 5)),
 sm 2 7 (.bin .mul 36 (.const (.int .u64 2)) (tm 6)),
 sc 3 8 98 [(tm 7)],
 sv 4 2 8])
 .ret) .skip))
 (.seq (.reg [sv 0 9 0,
 sm 1 10 (.bin .add 2 (tm 9) (.const (.int .i64 1))),
 sm 2 11 (.un .neg (tm 10)),
 sm 3 12 (.cint .u64 (tm 11)),
 sm 4 13 (.bin .mul 36 (.const (.int .u64 2)) (tm 12)),
 sm 5 14 (.bin .add 36 (tm 13) (.const (.int .u64 1))),
 sc 6 15 98 [(tm 14)],
 sv 7 2 15])
 .ret)))
def r130 : List Mo := [.mv (tm 2)]
theorem c130_eq : compF Tryz.prog 130 = some c130 := by kernel_rfl
theorem r130_eq : compRs Tryz.prog 130 = some r130 := by kernel_rfl
def c131 : Cd := (.seq (.reg [sm 0 2 (.mv (.const (.int .u64 0)))])
 (.seq (.seq (.reg [sv 0 3 0,
 sc 1 4 143 [(tm 3)],
 sm 2 5 (.bin .eql 5 (tm 4) (.const (.int .u8 5)))])
 (.cond (tm 5) (.seq (.reg [sm 0 2 (.mv (.const (.int .u64 9221120237041090560)))])
 .ret) .skip))
 (.seq (.reg [sv 0 6 0,
 sv 1 2 6])
 .ret)))
def r131 : List Mo := [.mv (tm 2)]
theorem c131_eq : compF Tryz.prog 131 = some c131 := by kernel_rfl
theorem r131_eq : compRs Tryz.prog 131 = some r131 := by kernel_rfl
def l132_0 : Cd := (.seq (.seq (.reg [sv 0 4 3,
 sv 1 5 0,
 sm 2 6 (.len .str (tm 5)),
 sm 3 7 (.bin .lss 3 (tm 4) (tm 6))])
 (.cond (tm 7) .skip (.exit 0)))
 (.seq (.block 1 (.seq (.reg [sv 0 10 0,
 sv 1 11 3,
 sm 2 12 (.ixT (tm 10) (tm 11)),
 sm 3 13 (.bin .lss 5 (tm 12) (.const (.int .u8 32))),
 sv 4 14 13,
 sg 5 15 14 false (.mv (tm 0)),
 sg 6 16 14 false (.mv (tm 3)),
 sg 7 17 14 false (.ixT (tm 15) (tm 16)),
 sg 8 18 14 false (.bin .gtr 5 (tm 17) (.const (.int .u8 126))),
 sm 9 19 (.pick (tm 14) (.const (.bool true)) (tm 18))])
 (.cond (tm 19) (.seq (.reg [sm 0 2 (.mv (.const (.bool false)))])
 .ret) .skip)))
 (.reg [sv 0 8 3,
 sm 1 9 (.bin .add 3 (tm 8) (.const (.int .i64 1))),
 sv 2 3 9])))
def c132 : Cd := (.seq (.reg [sm 0 2 (.mv (.const (.bool false)))])
 (.seq (.seq (.reg [sm 0 3 (.mv (.const (.int .i64 0)))])
 (.block 0 (.loop l132_0)))
 (.seq (.reg [sm 0 2 (.mv (.const (.bool true)))])
 .ret)))
def r132 : List Mo := [.mv (tm 2)]
theorem c132_eq : compF Tryz.prog 132 = some c132 := by kernel_rfl
theorem r132_eq : compRs Tryz.prog 132 = some r132 := by kernel_rfl
def l133_0 : Cd := (.seq (.seq (.reg [sv 0 22 6,
 sm 1 23 (.bin .lss 3 (tm 22) (.const (.int .i64 16)))])
 (.cond (tm 23) .skip (.exit 0)))
 (.seq (.block 1 (.reg [sv 0 26 5,
 sv 1 27 1,
 sv 2 28 6,
 sm 3 29 (.bin .mul 3 (.const (.int .i64 4)) (tm 28)),
 sm 4 30 (.ia (.sl 1) (tm 27) (tm 29)),
 sm 5 31 (.ld1 (tm 30)),
 sm 6 32 (.cint .u32 (tm 31)),
 sm 7 33 (.bin .mul 35 (tm 32) (.const (.int .u32 256))),
 sv 8 34 1,
 sv 9 35 6,
 sm 10 36 (.bin .mul 3 (.const (.int .i64 4)) (tm 35)),
 sm 11 37 (.bin .add 3 (tm 36) (.const (.int .i64 1))),
 sm 12 38 (.ia (.sl 1) (tm 34) (tm 37)),
 sm 13 39 (.ld1 (tm 38)),
 sm 14 40 (.cint .u32 (tm 39)),
 sm 15 41 (.bin .add 35 (tm 33) (tm 40)),
 sm 16 42 (.bin .mul 35 (tm 41) (.const (.int .u32 256))),
 sv 17 43 1,
 sv 18 44 6,
 sm 19 45 (.bin .mul 3 (.const (.int .i64 4)) (tm 44)),
 sm 20 46 (.bin .add 3 (tm 45) (.const (.int .i64 2))),
 sm 21 47 (.ia (.sl 1) (tm 43) (tm 46)),
 sm 22 48 (.ld1 (tm 47)),
 sm 23 49 (.cint .u32 (tm 48)),
 sm 24 50 (.bin .add 35 (tm 42) (tm 49)),
 sm 25 51 (.bin .mul 35 (tm 50) (.const (.int .u32 256))),
 sv 26 52 1,
 sv 27 53 6,
 sm 28 54 (.bin .mul 3 (.const (.int .i64 4)) (tm 53)),
 sm 29 55 (.bin .add 3 (tm 54) (.const (.int .i64 3))),
 sm 30 56 (.ia (.sl 1) (tm 52) (tm 55)),
 sm 31 57 (.ld1 (tm 56)),
 sm 32 58 (.cint .u32 (tm 57)),
 sm 33 59 (.bin .add 35 (tm 51) (tm 58)),
 sm 34 60 (.bsl 1 [.int .u32 0] 1 [(0, (tm 59))]),
 sm 35 61 (.app 1 4 (tm 26) (tm 60)),
 sv 36 5 61]))
 (.reg [sv 0 24 6,
 sm 1 25 (.bin .add 3 (tm 24) (.const (.int .i64 1))),
 sv 2 6 25])))
def l133_1 : Cd := (.seq (.seq (.reg [sv 0 62 7,
 sm 1 63 (.bin .lss 3 (tm 62) (.const (.int .i64 64)))])
 (.cond (tm 63) .skip (.exit 2)))
 (.seq (.block 3 (.seq (.reg [sv 0 66 5,
 sv 1 67 7,
 sm 2 68 (.bin .sub 3 (tm 67) (.const (.int .i64 15))),
 sm 3 69 (.ia (.sl 1) (tm 66) (tm 68)),
 sm 4 70 (.ld1 (tm 69)),
 sv 5 71 5,
 sv 6 72 7,
 sm 7 73 (.bin .sub 3 (tm 72) (.const (.int .i64 2))),
 sm 8 74 (.ia (.sl 1) (tm 71) (tm 73)),
 sm 9 75 (.ld1 (tm 74)),
 sv 10 8 70,
 sv 11 9 75])
 (.dreg [sv 0 76 5,
 sv 1 77 5,
 sv 2 78 7,
 sm 3 79 (.bin .sub 3 (tm 78) (.const (.int .i64 16))),
 sm 4 80 (.ia (.sl 1) (tm 77) (tm 79)),
 ⟨5, (some 81), none, .mo (.ld1 (tm 80)), [], true⟩,
 sv 6 82 5,
 sv 7 83 7,
 sm 8 84 (.bin .sub 3 (tm 83) (.const (.int .i64 7))),
 sm 9 85 (.ia (.sl 1) (tm 82) (tm 84)),
 ⟨10, (some 86), none, .mo (.ld1 (tm 85)), [], true⟩,
 sm 11 87 (.bin .add 35 (tm 81) (tm 86)),
 sv 12 88 8,
 sv 14 90 8,
 sv 17 93 8,
 sm 18 94 (.bin .shr 35 (tm 93) (.const (.int .u64 3))),
 sv 21 97 9,
 sv 23 99 9,
 sv 26 102 9,
 sm 27 103 (.bin .shr 35 (tm 102) (.const (.int .u64 10))),
 ⟨13, (some 89), none, .callF 144 [(tm 88), (.const (.int .i64 7))], [10, 5], false⟩,
 ⟨15, (some 91), none, .callF 144 [(tm 90), (.const (.int .i64 18))], [10, 5], false⟩,
 sm 16 92 (.bin .xor 35 (tm 89) (tm 91)),
 sm 19 95 (.bin .xor 35 (tm 92) (tm 94)),
 sm 20 96 (.bin .add 35 (tm 87) (tm 95)),
 ⟨22, (some 98), none, .callF 144 [(tm 97), (.const (.int .i64 17))], [10, 5], false⟩,
 ⟨24, (some 100), none, .callF 144 [(tm 99), (.const (.int .i64 19))], [10, 5], false⟩,
 sm 25 101 (.bin .xor 35 (tm 98) (tm 100)),
 sm 28 104 (.bin .xor 35 (tm 101) (tm 103)),
 sm 29 105 (.bin .add 35 (tm 96) (tm 104)),
 sm 30 106 (.bsl 1 [.int .u32 0] 1 [(0, (tm 105))]),
 sm 31 107 (.app 1 4 (tm 76) (tm 106)),
 sv 32 5 107])))
 (.reg [sv 0 64 7,
 sm 1 65 (.bin .add 3 (tm 64) (.const (.int .i64 1))),
 sv 2 7 65])))
def l133_2 : Cd := (.seq (.seq (.reg [sv 0 110 12,
 sm 1 111 (.bin .lss 3 (tm 110) (.const (.int .i64 64)))])
 (.cond (tm 111) .skip (.exit 4)))
 (.seq (.block 5 (.seq (.reg [sm 0 114 (.ia (.arr 8 1) (tm 11) (.const (.int .i64 0))),
 sm 1 115 (.ld1 (tm 114)),
 sm 2 116 (.ia (.arr 8 1) (tm 11) (.const (.int .i64 1))),
 sm 3 117 (.ld1 (tm 116)),
 sm 4 118 (.ia (.arr 8 1) (tm 11) (.const (.int .i64 2))),
 sm 5 119 (.ld1 (tm 118)),
 sm 6 120 (.ia (.arr 8 1) (tm 11) (.const (.int .i64 4))),
 sm 7 121 (.ld1 (tm 120)),
 sm 8 122 (.ia (.arr 8 1) (tm 11) (.const (.int .i64 5))),
 sm 9 123 (.ld1 (tm 122)),
 sm 10 124 (.ia (.arr 8 1) (tm 11) (.const (.int .i64 6))),
 sm 11 125 (.ld1 (tm 124)),
 sv 12 13 115,
 sv 13 14 117,
 sv 14 15 119,
 sv 15 16 121,
 sv 16 17 123,
 sv 17 18 125])
 (.seq (.dreg [sm 0 126 (.ia (.arr 8 1) (tm 11) (.const (.int .i64 7))),
 ⟨1, (some 127), none, .mo (.ld1 (tm 126)), [], true⟩,
 sv 2 128 16,
 sv 4 130 16,
 sv 7 133 16,
 sv 11 137 16,
 sv 12 138 17,
 sm 13 139 (.bin .and 35 (tm 137) (tm 138)),
 sv 14 140 16,
 sm 15 141 (.un .xor (tm 140)),
 sv 16 142 18,
 sm 17 143 (.bin .and 35 (tm 141) (tm 142)),
 sm 18 144 (.bin .xor 35 (tm 139) (tm 143)),
 sv 20 146 10,
 sv 21 147 12,
 sm 22 148 (.ia (.sl 1) (tm 146) (tm 147)),
 ⟨23, (some 149), none, .mo (.ld1 (tm 148)), [], true⟩,
 sv 25 151 5,
 sv 26 152 12,
 sm 27 153 (.ia (.sl 1) (tm 151) (tm 152)),
 ⟨28, (some 154), none, .mo (.ld1 (tm 153)), [], true⟩,
 ⟨3, (some 129), none, .callF 144 [(tm 128), (.const (.int .i64 6))], [28, 23, 1], false⟩,
 ⟨5, (some 131), none, .callF 144 [(tm 130), (.const (.int .i64 11))], [28, 23, 1], false⟩,
 sm 6 132 (.bin .xor 35 (tm 129) (tm 131)),
 ⟨8, (some 134), none, .callF 144 [(tm 133), (.const (.int .i64 25))], [28, 23, 1], false⟩,
 sm 9 135 (.bin .xor 35 (tm 132) (tm 134)),
 sm 10 136 (.bin .add 35 (tm 127) (tm 135)),
 sm 19 145 (.bin .add 35 (tm 136) (tm 144)),
 sm 24 150 (.bin .add 35 (tm 145) (tm 149)),
 sm 29 155 (.bin .add 35 (tm 150) (tm 154)),
 sv 30 19 155])
 (.seq (.reg [sv 0 156 13,
 sc 1 157 144 [(tm 156), (.const (.int .i64 2))],
 sv 2 158 13,
 sc 3 159 144 [(tm 158), (.const (.int .i64 13))],
 sm 4 160 (.bin .xor 35 (tm 157) (tm 159)),
 sv 5 161 13,
 sc 6 162 144 [(tm 161), (.const (.int .i64 22))],
 sm 7 163 (.bin .xor 35 (tm 160) (tm 162)),
 sv 8 164 13,
 sv 9 165 14,
 sm 10 166 (.bin .and 35 (tm 164) (tm 165)),
 sv 11 167 13,
 sv 12 168 15,
 sm 13 169 (.bin .and 35 (tm 167) (tm 168)),
 sm 14 170 (.bin .xor 35 (tm 166) (tm 169)),
 sv 15 171 14,
 sv 16 172 15,
 sm 17 173 (.bin .and 35 (tm 171) (tm 172)),
 sm 18 174 (.bin .xor 35 (tm 170) (tm 173)),
 sm 19 175 (.bin .add 35 (tm 163) (tm 174)),
 sv 20 20 175])
 (.reg [sv 0 176 19,
 sv 1 177 20,
 sm 2 178 (.bin .add 35 (tm 176) (tm 177)),
 sv 3 179 13,
 sv 4 180 14,
 sv 5 181 15,
 sm 6 182 (.ia (.arr 8 1) (tm 11) (.const (.int .i64 3))),
 sm 7 183 (.ld1 (tm 182)),
 sv 8 184 19,
 sm 9 185 (.bin .add 35 (tm 183) (tm 184)),
 sv 10 186 16,
 sv 11 187 17,
 sv 12 188 18,
 sm 13 189 (.bld [.int .u32 0, .int .u32 0, .int .u32 0, .int .u32 0, .int .u32 0, .int .u32 0, .int .u32 0, .int .u32 0] [(0, 1, (tm 178)), (1, 1, (tm 179)), (2, 1, (tm 180)), (3, 1, (tm 181)), (4, 1, (tm 185)), (5, 1, (tm 186)), (6, 1, (tm 187)), (7, 1, (tm 188))]),
 se 14 (.st 8 (tm 11) (tm 189))])))))
 (.reg [sv 0 112 12,
 sm 1 113 (.bin .add 3 (tm 112) (.const (.int .i64 1))),
 sv 2 12 113])))
def l133_3 : Cd := (.seq (.seq (.reg [sv 0 190 21,
 sm 1 191 (.bin .lss 3 (tm 190) (.const (.int .i64 8)))])
 (.cond (tm 191) .skip (.exit 6)))
 (.seq (.block 7 (.reg [sv 0 194 21,
 sm 1 195 (.ia (.arr 8 1) (tm 2) (tm 194)),
 sm 2 196 (.ld1 (tm 195)),
 sv 3 197 21,
 sm 4 198 (.ia (.arr 8 1) (tm 11) (tm 197)),
 sm 5 199 (.ld1 (tm 198)),
 sm 6 200 (.bin .add 35 (tm 196) (tm 199)),
 sm 7 201 (.ia (.arr 8 1) (tm 2) (tm 194)),
 se 8 (.st 1 (tm 201) (tm 200))]))
 (.reg [sv 0 192 21,
 sm 1 193 (.bin .add 3 (tm 192) (.const (.int .i64 1))),
 sv 2 21 193])))
def c133 : Cd := (.seq (.reg [sm 0 2 (.box (tm 0)),
 sm 1 4 (.alloc [.int .u32 0, .int .u32 0, .int .u32 0, .int .u32 0, .int .u32 0, .int .u32 0, .int .u32 0, .int .u32 0])])
 (.seq (.reg [sm 0 5 (.mv (.const (.slice none 0 0)))])
 (.seq (.seq (.reg [sm 0 6 (.mv (.const (.int .i64 0)))])
 (.block 0 (.loop l133_0)))
 (.seq (.seq (.reg [sm 0 7 (.mv (.const (.int .i64 16)))])
 (.block 2 (.loop l133_1)))
 (.seq (.reg [sc 0 108 145 [],
 sv 1 10 108])
 (.seq (.reg [sm 0 109 (.ldA 8 (tm 2)),
 sm 1 11 (.alloc [.int .u32 0, .int .u32 0, .int .u32 0, .int .u32 0, .int .u32 0, .int .u32 0, .int .u32 0, .int .u32 0]),
 se 2 (.st 8 (tm 11) (tm 109))])
 (.seq (.seq (.reg [sm 0 12 (.mv (.const (.int .i64 0)))])
 (.block 4 (.loop l133_2)))
 (.seq (.seq (.reg [sm 0 21 (.mv (.const (.int .i64 0)))])
 (.block 6 (.loop l133_3)))
 (.seq (.reg [sm 0 202 (.ldA 8 (tm 2)),
 se 1 (.st 8 (tm 4) (tm 202))])
 .ret)))))))))
def r133 : List Mo := [.ldA 8 (tm 4)]
theorem c133_eq : compF Tryz.prog 133 = some c133 := by kernel_rfl
theorem r133_eq : compRs Tryz.prog 133 = some r133 := by kernel_rfl
def l135_0 : Cd := (.seq (.reg [sm 0 10 (.bin .lss 3 (tm 9) (.const (.int .i64 64)))])
 (.seq (.cond (tm 10) .skip (.exit 0))
 (.seq (.block 1 (.seq (.reg [sv 0 11 9,
 sv 1 7 11])
 (.seq (.reg [sv 0 12 6,
 ⟨1, (some 13), none, .callV (tm 12) [], [], false⟩])
 (.seq (.reg [sv 0 14 1,
 sv 1 15 7,
 sm 2 16 (.bin .sub 3 (.const (.int .i64 63)) (tm 15)),
 sm 3 17 (.bin .shr 36 (tm 14) (tm 16)),
 sm 4 18 (.bin .and 36 (tm 17) (.const (.int .u64 1))),
 sm 5 19 (.bin .eql 36 (tm 18) (.const (.int .u64 1)))])
 (.cond (tm 19) (.reg [sm 0 20 (.ld1 (tm 5)),
 sv 1 21 0,
 sm 2 22 (.bsl 1 [.int .u32 0] 2 [(0, (tm 20)), (1, (tm 21))]),
 sc 3 23 147 [(.const (.int .u64 1000000007)), (tm 22)],
 se 4 (.st 1 (tm 5) (tm 23))]) .skip)))))
 (.reg [sm 0 24 (.bin .add 3 (tm 9) (.const (.int .i64 1))),
 sv 1 9 24]))))
def c135 : Cd := (.seq (.reg [sm 0 4 (.mv (.const (.int .u32 0)))])
 (.seq (.reg [sm 0 5 (.alloc [.int .u32 0]),
 se 1 (.st 1 (tm 5) (.const (.int .u32 1)))])
 (.seq (.reg [sm 0 8 (.mkF 146 [] [(tm 5)]),
 sv 1 6 8])
 (.seq (.seq (.reg [sm 0 9 (.mv (.const (.int .i64 0)))])
 (.block 0 (.loop l135_0)))
 (.seq (.reg [sm 0 25 (.ld1 (tm 5)),
 sv 1 4 25])
 .ret)))))
def r135 : List Mo := [.mv (tm 4)]
theorem c135_eq : compF Tryz.prog 135 = some c135 := by kernel_rfl
theorem r135_eq : compRs Tryz.prog 135 = some r135 := by kernel_rfl
def c136 : Cd := (.seq (.reg [sm 0 2 (.mv (.const (.bool false)))])
 (.seq (.reg [sv 0 3 0,
 sm 1 4 (.len .str (tm 3)),
 sm 2 5 (.bin .geq 3 (tm 4) (.const (.int .i64 1))),
 sv 3 6 5,
 sg 4 7 6 true (.mv (tm 0)),
 sg 5 8 6 true (.len .str (tm 7)),
 sg 6 9 6 true (.bin .leq 3 (tm 8) (.const (.int .i64 20))),
 sm 7 10 (.pick (tm 6) (tm 9) (.const (.bool false))),
 sv 8 11 10,
 sg 9 12 11 true (.mv (tm 0)),
 ⟨10, (some 13), (some ((some 11), true)), .callF 148 [(tm 12), (.func 149)], [], false⟩,
 sg 11 14 11 true (.bin .lss 3 (tm 13) (.const (.int .i64 0))),
 sm 12 15 (.pick (tm 11) (tm 14) (.const (.bool false))),
 sv 13 2 15])
 .ret))
def r136 : List Mo := [.mv (tm 2)]
theorem c136_eq : compF Tryz.prog 136 = some c136 := by kernel_rfl
theorem r136_eq : compRs Tryz.prog 136 = some r136 := by kernel_rfl
def c137 : Cd := (.seq (.reg [sm 0 1 (.box (tm 0)),
 sm 1 2 (.mv (.const (.int .i64 0)))])
 (.seq (.reg [sm 0 3 (.alloc [.int .u8 0, .int .i64 0, .int .u64 0, .str []])])
 (.seq (.seq (.reg [sm 0 4 (.fa 0 (tm 1)),
 sm 1 5 (.ld1 (tm 4))])
 (.block 0 (.seq (.reg [sm 0 7 (.bin .eql 5 (tm 5) (.const (.int .u8 1))),
 sv 1 6 7])
 (.cond (tm 6) (.reg [sm 0 8 (.fa 1 (tm 1)),
 sm 1 9 (.ld1 (tm 8)),
 sc 2 10 150 [(tm 9)],
 se 3 (.st 4 (tm 3) (tm 10))]) (.seq (.reg [sm 0 12 (.bin .eql 5 (tm 5) (.const (.int .u8 2))),
 sv 1 11 12])
 (.cond (tm 11) (.reg [sm 0 13 (.fa 2 (tm 1)),
 sm 1 14 (.ld1 (tm 13)),
 sc 2 15 151 [(tm 14)],
 se 3 (.st 4 (tm 3) (tm 15))]) (.seq (.reg [sm 0 17 (.bin .eql 5 (tm 5) (.const (.int .u8 3))),
 sv 1 16 17])
 (.cond (tm 16) (.reg [sm 0 19 (.fa 3 (tm 1)),
 sm 1 20 (.ld1 (tm 19)),
 sc 2 21 152 [(tm 20)],
 sv 3 18 21,
 sm 4 22 (.ext (tm 18) 0),
 sm 5 23 (.ext (tm 18) 1),
 se 6 (.st 4 (tm 3) (tm 22))]) .skip))))))))
 (.seq (.seq (.reg [sm 0 24 (.ldA 4 (tm 1)),
 sm 1 25 (.ldA 4 (tm 3)),
 sm 2 26 (.bin .neq 38 (tm 24) (tm 25)),
 sv 3 27 26,
 sg 4 28 27 false (.fa 0 (tm 1)),
 sg 5 29 27 false (.ld1 (tm 28)),
 sg 6 30 27 false (.bin .eql 5 (tm 29) (.const (.int .u8 0))),
 sm 7 31 (.pick (tm 27) (.const (.bool true)) (tm 30))])
 (.cond (tm 31) (.seq (.reg [sm 0 2 (.mv (.const (.int .i64 8)))])
 .ret) .skip))
 (.seq (.reg [sm 0 2 (.mv (.const (.int .i64 0)))])
 .ret)))))
def r137 : List Mo := [.mv (tm 2)]
theorem c137_eq : compF Tryz.prog 137 = some c137 := by kernel_rfl
theorem r137_eq : compRs Tryz.prog 137 = some r137 := by kernel_rfl
def c138 : Cd := (.seq (.reg [sm 0 1 (.box (tm 0)),
 sm 1 2 (.mv (.const (.bool false)))])
 (.seq (.reg [sm 0 3 (.alloc [.int .i64 0]),
 se 1 (.st 1 (tm 3) (.const (.int .i64 0)))])
 (.seq (.reg [sm 0 4 (.ld1 (tm 1)),
 sm 1 5 (.mkF 154 [] [(tm 3), (tm 1)]),
 sc 2 6 153 [(tm 4), (tm 5)],
 sm 3 7 (.un .not (tm 6)),
 sv 4 2 7])
 .ret)))
def r138 : List Mo := [.mv (tm 2)]
theorem c138_eq : compF Tryz.prog 138 = some c138 := by kernel_rfl
theorem r138_eq : compRs Tryz.prog 138 = some r138 := by kernel_rfl
def c139 : Cd := (.seq (.reg [sm 0 2 (.mv (.const (.slice none 0 0)))])
 (.seq (.reg [sv 0 3 0,
 sm 1 4 (.cint .u64 (tm 3)),
 sm 2 5 (.bin .shl 36 (tm 4) (.const (.int .u64 1))),
 sv 3 6 0,
 sm 4 7 (.bin .shr 2 (tm 6) (.const (.int .u64 63))),
 sm 5 8 (.cint .u64 (tm 7)),
 sm 6 9 (.bin .xor 36 (tm 5) (tm 8)),
 sc 7 10 90 [(tm 9)],
 sv 8 2 10])
 .ret))
def r139 : List Mo := [.mv (tm 2)]
theorem c139_eq : compF Tryz.prog 139 = some c139 := by kernel_rfl
theorem r139_eq : compRs Tryz.prog 139 = some r139 := by kernel_rfl
def l140_0 : Cd := (.seq (.reg [sm 0 9 (.bin .lss 3 (tm 8) (tm 7))])
 (.seq (.cond (tm 9) .skip (.exit 0))
 (.seq (.block 1 (.seq (.reg [sv 0 10 8,
 sv 1 5 10])
 (.seq (.reg [sv 0 11 1,
 sv 1 12 0,
 sv 2 13 5,
 sm 3 14 (.ia (.sl 1) (tm 12) (tm 13)),
 sm 4 15 (.ld1 (tm 14)),
 ⟨5, (some 16), none, .callV (tm 11) [(tm 15)], [], false⟩])
 (.cond (tm 16) (.seq (.reg [sv 0 17 5,
 sv 1 4 17])
 .ret) .skip))))
 (.reg [sm 0 18 (.bin .add 3 (tm 8) (.const (.int .i64 1))),
 sv 1 8 18]))))
def c140 : Cd := (.seq (.reg [sm 0 4 (.mv (.const (.int .i64 0)))])
 (.seq (.seq (.reg [sv 0 6 0,
 sm 1 7 (.len (.sl 1) (tm 6)),
 sm 2 8 (.mv (.const (.int .i64 0)))])
 (.block 0 (.loop l140_0)))
 (.seq (.reg [sm 0 4 (.mv (.const (.int .i64 (-1))))])
 .ret)))
def r140 : List Mo := [.mv (tm 4)]
theorem c140_eq : compF Tryz.prog 140 = some c140 := by kernel_rfl
theorem r140_eq : compRs Tryz.prog 140 = some r140 := by kernel_rfl
def l141_0 : Cd := (.seq (.reg [sm 0 53 (.bin .lss 3 (tm 52) (.const (.int .i64 64)))])
 (.seq (.cond (tm 53) .skip (.exit 0))
 (.seq (.block 1 (.seq (.reg [sv 0 54 52,
 sv 1 13 54])
 (.seq (.dreg [sv 0 55 12,
 sv 1 56 9,
 sv 4 59 9,
 sv 5 60 10,
 sm 6 61 (.bin .and 35 (tm 59) (tm 60)),
 sv 7 62 9,
 sm 8 63 (.un .xor (tm 62)),
 sv 9 64 11,
 sm 10 65 (.bin .and 35 (tm 63) (tm 64)),
 sm 11 66 (.bin .xor 35 (tm 61) (tm 65)),
 sv 13 68 13,
 sm 14 69 (.ia (.arr 64 1) (.global 1) (tm 68)),
 ⟨15, (some 70), none, .mo (.ld1 (tm 69)), [], true⟩,
 sv 17 72 13,
 sm 18 73 (.ia (.arr 64 1) (tm 4) (tm 72)),
 ⟨19, (some 74), none, .mo (.ld1 (tm 73)), [], true⟩,
 ⟨2, (some 57), none, .callF 156 [(tm 56), (.const (.int .i64 6)), (.const (.int .i64 11)), (.const (.int .i64 25))], [19, 15], false⟩,
 sm 3 58 (.bin .add 35 (tm 55) (tm 57)),
 sm 12 67 (.bin .add 35 (tm 58) (tm 66)),
 sm 16 71 (.bin .add 35 (tm 67) (tm 70)),
 sm 20 75 (.bin .add 35 (tm 71) (tm 74)),
 sv 21 14 75])
 (.seq (.reg [sv 0 76 5,
 sc 1 77 156 [(tm 76), (.const (.int .i64 2)), (.const (.int .i64 13)), (.const (.int .i64 22))],
 sv 2 78 5,
 sv 3 79 6,
 sm 4 80 (.bin .and 35 (tm 78) (tm 79)),
 sv 5 81 5,
 sv 6 82 7,
 sm 7 83 (.bin .and 35 (tm 81) (tm 82)),
 sm 8 84 (.bin .xor 35 (tm 80) (tm 83)),
 sv 9 85 6,
 sv 10 86 7,
 sm 11 87 (.bin .and 35 (tm 85) (tm 86)),
 sm 12 88 (.bin .xor 35 (tm 84) (tm 87)),
 sm 13 89 (.bin .add 35 (tm 77) (tm 88)),
 sv 14 15 89])
 (.reg [sv 0 90 14,
 sv 1 91 15,
 sm 2 92 (.bin .add 35 (tm 90) (tm 91)),
 sv 3 93 5,
 sv 4 94 6,
 sv 5 95 7,
 sv 6 96 8,
 sv 7 97 14,
 sm 8 98 (.bin .add 35 (tm 96) (tm 97)),
 sv 9 99 9,
 sv 10 100 10,
 sv 11 101 11,
 sv 12 5 92,
 sv 13 6 93,
 sv 14 7 94,
 sv 15 8 95,
 sv 16 9 98,
 sv 17 10 99,
 sv 18 11 100,
 sv 19 12 101])))))
 (.reg [sm 0 102 (.bin .add 3 (tm 52) (.const (.int .i64 1))),
 sv 1 52 102]))))
def l141_1 : Cd := (.seq (.reg [sm 0 113 (.bin .lss 3 (tm 112) (.const (.int .i64 8)))])
 (.seq (.cond (tm 113) .skip (.exit 2))
 (.seq (.block 3 (.seq (.reg [sv 0 114 112,
 sm 1 115 (.ix1 8 1 (tm 111) (tm 112)),
 sv 2 16 114,
 sv 3 17 115])
 (.reg [sv 0 116 0,
 sv 1 117 16,
 sm 2 118 (.nilc (tm 116)),
 sm 3 119 (.ia (.arr 8 1) (tm 118) (tm 117)),
 sm 4 120 (.ld1 (tm 119)),
 sv 5 121 17,
 sm 6 122 (.bin .add 35 (tm 120) (tm 121)),
 sm 7 123 (.nilc (tm 116)),
 sm 8 124 (.ia (.arr 8 1) (tm 123) (tm 117)),
 se 9 (.st 1 (tm 124) (tm 122))])))
 (.reg [sm 0 125 (.bin .add 3 (tm 112) (.const (.int .i64 1))),
 sv 1 112 125]))))
def c141 : Cd := (.seq (.reg [sv 0 18 1,
 sc 1 19 155 [(tm 18)],
 sm 2 4 (.alloc (rep 64 (.int .u32 0))),
 se 3 (.st 64 (tm 4) (tm 19))])
 (.seq (.reg [sv 0 20 0,
 sm 1 21 (.nilc (tm 20)),
 sm 2 22 (.ia (.arr 8 1) (tm 21) (.const (.int .i64 0))),
 sm 3 23 (.ld1 (tm 22)),
 sv 4 24 0,
 sm 5 25 (.nilc (tm 24)),
 sm 6 26 (.ia (.arr 8 1) (tm 25) (.const (.int .i64 1))),
 sm 7 27 (.ld1 (tm 26)),
 sv 8 28 0,
 sm 9 29 (.nilc (tm 28)),
 sm 10 30 (.ia (.arr 8 1) (tm 29) (.const (.int .i64 2))),
 sm 11 31 (.ld1 (tm 30)),
 sv 12 32 0,
 sm 13 33 (.nilc (tm 32)),
 sm 14 34 (.ia (.arr 8 1) (tm 33) (.const (.int .i64 3))),
 sm 15 35 (.ld1 (tm 34)),
 sv 16 36 0,
 sm 17 37 (.nilc (tm 36)),
 sm 18 38 (.ia (.arr 8 1) (tm 37) (.const (.int .i64 4))),
 sm 19 39 (.ld1 (tm 38)),
 sv 20 40 0,
 sm 21 41 (.nilc (tm 40)),
 sm 22 42 (.ia (.arr 8 1) (tm 41) (.const (.int .i64 5))),
 sm 23 43 (.ld1 (tm 42)),
 sv 24 44 0,
 sm 25 45 (.nilc (tm 44)),
 sm 26 46 (.ia (.arr 8 1) (tm 45) (.const (.int .i64 6))),
 sm 27 47 (.ld1 (tm 46)),
 sv 28 48 0,
 sm 29 49 (.nilc (tm 48)),
 sm 30 50 (.ia (.arr 8 1) (tm 49) (.const (.int .i64 7))),
 sm 31 51 (.ld1 (tm 50)),
 sv 32 5 23,
 sv 33 6 27,
 sv 34 7 31,
 sv 35 8 35,
 sv 36 9 39,
 sv 37 10 43,
 sv 38 11 47,
 sv 39 12 51])
 (.seq (.seq (.reg [sm 0 52 (.mv (.const (.int .i64 0)))])
 (.block 0 (.loop l141_0)))
 (.seq (.reg [sv 0 103 5,
 sv 1 104 6,
 sv 2 105 7,
 sv 3 106 8,
 sv 4 107 9,
 sv 5 108 10,
 sv 6 109 11,
 sv 7 110 12,
 sm 8 111 (.bld [.int .u32 0, .int .u32 0, .int .u32 0, .int .u32 0, .int .u32 0, .int .u32 0, .int .u32 0, .int .u32 0] [(0, 1, (tm 103)), (1, 1, (tm 104)), (2, 1, (tm 105)), (3, 1, (tm 106)), (4, 1, (tm 107)), (5, 1, (tm 108)), (6, 1, (tm 109)), (7, 1, (tm 110))]),
 sm 9 112 (.mv (.const (.int .i64 0)))])
 (.block 2 (.loop l141_1))))))
def r141 : List Mo := []
theorem c141_eq : compF Tryz.prog 141 = some c141 := by kernel_rfl
theorem r141_eq : compRs Tryz.prog 141 = some r141 := by kernel_rfl
def c142 : Cd := (.seq (.reg [sm 0 2 (.mv (.const (.slice none 0 0)))])
 (.seq (.seq (.reg [sv 0 3 0,
 sm 1 4 (.bin .eql 101 (tm 3) (.const (.slice none 0 0)))])
 (.cond (tm 4) (.seq (.reg [sm 0 2 (.mv (.const (.slice none 0 0)))])
 .ret) .skip))
 (.seq (.reg [sm 0 5 (.bsl 1 [.int .u8 0] 0 []),
 sv 1 6 0,
 sm 2 7 (.app 1 1 (tm 5) (tm 6)),
 sv 3 2 7])
 .ret)))
def r142 : List Mo := [.mv (tm 2)]
theorem c142_eq : compF Tryz.prog 142 = some c142 := by kernel_rfl
theorem r142_eq : compRs Tryz.prog 142 = some r142 := by kernel_rfl
def c143 : Cd := (.seq (.reg [sm 0 2 (.mv (.const (.int .u8 0)))])
 (.seq (.reg [sv 0 5 0,
 sc 1 6 157 [(tm 5)],
 sv 2 7 0,
 sc 3 8 158 [(tm 7)],
 sv 4 3 6,
 sv 5 4 8])
 (.seq (.seq (.reg [sv 0 9 3,
 sm 1 10 (.bin .eql 3 (tm 9) (.const (.int .i64 0))),
 sv 2 11 10,
 sg 3 12 11 true (.mv (tm 4)),
 sg 4 13 11 true (.bin .eql 36 (tm 12) (.const (.int .u64 0))),
 sm 5 14 (.pick (tm 11) (tm 13) (.const (.bool false)))])
 (.cond (tm 14) (.seq (.reg [sm 0 2 (.mv (.const (.int .u8 1)))])
 .ret) .skip))
 (.seq (.seq (.reg [sv 0 15 3,
 sm 1 16 (.bin .eql 3 (tm 15) (.const (.int .i64 0)))])
 (.cond (tm 16) (.seq (.reg [sm 0 2 (.mv (.const (.int .u8 2)))])
 .ret) .skip))
 (.seq (.seq (.reg [sv 0 17 3,
 sm 1 18 (.bin .lss 3 (tm 17) (.const (.int .i64 2047)))])
 (.cond (tm 18) (.seq (.reg [sm 0 2 (.mv (.const (.int .u8 3)))])
 .ret) .skip))
 (.seq (.seq (.reg [sv 0 19 4,
 sm 1 20 (.bin .eql 36 (tm 19) (.const (.int .u64 0)))])
 (.cond (tm 20) (.seq (.reg [sm 0 2 (.mv (.const (.int .u8 4)))])
 .ret) .skip))
 (.seq (.reg [sm 0 2 (.mv (.const (.int .u8 5)))])
 .ret)))))))
def r143 : List Mo := [.mv (tm 2)]
theorem c143_eq : compF Tryz.prog 143 = some c143 := by kernel_rfl
theorem r143_eq : compRs Tryz.prog 143 = some r143 := by kernel_rfl
def c144 : Cd := (.seq (.reg [sm 0 4 (.mv (.const (.int .u32 0)))])
 (.seq (.reg [sv 0 5 0,
 sv 1 6 1,
 sm 2 7 (.bin .shr 35 (tm 5) (tm 6)),
 sv 3 8 0,
 sv 4 9 1,
 sm 5 10 (.bin .sub 3 (.const (.int .i64 32)) (tm 9)),
 sm 6 11 (.bin .shl 35 (tm 8) (tm 10)),
 sm 7 12 (.bin .or 35 (tm 7) (tm 11)),
 sv 8 4 12])
 .ret))
def r144 : List Mo := [.mv (tm 4)]
theorem c144_eq : compF Tryz.prog 144 = some c144 := by kernel_rfl
theorem r144_eq : compRs Tryz.prog 144 = some r144 := by kernel_rfl
def c145 : Cd := (.seq (.reg [sm 0 0 (.mv (.const (.slice none 0 0)))])
 (.seq (.reg [sm 0 1 (.bsl 1 [.int .u32 0] 64 [(0, (.const (.int .u32 1116352408))), (1, (.const (.int .u32 1899447441))), (2, (.const (.int .u32 3049323471))), (3, (.const (.int .u32 3921009573))), (4, (.const (.int .u32 961987163))), (5, (.const (.int .u32 1508970993))), (6, (.const (.int .u32 2453635748))), (7, (.const (.int .u32 2870763221))), (8, (.const (.int .u32 3624381080))), (9, (.const (.int .u32 310598401))), (10, (.const (.int .u32 607225278))), (11, (.const (.int .u32 1426881987))), (12, (.const (.int .u32 1925078388))), (13, (.const (.int .u32 2162078206))), (14, (.const (.int .u32 2614888103))), (15, (.const (.int .u32 3248222580))), (16, (.const (.int .u32 3835390401))), (17, (.const (.int .u32 4022224774))), (18, (.const (.int .u32 264347078))), (19, (.const (.int .u32 604807628))), (20, (.const (.int .u32 770255983))), (21, (.const (.int .u32 1249150122))), (22, (.const (.int .u32 1555081692))), (23, (.const (.int .u32 1996064986))), (24, (.const (.int .u32 2554220882))), (25, (.const (.int .u32 2821834349))), (26, (.const (.int .u32 2952996808))), (27, (.const (.int .u32 3210313671))), (28, (.const (.int .u32 3336571891))), (29, (.const (.int .u32 3584528711))), (30, (.const (.int .u32 113926993))), (31, (.const (.int .u32 338241895))), (32, (.const (.int .u32 666307205))), (33, (.const (.int .u32 773529912))), (34, (.const (.int .u32 1294757372))), (35, (.const (.int .u32 1396182291))), (36, (.const (.int .u32 1695183700))), (37, (.const (.int .u32 1986661051))), (38, (.const (.int .u32 2177026350))), (39, (.const (.int .u32 2456956037))), (40, (.const (.int .u32 2730485921))), (41, (.const (.int .u32 2820302411))), (42, (.const (.int .u32 3259730800))), (43, (.const (.int .u32 3345764771))), (44, (.const (.int .u32 3516065817))), (45, (.const (.int .u32 3600352804))), (46, (.const (.int .u32 4094571909))), (47, (.const (.int .u32 275423344))), (48, (.const (.int .u32 430227734))), (49, (.const (.int .u32 506948616))), (50, (.const (.int .u32 659060556))), (51, (.const (.int .u32 883997877))), (52, (.const (.int .u32 958139571))), (53, (.const (.int .u32 1322822218))), (54, (.const (.int .u32 1537002063))), (55, (.const (.int .u32 1747873779))), (56, (.const (.int .u32 1955562222))), (57, (.const (.int .u32 2024104815))), (58, (.const (.int .u32 2227730452))), (59, (.const (.int .u32 2361852424))), (60, (.const (.int .u32 2428436474))), (61, (.const (.int .u32 2756734187))), (62, (.const (.int .u32 3204031479))), (63, (.const (.int .u32 3329325298)))]),
 sv 1 0 1])
 .ret))
def r145 : List Mo := [.mv (tm 0)]
theorem c145_eq : compF Tryz.prog 145 = some c145 := by kernel_rfl
theorem r145_eq : compRs Tryz.prog 145 = some r145 := by kernel_rfl
def c146 : Cd := (.reg [sm 0 1 (.ld1 (tm 0)),
 sm 1 2 (.ld1 (tm 0)),
 sm 2 3 (.bsl 1 [.int .u32 0] 2 [(0, (tm 1)), (1, (tm 2))]),
 sc 3 4 147 [(.const (.int .u64 1000000007)), (tm 3)],
 se 4 (.st 1 (tm 0) (tm 4))])
def r146 : List Mo := []
theorem c146_eq : compF Tryz.prog 146 = some c146 := by kernel_rfl
theorem r146_eq : compRs Tryz.prog 146 = some r146 := by kernel_rfl
def l147_0 : Cd := (.seq (.reg [sm 0 11 (.bin .lss 3 (tm 10) (tm 9))])
 (.seq (.cond (tm 11) .skip (.exit 0))
 (.seq (.block 1 (.seq (.reg [sm 0 12 (.ia (.sl 1) (tm 8) (tm 10)),
 sm 1 13 (.ld1 (tm 12)),
 sv 2 7 13])
 (.reg [sv 0 14 5,
 sv 1 15 7,
 sm 2 16 (.cint .u64 (tm 15)),
 sm 3 17 (.bin .mul 36 (tm 14) (tm 16)),
 sv 4 18 0,
 sm 5 19 (.bin .rem 36 (tm 17) (tm 18)),
 sv 6 5 19])))
 (.reg [sm 0 20 (.bin .add 3 (tm 10) (.const (.int .i64 1))),
 sv 1 10 20]))))
def c147 : Cd := (.seq (.reg [sm 0 4 (.mv (.const (.int .u32 0)))])
 (.seq (.reg [sm 0 5 (.mv (.const (.int .u64 1)))])
 (.seq (.seq (.reg [sv 0 8 1,
 sm 1 9 (.len (.sl 1) (tm 8)),
 sm 2 10 (.mv (.const (.int .i64 0)))])
 (.block 0 (.loop l147_0)))
 (.seq (.reg [sv 0 21 5,
 sm 1 22 (.cint .u32 (tm 21)),
 sv 2 4 22])
 .ret))))
def r147 : List Mo := [.mv (tm 4)]
theorem c147_eq : compF Tryz.prog 147 = some c147 := by kernel_rfl
theorem r147_eq : compRs Tryz.prog 147 = some r147 := by kernel_rfl
def c148 : Cd := (.seq (.reg [sm 0 4 (.mv (.const (.int .i64 0)))])
 (.seq (.reg [sv 0 5 0,
 sv 1 6 1,
 sc 2 7 159 [(tm 5), (tm 6), (.const (.bool true))],
 sv 3 4 7])
 .ret))
def r148 : List Mo := [.mv (tm 4)]
theorem c148_eq : compF Tryz.prog 148 = some c148 := by kernel_rfl
theorem r148_eq : compRs Tryz.prog 148 = some r148 := by kernel_rfl
def c149 : Cd := (.seq (.reg [sm 0 2 (.mv (.const (.bool false)))])
 (.seq (.reg [sv 0 3 0,
 sm 1 4 (.bin .lss 21 (tm 3) (.const (.int .i32 33))),
 sv 2 5 4,
 sg 3 6 5 false (.mv (tm 0)),
 sg 4 7 5 false (.bin .gtr 21 (tm 6) (.const (.int .i32 126))),
 sm 5 8 (.pick (tm 5) (.const (.bool true)) (tm 7)),
 sv 6 2 8])
 .ret))
def r149 : List Mo := [.mv (tm 2)]
theorem c149_eq : compF Tryz.prog 149 = some c149 := by kernel_rfl
theorem r149_eq : compRs Tryz.prog 149 = some r149 := by kernel_rfl
def c150 : Cd := (.seq (.reg [sm 0 2 (.alloc [.int .u8 0, .int .i64 0, .int .u64 0, .str []])])
 (.seq (.reg [sv 0 3 0,
 sm 1 4 (.bld [.int .u8 0, .int .i64 0, .int .u64 0, .str []] [(0, 1, (.const (.int .u8 1))), (1, 1, (tm 3))]),
 se 2 (.st 4 (tm 2) (tm 4))])
 .ret))
def r150 : List Mo := [.ldA 4 (tm 2)]
theorem c150_eq : compF Tryz.prog 150 = some c150 := by kernel_rfl
theorem r150_eq : compRs Tryz.prog 150 = some r150 := by kernel_rfl
def c151 : Cd := (.seq (.reg [sm 0 2 (.alloc [.int .u8 0, .int .i64 0, .int .u64 0, .str []])])
 (.seq (.reg [sv 0 3 0,
 sc 1 4 160 [(tm 3)],
 sm 2 5 (.bld [.int .u8 0, .int .i64 0, .int .u64 0, .str []] [(0, 1, (.const (.int .u8 2))), (2, 1, (tm 4))]),
 se 3 (.st 4 (tm 2) (tm 5))])
 .ret))
def r151 : List Mo := [.ldA 4 (tm 2)]
theorem c151_eq : compF Tryz.prog 151 = some c151 := by kernel_rfl
theorem r151_eq : compRs Tryz.prog 151 = some r151 := by kernel_rfl
def c152 : Cd := (.seq (.reg [sm 0 2 (.alloc [.int .u8 0, .int .i64 0, .int .u64 0, .str []]),
 sm 1 3 (.mv (.const (.int .i64 0)))])
 (.seq (.seq (.reg [sv 0 4 0,
 sm 1 5 (.len .str (tm 4)),
 sm 2 6 (.bin .gtr 3 (tm 5) (.const (.int .i64 30)))])
 (.cond (tm 6) (.seq (.reg [sm 0 7 (.bld [.int .u8 0, .int .i64 0, .int .u64 0, .str []] []),
 se 1 (.st 4 (tm 2) (tm 7)),
 sm 2 3 (.mv (.const (.int .i64 4)))])
 .ret) .skip))
 (.seq (.seq (.reg [sv 0 8 0,
 sc 1 9 148 [(tm 8), (.func 161)],
 sm 2 10 (.bin .geq 3 (tm 9) (.const (.int .i64 0)))])
 (.cond (tm 10) (.seq (.reg [sm 0 11 (.bld [.int .u8 0, .int .i64 0, .int .u64 0, .str []] []),
 se 1 (.st 4 (tm 2) (tm 11)),
 sm 2 3 (.mv (.const (.int .i64 8)))])
 .ret) .skip))
 (.seq (.reg [sv 0 12 0,
 sm 1 13 (.bld [.int .u8 0, .int .i64 0, .int .u64 0, .str []] [(0, 1, (.const (.int .u8 3))), (3, 1, (tm 12))]),
 se 2 (.st 4 (tm 2) (tm 13)),
 sm 3 3 (.mv (.const (.int .i64 0)))])
 .ret))))
def r152 : List Mo := [.ldA 4 (tm 2), .mv (tm 3)]
theorem c152_eq : compF Tryz.prog 152 = some c152 := by kernel_rfl
theorem r152_eq : compRs Tryz.prog 152 = some r152 := by kernel_rfl
def c153 : Cd := (.seq (.reg [sm 0 4 (.mv (.const (.bool false)))])
 (.seq (.reg [sv 0 5 0,
 sv 1 6 1,
 sc 2 7 53 [(tm 5), (tm 6)],
 sm 3 8 (.bin .geq 3 (tm 7) (.const (.int .i64 0))),
 sv 4 4 8])
 .ret))
def r153 : List Mo := [.mv (tm 4)]
theorem c153_eq : compF Tryz.prog 153 = some c153 := by kernel_rfl
theorem r153_eq : compRs Tryz.prog 153 = some r153 := by kernel_rfl
def c154 : Cd := (.seq (.reg [sm 0 3 (.box (tm 0)),
 sm 1 4 (.mv (.const (.bool false)))])
 (.seq (.reg [sm 0 5 (.ld1 (tm 1)),
 sm 1 6 (.bin .add 3 (tm 5) (.const (.int .i64 1))),
 se 2 (.st 1 (tm 1) (tm 6))])
 (.seq (.reg [sm 0 7 (.ld1 (tm 1)),
 sm 1 8 (.ld1 (tm 2)),
 sm 2 9 (.len (.sl 32) (tm 8)),
 sm 3 10 (.bin .lss 3 (tm 7) (tm 9)),
 sv 4 11 10,
 sg 5 12 11 true (.ld1 (tm 2)),
 sg 6 13 11 true (.ld1 (tm 1)),
 sg 7 14 11 true (.bin .sub 3 (tm 13) (.const (.int .i64 1))),
 sg 8 15 11 true (.ia (.sl 32) (tm 12) (tm 14)),
 sg 9 16 11 true (.ldA 32 (tm 15)),
 sg 10 17 11 true (.ld1 (tm 2)),
 sg 11 18 11 true (.ld1 (tm 1)),
 sg 12 19 11 true (.ia (.sl 32) (tm 17) (tm 18)),
 sg 13 20 11 true (.ldA 32 (tm 19)),
 ⟨14, (some 21), (some ((some 11), true)), .callF 115 [(tm 16), (tm 20)], [], false⟩,
 sg 15 22 11 true (.bin .geq 3 (tm 21) (.const (.int .i64 0))),
 sm 16 23 (.pick (tm 11) (tm 22) (.const (.bool false))),
 sv 17 4 23])
 .ret)))
def r154 : List Mo := [.mv (tm 4)]
theorem c154_eq : compF Tryz.prog 154 = some c154 := by kernel_rfl
theorem r154_eq : compRs Tryz.prog 154 = some r154 := by kernel_rfl
def l155_0 : Cd := (.seq (.reg [sm 0 14 (.bin .lss 3 (tm 13) (tm 12))])
 (.seq (.cond (tm 14) .skip (.exit 0))
 (.seq (.block 1 (.seq (.reg [sv 0 15 13,
 sm 1 16 (.ia (.sl 1) (tm 11) (tm 13)),
 sm 2 17 (.ld1 (tm 16)),
 sv 3 3 15,
 sv 4 4 17])
 (.reg [sv 0 18 3,
 sm 1 19 (.bin .quo 3 (tm 18) (.const (.int .i64 4))),
 sv 2 20 3,
 sm 3 21 (.bin .quo 3 (tm 20) (.const (.int .i64 4))),
 sm 4 22 (.ia (.arr 64 1) (tm 2) (tm 21)),
 sm 5 23 (.ld1 (tm 22)),
 sm 6 24 (.bin .shl 35 (tm 23) (.const (.int .u64 8))),
 sv 7 25 4,
 sm 8 26 (.cint .u32 (tm 25)),
 sm 9 27 (.bin .or 35 (tm 24) (tm 26)),
 sm 10 28 (.ia (.arr 64 1) (tm 2) (tm 19)),
 se 11 (.st 1 (tm 28) (tm 27))])))
 (.reg [sm 0 29 (.bin .add 3 (tm 13) (.const (.int .i64 1))),
 sv 1 13 29]))))
def l155_1 : Cd := (.seq (.seq (.reg [sv 0 30 5,
 sm 1 31 (.bin .lss 3 (tm 30) (.const (.int .i64 64)))])
 (.cond (tm 31) .skip (.exit 2)))
 (.seq (.block 3 (.seq (.reg [sv 0 34 5,
 sm 1 35 (.bin .sub 3 (tm 34) (.const (.int .i64 15))),
 sm 2 36 (.ia (.arr 64 1) (tm 2) (tm 35)),
 sm 3 37 (.ld1 (tm 36)),
 sv 4 38 5,
 sm 5 39 (.bin .sub 3 (tm 38) (.const (.int .i64 2))),
 sm 6 40 (.ia (.arr 64 1) (tm 2) (tm 39)),
 sm 7 41 (.ld1 (tm 40)),
 sv 8 6 37,
 sv 9 7 41])
 (.seq (.reg [sv 0 42 6,
 sc 1 43 162 [(tm 42), (.const (.int .i64 (-7)))],
 sv 2 44 6,
 sc 3 45 162 [(tm 44), (.const (.int .i64 (-18)))],
 sm 4 46 (.bin .xor 35 (tm 43) (tm 45)),
 sv 5 47 6,
 sm 6 48 (.bin .shr 35 (tm 47) (.const (.int .u64 3))),
 sm 7 49 (.bin .xor 35 (tm 46) (tm 48)),
 sv 8 8 49])
 (.seq (.reg [sv 0 50 7,
 sc 1 51 162 [(tm 50), (.const (.int .i64 (-17)))],
 sv 2 52 7,
 sc 3 53 162 [(tm 52), (.const (.int .i64 (-19)))],
 sm 4 54 (.bin .xor 35 (tm 51) (tm 53)),
 sv 5 55 7,
 sm 6 56 (.bin .shr 35 (tm 55) (.const (.int .u64 10))),
 sm 7 57 (.bin .xor 35 (tm 54) (tm 56)),
 sv 8 9 57])
 (.reg [sv 0 58 5,
 sv 1 59 5,
 sm 2 60 (.bin .sub 3 (tm 59) (.const (.int .i64 16))),
 sm 3 61 (.ia (.arr 64 1) (tm 2) (tm 60)),
 sm 4 62 (.ld1 (tm 61)),
 sv 5 63 5,
 sm 6 64 (.bin .sub 3 (tm 63) (.const (.int .i64 7))),
 sm 7 65 (.ia (.arr 64 1) (tm 2) (tm 64)),
 sm 8 66 (.ld1 (tm 65)),
 sm 9 67 (.bin .add 35 (tm 62) (tm 66)),
 sv 10 68 8,
 sm 11 69 (.bin .add 35 (tm 67) (tm 68)),
 sv 12 70 9,
 sm 13 71 (.bin .add 35 (tm 69) (tm 70)),
 sm 14 72 (.ia (.arr 64 1) (tm 2) (tm 58)),
 se 15 (.st 1 (tm 72) (tm 71))])))))
 (.reg [sv 0 32 5,
 sm 1 33 (.bin .add 3 (tm 32) (.const (.int .i64 1))),
 sv 2 5 33])))
def c155 : Cd := (.seq (.reg [sm 0 2 (.alloc (rep 64 (.int .u32 0)))])
 (.seq (.seq (.reg [sv 0 10 0,
 sm 1 11 (.slice (.sl 1) (tm 10) none (some (.const (.int .i64 64))) none),
 sm 2 12 (.len (.sl 1) (tm 11)),
 sm 3 13 (.mv (.const (.int .i64 0)))])
 (.block 0 (.loop l155_0)))
 (.seq (.seq (.reg [sm 0 5 (.mv (.const (.int .i64 16)))])
 (.block 2 (.loop l155_1)))
 (.seq (.reg [sm 0 73 (.ldA 64 (tm 2)),
 se 1 (.st 64 (tm 2) (tm 73))])
 .ret))))
def r155 : List Mo := [.ldA 64 (tm 2)]
theorem c155_eq : compF Tryz.prog 155 = some c155 := by kernel_rfl
theorem r155_eq : compRs Tryz.prog 155 = some r155 := by kernel_rfl
def c156 : Cd := (.seq (.reg [sm 0 8 (.mv (.const (.int .u32 0)))])
 (.seq (.reg [sv 0 9 0,
 sv 1 10 1,
 sm 2 11 (.un .neg (tm 10)),
 sc 3 12 162 [(tm 9), (tm 11)],
 sv 4 13 0,
 sv 5 14 2,
 sm 6 15 (.un .neg (tm 14)),
 sc 7 16 162 [(tm 13), (tm 15)],
 sm 8 17 (.bin .xor 35 (tm 12) (tm 16)),
 sv 9 18 0,
 sv 10 19 3,
 sm 11 20 (.un .neg (tm 19)),
 sc 12 21 162 [(tm 18), (tm 20)],
 sm 13 22 (.bin .xor 35 (tm 17) (tm 21)),
 sv 14 8 22])
 .ret))
def r156 : List Mo := [.mv (tm 8)]
theorem c156_eq : compF Tryz.prog 156 = some c156 := by kernel_rfl
theorem r156_eq : compRs Tryz.prog 156 = some r156 := by kernel_rfl
def c157 : Cd := (.seq (.reg [sm 0 2 (.mv (.const (.int .i64 0)))])
 (.seq (.reg [sv 0 3 0,
 sm 1 4 (.bin .rem 36 (tm 3) (.const (.int .u64 9223372036854775808))),
 sm 2 5 (.bin .quo 36 (tm 4) (.const (.int .u64 4503599627370496))),
 sm 3 6 (.cint .i64 (tm 5)),
 sv 4 2 6])
 .ret))
def r157 : List Mo := [.mv (tm 2)]
theorem c157_eq : compF Tryz.prog 157 = some c157 := by kernel_rfl
theorem r157_eq : compRs Tryz.prog 157 = some r157 := by kernel_rfl
def c158 : Cd := (.seq (.reg [sm 0 2 (.mv (.const (.int .u64 0)))])
 (.seq (.reg [sv 0 3 0,
 sm 1 4 (.bin .rem 36 (tm 3) (.const (.int .u64 4503599627370496))),
 sv 2 2 4])
 .ret))
def r158 : List Mo := [.mv (tm 2)]
theorem c158_eq : compF Tryz.prog 158 = some c158 := by kernel_rfl
theorem r158_eq : compRs Tryz.prog 158 = some r158 := by kernel_rfl
def l159_0 : Cd := (.seq (.reg [sm 0 11 (.nxtS (tm 10)),
 sm 1 12 (.ext (tm 11) 0)])
 (.seq (.cond (tm 12) .skip (.exit 0))
 (.block 1 (.seq (.reg [sm 0 13 (.ext (tm 11) 1),
 sm 1 14 (.ext (tm 11) 2),
 sv 2 7 13,
 sv 3 8 14])
 (.seq (.reg [sv 0 15 1,
 sv 1 16 8,
 ⟨2, (some 17), none, .callV (tm 15) [(tm 16)], [], false⟩,
 sv 3 18 2,
 sm 4 19 (.bin .eql 4 (tm 17) (tm 18))])
 (.cond (tm 19) (.seq (.reg [sv 0 20 7,
 sv 1 6 20])
 .ret) .skip))))))
def c159 : Cd := (.seq (.reg [sm 0 6 (.mv (.const (.int .i64 0)))])
 (.seq (.seq (.reg [sv 0 9 0,
 sm 1 10 (.rngS (tm 9))])
 (.block 0 (.loop l159_0)))
 (.seq (.reg [sm 0 6 (.mv (.const (.int .i64 (-1))))])
 .ret)))
def r159 : List Mo := [.mv (tm 6)]
theorem c159_eq : compF Tryz.prog 159 = some c159 := by kernel_rfl
theorem r159_eq : compRs Tryz.prog 159 = some r159 := by kernel_rfl
def c160 : Cd := (.seq (.reg [sm 0 2 (.mv (.const (.int .u64 0)))])
 (.seq (.seq (.reg [sv 0 3 0,
 sc 1 4 163 [(tm 3)],
 sm 2 5 (.bin .eql 5 (tm 4) (.const (.int .u8 5)))])
 (.cond (tm 5) (.seq (.reg [sm 0 2 (.mv (.const (.int .u64 9221120237041090560)))])
 .ret) .skip))
 (.seq (.reg [sv 0 6 0,
 sv 1 2 6])
 .ret)))
def r160 : List Mo := [.mv (tm 2)]
theorem c160_eq : compF Tryz.prog 160 = some c160 := by kernel_rfl
theorem r160_eq : compRs Tryz.prog 160 = some r160 := by kernel_rfl
def c161 : Cd := (.seq (.reg [sm 0 2 (.mv (.const (.bool false)))])
 (.seq (.reg [sv 0 3 0,
 sm 1 4 (.bin .lss 21 (tm 3) (.const (.int .i32 32))),
 sv 2 5 4,
 sg 3 6 5 false (.mv (tm 0)),
 sg 4 7 5 false (.bin .gtr 21 (tm 6) (.const (.int .i32 126))),
 sm 5 8 (.pick (tm 5) (.const (.bool true)) (tm 7)),
 sv 6 2 8])
 .ret))
def r161 : List Mo := [.mv (tm 2)]
theorem c161_eq : compF Tryz.prog 161 = some c161 := by kernel_rfl
theorem r161_eq : compRs Tryz.prog 161 = some r161 := by kernel_rfl
def c162 : Cd := (.seq (.reg [sm 0 4 (.mv (.const (.int .u32 0)))])
 (.seq (.reg [sv 0 6 1,
 sm 1 7 (.cint .u64 (tm 6)),
 sm 2 8 (.bin .and 99 (tm 7) (.const (.int .u64 31))),
 sv 3 5 8])
 (.seq (.reg [sv 0 9 0,
 sv 1 10 5,
 sm 2 11 (.bin .shl 35 (tm 9) (tm 10)),
 sv 3 12 0,
 sv 4 13 5,
 sm 5 14 (.bin .sub 99 (.const (.int .u64 32)) (tm 13)),
 sm 6 15 (.bin .shr 35 (tm 12) (tm 14)),
 sm 7 16 (.bin .or 35 (tm 11) (tm 15)),
 sv 8 4 16])
 .ret)))
def r162 : List Mo := [.mv (tm 4)]
theorem c162_eq : compF Tryz.prog 162 = some c162 := by kernel_rfl
theorem r162_eq : compRs Tryz.prog 162 = some r162 := by kernel_rfl
def c163 : Cd := (.seq (.reg [sm 0 2 (.mv (.const (.int .u8 0)))])
 (.seq (.reg [sv 0 6 0,
 sc 1 7 164 [(tm 6)],
 sv 2 5 7,
 sm 3 8 (.ext (tm 5) 0),
 sm 4 9 (.ext (tm 5) 1),
 sv 5 3 8,
 sv 6 4 9])
 (.seq (.block 0 (.seq (.reg [sv 0 11 3,
 sm 1 12 (.bin .eql 3 (tm 11) (.const (.int .i64 2047))),
 sv 2 13 12,
 sg 3 14 13 true (.mv (tm 4)),
 sg 4 15 13 true (.bin .neq 36 (tm 14) (.const (.int .u64 0))),
 sm 5 16 (.pick (tm 13) (tm 15) (.const (.bool false))),
 sv 6 10 16])
 (.cond (tm 10) (.seq (.reg [sm 0 2 (.mv (.const (.int .u8 5)))])
 .ret) (.seq (.reg [sv 0 18 3,
 sm 1 19 (.bin .eql 3 (tm 18) (.const (.int .i64 2047))),
 sv 2 17 19])
 (.cond (tm 17) (.seq (.reg [sm 0 2 (.mv (.const (.int .u8 4)))])
 .ret) (.seq (.reg [sv 0 21 3,
 sm 1 22 (.bin .neq 3 (tm 21) (.const (.int .i64 0))),
 sv 2 20 22])
 (.cond (tm 20) (.seq (.reg [sm 0 2 (.mv (.const (.int .u8 3)))])
 .ret) (.seq (.reg [sv 0 24 4,
 sm 1 25 (.bin .neq 36 (tm 24) (.const (.int .u64 0))),
 sv 2 23 25])
 (.cond (tm 23) (.seq (.reg [sm 0 2 (.mv (.const (.int .u8 2)))])
 .ret) .skip)))))))))
 (.seq (.reg [sm 0 2 (.mv (.const (.int .u8 1)))])
 .ret))))
def r163 : List Mo := [.mv (tm 2)]
theorem c163_eq : compF Tryz.prog 163 = some c163 := by kernel_rfl
theorem r163_eq : compRs Tryz.prog 163 = some r163 := by kernel_rfl
def c164 : Cd := (.seq (.reg [sm 0 2 (.mv (.const (.int .i64 0))),
 sm 1 3 (.mv (.const (.int .u64 0)))])
 (.seq (.reg [sv 0 4 0,
 sm 1 5 (.bin .shr 36 (tm 4) (.const (.int .u64 52))),
 sm 2 6 (.cint .i64 (tm 5)),
 sm 3 7 (.bin .and 3 (tm 6) (.const (.int .i64 2047))),
 sv 4 8 0,
 sm 5 9 (.bin .and 36 (tm 8) (.const (.int .u64 4503599627370495))),
 sv 6 2 7,
 sv 7 3 9])
 .ret))
def r164 : List Mo := [.mv (tm 2), .mv (tm 3)]
theorem c164_eq : compF Tryz.prog 164 = some c164 := by kernel_rfl
theorem r164_eq : compRs Tryz.prog 164 = some r164 := by kernel_rfl
def tblT : Tr (Cd × List Mo) := (.node (.node (.node (.node (.node (.node (.node .nil (some (c63, r63)) .nil) none (.node (.node .nil (some (c159, r159)) .nil) none .nil)) (some (c15, r15)) (.node (.node (.node .nil (some (c143, r143)) .nil) none .nil) (some (c47, r47)) .nil)) none (.node (.node (.node (.node .nil (some (c135, r135)) .nil) (some (c71, r71)) .nil) (some (c39, r39)) (.node .nil (some (c103, r103)) .nil)) (some (c23, r23)) (.node (.node (.node .nil (some (c151, r151)) .nil) (some (c87, r87)) .nil) (some (c55, r55)) (.node .nil (some (c119, r119)) .nil)))) (some (c3, r3)) (.node (.node (.node (.node (.node .nil (some (c131, r131)) .nil) none .nil) (some (c35, r35)) (.node (.node .nil (some (c163, r163)) .nil) (some (c99, r99)) .nil)) (some (c19, r19)) (.node (.node (.node .nil (some (c147, r147)) .nil) none .nil) (some (c51, r51)) (.node .nil (some (c115, r115)) .nil))) (some (c11, r11)) (.node (.node (.node (.node .nil (some (c139, r139)) .nil) (some (c75, r75)) .nil) (some (c43, r43)) (.node .nil (some (c107, r107)) .nil)) (some (c27, r27)) (.node (.node (.node .nil (some (c155, r155)) .nil) (some (c91, r91)) .nil) (some (c59, r59)) (.node .nil (some (c123, r123)) .nil))))) none (.node (.node (.node (.node .nil (some (c33, r33)) (.node (.node .nil (some (c161, r161)) .nil) none .nil)) (some (c17, r17)) (.node (.node (.node .nil (some (c145, r145)) .nil) none .nil) none .nil)) (some (c9, r9)) (.node (.node (.node (.node .nil (some (c137, r137)) .nil) (some (c73, r73)) .nil) (some (c41, r41)) (.node .nil (some (c105, r105)) .nil)) (some (c25, r25)) (.node (.node (.node .nil (some (c153, r153)) .nil) (some (c89, r89)) .nil) (some (c57, r57)) (.node .nil (some (c121, r121)) .nil)))) (some (c5, r5)) (.node (.node (.node (.node (.node .nil (some (c133, r133)) .nil) none .nil) (some (c37, r37)) (.node .nil (some (c101, r101)) .nil)) (some (c21, r21)) (.node (.node (.node .nil (some (c149, r149)) .nil) (some (c85, r85)) .nil) (some (c53, r53)) (.node .nil (some (c117, r117)) .nil))) (some (c13, r13)) (.node (.node (.node (.node .nil (some (c141, r141)) .nil) none .nil) (some (c45, r45)) .nil) (some (c29, r29)) (.node (.node (.node .nil (some (c157, r157)) .nil) none .nil) (some (c61, r61)) (.node .nil (some (c125, r125)) .nil)))))) none (.node (.node (.node (.node (.node (.node .nil (some (c64, r64)) .nil) none (.node (.node .nil (some (c160, r160)) .nil) none .nil)) (some (c16, r16)) (.node (.node (.node .nil (some (c144, r144)) .nil) none .nil) (some (c48, r48)) .nil)) none (.node (.node (.node (.node .nil (some (c136, r136)) .nil) (some (c72, r72)) .nil) (some (c40, r40)) (.node .nil (some (c104, r104)) .nil)) (some (c24, r24)) (.node (.node (.node .nil (some (c152, r152)) .nil) (some (c88, r88)) .nil) (some (c56, r56)) (.node .nil (some (c120, r120)) .nil)))) (some (c4, r4)) (.node (.node (.node (.node (.node .nil (some (c132, r132)) .nil) none .nil) (some (c36, r36)) (.node (.node .nil (some (c164, r164)) .nil) (some (c100, r100)) .nil)) (some (c20, r20)) (.node (.node (.node .nil (some (c148, r148)) .nil) none .nil) (some (c52, r52)) (.node .nil (some (c116, r116)) .nil))) (some (c12, r12)) (.node (.node (.node (.node .nil (some (c140, r140)) .nil) (some (c76, r76)) .nil) (some (c44, r44)) (.node .nil (some (c108, r108)) .nil)) (some (c28, r28)) (.node (.node (.node .nil (some (c156, r156)) .nil) (some (c92, r92)) .nil) (some (c60, r60)) (.node .nil (some (c124, r124)) .nil))))) none (.node (.node (.node (.node (.node (.node .nil (some (c130, r130)) .nil) none .nil) (some (c34, r34)) (.node (.node .nil (some (c162, r162)) .nil) (some (c98, r98)) .nil)) (some (c18, r18)) (.node (.node (.node .nil (some (c146, r146)) .nil) none .nil) (some (c50, r50)) (.node .nil (some (c114, r114)) .nil))) (some (c10, r10)) (.node (.node (.node (.node .nil (some (c138, r138)) .nil) (some (c74, r74)) .nil) (some (c42, r42)) (.node .nil (some (c106, r106)) .nil)) (some (c26, r26)) (.node (.node (.node .nil (some (c154, r154)) .nil) (some (c90, r90)) .nil) (some (c58, r58)) (.node .nil (some (c122, r122)) .nil)))) none (.node (.node (.node (.node .nil (some (c70, r70)) .nil) (some (c38, r38)) (.node .nil (some (c102, r102)) .nil)) (some (c22, r22)) (.node (.node (.node .nil (some (c150, r150)) .nil) none .nil) (some (c54, r54)) (.node .nil (some (c118, r118)) .nil))) (some (c14, r14)) (.node (.node (.node (.node .nil (some (c142, r142)) .nil) none .nil) (some (c46, r46)) .nil) (some (c30, r30)) (.node (.node (.node .nil (some (c158, r158)) .nil) none .nil) (some (c62, r62)) (.node .nil (some (c126, r126)) .nil)))))))
theorem tbl_all : AllT (TblP Tryz.prog) tblT := (allT_none (allT_none (allT_some ⟨c3_eq, r3_eq⟩ (allT_none (allT_some ⟨c15_eq, r15_eq⟩ (allT_none (allT_some ⟨c63_eq, r63_eq⟩ allT_nil allT_nil) (allT_none (allT_some ⟨c159_eq, r159_eq⟩ allT_nil allT_nil) allT_nil)) (allT_some ⟨c47_eq, r47_eq⟩ (allT_none (allT_some ⟨c143_eq, r143_eq⟩ allT_nil allT_nil) allT_nil) allT_nil)) (allT_some ⟨c23_eq, r23_eq⟩ (allT_some ⟨c39_eq, r39_eq⟩ (allT_some ⟨c71_eq, r71_eq⟩ (allT_some ⟨c135_eq, r135_eq⟩ allT_nil allT_nil) allT_nil) (allT_some ⟨c103_eq, r103_eq⟩ allT_nil allT_nil)) (allT_some ⟨c55_eq, r55_eq⟩ (allT_some ⟨c87_eq, r87_eq⟩ (allT_some ⟨c151_eq, r151_eq⟩ allT_nil allT_nil) allT_nil) (allT_some ⟨c119_eq, r119_eq⟩ allT_nil allT_nil)))) (allT_some ⟨c11_eq, r11_eq⟩ (allT_some ⟨c19_eq, r19_eq⟩ (allT_some ⟨c35_eq, r35_eq⟩ (allT_none (allT_some ⟨c131_eq, r131_eq⟩ allT_nil allT_nil) allT_nil) (allT_some ⟨c99_eq, r99_eq⟩ (allT_some ⟨c163_eq, r163_eq⟩ allT_nil allT_nil) allT_nil)) (allT_some ⟨c51_eq, r51_eq⟩ (allT_none (allT_some ⟨c147_eq, r147_eq⟩ allT_nil allT_nil) allT_nil) (allT_some ⟨c115_eq, r115_eq⟩ allT_nil allT_nil))) (allT_some ⟨c27_eq, r27_eq⟩ (allT_some ⟨c43_eq, r43_eq⟩ (allT_some ⟨c75_eq, r75_eq⟩ (allT_some ⟨c139_eq, r139_eq⟩ allT_nil allT_nil) allT_nil) (allT_some ⟨c107_eq, r107_eq⟩ allT_nil allT_nil)) (allT_some ⟨c59_eq, r59_eq⟩ (allT_some ⟨c91_eq, r91_eq⟩ (allT_some ⟨c155_eq, r155_eq⟩ allT_nil allT_nil) allT_nil) (allT_some ⟨c123_eq, r123_eq⟩ allT_nil allT_nil))))) (allT_some ⟨c5_eq, r5_eq⟩ (allT_some ⟨c9_eq, r9_eq⟩ (allT_some ⟨c17_eq, r17_eq⟩ (allT_some ⟨c33_eq, r33_eq⟩ allT_nil (allT_none (allT_some ⟨c161_eq, r161_eq⟩ allT_nil allT_nil) allT_nil)) (allT_none (allT_none (allT_some ⟨c145_eq, r145_eq⟩ allT_nil allT_nil) allT_nil) allT_nil)) (allT_some ⟨c25_eq, r25_eq⟩ (allT_some ⟨c41_eq, r41_eq⟩ (allT_some ⟨c73_eq, r73_eq⟩ (allT_some ⟨c137_eq, r137_eq⟩ allT_nil allT_nil) allT_nil) (allT_some ⟨c105_eq, r105_eq⟩ allT_nil allT_nil)) (allT_some ⟨c57_eq, r57_eq⟩ (allT_some ⟨c89_eq, r89_eq⟩ (allT_some ⟨c153_eq, r153_eq⟩ allT_nil allT_nil) allT_nil) (allT_some ⟨c121_eq, r121_eq⟩ allT_nil allT_nil)))) (allT_some ⟨c13_eq, r13_eq⟩ (allT_some ⟨c21_eq, r21_eq⟩ (allT_some ⟨c37_eq, r37_eq⟩ (allT_none (allT_some ⟨c133_eq, r133_eq⟩ allT_nil allT_nil) allT_nil) (allT_some ⟨c101_eq, r101_eq⟩ allT_nil allT_nil)) (allT_some ⟨c53_eq, r53_eq⟩ (allT_some ⟨c85_eq, r85_eq⟩ (allT_some ⟨c149_eq, r149_eq⟩ allT_nil allT_nil) allT_nil) (allT_some ⟨c117_eq, r117_eq⟩ allT_nil allT_nil))) (allT_some ⟨c29_eq, r29_eq⟩ (allT_some ⟨c45_eq, r45_eq⟩ (allT_none (allT_some ⟨c141_eq, r141_eq⟩ allT_nil allT_nil) allT_nil) allT_nil) (allT_some ⟨c61_eq, r61_eq⟩ (allT_none (allT_some ⟨c157_eq, r157_eq⟩ allT_nil allT_nil) allT_nil) (allT_some ⟨c125_eq, r125_eq⟩ allT_nil allT_nil)))))) (allT_none (allT_some ⟨c4_eq, r4_eq⟩ (allT_none (allT_some ⟨c16_eq, r16_eq⟩ (allT_none (allT_some ⟨c64_eq, r64_eq⟩ allT_nil allT_nil) (allT_none (allT_some ⟨c160_eq, r160_eq⟩ allT_nil allT_nil) allT_nil)) (allT_some ⟨c48_eq, r48_eq⟩ (allT_none (allT_some ⟨c144_eq, r144_eq⟩ allT_nil allT_nil) allT_nil) allT_nil)) (allT_some ⟨c24_eq, r24_eq⟩ (allT_some ⟨c40_eq, r40_eq⟩ (allT_some ⟨c72_eq, r72_eq⟩ (allT_some ⟨c136_eq, r136_eq⟩ allT_nil allT_nil) allT_nil) (allT_some ⟨c104_eq, r104_eq⟩ allT_nil allT_nil)) (allT_some ⟨c56_eq, r56_eq⟩ (allT_some ⟨c88_eq, r88_eq⟩ (allT_some ⟨c152_eq, r152_eq⟩ allT_nil allT_nil) allT_nil) (allT_some ⟨c120_eq, r120_eq⟩ allT_nil allT_nil)))) (allT_some ⟨c12_eq, r12_eq⟩ (allT_some ⟨c20_eq, r20_eq⟩ (allT_some ⟨c36_eq, r36_eq⟩ (allT_none (allT_some ⟨c132_eq, r132_eq⟩ allT_nil allT_nil) allT_nil) (allT_some ⟨c100_eq, r100_eq⟩ (allT_some ⟨c164_eq, r164_eq⟩ allT_nil allT_nil) allT_nil)) (allT_some ⟨c52_eq, r52_eq⟩ (allT_none (allT_some ⟨c148_eq, r148_eq⟩ allT_nil allT_nil) allT_nil) (allT_some ⟨c116_eq, r116_eq⟩ allT_nil allT_nil))) (allT_some ⟨c28_eq, r28_eq⟩ (allT_some ⟨c44_eq, r44_eq⟩ (allT_some ⟨c76_eq, r76_eq⟩ (allT_some ⟨c140_eq, r140_eq⟩ allT_nil allT_nil) allT_nil) (allT_some ⟨c108_eq, r108_eq⟩ allT_nil allT_nil)) (allT_some ⟨c60_eq, r60_eq⟩ (allT_some ⟨c92_eq, r92_eq⟩ (allT_some ⟨c156_eq, r156_eq⟩ allT_nil allT_nil) allT_nil) (allT_some ⟨c124_eq, r124_eq⟩ allT_nil allT_nil))))) (allT_none (allT_some ⟨c10_eq, r10_eq⟩ (allT_some ⟨c18_eq, r18_eq⟩ (allT_some ⟨c34_eq, r34_eq⟩ (allT_none (allT_some ⟨c130_eq, r130_eq⟩ allT_nil allT_nil) allT_nil) (allT_some ⟨c98_eq, r98_eq⟩ (allT_some ⟨c162_eq, r162_eq⟩ allT_nil allT_nil) allT_nil)) (allT_some ⟨c50_eq, r50_eq⟩ (allT_none (allT_some ⟨c146_eq, r146_eq⟩ allT_nil allT_nil) allT_nil) (allT_some ⟨c114_eq, r114_eq⟩ allT_nil allT_nil))) (allT_some ⟨c26_eq, r26_eq⟩ (allT_some ⟨c42_eq, r42_eq⟩ (allT_some ⟨c74_eq, r74_eq⟩ (allT_some ⟨c138_eq, r138_eq⟩ allT_nil allT_nil) allT_nil) (allT_some ⟨c106_eq, r106_eq⟩ allT_nil allT_nil)) (allT_some ⟨c58_eq, r58_eq⟩ (allT_some ⟨c90_eq, r90_eq⟩ (allT_some ⟨c154_eq, r154_eq⟩ allT_nil allT_nil) allT_nil) (allT_some ⟨c122_eq, r122_eq⟩ allT_nil allT_nil)))) (allT_some ⟨c14_eq, r14_eq⟩ (allT_some ⟨c22_eq, r22_eq⟩ (allT_some ⟨c38_eq, r38_eq⟩ (allT_some ⟨c70_eq, r70_eq⟩ allT_nil allT_nil) (allT_some ⟨c102_eq, r102_eq⟩ allT_nil allT_nil)) (allT_some ⟨c54_eq, r54_eq⟩ (allT_none (allT_some ⟨c150_eq, r150_eq⟩ allT_nil allT_nil) allT_nil) (allT_some ⟨c118_eq, r118_eq⟩ allT_nil allT_nil))) (allT_some ⟨c30_eq, r30_eq⟩ (allT_some ⟨c46_eq, r46_eq⟩ (allT_none (allT_some ⟨c142_eq, r142_eq⟩ allT_nil allT_nil) allT_nil) allT_nil) (allT_some ⟨c62_eq, r62_eq⟩ (allT_none (allT_some ⟨c158_eq, r158_eq⟩ allT_nil allT_nil) allT_nil) (allT_some ⟨c126_eq, r126_eq⟩ allT_nil allT_nil)))))))
theorem tbl_ok : TblOk Tryz.prog (fun f => tblT.get f) := tblOk_of tbl_all
end Go.CM
