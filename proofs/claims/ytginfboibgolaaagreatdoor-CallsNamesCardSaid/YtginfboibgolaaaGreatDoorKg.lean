/-
  The code of the functions, without types, as the canonical machine reads it (printed by program).
-/
import Derived.Test.YtginfboibgolaaaGreatDoorKf
import Derived.Test.YtginfboibgolaaaGreatDoorRows
import Derived.ProofKit
import Derived.LaidMore
import Derived.MakeChecks
namespace Go.CM
open Go Go.Proofs
set_option maxRecDepth 100000
/-! F5 braid/braidlaw28.CallsNames -/
def l5_0 : Cd := (.seq (.seq (.reg [sv 0 62 2,
  sv 1 63 1,
  sm 2 64 (.len (.sl 10) (tm 63)),
  sm 3 65 (.bin .lss 3 (tm 62) (tm 64))])
  (.cond (tm 65) .skip (.exit 0)))
  (.seq (.block 1 (.seq (.reg [sv 0 69 1,
  sv 1 70 2,
  sm 2 71 (.ia (.sl 10) (tm 69) (tm 70)),
  sm 3 72 (.ldA 10 (tm 71)),
  sc 4 73 28 [(tm 72)],
  sv 5 68 73,
  sm 6 74 (.ext (tm 68) 0),
  sm 7 75 (.ext (tm 68) 1),
  sm 8 3 (.alloc ([.int .u8 0, .nilS, .int .u8 0, .str [], .int .u8 0, .int .i64 0, .int .u64 0, .str [], .int .u64 0, .str [], .int .u8 0, .int .i64 0, .nilS, .int .i64 0] ++ rep 33 (.int .u8 0) ++ [.int .i64 0, .bool false, .int .u8 0, .int .i64 0, .int .u64 0, .str [], .nilS, .int .i64 0])),
  se 9 (.st 55 (tm 3) (tm 74)),
  sv 10 4 75])
  (.seq (.reg [sv 0 76 1,
  sv 1 77 2,
  sm 2 78 (.ia (.sl 10) (tm 76) (tm 77)),
  sm 3 79 (.ldA 10 (tm 78)),
  sc 4 80 32 [(tm 79)],
  sm 5 81 (.bin .neq 49 (tm 80) (.const (.int .i64 8))),
  sv 6 82 81,
  sg 7 83 82 false (.mv (tm 4)),
  sg 8 84 82 false (.bin .neq 49 (tm 83) (.const (.int .i64 8))),
  sm 9 85 (.pick (tm 82) (.const (.bool true)) (tm 84)),
  sv 10 86 85,
  sg 11 87 86 false (.mv (tm 1)),
  sg 12 88 86 false (.mv (tm 2)),
  sg 13 89 86 false (.ia (.sl 10) (tm 87) (tm 88)),
  sg 14 90 86 false (.ldA 10 (tm 89)),
  sg 15 91 86 false (.bld ([.int .u8 0, .nilS, .int .u8 0, .str [], .int .u8 0, .int .i64 0, .int .u64 0, .str [], .int .u64 0, .str [], .int .u8 0, .int .i64 0, .nilS, .int .i64 0] ++ rep 33 (.int .u8 0) ++ [.int .i64 0, .bool false, .int .u8 0, .int .i64 0, .int .u64 0, .str [], .nilS, .int .i64 0]) [(0, 10, (tm 90)), (10, 1, (.const (.int .u8 1))), (13, 1, (.const (.int .i64 (-1))))]),
  ⟨16, (some 92), (some ((some 86), false)), .callF 21 [(tm 91)], [], false⟩,
  sg 17 93 86 false (.bin .neq 49 (tm 92) (.const (.int .i64 8))),
  sm 18 94 (.pick (tm 86) (.const (.bool true)) (tm 93))])
  (.cond (tm 94) (.seq (.reg [sm 0 0 (.mv (.const (.bool false)))])
  .ret) .skip))))
  (.reg [sv 0 66 2,
  sm 1 67 (.bin .add 3 (tm 66) (.const (.int .i64 1))),
  sv 2 2 67])))
def c5 : Cd := (.seq (.reg [sm 0 0 (.mv (.const (.bool false)))])
  (.seq (.reg [sm 0 46 (.bld [.int .u8 0, .nilS, .int .u8 0, .str [], .int .u8 0, .int .i64 0, .int .u64 0, .str [], .int .u64 0, .str []] []),
  sm 1 47 (.bld [.int .u8 0, .nilS, .int .u8 0, .str [], .int .u8 0, .int .i64 0, .int .u64 0, .str [], .int .u64 0, .str []] [(0, 1, (.const (.int .u8 7)))]),
  sm 2 48 (.mks 1 1 [.int .u8 0] (.const (.int .i64 2001)) (.const (.int .i64 2001))),
  sm 3 49 (.bld [.int .u8 0, .nilS, .int .u8 0, .str [], .int .u8 0, .int .i64 0, .int .u64 0, .str [], .int .u64 0, .str []] [(0, 1, (.const (.int .u8 1))), (1, 1, (tm 48))]),
  sm 4 50 (.bsl 1 [.int .u8 0] 1 [(0, (.const (.int .u8 1)))]),
  sm 5 51 (.bld [.int .u8 0, .nilS, .int .u8 0, .str [], .int .u8 0, .int .i64 0, .int .u64 0, .str [], .int .u64 0, .str []] [(0, 1, (.const (.int .u8 4))), (1, 1, (tm 50))]),
  sm 6 52 (.bld [.int .u8 0, .nilS, .int .u8 0, .str [], .int .u8 0, .int .i64 0, .int .u64 0, .str [], .int .u64 0, .str []] [(0, 1, (.const (.int .u8 4))), (9, 1, (.const (.string ⟨#[97]⟩)))]),
  sm 7 53 (.bld [.int .u8 0, .nilS, .int .u8 0, .str [], .int .u8 0, .int .i64 0, .int .u64 0, .str [], .int .u64 0, .str []] [(0, 1, (.const (.int .u8 3)))]),
  sm 8 54 (.bld [.int .u8 0, .nilS, .int .u8 0, .str [], .int .u8 0, .int .i64 0, .int .u64 0, .str [], .int .u64 0, .str []] [(0, 1, (.const (.int .u8 3))), (9, 1, (.const (.string ⟨#[97, 32, 98]⟩)))]),
  sm 9 55 (.bld [.int .u8 0, .nilS, .int .u8 0, .str [], .int .u8 0, .int .i64 0, .int .u64 0, .str [], .int .u64 0, .str []] [(0, 1, (.const (.int .u8 2)))]),
  sm 10 56 (.bld [.int .u8 0, .str [], .int .u8 0, .int .i64 0, .int .u64 0, .str []] [(0, 1, (.const (.int .u8 1)))]),
  sm 11 57 (.bld [.int .u8 0, .nilS, .int .u8 0, .str [], .int .u8 0, .int .i64 0, .int .u64 0, .str [], .int .u64 0, .str []] [(0, 1, (.const (.int .u8 2))), (2, 6, (tm 56)), (8, 1, (.const (.int .u64 1000000000001)))]),
  sm 12 58 (.bld [.int .u8 0, .nilS, .int .u8 0, .str [], .int .u8 0, .int .i64 0, .int .u64 0, .str [], .int .u64 0, .str []] [(0, 1, (.const (.int .u8 6))), (8, 1, (.const (.int .u64 1)))]),
  sm 13 59 (.bld [.int .u8 0, .str [], .int .u8 0, .int .i64 0, .int .u64 0, .str []] [(0, 1, (.const (.int .u8 1)))]),
  sm 14 60 (.bld [.int .u8 0, .nilS, .int .u8 0, .str [], .int .u8 0, .int .i64 0, .int .u64 0, .str [], .int .u64 0, .str []] [(0, 1, (.const (.int .u8 6))), (2, 6, (tm 59))]),
  sm 15 61 (.bsl 10 [.int .u8 0, .nilS, .int .u8 0, .str [], .int .u8 0, .int .i64 0, .int .u64 0, .str [], .int .u64 0, .str []] 11 [(0, (tm 46)), (1, (tm 47)), (2, (tm 49)), (3, (tm 51)), (4, (tm 52)), (5, (tm 53)), (6, (tm 54)), (7, (tm 55)), (8, (tm 57)), (9, (tm 58)), (10, (tm 60))]),
  sv 16 1 61])
  (.seq (.seq (.reg [sm 0 2 (.mv (.const (.int .i64 0)))])
  (.block 0 (.loop l5_0)))
  (.seq (.reg [sm 0 96 (.bld [.int .u8 0, .nilS, .int .u8 0, .str [], .int .u8 0, .int .i64 0, .int .u64 0, .str [], .int .u64 0, .str []] [(0, 1, (.const (.int .u8 5)))]),
  sc 1 97 28 [(tm 96)],
  sv 2 95 97,
  sm 3 98 (.ext (tm 95) 0),
  sm 4 99 (.ext (tm 95) 1),
  sm 5 5 (.alloc ([.int .u8 0, .nilS, .int .u8 0, .str [], .int .u8 0, .int .i64 0, .int .u64 0, .str [], .int .u64 0, .str [], .int .u8 0, .int .i64 0, .nilS, .int .i64 0] ++ rep 33 (.int .u8 0) ++ [.int .i64 0, .bool false, .int .u8 0, .int .i64 0, .int .u64 0, .str [], .nilS, .int .i64 0])),
  se 6 (.st 55 (tm 5) (tm 98)),
  sv 7 6 99])
  (.seq (.reg [sm 0 101 (.bld [.int .u8 0, .nilS, .int .u8 0, .str [], .int .u8 0, .int .i64 0, .int .u64 0, .str [], .int .u64 0, .str []] [(0, 1, (.const (.int .u8 6)))]),
  sc 1 102 28 [(tm 101)],
  sv 2 100 102,
  sm 3 103 (.ext (tm 100) 0),
  sm 4 104 (.ext (tm 100) 1),
  sm 5 7 (.alloc ([.int .u8 0, .nilS, .int .u8 0, .str [], .int .u8 0, .int .i64 0, .int .u64 0, .str [], .int .u64 0, .str [], .int .u8 0, .int .i64 0, .nilS, .int .i64 0] ++ rep 33 (.int .u8 0) ++ [.int .i64 0, .bool false, .int .u8 0, .int .i64 0, .int .u64 0, .str [], .nilS, .int .i64 0])),
  se 6 (.st 55 (tm 7) (tm 103)),
  sv 7 8 104])
  (.seq (.reg [sm 0 106 (.mks 1 1 [.int .u8 0] (.const (.int .i64 2000)) (.const (.int .i64 2000))),
  sm 1 107 (.bld [.int .u8 0, .nilS, .int .u8 0, .str [], .int .u8 0, .int .i64 0, .int .u64 0, .str [], .int .u64 0, .str []] [(0, 1, (.const (.int .u8 1))), (1, 1, (tm 106))]),
  sc 2 108 28 [(tm 107)],
  sv 3 105 108,
  sm 4 109 (.ext (tm 105) 0),
  sm 5 110 (.ext (tm 105) 1),
  sm 6 9 (.alloc ([.int .u8 0, .nilS, .int .u8 0, .str [], .int .u8 0, .int .i64 0, .int .u64 0, .str [], .int .u64 0, .str [], .int .u8 0, .int .i64 0, .nilS, .int .i64 0] ++ rep 33 (.int .u8 0) ++ [.int .i64 0, .bool false, .int .u8 0, .int .i64 0, .int .u64 0, .str [], .nilS, .int .i64 0])),
  se 7 (.st 55 (tm 9) (tm 109)),
  sv 8 10 110])
  (.seq (.reg [sm 0 112 (.bld [.int .u8 0, .str [], .int .u8 0, .int .i64 0, .int .u64 0, .str []] [(0, 1, (.const (.int .u8 1)))]),
  sm 1 113 (.bld [.int .u8 0, .nilS, .int .u8 0, .str [], .int .u8 0, .int .i64 0, .int .u64 0, .str [], .int .u64 0, .str []] [(0, 1, (.const (.int .u8 2))), (2, 6, (tm 112)), (8, 1, (.const (.int .u64 1000000000000)))]),
  sc 2 114 28 [(tm 113)],
  sv 3 111 114,
  sm 4 115 (.ext (tm 111) 0),
  sm 5 116 (.ext (tm 111) 1),
  sm 6 11 (.alloc ([.int .u8 0, .nilS, .int .u8 0, .str [], .int .u8 0, .int .i64 0, .int .u64 0, .str [], .int .u64 0, .str [], .int .u8 0, .int .i64 0, .nilS, .int .i64 0] ++ rep 33 (.int .u8 0) ++ [.int .i64 0, .bool false, .int .u8 0, .int .i64 0, .int .u64 0, .str [], .nilS, .int .i64 0])),
  se 7 (.st 55 (tm 11) (tm 115)),
  sv 8 12 116])
  (.seq (.reg [sm 0 118 (.ldA 55 (tm 9)),
  sc 1 119 15 [(tm 118), (.const (.int .i64 1000000000))],
  sv 2 117 119,
  sm 3 120 (.ext (tm 117) 0),
  sm 4 121 (.ext (tm 117) 1),
  sm 5 13 (.alloc ([.int .u8 0, .nilS, .int .u8 0, .str [], .int .u8 0, .int .i64 0, .int .u64 0, .str [], .int .u64 0, .str [], .int .u8 0, .int .i64 0, .nilS, .int .i64 0] ++ rep 33 (.int .u8 0) ++ [.int .i64 0, .bool false, .int .u8 0, .int .i64 0, .int .u64 0, .str [], .nilS, .int .i64 0])),
  se 6 (.st 55 (tm 13) (tm 120)),
  sv 7 14 121])
  (.seq (.reg [sm 0 123 (.ldA 55 (tm 9)),
  sc 1 124 15 [(tm 123), (.const (.int .i64 1000000001))],
  sv 2 122 124,
  sm 3 125 (.ext (tm 122) 0),
  sm 4 126 (.ext (tm 122) 1),
  sm 5 15 (.alloc ([.int .u8 0, .nilS, .int .u8 0, .str [], .int .u8 0, .int .i64 0, .int .u64 0, .str [], .int .u64 0, .str [], .int .u8 0, .int .i64 0, .nilS, .int .i64 0] ++ rep 33 (.int .u8 0) ++ [.int .i64 0, .bool false, .int .u8 0, .int .i64 0, .int .u64 0, .str [], .nilS, .int .i64 0])),
  se 6 (.st 55 (tm 15) (tm 125)),
  sv 7 16 126])
  (.seq (.reg [sm 0 128 (.ldA 55 (tm 9)),
  sc 1 129 15 [(tm 128), (.const (.int .i64 (-1)))],
  sv 2 127 129,
  sm 3 130 (.ext (tm 127) 0),
  sm 4 131 (.ext (tm 127) 1),
  sm 5 17 (.alloc ([.int .u8 0, .nilS, .int .u8 0, .str [], .int .u8 0, .int .i64 0, .int .u64 0, .str [], .int .u64 0, .str [], .int .u8 0, .int .i64 0, .nilS, .int .i64 0] ++ rep 33 (.int .u8 0) ++ [.int .i64 0, .bool false, .int .u8 0, .int .i64 0, .int .u64 0, .str [], .nilS, .int .i64 0])),
  se 6 (.st 55 (tm 17) (tm 130)),
  sv 7 18 131])
  (.seq (.reg [sm 0 133 (.ldA 55 (tm 11)),
  sc 1 134 15 [(tm 133), (.const (.int .i64 0))],
  sv 2 132 134,
  sm 3 135 (.ext (tm 132) 0),
  sm 4 136 (.ext (tm 132) 1),
  sm 5 19 (.alloc ([.int .u8 0, .nilS, .int .u8 0, .str [], .int .u8 0, .int .i64 0, .int .u64 0, .str [], .int .u64 0, .str [], .int .u8 0, .int .i64 0, .nilS, .int .i64 0] ++ rep 33 (.int .u8 0) ++ [.int .i64 0, .bool false, .int .u8 0, .int .i64 0, .int .u64 0, .str [], .nilS, .int .i64 0])),
  se 6 (.st 55 (tm 19) (tm 135)),
  sv 7 20 136])
  (.seq (.dreg [⟨0, (some 138), none, .mo (.ldA 55 (tm 9)), [], true⟩,
  ⟨6, (some 21), none, .mo (.alloc ([.int .u8 0, .nilS, .int .u8 0, .str [], .int .u8 0, .int .i64 0, .int .u64 0, .str [], .int .u64 0, .str [], .int .u8 0, .int .i64 0, .nilS, .int .i64 0] ++ rep 33 (.int .u8 0) ++ [.int .i64 0, .bool false, .int .u8 0, .int .i64 0, .int .u64 0, .str [], .nilS, .int .i64 0])), [], true⟩,
  ⟨1, (some 139), none, .callF 33 [], [6, 0], false⟩,
  ⟨2, (some 140), none, .callF 13 [(tm 138), (tm 139), (.const (.int .u32 1))], [6], false⟩,
  sv 3 137 140,
  sm 4 141 (.ext (tm 137) 0),
  sm 5 142 (.ext (tm 137) 1),
  se 7 (.st 55 (tm 21) (tm 141)),
  sv 8 22 142])
  (.seq (.reg [sm 0 144 (.ldA 55 (tm 9)),
  sm 1 145 (.bld (rep 32 (.int .u8 0)) []),
  sc 2 146 34 [(tm 144), (.const (.int .u8 1)), (tm 145), (.const (.int .i64 0))],
  sv 3 143 146,
  sm 4 147 (.ext (tm 143) 0),
  sm 5 148 (.ext (tm 143) 1),
  sm 6 23 (.alloc ([.int .u8 0, .nilS, .int .u8 0, .str [], .int .u8 0, .int .i64 0, .int .u64 0, .str [], .int .u64 0, .str [], .int .u8 0, .int .i64 0, .nilS, .int .i64 0] ++ rep 33 (.int .u8 0) ++ [.int .i64 0, .bool false, .int .u8 0, .int .i64 0, .int .u64 0, .str [], .nilS, .int .i64 0])),
  se 7 (.st 55 (tm 23) (tm 147)),
  sv 8 24 148])
  (.seq (.reg [sm 0 150 (.ldA 55 (tm 13)),
  sm 1 151 (.bld (rep 32 (.int .u8 0)) []),
  sc 2 152 34 [(tm 150), (.const (.int .u8 0)), (tm 151), (.const (.int .i64 0))],
  sv 3 149 152,
  sm 4 153 (.ext (tm 149) 0),
  sm 5 154 (.ext (tm 149) 1),
  sm 6 25 (.alloc ([.int .u8 0, .nilS, .int .u8 0, .str [], .int .u8 0, .int .i64 0, .int .u64 0, .str [], .int .u64 0, .str [], .int .u8 0, .int .i64 0, .nilS, .int .i64 0] ++ rep 33 (.int .u8 0) ++ [.int .i64 0, .bool false, .int .u8 0, .int .i64 0, .int .u64 0, .str [], .nilS, .int .i64 0])),
  se 7 (.st 55 (tm 25) (tm 153)),
  sv 8 26 154])
  (.seq (.reg [sm 0 156 (.ldA 55 (tm 13)),
  sm 1 157 (.bld (rep 32 (.int .u8 0)) []),
  sc 2 158 34 [(tm 156), (.const (.int .u8 10)), (tm 157), (.const (.int .i64 0))],
  sv 3 155 158,
  sm 4 159 (.ext (tm 155) 0),
  sm 5 160 (.ext (tm 155) 1),
  sm 6 27 (.alloc ([.int .u8 0, .nilS, .int .u8 0, .str [], .int .u8 0, .int .i64 0, .int .u64 0, .str [], .int .u64 0, .str [], .int .u8 0, .int .i64 0, .nilS, .int .i64 0] ++ rep 33 (.int .u8 0) ++ [.int .i64 0, .bool false, .int .u8 0, .int .i64 0, .int .u64 0, .str [], .nilS, .int .i64 0])),
  se 7 (.st 55 (tm 27) (tm 159)),
  sv 8 28 160])
  (.seq (.reg [sm 0 162 (.ldA 55 (tm 13)),
  sm 1 163 (.bld (rep 32 (.int .u8 0)) []),
  sc 2 164 34 [(tm 162), (.const (.int .u8 9)), (tm 163), (.const (.int .i64 (-1)))],
  sv 3 161 164,
  sm 4 165 (.ext (tm 161) 0),
  sm 5 166 (.ext (tm 161) 1),
  sm 6 29 (.alloc ([.int .u8 0, .nilS, .int .u8 0, .str [], .int .u8 0, .int .i64 0, .int .u64 0, .str [], .int .u64 0, .str [], .int .u8 0, .int .i64 0, .nilS, .int .i64 0] ++ rep 33 (.int .u8 0) ++ [.int .i64 0, .bool false, .int .u8 0, .int .i64 0, .int .u64 0, .str [], .nilS, .int .i64 0])),
  se 7 (.st 55 (tm 29) (tm 165)),
  sv 8 30 166])
  (.seq (.reg [sm 0 168 (.ldA 55 (tm 5)),
  sc 1 169 35 [(tm 168), (.const (.int .i64 (-2))), (.const (.int .i64 0))],
  sv 2 167 169,
  sm 3 170 (.ext (tm 167) 0),
  sm 4 171 (.ext (tm 167) 1),
  sm 5 31 (.alloc ([.int .u8 0, .nilS, .int .u8 0, .str [], .int .u8 0, .int .i64 0, .int .u64 0, .str [], .int .u64 0, .str [], .int .u8 0, .int .i64 0, .nilS, .int .i64 0] ++ rep 33 (.int .u8 0) ++ [.int .i64 0, .bool false, .int .u8 0, .int .i64 0, .int .u64 0, .str [], .nilS, .int .i64 0])),
  se 6 (.st 55 (tm 31) (tm 170)),
  sv 7 32 171])
  (.seq (.reg [sm 0 173 (.ldA 55 (tm 5)),
  sc 1 174 35 [(tm 173), (.const (.int .i64 60)), (.const (.int .i64 0))],
  sv 2 172 174,
  sm 3 175 (.ext (tm 172) 0),
  sm 4 176 (.ext (tm 172) 1),
  sm 5 33 (.alloc ([.int .u8 0, .nilS, .int .u8 0, .str [], .int .u8 0, .int .i64 0, .int .u64 0, .str [], .int .u64 0, .str [], .int .u8 0, .int .i64 0, .nilS, .int .i64 0] ++ rep 33 (.int .u8 0) ++ [.int .i64 0, .bool false, .int .u8 0, .int .i64 0, .int .u64 0, .str [], .nilS, .int .i64 0])),
  se 6 (.st 55 (tm 33) (tm 175)),
  sv 7 34 176])
  (.seq (.reg [sm 0 178 (.ldA 55 (tm 5)),
  sc 1 179 35 [(tm 178), (.const (.int .i64 (-1))), (.const (.int .i64 3))],
  sv 2 177 179,
  sm 3 180 (.ext (tm 177) 0),
  sm 4 181 (.ext (tm 177) 1),
  sm 5 35 (.alloc ([.int .u8 0, .nilS, .int .u8 0, .str [], .int .u8 0, .int .i64 0, .int .u64 0, .str [], .int .u64 0, .str [], .int .u8 0, .int .i64 0, .nilS, .int .i64 0] ++ rep 33 (.int .u8 0) ++ [.int .i64 0, .bool false, .int .u8 0, .int .i64 0, .int .u64 0, .str [], .nilS, .int .i64 0])),
  se 6 (.st 55 (tm 35) (tm 180)),
  sv 7 36 181])
  (.seq (.reg [sm 0 183 (.ldA 55 (tm 7)),
  sc 1 184 35 [(tm 183), (.const (.int .i64 0)), (.const (.int .i64 0))],
  sv 2 182 184,
  sm 3 185 (.ext (tm 182) 0),
  sm 4 186 (.ext (tm 182) 1),
  sm 5 37 (.alloc ([.int .u8 0, .nilS, .int .u8 0, .str [], .int .u8 0, .int .i64 0, .int .u64 0, .str [], .int .u64 0, .str [], .int .u8 0, .int .i64 0, .nilS, .int .i64 0] ++ rep 33 (.int .u8 0) ++ [.int .i64 0, .bool false, .int .u8 0, .int .i64 0, .int .u64 0, .str [], .nilS, .int .i64 0])),
  se 6 (.st 55 (tm 37) (tm 185)),
  sv 7 38 186])
  (.seq (.reg [sm 0 188 (.ldA 55 (tm 7)),
  sc 1 189 36 [(tm 188), (.const (.int .i64 (-1)))],
  sv 2 187 189,
  sm 3 190 (.ext (tm 187) 0),
  sm 4 191 (.ext (tm 187) 1),
  sm 5 39 (.alloc ([.int .u8 0, .nilS, .int .u8 0, .str [], .int .u8 0, .int .i64 0, .int .u64 0, .str [], .int .u64 0, .str [], .int .u8 0, .int .i64 0, .nilS, .int .i64 0] ++ rep 33 (.int .u8 0) ++ [.int .i64 0, .bool false, .int .u8 0, .int .i64 0, .int .u64 0, .str [], .nilS, .int .i64 0])),
  se 6 (.st 55 (tm 39) (tm 190)),
  sv 7 40 191])
  (.seq (.reg [sm 0 193 (.ldA 55 (tm 7)),
  sc 1 194 19 [(tm 193)],
  sv 2 192 194,
  sm 3 195 (.ext (tm 192) 0),
  sm 4 196 (.ext (tm 192) 1),
  sm 5 41 (.alloc (rep 33 (.int .u8 0) ++ [.int .i64 0, .bool false, .int .u8 0, .int .i64 0, .int .u64 0, .str [], .nilS, .int .i64 0])),
  se 6 (.st 41 (tm 41) (tm 195)),
  sv 7 42 196])
  (.seq (.reg [sm 0 198 (.ldA 55 (tm 9)),
  sc 1 199 17 [(tm 198)],
  sv 2 197 199,
  sm 3 200 (.ext (tm 197) 0),
  sm 4 201 (.ext (tm 197) 1),
  sm 5 43 (.alloc ([.int .u8 0, .nilS, .int .u8 0, .str [], .int .u8 0, .int .i64 0, .int .u64 0, .str [], .int .u64 0, .str [], .int .u8 0, .int .i64 0, .nilS, .int .i64 0] ++ rep 33 (.int .u8 0) ++ [.int .i64 0, .bool false, .int .u8 0, .int .i64 0, .int .u64 0, .str [], .nilS, .int .i64 0])),
  se 6 (.st 55 (tm 43) (tm 200)),
  sv 7 44 201])
  (.seq (.reg [sm 0 202 (.mv (.const (.bool true))),
  ⟨1, (some 203), (some ((some 202), true)), .callF 25 [], [], false⟩,
  sm 2 204 (.pick (tm 202) (tm 203) (.const (.bool false))),
  sv 3 205 204,
  sg 4 206 205 true (.mv (tm 6)),
  sg 5 207 205 true (.bin .eql 49 (tm 206) (.const (.int .i64 0))),
  sm 6 208 (.pick (tm 205) (tm 207) (.const (.bool false))),
  sv 7 209 208,
  sg 8 210 209 true (.mv (tm 8)),
  sg 9 211 209 true (.bin .eql 49 (tm 210) (.const (.int .i64 0))),
  sm 10 212 (.pick (tm 209) (tm 211) (.const (.bool false))),
  sv 11 213 212,
  sg 12 214 213 true (.mv (tm 10)),
  sg 13 215 213 true (.bin .eql 49 (tm 214) (.const (.int .i64 0))),
  sm 14 216 (.pick (tm 213) (tm 215) (.const (.bool false))),
  sv 15 217 216,
  sg 16 218 217 true (.mv (tm 12)),
  sg 17 219 217 true (.bin .eql 49 (tm 218) (.const (.int .i64 0))),
  sm 18 220 (.pick (tm 217) (tm 219) (.const (.bool false))),
  sv 19 221 220,
  sg 20 222 221 true (.mv (tm 14)),
  sg 21 223 221 true (.bin .eql 49 (tm 222) (.const (.int .i64 0))),
  sm 22 224 (.pick (tm 221) (tm 223) (.const (.bool false))),
  sv 23 225 224,
  sg 24 226 225 true (.fa 13 (tm 13)),
  sg 25 227 225 true (.ld1 (tm 226)),
  sg 26 228 225 true (.bin .eql 3 (tm 227) (.const (.int .i64 1000000000))),
  sm 27 229 (.pick (tm 225) (tm 228) (.const (.bool false))),
  sv 28 230 229,
  sg 29 231 230 true (.mv (tm 16)),
  sg 30 232 230 true (.bin .eql 49 (tm 231) (.const (.int .i64 2))),
  sm 31 233 (.pick (tm 230) (tm 232) (.const (.bool false))),
  sv 32 234 233,
  sg 33 235 234 true (.mv (tm 18)),
  sg 34 236 234 true (.bin .eql 49 (tm 235) (.const (.int .i64 2))),
  sm 35 237 (.pick (tm 234) (tm 236) (.const (.bool false))),
  sv 36 238 237,
  sg 37 239 238 true (.mv (tm 20)),
  sg 38 240 238 true (.bin .eql 49 (tm 239) (.const (.int .i64 36))),
  sm 39 241 (.pick (tm 238) (tm 240) (.const (.bool false))),
  sv 40 242 241,
  sg 41 243 242 true (.mv (tm 22)),
  sg 42 244 242 true (.bin .eql 49 (tm 243) (.const (.int .i64 36))),
  sm 43 245 (.pick (tm 242) (tm 244) (.const (.bool false))),
  sv 44 246 245,
  sg 45 247 246 true (.mv (tm 24)),
  sg 46 248 246 true (.bin .eql 49 (tm 247) (.const (.int .i64 36))),
  sm 47 249 (.pick (tm 246) (tm 248) (.const (.bool false))),
  sv 48 250 249,
  sg 49 251 250 true (.mv (tm 26)),
  sg 50 252 250 true (.bin .eql 49 (tm 251) (.const (.int .i64 2))),
  sm 51 253 (.pick (tm 250) (tm 252) (.const (.bool false))),
  sv 52 254 253,
  sg 53 255 254 true (.mv (tm 28)),
  sg 54 256 254 true (.bin .eql 49 (tm 255) (.const (.int .i64 2))),
  sm 55 257 (.pick (tm 254) (tm 256) (.const (.bool false))),
  sv 56 258 257,
  sg 57 259 258 true (.mv (tm 30)),
  sg 58 260 258 true (.bin .eql 49 (tm 259) (.const (.int .i64 2))),
  sm 59 261 (.pick (tm 258) (tm 260) (.const (.bool false))),
  sv 60 45 261])
  (.seq (.reg [sv 0 262 45,
  sv 1 263 262,
  sg 2 264 263 true (.mv (tm 32)),
  sg 3 265 263 true (.bin .eql 49 (tm 264) (.const (.int .i64 2))),
  sm 4 266 (.pick (tm 263) (tm 265) (.const (.bool false))),
  sv 5 267 266,
  sg 6 268 267 true (.mv (tm 34)),
  sg 7 269 267 true (.bin .eql 49 (tm 268) (.const (.int .i64 2))),
  sm 8 270 (.pick (tm 267) (tm 269) (.const (.bool false))),
  sv 9 271 270,
  sg 10 272 271 true (.mv (tm 36)),
  sg 11 273 271 true (.bin .eql 49 (tm 272) (.const (.int .i64 0))),
  sm 12 274 (.pick (tm 271) (tm 273) (.const (.bool false))),
  sv 13 275 274,
  sg 14 276 275 true (.fa 14 (tm 35)),
  sg 15 277 275 true (.fa 40 (tm 276)),
  sg 16 278 275 true (.ld1 (tm 277)),
  sg 17 279 275 true (.bin .eql 3 (tm 278) (.const (.int .i64 (-1)))),
  sm 18 280 (.pick (tm 275) (tm 279) (.const (.bool false))),
  sv 19 281 280,
  sg 20 282 281 true (.fa 14 (tm 35)),
  sg 21 283 281 true (.fa 33 (tm 282)),
  sg 22 284 281 true (.ld1 (tm 283)),
  sg 23 285 281 true (.bin .eql 3 (tm 284) (.const (.int .i64 3))),
  sm 24 286 (.pick (tm 281) (tm 285) (.const (.bool false))),
  sv 25 287 286,
  sg 26 288 287 true (.mv (tm 38)),
  sg 27 289 287 true (.bin .eql 49 (tm 288) (.const (.int .i64 36))),
  sm 28 290 (.pick (tm 287) (tm 289) (.const (.bool false))),
  sv 29 291 290,
  sg 30 292 291 true (.mv (tm 40)),
  sg 31 293 291 true (.bin .eql 49 (tm 292) (.const (.int .i64 2))),
  sm 32 294 (.pick (tm 291) (tm 293) (.const (.bool false))),
  sv 33 295 294,
  sg 34 296 295 true (.mv (tm 42)),
  sg 35 297 295 true (.bin .eql 49 (tm 296) (.const (.int .i64 36))),
  sm 36 298 (.pick (tm 295) (tm 297) (.const (.bool false))),
  sv 37 299 298,
  sg 38 300 299 true (.mv (tm 44)),
  sg 39 301 299 true (.bin .eql 49 (tm 300) (.const (.int .i64 0))),
  sm 40 302 (.pick (tm 299) (tm 301) (.const (.bool false))),
  sv 41 303 302,
  sg 42 304 303 true (.fa 14 (tm 43)),
  sg 43 305 303 true (.fa 0 (tm 304)),
  sg 44 306 303 true (.ld1 (tm 305)),
  sg 45 307 303 true (.bin .eql 5 (tm 306) (.const (.int .u8 3))),
  sm 46 308 (.pick (tm 303) (tm 307) (.const (.bool false))),
  sv 47 0 308])
  .ret)))))))))))))))))))))))))
def r5 : List Mo := [.mv (tm 0)]
theorem c5_eq : compF Tryz.prog 5 = some c5 := by kernel_rfl
theorem r5_eq : compRs Tryz.prog 5 = some r5 := by kernel_rfl
/-! F11 braid/calls.Need -/
def c11 : Cd := (.seq (.reg [sm 0 1 (.box (tm 0)),
  sm 1 2 (.mv (.const (.int .u8 0))),
  sm 2 3 (.mv (.const (.int .i64 0)))])
  (.seq (.seq (.reg [sm 0 5 (.ldA 55 (tm 1)),
  sc 1 6 21 [(tm 5)],
  sv 2 4 6])
  (.seq (.reg [sv 0 7 4,
  sm 1 8 (.bin .neq 49 (tm 7) (.const (.int .i64 0)))])
  (.cond (tm 8) (.seq (.reg [sv 0 9 4,
  sm 1 2 (.mv (.const (.int .u8 0))),
  sv 2 3 9])
  .ret) .skip)))
  (.seq (.reg [sm 0 10 (.ldA 55 (tm 1)),
  sc 1 11 47 [(tm 10)],
  sv 2 2 11,
  sm 3 3 (.mv (.const (.int .i64 0)))])
  .ret)))
def r11 : List Mo := [.mv (tm 2), .mv (tm 3)]
theorem c11_eq : compF Tryz.prog 11 = some c11 := by kernel_rfl
theorem r11_eq : compRs Tryz.prog 11 = some r11 := by kernel_rfl
/-! F13 braid/calls.Load -/
def c13 : Cd := (.seq (.reg [sm 0 3 (.box (tm 0)),
  sm 1 4 (.box (tm 1)),
  sm 2 6 (.alloc ([.int .u8 0, .nilS, .int .u8 0, .str [], .int .u8 0, .int .i64 0, .int .u64 0, .str [], .int .u64 0, .str [], .int .u8 0, .int .i64 0, .nilS, .int .i64 0] ++ rep 33 (.int .u8 0) ++ [.int .i64 0, .bool false, .int .u8 0, .int .i64 0, .int .u64 0, .str [], .nilS, .int .i64 0])),
  sm 3 7 (.mv (.const (.int .i64 0)))])
  (.seq (.seq (.reg [sm 0 16 (.ldA 55 (tm 3)),
  sc 1 17 49 [(tm 16), (.const (.int .u8 1))],
  sv 2 8 17])
  (.seq (.reg [sv 0 18 8,
  sm 1 19 (.bin .neq 49 (tm 18) (.const (.int .i64 0)))])
  (.cond (tm 19) (.seq (.reg [sm 0 20 (.bld ([.int .u8 0, .nilS, .int .u8 0, .str [], .int .u8 0, .int .i64 0, .int .u64 0, .str [], .int .u64 0, .str [], .int .u8 0, .int .i64 0, .nilS, .int .i64 0] ++ rep 33 (.int .u8 0) ++ [.int .i64 0, .bool false, .int .u8 0, .int .i64 0, .int .u64 0, .str [], .nilS, .int .i64 0]) []),
  sv 1 21 8,
  se 2 (.st 55 (tm 6) (tm 20)),
  sv 3 7 21])
  .ret) .skip)))
  (.seq (.seq (.reg [sm 0 22 (.ldA 4 (tm 4)),
  sc 1 23 50 [(tm 22)],
  sm 2 24 (.bin .neq 49 (tm 23) (.const (.int .i64 0)))])
  (.cond (tm 24) (.seq (.reg [sm 0 25 (.bld ([.int .u8 0, .nilS, .int .u8 0, .str [], .int .u8 0, .int .i64 0, .int .u64 0, .str [], .int .u64 0, .str [], .int .u8 0, .int .i64 0, .nilS, .int .i64 0] ++ rep 33 (.int .u8 0) ++ [.int .i64 0, .bool false, .int .u8 0, .int .i64 0, .int .u64 0, .str [], .nilS, .int .i64 0]) []),
  se 1 (.st 55 (tm 6) (tm 25)),
  sm 2 7 (.mv (.const (.int .i64 8)))])
  .ret) .skip))
  (.seq (.seq (.reg [sm 0 26 (.fa 0 (tm 3)),
  sm 1 27 (.fa 0 (tm 26)),
  sm 2 28 (.ld1 (tm 27))])
  (.block 0 (.seq (.reg [sm 0 30 (.bin .eql 5 (tm 28) (.const (.int .u8 3))),
  sv 1 29 30])
  (.cond (tm 29) (.seq (.reg [sm 0 32 (.ldA 4 (tm 4)),
  sm 1 33 (.fa 0 (tm 3)),
  sm 2 34 (.fa 9 (tm 33)),
  sm 3 35 (.ld1 (tm 34)),
  sc 4 36 44 [(tm 32), (tm 35)],
  sv 5 31 36,
  sm 6 37 (.ext (tm 31) 0),
  sm 7 38 (.ext (tm 31) 1),
  sm 8 39 (.ext (tm 31) 2),
  sm 9 10 (.alloc [.int .u8 0, .int .i64 0, .int .u64 0, .str []]),
  sv 10 9 37,
  se 11 (.st 4 (tm 10) (tm 38)),
  sv 12 11 39])
  (.seq (.reg [sm 0 40 (.ldA 55 (tm 3)),
  sm 1 41 (.fa 0 (tm 4)),
  sm 2 42 (.ld1 (tm 41)),
  sv 3 43 9,
  sm 4 44 (.ldA 4 (tm 10)),
  sm 5 45 (.bld (rep 33 (.int .u8 0) ++ [.int .i64 0, .bool false, .int .u8 0, .int .i64 0, .int .u64 0, .str [], .nilS, .int .i64 0]) [(33, 1, (tm 42)), (34, 1, (tm 43)), (35, 4, (tm 44))]),
  sc 6 46 51 [(tm 40), (tm 45)],
  sm 7 47 (.ext (tm 46) 0),
  sm 8 48 (.ext (tm 46) 1),
  se 9 (.st 55 (tm 6) (tm 47)),
  sv 10 7 48])
  .ret)) (.seq (.reg [sm 0 50 (.bin .eql 5 (tm 28) (.const (.int .u8 4))),
  sv 1 49 50])
  (.cond (tm 49) (.seq (.dreg [⟨0, (some 51), none, .mo (.ldA 55 (tm 3)), [], true⟩,
  sm 1 52 (.fa 0 (tm 4)),
  ⟨2, (some 53), none, .mo (.ld1 (tm 52)), [], true⟩,
  sm 3 54 (.fa 3 (tm 4)),
  sm 4 55 (.ld1 (tm 54)),
  ⟨5, (some 56), none, .callF 52 [(tm 55)], [2, 0], false⟩,
  sm 6 57 (.bld (rep 33 (.int .u8 0) ++ [.int .i64 0, .bool false, .int .u8 0, .int .i64 0, .int .u64 0, .str [], .nilS, .int .i64 0]) [(33, 1, (tm 53)), (39, 1, (tm 56))]),
  sc 7 58 51 [(tm 51), (tm 57)],
  sm 8 59 (.ext (tm 58) 0),
  sm 9 60 (.ext (tm 58) 1),
  se 10 (.st 55 (tm 6) (tm 59)),
  sv 11 7 60])
  .ret) .skip))))))
  (.seq (.reg [sv 0 62 2,
  sm 1 63 (.fa 3 (tm 4)),
  sm 2 64 (.ld1 (tm 63)),
  sm 3 65 (.fa 0 (tm 3)),
  sm 4 66 (.fa 8 (tm 65)),
  sm 5 67 (.ld1 (tm 66)),
  sm 6 68 (.fa 0 (tm 3)),
  sm 7 69 (.fa 2 (tm 68)),
  sm 8 70 (.ldA 6 (tm 69)),
  sc 9 71 53 [(tm 62), (tm 64), (tm 67), (tm 70)],
  sv 10 61 71,
  sm 11 72 (.ext (tm 61) 0),
  sm 12 73 (.ext (tm 61) 1),
  sm 13 74 (.ext (tm 61) 2),
  sm 14 75 (.ext (tm 61) 3),
  sm 15 12 (.alloc [.int .u32 0, .nilS, .int .u64 0, .int .u8 0, .str [], .int .u8 0, .int .i64 0, .int .u64 0, .str [], .int .u32 0, .int .u32 0]),
  sm 16 14 (.alloc (rep 32 (.int .u8 0))),
  se 17 (.st 11 (tm 12) (tm 72)),
  sv 18 13 73,
  se 19 (.st 32 (tm 14) (tm 74)),
  sv 20 15 75])
  (.seq (.seq (.reg [sv 0 76 15,
  sm 1 77 (.bin .neq 49 (tm 76) (.const (.int .i64 0)))])
  (.cond (tm 77) (.seq (.reg [sm 0 78 (.bld ([.int .u8 0, .nilS, .int .u8 0, .str [], .int .u8 0, .int .i64 0, .int .u64 0, .str [], .int .u64 0, .str [], .int .u8 0, .int .i64 0, .nilS, .int .i64 0] ++ rep 33 (.int .u8 0) ++ [.int .i64 0, .bool false, .int .u8 0, .int .i64 0, .int .u64 0, .str [], .nilS, .int .i64 0]) []),
  sv 1 79 15,
  se 2 (.st 55 (tm 6) (tm 78)),
  sv 3 7 79])
  .ret) .skip))
  (.seq (.reg [sm 0 80 (.ldA 55 (tm 3)),
  sc 1 81 54 [(tm 80)],
  se 2 (.st 55 (tm 3) (tm 81))])
  (.seq (.dreg [sm 0 82 (.fa 0 (tm 4)),
  ⟨1, (some 83), none, .mo (.ld1 (tm 82)), [], true⟩,
  sv 2 84 13,
  sm 4 86 (.fa 10 (tm 3)),
  ⟨3, (some 85), none, .callF 55 [(tm 84)], [1], false⟩,
  ⟨5, none, none, .mo (.st 1 (tm 86) (.const (.int .u8 2))), [1], false⟩,
  sm 6 87 (.fa 11 (tm 3)),
  se 7 (.st 1 (tm 87) (tm 83)),
  sm 8 88 (.fa 12 (tm 3)),
  se 9 (.st 1 (tm 88) (tm 85))])
  (.seq (.reg [sm 0 89 (.ldA 55 (tm 3)),
  se 1 (.st 55 (tm 6) (tm 89)),
  sm 2 7 (.mv (.const (.int .i64 0)))])
  .ret)))))))))
def r13 : List Mo := [.ldA 55 (tm 6), .mv (tm 7)]
theorem c13_eq : compF Tryz.prog 13 = some c13 := by kernel_rfl
theorem r13_eq : compRs Tryz.prog 13 = some r13 := by kernel_rfl
/-! F15 braid/calls.Send -/
def c15 : Cd := (.seq (.reg [sm 0 2 (.box (tm 0)),
  sm 1 4 (.alloc ([.int .u8 0, .nilS, .int .u8 0, .str [], .int .u8 0, .int .i64 0, .int .u64 0, .str [], .int .u64 0, .str [], .int .u8 0, .int .i64 0, .nilS, .int .i64 0] ++ rep 33 (.int .u8 0) ++ [.int .i64 0, .bool false, .int .u8 0, .int .i64 0, .int .u64 0, .str [], .nilS, .int .i64 0])),
  sm 2 5 (.mv (.const (.int .i64 0)))])
  (.seq (.seq (.reg [sm 0 7 (.ldA 55 (tm 2)),
  sc 1 8 49 [(tm 7), (.const (.int .u8 2))],
  sv 2 6 8])
  (.seq (.reg [sv 0 9 6,
  sm 1 10 (.bin .neq 49 (tm 9) (.const (.int .i64 0)))])
  (.cond (tm 10) (.seq (.reg [sm 0 11 (.bld ([.int .u8 0, .nilS, .int .u8 0, .str [], .int .u8 0, .int .i64 0, .int .u64 0, .str [], .int .u64 0, .str [], .int .u8 0, .int .i64 0, .nilS, .int .i64 0] ++ rep 33 (.int .u8 0) ++ [.int .i64 0, .bool false, .int .u8 0, .int .i64 0, .int .u64 0, .str [], .nilS, .int .i64 0]) []),
  sv 1 12 6,
  se 2 (.st 55 (tm 4) (tm 11)),
  sv 3 5 12])
  .ret) .skip)))
  (.seq (.seq (.reg [sv 0 13 1,
  sm 1 14 (.bin .lss 3 (tm 13) (.const (.int .i64 0))),
  sv 2 15 14,
  sg 3 16 15 false (.mv (tm 1)),
  sg 4 17 15 false (.bin .gtr 3 (tm 16) (.const (.int .i64 1000000000))),
  sm 5 18 (.pick (tm 15) (.const (.bool true)) (tm 17))])
  (.cond (tm 18) (.seq (.reg [sm 0 19 (.bld ([.int .u8 0, .nilS, .int .u8 0, .str [], .int .u8 0, .int .i64 0, .int .u64 0, .str [], .int .u64 0, .str [], .int .u8 0, .int .i64 0, .nilS, .int .i64 0] ++ rep 33 (.int .u8 0) ++ [.int .i64 0, .bool false, .int .u8 0, .int .i64 0, .int .u64 0, .str [], .nilS, .int .i64 0]) []),
  se 1 (.st 55 (tm 4) (tm 19)),
  sm 2 5 (.mv (.const (.int .i64 2)))])
  .ret) .skip))
  (.seq (.reg [sm 0 20 (.ldA 55 (tm 2)),
  sc 1 21 54 [(tm 20)],
  se 2 (.st 55 (tm 2) (tm 21))])
  (.seq (.reg [sv 0 22 1,
  sm 1 23 (.fa 10 (tm 2)),
  se 2 (.st 1 (tm 23) (.const (.int .u8 3))),
  sm 3 24 (.fa 13 (tm 2)),
  se 4 (.st 1 (tm 24) (tm 22))])
  (.seq (.reg [sm 0 25 (.ldA 55 (tm 2)),
  se 1 (.st 55 (tm 4) (tm 25)),
  sm 2 5 (.mv (.const (.int .i64 0)))])
  .ret))))))
def r15 : List Mo := [.ldA 55 (tm 4), .mv (tm 5)]
theorem c15_eq : compF Tryz.prog 15 = some c15 := by kernel_rfl
theorem r15_eq : compRs Tryz.prog 15 = some r15 := by kernel_rfl
/-! F17 braid/calls.Refuse -/
def c17 : Cd := (.seq (.reg [sm 0 1 (.box (tm 0)),
  sm 1 2 (.alloc ([.int .u8 0, .nilS, .int .u8 0, .str [], .int .u8 0, .int .i64 0, .int .u64 0, .str [], .int .u64 0, .str [], .int .u8 0, .int .i64 0, .nilS, .int .i64 0] ++ rep 33 (.int .u8 0) ++ [.int .i64 0, .bool false, .int .u8 0, .int .i64 0, .int .u64 0, .str [], .nilS, .int .i64 0])),
  sm 2 3 (.mv (.const (.int .i64 0)))])
  (.seq (.seq (.reg [sm 0 8 (.ldA 55 (tm 1)),
  sc 1 9 49 [(tm 8), (.const (.int .u8 2))],
  sv 2 4 9])
  (.seq (.reg [sv 0 10 4,
  sm 1 11 (.bin .neq 49 (tm 10) (.const (.int .i64 0)))])
  (.cond (tm 11) (.seq (.reg [sm 0 12 (.bld ([.int .u8 0, .nilS, .int .u8 0, .str [], .int .u8 0, .int .i64 0, .int .u64 0, .str [], .int .u64 0, .str [], .int .u8 0, .int .i64 0, .nilS, .int .i64 0] ++ rep 33 (.int .u8 0) ++ [.int .i64 0, .bool false, .int .u8 0, .int .i64 0, .int .u64 0, .str [], .nilS, .int .i64 0]) []),
  sv 1 13 4,
  se 2 (.st 55 (tm 2) (tm 12)),
  sv 3 3 13])
  .ret) .skip)))
  (.seq (.reg [sm 0 15 (.fa 12 (tm 1)),
  sm 1 16 (.ld1 (tm 15)),
  sc 2 17 61 [(tm 16)],
  sv 3 14 17,
  sm 4 18 (.ext (tm 14) 0),
  sm 5 19 (.ext (tm 14) 1),
  sm 6 20 (.ext (tm 14) 2),
  sm 7 5 (.alloc [.int .u32 0, .nilS, .int .u64 0, .int .u8 0, .str [], .int .u8 0, .int .i64 0, .int .u64 0, .str [], .int .u32 0, .int .u32 0]),
  sm 8 6 (.alloc (rep 32 (.int .u8 0))),
  se 9 (.st 11 (tm 5) (tm 18)),
  se 10 (.st 32 (tm 6) (tm 19)),
  sv 11 7 20])
  (.seq (.seq (.reg [sv 0 21 7,
  sm 1 22 (.bin .eql 5 (tm 21) (.const (.int .u8 0)))])
  (.cond (tm 22) (.reg [sm 0 7 (.mv (.const (.int .u8 9)))]) .skip))
  (.seq (.reg [sm 0 23 (.ldA 55 (tm 1)),
  sv 1 24 7,
  sm 2 25 (.ldA 32 (tm 6)),
  sm 3 26 (.bld (rep 33 (.int .u8 0) ++ [.int .i64 0, .bool false, .int .u8 0, .int .i64 0, .int .u64 0, .str [], .nilS, .int .i64 0]) [(0, 1, (tm 24)), (1, 32, (tm 25))]),
  sc 4 27 51 [(tm 23), (tm 26)],
  sm 5 28 (.ext (tm 27) 0),
  sm 6 29 (.ext (tm 27) 1),
  se 7 (.st 55 (tm 2) (tm 28)),
  sv 8 3 29])
  .ret)))))
def r17 : List Mo := [.ldA 55 (tm 2), .mv (tm 3)]
theorem c17_eq : compF Tryz.prog 17 = some c17 := by kernel_rfl
theorem r17_eq : compRs Tryz.prog 17 = some r17 := by kernel_rfl
/-! F19 braid/calls.Return -/
def c19 : Cd := (.seq (.reg [sm 0 1 (.box (tm 0)),
  sm 1 2 (.alloc (rep 33 (.int .u8 0) ++ [.int .i64 0, .bool false, .int .u8 0, .int .i64 0, .int .u64 0, .str [], .nilS, .int .i64 0])),
  sm 2 3 (.mv (.const (.int .i64 0)))])
  (.seq (.seq (.reg [sm 0 5 (.ldA 55 (tm 1)),
  sc 1 6 49 [(tm 5), (.const (.int .u8 6))],
  sv 2 4 6])
  (.seq (.reg [sv 0 7 4,
  sm 1 8 (.bin .neq 49 (tm 7) (.const (.int .i64 0)))])
  (.cond (tm 8) (.seq (.reg [sm 0 9 (.bld (rep 33 (.int .u8 0) ++ [.int .i64 0, .bool false, .int .u8 0, .int .i64 0, .int .u64 0, .str [], .nilS, .int .i64 0]) []),
  sv 1 10 4,
  se 2 (.st 41 (tm 2) (tm 9)),
  sv 3 3 10])
  .ret) .skip)))
  (.seq (.reg [sm 0 11 (.ldA 55 (tm 1)),
  sc 1 12 54 [(tm 11)],
  sm 2 13 (.fldA 41 14 (tm 12)),
  se 3 (.st 41 (tm 2) (tm 13)),
  sm 4 3 (.mv (.const (.int .i64 0)))])
  .ret)))
def r19 : List Mo := [.ldA 41 (tm 2), .mv (tm 3)]
theorem c19_eq : compF Tryz.prog 19 = some c19 := by kernel_rfl
theorem r19_eq : compRs Tryz.prog 19 = some r19 := by kernel_rfl
/-! F21 braid/calls.Valid -/
def c21 : Cd := (.seq (.reg [sm 0 1 (.box (tm 0)),
  sm 1 2 (.mv (.const (.int .i64 0)))])
  (.seq (.reg [sm 0 7 (.fa 13 (tm 1)),
  sm 1 8 (.ld1 (tm 7)),
  sm 2 9 (.bin .geq 3 (tm 8) (.const (.int .i64 0))),
  sv 3 10 9,
  sg 4 11 10 true (.fa 13 (tm 1)),
  sg 5 12 10 true (.ld1 (tm 11)),
  sg 6 13 10 true (.bin .leq 3 (tm 12) (.const (.int .i64 1000000000))),
  sm 7 14 (.pick (tm 10) (tm 13) (.const (.bool false))),
  sv 8 3 14])
  (.seq (.reg [sm 0 15 (.fa 0 (tm 1)),
  sm 1 16 (.ldA 10 (tm 15)),
  sc 2 17 32 [(tm 16)],
  sm 3 18 (.bin .eql 49 (tm 17) (.const (.int .i64 0))),
  sv 4 4 18])
  (.seq (.seq (.reg [sm 0 19 (.fa 10 (tm 1)),
  sm 1 20 (.ld1 (tm 19))])
  (.block 0 (.seq (.reg [sm 0 22 (.bin .eql 5 (tm 20) (.const (.int .u8 1))),
  sv 1 21 22])
  (.cond (tm 21) (.reg [sv 0 23 4,
  sv 1 24 23,
  sg 2 25 24 true (.ldA 55 (tm 1)),
  ⟨3, (some 26), (some ((some 24), true)), .callF 62 [(tm 25)], [], false⟩,
  sm 4 27 (.pick (tm 24) (tm 26) (.const (.bool false))),
  sv 5 4 27]) (.seq (.reg [sm 0 29 (.bin .eql 5 (tm 20) (.const (.int .u8 2))),
  sv 1 28 29])
  (.cond (tm 28) (.reg [sv 0 30 4,
  sv 1 31 30,
  sg 2 32 31 true (.fa 0 (tm 1)),
  sg 3 33 31 true (.fa 0 (tm 32)),
  sg 4 34 31 true (.ld1 (tm 33)),
  sg 5 35 31 true (.bin .eql 5 (tm 34) (.const (.int .u8 2))),
  sm 6 36 (.pick (tm 31) (tm 35) (.const (.bool false))),
  sv 7 37 36,
  sg 8 38 37 true (.ldA 55 (tm 1)),
  ⟨9, (some 39), (some ((some 37), true)), .callF 63 [(tm 38)], [], false⟩,
  sm 10 40 (.pick (tm 37) (tm 39) (.const (.bool false))),
  sv 11 41 40,
  sg 12 42 41 true (.fa 13 (tm 1)),
  sg 13 43 41 true (.ld1 (tm 42)),
  sg 14 44 41 true (.bin .eql 3 (tm 43) (.const (.int .i64 (-1)))),
  sm 15 45 (.pick (tm 41) (tm 44) (.const (.bool false))),
  sv 16 4 45]) (.seq (.reg [sm 0 47 (.bin .eql 5 (tm 20) (.const (.int .u8 3))),
  sv 1 46 47])
  (.cond (tm 46) (.reg [sv 0 48 4,
  sv 1 49 48,
  sg 2 50 49 true (.ldA 55 (tm 1)),
  ⟨3, (some 51), (some ((some 49), true)), .callF 63 [(tm 50)], [], false⟩,
  sm 4 52 (.pick (tm 49) (tm 51) (.const (.bool false))),
  sv 5 53 52,
  sg 6 54 53 true (.mv (tm 3)),
  sm 7 55 (.pick (tm 53) (tm 54) (.const (.bool false))),
  sv 8 4 55]) (.seq (.reg [sm 0 57 (.bin .eql 5 (tm 20) (.const (.int .u8 4))),
  sv 1 56 57])
  (.cond (tm 56) (.reg [sv 0 58 4,
  sv 1 59 58,
  sg 2 60 59 true (.ldA 55 (tm 1)),
  ⟨3, (some 61), (some ((some 59), true)), .callF 62 [(tm 60)], [], false⟩,
  sg 4 62 59 true (.mv (tm 61)),
  sg 5 63 62 false (.ldA 55 (tm 1)),
  ⟨6, (some 64), (some ((some 62), false)), .callF 63 [(tm 63)], [], false⟩,
  sg 7 65 62 false (.mv (tm 64)),
  sg 8 66 65 true (.mv (tm 3)),
  sg 9 67 65 true (.mv (tm 66)),
  sg 10 68 67 false (.fa 13 (tm 1)),
  sg 11 69 67 false (.ld1 (tm 68)),
  sg 12 70 67 false (.bin .eql 3 (tm 69) (.const (.int .i64 (-1)))),
  sg 13 71 65 true (.pick (tm 67) (.const (.bool true)) (tm 70)),
  sg 14 72 62 false (.pick (tm 65) (tm 71) (.const (.bool false))),
  sg 15 73 59 true (.pick (tm 62) (.const (.bool true)) (tm 72)),
  sm 16 74 (.pick (tm 59) (tm 73) (.const (.bool false))),
  sv 17 4 74]) (.reg [sm 0 4 (.mv (.const (.bool false)))])))))))))))
  (.seq (.reg [sm 0 75 (.fa 14 (tm 1)),
  sm 1 76 (.ldA 41 (tm 75)),
  sm 2 5 (.alloc (rep 33 (.int .u8 0) ++ [.int .i64 0, .bool false, .int .u8 0, .int .i64 0, .int .u64 0, .str [], .nilS, .int .i64 0])),
  se 3 (.st 41 (tm 5) (tm 76))])
  (.seq (.reg [sm 0 77 (.fa 0 (tm 5)),
  sm 1 78 (.ld1 (tm 77)),
  sm 2 79 (.bin .eql 5 (tm 78) (.const (.int .u8 0))),
  sv 3 80 79,
  sg 4 81 80 true (.fa 1 (tm 5)),
  sg 5 82 80 true (.ldA 32 (tm 81)),
  sg 6 83 80 true (.bld (rep 32 (.int .u8 0)) []),
  sg 7 84 80 true (.bin .eql 31 (tm 82) (tm 83)),
  sm 8 85 (.pick (tm 80) (tm 84) (.const (.bool false))),
  sv 9 86 85,
  sg 10 87 86 true (.fa 33 (tm 5)),
  sg 11 88 86 true (.ld1 (tm 87)),
  sg 12 89 86 true (.bin .eql 3 (tm 88) (.const (.int .i64 0))),
  sm 13 90 (.pick (tm 86) (tm 89) (.const (.bool false))),
  sv 14 91 90,
  sg 15 92 91 true (.fa 34 (tm 5)),
  sg 16 93 91 true (.ld1 (tm 92)),
  sg 17 94 91 true (.un .not (tm 93)),
  sm 18 95 (.pick (tm 91) (tm 94) (.const (.bool false))),
  sv 19 96 95,
  sg 20 97 96 true (.fa 35 (tm 5)),
  sg 21 98 96 true (.ldA 4 (tm 97)),
  sg 22 99 96 true (.bld [.int .u8 0, .int .i64 0, .int .u64 0, .str []] []),
  sg 23 100 96 true (.bin .eql 25 (tm 98) (tm 99)),
  sm 24 101 (.pick (tm 96) (tm 100) (.const (.bool false))),
  sv 25 102 101,
  sg 26 103 102 true (.fa 39 (tm 5)),
  sg 27 104 102 true (.ld1 (tm 103)),
  sg 28 105 102 true (.len (.sl 32) (tm 104)),
  sg 29 106 102 true (.bin .eql 3 (tm 105) (.const (.int .i64 0))),
  sm 30 107 (.pick (tm 102) (tm 106) (.const (.bool false))),
  sv 31 108 107,
  sg 32 109 108 true (.fa 40 (tm 5)),
  sg 33 110 108 true (.ld1 (tm 109)),
  sg 34 111 108 true (.bin .eql 3 (tm 110) (.const (.int .i64 0))),
  sm 35 112 (.pick (tm 108) (tm 111) (.const (.bool false))),
  sv 36 6 112])
  (.seq (.seq (.reg [sv 0 113 4,
  sm 1 114 (.un .not (tm 113)),
  sv 2 115 114,
  sg 3 116 115 false (.fa 10 (tm 1)),
  sg 4 117 115 false (.ld1 (tm 116)),
  sg 5 118 115 false (.bin .neq 5 (tm 117) (.const (.int .u8 4))),
  sg 6 119 115 false (.mv (tm 118)),
  sg 7 120 119 true (.mv (tm 6)),
  sg 8 121 119 true (.un .not (tm 120)),
  sg 9 122 115 false (.pick (tm 119) (tm 121) (.const (.bool false))),
  sm 10 123 (.pick (tm 115) (.const (.bool true)) (tm 122))])
  (.cond (tm 123) (.seq (.reg [sm 0 2 (.mv (.const (.int .i64 8)))])
  .ret) .skip))
  (.seq (.reg [sm 0 2 (.mv (.const (.int .i64 0)))])
  .ret))))))))
def r21 : List Mo := [.mv (tm 2)]
theorem c21_eq : compF Tryz.prog 21 = some c21 := by kernel_rfl
theorem r21_eq : compRs Tryz.prog 21 = some r21 := by kernel_rfl
/-! F24 braid/braidref28.SameAnswer -/
def l24_0 : Cd := (.seq (.seq (.reg [sv 0 55 5,
  sm 1 56 (.fa 39 (tm 2)),
  sm 2 57 (.ld1 (tm 56)),
  sm 3 58 (.len (.sl 32) (tm 57)),
  sm 4 59 (.bin .lss 3 (tm 55) (tm 58))])
  (.cond (tm 59) .skip (.exit 0)))
  (.seq (.block 1 (.seq (.reg [sm 0 62 (.fa 39 (tm 2)),
  sm 1 63 (.ld1 (tm 62)),
  sv 2 64 5,
  sm 3 65 (.ia (.sl 32) (tm 63) (tm 64)),
  sm 4 66 (.ldA 32 (tm 65)),
  sm 5 67 (.fa 39 (tm 3)),
  sm 6 68 (.ld1 (tm 67)),
  sv 7 69 5,
  sm 8 70 (.ia (.sl 32) (tm 68) (tm 69)),
  sm 9 71 (.ldA 32 (tm 70)),
  sm 10 72 (.bin .neq 31 (tm 66) (tm 71))])
  (.cond (tm 72) (.seq (.reg [sm 0 4 (.mv (.const (.bool false)))])
  .ret) .skip)))
  (.reg [sv 0 60 5,
  sm 1 61 (.bin .add 3 (tm 60) (.const (.int .i64 1))),
  sv 2 5 61])))
def c24 : Cd := (.seq (.reg [sm 0 2 (.box (tm 0)),
  sm 1 3 (.box (tm 1)),
  sm 2 4 (.mv (.const (.bool false)))])
  (.seq (.seq (.reg [sm 0 6 (.fa 0 (tm 2)),
  sm 1 7 (.ld1 (tm 6)),
  sm 2 8 (.fa 0 (tm 3)),
  sm 3 9 (.ld1 (tm 8)),
  sm 4 10 (.bin .neq 5 (tm 7) (tm 9)),
  sv 5 11 10,
  sg 6 12 11 false (.fa 1 (tm 2)),
  sg 7 13 11 false (.ldA 32 (tm 12)),
  sg 8 14 11 false (.fa 1 (tm 3)),
  sg 9 15 11 false (.ldA 32 (tm 14)),
  sg 10 16 11 false (.bin .neq 31 (tm 13) (tm 15)),
  sm 11 17 (.pick (tm 11) (.const (.bool true)) (tm 16)),
  sv 12 18 17,
  sg 13 19 18 false (.fa 33 (tm 2)),
  sg 14 20 18 false (.ld1 (tm 19)),
  sg 15 21 18 false (.fa 33 (tm 3)),
  sg 16 22 18 false (.ld1 (tm 21)),
  sg 17 23 18 false (.bin .neq 3 (tm 20) (tm 22)),
  sm 18 24 (.pick (tm 18) (.const (.bool true)) (tm 23)),
  sv 19 25 24,
  sg 20 26 25 false (.fa 34 (tm 2)),
  sg 21 27 25 false (.ld1 (tm 26)),
  sg 22 28 25 false (.fa 34 (tm 3)),
  sg 23 29 25 false (.ld1 (tm 28)),
  sg 24 30 25 false (.bin .neq 4 (tm 27) (tm 29)),
  sm 25 31 (.pick (tm 25) (.const (.bool true)) (tm 30)),
  sv 26 32 31,
  sg 27 33 32 false (.fa 35 (tm 2)),
  sg 28 34 32 false (.ldA 4 (tm 33)),
  sg 29 35 32 false (.fa 35 (tm 3)),
  sg 30 36 32 false (.ldA 4 (tm 35)),
  sg 31 37 32 false (.bin .neq 25 (tm 34) (tm 36)),
  sm 32 38 (.pick (tm 32) (.const (.bool true)) (tm 37)),
  sv 33 39 38,
  sg 34 40 39 false (.fa 40 (tm 2)),
  sg 35 41 39 false (.ld1 (tm 40)),
  sg 36 42 39 false (.fa 40 (tm 3)),
  sg 37 43 39 false (.ld1 (tm 42)),
  sg 38 44 39 false (.bin .neq 3 (tm 41) (tm 43)),
  sm 39 45 (.pick (tm 39) (.const (.bool true)) (tm 44)),
  sv 40 46 45,
  sg 41 47 46 false (.fa 39 (tm 2)),
  sg 42 48 46 false (.ld1 (tm 47)),
  sg 43 49 46 false (.len (.sl 32) (tm 48)),
  sg 44 50 46 false (.fa 39 (tm 3)),
  sg 45 51 46 false (.ld1 (tm 50)),
  sg 46 52 46 false (.len (.sl 32) (tm 51)),
  sg 47 53 46 false (.bin .neq 3 (tm 49) (tm 52)),
  sm 48 54 (.pick (tm 46) (.const (.bool true)) (tm 53))])
  (.cond (tm 54) (.seq (.reg [sm 0 4 (.mv (.const (.bool false)))])
  .ret) .skip))
  (.seq (.seq (.reg [sm 0 5 (.mv (.const (.int .i64 0)))])
  (.block 0 (.loop l24_0)))
  (.seq (.reg [sm 0 4 (.mv (.const (.bool true)))])
  .ret))))
def r24 : List Mo := [.mv (tm 4)]
theorem c24_eq : compF Tryz.prog 24 = some c24 := by kernel_rfl
theorem r24_eq : compRs Tryz.prog 24 = some r24 := by kernel_rfl
/-! F25 braid/braidlaw28.alive -/
def c25 : Cd := (.seq (.reg [sm 0 0 (.mv (.const (.bool false)))])
  (.seq (.reg [sm 0 20 (.bld [.int .u8 0, .nilS, .int .u8 0, .str [], .int .u8 0, .int .i64 0, .int .u64 0, .str [], .int .u64 0, .str []] [(0, 1, (.const (.int .u8 3))), (9, 1, (.const (.string ⟨#[107]⟩)))]),
  sc 1 21 28 [(tm 20)],
  sv 2 19 21,
  sm 3 22 (.ext (tm 19) 0),
  sm 4 23 (.ext (tm 19) 1),
  sm 5 1 (.alloc ([.int .u8 0, .nilS, .int .u8 0, .str [], .int .u8 0, .int .i64 0, .int .u64 0, .str [], .int .u64 0, .str [], .int .u8 0, .int .i64 0, .nilS, .int .i64 0] ++ rep 33 (.int .u8 0) ++ [.int .i64 0, .bool false, .int .u8 0, .int .i64 0, .int .u64 0, .str [], .nilS, .int .i64 0])),
  se 6 (.st 55 (tm 1) (tm 22)),
  sv 7 2 23])
  (.seq (.dreg [⟨0, (some 25), none, .mo (.ldA 55 (tm 1)), [], true⟩,
  ⟨6, (some 3), none, .mo (.alloc ([.int .u8 0, .nilS, .int .u8 0, .str [], .int .u8 0, .int .i64 0, .int .u64 0, .str [], .int .u64 0, .str [], .int .u8 0, .int .i64 0, .nilS, .int .i64 0] ++ rep 33 (.int .u8 0) ++ [.int .i64 0, .bool false, .int .u8 0, .int .i64 0, .int .u64 0, .str [], .nilS, .int .i64 0])), [], true⟩,
  ⟨1, (some 26), none, .callF 33 [], [6, 0], false⟩,
  ⟨2, (some 27), none, .callF 13 [(tm 25), (tm 26), (.const (.int .u32 1))], [6], false⟩,
  sv 3 24 27,
  sm 4 28 (.ext (tm 24) 0),
  sm 5 29 (.ext (tm 24) 1),
  se 7 (.st 55 (tm 3) (tm 28)),
  sv 8 4 29])
  (.seq (.reg [sm 0 31 (.ldA 55 (tm 3)),
  sc 1 32 19 [(tm 31)],
  sv 2 30 32,
  sm 3 33 (.ext (tm 30) 0),
  sm 4 34 (.ext (tm 30) 1),
  sm 5 5 (.alloc (rep 33 (.int .u8 0) ++ [.int .i64 0, .bool false, .int .u8 0, .int .i64 0, .int .u64 0, .str [], .nilS, .int .i64 0])),
  se 6 (.st 41 (tm 5) (tm 33)),
  sv 7 6 34])
  (.seq (.reg [sm 0 36 (.bsl 1 [.int .u8 0] 1 [(0, (.const (.int .u8 1)))]),
  sm 1 37 (.bld [.int .u8 0, .nilS, .int .u8 0, .str [], .int .u8 0, .int .i64 0, .int .u64 0, .str [], .int .u64 0, .str []] [(0, 1, (.const (.int .u8 1))), (1, 1, (tm 36))]),
  sc 2 38 28 [(tm 37)],
  sv 3 35 38,
  sm 4 39 (.ext (tm 35) 0),
  sm 5 40 (.ext (tm 35) 1),
  sm 6 7 (.alloc ([.int .u8 0, .nilS, .int .u8 0, .str [], .int .u8 0, .int .i64 0, .int .u64 0, .str [], .int .u64 0, .str [], .int .u8 0, .int .i64 0, .nilS, .int .i64 0] ++ rep 33 (.int .u8 0) ++ [.int .i64 0, .bool false, .int .u8 0, .int .i64 0, .int .u64 0, .str [], .nilS, .int .i64 0])),
  se 7 (.st 55 (tm 7) (tm 39)),
  sv 8 8 40])
  (.seq (.reg [sm 0 42 (.ldA 55 (tm 7)),
  sc 1 43 11 [(tm 42)],
  sv 2 41 43,
  sm 3 44 (.ext (tm 41) 0),
  sm 4 45 (.ext (tm 41) 1),
  sv 5 9 44,
  sv 6 10 45])
  (.seq (.reg [sm 0 47 (.ldA 55 (tm 7)),
  sc 1 48 17 [(tm 47)],
  sv 2 46 48,
  sm 3 49 (.ext (tm 46) 0),
  sm 4 50 (.ext (tm 46) 1),
  sm 5 11 (.alloc ([.int .u8 0, .nilS, .int .u8 0, .str [], .int .u8 0, .int .i64 0, .int .u64 0, .str [], .int .u64 0, .str [], .int .u8 0, .int .i64 0, .nilS, .int .i64 0] ++ rep 33 (.int .u8 0) ++ [.int .i64 0, .bool false, .int .u8 0, .int .i64 0, .int .u64 0, .str [], .nilS, .int .i64 0])),
  se 6 (.st 55 (tm 11) (tm 49)),
  sv 7 12 50])
  (.seq (.reg [sm 0 52 (.ldA 55 (tm 11)),
  sc 1 53 19 [(tm 52)],
  sv 2 51 53,
  sm 3 54 (.ext (tm 51) 0),
  sm 4 55 (.ext (tm 51) 1),
  sm 5 13 (.alloc (rep 33 (.int .u8 0) ++ [.int .i64 0, .bool false, .int .u8 0, .int .i64 0, .int .u64 0, .str [], .nilS, .int .i64 0])),
  se 6 (.st 41 (tm 13) (tm 54)),
  sv 7 14 55])
  (.seq (.reg [sm 0 57 (.ldA 55 (tm 7)),
  sc 1 58 15 [(tm 57), (.const (.int .i64 7))],
  sv 2 56 58,
  sm 3 59 (.ext (tm 56) 0),
  sm 4 60 (.ext (tm 56) 1),
  sm 5 15 (.alloc ([.int .u8 0, .nilS, .int .u8 0, .str [], .int .u8 0, .int .i64 0, .int .u64 0, .str [], .int .u64 0, .str [], .int .u8 0, .int .i64 0, .nilS, .int .i64 0] ++ rep 33 (.int .u8 0) ++ [.int .i64 0, .bool false, .int .u8 0, .int .i64 0, .int .u64 0, .str [], .nilS, .int .i64 0])),
  se 6 (.st 55 (tm 15) (tm 59)),
  sv 7 16 60])
  (.seq (.reg [sm 0 62 (.ldA 55 (tm 15)),
  sc 1 63 11 [(tm 62)],
  sv 2 61 63,
  sm 3 64 (.ext (tm 61) 0),
  sm 4 65 (.ext (tm 61) 1),
  sv 5 17 64,
  sv 6 18 65])
  (.seq (.reg [sv 0 66 2,
  sm 1 67 (.bin .eql 49 (tm 66) (.const (.int .i64 0))),
  sv 2 68 67,
  sg 3 69 68 true (.mv (tm 4)),
  sg 4 70 68 true (.bin .eql 49 (tm 69) (.const (.int .i64 0))),
  sm 5 71 (.pick (tm 68) (tm 70) (.const (.bool false))),
  sv 6 72 71,
  sg 7 73 72 true (.mv (tm 6)),
  sg 8 74 72 true (.bin .eql 49 (tm 73) (.const (.int .i64 0))),
  sm 9 75 (.pick (tm 72) (tm 74) (.const (.bool false))),
  sv 10 76 75,
  sg 11 77 76 true (.ldA 41 (tm 5)),
  sg 12 78 76 true (.bld (rep 33 (.int .u8 0) ++ [.int .i64 0, .bool false, .int .u8 0, .int .i64 0, .int .u64 0, .str [], .nilS, .int .i64 0]) []),
  ⟨13, (some 79), (some ((some 76), true)), .callF 24 [(tm 77), (tm 78)], [], false⟩,
  sm 14 80 (.pick (tm 76) (tm 79) (.const (.bool false))),
  sv 15 81 80,
  sg 16 82 81 true (.mv (tm 8)),
  sg 17 83 81 true (.bin .eql 49 (tm 82) (.const (.int .i64 0))),
  sm 18 84 (.pick (tm 81) (tm 83) (.const (.bool false))),
  sv 19 85 84,
  sg 20 86 85 true (.mv (tm 10)),
  sg 21 87 85 true (.bin .eql 49 (tm 86) (.const (.int .i64 0))),
  sm 22 88 (.pick (tm 85) (tm 87) (.const (.bool false))),
  sv 23 89 88,
  sg 24 90 89 true (.mv (tm 9)),
  sg 25 91 89 true (.bin .eql 5 (tm 90) (.const (.int .u8 2))),
  sm 26 92 (.pick (tm 89) (tm 91) (.const (.bool false))),
  sv 27 93 92,
  sg 28 94 93 true (.mv (tm 12)),
  sg 29 95 93 true (.bin .eql 49 (tm 94) (.const (.int .i64 0))),
  sm 30 96 (.pick (tm 93) (tm 95) (.const (.bool false))),
  sv 31 97 96,
  sg 32 98 97 true (.mv (tm 14)),
  sg 33 99 97 true (.bin .eql 49 (tm 98) (.const (.int .i64 0))),
  sm 34 100 (.pick (tm 97) (tm 99) (.const (.bool false))),
  sv 35 101 100,
  sg 36 102 101 true (.fa 0 (tm 13)),
  sg 37 103 101 true (.ld1 (tm 102)),
  sg 38 104 101 true (.bin .eql 5 (tm 103) (.const (.int .u8 2))),
  sm 39 105 (.pick (tm 101) (tm 104) (.const (.bool false))),
  sv 40 106 105,
  sg 41 107 106 true (.mv (tm 16)),
  sg 42 108 106 true (.bin .eql 49 (tm 107) (.const (.int .i64 0))),
  sm 43 109 (.pick (tm 106) (tm 108) (.const (.bool false))),
  sv 44 110 109,
  sg 45 111 110 true (.fa 13 (tm 15)),
  sg 46 112 110 true (.ld1 (tm 111)),
  sg 47 113 110 true (.bin .eql 3 (tm 112) (.const (.int .i64 7))),
  sm 48 114 (.pick (tm 110) (tm 113) (.const (.bool false))),
  sv 49 115 114,
  sg 50 116 115 true (.mv (tm 18)),
  sg 51 117 115 true (.bin .eql 49 (tm 116) (.const (.int .i64 0))),
  sm 52 118 (.pick (tm 115) (tm 117) (.const (.bool false))),
  sv 53 119 118,
  sg 54 120 119 true (.mv (tm 17)),
  sg 55 121 119 true (.bin .eql 5 (tm 120) (.const (.int .u8 5))),
  sm 56 122 (.pick (tm 119) (tm 121) (.const (.bool false))),
  sv 57 0 122])
  .ret)))))))))))
def r25 : List Mo := [.mv (tm 0)]
theorem c25_eq : compF Tryz.prog 25 = some c25 := by kernel_rfl
theorem r25_eq : compRs Tryz.prog 25 = some r25 := by kernel_rfl
/-! F28 braid/calls.New -/
def c28 : Cd := (.seq (.reg [sm 0 1 (.box (tm 0)),
  sm 1 2 (.alloc ([.int .u8 0, .nilS, .int .u8 0, .str [], .int .u8 0, .int .i64 0, .int .u64 0, .str [], .int .u64 0, .str [], .int .u8 0, .int .i64 0, .nilS, .int .i64 0] ++ rep 33 (.int .u8 0) ++ [.int .i64 0, .bool false, .int .u8 0, .int .i64 0, .int .u64 0, .str [], .nilS, .int .i64 0])),
  sm 2 3 (.mv (.const (.int .i64 0)))])
  (.seq (.seq (.reg [sm 0 5 (.ldA 10 (tm 1)),
  sc 1 6 32 [(tm 5)],
  sv 2 4 6])
  (.seq (.reg [sv 0 7 4,
  sm 1 8 (.bin .neq 49 (tm 7) (.const (.int .i64 0)))])
  (.cond (tm 8) (.seq (.reg [sm 0 9 (.bld ([.int .u8 0, .nilS, .int .u8 0, .str [], .int .u8 0, .int .i64 0, .int .u64 0, .str [], .int .u64 0, .str [], .int .u8 0, .int .i64 0, .nilS, .int .i64 0] ++ rep 33 (.int .u8 0) ++ [.int .i64 0, .bool false, .int .u8 0, .int .i64 0, .int .u64 0, .str [], .nilS, .int .i64 0]) []),
  sv 1 10 4,
  se 2 (.st 55 (tm 2) (tm 9)),
  sv 3 3 10])
  .ret) .skip)))
  (.seq (.reg [sm 0 11 (.ldA 10 (tm 1)),
  sm 1 12 (.fa 1 (tm 1)),
  sm 2 13 (.ld1 (tm 12)),
  sm 3 14 (.bld ([.int .u8 0, .nilS, .int .u8 0, .str [], .int .u8 0, .int .i64 0, .int .u64 0, .str [], .int .u64 0, .str [], .int .u8 0, .int .i64 0, .nilS, .int .i64 0] ++ rep 33 (.int .u8 0) ++ [.int .i64 0, .bool false, .int .u8 0, .int .i64 0, .int .u64 0, .str [], .nilS, .int .i64 0]) [(0, 10, (tm 11)), (10, 1, (.const (.int .u8 1))), (12, 1, (tm 13)), (13, 1, (.const (.int .i64 (-1))))]),
  sc 4 15 54 [(tm 14)],
  se 5 (.st 55 (tm 2) (tm 15)),
  sm 6 3 (.mv (.const (.int .i64 0)))])
  .ret)))
def r28 : List Mo := [.ldA 55 (tm 2), .mv (tm 3)]
theorem c28_eq : compF Tryz.prog 28 = some c28 := by kernel_rfl
theorem r28_eq : compRs Tryz.prog 28 = some r28 := by kernel_rfl
/-! F32 braid/calls.Check -/
def c32 : Cd := (.seq (.reg [sm 0 1 (.box (tm 0)),
  sm 1 2 (.mv (.const (.int .i64 0)))])
  (.seq (.reg [sm 0 3 (.mv (.func 76))])
  (.seq (.block 0 (.seq (.dreg [sm 0 5 (.fa 0 (tm 1)),
  sm 1 6 (.ld1 (tm 5)),
  sm 2 7 (.bin .lss 5 (tm 6) (.const (.int .u8 1))),
  sv 3 8 7,
  sg 4 9 8 false (.fa 0 (tm 1)),
  sg 5 10 8 false (.ld1 (tm 9)),
  sg 6 11 8 false (.bin .gtr 5 (tm 10) (.const (.int .u8 6))),
  sm 7 12 (.pick (tm 8) (.const (.bool true)) (tm 11)),
  sv 8 13 12,
  ⟨9, (some 14), (some ((some 13), false)), .mo (.ldA 10 (tm 1)), [], true⟩,
  sg 10 15 13 false (.ldA 10 (tm 1)),
  ⟨11, (some 16), (some ((some 13), false)), .callF 79 [(tm 15)], [9], false⟩,
  ⟨12, (some 17), (some ((some 13), false)), .callF 78 [(tm 14), (tm 16)], [], false⟩,
  sg 13 18 13 false (.un .not (tm 17)),
  sm 14 19 (.pick (tm 13) (.const (.bool true)) (tm 18)),
  sv 15 4 19])
  (.cond (tm 4) (.seq (.reg [sm 0 2 (.mv (.const (.int .i64 8)))])
  .ret) (.seq (.reg [sm 0 21 (.fa 1 (tm 1)),
  sm 1 22 (.ld1 (tm 21)),
  sm 2 23 (.len (.sl 1) (tm 22)),
  sm 3 24 (.bin .gtr 3 (tm 23) (.const (.int .i64 2000))),
  sv 4 25 24,
  sg 5 26 25 false (.fa 8 (tm 1)),
  sg 6 27 25 false (.ld1 (tm 26)),
  sg 7 28 25 false (.bin .gtr 23 (tm 27) (.const (.int .u64 1000000000000))),
  sm 8 29 (.pick (tm 25) (.const (.bool true)) (tm 28)),
  sv 9 20 29])
  (.cond (tm 20) (.seq (.reg [sm 0 2 (.mv (.const (.int .i64 8)))])
  .ret) (.seq (.reg [sm 0 31 (.fa 0 (tm 1)),
  sm 1 32 (.ld1 (tm 31)),
  sm 2 33 (.bin .eql 5 (tm 32) (.const (.int .u8 3))),
  sv 3 34 33,
  sg 4 35 34 true (.mv (tm 3)),
  sg 5 36 34 true (.fa 9 (tm 1)),
  sg 6 37 34 true (.ld1 (tm 36)),
  ⟨7, (some 38), (some ((some 34), true)), .callV (tm 35) [(tm 37)], [], false⟩,
  sg 8 39 34 true (.un .not (tm 38)),
  sm 9 40 (.pick (tm 34) (tm 39) (.const (.bool false))),
  sv 10 30 40])
  (.cond (tm 30) (.seq (.reg [sm 0 2 (.mv (.const (.int .i64 8)))])
  .ret) (.seq (.reg [sm 0 42 (.fa 0 (tm 1)),
  sm 1 43 (.ld1 (tm 42)),
  sm 2 44 (.bin .eql 5 (tm 43) (.const (.int .u8 2))),
  sv 3 45 44,
  sg 4 46 45 true (.fa 2 (tm 1)),
  sg 5 47 45 true (.ldA 6 (tm 46)),
  ⟨6, (some 48), (some ((some 45), true)), .callF 77 [(tm 47)], [], false⟩,
  sg 7 49 45 true (.bin .neq 49 (tm 48) (.const (.int .i64 0))),
  sm 8 50 (.pick (tm 45) (tm 49) (.const (.bool false))),
  sv 9 41 50])
  (.cond (tm 41) (.seq (.reg [sm 0 2 (.mv (.const (.int .i64 8)))])
  .ret) .skip)))))))))
  (.seq (.reg [sm 0 2 (.mv (.const (.int .i64 0)))])
  .ret))))
def r32 : List Mo := [.mv (tm 2)]
theorem c32_eq : compF Tryz.prog 32 = some c32 := by kernel_rfl
theorem r32_eq : compRs Tryz.prog 32 = some r32 := by kernel_rfl
/-! F33 braid/fold.New -/
def c33 : Cd := (.seq (.reg [sm 0 0 (.alloc [.int .i64 0, .nilS, .nilS, .nilS])])
  (.seq (.reg [sm 0 1 (.bld [.int .i64 0, .nilS, .nilS, .nilS] []),
  se 1 (.st 4 (tm 0) (tm 1))])
  .ret))
def r33 : List Mo := [.ldA 4 (tm 0)]
theorem c33_eq : compF Tryz.prog 33 = some c33 := by kernel_rfl
theorem r33_eq : compRs Tryz.prog 33 = some r33 := by kernel_rfl
/-! F34 braid/calls.Tell -/
def c34 : Cd := (.seq (.reg [sm 0 4 (.box (tm 0)),
  sm 1 6 (.box (tm 2)),
  sm 2 8 (.alloc ([.int .u8 0, .nilS, .int .u8 0, .str [], .int .u8 0, .int .i64 0, .int .u64 0, .str [], .int .u64 0, .str [], .int .u8 0, .int .i64 0, .nilS, .int .i64 0] ++ rep 33 (.int .u8 0) ++ [.int .i64 0, .bool false, .int .u8 0, .int .i64 0, .int .u64 0, .str [], .nilS, .int .i64 0])),
  sm 3 9 (.mv (.const (.int .i64 0)))])
  (.seq (.seq (.reg [sm 0 11 (.ldA 55 (tm 4)),
  sc 1 12 49 [(tm 11), (.const (.int .u8 5))],
  sv 2 10 12])
  (.seq (.reg [sv 0 13 10,
  sm 1 14 (.bin .neq 49 (tm 13) (.const (.int .i64 0)))])
  (.cond (tm 14) (.seq (.reg [sm 0 15 (.bld ([.int .u8 0, .nilS, .int .u8 0, .str [], .int .u8 0, .int .i64 0, .int .u64 0, .str [], .int .u64 0, .str [], .int .u8 0, .int .i64 0, .nilS, .int .i64 0] ++ rep 33 (.int .u8 0) ++ [.int .i64 0, .bool false, .int .u8 0, .int .i64 0, .int .u64 0, .str [], .nilS, .int .i64 0]) []),
  sv 1 16 10,
  se 2 (.st 55 (tm 8) (tm 15)),
  sv 3 9 16])
  .ret) .skip)))
  (.seq (.seq (.reg [sv 0 17 1,
  sm 1 18 (.bin .lss 5 (tm 17) (.const (.int .u8 1))),
  sv 2 19 18,
  sg 3 20 19 false (.mv (tm 1)),
  sg 4 21 19 false (.bin .gtr 5 (tm 20) (.const (.int .u8 9))),
  sm 5 22 (.pick (tm 19) (.const (.bool true)) (tm 21)),
  sv 6 23 22,
  sg 7 24 23 false (.mv (tm 3)),
  sg 8 25 23 false (.bin .lss 3 (tm 24) (.const (.int .i64 0))),
  sm 9 26 (.pick (tm 23) (.const (.bool true)) (tm 25))])
  (.cond (tm 26) (.seq (.reg [sm 0 27 (.bld ([.int .u8 0, .nilS, .int .u8 0, .str [], .int .u8 0, .int .i64 0, .int .u64 0, .str [], .int .u64 0, .str [], .int .u8 0, .int .i64 0, .nilS, .int .i64 0] ++ rep 33 (.int .u8 0) ++ [.int .i64 0, .bool false, .int .u8 0, .int .i64 0, .int .u64 0, .str [], .nilS, .int .i64 0]) []),
  se 1 (.st 55 (tm 8) (tm 27)),
  sm 2 9 (.mv (.const (.int .i64 2)))])
  .ret) .skip))
  (.seq (.reg [sm 0 28 (.ldA 55 (tm 4)),
  sv 1 29 1,
  sm 2 30 (.ldA 32 (tm 6)),
  sv 3 31 3,
  sm 4 32 (.bld (rep 33 (.int .u8 0) ++ [.int .i64 0, .bool false, .int .u8 0, .int .i64 0, .int .u64 0, .str [], .nilS, .int .i64 0]) [(0, 1, (tm 29)), (1, 32, (tm 30)), (33, 1, (tm 31))]),
  sc 5 33 51 [(tm 28), (tm 32)],
  sm 6 34 (.ext (tm 33) 0),
  sm 7 35 (.ext (tm 33) 1),
  se 8 (.st 55 (tm 8) (tm 34)),
  sv 9 9 35])
  .ret))))
def r34 : List Mo := [.ldA 55 (tm 8), .mv (tm 9)]
theorem c34_eq : compF Tryz.prog 34 = some c34 := by kernel_rfl
theorem r34_eq : compRs Tryz.prog 34 = some r34 := by kernel_rfl
/-! F35 braid/calls.Subscribe -/
def c35 : Cd := (.seq (.reg [sm 0 3 (.box (tm 0)),
  sm 1 6 (.alloc ([.int .u8 0, .nilS, .int .u8 0, .str [], .int .u8 0, .int .i64 0, .int .u64 0, .str [], .int .u64 0, .str [], .int .u8 0, .int .i64 0, .nilS, .int .i64 0] ++ rep 33 (.int .u8 0) ++ [.int .i64 0, .bool false, .int .u8 0, .int .i64 0, .int .u64 0, .str [], .nilS, .int .i64 0])),
  sm 2 7 (.mv (.const (.int .i64 0)))])
  (.seq (.seq (.reg [sm 0 9 (.ldA 55 (tm 3)),
  sc 1 10 49 [(tm 9), (.const (.int .u8 3))],
  sv 2 8 10])
  (.seq (.reg [sv 0 11 8,
  sm 1 12 (.bin .neq 49 (tm 11) (.const (.int .i64 0)))])
  (.cond (tm 12) (.seq (.reg [sm 0 13 (.bld ([.int .u8 0, .nilS, .int .u8 0, .str [], .int .u8 0, .int .i64 0, .int .u64 0, .str [], .int .u64 0, .str [], .int .u8 0, .int .i64 0, .nilS, .int .i64 0] ++ rep 33 (.int .u8 0) ++ [.int .i64 0, .bool false, .int .u8 0, .int .i64 0, .int .u64 0, .str [], .nilS, .int .i64 0]) []),
  sv 1 14 8,
  se 2 (.st 55 (tm 6) (tm 13)),
  sv 3 7 14])
  .ret) .skip)))
  (.seq (.seq (.reg [sv 0 15 1,
  sm 1 16 (.bin .lss 3 (tm 15) (.const (.int .i64 (-1)))),
  sv 2 17 16,
  sg 3 18 17 false (.mv (tm 1)),
  sg 4 19 17 false (.bin .geq 3 (tm 18) (.const (.int .i64 60))),
  sm 5 20 (.pick (tm 17) (.const (.bool true)) (tm 19)),
  sv 6 21 20,
  sg 7 22 21 false (.mv (tm 2)),
  sg 8 23 21 false (.bin .lss 3 (tm 22) (.const (.int .i64 0))),
  sm 9 24 (.pick (tm 21) (.const (.bool true)) (tm 23))])
  (.cond (tm 24) (.seq (.reg [sm 0 25 (.bld ([.int .u8 0, .nilS, .int .u8 0, .str [], .int .u8 0, .int .i64 0, .int .u64 0, .str [], .int .u64 0, .str [], .int .u8 0, .int .i64 0, .nilS, .int .i64 0] ++ rep 33 (.int .u8 0) ++ [.int .i64 0, .bool false, .int .u8 0, .int .i64 0, .int .u64 0, .str [], .nilS, .int .i64 0]) []),
  se 1 (.st 55 (tm 6) (tm 25)),
  sm 2 7 (.mv (.const (.int .i64 2)))])
  .ret) .skip))
  (.seq (.reg [sm 0 26 (.ldA 55 (tm 3)),
  sv 1 27 1,
  sv 2 28 2,
  sm 3 29 (.bld (rep 33 (.int .u8 0) ++ [.int .i64 0, .bool false, .int .u8 0, .int .i64 0, .int .u64 0, .str [], .nilS, .int .i64 0]) [(40, 1, (tm 27)), (33, 1, (tm 28))]),
  sc 4 30 51 [(tm 26), (tm 29)],
  sm 5 31 (.ext (tm 30) 0),
  sm 6 32 (.ext (tm 30) 1),
  se 7 (.st 55 (tm 6) (tm 31)),
  sv 8 7 32])
  .ret))))
def r35 : List Mo := [.ldA 55 (tm 6), .mv (tm 7)]
theorem c35_eq : compF Tryz.prog 35 = some c35 := by kernel_rfl
theorem r35_eq : compRs Tryz.prog 35 = some r35 := by kernel_rfl
/-! F36 braid/calls.Close -/
def c36 : Cd := (.seq (.reg [sm 0 2 (.box (tm 0)),
  sm 1 4 (.alloc ([.int .u8 0, .nilS, .int .u8 0, .str [], .int .u8 0, .int .i64 0, .int .u64 0, .str [], .int .u64 0, .str [], .int .u8 0, .int .i64 0, .nilS, .int .i64 0] ++ rep 33 (.int .u8 0) ++ [.int .i64 0, .bool false, .int .u8 0, .int .i64 0, .int .u64 0, .str [], .nilS, .int .i64 0])),
  sm 2 5 (.mv (.const (.int .i64 0)))])
  (.seq (.seq (.reg [sm 0 7 (.ldA 55 (tm 2)),
  sc 1 8 49 [(tm 7), (.const (.int .u8 4))],
  sv 2 6 8])
  (.seq (.reg [sv 0 9 6,
  sm 1 10 (.bin .neq 49 (tm 9) (.const (.int .i64 0)))])
  (.cond (tm 10) (.seq (.reg [sm 0 11 (.bld ([.int .u8 0, .nilS, .int .u8 0, .str [], .int .u8 0, .int .i64 0, .int .u64 0, .str [], .int .u64 0, .str [], .int .u8 0, .int .i64 0, .nilS, .int .i64 0] ++ rep 33 (.int .u8 0) ++ [.int .i64 0, .bool false, .int .u8 0, .int .i64 0, .int .u64 0, .str [], .nilS, .int .i64 0]) []),
  sv 1 12 6,
  se 2 (.st 55 (tm 4) (tm 11)),
  sv 3 5 12])
  .ret) .skip)))
  (.seq (.seq (.reg [sv 0 13 1,
  sm 1 14 (.bin .lss 3 (tm 13) (.const (.int .i64 0)))])
  (.cond (tm 14) (.seq (.reg [sm 0 15 (.bld ([.int .u8 0, .nilS, .int .u8 0, .str [], .int .u8 0, .int .i64 0, .int .u64 0, .str [], .int .u64 0, .str [], .int .u8 0, .int .i64 0, .nilS, .int .i64 0] ++ rep 33 (.int .u8 0) ++ [.int .i64 0, .bool false, .int .u8 0, .int .i64 0, .int .u64 0, .str [], .nilS, .int .i64 0]) []),
  se 1 (.st 55 (tm 4) (tm 15)),
  sm 2 5 (.mv (.const (.int .i64 2)))])
  .ret) .skip))
  (.seq (.reg [sm 0 16 (.ldA 55 (tm 2)),
  sv 1 17 1,
  sm 2 18 (.bld (rep 33 (.int .u8 0) ++ [.int .i64 0, .bool false, .int .u8 0, .int .i64 0, .int .u64 0, .str [], .nilS, .int .i64 0]) [(33, 1, (tm 17))]),
  sc 3 19 51 [(tm 16), (tm 18)],
  sm 4 20 (.ext (tm 19) 0),
  sm 5 21 (.ext (tm 19) 1),
  se 6 (.st 55 (tm 4) (tm 20)),
  sv 7 5 21])
  .ret))))
def r36 : List Mo := [.ldA 55 (tm 4), .mv (tm 5)]
theorem c36_eq : compF Tryz.prog 36 = some c36 := by kernel_rfl
theorem r36_eq : compRs Tryz.prog 36 = some r36 := by kernel_rfl
/-! F44 braid/fold.Read -/
def c44 : Cd := (.seq (.reg [sm 0 2 (.box (tm 0)),
  sm 1 4 (.mv (.const (.bool false))),
  sm 2 5 (.alloc [.int .u8 0, .int .i64 0, .int .u64 0, .str []]),
  sm 3 6 (.mv (.const (.int .i64 0)))])
  (.seq (.seq (.reg [sm 0 8 (.ldA 4 (tm 2)),
  sc 1 9 50 [(tm 8)],
  sv 2 7 9])
  (.seq (.reg [sv 0 10 7,
  sm 1 11 (.bin .neq 49 (tm 10) (.const (.int .i64 0)))])
  (.cond (tm 11) (.seq (.reg [sm 0 12 (.bld [.int .u8 0, .int .i64 0, .int .u64 0, .str []] []),
  sv 1 13 7,
  sm 2 4 (.mv (.const (.bool false))),
  se 3 (.st 4 (tm 5) (tm 12)),
  sv 4 6 13])
  .ret) .skip)))
  (.seq (.reg [sm 0 15 (.fa 1 (tm 2)),
  sm 1 16 (.ldA 1 (tm 15)),
  sv 2 17 1,
  sc 3 18 87 [(tm 16), (tm 17)],
  sv 4 14 18,
  sm 5 19 (.ext (tm 14) 0),
  sm 6 20 (.ext (tm 14) 1),
  sv 7 4 19])
  (.seq (.reg [sm 0 22 (.fa 2 (tm 2)),
  sm 1 23 (.ldA 1 (tm 22)),
  sv 2 24 1,
  sc 3 25 88 [(tm 23), (tm 24)],
  sv 4 21 25,
  sm 5 26 (.ext (tm 21) 0),
  sm 6 27 (.ext (tm 21) 1),
  se 7 (.st 4 (tm 5) (tm 26))])
  (.seq (.reg [sv 0 28 4,
  sm 1 29 (.ldA 4 (tm 5)),
  sv 2 4 28,
  se 3 (.st 4 (tm 5) (tm 29)),
  sm 4 6 (.mv (.const (.int .i64 0)))])
  .ret)))))
def r44 : List Mo := [.mv (tm 4), .ldA 4 (tm 5), .mv (tm 6)]
theorem c44_eq : compF Tryz.prog 44 = some c44 := by kernel_rfl
theorem r44_eq : compRs Tryz.prog 44 = some r44 := by kernel_rfl
/-! F47 braid/calls.needs -/
def c47 : Cd := (.seq (.reg [sm 0 1 (.box (tm 0)),
  sm 1 2 (.mv (.const (.int .u8 0)))])
  (.seq (.seq (.reg [sm 0 3 (.fa 10 (tm 1)),
  sm 1 4 (.ld1 (tm 3))])
  (.block 0 (.seq (.reg [sm 0 6 (.bin .eql 5 (tm 4) (.const (.int .u8 4))),
  sv 1 5 6])
  (.cond (tm 5) (.seq (.reg [sm 0 2 (.mv (.const (.int .u8 6)))])
  .ret) (.seq (.reg [sm 0 8 (.bin .eql 5 (tm 4) (.const (.int .u8 3))),
  sv 1 7 8])
  (.cond (tm 7) (.seq (.reg [sm 0 2 (.mv (.const (.int .u8 5)))])
  .ret) (.seq (.reg [sm 0 10 (.bin .eql 5 (tm 4) (.const (.int .u8 2))),
  sv 1 9 10])
  (.cond (tm 9) (.seq (.reg [sm 0 2 (.mv (.const (.int .u8 2)))])
  .ret) .skip))))))))
  (.seq (.reg [sm 0 11 (.fa 0 (tm 1)),
  sm 1 12 (.ldA 10 (tm 11)),
  sc 2 13 89 [(tm 12)],
  ⟨3, (some 14), none, .callI (tm 13) "braid/calls.first" [], [], false⟩,
  sv 4 2 14])
  .ret)))
def r47 : List Mo := [.mv (tm 2)]
theorem c47_eq : compF Tryz.prog 47 = some c47 := by kernel_rfl
theorem r47_eq : compRs Tryz.prog 47 = some r47 := by kernel_rfl
/-! F49 braid/calls.asked -/
def c49 : Cd := (.seq (.reg [sm 0 2 (.box (tm 0)),
  sm 1 4 (.mv (.const (.int .i64 0)))])
  (.seq (.seq (.reg [sm 0 6 (.ldA 55 (tm 2)),
  sc 1 7 21 [(tm 6)],
  sv 2 5 7])
  (.seq (.reg [sv 0 8 5,
  sm 1 9 (.bin .neq 49 (tm 8) (.const (.int .i64 0)))])
  (.cond (tm 9) (.seq (.reg [sv 0 10 5,
  sv 1 4 10])
  .ret) .skip)))
  (.seq (.seq (.reg [sm 0 11 (.ldA 55 (tm 2)),
  sc 1 12 47 [(tm 11)],
  sv 2 13 1,
  sm 3 14 (.bin .neq 5 (tm 12) (tm 13))])
  (.cond (tm 14) (.seq (.reg [sm 0 4 (.mv (.const (.int .i64 36)))])
  .ret) .skip))
  (.seq (.reg [sm 0 4 (.mv (.const (.int .i64 0)))])
  .ret))))
def r49 : List Mo := [.mv (tm 4)]
theorem c49_eq : compF Tryz.prog 49 = some c49 := by kernel_rfl
theorem r49_eq : compRs Tryz.prog 49 = some r49 := by kernel_rfl
/-! F50 braid/fold.Check -/
def l50_0 : Cd := (.seq (.seq (.reg [sv 0 43 4,
  sv 1 44 3,
  sm 2 45 (.bin .lss 3 (tm 43) (tm 44))])
  (.cond (tm 45) .skip (.exit 0)))
  (.seq (.block 1 (.seq (.reg [sm 0 48 (.fa 3 (tm 1)),
  sm 1 49 (.ld1 (tm 48)),
  sv 2 50 4,
  sm 3 51 (.bin .sub 3 (tm 50) (.const (.int .i64 1))),
  sm 4 52 (.ia (.sl 32) (tm 49) (tm 51)),
  sm 5 53 (.ldA 32 (tm 52)),
  sm 6 54 (.fa 3 (tm 1)),
  sm 7 55 (.ld1 (tm 54)),
  sv 8 56 4,
  sm 9 57 (.ia (.sl 32) (tm 55) (tm 56)),
  sm 10 58 (.ldA 32 (tm 57)),
  sc 11 59 92 [(tm 53), (tm 58)],
  sm 12 60 (.bin .geq 3 (tm 59) (.const (.int .i64 0)))])
  (.cond (tm 60) (.seq (.reg [sm 0 2 (.mv (.const (.int .i64 8)))])
  .ret) .skip)))
  (.reg [sv 0 46 4,
  sm 1 47 (.bin .add 3 (tm 46) (.const (.int .i64 1))),
  sv 2 4 47])))
def c50 : Cd := (.seq (.reg [sm 0 1 (.box (tm 0)),
  sm 1 2 (.mv (.const (.int .i64 0)))])
  (.seq (.reg [sm 0 5 (.fa 3 (tm 1)),
  sm 1 6 (.ld1 (tm 5)),
  sm 2 7 (.len (.sl 32) (tm 6)),
  sv 3 3 7])
  (.seq (.seq (.reg [sm 0 8 (.fa 0 (tm 1)),
  sm 1 9 (.ld1 (tm 8)),
  sm 2 10 (.bin .lss 3 (tm 9) (.const (.int .i64 0))),
  sv 3 11 10,
  sg 4 12 11 false (.fa 0 (tm 1)),
  sg 5 13 11 false (.ld1 (tm 12)),
  sg 6 14 11 false (.bin .gtr 3 (tm 13) (.const (.int .i64 60))),
  sm 7 15 (.pick (tm 11) (.const (.bool true)) (tm 14)),
  sv 8 16 15,
  sg 9 17 16 false (.mv (tm 3)),
  sg 10 18 16 false (.fa 0 (tm 1)),
  sg 11 19 16 false (.ld1 (tm 18)),
  sg 12 20 16 false (.bin .gtr 3 (tm 17) (tm 19)),
  sm 13 21 (.pick (tm 16) (.const (.bool true)) (tm 20)),
  sv 14 22 21,
  sg 15 23 22 false (.mv (tm 3)),
  sg 16 24 22 false (.bin .eql 3 (tm 23) (.const (.int .i64 0))),
  sg 17 25 22 false (.mv (tm 24)),
  sg 18 26 25 true (.fa 0 (tm 1)),
  sg 19 27 25 true (.ld1 (tm 26)),
  sg 20 28 25 true (.bin .gtr 3 (tm 27) (.const (.int .i64 0))),
  sg 21 29 22 false (.pick (tm 25) (tm 28) (.const (.bool false))),
  sm 22 30 (.pick (tm 22) (.const (.bool true)) (tm 29)),
  sv 23 31 30,
  sg 24 32 31 false (.fa 1 (tm 1)),
  sg 25 33 31 false (.ldA 1 (tm 32)),
  ⟨26, (some 34), (some ((some 31), false)), .callF 90 [(tm 33)], [], false⟩,
  sg 27 35 31 false (.bin .neq 49 (tm 34) (.const (.int .i64 0))),
  sm 28 36 (.pick (tm 31) (.const (.bool true)) (tm 35)),
  sv 29 37 36,
  sg 30 38 37 false (.fa 2 (tm 1)),
  sg 31 39 37 false (.ldA 1 (tm 38)),
  ⟨32, (some 40), (some ((some 37), false)), .callF 91 [(tm 39)], [], false⟩,
  sg 33 41 37 false (.bin .neq 49 (tm 40) (.const (.int .i64 0))),
  sm 34 42 (.pick (tm 37) (.const (.bool true)) (tm 41))])
  (.cond (tm 42) (.seq (.reg [sm 0 2 (.mv (.const (.int .i64 8)))])
  .ret) .skip))
  (.seq (.seq (.reg [sm 0 4 (.mv (.const (.int .i64 1)))])
  (.block 0 (.loop l50_0)))
  (.seq (.reg [sm 0 2 (.mv (.const (.int .i64 0)))])
  .ret)))))
def r50 : List Mo := [.mv (tm 2)]
theorem c50_eq : compF Tryz.prog 50 = some c50 := by kernel_rfl
theorem r50_eq : compRs Tryz.prog 50 = some r50 := by kernel_rfl
/-! F51 braid/calls.answer -/
def c51 : Cd := (.seq (.reg [sm 0 2 (.box (tm 0)),
  sm 1 3 (.box (tm 1)),
  sm 2 4 (.alloc ([.int .u8 0, .nilS, .int .u8 0, .str [], .int .u8 0, .int .i64 0, .int .u64 0, .str [], .int .u64 0, .str [], .int .u8 0, .int .i64 0, .nilS, .int .i64 0] ++ rep 33 (.int .u8 0) ++ [.int .i64 0, .bool false, .int .u8 0, .int .i64 0, .int .u64 0, .str [], .nilS, .int .i64 0])),
  sm 3 5 (.mv (.const (.int .i64 0)))])
  (.seq (.reg [sm 0 6 (.ldA 55 (tm 2)),
  sc 1 7 54 [(tm 6)],
  se 2 (.st 55 (tm 2) (tm 7))])
  (.seq (.dreg [⟨0, (some 8), none, .mo (.ldA 41 (tm 3)), [], true⟩,
  sm 1 9 (.fa 10 (tm 2)),
  ⟨2, none, none, .mo (.st 1 (tm 9) (.const (.int .u8 4))), [0], false⟩,
  sm 3 10 (.fa 14 (tm 2)),
  se 4 (.st 41 (tm 10) (tm 8))])
  (.seq (.reg [sm 0 11 (.ldA 55 (tm 2)),
  se 1 (.st 55 (tm 4) (tm 11)),
  sm 2 5 (.mv (.const (.int .i64 0)))])
  .ret))))
def r51 : List Mo := [.ldA 55 (tm 4), .mv (tm 5)]
theorem c51_eq : compF Tryz.prog 51 = some c51 := by kernel_rfl
theorem r51_eq : compRs Tryz.prog 51 = some r51 := by kernel_rfl
/-! F52 slices.Clone[[]braid/api.ID,braid/api.ID] -/
def c52 : Cd := (.seq (.reg [sm 0 2 (.mv (.const (.slice none 0 0)))])
  (.seq (.seq (.reg [sv 0 3 0,
  sm 1 4 (.bin .eql 32 (tm 3) (.const (.slice none 0 0)))])
  (.cond (tm 4) (.seq (.reg [sm 0 2 (.mv (.const (.slice none 0 0)))])
  .ret) .skip))
  (.seq (.reg [sm 0 5 (.bsl 32 (rep 32 (.int .u8 0)) 0 []),
  sv 1 6 0,
  sm 2 7 (.app 32 32 (tm 5) (tm 6)),
  sv 3 2 7])
  .ret)))
def r52 : List Mo := [.mv (tm 2)]
theorem c52_eq : compF Tryz.prog 52 = some c52 := by kernel_rfl
theorem r52_eq : compRs Tryz.prog 52 = some r52 := by kernel_rfl
/-! F54 braid/calls.clone -/
def c54 : Cd := (.seq (.reg [sm 0 1 (.box (tm 0)),
  sm 1 2 (.alloc ([.int .u8 0, .nilS, .int .u8 0, .str [], .int .u8 0, .int .i64 0, .int .u64 0, .str [], .int .u64 0, .str [], .int .u8 0, .int .i64 0, .nilS, .int .i64 0] ++ rep 33 (.int .u8 0) ++ [.int .i64 0, .bool false, .int .u8 0, .int .i64 0, .int .u64 0, .str [], .nilS, .int .i64 0]))])
  (.seq (.dreg [sm 0 3 (.fa 0 (tm 1)),
  sm 1 4 (.fa 1 (tm 3)),
  sm 2 5 (.ld1 (tm 4)),
  sm 4 7 (.fa 12 (tm 1)),
  ⟨5, (some 8), none, .mo (.ld1 (tm 7)), [], true⟩,
  sm 7 10 (.fa 14 (tm 1)),
  sm 8 11 (.fa 39 (tm 10)),
  ⟨9, (some 12), none, .mo (.ld1 (tm 11)), [], true⟩,
  ⟨3, (some 6), none, .callF 55 [(tm 5)], [9, 5], false⟩,
  sm 11 14 (.fa 0 (tm 1)),
  sm 12 15 (.fa 1 (tm 14)),
  ⟨6, (some 9), none, .callF 55 [(tm 8)], [9], false⟩,
  sc 10 13 52 [(tm 12)],
  se 13 (.st 1 (tm 15) (tm 6)),
  sm 14 16 (.fa 12 (tm 1)),
  se 15 (.st 1 (tm 16) (tm 9)),
  sm 16 17 (.fa 14 (tm 1)),
  sm 17 18 (.fa 39 (tm 17)),
  se 18 (.st 1 (tm 18) (tm 13))])
  (.seq (.reg [sm 0 19 (.ldA 55 (tm 1)),
  se 1 (.st 55 (tm 2) (tm 19))])
  .ret)))
def r54 : List Mo := [.ldA 55 (tm 2)]
theorem c54_eq : compF Tryz.prog 54 = some c54 := by kernel_rfl
theorem r54_eq : compRs Tryz.prog 54 = some r54 := by kernel_rfl
/-! F55 bytes.Clone -/
def c55 : Cd := (.seq (.reg [sm 0 2 (.mv (.const (.slice none 0 0)))])
  (.seq (.seq (.reg [sv 0 3 0,
  sm 1 4 (.bin .eql 22 (tm 3) (.const (.slice none 0 0)))])
  (.cond (tm 4) (.seq (.reg [sm 0 2 (.mv (.const (.slice none 0 0)))])
  .ret) .skip))
  (.seq (.reg [sm 0 5 (.bsl 1 [.int .u8 0] 0 []),
  sv 1 6 0,
  sm 2 7 (.app 1 1 (tm 5) (tm 6)),
  sv 3 2 7])
  .ret)))
def r55 : List Mo := [.mv (tm 2)]
theorem c55_eq : compF Tryz.prog 55 = some c55 := by kernel_rfl
theorem r55_eq : compRs Tryz.prog 55 = some r55 := by kernel_rfl
/-! F61 braid/judge.Of -/
def c61 : Cd := (.seq (.reg [sm 0 2 (.alloc [.int .u32 0, .nilS, .int .u64 0, .int .u8 0, .str [], .int .u8 0, .int .i64 0, .int .u64 0, .str [], .int .u32 0, .int .u32 0]),
  sm 1 3 (.alloc (rep 32 (.int .u8 0))),
  sm 2 4 (.mv (.const (.int .u8 0)))])
  (.seq (.seq (.reg [sv 0 7 0,
  sm 1 8 (.len (.sl 1) (tm 7)),
  sm 2 9 (.bin .gtr 3 (tm 8) (.const (.int .i64 400)))])
  (.cond (tm 9) (.seq (.dreg [sm 0 10 (.ldA 11 (tm 2)),
  ⟨1, (some 11), none, .mo (.ldA 32 (tm 3)), [], true⟩,
  ⟨2, none, none, .mo (.st 11 (tm 2) (tm 10)), [1], false⟩,
  se 3 (.st 32 (tm 3) (tm 11)),
  sm 4 4 (.mv (.const (.int .u8 3)))])
  .ret) .skip))
  (.seq (.reg [sv 0 13 0,
  sc 1 14 102 [(tm 13)],
  sv 2 12 14,
  sm 3 15 (.ext (tm 12) 0),
  sm 4 16 (.ext (tm 12) 1),
  sm 5 5 (.alloc [.int .u32 0, .nilS, .int .u64 0, .int .u8 0, .str [], .int .u8 0, .int .i64 0, .int .u64 0, .str [], .int .u32 0, .int .u32 0]),
  se 6 (.st 11 (tm 5) (tm 15)),
  sv 7 6 16])
  (.seq (.seq (.reg [sv 0 17 6,
  sm 1 18 (.bin .neq 49 (tm 17) (.const (.int .i64 0)))])
  (.cond (tm 18) (.seq (.dreg [sm 0 19 (.ldA 11 (tm 2)),
  ⟨1, (some 20), none, .mo (.ldA 32 (tm 3)), [], true⟩,
  ⟨2, none, none, .mo (.st 11 (tm 2) (tm 19)), [1], false⟩,
  se 3 (.st 32 (tm 3) (tm 20)),
  sm 4 4 (.mv (.const (.int .u8 2)))])
  .ret) .skip))
  (.seq (.seq (.reg [sm 0 21 (.ldA 11 (tm 5)),
  sc 1 22 103 [(tm 21)],
  sm 2 23 (.bin .neq 49 (tm 22) (.const (.int .i64 0)))])
  (.cond (tm 23) (.seq (.dreg [sm 0 24 (.ldA 11 (tm 2)),
  ⟨1, (some 25), none, .mo (.ldA 32 (tm 3)), [], true⟩,
  ⟨2, none, none, .mo (.st 11 (tm 2) (tm 24)), [1], false⟩,
  se 3 (.st 32 (tm 3) (tm 25)),
  sm 4 4 (.mv (.const (.int .u8 4)))])
  .ret) .skip))
  (.seq (.reg [sm 0 27 (.ldA 11 (tm 5)),
  sc 1 28 96 [(tm 27)],
  sv 2 26 28,
  sm 3 29 (.ext (tm 26) 0),
  sm 4 30 (.ext (tm 26) 1),
  se 5 (.st 32 (tm 3) (tm 29))])
  (.seq (.dreg [sm 0 31 (.ldA 11 (tm 5)),
  ⟨1, (some 32), none, .mo (.ldA 32 (tm 3)), [], true⟩,
  ⟨2, none, none, .mo (.st 11 (tm 2) (tm 31)), [1], false⟩,
  se 3 (.st 32 (tm 3) (tm 32)),
  sm 4 4 (.mv (.const (.int .u8 0)))])
  .ret)))))))
def r61 : List Mo := [.ldA 11 (tm 2), .ldA 32 (tm 3), .mv (tm 4)]
theorem c61_eq : compF Tryz.prog 61 = some c61 := by kernel_rfl
theorem r61_eq : compRs Tryz.prog 61 = some r61 := by kernel_rfl
/-! F62 braid/calls.fresh -/
def c62 : Cd := (.seq (.reg [sm 0 1 (.box (tm 0)),
  sm 1 2 (.mv (.const (.bool false)))])
  (.seq (.reg [sm 0 3 (.fa 11 (tm 1)),
  sm 1 4 (.ld1 (tm 3)),
  sm 2 5 (.bin .eql 3 (tm 4) (.const (.int .i64 0))),
  sv 3 6 5,
  sg 4 7 6 true (.fa 13 (tm 1)),
  sg 5 8 6 true (.ld1 (tm 7)),
  sg 6 9 6 true (.bin .eql 3 (tm 8) (.const (.int .i64 (-1)))),
  sm 7 10 (.pick (tm 6) (tm 9) (.const (.bool false))),
  sv 8 11 10,
  sg 9 12 11 true (.fa 12 (tm 1)),
  sg 10 13 11 true (.ld1 (tm 12)),
  sg 11 14 11 true (.fa 0 (tm 1)),
  sg 12 15 11 true (.fa 1 (tm 14)),
  sg 13 16 11 true (.ld1 (tm 15)),
  ⟨14, (some 17), (some ((some 11), true)), .callF 104 [(tm 13), (tm 16)], [], false⟩,
  sm 15 18 (.pick (tm 11) (tm 17) (.const (.bool false))),
  sv 16 2 18])
  .ret))
def r62 : List Mo := [.mv (tm 2)]
theorem c62_eq : compF Tryz.prog 62 = some c62 := by kernel_rfl
theorem r62_eq : compRs Tryz.prog 62 = some r62 := by kernel_rfl
/-! F63 braid/calls.ready -/
def c63 : Cd := (.seq (.reg [sm 0 1 (.box (tm 0)),
  sm 1 2 (.mv (.const (.bool false)))])
  (.seq (.seq (.reg [sm 0 3 (.fa 0 (tm 1)),
  sm 1 4 (.ldA 10 (tm 3)),
  sc 2 5 89 [(tm 4)]])
  (.block 0 (.seq (.reg [sm 0 6 (.tas 179 (.ag []) true (tm 5)),
  sm 1 7 (.ext (tm 6) 1),
  sm 2 8 (.ext (tm 6) 0)])
  (.cond (tm 7) (.seq (.reg [sm 0 9 (.fa 11 (tm 1)),
  sm 1 10 (.ld1 (tm 9)),
  sm 2 11 (.bin .eql 3 (tm 10) (.const (.int .i64 0))),
  sv 3 12 11,
  sg 4 13 12 true (.fa 12 (tm 1)),
  sg 5 14 12 true (.ld1 (tm 13)),
  sg 6 15 12 true (.fa 0 (tm 1)),
  sg 7 16 12 true (.fa 1 (tm 15)),
  sg 8 17 12 true (.ld1 (tm 16)),
  ⟨9, (some 18), (some ((some 12), true)), .callF 104 [(tm 14), (tm 17)], [], false⟩,
  sm 10 19 (.pick (tm 12) (tm 18) (.const (.bool false))),
  sv 11 2 19])
  .ret) (.seq (.reg [sm 0 20 (.tas 180 (.ag []) true (tm 5)),
  sm 1 21 (.ext (tm 20) 1),
  sm 2 22 (.ext (tm 20) 0)])
  (.cond (tm 21) (.seq (.reg [sm 0 23 (.fa 0 (tm 1)),
  sm 1 24 (.fa 0 (tm 23)),
  sm 2 25 (.ld1 (tm 24)),
  sm 3 26 (.bin .eql 5 (tm 25) (.const (.int .u8 2))),
  sv 4 27 26,
  sg 5 28 27 true (.fa 11 (tm 1)),
  sg 6 29 27 true (.ld1 (tm 28)),
  sg 7 30 27 true (.bin .geq 3 (tm 29) (.const (.int .i64 0))),
  sm 8 31 (.pick (tm 27) (tm 30) (.const (.bool false))),
  sv 9 32 31,
  sg 10 33 32 true (.fa 12 (tm 1)),
  sg 11 34 32 true (.ld1 (tm 33)),
  sg 12 35 32 true (.len (.sl 1) (tm 34)),
  sg 13 36 32 true (.bin .leq 3 (tm 35) (.const (.int .i64 2000))),
  sm 14 37 (.pick (tm 32) (tm 36) (.const (.bool false))),
  sv 15 2 37])
  .ret) .skip))))))
  (.seq (.reg [sm 0 2 (.mv (.const (.bool false)))])
  .ret)))
def r63 : List Mo := [.mv (tm 2)]
theorem c63_eq : compF Tryz.prog 63 = some c63 := by kernel_rfl
theorem r63_eq : compRs Tryz.prog 63 = some r63 := by kernel_rfl
/-! F76 braid/calls.Check$1 -/
def c76 : Cd := (.seq (.reg [sm 0 2 (.mv (.const (.bool false)))])
  (.seq (.reg [sv 0 3 0,
  sm 1 4 (.bld [.int .u8 0, .str [], .int .u8 0, .int .i64 0, .int .u64 0, .str []] [(0, 1, (.const (.int .u8 3))), (1, 1, (tm 3))]),
  sc 2 5 77 [(tm 4)],
  sm 3 6 (.bin .eql 49 (tm 5) (.const (.int .i64 0))),
  sv 4 2 6])
  .ret))
def r76 : List Mo := [.mv (tm 2)]
theorem c76_eq : compF Tryz.prog 76 = some c76 := by kernel_rfl
theorem r76_eq : compRs Tryz.prog 76 = some r76 := by kernel_rfl
/-! F77 braid/op.CheckAct -/
def c77 : Cd := (.seq (.reg [sm 0 1 (.box (tm 0)),
  sm 1 2 (.mv (.const (.int .i64 0)))])
  (.seq (.reg [sm 0 3 (.mv (.const (.bool false)))])
  (.seq (.seq (.reg [sm 0 4 (.fa 0 (tm 1)),
  sm 1 5 (.ld1 (tm 4))])
  (.block 0 (.seq (.reg [sm 0 7 (.bin .eql 5 (tm 5) (.const (.int .u8 1))),
  sv 1 6 7])
  (.cond (tm 6) (.reg [sm 0 8 (.ldA 6 (tm 1)),
  sm 1 9 (.bld [.int .u8 0, .str [], .int .u8 0, .int .i64 0, .int .u64 0, .str []] [(0, 1, (.const (.int .u8 1)))]),
  sm 2 10 (.bin .eql 27 (tm 8) (tm 9)),
  sv 3 3 10]) (.seq (.seq (.reg [sm 0 12 (.bin .eql 5 (tm 5) (.const (.int .u8 2))),
  sv 1 11 12])
  (.cond (tm 11) .skip (.reg [sm 0 13 (.bin .eql 5 (tm 5) (.const (.int .u8 3))),
  sv 1 11 13])))
  (.cond (tm 11) (.reg [sm 0 14 (.fa 1 (tm 1)),
  sm 1 15 (.ld1 (tm 14)),
  sc 2 16 122 [(tm 15)],
  sv 3 17 16,
  sg 4 18 17 true (.fa 2 (tm 1)),
  sg 5 19 17 true (.ldA 4 (tm 18)),
  sg 6 20 17 true (.bld [.int .u8 0, .int .i64 0, .int .u64 0, .str []] []),
  sg 7 21 17 true (.bin .eql 25 (tm 19) (tm 20)),
  sm 8 22 (.pick (tm 17) (tm 21) (.const (.bool false))),
  sv 9 3 22]) (.seq (.reg [sm 0 24 (.bin .eql 5 (tm 5) (.const (.int .u8 4))),
  sv 1 23 24])
  (.cond (tm 23) (.reg [sm 0 25 (.fa 1 (tm 1)),
  sm 1 26 (.ld1 (tm 25)),
  sc 2 27 122 [(tm 26)],
  sv 3 28 27,
  sg 4 29 28 true (.fa 2 (tm 1)),
  sg 5 30 28 true (.ldA 4 (tm 29)),
  ⟨6, (some 31), (some ((some 28), true)), .callF 123 [(tm 30)], [], false⟩,
  sg 7 32 28 true (.bin .eql 49 (tm 31) (.const (.int .i64 0))),
  sm 8 33 (.pick (tm 28) (tm 32) (.const (.bool false))),
  sv 9 3 33]) .skip))))))))
  (.seq (.seq (.reg [sv 0 34 3,
  sm 1 35 (.un .not (tm 34))])
  (.cond (tm 35) (.seq (.reg [sm 0 2 (.mv (.const (.int .i64 8)))])
  .ret) .skip))
  (.seq (.reg [sm 0 2 (.mv (.const (.int .i64 0)))])
  .ret)))))
def r77 : List Mo := [.mv (tm 2)]
theorem c77_eq : compF Tryz.prog 77 = some c77 := by kernel_rfl
theorem r77_eq : compRs Tryz.prog 77 = some r77 := by kernel_rfl
/-! F78 braid/calls.same -/
def c78 : Cd := (.seq (.reg [sm 0 2 (.box (tm 0)),
  sm 1 3 (.box (tm 1)),
  sm 2 4 (.mv (.const (.bool false)))])
  (.seq (.reg [sm 0 5 (.fa 0 (tm 2)),
  sm 1 6 (.ld1 (tm 5)),
  sm 2 7 (.fa 0 (tm 3)),
  sm 3 8 (.ld1 (tm 7)),
  sm 4 9 (.bin .eql 5 (tm 6) (tm 8)),
  sv 5 10 9,
  sg 6 11 10 true (.fa 1 (tm 2)),
  sg 7 12 10 true (.ld1 (tm 11)),
  sg 8 13 10 true (.fa 1 (tm 3)),
  sg 9 14 10 true (.ld1 (tm 13)),
  ⟨10, (some 15), (some ((some 10), true)), .callF 104 [(tm 12), (tm 14)], [], false⟩,
  sm 11 16 (.pick (tm 10) (tm 15) (.const (.bool false))),
  sv 12 17 16,
  sg 13 18 17 true (.fa 2 (tm 2)),
  sg 14 19 17 true (.ldA 6 (tm 18)),
  sg 15 20 17 true (.fa 2 (tm 3)),
  sg 16 21 17 true (.ldA 6 (tm 20)),
  sg 17 22 17 true (.bin .eql 27 (tm 19) (tm 21)),
  sm 18 23 (.pick (tm 17) (tm 22) (.const (.bool false))),
  sv 19 24 23,
  sg 20 25 24 true (.fa 8 (tm 2)),
  sg 21 26 24 true (.ld1 (tm 25)),
  sg 22 27 24 true (.fa 8 (tm 3)),
  sg 23 28 24 true (.ld1 (tm 27)),
  sg 24 29 24 true (.bin .eql 23 (tm 26) (tm 28)),
  sm 25 30 (.pick (tm 24) (tm 29) (.const (.bool false))),
  sv 26 31 30,
  sg 27 32 31 true (.fa 9 (tm 2)),
  sg 28 33 31 true (.ld1 (tm 32)),
  sg 29 34 31 true (.fa 9 (tm 3)),
  sg 30 35 31 true (.ld1 (tm 34)),
  sg 31 36 31 true (.bin .eql 9 (tm 33) (tm 35)),
  sm 32 37 (.pick (tm 31) (tm 36) (.const (.bool false))),
  sv 33 4 37])
  .ret))
def r78 : List Mo := [.mv (tm 4)]
theorem c78_eq : compF Tryz.prog 78 = some c78 := by kernel_rfl
theorem r78_eq : compRs Tryz.prog 78 = some r78 := by kernel_rfl
/-! F79 braid/calls.clean -/
def c79 : Cd := (.seq (.reg [sm 0 1 (.box (tm 0)),
  sm 1 2 (.alloc [.int .u8 0, .nilS, .int .u8 0, .str [], .int .u8 0, .int .i64 0, .int .u64 0, .str [], .int .u64 0, .str []])])
  (.seq (.reg [sm 0 4 (.fa 0 (tm 1)),
  sm 1 5 (.ld1 (tm 4)),
  sm 2 6 (.bld [.int .u8 0, .nilS, .int .u8 0, .str [], .int .u8 0, .int .i64 0, .int .u64 0, .str [], .int .u64 0, .str []] [(0, 1, (tm 5))]),
  sm 3 3 (.alloc [.int .u8 0, .nilS, .int .u8 0, .str [], .int .u8 0, .int .i64 0, .int .u64 0, .str [], .int .u64 0, .str []]),
  se 4 (.st 10 (tm 3) (tm 6))])
  (.seq (.seq (.reg [sm 0 7 (.fa 0 (tm 1)),
  sm 1 8 (.ld1 (tm 7))])
  (.block 0 (.seq (.reg [sm 0 10 (.bin .eql 5 (tm 8) (.const (.int .u8 1))),
  sv 1 9 10])
  (.cond (tm 9) (.reg [sm 0 11 (.fa 1 (tm 1)),
  sm 1 12 (.ld1 (tm 11)),
  sm 2 13 (.fa 1 (tm 3)),
  se 3 (.st 1 (tm 13) (tm 12))]) (.seq (.reg [sm 0 15 (.bin .eql 5 (tm 8) (.const (.int .u8 2))),
  sv 1 14 15])
  (.cond (tm 14) (.dreg [sm 0 16 (.fa 2 (tm 1)),
  sm 1 17 (.ldA 6 (tm 16)),
  sm 2 18 (.fa 8 (tm 1)),
  ⟨3, (some 19), none, .mo (.ld1 (tm 18)), [], true⟩,
  sm 4 20 (.fa 2 (tm 3)),
  ⟨5, none, none, .mo (.st 6 (tm 20) (tm 17)), [3], false⟩,
  sm 6 21 (.fa 8 (tm 3)),
  se 7 (.st 1 (tm 21) (tm 19))]) (.seq (.reg [sm 0 23 (.bin .eql 5 (tm 8) (.const (.int .u8 3))),
  sv 1 22 23])
  (.cond (tm 22) (.reg [sm 0 24 (.fa 9 (tm 1)),
  sm 1 25 (.ld1 (tm 24)),
  sm 2 26 (.fa 9 (tm 3)),
  se 3 (.st 1 (tm 26) (tm 25))]) .skip))))))))
  (.seq (.reg [sm 0 27 (.ldA 10 (tm 3)),
  se 1 (.st 10 (tm 2) (tm 27))])
  .ret))))
def r79 : List Mo := [.ldA 10 (tm 2)]
theorem c79_eq : compF Tryz.prog 79 = some c79 := by kernel_rfl
theorem r79_eq : compRs Tryz.prog 79 = some r79 := by kernel_rfl
/-! F87 braid/orset.Has -/
def c87 : Cd := (.seq (.reg [sm 0 2 (.box (tm 0)),
  sm 1 4 (.mv (.const (.bool false))),
  sm 2 5 (.mv (.const (.int .i64 0)))])
  (.seq (.reg [sm 0 9 (.ldA 1 (tm 2)),
  sc 1 10 134 [(tm 9)],
  sv 2 8 10,
  sm 3 11 (.ext (tm 8) 0),
  sm 4 12 (.ext (tm 8) 1),
  sv 5 6 11,
  sv 6 7 12])
  (.seq (.reg [sv 0 13 6,
  sv 1 14 1,
  sc 2 15 135 [(tm 13), (tm 14)],
  sv 3 16 7,
  sv 4 4 15,
  sv 5 5 16])
  .ret)))
def r87 : List Mo := [.mv (tm 4), .mv (tm 5)]
theorem c87_eq : compF Tryz.prog 87 = some c87 := by kernel_rfl
theorem r87_eq : compRs Tryz.prog 87 = some r87 := by kernel_rfl
/-! F88 braid/lww.Get -/
def c88 : Cd := (.seq (.reg [sm 0 2 (.box (tm 0)),
  sm 1 4 (.alloc [.int .u8 0, .int .i64 0, .int .u64 0, .str []]),
  sm 2 5 (.mv (.const (.int .i64 0)))])
  (.seq (.seq (.reg [sm 0 9 (.ldA 1 (tm 2)),
  sc 1 10 91 [(tm 9)],
  sv 2 6 10])
  (.seq (.reg [sv 0 11 6,
  sm 1 12 (.bin .neq 49 (tm 11) (.const (.int .i64 0)))])
  (.cond (tm 12) (.seq (.reg [sm 0 13 (.bld [.int .u8 0, .int .i64 0, .int .u64 0, .str []] []),
  sv 1 14 6,
  se 2 (.st 4 (tm 4) (tm 13)),
  sv 3 5 14])
  .ret) .skip)))
  (.seq (.reg [sm 0 16 (.fa 0 (tm 2)),
  sm 1 17 (.ld1 (tm 16)),
  sv 2 18 1,
  sc 3 19 136 [(tm 17), (.func 137), (tm 18)],
  sv 4 15 19,
  sm 5 20 (.ext (tm 15) 0),
  sm 6 21 (.ext (tm 15) 1),
  sv 7 7 20,
  sv 8 8 21])
  (.seq (.seq (.reg [sv 0 22 8,
  sm 1 23 (.un .not (tm 22))])
  (.cond (tm 23) (.seq (.reg [sm 0 24 (.bld [.int .u8 0, .int .i64 0, .int .u64 0, .str []] []),
  se 1 (.st 4 (tm 4) (tm 24)),
  sm 2 5 (.mv (.const (.int .i64 6)))])
  .ret) .skip))
  (.seq (.reg [sm 0 25 (.fa 0 (tm 2)),
  sm 1 26 (.ld1 (tm 25)),
  sv 2 27 7,
  sm 3 28 (.ia (.sl 38) (tm 26) (tm 27)),
  sm 4 29 (.fa 1 (tm 28)),
  sm 5 30 (.ldA 4 (tm 29)),
  se 6 (.st 4 (tm 4) (tm 30)),
  sm 7 5 (.mv (.const (.int .i64 0)))])
  .ret)))))
def r88 : List Mo := [.ldA 4 (tm 4), .mv (tm 5)]
theorem c88_eq : compF Tryz.prog 88 = some c88 := by kernel_rfl
theorem r88_eq : compRs Tryz.prog 88 = some r88 := by kernel_rfl
/-! F89 braid/calls.kind -/
def c89 : Cd := (.seq (.reg [sm 0 1 (.box (tm 0)),
  sm 1 2 (.mv (.const .nilIface))])
  (.seq (.seq (.reg [sm 0 3 (.fa 0 (tm 1)),
  sm 1 4 (.ld1 (tm 3))])
  (.block 0 (.seq (.reg [sm 0 6 (.bin .eql 5 (tm 4) (.const (.int .u8 1))),
  sv 1 5 6])
  (.cond (tm 5) (.seq (.reg [sm 0 7 (.bld [] []),
  sm 1 8 (.mkI 179 (tm 7)),
  sv 2 2 8])
  .ret) (.seq (.reg [sm 0 10 (.bin .eql 5 (tm 4) (.const (.int .u8 5))),
  sv 1 9 10])
  (.cond (tm 9) (.seq (.reg [sm 0 11 (.bld [] []),
  sm 1 12 (.mkI 219 (tm 11)),
  sv 2 2 12])
  .ret) (.seq (.reg [sm 0 14 (.bin .eql 5 (tm 4) (.const (.int .u8 6))),
  sv 1 13 14])
  (.cond (tm 13) (.seq (.reg [sm 0 15 (.bld [] []),
  sm 1 16 (.mkI 220 (tm 15)),
  sv 2 2 16])
  .ret) .skip))))))))
  (.seq (.reg [sm 0 17 (.bld [] []),
  sm 1 18 (.mkI 180 (tm 17)),
  sv 2 2 18])
  .ret)))
def r89 : List Mo := [.mv (tm 2)]
theorem c89_eq : compF Tryz.prog 89 = some c89 := by kernel_rfl
theorem r89_eq : compRs Tryz.prog 89 = some r89 := by kernel_rfl
/-! F90 braid/orset.Check -/
def l90_0 : Cd := (.seq (.reg [sm 0 13 (.bin .lss 3 (tm 12) (tm 11))])
  (.seq (.cond (tm 13) .skip (.exit 0))
  (.seq (.block 1 (.seq (.reg [sv 0 14 12,
  sm 1 15 (.ia (.sl 33) (tm 10) (tm 12)),
  sm 2 16 (.ldA 33 (tm 15)),
  sm 3 4 (.alloc ([.str []] ++ rep 32 (.int .u8 0))),
  sv 4 3 14,
  se 5 (.st 33 (tm 4) (tm 16))])
  (.seq (.reg [sm 0 17 (.fa 0 (tm 4)),
  sm 1 18 (.ld1 (tm 17)),
  sm 2 19 (.bld [.int .u8 0, .str [], .int .u8 0, .int .i64 0, .int .u64 0, .str []] [(0, 1, (.const (.int .u8 2))), (1, 1, (tm 18))]),
  sc 3 20 77 [(tm 19)],
  sm 4 21 (.bin .neq 49 (tm 20) (.const (.int .i64 0))),
  sv 5 22 21,
  sg 6 23 22 false (.mv (tm 3)),
  sg 7 24 22 false (.bin .gtr 3 (tm 23) (.const (.int .i64 0))),
  sg 8 25 22 false (.mv (tm 24)),
  sg 9 26 25 true (.fa 0 (tm 1)),
  sg 10 27 25 true (.ld1 (tm 26)),
  sg 11 28 25 true (.mv (tm 3)),
  sg 12 29 25 true (.bin .sub 3 (tm 28) (.const (.int .i64 1))),
  sg 13 30 25 true (.ia (.sl 33) (tm 27) (tm 29)),
  sg 14 31 25 true (.ldA 33 (tm 30)),
  sg 15 32 25 true (.ldA 33 (tm 4)),
  ⟨16, (some 33), (some ((some 25), true)), .callF 129 [(tm 31), (tm 32)], [], false⟩,
  sg 17 34 25 true (.bin .geq 3 (tm 33) (.const (.int .i64 0))),
  sg 18 35 22 false (.pick (tm 25) (tm 34) (.const (.bool false))),
  sm 19 36 (.pick (tm 22) (.const (.bool true)) (tm 35))])
  (.cond (tm 36) (.seq (.reg [sm 0 2 (.mv (.const (.int .i64 8)))])
  .ret) .skip))))
  (.reg [sm 0 37 (.bin .add 3 (tm 12) (.const (.int .i64 1))),
  sv 1 12 37]))))
def c90 : Cd := (.seq (.reg [sm 0 1 (.box (tm 0)),
  sm 1 2 (.mv (.const (.int .i64 0)))])
  (.seq (.seq (.reg [sm 0 5 (.fa 0 (tm 1)),
  sm 1 6 (.ld1 (tm 5)),
  sm 2 7 (.len (.sl 33) (tm 6)),
  sm 3 8 (.bin .gtr 3 (tm 7) (.const (.int .i64 60)))])
  (.cond (tm 8) (.seq (.reg [sm 0 2 (.mv (.const (.int .i64 4)))])
  .ret) .skip))
  (.seq (.seq (.reg [sm 0 9 (.fa 0 (tm 1)),
  sm 1 10 (.ld1 (tm 9)),
  sm 2 11 (.len (.sl 33) (tm 10)),
  sm 3 12 (.mv (.const (.int .i64 0)))])
  (.block 0 (.loop l90_0)))
  (.seq (.reg [sm 0 2 (.mv (.const (.int .i64 0)))])
  .ret))))
def r90 : List Mo := [.mv (tm 2)]
theorem c90_eq : compF Tryz.prog 90 = some c90 := by kernel_rfl
theorem r90_eq : compRs Tryz.prog 90 = some r90 := by kernel_rfl
/-! F91 braid/lww.Check -/
def l91_0 : Cd := (.seq (.reg [sm 0 13 (.bin .lss 3 (tm 12) (tm 11))])
  (.seq (.cond (tm 13) .skip (.exit 0))
  (.seq (.block 1 (.seq (.reg [sv 0 14 12,
  sm 1 15 (.ia (.sl 38) (tm 10) (tm 12)),
  sm 2 16 (.ldA 38 (tm 15)),
  sm 3 4 (.alloc ([.str [], .int .u8 0, .int .i64 0, .int .u64 0, .str [], .int .u64 0] ++ rep 32 (.int .u8 0))),
  sv 4 3 14,
  se 5 (.st 38 (tm 4) (tm 16))])
  (.seq (.reg [sm 0 17 (.fa 0 (tm 4)),
  sm 1 18 (.ld1 (tm 17)),
  sm 2 19 (.bld [.int .u8 0, .str [], .int .u8 0, .int .i64 0, .int .u64 0, .str []] [(0, 1, (.const (.int .u8 2))), (1, 1, (tm 18))]),
  sc 3 20 77 [(tm 19)],
  sm 4 21 (.bin .neq 49 (tm 20) (.const (.int .i64 0))),
  sv 5 22 21,
  sg 6 23 22 false (.fa 1 (tm 4)),
  sg 7 24 22 false (.ldA 4 (tm 23)),
  ⟨8, (some 25), (some ((some 22), false)), .callF 123 [(tm 24)], [], false⟩,
  sg 9 26 22 false (.bin .neq 49 (tm 25) (.const (.int .i64 0))),
  sm 10 27 (.pick (tm 22) (.const (.bool true)) (tm 26)),
  sv 11 28 27,
  sg 12 29 28 false (.fa 5 (tm 4)),
  sg 13 30 28 false (.ld1 (tm 29)),
  sg 14 31 28 false (.bin .gtr 23 (tm 30) (.const (.int .u64 1000000000000))),
  sm 15 32 (.pick (tm 28) (.const (.bool true)) (tm 31)),
  sv 16 33 32,
  sg 17 34 33 false (.mv (tm 3)),
  sg 18 35 33 false (.bin .gtr 3 (tm 34) (.const (.int .i64 0))),
  sg 19 36 33 false (.mv (tm 35)),
  sg 20 37 36 true (.fa 0 (tm 1)),
  sg 21 38 36 true (.ld1 (tm 37)),
  sg 22 39 36 true (.mv (tm 3)),
  sg 23 40 36 true (.bin .sub 3 (tm 39) (.const (.int .i64 1))),
  sg 24 41 36 true (.ia (.sl 38) (tm 38) (tm 40)),
  sg 25 42 36 true (.fa 0 (tm 41)),
  sg 26 43 36 true (.ld1 (tm 42)),
  sg 27 44 36 true (.fa 0 (tm 4)),
  sg 28 45 36 true (.ld1 (tm 44)),
  sg 29 46 36 true (.bin .geq 9 (tm 43) (tm 45)),
  sg 30 47 33 false (.pick (tm 36) (tm 46) (.const (.bool false))),
  sm 31 48 (.pick (tm 33) (.const (.bool true)) (tm 47))])
  (.cond (tm 48) (.seq (.reg [sm 0 2 (.mv (.const (.int .i64 8)))])
  .ret) .skip))))
  (.reg [sm 0 49 (.bin .add 3 (tm 12) (.const (.int .i64 1))),
  sv 1 12 49]))))
def c91 : Cd := (.seq (.reg [sm 0 1 (.box (tm 0)),
  sm 1 2 (.mv (.const (.int .i64 0)))])
  (.seq (.seq (.reg [sm 0 5 (.fa 0 (tm 1)),
  sm 1 6 (.ld1 (tm 5)),
  sm 2 7 (.len (.sl 38) (tm 6)),
  sm 3 8 (.bin .gtr 3 (tm 7) (.const (.int .i64 60)))])
  (.cond (tm 8) (.seq (.reg [sm 0 2 (.mv (.const (.int .i64 4)))])
  .ret) .skip))
  (.seq (.seq (.reg [sm 0 9 (.fa 0 (tm 1)),
  sm 1 10 (.ld1 (tm 9)),
  sm 2 11 (.len (.sl 38) (tm 10)),
  sm 3 12 (.mv (.const (.int .i64 0)))])
  (.block 0 (.loop l91_0)))
  (.seq (.reg [sm 0 2 (.mv (.const (.int .i64 0)))])
  .ret))))
def r91 : List Mo := [.mv (tm 2)]
theorem c91_eq : compF Tryz.prog 91 = some c91 := by kernel_rfl
theorem r91_eq : compRs Tryz.prog 91 = some r91 := by kernel_rfl
/-! F102 braid/op.Decode -/
def c102 : Cd := (.seq (.reg [sm 0 2 (.alloc [.int .u32 0, .nilS, .int .u64 0, .int .u8 0, .str [], .int .u8 0, .int .i64 0, .int .u64 0, .str [], .int .u32 0, .int .u32 0]),
  sm 1 3 (.mv (.const (.int .i64 0)))])
  (.seq (.reg [sv 0 16 0,
  sm 1 17 (.bld [.nilS, .bool false] [(0, 1, (tm 16))]),
  sm 2 18 (.box (tm 17)),
  sv 3 4 18])
  (.seq (.reg [sm 0 5 (.mv (.func 152))])
  (.seq (.seq (.reg [sv 0 19 4,
  sc 1 20 153 [(tm 19)],
  sm 2 21 (.bin .neq 5 (tm 20) (.const (.int .u8 111)))])
  (.cond (tm 21) (.seq (.reg [sv 0 22 5,
  ⟨1, (some 23), none, .callV (tm 22) [], [], false⟩,
  sm 2 24 (.ext (tm 23) 0),
  sm 3 25 (.ext (tm 23) 1),
  se 4 (.st 11 (tm 2) (tm 24)),
  sv 5 3 25])
  .ret) .skip))
  (.seq (.reg [sm 0 6 (.alloc [.int .u32 0, .nilS, .int .u64 0, .int .u8 0, .str [], .int .u8 0, .int .i64 0, .int .u64 0, .str [], .int .u32 0, .int .u32 0])])
  (.seq (.reg [sv 0 26 4,
  sc 1 27 154 [(tm 26), (.const (.int .u64 1000000007))],
  sm 2 28 (.cint .u32 (tm 27)),
  sm 3 29 (.fa 0 (tm 6)),
  se 4 (.st 1 (tm 29) (tm 28))])
  (.seq (.reg [sv 0 31 4,
  sm 1 32 (.nilc (tm 31)),
  sm 2 33 (.fa 0 (tm 32)),
  sm 3 34 (.ld1 (tm 33)),
  sc 4 35 155 [(tm 34), (.const (.int .i64 4))],
  sv 5 30 35,
  sm 6 36 (.ext (tm 30) 0),
  sm 7 37 (.ext (tm 30) 1),
  sm 8 38 (.ext (tm 30) 2),
  sv 9 7 36,
  sv 10 8 37,
  sv 11 9 38])
  (.seq (.reg [sv 0 39 4,
  sv 1 40 8,
  sv 2 41 9,
  sc 3 42 156 [(tm 39), (tm 40), (tm 41)]])
  (.seq (.reg [sv 0 43 7,
  sv 1 44 4,
  sc 2 45 154 [(tm 44), (.const (.int .u64 1000000000000))],
  sv 3 46 4,
  sc 4 47 153 [(tm 46)],
  sm 5 48 (.fa 1 (tm 6)),
  se 6 (.st 1 (tm 48) (tm 43)),
  sm 7 49 (.fa 2 (tm 6)),
  se 8 (.st 1 (tm 49) (tm 45)),
  sm 9 50 (.fa 3 (tm 6)),
  sm 10 51 (.fa 0 (tm 50)),
  se 11 (.st 1 (tm 51) (tm 47))])
  (.seq (.seq (.reg [sm 0 52 (.fa 3 (tm 6)),
  sm 1 53 (.fa 0 (tm 52)),
  sm 2 54 (.ld1 (tm 53)),
  sm 3 55 (.bin .neq 5 (tm 54) (.const (.int .u8 1)))])
  (.cond (tm 55) (.seq (.reg [sv 0 57 4,
  sm 1 58 (.nilc (tm 57)),
  sm 2 59 (.fa 0 (tm 58)),
  sm 3 60 (.ld1 (tm 59)),
  sc 4 61 157 [(tm 60), (.const (.int .i64 20))],
  sv 5 56 61,
  sm 6 62 (.ext (tm 56) 0),
  sm 7 63 (.ext (tm 56) 1),
  sm 8 64 (.ext (tm 56) 2),
  sv 9 10 62,
  sv 10 11 63,
  sv 11 12 64])
  (.seq (.reg [sv 0 65 4,
  sv 1 66 11,
  sv 2 67 12,
  sc 3 68 156 [(tm 65), (tm 66), (tm 67)]])
  (.reg [sv 0 69 10,
  sm 1 70 (.cbs (tm 69)),
  sm 2 71 (.fa 3 (tm 6)),
  sm 3 72 (.fa 1 (tm 71)),
  se 4 (.st 1 (tm 72) (tm 70))]))) .skip))
  (.seq (.seq (.reg [sm 0 73 (.fa 3 (tm 6)),
  sm 1 74 (.fa 0 (tm 73)),
  sm 2 75 (.ld1 (tm 74)),
  sm 3 76 (.bin .eql 5 (tm 75) (.const (.int .u8 4)))])
  (.cond (tm 76) (.seq (.reg [sv 0 78 4,
  sm 1 79 (.nilc (tm 78)),
  sm 2 80 (.fa 0 (tm 79)),
  sm 3 81 (.ld1 (tm 80)),
  sc 4 82 158 [(tm 81)],
  sv 5 77 82,
  sm 6 83 (.ext (tm 77) 0),
  sm 7 84 (.ext (tm 77) 1),
  sm 8 85 (.ext (tm 77) 2),
  sm 9 13 (.alloc [.int .u8 0, .int .i64 0, .int .u64 0, .str []]),
  se 10 (.st 4 (tm 13) (tm 83)),
  sv 11 14 84,
  sv 12 15 85])
  (.seq (.reg [sv 0 86 4,
  sv 1 87 14,
  sv 2 88 15,
  sc 3 89 156 [(tm 86), (tm 87), (tm 88)]])
  (.reg [sm 0 90 (.ldA 4 (tm 13)),
  sm 1 91 (.fa 3 (tm 6)),
  sm 2 92 (.fa 2 (tm 91)),
  se 3 (.st 4 (tm 92) (tm 90))]))) .skip))
  (.seq (.reg [sv 0 93 4,
  sc 1 94 154 [(tm 93), (.const (.int .u64 500000003))],
  sm 2 95 (.cint .u32 (tm 94)),
  sv 3 96 4,
  sc 4 97 154 [(tm 96), (.const (.int .u64 500000003))],
  sm 5 98 (.cint .u32 (tm 97)),
  sm 6 99 (.fa 9 (tm 6)),
  sm 7 100 (.fa 0 (tm 99)),
  se 8 (.st 1 (tm 100) (tm 95)),
  sm 9 101 (.fa 9 (tm 6)),
  sm 10 102 (.fa 1 (tm 101)),
  se 11 (.st 1 (tm 102) (tm 98))])
  (.seq (.seq (.reg [sv 0 103 4,
  sm 1 104 (.nilc (tm 103)),
  sm 2 105 (.fa 1 (tm 104)),
  sm 3 106 (.ld1 (tm 105)),
  sv 4 107 106,
  sg 5 108 107 false (.mv (tm 4)),
  sg 6 109 107 false (.nilc (tm 108)),
  sg 7 110 107 false (.fa 0 (tm 109)),
  sg 8 111 107 false (.ld1 (tm 110)),
  sg 9 112 107 false (.len (.sl 1) (tm 111)),
  sg 10 113 107 false (.bin .gtr 3 (tm 112) (.const (.int .i64 0))),
  sm 11 114 (.pick (tm 107) (.const (.bool true)) (tm 113)),
  sv 12 115 114,
  sg 13 116 115 false (.ldA 11 (tm 6)),
  ⟨14, (some 117), (some ((some 115), false)), .callF 142 [(tm 116)], [], false⟩,
  sg 15 118 115 false (.bin .neq 49 (tm 117) (.const (.int .i64 0))),
  sm 16 119 (.pick (tm 115) (.const (.bool true)) (tm 118))])
  (.cond (tm 119) (.seq (.reg [sv 0 120 5,
  ⟨1, (some 121), none, .callV (tm 120) [], [], false⟩,
  sm 2 122 (.ext (tm 121) 0),
  sm 3 123 (.ext (tm 121) 1),
  se 4 (.st 11 (tm 2) (tm 122)),
  sv 5 3 123])
  .ret) .skip))
  (.seq (.reg [sm 0 124 (.ldA 11 (tm 6)),
  se 1 (.st 11 (tm 2) (tm 124)),
  sm 2 3 (.mv (.const (.int .i64 0)))])
  .ret))))))))))))))
def r102 : List Mo := [.ldA 11 (tm 2), .mv (tm 3)]
theorem c102_eq : compF Tryz.prog 102 = some c102 := by kernel_rfl
theorem r102_eq : compRs Tryz.prog 102 = some r102 := by kernel_rfl
/-! F104 bytes.Equal -/
def c104 : Cd := (.seq (.reg [sm 0 4 (.mv (.const (.bool false)))])
  (.seq (.reg [sv 0 5 0,
  sm 1 6 (.cbs (tm 5)),
  sv 2 7 1,
  sm 3 8 (.cbs (tm 7)),
  sm 4 9 (.bin .eql 9 (tm 6) (tm 8)),
  sv 5 4 9])
  .ret))
def r104 : List Mo := [.mv (tm 4)]
theorem c104_eq : compF Tryz.prog 104 = some c104 := by kernel_rfl
theorem r104_eq : compRs Tryz.prog 104 = some r104 := by kernel_rfl
/-! F122 braid/op.key -/
def c122 : Cd := (.seq (.reg [sm 0 2 (.mv (.const (.bool false)))])
  (.seq (.reg [sv 0 3 0,
  sm 1 4 (.len .str (tm 3)),
  sm 2 5 (.bin .geq 3 (tm 4) (.const (.int .i64 1))),
  sv 3 6 5,
  sg 4 7 6 true (.mv (tm 0)),
  sg 5 8 6 true (.len .str (tm 7)),
  sg 6 9 6 true (.bin .leq 3 (tm 8) (.const (.int .i64 20))),
  sm 7 10 (.pick (tm 6) (tm 9) (.const (.bool false))),
  sv 8 11 10,
  sg 9 12 11 true (.mv (tm 0)),
  ⟨10, (some 13), (some ((some 11), true)), .callF 175 [(tm 12), (.func 176)], [], false⟩,
  sg 11 14 11 true (.bin .lss 3 (tm 13) (.const (.int .i64 0))),
  sm 12 15 (.pick (tm 11) (tm 14) (.const (.bool false))),
  sv 13 2 15])
  .ret))
def r122 : List Mo := [.mv (tm 2)]
theorem c122_eq : compF Tryz.prog 122 = some c122 := by kernel_rfl
theorem r122_eq : compRs Tryz.prog 122 = some r122 := by kernel_rfl
/-! F134 braid/orset.Keys -/
def l134_0 : Cd := (.seq (.reg [sm 0 17 (.bin .lss 3 (tm 16) (tm 15))])
  (.seq (.cond (tm 17) .skip (.exit 0))
  (.seq (.block 1 (.seq (.reg [sm 0 18 (.ia (.sl 33) (tm 14) (tm 16)),
  sm 1 19 (.ldA 33 (tm 18)),
  sm 2 7 (.alloc ([.str []] ++ rep 32 (.int .u8 0))),
  se 3 (.st 33 (tm 7) (tm 19))])
  (.reg [sv 0 20 5,
  sm 1 21 (.fa 0 (tm 7)),
  sm 2 22 (.ld1 (tm 21)),
  sm 3 23 (.bsl 1 [.str []] 1 [(0, (tm 22))]),
  sm 4 24 (.app 1 16 (tm 20) (tm 23)),
  sv 5 5 24])))
  (.reg [sm 0 25 (.bin .add 3 (tm 16) (.const (.int .i64 1))),
  sv 1 16 25]))))
def c134 : Cd := (.seq (.reg [sm 0 1 (.box (tm 0)),
  sm 1 2 (.mv (.const (.slice none 0 0))),
  sm 2 3 (.mv (.const (.int .i64 0)))])
  (.seq (.seq (.reg [sm 0 8 (.ldA 1 (tm 1)),
  sc 1 9 90 [(tm 8)],
  sv 2 4 9])
  (.seq (.reg [sv 0 10 4,
  sm 1 11 (.bin .neq 49 (tm 10) (.const (.int .i64 0)))])
  (.cond (tm 11) (.seq (.reg [sv 0 12 4,
  sm 1 2 (.mv (.const (.slice none 0 0))),
  sv 2 3 12])
  .ret) .skip)))
  (.seq (.reg [sm 0 5 (.mv (.const (.slice none 0 0)))])
  (.seq (.seq (.reg [sm 0 13 (.fa 0 (tm 1)),
  sm 1 14 (.ld1 (tm 13)),
  sm 2 15 (.len (.sl 33) (tm 14)),
  sm 3 16 (.mv (.const (.int .i64 0)))])
  (.block 0 (.loop l134_0)))
  (.seq (.reg [sv 0 26 5,
  sc 1 27 189 [(tm 26)],
  sv 2 2 27,
  sm 3 3 (.mv (.const (.int .i64 0)))])
  .ret)))))
def r134 : List Mo := [.mv (tm 2), .mv (tm 3)]
theorem c134_eq : compF Tryz.prog 134 = some c134 := by kernel_rfl
theorem r134_eq : compRs Tryz.prog 134 = some r134 := by kernel_rfl
/-! F135 slices.Contains[[]string,string] -/
def c135 : Cd := (.seq (.reg [sm 0 4 (.mv (.const (.bool false)))])
  (.seq (.reg [sv 0 5 0,
  sv 1 6 1,
  sc 2 7 190 [(tm 5), (tm 6)],
  sm 3 8 (.bin .geq 3 (tm 7) (.const (.int .i64 0))),
  sv 4 4 8])
  .ret))
def r135 : List Mo := [.mv (tm 4)]
theorem c135_eq : compF Tryz.prog 135 = some c135 := by kernel_rfl
theorem r135_eq : compRs Tryz.prog 135 = some r135 := by kernel_rfl
/-! F136 braid/lww.find[braid/api.Reg] -/
def c136 : Cd := (.seq (.reg [sm 0 4 (.box (tm 1)),
  sm 1 6 (.mv (.const (.int .i64 0))),
  sm 2 7 (.mv (.const (.bool false)))])
  (.seq (.reg [sv 0 8 0,
  sv 1 9 2,
  sm 2 10 (.mkF 192 [] [(tm 4)]),
  sc 3 11 191 [(tm 8), (tm 9), (tm 10)],
  sm 4 12 (.ext (tm 11) 0),
  sm 5 13 (.ext (tm 11) 1),
  sv 6 6 12,
  sv 7 7 13])
  .ret))
def r136 : List Mo := [.mv (tm 6), .mv (tm 7)]
theorem c136_eq : compF Tryz.prog 136 = some c136 := by kernel_rfl
theorem r136_eq : compRs Tryz.prog 136 = some r136 := by kernel_rfl
/-! F152 braid/op.Decode$1 -/
def c152 : Cd := (.seq (.reg [sm 0 0 (.alloc [.int .u32 0, .nilS, .int .u64 0, .int .u8 0, .str [], .int .u8 0, .int .i64 0, .int .u64 0, .str [], .int .u32 0, .int .u32 0]),
  sm 1 1 (.mv (.const (.int .i64 0)))])
  (.seq (.reg [sm 0 2 (.bld [.int .u32 0, .nilS, .int .u64 0, .int .u8 0, .str [], .int .u8 0, .int .i64 0, .int .u64 0, .str [], .int .u32 0, .int .u32 0] []),
  se 1 (.st 11 (tm 0) (tm 2)),
  sm 2 1 (.mv (.const (.int .i64 12)))])
  .ret))
def r152 : List Mo := [.ldA 11 (tm 0), .mv (tm 1)]
theorem c152_eq : compF Tryz.prog 152 = some c152 := by kernel_rfl
theorem r152_eq : compRs Tryz.prog 152 = some r152 := by kernel_rfl
/-! F153 (*braid/op.reader).one -/
def c153 : Cd := (.seq (.reg [sm 0 2 (.mv (.const (.int .u8 0)))])
  (.seq (.seq (.reg [sv 0 4 0,
  sm 1 5 (.nilc (tm 4)),
  sm 2 6 (.fa 1 (tm 5)),
  sm 3 7 (.ld1 (tm 6)),
  sv 4 8 7,
  sg 5 9 8 false (.mv (tm 0)),
  sg 6 10 8 false (.nilc (tm 9)),
  sg 7 11 8 false (.fa 0 (tm 10)),
  sg 8 12 8 false (.ld1 (tm 11)),
  sg 9 13 8 false (.len (.sl 1) (tm 12)),
  sg 10 14 8 false (.bin .eql 3 (tm 13) (.const (.int .i64 0))),
  sm 11 15 (.pick (tm 8) (.const (.bool true)) (tm 14))])
  (.cond (tm 15) (.seq (.reg [sv 0 16 0,
  sm 1 17 (.nilc (tm 16)),
  sm 2 18 (.fa 1 (tm 17)),
  se 3 (.st 1 (tm 18) (.const (.bool true)))])
  (.seq (.reg [sm 0 2 (.mv (.const (.int .u8 0)))])
  .ret)) .skip))
  (.seq (.reg [sv 0 19 0,
  sm 1 20 (.nilc (tm 19)),
  sm 2 21 (.fa 0 (tm 20)),
  sm 3 22 (.ld1 (tm 21)),
  sm 4 23 (.ia (.sl 1) (tm 22) (.const (.int .i64 0))),
  sm 5 24 (.ld1 (tm 23)),
  sv 6 3 24])
  (.seq (.reg [sv 0 25 0,
  sc 1 26 156 [(tm 25), (.const (.int .i64 1)), (.const (.int .i64 0))]])
  (.seq (.reg [sv 0 27 3,
  sv 1 2 27])
  .ret)))))
def r153 : List Mo := [.mv (tm 2)]
theorem c153_eq : compF Tryz.prog 153 = some c153 := by kernel_rfl
theorem r153_eq : compRs Tryz.prog 153 = some r153 := by kernel_rfl
/-! F156 (*braid/op.reader).next -/
def c156 : Cd := (.seq (.seq (.reg [sv 0 6 2,
  sm 1 7 (.bin .neq 49 (tm 6) (.const (.int .i64 0)))])
  (.cond (tm 7) (.seq (.reg [sv 0 8 0,
  sm 1 9 (.nilc (tm 8)),
  sm 2 10 (.fa 1 (tm 9)),
  se 3 (.st 1 (tm 10) (.const (.bool true)))])
  .ret) .skip))
  (.reg [sv 0 11 0,
  sv 1 12 0,
  sm 2 13 (.nilc (tm 12)),
  sm 3 14 (.fa 0 (tm 13)),
  sm 4 15 (.ld1 (tm 14)),
  sv 5 16 1,
  sm 6 17 (.slice (.sl 1) (tm 15) (some (tm 16)) none none),
  sm 7 18 (.nilc (tm 11)),
  sm 8 19 (.fa 0 (tm 18)),
  se 9 (.st 1 (tm 19) (tm 17))]))
def r156 : List Mo := []
theorem c156_eq : compF Tryz.prog 156 = some c156 := by kernel_rfl
theorem r156_eq : compRs Tryz.prog 156 = some r156 := by kernel_rfl
/-! F175 strings.IndexFunc -/
def c175 : Cd := (.seq (.reg [sm 0 4 (.mv (.const (.int .i64 0)))])
  (.seq (.reg [sv 0 5 0,
  sv 1 6 1,
  sc 2 7 228 [(tm 5), (tm 6), (.const (.bool true))],
  sv 3 4 7])
  .ret))
def r175 : List Mo := [.mv (tm 4)]
theorem c175_eq : compF Tryz.prog 175 = some c175 := by kernel_rfl
theorem r175_eq : compRs Tryz.prog 175 = some r175 := by kernel_rfl
/-! F176 braid/op.key$1 -/
def c176 : Cd := (.seq (.reg [sm 0 2 (.mv (.const (.bool false)))])
  (.seq (.reg [sv 0 3 0,
  sm 1 4 (.bin .lss 21 (tm 3) (.const (.int .i32 33))),
  sv 2 5 4,
  sg 3 6 5 false (.mv (tm 0)),
  sg 4 7 5 false (.bin .gtr 21 (tm 6) (.const (.int .i32 126))),
  sm 5 8 (.pick (tm 5) (.const (.bool true)) (tm 7)),
  sv 6 2 8])
  .ret))
def r176 : List Mo := [.mv (tm 2)]
theorem c176_eq : compF Tryz.prog 176 = some c176 := by kernel_rfl
theorem r176_eq : compRs Tryz.prog 176 = some r176 := by kernel_rfl
/-! F189 slices.Compact[[]string,string] -/
def l189_0 : Cd := (.seq (.seq (.reg [sv 0 29 5,
  sv 1 30 4,
  sm 2 31 (.len (.sl 1) (tm 30)),
  sm 3 32 (.bin .lss 3 (tm 29) (tm 31))])
  (.cond (tm 32) .skip (.exit 2)))
  (.seq (.block 3 (.seq (.reg [sv 0 35 4,
  sv 1 36 5,
  sm 2 37 (.ia (.sl 1) (tm 35) (tm 36)),
  sm 3 38 (.ld1 (tm 37)),
  sv 4 39 4,
  sv 5 40 5,
  sm 6 41 (.bin .sub 3 (tm 40) (.const (.int .i64 1))),
  sm 7 42 (.ia (.sl 1) (tm 39) (tm 41)),
  sm 8 43 (.ld1 (tm 42)),
  sm 9 44 (.bin .neq 9 (tm 38) (tm 43))])
  (.cond (tm 44) (.seq (.reg [sv 0 45 0,
  sv 1 46 3,
  sv 2 47 4,
  sv 3 48 5,
  sm 4 49 (.ia (.sl 1) (tm 47) (tm 48)),
  sm 5 50 (.ld1 (tm 49)),
  sm 6 51 (.ia (.sl 1) (tm 45) (tm 46)),
  se 7 (.st 1 (tm 51) (tm 50))])
  (.reg [sv 0 52 3,
  sm 1 53 (.bin .add 3 (tm 52) (.const (.int .i64 1))),
  sv 2 3 53])) .skip)))
  (.reg [sv 0 33 5,
  sm 1 34 (.bin .add 3 (tm 33) (.const (.int .i64 1))),
  sv 2 5 34])))
def l189_1 : Cd := (.seq (.seq (.reg [sv 0 10 3,
  sv 1 11 0,
  sm 2 12 (.len (.sl 1) (tm 11)),
  sm 3 13 (.bin .lss 3 (tm 10) (tm 12))])
  (.cond (tm 13) .skip (.exit 0)))
  (.seq (.block 1 (.seq (.reg [sv 0 16 0,
  sv 1 17 3,
  sm 2 18 (.ia (.sl 1) (tm 16) (tm 17)),
  sm 3 19 (.ld1 (tm 18)),
  sv 4 20 0,
  sv 5 21 3,
  sm 6 22 (.bin .sub 3 (tm 21) (.const (.int .i64 1))),
  sm 7 23 (.ia (.sl 1) (tm 20) (tm 22)),
  sm 8 24 (.ld1 (tm 23)),
  sm 9 25 (.bin .eql 9 (tm 19) (tm 24))])
  (.cond (tm 25) (.seq (.reg [sv 0 26 0,
  sv 1 27 3,
  sm 2 28 (.slice (.sl 1) (tm 26) (some (tm 27)) none none),
  sv 3 4 28])
  (.seq (.seq (.reg [sm 0 5 (.mv (.const (.int .i64 1)))])
  (.block 2 (.loop l189_0)))
  (.seq (.reg [sv 0 54 0,
  sv 1 55 3,
  sm 2 56 (.slice (.sl 1) (tm 54) (some (tm 55)) none none),
  se 3 (.clr [.str []] (tm 56))])
  (.seq (.reg [sv 0 57 0,
  sv 1 58 3,
  sm 2 59 (.slice (.sl 1) (tm 57) none (some (tm 58)) none),
  sv 3 2 59])
  .ret)))) .skip)))
  (.reg [sv 0 14 3,
  sm 1 15 (.bin .add 3 (tm 14) (.const (.int .i64 1))),
  sv 2 3 15])))
def c189 : Cd := (.seq (.reg [sm 0 2 (.mv (.const (.slice none 0 0)))])
  (.seq (.seq (.reg [sv 0 6 0,
  sm 1 7 (.len (.sl 1) (tm 6)),
  sm 2 8 (.bin .lss 3 (tm 7) (.const (.int .i64 2)))])
  (.cond (tm 8) (.seq (.reg [sv 0 9 0,
  sv 1 2 9])
  .ret) .skip))
  (.seq (.seq (.reg [sm 0 3 (.mv (.const (.int .i64 1)))])
  (.block 0 (.loop l189_1)))
  (.seq (.reg [sv 0 60 0,
  sv 1 2 60])
  .ret))))
def r189 : List Mo := [.mv (tm 2)]
theorem c189_eq : compF Tryz.prog 189 = some c189 := by kernel_rfl
theorem r189_eq : compRs Tryz.prog 189 = some r189 := by kernel_rfl
/-! F190 slices.Index[[]string,string] -/
def l190_0 : Cd := (.seq (.reg [sm 0 9 (.bin .lss 3 (tm 8) (tm 7))])
  (.seq (.cond (tm 9) .skip (.exit 0))
  (.seq (.block 1 (.seq (.reg [sv 0 10 8,
  sv 1 5 10])
  (.seq (.reg [sv 0 11 1,
  sv 1 12 0,
  sv 2 13 5,
  sm 3 14 (.ia (.sl 1) (tm 12) (tm 13)),
  sm 4 15 (.ld1 (tm 14)),
  sm 5 16 (.bin .eql 9 (tm 11) (tm 15))])
  (.cond (tm 16) (.seq (.reg [sv 0 17 5,
  sv 1 4 17])
  .ret) .skip))))
  (.reg [sm 0 18 (.bin .add 3 (tm 8) (.const (.int .i64 1))),
  sv 1 8 18]))))
def c190 : Cd := (.seq (.reg [sm 0 4 (.mv (.const (.int .i64 0)))])
  (.seq (.seq (.reg [sv 0 6 0,
  sm 1 7 (.len (.sl 1) (tm 6)),
  sm 2 8 (.mv (.const (.int .i64 0)))])
  (.block 0 (.loop l190_0)))
  (.seq (.reg [sm 0 4 (.mv (.const (.int .i64 (-1))))])
  .ret)))
def r190 : List Mo := [.mv (tm 4)]
theorem c190_eq : compF Tryz.prog 190 = some c190 := by kernel_rfl
theorem r190_eq : compRs Tryz.prog 190 = some r190 := by kernel_rfl
/-! F191 slices.BinarySearchFunc[[]braid/api.Reg,braid/api.Reg,string] -/
def l191_0 : Cd := (.seq (.seq (.reg [sv 0 15 9,
  sv 1 16 10,
  sm 2 17 (.bin .lss 3 (tm 15) (tm 16))])
  (.cond (tm 17) .skip (.exit 0)))
  (.block 1 (.seq (.reg [sv 0 18 9,
  sv 1 19 10,
  sm 2 20 (.bin .add 3 (tm 18) (tm 19)),
  sm 3 21 (.cint .u64 (tm 20)),
  sm 4 22 (.bin .shr 268 (tm 21) (.const (.int .u64 1))),
  sm 5 23 (.cint .i64 (tm 22)),
  sv 6 11 23])
  (.seq (.reg [sv 0 24 2,
  sv 1 25 0,
  sv 2 26 11,
  sm 3 27 (.ia (.sl 38) (tm 25) (tm 26)),
  sm 4 28 (.ldA 38 (tm 27)),
  sv 5 29 1,
  ⟨6, (some 30), none, .callV (tm 24) [(tm 28), (tm 29)], [], false⟩,
  sm 7 31 (.bin .lss 3 (tm 30) (.const (.int .i64 0)))])
  (.cond (tm 31) (.reg [sv 0 32 11,
  sm 1 33 (.bin .add 3 (tm 32) (.const (.int .i64 1))),
  sv 2 9 33]) (.reg [sv 0 34 11,
  sv 1 10 34]))))))
def c191 : Cd := (.seq (.reg [sm 0 6 (.mv (.const (.int .i64 0))),
  sm 1 7 (.mv (.const (.bool false)))])
  (.seq (.reg [sv 0 12 0,
  sm 1 13 (.len (.sl 38) (tm 12)),
  sv 2 8 13])
  (.seq (.reg [sv 0 14 8,
  sm 1 9 (.mv (.const (.int .i64 0))),
  sv 2 10 14])
  (.seq (.block 0 (.loop l191_0))
  (.seq (.reg [sv 0 35 9,
  sv 1 36 9,
  sv 2 37 8,
  sm 3 38 (.bin .lss 3 (tm 36) (tm 37)),
  sv 4 39 38,
  sg 5 40 39 true (.mv (tm 2)),
  sg 6 41 39 true (.mv (tm 0)),
  sg 7 42 39 true (.mv (tm 9)),
  sg 8 43 39 true (.ia (.sl 38) (tm 41) (tm 42)),
  sg 9 44 39 true (.ldA 38 (tm 43)),
  sg 10 45 39 true (.mv (tm 1)),
  ⟨11, (some 46), (some ((some 39), true)), .callV (tm 40) [(tm 44), (tm 45)], [], false⟩,
  sg 12 47 39 true (.bin .eql 3 (tm 46) (.const (.int .i64 0))),
  sm 13 48 (.pick (tm 39) (tm 47) (.const (.bool false))),
  sv 14 6 35,
  sv 15 7 48])
  .ret)))))
def r191 : List Mo := [.mv (tm 6), .mv (tm 7)]
theorem c191_eq : compF Tryz.prog 191 = some c191 := by kernel_rfl
theorem r191_eq : compRs Tryz.prog 191 = some r191 := by kernel_rfl
/-! F228 strings.indexFunc -/
def l228_0 : Cd := (.seq (.reg [sm 0 11 (.nxtS (tm 10)),
  sm 1 12 (.ext (tm 11) 0)])
  (.seq (.cond (tm 12) .skip (.exit 0))
  (.block 1 (.seq (.reg [sm 0 13 (.ext (tm 11) 1),
  sm 1 14 (.ext (tm 11) 2),
  sv 2 7 13,
  sv 3 8 14])
  (.seq (.reg [sv 0 15 1,
  sv 1 16 8,
  ⟨2, (some 17), none, .callV (tm 15) [(tm 16)], [], false⟩,
  sv 3 18 2,
  sm 4 19 (.bin .eql 4 (tm 17) (tm 18))])
  (.cond (tm 19) (.seq (.reg [sv 0 20 7,
  sv 1 6 20])
  .ret) .skip))))))
def c228 : Cd := (.seq (.reg [sm 0 6 (.mv (.const (.int .i64 0)))])
  (.seq (.seq (.reg [sv 0 9 0,
  sm 1 10 (.rngS (tm 9))])
  (.block 0 (.loop l228_0)))
  (.seq (.reg [sm 0 6 (.mv (.const (.int .i64 (-1))))])
  .ret)))
def r228 : List Mo := [.mv (tm 6)]
theorem c228_eq : compF Tryz.prog 228 = some c228 := by kernel_rfl
theorem r228_eq : compRs Tryz.prog 228 = some r228 := by kernel_rfl
/-! F296 (braid/calls.putting).first -/
def c296 : Cd := (.seq (.reg [sm 0 1 (.box (tm 0)),
  sm 1 2 (.mv (.const (.int .u8 0)))])
  (.seq (.reg [sm 0 2 (.mv (.const (.int .u8 2)))])
  .ret))
def r296 : List Mo := [.mv (tm 2)]
theorem c296_eq : compF Tryz.prog 296 = some c296 := by kernel_rfl
theorem r296_eq : compRs Tryz.prog 296 = some r296 := by kernel_rfl
/-! F297 (braid/calls.loading).first -/
def c297 : Cd := (.seq (.reg [sm 0 1 (.box (tm 0)),
  sm 1 2 (.mv (.const (.int .u8 0)))])
  (.seq (.reg [sm 0 2 (.mv (.const (.int .u8 1)))])
  .ret))
def r297 : List Mo := [.mv (tm 2)]
theorem c297_eq : compF Tryz.prog 297 = some c297 := by kernel_rfl
theorem r297_eq : compRs Tryz.prog 297 = some r297 := by kernel_rfl
/-! F298 (braid/calls.subbing).first -/
def c298 : Cd := (.seq (.reg [sm 0 1 (.box (tm 0)),
  sm 1 2 (.mv (.const (.int .u8 0)))])
  (.seq (.reg [sm 0 2 (.mv (.const (.int .u8 3)))])
  .ret))
def r298 : List Mo := [.mv (tm 2)]
theorem c298_eq : compF Tryz.prog 298 = some c298 := by kernel_rfl
theorem r298_eq : compRs Tryz.prog 298 = some r298 := by kernel_rfl
/-! F299 (braid/calls.closing).first -/
def c299 : Cd := (.seq (.reg [sm 0 1 (.box (tm 0)),
  sm 1 2 (.mv (.const (.int .u8 0)))])
  (.seq (.reg [sm 0 2 (.mv (.const (.int .u8 4)))])
  .ret))
def r299 : List Mo := [.mv (tm 2)]
theorem c299_eq : compF Tryz.prog 299 = some c299 := by kernel_rfl
theorem r299_eq : compRs Tryz.prog 299 = some r299 := by kernel_rfl
def tblT : Tr (Cd × List Mo) := (.node (.node (.node (.node (.node (.node (.node .nil (some (c63, r63)) (.node .nil (some (c191, r191)) .nil)) none .nil) (some (c15, r15)) (.node (.node .nil (some (c79, r79)) .nil) (some (c47, r47)) (.node (.node .nil (some (c175, r175)) .nil) none .nil))) none (.node (.node (.node (.node .nil (some (c135, r135)) .nil) none .nil) none .nil) none (.node (.node .nil (some (c87, r87)) .nil) (some (c55, r55)) .nil))) none (.node (.node (.node .nil (some (c35, r35)) .nil) (some (c19, r19)) (.node .nil (some (c51, r51)) .nil)) (some (c11, r11)) (.node (.node .nil none (.node (.node (.node .nil (some (c299, r299)) .nil) none .nil) none .nil)) none (.node (.node .nil (some (c91, r91)) .nil) none .nil)))) none (.node (.node (.node (.node .nil (some (c33, r33)) .nil) (some (c17, r17)) (.node .nil (some (c49, r49)) .nil)) none (.node (.node .nil none (.node (.node (.node .nil (some (c297, r297)) .nil) none .nil) none .nil)) (some (c25, r25)) (.node (.node (.node .nil (some (c153, r153)) .nil) (some (c89, r89)) .nil) none .nil))) (some (c5, r5)) (.node (.node .nil (some (c21, r21)) .nil) (some (c13, r13)) (.node (.node (.node .nil (some (c77, r77)) .nil) none .nil) none (.node .nil (some (c61, r61)) (.node (.node .nil (some (c189, r189)) .nil) none .nil)))))) none (.node (.node (.node (.node (.node .nil (some (c32, r32)) .nil) none (.node .nil none (.node (.node .nil (some (c176, r176)) .nil) none .nil))) none (.node (.node (.node (.node .nil (some (c136, r136)) .nil) none .nil) none (.node (.node (.node .nil (some (c296, r296)) .nil) none .nil) (some (c104, r104)) .nil)) (some (c24, r24)) (.node (.node (.node .nil (some (c152, r152)) .nil) (some (c88, r88)) .nil) none .nil))) none (.node (.node (.node .nil (some (c36, r36)) (.node .nil none (.node .nil (some (c228, r228)) .nil))) none (.node .nil (some (c52, r52)) .nil)) none (.node (.node (.node .nil (some (c76, r76)) .nil) (some (c44, r44)) .nil) (some (c28, r28)) (.node (.node (.node .nil (some (c156, r156)) .nil) none .nil) none .nil)))) none (.node (.node (.node (.node .nil (some (c34, r34)) .nil) none (.node .nil (some (c50, r50)) .nil)) none (.node (.node .nil none (.node (.node (.node .nil (some (c298, r298)) .nil) none .nil) none .nil)) none (.node (.node .nil (some (c90, r90)) .nil) none (.node .nil (some (c122, r122)) .nil)))) none (.node (.node (.node (.node (.node .nil (some (c134, r134)) .nil) none .nil) none (.node .nil (some (c102, r102)) .nil)) none (.node .nil (some (c54, r54)) .nil)) none (.node (.node (.node .nil (some (c78, r78)) .nil) none .nil) none (.node .nil (some (c62, r62)) (.node (.node .nil (some (c190, r190)) .nil) none .nil)))))))
theorem tbl_all : AllT (TblP Tryz.prog) tblT := (allT_none (allT_none (allT_none (allT_none (allT_some ⟨c15_eq, r15_eq⟩ (allT_none (allT_some ⟨c63_eq, r63_eq⟩ allT_nil (allT_some ⟨c191_eq, r191_eq⟩ allT_nil allT_nil)) allT_nil) (allT_some ⟨c47_eq, r47_eq⟩ (allT_some ⟨c79_eq, r79_eq⟩ allT_nil allT_nil) (allT_none (allT_some ⟨c175_eq, r175_eq⟩ allT_nil allT_nil) allT_nil))) (allT_none (allT_none (allT_none (allT_some ⟨c135_eq, r135_eq⟩ allT_nil allT_nil) allT_nil) allT_nil) (allT_some ⟨c55_eq, r55_eq⟩ (allT_some ⟨c87_eq, r87_eq⟩ allT_nil allT_nil) allT_nil))) (allT_some ⟨c11_eq, r11_eq⟩ (allT_some ⟨c19_eq, r19_eq⟩ (allT_some ⟨c35_eq, r35_eq⟩ allT_nil allT_nil) (allT_some ⟨c51_eq, r51_eq⟩ allT_nil allT_nil)) (allT_none (allT_none allT_nil (allT_none (allT_none (allT_some ⟨c299_eq, r299_eq⟩ allT_nil allT_nil) allT_nil) allT_nil)) (allT_none (allT_some ⟨c91_eq, r91_eq⟩ allT_nil allT_nil) allT_nil)))) (allT_some ⟨c5_eq, r5_eq⟩ (allT_none (allT_some ⟨c17_eq, r17_eq⟩ (allT_some ⟨c33_eq, r33_eq⟩ allT_nil allT_nil) (allT_some ⟨c49_eq, r49_eq⟩ allT_nil allT_nil)) (allT_some ⟨c25_eq, r25_eq⟩ (allT_none allT_nil (allT_none (allT_none (allT_some ⟨c297_eq, r297_eq⟩ allT_nil allT_nil) allT_nil) allT_nil)) (allT_none (allT_some ⟨c89_eq, r89_eq⟩ (allT_some ⟨c153_eq, r153_eq⟩ allT_nil allT_nil) allT_nil) allT_nil))) (allT_some ⟨c13_eq, r13_eq⟩ (allT_some ⟨c21_eq, r21_eq⟩ allT_nil allT_nil) (allT_none (allT_none (allT_some ⟨c77_eq, r77_eq⟩ allT_nil allT_nil) allT_nil) (allT_some ⟨c61_eq, r61_eq⟩ allT_nil (allT_none (allT_some ⟨c189_eq, r189_eq⟩ allT_nil allT_nil) allT_nil)))))) (allT_none (allT_none (allT_none (allT_none (allT_some ⟨c32_eq, r32_eq⟩ allT_nil allT_nil) (allT_none allT_nil (allT_none (allT_some ⟨c176_eq, r176_eq⟩ allT_nil allT_nil) allT_nil))) (allT_some ⟨c24_eq, r24_eq⟩ (allT_none (allT_none (allT_some ⟨c136_eq, r136_eq⟩ allT_nil allT_nil) allT_nil) (allT_some ⟨c104_eq, r104_eq⟩ (allT_none (allT_some ⟨c296_eq, r296_eq⟩ allT_nil allT_nil) allT_nil) allT_nil)) (allT_none (allT_some ⟨c88_eq, r88_eq⟩ (allT_some ⟨c152_eq, r152_eq⟩ allT_nil allT_nil) allT_nil) allT_nil))) (allT_none (allT_none (allT_some ⟨c36_eq, r36_eq⟩ allT_nil (allT_none allT_nil (allT_some ⟨c228_eq, r228_eq⟩ allT_nil allT_nil))) (allT_some ⟨c52_eq, r52_eq⟩ allT_nil allT_nil)) (allT_some ⟨c28_eq, r28_eq⟩ (allT_some ⟨c44_eq, r44_eq⟩ (allT_some ⟨c76_eq, r76_eq⟩ allT_nil allT_nil) allT_nil) (allT_none (allT_none (allT_some ⟨c156_eq, r156_eq⟩ allT_nil allT_nil) allT_nil) allT_nil)))) (allT_none (allT_none (allT_none (allT_some ⟨c34_eq, r34_eq⟩ allT_nil allT_nil) (allT_some ⟨c50_eq, r50_eq⟩ allT_nil allT_nil)) (allT_none (allT_none allT_nil (allT_none (allT_none (allT_some ⟨c298_eq, r298_eq⟩ allT_nil allT_nil) allT_nil) allT_nil)) (allT_none (allT_some ⟨c90_eq, r90_eq⟩ allT_nil allT_nil) (allT_some ⟨c122_eq, r122_eq⟩ allT_nil allT_nil)))) (allT_none (allT_none (allT_none (allT_none (allT_some ⟨c134_eq, r134_eq⟩ allT_nil allT_nil) allT_nil) (allT_some ⟨c102_eq, r102_eq⟩ allT_nil allT_nil)) (allT_some ⟨c54_eq, r54_eq⟩ allT_nil allT_nil)) (allT_none (allT_none (allT_some ⟨c78_eq, r78_eq⟩ allT_nil allT_nil) allT_nil) (allT_some ⟨c62_eq, r62_eq⟩ allT_nil (allT_none (allT_some ⟨c190_eq, r190_eq⟩ allT_nil allT_nil) allT_nil)))))))
theorem tbl_ok : TblOk Tryz.prog (fun f => tblT.get f) := tblOk_of tbl_all
end Go.CM

/-
  SHA-256, as lists of words and bytes; the words of a block.
-/
namespace Go.CM
open Go
set_option linter.unusedVariables false
set_option linter.unusedSimpArgs false

namespace Sha
abbrev W := BitVec 32
abbrev B := BitVec 8
def rotr (x : W) (n : Nat) : W := (x >>> n) ||| (x <<< (32 - n))
def wd (l : List B) : W := l.foldl (fun a x => (a <<< 8) ||| x.setWidth 32) 0#32
/-- The first sixteen words, after so many bytes. -/
def part (b : List B) (k t : Nat) : W := wd (((b.take k).drop (4 * t)).take 4)
def words16 (b : List B) : List W := (List.range 16).map fun t => wd ((b.drop (4 * t)).take 4)
def ext (w : List W) : W :=
  let t := w.length
  let x := w.getD (t - 15) 0#32
  let y := w.getD (t - 2) 0#32
  w.getD (t - 16) 0#32 + w.getD (t - 7) 0#32 + (rotr x 7 ^^^ rotr x 18 ^^^ (x >>> 3)) + (rotr y 17 ^^^ rotr y 19 ^^^ (y >>> 10))
def extN : Nat → List W → List W
  | 0, w => w
  | n + 1, w => extN n (w ++ [ext w])
def sched (b : List B) : List W := extN 48 (words16 b)

def mix (x : W) (i j k : Nat) : W := rotr x i ^^^ rotr x j ^^^ rotr x k
structure St where
  (a b c d e f g h : W)
def round (s : St) (k w : W) : St :=
  let p := s.h + mix s.e 6 11 25 + ((s.e &&& s.f) ^^^ (~~~s.e &&& s.g)) + k + w
  let q := mix s.a 2 13 22 + ((s.a &&& s.b) ^^^ (s.a &&& s.c) ^^^ (s.b &&& s.c))
  ⟨p + q, s.a, s.b, s.c, s.d + p, s.e, s.f, s.g⟩
def rounds : St → List W → List W → St
  | s, k :: ks, w :: ws => rounds (round s k w) ks ws
  | s, _, _ => s
def table : List Nat := [0x428a2f98, 0x71374491, 0xb5c0fbcf, 0xe9b5dba5, 0x3956c25b, 0x59f111f1, 0x923f82a4, 0xab1c5ed5, 0xd807aa98, 0x12835b01, 0x243185be, 0x550c7dc3, 0x72be5d74, 0x80deb1fe, 0x9bdc06a7, 0xc19bf174, 0xe49b69c1, 0xefbe4786, 0x0fc19dc6, 0x240ca1cc, 0x2de92c6f, 0x4a7484aa, 0x5cb0a9dc, 0x76f988da, 0x983e5152, 0xa831c66d, 0xb00327c8, 0xbf597fc7, 0xc6e00bf3, 0xd5a79147, 0x06ca6351, 0x14292967, 0x27b70a85, 0x2e1b2138, 0x4d2c6dfc, 0x53380d13, 0x650a7354, 0x766a0abb, 0x81c2c92e, 0x92722c85, 0xa2bfe8a1, 0xa81a664b, 0xc24b8b70, 0xc76c51a3, 0xd192e819, 0xd6990624, 0xf40e3585, 0x106aa070, 0x19a4c116, 0x1e376c08, 0x2748774c, 0x34b0bcb5, 0x391c0cb3, 0x4ed8aa4a, 0x5b9cca4f, 0x682e6ff3, 0x748f82ee, 0x78a5636f, 0x84c87814, 0x8cc70208, 0x90befffa, 0xa4506ceb, 0xbef9a3f7, 0xc67178f2]
def ks : List W := table.map (BitVec.ofNat 32)
def grind (h : St) (b : List B) : St :=
  let v := rounds h ks (sched b)
  ⟨h.a + v.a, h.b + v.b, h.c + v.c, h.d + v.d, h.e + v.e, h.f + v.f, h.g + v.g, h.h + v.h⟩
/-- All whole blocks are ground; so many at most. -/
def blocksN : Nat → St → List B → St × List B
  | 0, h, b => (h, b)
  | n + 1, h, b => if 64 ≤ b.length then blocksN n (grind h (b.take 64)) (b.drop 64) else (h, b)
def blocks (h : St) (b : List B) : St × List B := blocksN (b.length / 64) h b
def first : St := ⟨0x6a09e667#32, 0xbb67ae85#32, 0x3c6ef372#32, 0xa54ff53a#32, 0x510e527f#32, 0x9b05688c#32, 0x1f83d9ab#32, 0x5be0cd19#32⟩
def bytes8 (n : BitVec 64) : List B := [(n >>> 56).setWidth 8, (n >>> 48).setWidth 8, (n >>> 40).setWidth 8, (n >>> 32).setWidth 8, (n >>> 24).setWidth 8, (n >>> 16).setWidth 8, (n >>> 8).setWidth 8, (n >>> 0).setWidth 8]
def tail (n : Nat) : List B := 128#8 :: List.replicate ((119 - n % 64) % 64) 0#8 ++ bytes8 (BitVec.ofNat 64 n * 8#64)
def wbytes (w : W) : List B := [(w >>> 24).setWidth 8, (w >>> 16).setWidth 8, (w >>> 8).setWidth 8, w.setWidth 8]
def St.l (s : St) : List W := [s.a, s.b, s.c, s.d, s.e, s.f, s.g, s.h]
def written (s : St) : List B := (s.l.map wbytes).flatten
/-! ### Laws -/
end Sha
end Go.CM

/-
  The variables of the program: SHA-256's table.
-/
namespace Go.CM
open Go Go.Proofs
set_option linter.unusedVariables false
set_option linter.unusedSimpArgs false

def tblC : List CV := Sha.ks.map e32
def GS : Nat → CV := fun g => match Nat.beq g 1 with | true => .rptr tblC 0 | false => .bad
theorem GS_closed : ∀ g, (GS g).closed = true := by
  intro g
  unfold GS
  split
  · exact closedL_map e32 (fun _ => rfl) _
  · rfl
@[simp]
theorem GS_0 : GS 1 = .rptr tblC 0 := id rfl
end Go.CM

/-
  SHA-256, walked: the words of a block.
-/
namespace Go.CM
open Go Go.Proofs
set_option linter.unusedVariables false
set_option linter.unusedSimpArgs false
set_option maxRecDepth 100000
namespace Sha

abbrev Bs := Sv B
end Sha
end Go.CM

/-
  Slices of bytes: Grow, Concat, Clone, walked.
-/
namespace Go.CM
open Go Go.Proofs
set_option linter.unusedVariables false
set_option linter.unusedSimpArgs false
set_option maxRecDepth 100000
namespace Sha

def bytesOf (ls : List Bs) : List B := (ls.map Sv.l).flatten
end Sha
end Go.CM

/-
  SHA-256, walked: Clone, feed.
-/
namespace Go.CM
open Go Go.Proofs
set_option linter.unusedVariables false
set_option linter.unusedSimpArgs false
set_option maxRecDepth 100000
namespace Sha

structure Mill where
  st : St
  rest : Bs
  n : Int
end Sha
end Go.CM

/-
  SHA-256, walked: Pieces, Sum.
-/
namespace Go.CM
open Go Go.Proofs
set_option linter.unusedVariables false
set_option linter.unusedSimpArgs false
set_option maxRecDepth 100000
namespace Sha

structure InvM (m : Mill) (b : List B) : Prop where
  bl : blocks first b = (m.st, m.rest.l)
  n : m.n = b.length
def start : Mill := ⟨first, none, 0⟩
def isLong (s : Bs) : Bool := decide ((10000 : Int) < s.l.length)
def idx (l : List Bs) : Int := match l.findIdx? isLong with | some i => (i : Int) | none => -1
end Sha
end Go.CM

/-
  What comes in: bytes, ids, numbers; the table that the program lays.
-/
namespace Go.CM
open Go Go.Proofs Go.RowKit
set_option linter.unusedVariables false
set_option linter.unusedSimpArgs false
set_option maxRecDepth 100000
open Sha

def kInts : List Int := Sha.ks.map fun k => (k.toNat : Int)
theorem tblC_ints : tblC = kInts.map fun k => .int .u32 k := by unfold tblC kInts; rw [List.map_map]; rfl
theorem laid_glo {W : World} (h : laidMetH Tryz.prog [("braid/digest.constants", Go.Proofs.YtginfboibgolaaaGreatDoor.Rows.laid_braid_digest_constants)] W) : ∀ g, VR0 W (fun _ => True) (GS g) (.pointer (some ⟨g, 0, none⟩)) := by
  intro g
  unfold GS
  split
  · rename_i hb
    have := Nat.eq_of_beq_eq_true hb
    subst this
    rw [MakeChecks.laidMetH_plain _ _ _ (by kernel_rfl)] at h
    obtain ⟨ps, ⟨g0, t0, cs0, f0, p0, q0, hg0, ht0, hv0, hd0, _, _⟩, _, _⟩ := h
    have e1 : Tryz.prog.globalNamed "braid/digest.constants" = some 1 := by kernel_rfl
    have e2 : (Tryz.prog.globals[1]?).map (·.type) = some 352 := by kernel_rfl
    obtain rfl := Option.some.inj (e1.symm.trans hg0)
    obtain rfl := Option.some.inj (e2.symm.trans ht0)
    rw [tblC_ints]
    exact glo_u32 kInts e1 hv0 (n := 64) (e := 45) (by kernel_rfl) (by kernel_rfl) (by kernel_rfl) hd0 (by rfl)
  · exact .bad _
end Go.CM

/-
  Calls: CallsNames, carried out in parts (printed by program).
-/
namespace Go.CM
open Go Go.Proofs
set_option linter.unusedVariables false
set_option maxRecDepth 1000000

-- (some braid/braidlaw28.alive): 3144
abbrev kCallsNamesA0 : List CV := []
abbrev kCallsNamesR0 : CV := .bool true
theorem kCallsNames0 : PureN Tryz.prog GS 25 kCallsNamesA0 kCallsNamesR0 :=
  pureN_runs Tryz.checked.mixed GS_closed (orcOf_ok (AllO.mem (allO_nil))) tbl_ok (orc := orcOf []) (fuel := 100000) (k := 60) (by kernel_rfl)
theorem kCallsNames_run : CallP Tryz.prog GS 5 [] [] (c := ⟨fun r _ => r = .bool true⟩) :=
  callP_of_runs (orcOf_ok (AllO.mem (allO_cons (pickO_ok (allK_cons kCallsNames0 (allK_nil))) (allO_nil)))) tbl_ok (orc := orcOf [(25, true, pickA [(kCallsNamesA0, kCallsNamesR0)])]) (fuel := 100000) (k := 60) (by kernel_rfl)
end Go.CM
