/-
  The code of the functions, without types, as the canonical machine reads it (printed by program).
-/
import Derived.Test.YtdjbnhgdhambnaaGreatDoorDg
import Derived.Test.YtdjbnhgdhambnaaGreatDoorRows
import Derived.ProofKit
set_option linter.unusedVariables false
set_option linter.unusedSimpArgs false
set_option linter.unnecessarySimpa false
namespace Go.CM
open Go Go.Proofs
set_option maxRecDepth 100000
def l8_0 : Cd := (.seq (.seq (.reg [sv 0 133 27,
 sv 1 134 17,
 sm 2 135 (.len (.sl 34) (tm 134)),
 sm 3 136 (.bin .lss 3 (tm 133) (tm 135))])
 (.cond (tm 136) .skip (.exit 0)))
 (.seq (.block 1 (.reg [sv 0 139 26,
 sv 1 140 17,
 sv 2 141 27,
 sm 3 142 (.ia (.sl 34) (tm 140) (tm 141)),
 sm 4 143 (.fa 1 (tm 142)),
 sm 5 144 (.ld1 (tm 143)),
 sm 6 145 (.bsl 1 [.int .u8 0] 1 [(0, (tm 144))]),
 sm 7 146 (.app 1 1 (tm 139) (tm 145)),
 sv 8 26 146]))
 (.reg [sv 0 137 27,
 sm 1 138 (.bin .add 3 (tm 137) (.const (.int .i64 1))),
 sv 2 27 138])))
def l8_1 : Cd := (.seq (.seq (.reg [sv 0 194 28,
 sm 1 195 (.bin .lss 3 (tm 194) (.const (.int .i64 6)))])
 (.cond (tm 195) .skip (.exit 2)))
 (.seq (.block 3 (.seq (.reg [sm 0 198 (.ldA 9 (tm 16)),
 sc 1 199 11 [(tm 198)],
 sm 2 29 (.alloc [.int .i64 0, .nilS, .nilS, .int .i64 0, .nilS, .int .i64 0, .nilS, .int .i64 0, .bool false]),
 se 3 (.st 9 (tm 29) (tm 199))])
 (.seq (.seq (.reg [sv 0 200 28])
 (.block 4 (.seq (.reg [sm 0 202 (.bin .eql 3 (tm 200) (.const (.int .i64 0))),
 sv 1 201 202])
 (.cond (tm 201) (.reg [sm 0 203 (.fa 7 (tm 29)),
 se 1 (.st 1 (tm 203) (.const (.int .i64 2)))]) (.seq (.reg [sm 0 205 (.bin .eql 3 (tm 200) (.const (.int .i64 1))),
 sv 1 204 205])
 (.cond (tm 204) (.reg [sm 0 206 (.fa 7 (tm 29)),
 se 1 (.st 1 (tm 206) (.const (.int .i64 1000000001)))]) (.seq (.reg [sm 0 208 (.bin .eql 3 (tm 200) (.const (.int .i64 2))),
 sv 1 207 208])
 (.cond (tm 207) (.reg [sm 0 209 (.fa 0 (tm 29)),
 sm 1 210 (.fa 0 (tm 209)),
 se 2 (.st 1 (tm 210) (.const (.int .i64 0)))]) (.seq (.reg [sm 0 212 (.bin .eql 3 (tm 200) (.const (.int .i64 3))),
 sv 1 211 212])
 (.cond (tm 211) (.reg [sm 0 213 (.fa 5 (tm 29)),
 sm 1 214 (.fa 0 (tm 213)),
 se 2 (.st 1 (tm 214) (.const (.int .i64 0)))]) (.seq (.reg [sm 0 216 (.bin .eql 3 (tm 200) (.const (.int .i64 4))),
 sv 1 215 216])
 (.cond (tm 215) (.reg [sm 0 217 (.fa 5 (tm 29)),
 sm 1 218 (.fa 1 (tm 217)),
 sm 2 219 (.ld1 (tm 218)),
 sm 3 220 (.ia (.sl 45) (tm 219) (.const (.int .i64 0))),
 sm 4 221 (.fa 1 (tm 220)),
 sm 5 222 (.fa 9 (tm 221)),
 sm 6 223 (.fa 0 (tm 222)),
 sm 7 224 (.ld1 (tm 223)),
 sm 8 225 (.bin .add 46 (tm 224) (.const (.int .u32 1))),
 sm 9 226 (.ia (.sl 45) (tm 219) (.const (.int .i64 0))),
 sm 10 227 (.fa 1 (tm 226)),
 sm 11 228 (.fa 9 (tm 227)),
 sm 12 229 (.fa 0 (tm 228)),
 se 13 (.st 1 (tm 229) (tm 225))]) (.seq (.reg [sm 0 231 (.bin .eql 3 (tm 200) (.const (.int .i64 5))),
 sv 1 230 231])
 (.cond (tm 230) (.reg [sm 0 232 (.fa 5 (tm 29)),
 sm 1 233 (.fa 1 (tm 232)),
 sm 2 234 (.ld1 (tm 233)),
 sm 3 235 (.fa 2 (tm 11)),
 sm 4 236 (.ldA 11 (tm 235)),
 sm 5 237 (.fa 13 (tm 11)),
 sm 6 238 (.ldA 32 (tm 237)),
 sm 7 239 (.bld (rep 32 (.int .u8 0)) [(0, 1, (.const (.int .u8 1)))]),
 sm 8 240 (.bsl 32 (rep 32 (.int .u8 0)) 1 [(0, (tm 239))]),
 sm 9 241 (.bld ([.int .i64 0, .int .u32 0, .nilS, .int .u64 0, .int .u8 0, .str [], .int .u8 0, .int .i64 0, .int .u64 0, .str [], .int .u32 0, .int .u32 0] ++ rep 32 (.int .u8 0) ++ [.nilS]) [(0, 1, (.const (.int .i64 5))), (1, 11, (tm 236)), (12, 32, (tm 238)), (44, 1, (tm 240))]),
 sm 10 242 (.bsl 45 ([.int .i64 0, .int .u32 0, .nilS, .int .u64 0, .int .u8 0, .str [], .int .u8 0, .int .i64 0, .int .u64 0, .str [], .int .u32 0, .int .u32 0] ++ rep 32 (.int .u8 0) ++ [.nilS]) 1 [(0, (tm 241))]),
 sm 11 243 (.app 45 176 (tm 234) (tm 242)),
 sm 12 244 (.fa 5 (tm 29)),
 sm 13 245 (.fa 1 (tm 244)),
 se 14 (.st 1 (tm 245) (tm 243))]) .skip))))))))))))))
 (.seq (.reg [sm 0 247 (.ldA 9 (tm 29)),
 sm 1 248 (.bld ([.int .i64 0, .int .u8 0, .int .u32 0, .nilS, .int .u64 0, .int .u8 0, .str [], .int .u8 0, .int .i64 0, .int .u64 0, .str [], .int .u32 0, .int .u32 0] ++ rep 32 (.int .u8 0)) []),
 sc 2 249 18 [(tm 247), (tm 248)],
 sv 3 246 249,
 sm 4 250 (.ext (tm 246) 0),
 sm 5 251 (.ext (tm 246) 1),
 sm 6 252 (.ext (tm 246) 2),
 sm 7 30 (.alloc [.int .i64 0, .nilS, .nilS, .int .i64 0, .nilS, .int .i64 0, .nilS, .int .i64 0, .bool false]),
 se 8 (.st 9 (tm 30) (tm 250)),
 sv 9 31 251,
 sv 10 32 252])
 (.seq (.dreg [sm 0 254 (.ldA 9 (tm 29)),
 sm 1 255 (.mks 45 160 ([.int .i64 0, .int .u8 0, .int .u32 0, .nilS, .int .u64 0, .int .u8 0, .str [], .int .u8 0, .int .i64 0, .int .u64 0, .str [], .int .u32 0, .int .u32 0] ++ rep 32 (.int .u8 0)) (.const (.int .i64 61)) (.const (.int .i64 61))),
 ⟨7, (some 33), none, .mo (.alloc [.int .i64 0, .nilS, .nilS, .int .i64 0, .nilS, .int .i64 0, .nilS, .int .i64 0, .bool false]), [], true⟩,
 ⟨2, (some 256), none, .callF 12 [(tm 254), (tm 255)], [7], false⟩,
 sv 3 253 256,
 sm 4 257 (.ext (tm 253) 0),
 sm 5 258 (.ext (tm 253) 1),
 sm 6 259 (.ext (tm 253) 2),
 se 8 (.st 9 (tm 33) (tm 257)),
 sv 9 34 258,
 sv 10 35 259])
 (.seq (.reg [sm 0 260 (.ldA 9 (tm 29)),
 sc 1 261 24 [(tm 260)],
 sm 2 262 (.bin .neq 38 (tm 261) (.const (.int .i64 8))),
 sv 3 263 262,
 sg 4 264 263 false (.mv (tm 32)),
 sg 5 265 263 false (.bin .neq 38 (tm 264) (.const (.int .i64 8))),
 sm 6 266 (.pick (tm 263) (.const (.bool true)) (tm 265)),
 sv 7 267 266,
 sg 8 268 267 false (.mv (tm 35)),
 sg 9 269 267 false (.bin .neq 38 (tm 268) (.const (.int .i64 8))),
 sm 10 270 (.pick (tm 267) (.const (.bool true)) (tm 269))])
 (.cond (tm 270) (.seq (.reg [sm 0 0 (.mv (.const (.bool false)))])
 .ret) .skip)))))))
 (.reg [sv 0 196 28,
 sm 1 197 (.bin .add 3 (tm 196) (.const (.int .i64 1))),
 sv 2 28 197])))
def c8 : Cd := (.seq (.reg [sm 0 0 (.mv (.const (.bool false)))])
 (.seq (.reg [sc 0 55 16 [(.const (.int .i64 0)), (.const (.int .i64 1)), (.const (.int .i64 1))],
 sv 1 54 55,
 sm 2 56 (.ext (tm 54) 0),
 sm 3 57 (.ext (tm 54) 1),
 sm 4 1 (.alloc [.int .i64 0, .nilS, .nilS, .int .i64 0, .nilS, .int .i64 0, .nilS, .int .i64 0, .bool false]),
 se 5 (.st 9 (tm 1) (tm 56)),
 sv 6 2 57])
 (.seq (.reg [sc 0 59 16 [(.const (.int .i64 41)), (.const (.int .i64 1)), (.const (.int .i64 1))],
 sv 1 58 59,
 sm 2 60 (.ext (tm 58) 0),
 sm 3 61 (.ext (tm 58) 1),
 sm 4 3 (.alloc [.int .i64 0, .nilS, .nilS, .int .i64 0, .nilS, .int .i64 0, .nilS, .int .i64 0, .bool false]),
 se 5 (.st 9 (tm 3) (tm 60)),
 sv 6 4 61])
 (.seq (.reg [sc 0 63 16 [(.const (.int .i64 1)), (.const (.int .i64 0)), (.const (.int .i64 1))],
 sv 1 62 63,
 sm 2 64 (.ext (tm 62) 0),
 sm 3 65 (.ext (tm 62) 1),
 sm 4 5 (.alloc [.int .i64 0, .nilS, .nilS, .int .i64 0, .nilS, .int .i64 0, .nilS, .int .i64 0, .bool false]),
 se 5 (.st 9 (tm 5) (tm 64)),
 sv 6 6 65])
 (.seq (.reg [sc 0 67 16 [(.const (.int .i64 1)), (.const (.int .i64 1)), (.const (.int .i64 9))],
 sv 1 66 67,
 sm 2 68 (.ext (tm 66) 0),
 sm 3 69 (.ext (tm 66) 1),
 sm 4 7 (.alloc [.int .i64 0, .nilS, .nilS, .int .i64 0, .nilS, .int .i64 0, .nilS, .int .i64 0, .bool false]),
 se 5 (.st 9 (tm 7) (tm 68)),
 sv 6 8 69])
 (.seq (.reg [sc 0 71 16 [(.const (.int .i64 1)), (.const (.int .i64 1)), (.const (.int .i64 1))],
 sv 1 70 71,
 sm 2 72 (.ext (tm 70) 0),
 sm 3 73 (.ext (tm 70) 1),
 sm 4 9 (.alloc [.int .i64 0, .nilS, .nilS, .int .i64 0, .nilS, .int .i64 0, .nilS, .int .i64 0, .bool false]),
 se 5 (.st 9 (tm 9) (tm 72)),
 sv 6 10 73])
 (.seq (.seq (.reg [sv 0 74 10,
 sm 1 75 (.bin .neq 38 (tm 74) (.const (.int .i64 0)))])
 (.cond (tm 75) (.seq (.reg [sm 0 0 (.mv (.const (.bool false)))])
 .ret) .skip))
 (.seq (.reg [sc 0 76 39 [(.const (.int .i64 0)), (.const (.int .u64 1)), (.const (.slice none 0 0))],
 sm 1 11 (.alloc ([.int .i64 0, .int .u8 0, .int .u32 0, .nilS, .int .u64 0, .int .u8 0, .str [], .int .u8 0, .int .i64 0, .int .u64 0, .str [], .int .u32 0, .int .u32 0] ++ rep 32 (.int .u8 0))),
 se 2 (.st 45 (tm 11) (tm 76))])
 (.seq (.reg [sm 0 77 (.fa 13 (tm 11)),
 sm 1 78 (.ldA 32 (tm 77)),
 sm 2 79 (.bsl 32 (rep 32 (.int .u8 0)) 1 [(0, (tm 78))]),
 sc 3 80 39 [(.const (.int .i64 1)), (.const (.int .u64 2)), (tm 79)],
 sm 4 12 (.alloc ([.int .i64 0, .int .u8 0, .int .u32 0, .nilS, .int .u64 0, .int .u8 0, .str [], .int .u8 0, .int .i64 0, .int .u64 0, .str [], .int .u32 0, .int .u32 0] ++ rep 32 (.int .u8 0))),
 se 5 (.st 45 (tm 12) (tm 80))])
 (.seq (.reg [sm 0 81 (.fa 13 (tm 12)),
 sm 1 82 (.ldA 32 (tm 81)),
 sm 2 83 (.bsl 32 (rep 32 (.int .u8 0)) 1 [(0, (tm 82))]),
 sc 3 84 39 [(.const (.int .i64 2)), (.const (.int .u64 3)), (tm 83)],
 sm 4 13 (.alloc ([.int .i64 0, .int .u8 0, .int .u32 0, .nilS, .int .u64 0, .int .u8 0, .str [], .int .u8 0, .int .i64 0, .int .u64 0, .str [], .int .u32 0, .int .u32 0] ++ rep 32 (.int .u8 0))),
 se 5 (.st 45 (tm 13) (tm 84))])
 (.seq (.reg [sc 0 85 39 [(.const (.int .i64 3)), (.const (.int .u64 4)), (.const (.slice none 0 0))],
 sm 1 14 (.alloc ([.int .i64 0, .int .u8 0, .int .u32 0, .nilS, .int .u64 0, .int .u8 0, .str [], .int .u8 0, .int .i64 0, .int .u64 0, .str [], .int .u32 0, .int .u32 0] ++ rep 32 (.int .u8 0))),
 se 2 (.st 45 (tm 14) (tm 85))])
 (.seq (.reg [sm 0 86 (.fa 13 (tm 12)),
 sm 1 87 (.ldA 32 (tm 86)),
 sm 2 88 (.bsl 32 (rep 32 (.int .u8 0)) 1 [(0, (tm 87))]),
 sc 3 89 39 [(.const (.int .i64 4)), (.const (.int .u64 5)), (tm 88)],
 sm 4 15 (.alloc ([.int .i64 0, .int .u8 0, .int .u32 0, .nilS, .int .u64 0, .int .u8 0, .str [], .int .u8 0, .int .i64 0, .int .u64 0, .str [], .int .u32 0, .int .u32 0] ++ rep 32 (.int .u8 0))),
 se 5 (.st 45 (tm 15) (tm 89))])
 (.seq (.dreg [⟨0, (some 91), none, .mo (.ldA 9 (tm 9)), [], true⟩,
 ⟨1, (some 92), none, .mo (.ldA 45 (tm 11)), [], true⟩,
 sm 2 93 (.bld ([.int .i64 0, .int .u8 0, .int .u32 0, .nilS, .int .u64 0, .int .u8 0, .str [], .int .u8 0, .int .i64 0, .int .u64 0, .str [], .int .u32 0, .int .u32 0] ++ rep 32 (.int .u8 0)) [(0, 1, (.const (.int .i64 1))), (1, 1, (.const (.int .u8 2)))]),
 sm 3 94 (.ldA 45 (tm 13)),
 ⟨5, (some 96), none, .mo (.ldA 45 (tm 15)), [], true⟩,
 ⟨7, (some 98), none, .mo (.ldA 45 (tm 14)), [], true⟩,
 ⟨9, (some 100), none, .mo (.ldA 45 (tm 13)), [], true⟩,
 ⟨11, (some 102), none, .mo (.ldA 45 (tm 11)), [], true⟩,
 sm 13 104 (.bld ([.int .i64 0, .int .u8 0, .int .u32 0, .nilS, .int .u64 0, .int .u8 0, .str [], .int .u8 0, .int .i64 0, .int .u64 0, .str [], .int .u32 0, .int .u32 0] ++ rep 32 (.int .u8 0)) [(0, 1, (.const (.int .i64 7))), (1, 1, (.const (.int .u8 4)))]),
 sm 14 105 (.bld ([.int .i64 0, .int .u8 0, .int .u32 0, .nilS, .int .u64 0, .int .u8 0, .str [], .int .u8 0, .int .i64 0, .int .u64 0, .str [], .int .u32 0, .int .u32 0] ++ rep 32 (.int .u8 0)) [(0, 1, (.const (.int .i64 8))), (1, 1, (.const (.int .u8 3)))]),
 ⟨21, (some 16), none, .mo (.alloc [.int .i64 0, .nilS, .nilS, .int .i64 0, .nilS, .int .i64 0, .nilS, .int .i64 0, .bool false]), [], true⟩,
 ⟨4, (some 95), none, .callF 40 [(tm 94), (.const (.int .i64 2))], [21, 11, 9, 7, 5, 1, 0], false⟩,
 ⟨6, (some 97), none, .callF 40 [(tm 96), (.const (.int .i64 3))], [21, 11, 9, 7, 1, 0], false⟩,
 ⟨8, (some 99), none, .callF 40 [(tm 98), (.const (.int .i64 4))], [21, 11, 9, 1, 0], false⟩,
 ⟨10, (some 101), none, .callF 40 [(tm 100), (.const (.int .i64 5))], [21, 11, 1, 0], false⟩,
 ⟨12, (some 103), none, .callF 40 [(tm 102), (.const (.int .i64 6))], [21, 1, 0], false⟩,
 sm 15 106 (.bsl 45 ([.int .i64 0, .int .u8 0, .int .u32 0, .nilS, .int .u64 0, .int .u8 0, .str [], .int .u8 0, .int .i64 0, .int .u64 0, .str [], .int .u32 0, .int .u32 0] ++ rep 32 (.int .u8 0)) 9 [(0, (tm 92)), (1, (tm 93)), (2, (tm 95)), (3, (tm 97)), (4, (tm 99)), (5, (tm 101)), (6, (tm 103)), (7, (tm 104)), (8, (tm 105))]),
 ⟨16, (some 107), none, .callF 12 [(tm 91), (tm 106)], [21], false⟩,
 sv 17 90 107,
 sm 18 108 (.ext (tm 90) 0),
 sm 19 109 (.ext (tm 90) 1),
 sm 20 110 (.ext (tm 90) 2),
 se 22 (.st 9 (tm 16) (tm 108)),
 sv 23 17 109,
 sv 24 18 110])
 (.seq (.reg [sm 0 112 (.ldA 9 (tm 16)),
 sc 1 113 20 [(tm 112)],
 sv 2 111 113,
 sm 3 114 (.ext (tm 111) 0),
 sm 4 115 (.ext (tm 111) 1),
 sm 5 19 (.alloc [.int .i64 0, .nilS, .nilS, .int .i64 0, .nilS, .int .i64 0, .nilS, .int .i64 0, .bool false]),
 se 6 (.st 9 (tm 19) (tm 114)),
 sv 7 20 115])
 (.seq (.reg [sm 0 117 (.ldA 9 (tm 19)),
 sc 1 118 20 [(tm 117)],
 sv 2 116 118,
 sm 3 119 (.ext (tm 116) 0),
 sm 4 120 (.ext (tm 116) 1),
 sm 5 21 (.alloc [.int .i64 0, .nilS, .nilS, .int .i64 0, .nilS, .int .i64 0, .nilS, .int .i64 0, .bool false]),
 se 6 (.st 9 (tm 21) (tm 119)),
 sv 7 22 120])
 (.seq (.dreg [⟨0, (some 122), none, .mo (.ldA 9 (tm 19)), [], true⟩,
 sm 1 123 (.ldA 45 (tm 14)),
 sm 3 125 (.bld ([.int .i64 0, .int .u8 0, .int .u32 0, .nilS, .int .u64 0, .int .u8 0, .str [], .int .u8 0, .int .i64 0, .int .u64 0, .str [], .int .u32 0, .int .u32 0] ++ rep 32 (.int .u8 0)) [(0, 1, (.const (.int .i64 10))), (1, 1, (.const (.int .u8 4)))]),
 ⟨4, (some 126), none, .mo (.ldA 45 (tm 11)), [], true⟩,
 ⟨12, (some 23), none, .mo (.alloc [.int .i64 0, .nilS, .nilS, .int .i64 0, .nilS, .int .i64 0, .nilS, .int .i64 0, .bool false]), [], true⟩,
 ⟨2, (some 124), none, .callF 40 [(tm 123), (.const (.int .i64 9))], [12, 4, 0], false⟩,
 ⟨5, (some 127), none, .callF 40 [(tm 126), (.const (.int .i64 11))], [12, 0], false⟩,
 sm 6 128 (.bsl 45 ([.int .i64 0, .int .u8 0, .int .u32 0, .nilS, .int .u64 0, .int .u8 0, .str [], .int .u8 0, .int .i64 0, .int .u64 0, .str [], .int .u32 0, .int .u32 0] ++ rep 32 (.int .u8 0)) 3 [(0, (tm 124)), (1, (tm 125)), (2, (tm 127))]),
 ⟨7, (some 129), none, .callF 12 [(tm 122), (tm 128)], [12], false⟩,
 sv 8 121 129,
 sm 9 130 (.ext (tm 121) 0),
 sm 10 131 (.ext (tm 121) 1),
 sm 11 132 (.ext (tm 121) 2),
 se 13 (.st 9 (tm 23) (tm 130)),
 sv 14 24 131,
 sv 15 25 132])
 (.seq (.reg [sm 0 26 (.mv (.const (.slice none 0 0)))])
 (.seq (.seq (.reg [sm 0 27 (.mv (.const (.int .i64 0)))])
 (.block 0 (.loop l8_0)))
 (.seq (.seq (.reg [sv 0 147 18,
 sm 1 148 (.bin .neq 38 (tm 147) (.const (.int .i64 0))),
 sv 2 149 148,
 sg 3 150 149 false (.mv (tm 20)),
 sg 4 151 149 false (.bin .neq 38 (tm 150) (.const (.int .i64 0))),
 sm 5 152 (.pick (tm 149) (.const (.bool true)) (tm 151)),
 sv 6 153 152,
 sg 7 154 153 false (.mv (tm 22)),
 sg 8 155 153 false (.bin .neq 38 (tm 154) (.const (.int .i64 34))),
 sm 9 156 (.pick (tm 153) (.const (.bool true)) (tm 155)),
 sv 10 157 156,
 sg 11 158 157 false (.mv (tm 25)),
 sg 12 159 157 false (.bin .neq 38 (tm 158) (.const (.int .i64 0))),
 sm 13 160 (.pick (tm 157) (.const (.bool true)) (tm 159)),
 sv 14 161 160,
 sg 15 162 161 false (.mv (tm 26)),
 sg 16 163 161 false (.cbs (tm 162)),
 sg 17 164 161 false (.bsl 1 [.int .u8 0] 9 [(0, (.const (.int .u8 1))), (1, (.const (.int .u8 2))), (2, (.const (.int .u8 6))), (3, (.const (.int .u8 7))), (4, (.const (.int .u8 8))), (5, (.const (.int .u8 5))), (6, (.const (.int .u8 5))), (7, (.const (.int .u8 4))), (8, (.const (.int .u8 3)))]),
 sg 18 165 161 false (.cbs (tm 164)),
 sg 19 166 161 false (.bin .neq 9 (tm 163) (tm 165)),
 sm 20 167 (.pick (tm 161) (.const (.bool true)) (tm 166)),
 sv 21 168 167,
 sg 22 169 168 false (.mv (tm 24)),
 sg 23 170 168 false (.len (.sl 34) (tm 169)),
 sg 24 171 168 false (.bin .neq 3 (tm 170) (.const (.int .i64 3))),
 sm 25 172 (.pick (tm 168) (.const (.bool true)) (tm 171)),
 sv 26 173 172,
 sg 27 174 173 false (.mv (tm 24)),
 sg 28 175 173 false (.ia (.sl 34) (tm 174) (.const (.int .i64 0))),
 sg 29 176 173 false (.fa 1 (tm 175)),
 sg 30 177 173 false (.ld1 (tm 176)),
 sg 31 178 173 false (.bin .neq 5 (tm 177) (.const (.int .u8 9))),
 sm 32 179 (.pick (tm 173) (.const (.bool true)) (tm 178)),
 sv 33 180 179,
 sg 34 181 180 false (.mv (tm 24)),
 sg 35 182 180 false (.ia (.sl 34) (tm 181) (.const (.int .i64 1))),
 sg 36 183 180 false (.fa 1 (tm 182)),
 sg 37 184 180 false (.ld1 (tm 183)),
 sg 38 185 180 false (.bin .neq 5 (tm 184) (.const (.int .u8 4))),
 sm 39 186 (.pick (tm 180) (.const (.bool true)) (tm 185)),
 sv 40 187 186,
 sg 41 188 187 false (.mv (tm 24)),
 sg 42 189 187 false (.ia (.sl 34) (tm 188) (.const (.int .i64 2))),
 sg 43 190 187 false (.fa 1 (tm 189)),
 sg 44 191 187 false (.ld1 (tm 190)),
 sg 45 192 187 false (.bin .neq 5 (tm 191) (.const (.int .u8 9))),
 sm 46 193 (.pick (tm 187) (.const (.bool true)) (tm 192))])
 (.cond (tm 193) (.seq (.reg [sm 0 0 (.mv (.const (.bool false)))])
 .ret) .skip))
 (.seq (.seq (.reg [sm 0 28 (.mv (.const (.int .i64 0)))])
 (.block 2 (.loop l8_1)))
 (.seq (.reg [sm 0 272 (.ldA 9 (tm 9)),
 sm 1 273 (.bld ([.int .i64 0, .int .u8 0, .int .u32 0, .nilS, .int .u64 0, .int .u8 0, .str [], .int .u8 0, .int .i64 0, .int .u64 0, .str [], .int .u32 0, .int .u32 0] ++ rep 32 (.int .u8 0)) [(0, 1, (.const (.int .i64 1)))]),
 sc 2 274 18 [(tm 272), (tm 273)],
 sv 3 271 274,
 sm 4 275 (.ext (tm 271) 0),
 sm 5 276 (.ext (tm 271) 1),
 sm 6 277 (.ext (tm 271) 2),
 sm 7 36 (.alloc [.int .i64 0, .nilS, .nilS, .int .i64 0, .nilS, .int .i64 0, .nilS, .int .i64 0, .bool false]),
 se 8 (.st 9 (tm 36) (tm 275)),
 sv 9 37 276,
 sv 10 38 277])
 (.seq (.dreg [⟨0, (some 279), none, .mo (.ldA 9 (tm 9)), [], true⟩,
 ⟨7, (some 39), none, .mo (.alloc [.int .i64 0, .nilS, .nilS, .int .i64 0, .nilS, .int .i64 0, .nilS, .int .i64 0, .bool false]), [], true⟩,
 ⟨1, (some 280), none, .callF 39 [(.const (.int .i64 1)), (.const (.int .u64 1)), (.const (.slice none 0 0))], [7, 0], false⟩,
 ⟨2, (some 281), none, .callF 18 [(tm 279), (tm 280)], [7], false⟩,
 sv 3 278 281,
 sm 4 282 (.ext (tm 278) 0),
 sm 5 283 (.ext (tm 278) 1),
 sm 6 284 (.ext (tm 278) 2),
 se 8 (.st 9 (tm 39) (tm 282)),
 sv 9 40 283,
 sv 10 41 284])
 (.seq (.dreg [sm 0 286 (.ldA 9 (tm 9)),
 sm 1 287 (.mks 45 160 ([.int .i64 0, .int .u8 0, .int .u32 0, .nilS, .int .u64 0, .int .u8 0, .str [], .int .u8 0, .int .i64 0, .int .u64 0, .str [], .int .u32 0, .int .u32 0] ++ rep 32 (.int .u8 0)) (.const (.int .i64 61)) (.const (.int .i64 61))),
 ⟨7, (some 42), none, .mo (.alloc [.int .i64 0, .nilS, .nilS, .int .i64 0, .nilS, .int .i64 0, .nilS, .int .i64 0, .bool false]), [], true⟩,
 ⟨2, (some 288), none, .callF 12 [(tm 286), (tm 287)], [7], false⟩,
 sv 3 285 288,
 sm 4 289 (.ext (tm 285) 0),
 sm 5 290 (.ext (tm 285) 1),
 sm 6 291 (.ext (tm 285) 2),
 se 8 (.st 9 (tm 42) (tm 289)),
 sv 9 43 290,
 sv 10 44 291])
 (.seq (.reg [sm 0 293 (.ldA 9 (tm 9)),
 sm 1 294 (.ldA 45 (tm 11)),
 sm 2 295 (.ldA 45 (tm 11)),
 sm 3 296 (.bsl 45 ([.int .i64 0, .int .u8 0, .int .u32 0, .nilS, .int .u64 0, .int .u8 0, .str [], .int .u8 0, .int .i64 0, .int .u64 0, .str [], .int .u32 0, .int .u32 0] ++ rep 32 (.int .u8 0)) 2 [(0, (tm 294)), (1, (tm 295))]),
 sc 4 297 12 [(tm 293), (tm 296)],
 sv 5 292 297,
 sm 6 298 (.ext (tm 292) 0),
 sm 7 299 (.ext (tm 292) 1),
 sm 8 300 (.ext (tm 292) 2),
 sm 9 45 (.alloc [.int .i64 0, .nilS, .nilS, .int .i64 0, .nilS, .int .i64 0, .nilS, .int .i64 0, .bool false]),
 se 10 (.st 9 (tm 45) (tm 298)),
 sv 11 46 299,
 sv 12 47 300])
 (.seq (.reg [sm 0 301 (.ldA 9 (tm 9)),
 sm 1 48 (.alloc [.int .i64 0, .nilS, .nilS, .int .i64 0, .nilS, .int .i64 0, .nilS, .int .i64 0, .bool false]),
 se 2 (.st 9 (tm 48) (tm 301))])
 (.seq (.reg [sm 0 302 (.fa 7 (tm 48)),
 se 1 (.st 1 (tm 302) (.const (.int .i64 1000000000)))])
 (.seq (.reg [sm 0 304 (.ldA 9 (tm 48)),
 sm 1 305 (.bld ([.int .i64 0, .int .u8 0, .int .u32 0, .nilS, .int .u64 0, .int .u8 0, .str [], .int .u8 0, .int .i64 0, .int .u64 0, .str [], .int .u32 0, .int .u32 0] ++ rep 32 (.int .u8 0)) [(0, 1, (.const (.int .i64 1000000000))), (1, 1, (.const (.int .u8 4)))]),
 sc 2 306 18 [(tm 304), (tm 305)],
 sv 3 303 306,
 sm 4 307 (.ext (tm 303) 0),
 sm 5 308 (.ext (tm 303) 1),
 sm 6 309 (.ext (tm 303) 2),
 sm 7 49 (.alloc [.int .i64 0, .nilS, .nilS, .int .i64 0, .nilS, .int .i64 0, .nilS, .int .i64 0, .bool false]),
 se 8 (.st 9 (tm 49) (tm 307)),
 sv 9 50 308,
 sv 10 51 309])
 (.seq (.reg [sm 0 311 (.bld [.int .i64 0, .nilS, .nilS, .int .i64 0, .nilS, .int .i64 0, .nilS, .int .i64 0, .bool false] []),
 sc 1 312 22 [(tm 311)],
 sv 2 310 312,
 sm 3 313 (.ext (tm 310) 0),
 sm 4 314 (.ext (tm 310) 1),
 sm 5 52 (.alloc [.nilS, .nilS]),
 se 6 (.st 2 (tm 52) (tm 313)),
 sv 7 53 314])
 (.seq (.reg [sm 0 315 (.mv (.const (.bool true))),
 ⟨1, (some 316), (some ((some 315), true)), .callF 27 [], [], false⟩,
 sm 2 317 (.pick (tm 315) (tm 316) (.const (.bool false))),
 sv 3 318 317,
 sg 4 319 318 true (.mv (tm 2)),
 sg 5 320 318 true (.bin .eql 38 (tm 319) (.const (.int .i64 2))),
 sm 6 321 (.pick (tm 318) (tm 320) (.const (.bool false))),
 sv 7 322 321,
 sg 8 323 322 true (.mv (tm 4)),
 sg 9 324 322 true (.bin .eql 38 (tm 323) (.const (.int .i64 2))),
 sm 10 325 (.pick (tm 322) (tm 324) (.const (.bool false))),
 sv 11 326 325,
 sg 12 327 326 true (.mv (tm 6)),
 sg 13 328 326 true (.bin .eql 38 (tm 327) (.const (.int .i64 2))),
 sm 14 329 (.pick (tm 326) (tm 328) (.const (.bool false))),
 sv 15 330 329,
 sg 16 331 330 true (.mv (tm 8)),
 sg 17 332 330 true (.bin .eql 38 (tm 331) (.const (.int .i64 2))),
 sm 18 333 (.pick (tm 330) (tm 332) (.const (.bool false))),
 sv 19 334 333,
 sg 20 335 334 true (.mv (tm 38)),
 sg 21 336 334 true (.bin .eql 38 (tm 335) (.const (.int .i64 8))),
 sm 22 337 (.pick (tm 334) (tm 336) (.const (.bool false))),
 sv 23 338 337,
 sg 24 339 338 true (.mv (tm 41)),
 sg 25 340 338 true (.bin .eql 38 (tm 339) (.const (.int .i64 32))),
 sm 26 341 (.pick (tm 338) (tm 340) (.const (.bool false))),
 sv 27 342 341,
 sg 28 343 342 true (.mv (tm 44)),
 sg 29 344 342 true (.bin .eql 38 (tm 343) (.const (.int .i64 4))),
 sm 30 345 (.pick (tm 342) (tm 344) (.const (.bool false))),
 sv 31 346 345,
 sg 32 347 346 true (.mv (tm 47)),
 sg 33 348 346 true (.bin .eql 38 (tm 347) (.const (.int .i64 32))),
 sm 34 349 (.pick (tm 346) (tm 348) (.const (.bool false))),
 sv 35 350 349,
 sg 36 351 350 true (.mv (tm 51)),
 sg 37 352 350 true (.bin .eql 38 (tm 351) (.const (.int .i64 18))),
 sm 38 353 (.pick (tm 350) (tm 352) (.const (.bool false))),
 sv 39 354 353,
 sg 40 355 354 true (.mv (tm 53)),
 sg 41 356 354 true (.bin .eql 38 (tm 355) (.const (.int .i64 8))),
 sm 42 357 (.pick (tm 354) (tm 356) (.const (.bool false))),
 sv 43 0 357])
 .ret)))))))))))))))))))))))))))))
def r8 : List Mo := [.mv (tm 0)]
theorem c8_eq : compF Tryz.prog 8 = some c8 := by kernel_rfl
theorem r8_eq : compRs Tryz.prog 8 = some r8 := by kernel_rfl
def c11 : Cd := (.seq (.reg [sm 0 1 (.box (tm 0)),
 sm 1 2 (.alloc [.int .i64 0, .nilS, .nilS, .int .i64 0, .nilS, .int .i64 0, .nilS, .int .i64 0, .bool false])])
 (.seq (.dreg [sm 0 3 (.fa 0 (tm 1)),
 sm 1 4 (.ldA 5 (tm 3)),
 sm 3 6 (.fa 5 (tm 1)),
 ⟨4, (some 7), none, .mo (.ldA 2 (tm 6)), [], true⟩,
 sm 6 9 (.fa 7 (tm 1)),
 ⟨7, (some 10), none, .mo (.ld1 (tm 9)), [], true⟩,
 sm 8 11 (.fa 8 (tm 1)),
 ⟨9, (some 12), none, .mo (.ld1 (tm 11)), [], true⟩,
 ⟨2, (some 5), none, .callF 44 [(tm 4)], [9, 7, 4], false⟩,
 ⟨5, (some 8), none, .callF 45 [(tm 7)], [9, 7], false⟩,
 sm 10 13 (.bld [.int .i64 0, .nilS, .nilS, .int .i64 0, .nilS, .int .i64 0, .nilS, .int .i64 0, .bool false] [(0, 5, (tm 5)), (5, 2, (tm 8)), (7, 1, (tm 10)), (8, 1, (tm 12))]),
 se 11 (.st 9 (tm 2) (tm 13))])
 .ret))
def r11 : List Mo := [.ldA 9 (tm 2)]
theorem c11_eq : compF Tryz.prog 11 = some c11 := by kernel_rfl
theorem r11_eq : compRs Tryz.prog 11 = some r11 := by kernel_rfl
def l12_0 : Cd := (.seq (.reg [sm 0 30 (.bin .lss 3 (tm 29) (tm 28))])
 (.seq (.cond (tm 30) .skip (.exit 0))
 (.seq (.block 1 (.seq (.reg [sm 0 31 (.ia (.sl 45) (tm 27) (tm 29)),
 sm 1 32 (.ldA 45 (tm 31)),
 sm 2 11 (.alloc ([.int .i64 0, .int .u8 0, .int .u32 0, .nilS, .int .u64 0, .int .u8 0, .str [], .int .u8 0, .int .i64 0, .int .u64 0, .str [], .int .u32 0, .int .u32 0] ++ rep 32 (.int .u8 0))),
 se 3 (.st 45 (tm 11) (tm 32))])
 (.seq (.reg [sm 0 34 (.ldA 9 (tm 8)),
 sm 1 35 (.ldA 45 (tm 11)),
 sc 2 36 18 [(tm 34), (tm 35)],
 sv 3 33 36,
 sm 4 37 (.ext (tm 33) 0),
 sm 5 38 (.ext (tm 33) 1),
 sm 6 39 (.ext (tm 33) 2),
 sm 7 12 (.alloc [.int .i64 0, .nilS, .nilS, .int .i64 0, .nilS, .int .i64 0, .nilS, .int .i64 0, .bool false]),
 se 8 (.st 9 (tm 12) (tm 37)),
 sv 9 13 38,
 sv 10 14 39])
 (.seq (.seq (.reg [sv 0 40 14,
 sm 1 41 (.bin .neq 38 (tm 40) (.const (.int .i64 0)))])
 (.cond (tm 41) (.seq (.reg [sm 0 42 (.bld [.int .i64 0, .nilS, .nilS, .int .i64 0, .nilS, .int .i64 0, .nilS, .int .i64 0, .bool false] []),
 sv 1 43 14,
 se 2 (.st 9 (tm 4) (tm 42)),
 sm 3 5 (.mv (.const (.slice none 0 0))),
 sv 4 6 43])
 .ret) .skip))
 (.dreg [⟨0, (some 44), none, .mo (.ldA 9 (tm 12)), [], true⟩,
 sv 1 45 9,
 sv 2 46 13,
 ⟨3, (some 47), none, .mo (.app 34 48 (tm 45) (tm 46)), [0], false⟩,
 se 4 (.st 9 (tm 8) (tm 44)),
 sv 5 9 47])))))
 (.reg [sm 0 48 (.bin .add 3 (tm 29) (.const (.int .i64 1))),
 sv 1 29 48]))))
def c12 : Cd := (.seq (.reg [sm 0 2 (.box (tm 0)),
 sm 1 4 (.alloc [.int .i64 0, .nilS, .nilS, .int .i64 0, .nilS, .int .i64 0, .nilS, .int .i64 0, .bool false]),
 sm 2 5 (.mv (.const (.slice none 0 0))),
 sm 3 6 (.mv (.const (.int .i64 0)))])
 (.seq (.seq (.reg [sm 0 15 (.ldA 9 (tm 2)),
 sc 1 16 24 [(tm 15)],
 sv 2 7 16])
 (.seq (.reg [sv 0 17 7,
 sm 1 18 (.bin .neq 38 (tm 17) (.const (.int .i64 0)))])
 (.cond (tm 18) (.seq (.reg [sm 0 19 (.bld [.int .i64 0, .nilS, .nilS, .int .i64 0, .nilS, .int .i64 0, .nilS, .int .i64 0, .bool false] []),
 sv 1 20 7,
 se 2 (.st 9 (tm 4) (tm 19)),
 sm 3 5 (.mv (.const (.slice none 0 0))),
 sv 4 6 20])
 .ret) .skip)))
 (.seq (.seq (.reg [sv 0 21 1,
 sm 1 22 (.len (.sl 45) (tm 21)),
 sm 2 23 (.bin .gtr 3 (tm 22) (.const (.int .i64 60)))])
 (.cond (tm 23) (.seq (.reg [sm 0 24 (.bld [.int .i64 0, .nilS, .nilS, .int .i64 0, .nilS, .int .i64 0, .nilS, .int .i64 0, .bool false] []),
 se 1 (.st 9 (tm 4) (tm 24)),
 sm 2 5 (.mv (.const (.slice none 0 0))),
 sm 3 6 (.mv (.const (.int .i64 4)))])
 .ret) .skip))
 (.seq (.reg [sm 0 25 (.ldA 9 (tm 2)),
 sc 1 26 46 [(tm 25)],
 sm 2 8 (.alloc [.int .i64 0, .nilS, .nilS, .int .i64 0, .nilS, .int .i64 0, .nilS, .int .i64 0, .bool false]),
 se 3 (.st 9 (tm 8) (tm 26))])
 (.seq (.reg [sm 0 9 (.mv (.const (.slice none 0 0)))])
 (.seq (.seq (.reg [sv 0 27 1,
 sm 1 28 (.len (.sl 45) (tm 27)),
 sm 2 29 (.mv (.const (.int .i64 0)))])
 (.block 0 (.loop l12_0)))
 (.seq (.reg [sm 0 49 (.ldA 9 (tm 8)),
 sv 1 50 9,
 se 2 (.st 9 (tm 4) (tm 49)),
 sv 3 5 50,
 sm 4 6 (.mv (.const (.int .i64 0)))])
 .ret)))))))
def r12 : List Mo := [.ldA 9 (tm 4), .mv (tm 5), .mv (tm 6)]
theorem c12_eq : compF Tryz.prog 12 = some c12 := by kernel_rfl
theorem r12_eq : compRs Tryz.prog 12 = some r12 := by kernel_rfl
def l15_0 : Cd := (.seq (.seq (.reg [sv 0 11 5,
 sv 1 12 0,
 sm 2 13 (.len (.sl 34) (tm 12)),
 sm 3 14 (.bin .lss 3 (tm 11) (tm 13))])
 (.cond (tm 14) .skip (.exit 0)))
 (.seq (.block 1 (.seq (.reg [sv 0 17 0,
 sv 1 18 5,
 sm 2 19 (.ia (.sl 34) (tm 17) (tm 18)),
 sm 3 20 (.ldA 34 (tm 19)),
 sv 4 21 1,
 sv 5 22 5,
 sm 6 23 (.ia (.sl 34) (tm 21) (tm 22)),
 sm 7 24 (.ldA 34 (tm 23)),
 sm 8 25 (.bin .neq 86 (tm 20) (tm 24))])
 (.cond (tm 25) (.seq (.reg [sm 0 4 (.mv (.const (.bool false)))])
 .ret) .skip)))
 (.reg [sv 0 15 5,
 sm 1 16 (.bin .add 3 (tm 15) (.const (.int .i64 1))),
 sv 2 5 16])))
def c15 : Cd := (.seq (.reg [sm 0 4 (.mv (.const (.bool false)))])
 (.seq (.seq (.reg [sv 0 6 0,
 sm 1 7 (.len (.sl 34) (tm 6)),
 sv 2 8 1,
 sm 3 9 (.len (.sl 34) (tm 8)),
 sm 4 10 (.bin .neq 3 (tm 7) (tm 9))])
 (.cond (tm 10) (.seq (.reg [sm 0 4 (.mv (.const (.bool false)))])
 .ret) .skip))
 (.seq (.seq (.reg [sm 0 5 (.mv (.const (.int .i64 0)))])
 (.block 0 (.loop l15_0)))
 (.seq (.reg [sm 0 4 (.mv (.const (.bool true)))])
 .ret))))
def r15 : List Mo := [.mv (tm 4)]
theorem c15_eq : compF Tryz.prog 15 = some c15 := by kernel_rfl
theorem r15_eq : compRs Tryz.prog 15 = some r15 := by kernel_rfl
def c16 : Cd := (.seq (.reg [sm 0 6 (.alloc [.int .i64 0, .nilS, .nilS, .int .i64 0, .nilS, .int .i64 0, .nilS, .int .i64 0, .bool false]),
 sm 1 7 (.mv (.const (.int .i64 0)))])
 (.seq (.reg [sv 0 13 0,
 sv 1 14 1,
 sc 2 15 47 [(tm 13), (tm 14)],
 sv 3 12 15,
 sm 4 16 (.ext (tm 12) 0),
 sm 5 17 (.ext (tm 12) 1),
 sm 6 8 (.alloc [.int .i64 0, .nilS, .nilS, .int .i64 0, .nilS]),
 se 7 (.st 5 (tm 8) (tm 16)),
 sv 8 9 17])
 (.seq (.reg [sv 0 19 2,
 sc 1 20 48 [(tm 19)],
 sv 2 18 20,
 sm 3 21 (.ext (tm 18) 0),
 sm 4 22 (.ext (tm 18) 1),
 sm 5 10 (.alloc [.int .i64 0, .nilS]),
 se 6 (.st 2 (tm 10) (tm 21)),
 sv 7 11 22])
 (.seq (.seq (.reg [sv 0 23 9,
 sm 1 24 (.bin .neq 38 (tm 23) (.const (.int .i64 0))),
 sv 2 25 24,
 sg 3 26 25 false (.mv (tm 11)),
 sg 4 27 25 false (.bin .neq 38 (tm 26) (.const (.int .i64 0))),
 sm 5 28 (.pick (tm 25) (.const (.bool true)) (tm 27))])
 (.cond (tm 28) (.seq (.reg [sm 0 29 (.bld [.int .i64 0, .nilS, .nilS, .int .i64 0, .nilS, .int .i64 0, .nilS, .int .i64 0, .bool false] []),
 se 1 (.st 9 (tm 6) (tm 29)),
 sm 2 7 (.mv (.const (.int .i64 2)))])
 .ret) .skip))
 (.seq (.reg [sm 0 30 (.ldA 5 (tm 8)),
 sm 1 31 (.ldA 2 (tm 10)),
 sm 2 32 (.bld [.int .i64 0, .nilS, .nilS, .int .i64 0, .nilS, .int .i64 0, .nilS, .int .i64 0, .bool false] [(0, 5, (tm 30)), (5, 2, (tm 31))]),
 se 3 (.st 9 (tm 6) (tm 32)),
 sm 4 7 (.mv (.const (.int .i64 0)))])
 .ret)))))
def r16 : List Mo := [.ldA 9 (tm 6), .mv (tm 7)]
theorem c16_eq : compF Tryz.prog 16 = some c16 := by kernel_rfl
theorem r16_eq : compRs Tryz.prog 16 = some r16 := by kernel_rfl
def c18 : Cd := (.seq (.reg [sm 0 2 (.box (tm 0)),
 sm 1 3 (.box (tm 1)),
 sm 2 4 (.alloc [.int .i64 0, .nilS, .nilS, .int .i64 0, .nilS, .int .i64 0, .nilS, .int .i64 0, .bool false]),
 sm 3 5 (.mv (.const (.slice none 0 0))),
 sm 4 6 (.mv (.const (.int .i64 0)))])
 (.seq (.seq (.reg [sm 0 11 (.ldA 9 (tm 2)),
 sc 1 12 24 [(tm 11)],
 sv 2 7 12])
 (.seq (.reg [sv 0 13 7,
 sm 1 14 (.bin .neq 38 (tm 13) (.const (.int .i64 0)))])
 (.cond (tm 14) (.seq (.reg [sm 0 15 (.bld [.int .i64 0, .nilS, .nilS, .int .i64 0, .nilS, .int .i64 0, .nilS, .int .i64 0, .bool false] []),
 sv 1 16 7,
 se 2 (.st 9 (tm 4) (tm 15)),
 sm 3 5 (.mv (.const (.slice none 0 0))),
 sv 4 6 16])
 .ret) .skip)))
 (.seq (.block 0 (.seq (.reg [sm 0 18 (.ldA 45 (tm 3)),
 sc 1 19 51 [(tm 18)],
 sm 2 20 (.un .not (tm 19)),
 sv 3 17 20])
 (.cond (tm 17) (.seq (.reg [sm 0 21 (.bld [.int .i64 0, .nilS, .nilS, .int .i64 0, .nilS, .int .i64 0, .nilS, .int .i64 0, .bool false] []),
 se 1 (.st 9 (tm 4) (tm 21)),
 sm 2 5 (.mv (.const (.slice none 0 0))),
 sm 3 6 (.mv (.const (.int .i64 8)))])
 .ret) (.seq (.reg [sm 0 23 (.fa 0 (tm 3)),
 sm 1 24 (.ld1 (tm 23)),
 sm 2 25 (.fa 7 (tm 2)),
 sm 3 26 (.ld1 (tm 25)),
 sm 4 27 (.bin .neq 3 (tm 24) (tm 26)),
 sv 5 22 27])
 (.cond (tm 22) (.seq (.reg [sm 0 28 (.bld [.int .i64 0, .nilS, .nilS, .int .i64 0, .nilS, .int .i64 0, .nilS, .int .i64 0, .bool false] []),
 se 1 (.st 9 (tm 4) (tm 28)),
 sm 2 5 (.mv (.const (.slice none 0 0))),
 sm 3 6 (.mv (.const (.int .i64 32)))])
 .ret) (.seq (.reg [sm 0 30 (.fa 7 (tm 2)),
 sm 1 31 (.ld1 (tm 30)),
 sm 2 32 (.bin .eql 3 (tm 31) (.const (.int .i64 1000000000))),
 sv 3 29 32])
 (.cond (tm 29) (.seq (.reg [sm 0 33 (.bld [.int .i64 0, .nilS, .nilS, .int .i64 0, .nilS, .int .i64 0, .nilS, .int .i64 0, .bool false] []),
 se 1 (.st 9 (tm 4) (tm 33)),
 sm 2 5 (.mv (.const (.slice none 0 0))),
 sm 3 6 (.mv (.const (.int .i64 18)))])
 .ret) .skip)))))))
 (.seq (.reg [sm 0 34 (.ldA 9 (tm 2)),
 sc 1 35 46 [(tm 34)],
 sm 2 8 (.alloc [.int .i64 0, .nilS, .nilS, .int .i64 0, .nilS, .int .i64 0, .nilS, .int .i64 0, .bool false]),
 se 3 (.st 9 (tm 8) (tm 35))])
 (.seq (.reg [sm 0 36 (.fa 7 (tm 8)),
 sm 1 37 (.ld1 (tm 36)),
 sm 2 38 (.bin .add 3 (tm 37) (.const (.int .i64 1))),
 sm 3 39 (.fa 7 (tm 8)),
 se 4 (.st 1 (tm 39) (tm 38))])
 (.seq (.dreg [sm 0 40 (.fa 0 (tm 3)),
 ⟨1, (some 41), none, .mo (.ld1 (tm 40)), [], true⟩,
 sm 2 42 (.ldA 9 (tm 2)),
 sm 3 43 (.ldA 45 (tm 3)),
 sm 5 45 (.fa 13 (tm 3)),
 ⟨6, (some 46), none, .mo (.ldA 32 (tm 45)), [], true⟩,
 ⟨8, (some 9), none, .mo (.alloc ([.int .i64 0] ++ rep 33 (.int .u8 0))), [], true⟩,
 ⟨4, (some 44), none, .callF 52 [(tm 42), (tm 43)], [8, 6, 1], false⟩,
 sm 7 47 (.bld ([.int .i64 0] ++ rep 33 (.int .u8 0)) [(0, 1, (tm 41)), (1, 1, (tm 44)), (2, 32, (tm 46))]),
 se 9 (.st 34 (tm 9) (tm 47))])
 (.seq (.reg [sm 0 48 (.ldA 34 (tm 9)),
 sm 1 49 (.bsl 34 ([.int .i64 0] ++ rep 33 (.int .u8 0)) 1 [(0, (tm 48))]),
 sv 2 10 49])
 (.seq (.seq (.reg [sm 0 50 (.fa 1 (tm 9)),
 sm 1 51 (.ld1 (tm 50))])
 (.block 1 (.seq (.reg [sm 0 53 (.bin .eql 5 (tm 51) (.const (.int .u8 6))),
 sv 1 52 53])
 (.cond (tm 52) (.dreg [sm 0 55 (.fa 5 (tm 8)),
 ⟨1, (some 56), none, .mo (.ldA 2 (tm 55)), [], true⟩,
 sm 2 57 (.fa 0 (tm 3)),
 ⟨3, (some 58), none, .mo (.ld1 (tm 57)), [], true⟩,
 sm 4 59 (.fa 2 (tm 3)),
 ⟨5, (some 60), none, .mo (.ldA 11 (tm 59)), [], true⟩,
 sm 6 61 (.ldA 9 (tm 2)),
 sm 7 62 (.fa 2 (tm 3)),
 sm 8 63 (.ldA 11 (tm 62)),
 ⟨9, (some 64), none, .callF 54 [(tm 61), (tm 63)], [5, 3, 1], false⟩,
 sc 10 65 53 [(tm 56), (tm 58), (tm 60), (tm 64)],
 sv 11 54 65,
 sm 12 66 (.ext (tm 54) 0),
 sm 13 67 (.ext (tm 54) 1),
 sm 14 68 (.fa 5 (tm 8)),
 se 15 (.st 2 (tm 68) (tm 66))]) (.seq (.reg [sm 0 70 (.bin .eql 5 (tm 51) (.const (.int .u8 1))),
 sv 1 69 70])
 (.cond (tm 69) (.seq (.reg [sm 0 72 (.fa 0 (tm 8)),
 sm 1 73 (.ldA 5 (tm 72)),
 sm 2 74 (.fa 2 (tm 3)),
 sm 3 75 (.ldA 11 (tm 74)),
 sc 4 76 55 [(tm 73), (tm 75)],
 sv 5 71 76,
 sm 6 77 (.ext (tm 71) 0),
 sm 7 78 (.ext (tm 71) 1),
 sm 8 79 (.ext (tm 71) 2),
 sm 9 80 (.fa 0 (tm 8)),
 se 10 (.st 5 (tm 80) (tm 77))])
 (.reg [sv 0 81 10,
 sm 1 82 (.fa 13 (tm 3)),
 sm 2 83 (.ldA 32 (tm 82)),
 sc 3 84 56 [(tm 8), (tm 83)],
 sm 4 85 (.app 34 48 (tm 81) (tm 84)),
 sv 5 10 85])) .skip))))))
 (.seq (.reg [sm 0 86 (.ldA 9 (tm 8)),
 sv 1 87 10,
 se 2 (.st 9 (tm 4) (tm 86)),
 sv 3 5 87,
 sm 4 6 (.mv (.const (.int .i64 0)))])
 .ret)))))))))
def r18 : List Mo := [.ldA 9 (tm 4), .mv (tm 5), .mv (tm 6)]
theorem c18_eq : compF Tryz.prog 18 = some c18 := by kernel_rfl
theorem r18_eq : compRs Tryz.prog 18 = some r18 := by kernel_rfl
def c20 : Cd := (.seq (.reg [sm 0 1 (.box (tm 0)),
 sm 1 2 (.alloc [.int .i64 0, .nilS, .nilS, .int .i64 0, .nilS, .int .i64 0, .nilS, .int .i64 0, .bool false]),
 sm 2 3 (.mv (.const (.int .i64 0)))])
 (.seq (.seq (.reg [sm 0 6 (.ldA 9 (tm 1)),
 sc 1 7 24 [(tm 6)],
 sv 2 4 7])
 (.seq (.reg [sv 0 8 4,
 sm 1 9 (.bin .neq 38 (tm 8) (.const (.int .i64 0)))])
 (.cond (tm 9) (.seq (.reg [sm 0 10 (.bld [.int .i64 0, .nilS, .nilS, .int .i64 0, .nilS, .int .i64 0, .nilS, .int .i64 0, .bool false] []),
 sv 1 11 4,
 se 2 (.st 9 (tm 2) (tm 10)),
 sv 3 3 11])
 .ret) .skip)))
 (.seq (.seq (.reg [sm 0 12 (.fa 8 (tm 1)),
 sm 1 13 (.ld1 (tm 12))])
 (.cond (tm 13) (.seq (.reg [sm 0 14 (.bld [.int .i64 0, .nilS, .nilS, .int .i64 0, .nilS, .int .i64 0, .nilS, .int .i64 0, .bool false] []),
 se 1 (.st 9 (tm 2) (tm 14)),
 sm 2 3 (.mv (.const (.int .i64 34)))])
 .ret) .skip))
 (.seq (.reg [sm 0 15 (.ldA 9 (tm 1)),
 sc 1 16 46 [(tm 15)],
 sm 2 5 (.alloc [.int .i64 0, .nilS, .nilS, .int .i64 0, .nilS, .int .i64 0, .nilS, .int .i64 0, .bool false]),
 se 3 (.st 9 (tm 5) (tm 16))])
 (.seq (.reg [sm 0 17 (.fa 8 (tm 5)),
 se 1 (.st 1 (tm 17) (.const (.bool true)))])
 (.seq (.reg [sm 0 18 (.ldA 9 (tm 5)),
 se 1 (.st 9 (tm 2) (tm 18)),
 sm 2 3 (.mv (.const (.int .i64 0)))])
 .ret))))))
def r20 : List Mo := [.ldA 9 (tm 2), .mv (tm 3)]
theorem c20_eq : compF Tryz.prog 20 = some c20 := by kernel_rfl
theorem r20_eq : compRs Tryz.prog 20 = some r20 := by kernel_rfl
def c22 : Cd := (.seq (.reg [sm 0 1 (.box (tm 0)),
 sm 1 2 (.alloc [.nilS, .nilS]),
 sm 2 3 (.mv (.const (.int .i64 0)))])
 (.seq (.seq (.reg [sm 0 5 (.ldA 9 (tm 1)),
 sc 1 6 24 [(tm 5)],
 sv 2 4 6])
 (.seq (.reg [sv 0 7 4,
 sm 1 8 (.bin .neq 38 (tm 7) (.const (.int .i64 0)))])
 (.cond (tm 8) (.seq (.reg [sm 0 9 (.bld [.nilS, .nilS] []),
 sv 1 10 4,
 se 2 (.st 2 (tm 2) (tm 9)),
 sv 3 3 10])
 .ret) .skip)))
 (.seq (.reg [sm 0 11 (.fa 0 (tm 1)),
 sm 1 12 (.ldA 5 (tm 11)),
 sc 2 13 61 [(tm 12)],
 sm 3 14 (.ext (tm 13) 0),
 sm 4 15 (.ext (tm 13) 1),
 se 5 (.st 2 (tm 2) (tm 14)),
 sv 6 3 15])
 .ret)))
def r22 : List Mo := [.ldA 2 (tm 2), .mv (tm 3)]
theorem c22_eq : compF Tryz.prog 22 = some c22 := by kernel_rfl
theorem r22_eq : compRs Tryz.prog 22 = some r22 := by kernel_rfl
def l24_0 : Cd := (.seq (.reg [sm 0 30 (.bin .lss 3 (tm 29) (tm 28))])
 (.seq (.cond (tm 30) .skip (.exit 0))
 (.seq (.block 1 (.seq (.reg [sm 0 31 (.ia (.sl 45) (tm 27) (tm 29)),
 sm 1 32 (.ldA 45 (tm 31)),
 sm 2 4 (.alloc ([.int .i64 0, .int .u32 0, .nilS, .int .u64 0, .int .u8 0, .str [], .int .u8 0, .int .i64 0, .int .u64 0, .str [], .int .u32 0, .int .u32 0] ++ rep 32 (.int .u8 0) ++ [.nilS])),
 se 3 (.st 45 (tm 4) (tm 32))])
 (.seq (.dreg [sm 0 33 (.fa 0 (tm 4)),
 sm 1 34 (.ld1 (tm 33)),
 sm 2 35 (.fa 7 (tm 1)),
 sm 3 36 (.ld1 (tm 35)),
 sm 4 37 (.bin .geq 3 (tm 34) (tm 36)),
 sv 5 38 37,
 sg 6 39 38 false (.fa 1 (tm 4)),
 sg 7 40 38 false (.ldA 11 (tm 39)),
 ⟨8, (some 41), (some ((some 38), false)), .callF 65 [(tm 40)], [], false⟩,
 sg 9 42 38 false (.bin .neq 38 (tm 41) (.const (.int .i64 0))),
 sm 10 43 (.pick (tm 38) (.const (.bool true)) (tm 42)),
 sv 11 44 43,
 sg 12 45 44 false (.fa 0 (tm 1)),
 sg 13 46 44 false (.fa 4 (tm 45)),
 sg 14 47 44 false (.ld1 (tm 46)),
 sg 15 48 44 false (.fa 12 (tm 4)),
 sg 16 49 44 false (.ldA 32 (tm 48)),
 ⟨17, (some 50), (some ((some 44), false)), .callF 66 [(tm 47), (tm 49)], [], false⟩,
 sm 18 51 (.pick (tm 44) (.const (.bool true)) (tm 50)),
 sv 19 52 51,
 sg 20 53 52 false (.fa 44 (tm 4)),
 ⟨21, (some 54), (some ((some 52), false)), .mo (.ld1 (tm 53)), [], true⟩,
 sg 22 55 52 false (.ldA 9 (tm 1)),
 sg 23 56 52 false (.fa 1 (tm 4)),
 sg 24 57 52 false (.ldA 11 (tm 56)),
 ⟨25, (some 58), (some ((some 52), false)), .callF 54 [(tm 55), (tm 57)], [21], false⟩,
 ⟨26, (some 59), (some ((some 52), false)), .callF 67 [(tm 54), (tm 58)], [], false⟩,
 sg 27 60 52 false (.un .not (tm 59)),
 sm 28 61 (.pick (tm 52) (.const (.bool true)) (tm 60))])
 (.cond (tm 61) (.seq (.reg [sm 0 2 (.mv (.const (.int .i64 8)))])
 .ret) .skip))))
 (.reg [sm 0 62 (.bin .add 3 (tm 29) (.const (.int .i64 1))),
 sv 1 29 62]))))
def c24 : Cd := (.seq (.reg [sm 0 1 (.box (tm 0)),
 sm 1 2 (.mv (.const (.int .i64 0)))])
 (.seq (.seq (.reg [sm 0 5 (.fa 0 (tm 1)),
 sm 1 6 (.ldA 5 (tm 5)),
 sc 2 7 63 [(tm 6)],
 sm 3 8 (.bin .neq 38 (tm 7) (.const (.int .i64 0))),
 sv 4 9 8,
 sg 5 10 9 false (.fa 5 (tm 1)),
 sg 6 11 9 false (.ldA 2 (tm 10)),
 ⟨7, (some 12), (some ((some 9), false)), .callF 64 [(tm 11)], [], false⟩,
 sg 8 13 9 false (.bin .neq 38 (tm 12) (.const (.int .i64 0))),
 sm 9 14 (.pick (tm 9) (.const (.bool true)) (tm 13)),
 sv 10 15 14,
 sg 11 16 15 false (.fa 7 (tm 1)),
 sg 12 17 15 false (.ld1 (tm 16)),
 sg 13 18 15 false (.bin .lss 3 (tm 17) (.const (.int .i64 0))),
 sm 14 19 (.pick (tm 15) (.const (.bool true)) (tm 18)),
 sv 15 20 19,
 sg 16 21 20 false (.fa 7 (tm 1)),
 sg 17 22 20 false (.ld1 (tm 21)),
 sg 18 23 20 false (.bin .gtr 3 (tm 22) (.const (.int .i64 1000000000))),
 sm 19 24 (.pick (tm 20) (.const (.bool true)) (tm 23))])
 (.cond (tm 24) (.seq (.reg [sm 0 2 (.mv (.const (.int .i64 8)))])
 .ret) .skip))
 (.seq (.seq (.reg [sm 0 25 (.fa 5 (tm 1)),
 sm 1 26 (.fa 1 (tm 25)),
 sm 2 27 (.ld1 (tm 26)),
 sm 3 28 (.len (.sl 45) (tm 27)),
 sm 4 29 (.mv (.const (.int .i64 0)))])
 (.block 0 (.loop l24_0)))
 (.seq (.reg [sm 0 2 (.mv (.const (.int .i64 0)))])
 .ret))))
def r24 : List Mo := [.mv (tm 2)]
theorem c24_eq : compF Tryz.prog 24 = some c24 := by kernel_rfl
theorem r24_eq : compRs Tryz.prog 24 = some r24 := by kernel_rfl
def c27 : Cd := (.seq (.reg [sm 0 0 (.mv (.const (.bool false)))])
 (.seq (.reg [sc 0 14 39 [(.const (.int .i64 1)), (.const (.int .u64 1)), (.const (.slice none 0 0))],
 sm 1 1 (.alloc ([.int .i64 0, .int .u8 0, .int .u32 0, .nilS, .int .u64 0, .int .u8 0, .str [], .int .u8 0, .int .i64 0, .int .u64 0, .str [], .int .u32 0, .int .u32 0] ++ rep 32 (.int .u8 0))),
 se 2 (.st 45 (tm 1) (tm 14))])
 (.seq (.reg [sm 0 15 (.fa 13 (tm 1)),
 sm 1 16 (.ldA 32 (tm 15)),
 sm 2 17 (.bsl 32 (rep 32 (.int .u8 0)) 1 [(0, (tm 16))]),
 sc 3 18 39 [(.const (.int .i64 0)), (.const (.int .u64 2)), (tm 17)],
 sm 4 2 (.alloc ([.int .i64 0, .int .u8 0, .int .u32 0, .nilS, .int .u64 0, .int .u8 0, .str [], .int .u8 0, .int .i64 0, .int .u64 0, .str [], .int .u32 0, .int .u32 0] ++ rep 32 (.int .u8 0))),
 se 5 (.st 45 (tm 2) (tm 18))])
 (.seq (.reg [sc 0 20 16 [(.const (.int .i64 2)), (.const (.int .i64 1)), (.const (.int .i64 2))],
 sv 1 19 20,
 sm 2 21 (.ext (tm 19) 0),
 sm 3 22 (.ext (tm 19) 1),
 sm 4 3 (.alloc [.int .i64 0, .nilS, .nilS, .int .i64 0, .nilS, .int .i64 0, .nilS, .int .i64 0, .bool false]),
 se 5 (.st 9 (tm 3) (tm 21)),
 sv 6 4 22])
 (.seq (.dreg [⟨0, (some 24), none, .mo (.ldA 9 (tm 3)), [], true⟩,
 ⟨1, (some 25), none, .mo (.ldA 45 (tm 2)), [], true⟩,
 ⟨2, (some 26), none, .mo (.ldA 45 (tm 1)), [], true⟩,
 sm 3 27 (.ldA 45 (tm 1)),
 ⟨11, (some 5), none, .mo (.alloc [.int .i64 0, .nilS, .nilS, .int .i64 0, .nilS, .int .i64 0, .nilS, .int .i64 0, .bool false]), [], true⟩,
 ⟨4, (some 28), none, .callF 40 [(tm 27), (.const (.int .i64 2))], [11, 2, 1, 0], false⟩,
 sm 5 29 (.bsl 45 ([.int .i64 0, .int .u8 0, .int .u32 0, .nilS, .int .u64 0, .int .u8 0, .str [], .int .u8 0, .int .i64 0, .int .u64 0, .str [], .int .u32 0, .int .u32 0] ++ rep 32 (.int .u8 0)) 3 [(0, (tm 25)), (1, (tm 26)), (2, (tm 28))]),
 ⟨6, (some 30), none, .callF 12 [(tm 24), (tm 29)], [11], false⟩,
 sv 7 23 30,
 sm 8 31 (.ext (tm 23) 0),
 sm 9 32 (.ext (tm 23) 1),
 sm 10 33 (.ext (tm 23) 2),
 se 12 (.st 9 (tm 5) (tm 31)),
 sv 13 6 32,
 sv 14 7 33])
 (.seq (.reg [sc 0 35 16 [(.const (.int .i64 1)), (.const (.int .i64 1)), (.const (.int .i64 2))],
 sv 1 34 35,
 sm 2 36 (.ext (tm 34) 0),
 sm 3 37 (.ext (tm 34) 1),
 sm 4 8 (.alloc [.int .i64 0, .nilS, .nilS, .int .i64 0, .nilS, .int .i64 0, .nilS, .int .i64 0, .bool false]),
 se 5 (.st 9 (tm 8) (tm 36)),
 sv 6 9 37])
 (.seq (.reg [sm 0 39 (.ldA 9 (tm 8)),
 sm 1 40 (.ldA 45 (tm 2)),
 sm 2 41 (.ldA 45 (tm 1)),
 sm 3 42 (.bsl 45 ([.int .i64 0, .int .u8 0, .int .u32 0, .nilS, .int .u64 0, .int .u8 0, .str [], .int .u8 0, .int .i64 0, .int .u64 0, .str [], .int .u32 0, .int .u32 0] ++ rep 32 (.int .u8 0)) 2 [(0, (tm 40)), (1, (tm 41))]),
 sc 4 43 12 [(tm 39), (tm 42)],
 sv 5 38 43,
 sm 6 44 (.ext (tm 38) 0),
 sm 7 45 (.ext (tm 38) 1),
 sm 8 46 (.ext (tm 38) 2),
 sm 9 10 (.alloc [.int .i64 0, .nilS, .nilS, .int .i64 0, .nilS, .int .i64 0, .nilS, .int .i64 0, .bool false]),
 se 10 (.st 9 (tm 10) (tm 44)),
 sv 11 11 45,
 sv 12 12 46])
 (.seq (.reg [sm 0 47 (.fa 13 (tm 2)),
 sm 1 48 (.ldA 32 (tm 47)),
 sm 2 49 (.bld ([.int .i64 0] ++ rep 33 (.int .u8 0)) [(0, 1, (.const (.int .i64 0))), (1, 1, (.const (.int .u8 6))), (2, 32, (tm 48))]),
 sm 3 50 (.fa 13 (tm 1)),
 sm 4 51 (.ldA 32 (tm 50)),
 sm 5 52 (.bld ([.int .i64 0] ++ rep 33 (.int .u8 0)) [(0, 1, (.const (.int .i64 1))), (1, 1, (.const (.int .u8 1))), (2, 32, (tm 51))]),
 sm 6 53 (.fa 13 (tm 2)),
 sm 7 54 (.ldA 32 (tm 53)),
 sm 8 55 (.bld ([.int .i64 0] ++ rep 33 (.int .u8 0)) [(0, 1, (.const (.int .i64 0))), (1, 1, (.const (.int .u8 1))), (2, 32, (tm 54))]),
 sm 9 56 (.fa 13 (tm 1)),
 sm 10 57 (.ldA 32 (tm 56)),
 sm 11 58 (.bld ([.int .i64 0] ++ rep 33 (.int .u8 0)) [(0, 1, (.const (.int .i64 2))), (1, 1, (.const (.int .u8 5))), (2, 32, (tm 57))]),
 sm 12 59 (.bsl 34 ([.int .i64 0] ++ rep 33 (.int .u8 0)) 4 [(0, (tm 49)), (1, (tm 52)), (2, (tm 55)), (3, (tm 58))]),
 sv 13 13 59])
 (.seq (.reg [sv 0 60 4,
 sm 1 61 (.bin .eql 38 (tm 60) (.const (.int .i64 0))),
 sv 2 62 61,
 sg 3 63 62 true (.mv (tm 7)),
 sg 4 64 62 true (.bin .eql 38 (tm 63) (.const (.int .i64 0))),
 sm 5 65 (.pick (tm 62) (tm 64) (.const (.bool false))),
 sv 6 66 65,
 sg 7 67 66 true (.mv (tm 6)),
 sg 8 68 66 true (.mv (tm 13)),
 ⟨9, (some 69), (some ((some 66), true)), .callF 15 [(tm 67), (tm 68)], [], false⟩,
 sm 10 70 (.pick (tm 66) (tm 69) (.const (.bool false))),
 sv 11 71 70,
 sg 12 72 71 true (.fa 7 (tm 5)),
 sg 13 73 71 true (.ld1 (tm 72)),
 sg 14 74 71 true (.bin .eql 3 (tm 73) (.const (.int .i64 3))),
 sm 15 75 (.pick (tm 71) (tm 74) (.const (.bool false))),
 sv 16 76 75,
 sg 17 77 76 true (.mv (tm 9)),
 sg 18 78 76 true (.bin .eql 38 (tm 77) (.const (.int .i64 0))),
 sm 19 79 (.pick (tm 76) (tm 78) (.const (.bool false))),
 sv 20 80 79,
 sg 21 81 80 true (.mv (tm 12)),
 sg 22 82 80 true (.bin .eql 38 (tm 81) (.const (.int .i64 0))),
 sm 23 83 (.pick (tm 80) (tm 82) (.const (.bool false))),
 sv 24 84 83,
 sg 25 85 84 true (.mv (tm 11)),
 sg 26 86 84 true (.len (.sl 34) (tm 85)),
 sg 27 87 84 true (.bin .eql 3 (tm 86) (.const (.int .i64 3))),
 sm 28 88 (.pick (tm 84) (tm 87) (.const (.bool false))),
 sv 29 89 88,
 sg 30 90 89 true (.mv (tm 11)),
 sg 31 91 89 true (.ia (.sl 34) (tm 90) (.const (.int .i64 2))),
 sg 32 92 89 true (.ldA 34 (tm 91)),
 sg 33 93 89 true (.fa 13 (tm 2)),
 sg 34 94 89 true (.ldA 32 (tm 93)),
 sg 35 95 89 true (.bld ([.int .i64 0] ++ rep 33 (.int .u8 0)) [(0, 1, (.const (.int .i64 0))), (1, 1, (.const (.int .u8 8))), (2, 32, (tm 94))]),
 sg 36 96 89 true (.bin .eql 86 (tm 92) (tm 95)),
 sm 37 97 (.pick (tm 89) (tm 96) (.const (.bool false))),
 sv 38 0 97])
 .ret)))))))))
def r27 : List Mo := [.mv (tm 0)]
theorem c27_eq : compF Tryz.prog 27 = some c27 := by kernel_rfl
theorem r27_eq : compRs Tryz.prog 27 = some r27 := by kernel_rfl
def c39 : Cd := (.seq (.reg [sm 0 6 (.alloc ([.int .i64 0, .int .u8 0, .int .u32 0, .nilS, .int .u64 0, .int .u8 0, .str [], .int .u8 0, .int .i64 0, .int .u64 0, .str [], .int .u32 0, .int .u32 0] ++ rep 32 (.int .u8 0)))])
 (.seq (.reg [sv 0 10 2,
 sv 1 11 1,
 sm 2 12 (.bld [.int .u8 0, .str [], .int .u8 0, .int .i64 0, .int .u64 0, .str []] [(0, 1, (.const (.int .u8 1)))]),
 sm 3 13 (.bld [.int .u32 0, .nilS, .int .u64 0, .int .u8 0, .str [], .int .u8 0, .int .i64 0, .int .u64 0, .str [], .int .u32 0, .int .u32 0] [(1, 1, (tm 10)), (2, 1, (tm 11)), (3, 6, (tm 12))]),
 sc 4 14 83 [(.const (.int .u32 5)), (tm 13)],
 sv 5 9 14,
 sm 6 15 (.ext (tm 9) 0),
 sm 7 16 (.ext (tm 9) 1),
 sm 8 7 (.alloc [.int .u32 0, .nilS, .int .u64 0, .int .u8 0, .str [], .int .u8 0, .int .i64 0, .int .u64 0, .str [], .int .u32 0, .int .u32 0]),
 se 9 (.st 11 (tm 7) (tm 15)),
 sv 10 8 16])
 (.seq (.dreg [sv 0 17 0,
 ⟨1, (some 18), none, .mo (.ldA 11 (tm 7)), [], true⟩,
 sm 2 19 (.ldA 11 (tm 7)),
 ⟨3, (some 20), none, .callF 73 [(tm 19)], [1], false⟩,
 sm 4 21 (.bld ([.int .i64 0, .int .u8 0, .int .u32 0, .nilS, .int .u64 0, .int .u8 0, .str [], .int .u8 0, .int .i64 0, .int .u64 0, .str [], .int .u32 0, .int .u32 0] ++ rep 32 (.int .u8 0)) [(0, 1, (tm 17)), (2, 11, (tm 18)), (13, 32, (tm 20))]),
 se 5 (.st 45 (tm 6) (tm 21))])
 .ret)))
def r39 : List Mo := [.ldA 45 (tm 6)]
theorem c39_eq : compF Tryz.prog 39 = some c39 := by kernel_rfl
theorem r39_eq : compRs Tryz.prog 39 = some r39 := by kernel_rfl
def c40 : Cd := (.seq (.reg [sm 0 2 (.box (tm 0)),
 sm 1 4 (.alloc ([.int .i64 0, .int .u8 0, .int .u32 0, .nilS, .int .u64 0, .int .u8 0, .str [], .int .u8 0, .int .i64 0, .int .u64 0, .str [], .int .u32 0, .int .u32 0] ++ rep 32 (.int .u8 0)))])
 (.seq (.reg [sv 0 5 1,
 sm 1 6 (.fa 0 (tm 2)),
 se 2 (.st 1 (tm 6) (tm 5))])
 (.seq (.reg [sm 0 7 (.ldA 45 (tm 2)),
 se 1 (.st 45 (tm 4) (tm 7))])
 .ret)))
def r40 : List Mo := [.ldA 45 (tm 4)]
theorem c40_eq : compF Tryz.prog 40 = some c40 := by kernel_rfl
theorem r40_eq : compRs Tryz.prog 40 = some r40 := by kernel_rfl
def c44 : Cd := (.seq (.reg [sm 0 1 (.box (tm 0)),
 sm 1 2 (.alloc [.int .i64 0, .nilS, .nilS, .int .i64 0, .nilS])])
 (.seq (.dreg [sm 0 3 (.fa 0 (tm 1)),
 ⟨1, (some 4), none, .mo (.ld1 (tm 3)), [], true⟩,
 sm 2 5 (.fa 1 (tm 1)),
 sm 3 6 (.ldA 3 (tm 5)),
 ⟨5, (some 8), none, .mo (.bsl 32 (rep 32 (.int .u8 0)) 0 []), [], true⟩,
 sm 6 9 (.fa 4 (tm 1)),
 ⟨7, (some 10), none, .mo (.ld1 (tm 9)), [], true⟩,
 ⟨4, (some 7), none, .callF 85 [(tm 6)], [7, 5, 1], false⟩,
 ⟨8, (some 11), none, .mo (.app 32 32 (tm 8) (tm 10)), [1], false⟩,
 sm 9 12 (.bld [.int .i64 0, .nilS, .nilS, .int .i64 0, .nilS] [(0, 1, (tm 4)), (1, 3, (tm 7)), (4, 1, (tm 11))]),
 se 10 (.st 5 (tm 2) (tm 12))])
 .ret))
def r44 : List Mo := [.ldA 5 (tm 2)]
theorem c44_eq : compF Tryz.prog 44 = some c44 := by kernel_rfl
theorem r44_eq : compRs Tryz.prog 44 = some r44 := by kernel_rfl
def l45_0 : Cd := (.seq (.seq (.reg [sv 0 8 4,
 sm 1 9 (.fa 1 (tm 1)),
 sm 2 10 (.ld1 (tm 9)),
 sm 3 11 (.len (.sl 45) (tm 10)),
 sm 4 12 (.bin .lss 3 (tm 8) (tm 11))])
 (.cond (tm 12) .skip (.exit 0)))
 (.seq (.block 1 (.dreg [sm 0 15 (.fa 1 (tm 3)),
 ⟨1, (some 16), none, .mo (.ld1 (tm 15)), [], true⟩,
 sm 2 17 (.fa 1 (tm 1)),
 sm 3 18 (.ld1 (tm 17)),
 sv 4 19 4,
 sm 5 20 (.ia (.sl 45) (tm 18) (tm 19)),
 sm 6 21 (.ldA 45 (tm 20)),
 ⟨7, (some 22), none, .callF 86 [(tm 21)], [1], false⟩,
 sm 8 23 (.bsl 45 ([.int .i64 0, .int .u32 0, .nilS, .int .u64 0, .int .u8 0, .str [], .int .u8 0, .int .i64 0, .int .u64 0, .str [], .int .u32 0, .int .u32 0] ++ rep 32 (.int .u8 0) ++ [.nilS]) 1 [(0, (tm 22))]),
 sm 9 24 (.app 45 176 (tm 16) (tm 23)),
 sm 10 25 (.fa 1 (tm 3)),
 se 11 (.st 1 (tm 25) (tm 24))]))
 (.reg [sv 0 13 4,
 sm 1 14 (.bin .add 3 (tm 13) (.const (.int .i64 1))),
 sv 2 4 14])))
def c45 : Cd := (.seq (.reg [sm 0 1 (.box (tm 0)),
 sm 1 2 (.alloc [.int .i64 0, .nilS])])
 (.seq (.reg [sm 0 5 (.fa 0 (tm 1)),
 sm 1 6 (.ld1 (tm 5)),
 sm 2 7 (.bld [.int .i64 0, .nilS] [(0, 1, (tm 6))]),
 sm 3 3 (.alloc [.int .i64 0, .nilS]),
 se 4 (.st 2 (tm 3) (tm 7))])
 (.seq (.seq (.reg [sm 0 4 (.mv (.const (.int .i64 0)))])
 (.block 0 (.loop l45_0)))
 (.seq (.reg [sm 0 26 (.ldA 2 (tm 3)),
 se 1 (.st 2 (tm 2) (tm 26))])
 .ret))))
def r45 : List Mo := [.ldA 2 (tm 2)]
theorem c45_eq : compF Tryz.prog 45 = some c45 := by kernel_rfl
theorem r45_eq : compRs Tryz.prog 45 = some r45 := by kernel_rfl
def l46_0 : Cd := (.seq (.seq (.reg [sv 0 14 4,
 sm 1 15 (.mkF 89 [] [(tm 3)]),
 sc 2 16 88 [(tm 14), (tm 15)]])
 (.cond (tm 16) .skip (.exit 0)))
 (.seq (.block 1 (.reg [sv 0 19 6,
 sm 1 20 (.bin .rem 3 (tm 19) (.const (.int .i64 32))),
 sm 2 21 (.ia (.arr 32 1) (tm 3) (tm 20)),
 sm 3 22 (.ld1 (tm 21)),
 sm 4 23 (.bin .add 5 (tm 22) (.const (.int .u8 1))),
 sm 5 24 (.ia (.arr 32 1) (tm 3) (tm 20)),
 se 6 (.st 1 (tm 24) (tm 23))]))
 (.reg [sv 0 17 6,
 sm 1 18 (.bin .add 3 (tm 17) (.const (.int .i64 1))),
 sv 2 6 18])))
def c46 : Cd := (.seq (.reg [sm 0 1 (.box (tm 0)),
 sm 1 2 (.alloc [.int .i64 0, .nilS, .nilS, .int .i64 0, .nilS, .int .i64 0, .nilS, .int .i64 0, .bool false])])
 (.seq (.reg [sm 0 7 (.bld (rep 32 (.int .u8 0)) []),
 sm 1 3 (.alloc (rep 32 (.int .u8 0))),
 se 2 (.st 32 (tm 3) (tm 7))])
 (.seq (.reg [sm 0 9 (.fa 5 (tm 1)),
 sm 1 10 (.ldA 2 (tm 9)),
 sc 2 11 87 [(tm 10)],
 sv 3 8 11,
 sm 4 12 (.ext (tm 8) 0),
 sm 5 13 (.ext (tm 8) 1),
 sv 6 4 12,
 sv 7 5 13])
 (.seq (.seq (.reg [sm 0 6 (.mv (.const (.int .i64 0)))])
 (.block 0 (.loop l46_0)))
 (.seq (.reg [sm 0 26 (.fa 5 (tm 1)),
 sm 1 27 (.ldA 2 (tm 26)),
 sm 2 28 (.ldA 32 (tm 3)),
 sc 3 29 91 [(tm 27), (tm 28)],
 sv 4 25 29,
 sm 5 30 (.ext (tm 25) 0),
 sm 6 31 (.ext (tm 25) 1),
 sm 7 32 (.ext (tm 25) 2),
 sm 8 33 (.fa 5 (tm 1)),
 se 9 (.st 2 (tm 33) (tm 30))])
 (.seq (.reg [sm 0 34 (.fa 0 (tm 1)),
 sm 1 35 (.ldA 5 (tm 34)),
 sc 2 36 92 [(tm 35)],
 sm 3 37 (.fa 0 (tm 1)),
 se 4 (.st 5 (tm 37) (tm 36))])
 (.seq (.reg [sm 0 38 (.ldA 9 (tm 1)),
 se 1 (.st 9 (tm 2) (tm 38))])
 .ret)))))))
def r46 : List Mo := [.ldA 9 (tm 2)]
theorem c46_eq : compF Tryz.prog 46 = some c46 := by kernel_rfl
theorem r46_eq : compRs Tryz.prog 46 = some r46 := by kernel_rfl
def c47 : Cd := (.seq (.reg [sm 0 4 (.alloc [.int .i64 0, .nilS, .nilS, .int .i64 0, .nilS]),
 sm 1 5 (.mv (.const (.int .i64 0)))])
 (.seq (.reg [sv 0 9 1,
 sc 1 10 93 [(tm 9)],
 sv 2 8 10,
 sm 3 11 (.ext (tm 8) 0),
 sm 4 12 (.ext (tm 8) 1),
 sm 5 6 (.alloc [.nilS, .nilS, .int .i64 0]),
 se 6 (.st 3 (tm 6) (tm 11)),
 sv 7 7 12])
 (.seq (.seq (.reg [sv 0 13 0,
 sm 1 14 (.bin .lss 3 (tm 13) (.const (.int .i64 1))),
 sv 2 15 14,
 sg 3 16 15 false (.mv (tm 0)),
 sg 4 17 15 false (.bin .gtr 3 (tm 16) (.const (.int .i64 40))),
 sm 5 18 (.pick (tm 15) (.const (.bool true)) (tm 17)),
 sv 6 19 18,
 sg 7 20 19 false (.mv (tm 7)),
 sg 8 21 19 false (.bin .neq 38 (tm 20) (.const (.int .i64 0))),
 sm 9 22 (.pick (tm 19) (.const (.bool true)) (tm 21))])
 (.cond (tm 22) (.seq (.reg [sm 0 23 (.bld [.int .i64 0, .nilS, .nilS, .int .i64 0, .nilS] []),
 se 1 (.st 5 (tm 4) (tm 23)),
 sm 2 5 (.mv (.const (.int .i64 2)))])
 .ret) .skip))
 (.seq (.reg [sv 0 24 0,
 sm 1 25 (.ldA 3 (tm 6)),
 sm 2 26 (.bld [.int .i64 0, .nilS, .nilS, .int .i64 0, .nilS] [(0, 1, (tm 24)), (1, 3, (tm 25))]),
 se 3 (.st 5 (tm 4) (tm 26)),
 sm 4 5 (.mv (.const (.int .i64 0)))])
 .ret))))
def r47 : List Mo := [.ldA 5 (tm 4), .mv (tm 5)]
theorem c47_eq : compF Tryz.prog 47 = some c47 := by kernel_rfl
theorem r47_eq : compRs Tryz.prog 47 = some r47 := by kernel_rfl
def c48 : Cd := (.seq (.reg [sm 0 2 (.alloc [.int .i64 0, .nilS]),
 sm 1 3 (.mv (.const (.int .i64 0)))])
 (.seq (.seq (.reg [sv 0 4 0,
 sm 1 5 (.bin .lss 3 (tm 4) (.const (.int .i64 1))),
 sv 2 6 5,
 sg 3 7 6 false (.mv (tm 0)),
 sg 4 8 6 false (.bin .gtr 3 (tm 7) (.const (.int .i64 8))),
 sm 5 9 (.pick (tm 6) (.const (.bool true)) (tm 8))])
 (.cond (tm 9) (.seq (.reg [sm 0 10 (.bld [.int .i64 0, .nilS] []),
 se 1 (.st 2 (tm 2) (tm 10)),
 sm 2 3 (.mv (.const (.int .i64 2)))])
 .ret) .skip))
 (.seq (.reg [sv 0 11 0,
 sm 1 12 (.bld [.int .i64 0, .nilS] [(0, 1, (tm 11))]),
 se 2 (.st 2 (tm 2) (tm 12)),
 sm 3 3 (.mv (.const (.int .i64 0)))])
 .ret)))
def r48 : List Mo := [.ldA 2 (tm 2), .mv (tm 3)]
theorem c48_eq : compF Tryz.prog 48 = some c48 := by kernel_rfl
theorem r48_eq : compRs Tryz.prog 48 = some r48 := by kernel_rfl
def c51 : Cd := (.seq (.reg [sm 0 1 (.box (tm 0)),
 sm 1 2 (.mv (.const (.bool false)))])
 (.seq (.reg [sm 0 4 (.mks 48 200 ([.int .u8 0, .int .i64 0, .nilS, .int .i64 0, .int .u8 0, .int .u32 0, .nilS, .int .u64 0, .int .u8 0, .str [], .int .u8 0, .int .i64 0, .int .u64 0, .str [], .int .u32 0, .int .u32 0] ++ rep 32 (.int .u8 0)) (.const (.int .i64 1)) (.const (.int .i64 1))),
 sm 1 5 (.ldA 45 (tm 1)),
 sm 2 6 (.bsl 45 ([.int .i64 0, .int .u8 0, .int .u32 0, .nilS, .int .u64 0, .int .u8 0, .str [], .int .u8 0, .int .i64 0, .int .u64 0, .str [], .int .u32 0, .int .u32 0] ++ rep 32 (.int .u8 0)) 1 [(0, (tm 5))]),
 sm 3 7 (.bld [.int .i64 0, .nilS, .nilS, .nilS] [(0, 1, (.const (.int .i64 1))), (2, 1, (tm 4)), (3, 1, (tm 6))]),
 sm 4 3 (.alloc [.int .i64 0, .nilS, .nilS, .nilS]),
 se 5 (.st 4 (tm 3) (tm 7))])
 (.seq (.reg [sm 0 8 (.ldA 4 (tm 3)),
 sc 1 9 95 [(tm 8)],
 sm 2 10 (.bin .eql 38 (tm 9) (.const (.int .i64 0))),
 sv 3 2 10])
 .ret)))
def r51 : List Mo := [.mv (tm 2)]
theorem c51_eq : compF Tryz.prog 51 = some c51 := by kernel_rfl
theorem r51_eq : compRs Tryz.prog 51 = some r51 := by kernel_rfl
def c52 : Cd := (.seq (.reg [sm 0 2 (.box (tm 0)),
 sm 1 3 (.box (tm 1)),
 sm 2 4 (.mv (.const (.int .u8 0)))])
 (.seq (.reg [sm 0 9 (.fa 5 (tm 2)),
 sm 1 10 (.ldA 2 (tm 9)),
 sm 2 11 (.fa 13 (tm 3)),
 sm 3 12 (.ldA 32 (tm 11)),
 sc 4 13 96 [(tm 10), (tm 12)],
 sv 5 8 13,
 sm 6 14 (.ext (tm 8) 0),
 sm 7 15 (.ext (tm 8) 1),
 sv 8 5 14,
 sv 9 6 15])
 (.seq (.reg [sm 0 16 (.ldA 9 (tm 2)),
 sm 1 17 (.fa 2 (tm 3)),
 sm 2 18 (.ldA 11 (tm 17)),
 sc 3 19 54 [(tm 16), (tm 18)],
 sm 4 20 (.len (.sl 32) (tm 19)),
 sm 5 21 (.bin .gtr 3 (tm 20) (.const (.int .i64 0))),
 sv 6 7 21])
 (.seq (.block 0 (.seq (.reg [sm 0 23 (.fa 1 (tm 3)),
 sm 1 24 (.ld1 (tm 23)),
 sm 2 25 (.bin .neq 5 (tm 24) (.const (.int .u8 0))),
 sv 3 22 25])
 (.cond (tm 22) (.seq (.reg [sm 0 26 (.fa 1 (tm 3)),
 sm 1 27 (.ld1 (tm 26)),
 sv 2 4 27])
 .ret) (.seq (.reg [sm 0 29 (.fa 8 (tm 2)),
 sm 1 30 (.ld1 (tm 29)),
 sv 2 28 30])
 (.cond (tm 28) (.seq (.reg [sm 0 4 (.mv (.const (.int .u8 9)))])
 .ret) (.seq (.reg [sv 0 32 5,
 sv 1 33 32,
 sg 2 34 33 false (.fa 0 (tm 2)),
 sg 3 35 33 false (.fa 4 (tm 34)),
 sg 4 36 33 false (.ld1 (tm 35)),
 sg 5 37 33 false (.fa 13 (tm 3)),
 sg 6 38 33 false (.ldA 32 (tm 37)),
 ⟨7, (some 39), (some ((some 33), false)), .callF 66 [(tm 36), (tm 38)], [], false⟩,
 sm 8 40 (.pick (tm 33) (.const (.bool true)) (tm 39)),
 sv 9 31 40])
 (.cond (tm 31) (.seq (.reg [sm 0 4 (.mv (.const (.int .u8 5)))])
 .ret) (.seq (.reg [sv 0 42 7,
 sv 1 43 42,
 sg 2 44 43 true (.fa 5 (tm 2)),
 sg 3 45 43 true (.fa 1 (tm 44)),
 sg 4 46 43 true (.ld1 (tm 45)),
 sg 5 47 43 true (.len (.sl 45) (tm 46)),
 sg 6 48 43 true (.fa 5 (tm 2)),
 sg 7 49 43 true (.fa 0 (tm 48)),
 sg 8 50 43 true (.ld1 (tm 49)),
 sg 9 51 43 true (.bin .lss 3 (tm 47) (tm 50)),
 sm 10 52 (.pick (tm 43) (tm 51) (.const (.bool false))),
 sv 11 41 52])
 (.cond (tm 41) (.seq (.reg [sm 0 4 (.mv (.const (.int .u8 6)))])
 .ret) (.seq (.reg [sv 0 54 7,
 sv 1 53 54])
 (.cond (tm 53) (.seq (.reg [sm 0 4 (.mv (.const (.int .u8 7)))])
 .ret) (.seq (.reg [sm 0 56 (.fa 0 (tm 2)),
 sm 1 57 (.fa 4 (tm 56)),
 sm 2 58 (.ld1 (tm 57)),
 sm 3 59 (.len (.sl 32) (tm 58)),
 sm 4 60 (.fa 0 (tm 2)),
 sm 5 61 (.fa 0 (tm 60)),
 sm 6 62 (.ld1 (tm 61)),
 sm 7 63 (.bin .eql 3 (tm 59) (tm 62)),
 sv 8 55 63])
 (.cond (tm 55) (.seq (.reg [sm 0 4 (.mv (.const (.int .u8 8)))])
 .ret) .skip)))))))))))))
 (.seq (.reg [sm 0 4 (.mv (.const (.int .u8 1)))])
 .ret)))))
def r52 : List Mo := [.mv (tm 4)]
theorem c52_eq : compF Tryz.prog 52 = some c52 := by kernel_rfl
theorem r52_eq : compRs Tryz.prog 52 = some r52 := by kernel_rfl
def c53 : Cd := (.seq (.reg [sm 0 4 (.box (tm 0)),
 sm 1 6 (.box (tm 2)),
 sm 2 8 (.alloc [.int .i64 0, .nilS]),
 sm 3 9 (.mv (.const (.int .i64 0)))])
 (.seq (.seq (.reg [sm 0 15 (.ldA 2 (tm 4)),
 sc 1 16 64 [(tm 15)],
 sv 2 10 16])
 (.seq (.reg [sv 0 17 10,
 sm 1 18 (.bin .neq 38 (tm 17) (.const (.int .i64 0)))])
 (.cond (tm 18) (.seq (.reg [sm 0 19 (.bld [.int .i64 0, .nilS] []),
 sv 1 20 10,
 se 2 (.st 2 (tm 8) (tm 19)),
 sv 3 9 20])
 .ret) .skip)))
 (.seq (.reg [sm 0 22 (.ldA 11 (tm 6)),
 sc 1 23 97 [(tm 22)],
 sv 2 21 23,
 sm 3 24 (.ext (tm 21) 0),
 sm 4 25 (.ext (tm 21) 1),
 sm 5 11 (.alloc (rep 32 (.int .u8 0))),
 se 6 (.st 32 (tm 11) (tm 24)),
 sv 7 12 25])
 (.seq (.reg [sm 0 26 (.fa 1 (tm 4)),
 sm 1 27 (.ld1 (tm 26)),
 sm 2 28 (.len (.sl 45) (tm 27)),
 sv 3 13 28])
 (.seq (.block 0 (.seq (.reg [sv 0 30 12,
 sm 1 31 (.bin .neq 38 (tm 30) (.const (.int .i64 0))),
 sv 2 29 31])
 (.cond (tm 29) (.seq (.reg [sm 0 32 (.bld [.int .i64 0, .nilS] []),
 se 1 (.st 2 (tm 8) (tm 32)),
 sm 2 9 (.mv (.const (.int .i64 8)))])
 .ret) (.seq (.reg [sv 0 34 1,
 sm 1 35 (.bin .lss 3 (tm 34) (.const (.int .i64 0))),
 sv 2 36 35,
 sg 3 37 36 false (.mv (tm 1)),
 sg 4 38 36 false (.bin .gtr 3 (tm 37) (.const (.int .i64 1000000000))),
 sm 5 39 (.pick (tm 36) (.const (.bool true)) (tm 38)),
 sv 6 40 39,
 sg 7 41 40 false (.ldA 11 (tm 6)),
 sg 8 42 40 false (.mv (tm 3)),
 ⟨9, (some 43), (some ((some 40), false)), .callF 98 [(tm 41), (tm 42)], [], false⟩,
 sg 10 44 40 false (.un .not (tm 43)),
 sm 11 45 (.pick (tm 40) (.const (.bool true)) (tm 44)),
 sv 12 33 45])
 (.cond (tm 33) (.seq (.reg [sm 0 46 (.bld [.int .i64 0, .nilS] []),
 se 1 (.st 2 (tm 8) (tm 46)),
 sm 2 9 (.mv (.const (.int .i64 2)))])
 .ret) (.seq (.reg [sm 0 48 (.fa 1 (tm 4)),
 sm 1 49 (.ld1 (tm 48)),
 sm 2 50 (.ldA 32 (tm 11)),
 sc 3 51 99 [(tm 49), (tm 50)],
 sm 4 52 (.bin .geq 3 (tm 51) (.const (.int .i64 0))),
 sv 5 47 52])
 (.cond (tm 47) (.seq (.reg [sm 0 53 (.bld [.int .i64 0, .nilS] []),
 se 1 (.st 2 (tm 8) (tm 53)),
 sm 2 9 (.mv (.const (.int .i64 14)))])
 .ret) (.seq (.reg [sv 0 55 13,
 sm 1 56 (.bin .gtr 3 (tm 55) (.const (.int .i64 0))),
 sv 2 57 56,
 sg 3 58 57 true (.fa 1 (tm 4)),
 sg 4 59 57 true (.ld1 (tm 58)),
 sg 5 60 57 true (.mv (tm 13)),
 sg 6 61 57 true (.bin .sub 3 (tm 60) (.const (.int .i64 1))),
 sg 7 62 57 true (.ia (.sl 45) (tm 59) (tm 61)),
 sg 8 63 57 true (.fa 0 (tm 62)),
 sg 9 64 57 true (.ld1 (tm 63)),
 sg 10 65 57 true (.mv (tm 1)),
 sg 11 66 57 true (.bin .geq 3 (tm 64) (tm 65)),
 sm 12 67 (.pick (tm 57) (tm 66) (.const (.bool false))),
 sv 13 54 67])
 (.cond (tm 54) (.seq (.reg [sm 0 68 (.bld [.int .i64 0, .nilS] []),
 se 1 (.st 2 (tm 8) (tm 68)),
 sm 2 9 (.mv (.const (.int .i64 32)))])
 .ret) (.seq (.reg [sv 0 70 13,
 sm 1 71 (.fa 0 (tm 4)),
 sm 2 72 (.ld1 (tm 71)),
 sm 3 73 (.bin .eql 3 (tm 70) (tm 72)),
 sv 4 69 73])
 (.cond (tm 69) (.seq (.reg [sm 0 74 (.bld [.int .i64 0, .nilS] []),
 se 1 (.st 2 (tm 8) (tm 74)),
 sm 2 9 (.mv (.const (.int .i64 18)))])
 .ret) .skip)))))))))))
 (.seq (.reg [sm 0 75 (.ldA 2 (tm 4)),
 sc 1 76 100 [(tm 75)],
 sm 2 14 (.alloc [.int .i64 0, .nilS]),
 se 3 (.st 2 (tm 14) (tm 76))])
 (.seq (.dreg [sm 0 77 (.fa 1 (tm 14)),
 ⟨1, (some 78), none, .mo (.ld1 (tm 77)), [], true⟩,
 sv 2 79 1,
 sm 3 80 (.ldA 11 (tm 6)),
 sm 4 81 (.ldA 32 (tm 11)),
 sv 5 82 3,
 sm 6 83 (.bld ([.int .i64 0, .int .u32 0, .nilS, .int .u64 0, .int .u8 0, .str [], .int .u8 0, .int .i64 0, .int .u64 0, .str [], .int .u32 0, .int .u32 0] ++ rep 32 (.int .u8 0) ++ [.nilS]) [(0, 1, (tm 79)), (1, 11, (tm 80)), (12, 32, (tm 81)), (44, 1, (tm 82))]),
 ⟨7, (some 84), none, .callF 101 [(tm 83)], [1], false⟩,
 sm 8 85 (.bsl 45 ([.int .i64 0, .int .u32 0, .nilS, .int .u64 0, .int .u8 0, .str [], .int .u8 0, .int .i64 0, .int .u64 0, .str [], .int .u32 0, .int .u32 0] ++ rep 32 (.int .u8 0) ++ [.nilS]) 1 [(0, (tm 84))]),
 sm 9 86 (.app 45 176 (tm 78) (tm 85)),
 sm 10 87 (.fa 1 (tm 14)),
 se 11 (.st 1 (tm 87) (tm 86))])
 (.seq (.reg [sm 0 88 (.ldA 2 (tm 14)),
 se 1 (.st 2 (tm 8) (tm 88)),
 sm 2 9 (.mv (.const (.int .i64 0)))])
 .ret))))))))
def r53 : List Mo := [.ldA 2 (tm 8), .mv (tm 9)]
theorem c53_eq : compF Tryz.prog 53 = some c53 := by kernel_rfl
theorem r53_eq : compRs Tryz.prog 53 = some r53 := by kernel_rfl
def l54_0 : Cd := (.seq (.reg [sm 0 12 (.bin .lss 3 (tm 11) (tm 10))])
 (.seq (.cond (tm 12) .skip (.exit 0))
 (.seq (.block 1 (.seq (.reg [sm 0 13 (.ia (.sl 32) (tm 9) (tm 11)),
 sm 1 14 (.ldA 32 (tm 13)),
 sm 2 7 (.alloc (rep 32 (.int .u8 0))),
 se 3 (.st 32 (tm 7) (tm 14))])
 (.seq (.reg [sm 0 15 (.fa 0 (tm 2)),
 sm 1 16 (.fa 4 (tm 15)),
 sm 2 17 (.ld1 (tm 16)),
 sm 3 18 (.ldA 32 (tm 7)),
 sc 4 19 66 [(tm 17), (tm 18)],
 sm 5 20 (.un .not (tm 19))])
 (.cond (tm 20) (.reg [sv 0 21 5,
 sm 1 22 (.ldA 32 (tm 7)),
 sm 2 23 (.bsl 32 (rep 32 (.int .u8 0)) 1 [(0, (tm 22))]),
 sm 3 24 (.app 32 32 (tm 21) (tm 23)),
 sv 4 5 24]) .skip))))
 (.reg [sm 0 25 (.bin .add 3 (tm 11) (.const (.int .i64 1))),
 sv 1 11 25]))))
def c54 : Cd := (.seq (.reg [sm 0 2 (.box (tm 0)),
 sm 1 3 (.box (tm 1)),
 sm 2 4 (.mv (.const (.slice none 0 0)))])
 (.seq (.reg [sm 0 5 (.mv (.const (.slice none 0 0)))])
 (.seq (.seq (.reg [sm 0 8 (.fa 1 (tm 3)),
 sm 1 9 (.ld1 (tm 8)),
 sm 2 10 (.len (.sl 32) (tm 9)),
 sm 3 11 (.mv (.const (.int .i64 0)))])
 (.block 0 (.loop l54_0)))
 (.seq (.reg [sv 0 26 5,
 sv 1 4 26])
 .ret))))
def r54 : List Mo := [.mv (tm 4)]
theorem c54_eq : compF Tryz.prog 54 = some c54 := by kernel_rfl
theorem r54_eq : compRs Tryz.prog 54 = some r54 := by kernel_rfl
def c55 : Cd := (.seq (.reg [sm 0 2 (.box (tm 0)),
 sm 1 3 (.box (tm 1)),
 sm 2 4 (.alloc [.int .i64 0, .nilS, .nilS, .int .i64 0, .nilS]),
 sm 3 5 (.mv (.const (.int .u8 0))),
 sm 4 6 (.mv (.const (.int .i64 0)))])
 (.seq (.seq (.reg [sm 0 15 (.ldA 5 (tm 2)),
 sm 1 16 (.ldA 11 (tm 3)),
 sc 2 17 102 [(tm 15), (tm 16)],
 sv 3 7 17])
 (.seq (.reg [sv 0 18 7,
 sm 1 19 (.bin .neq 38 (tm 18) (.const (.int .i64 0)))])
 (.cond (tm 19) (.seq (.reg [sm 0 20 (.bld [.int .i64 0, .nilS, .nilS, .int .i64 0, .nilS] []),
 sv 1 21 7,
 se 2 (.st 5 (tm 4) (tm 20)),
 sm 3 5 (.mv (.const (.int .u8 0))),
 sv 4 6 21])
 .ret) .skip)))
 (.seq (.reg [sm 0 23 (.ldA 11 (tm 3)),
 sc 1 24 97 [(tm 23)],
 sv 2 22 24,
 sm 3 25 (.ext (tm 22) 0),
 sm 4 26 (.ext (tm 22) 1),
 sm 5 8 (.alloc (rep 32 (.int .u8 0))),
 se 6 (.st 32 (tm 8) (tm 25)),
 sv 7 9 26])
 (.seq (.reg [sm 0 27 (.ldA 5 (tm 2)),
 sm 1 28 (.ldA 11 (tm 3)),
 sm 2 29 (.ldA 32 (tm 8)),
 sc 3 30 103 [(tm 27), (tm 28), (tm 29)],
 sv 4 10 30])
 (.seq (.reg [sm 0 31 (.ldA 5 (tm 2)),
 sc 1 32 104 [(tm 31)],
 sm 2 11 (.alloc [.int .i64 0, .nilS, .nilS, .int .i64 0, .nilS]),
 se 3 (.st 5 (tm 11) (tm 32))])
 (.seq (.seq (.reg [sv 0 33 10,
 sm 1 34 (.bin .eql 5 (tm 33) (.const (.int .u8 1)))])
 (.cond (tm 34) (.seq (.reg [sm 0 36 (.fa 1 (tm 2)),
 sm 1 37 (.ldA 3 (tm 36)),
 sm 2 38 (.ldA 11 (tm 3)),
 sc 3 39 105 [(tm 37), (tm 38)],
 sv 4 35 39,
 sm 5 40 (.ext (tm 35) 0),
 sm 6 41 (.ext (tm 35) 1),
 sm 7 42 (.ext (tm 35) 2),
 sm 8 12 (.alloc [.nilS, .nilS, .int .i64 0]),
 sm 9 13 (.alloc (rep 32 (.int .u8 0))),
 se 10 (.st 3 (tm 12) (tm 40)),
 se 11 (.st 32 (tm 13) (tm 41)),
 sv 12 14 42])
 (.seq (.seq (.reg [sv 0 43 14,
 sm 1 44 (.bin .neq 38 (tm 43) (.const (.int .i64 0)))])
 (.cond (tm 44) (.seq (.reg [sm 0 45 (.bld [.int .i64 0, .nilS, .nilS, .int .i64 0, .nilS] []),
 sv 1 46 14,
 se 2 (.st 5 (tm 4) (tm 45)),
 sm 3 5 (.mv (.const (.int .u8 0))),
 sv 4 6 46])
 .ret) .skip))
 (.dreg [⟨0, (some 47), none, .mo (.ldA 3 (tm 12)), [], true⟩,
 sm 1 48 (.fa 4 (tm 11)),
 sm 2 49 (.ld1 (tm 48)),
 sm 3 50 (.ldA 32 (tm 8)),
 sm 4 51 (.bsl 32 (rep 32 (.int .u8 0)) 1 [(0, (tm 50))]),
 sm 6 53 (.fa 1 (tm 11)),
 ⟨5, (some 52), none, .mo (.app 32 32 (tm 49) (tm 51)), [0], false⟩,
 se 7 (.st 3 (tm 53) (tm 47)),
 sm 8 54 (.fa 4 (tm 11)),
 se 9 (.st 1 (tm 54) (tm 52))]))) .skip))
 (.seq (.reg [sm 0 55 (.ldA 5 (tm 11)),
 sv 1 56 10,
 se 2 (.st 5 (tm 4) (tm 55)),
 sv 3 5 56,
 sm 4 6 (.mv (.const (.int .i64 0)))])
 .ret)))))))
def r55 : List Mo := [.ldA 5 (tm 4), .mv (tm 5), .mv (tm 6)]
theorem c55_eq : compF Tryz.prog 55 = some c55 := by kernel_rfl
theorem r55_eq : compRs Tryz.prog 55 = some r55 := by kernel_rfl
def l56_0 : Cd := (.seq (.seq (.reg [sv 0 27 7,
 sm 1 28 (.len (.sl 45) (tm 27)),
 sm 2 29 (.bin .gtr 3 (tm 28) (.const (.int .i64 0)))])
 (.cond (tm 29) .skip (.exit 0)))
 (.block 1 (.seq (.reg [sv 0 30 7,
 sc 1 31 106 [(tm 30), (.func 107)],
 sm 2 9 (.alloc ([.int .i64 0, .int .u32 0, .nilS, .int .u64 0, .int .u8 0, .str [], .int .u8 0, .int .i64 0, .int .u64 0, .str [], .int .u32 0, .int .u32 0] ++ rep 32 (.int .u8 0) ++ [.nilS])),
 se 3 (.st 45 (tm 9) (tm 31))])
 (.seq (.reg [sv 0 32 7,
 sm 1 33 (.mkF 109 [] [(tm 9)]),
 sc 2 34 108 [(tm 32), (tm 33)],
 sv 3 7 34])
 (.seq (.seq (.reg [sv 0 35 0,
 sm 1 36 (.nilc (tm 35)),
 sm 2 37 (.fa 0 (tm 36)),
 sm 3 38 (.fa 4 (tm 37)),
 sm 4 39 (.ld1 (tm 38)),
 sm 5 40 (.len (.sl 32) (tm 39)),
 sv 6 41 0,
 sm 7 42 (.nilc (tm 41)),
 sm 8 43 (.fa 0 (tm 42)),
 sm 9 44 (.fa 0 (tm 43)),
 sm 10 45 (.ld1 (tm 44)),
 sm 11 46 (.bin .eql 3 (tm 40) (tm 45))])
 (.cond (tm 46) (.seq (.reg [sv 0 47 5,
 sm 1 48 (.fa 0 (tm 9)),
 sm 2 49 (.ld1 (tm 48)),
 sm 3 50 (.fa 12 (tm 9)),
 sm 4 51 (.ldA 32 (tm 50)),
 sm 5 52 (.bld ([.int .i64 0] ++ rep 33 (.int .u8 0)) [(0, 1, (tm 49)), (1, 1, (.const (.int .u8 8))), (2, 32, (tm 51))]),
 sm 6 53 (.bsl 34 ([.int .i64 0] ++ rep 33 (.int .u8 0)) 1 [(0, (tm 52))]),
 sm 7 54 (.app 34 48 (tm 47) (tm 53)),
 sv 8 5 54])
 (.exit 1)) .skip))
 (.seq (.reg [sv 0 56 0,
 sv 1 57 0,
 sm 2 58 (.nilc (tm 57)),
 sm 3 59 (.fa 0 (tm 58)),
 sm 4 60 (.ldA 5 (tm 59)),
 sm 5 61 (.fa 1 (tm 9)),
 sm 6 62 (.ldA 11 (tm 61)),
 sc 7 63 55 [(tm 60), (tm 62)],
 sv 8 55 63,
 sm 9 64 (.ext (tm 55) 0),
 sm 10 65 (.ext (tm 55) 1),
 sm 11 66 (.ext (tm 55) 2),
 sm 12 67 (.nilc (tm 56)),
 sm 13 68 (.fa 0 (tm 67)),
 se 14 (.st 5 (tm 68) (tm 64))])
 (.seq (.reg [sv 0 69 5,
 sm 1 70 (.fa 0 (tm 9)),
 sm 2 71 (.ld1 (tm 70)),
 sm 3 72 (.fa 12 (tm 9)),
 sm 4 73 (.ldA 32 (tm 72)),
 sm 5 74 (.bld ([.int .i64 0] ++ rep 33 (.int .u8 0)) [(0, 1, (tm 71)), (1, 1, (.const (.int .u8 1))), (2, 32, (tm 73))]),
 sm 6 75 (.bsl 34 ([.int .i64 0] ++ rep 33 (.int .u8 0)) 1 [(0, (tm 74))]),
 sm 7 76 (.app 34 48 (tm 69) (tm 75)),
 sv 8 5 76])
 (.seq (.dreg [sv 0 78 0,
 sm 1 79 (.nilc (tm 78)),
 sm 2 80 (.fa 5 (tm 79)),
 sm 3 81 (.ldA 2 (tm 80)),
 sm 4 82 (.fa 12 (tm 9)),
 sm 5 83 (.ldA 32 (tm 82)),
 ⟨11, (some 10), none, .mo (.alloc [.int .i64 0, .nilS]), [], true⟩,
 ⟨6, (some 84), none, .callF 91 [(tm 81), (tm 83)], [11], false⟩,
 sv 7 77 84,
 sm 8 85 (.ext (tm 77) 0),
 sm 9 86 (.ext (tm 77) 1),
 sm 10 87 (.ext (tm 77) 2),
 se 12 (.st 2 (tm 10) (tm 85)),
 sv 13 11 86,
 sv 14 12 87])
 (.dreg [sv 0 88 0,
 ⟨1, (some 89), none, .mo (.ldA 2 (tm 10)), [], true⟩,
 sv 2 90 7,
 sv 3 91 11,
 ⟨4, (some 92), none, .mo (.app 45 176 (tm 90) (tm 91)), [1], false⟩,
 sm 5 93 (.nilc (tm 88)),
 sm 6 94 (.fa 5 (tm 93)),
 se 7 (.st 2 (tm 94) (tm 89)),
 sv 8 7 92])))))))))
def c56 : Cd := (.seq (.reg [sm 0 3 (.box (tm 1)),
 sm 1 4 (.mv (.const (.slice none 0 0)))])
 (.seq (.reg [sm 0 5 (.mv (.const (.slice none 0 0)))])
 (.seq (.dreg [sv 0 14 0,
 sm 1 15 (.nilc (tm 14)),
 sm 2 16 (.fa 5 (tm 15)),
 sm 3 17 (.ldA 2 (tm 16)),
 sm 4 18 (.ldA 32 (tm 3)),
 ⟨10, (some 6), none, .mo (.alloc [.int .i64 0, .nilS]), [], true⟩,
 ⟨5, (some 19), none, .callF 91 [(tm 17), (tm 18)], [10], false⟩,
 sv 6 13 19,
 sm 7 20 (.ext (tm 13) 0),
 sm 8 21 (.ext (tm 13) 1),
 sm 9 22 (.ext (tm 13) 2),
 se 11 (.st 2 (tm 6) (tm 20)),
 sv 12 7 21,
 sv 13 8 22])
 (.seq (.reg [sv 0 23 0,
 sm 1 24 (.ldA 2 (tm 6)),
 sm 2 25 (.nilc (tm 23)),
 sm 3 26 (.fa 5 (tm 25)),
 se 4 (.st 2 (tm 26) (tm 24))])
 (.seq (.block 0 (.loop l56_0))
 (.seq (.reg [sv 0 95 5,
 sv 1 4 95])
 .ret))))))
def r56 : List Mo := [.mv (tm 4)]
theorem c56_eq : compF Tryz.prog 56 = some c56 := by kernel_rfl
theorem r56_eq : compRs Tryz.prog 56 = some r56 := by kernel_rfl
def c63 : Cd := (.seq (.reg [sm 0 1 (.box (tm 0)),
 sm 1 2 (.mv (.const (.int .i64 0)))])
 (.seq (.reg [sm 0 6 (.ldA 5 (tm 1)),
 sc 1 7 115 [(tm 6)],
 sv 2 5 7,
 sm 3 8 (.ext (tm 5) 0),
 sm 4 9 (.ext (tm 5) 1),
 sm 5 3 (.alloc [.nilS, .nilS]),
 se 6 (.st 2 (tm 3) (tm 8)),
 sv 7 4 9])
 (.seq (.reg [sv 0 10 4,
 sv 1 2 10])
 .ret)))
def r63 : List Mo := [.mv (tm 2)]
theorem c63_eq : compF Tryz.prog 63 = some c63 := by kernel_rfl
theorem r63_eq : compRs Tryz.prog 63 = some r63 := by kernel_rfl
def l64_0 : Cd := (.seq (.reg [sm 0 28 (.bin .lss 3 (tm 27) (tm 26))])
 (.seq (.cond (tm 28) .skip (.exit 0))
 (.seq (.block 1 (.seq (.reg [sv 0 29 27,
 sm 1 30 (.ia (.sl 45) (tm 25) (tm 27)),
 sm 2 31 (.ldA 45 (tm 30)),
 sm 3 5 (.alloc ([.int .i64 0, .int .u32 0, .nilS, .int .u64 0, .int .u8 0, .str [], .int .u8 0, .int .i64 0, .int .u64 0, .str [], .int .u32 0, .int .u32 0] ++ rep 32 (.int .u8 0) ++ [.nilS])),
 sv 4 4 29,
 se 5 (.st 45 (tm 5) (tm 31))])
 (.seq (.reg [sm 0 33 (.fa 1 (tm 5)),
 sm 1 34 (.ldA 11 (tm 33)),
 sc 2 35 97 [(tm 34)],
 sv 3 32 35,
 sm 4 36 (.ext (tm 32) 0),
 sm 5 37 (.ext (tm 32) 1),
 sm 6 6 (.alloc (rep 32 (.int .u8 0))),
 se 7 (.st 32 (tm 6) (tm 36)),
 sv 8 7 37])
 (.seq (.seq (.reg [sv 0 38 7,
 sm 1 39 (.bin .neq 38 (tm 38) (.const (.int .i64 0))),
 sv 2 40 39,
 sg 3 41 40 false (.ldA 32 (tm 6)),
 sg 4 42 40 false (.fa 12 (tm 5)),
 sg 5 43 40 false (.ldA 32 (tm 42)),
 sg 6 44 40 false (.bin .neq 57 (tm 41) (tm 43)),
 sm 7 45 (.pick (tm 40) (.const (.bool true)) (tm 44)),
 sv 8 46 45,
 sg 9 47 46 false (.fa 0 (tm 5)),
 sg 10 48 46 false (.ld1 (tm 47)),
 sg 11 49 46 false (.mv (tm 3)),
 sg 12 50 46 false (.bin .leq 3 (tm 48) (tm 49)),
 sm 13 51 (.pick (tm 46) (.const (.bool true)) (tm 50)),
 sv 14 52 51,
 sg 15 53 52 false (.fa 0 (tm 5)),
 sg 16 54 52 false (.ld1 (tm 53)),
 sg 17 55 52 false (.bin .gtr 3 (tm 54) (.const (.int .i64 1000000000))),
 sm 18 56 (.pick (tm 52) (.const (.bool true)) (tm 55)),
 sv 19 57 56,
 sg 20 58 57 false (.fa 1 (tm 5)),
 sg 21 59 57 false (.ldA 11 (tm 58)),
 sg 22 60 57 false (.fa 44 (tm 5)),
 sg 23 61 57 false (.ld1 (tm 60)),
 ⟨24, (some 62), (some ((some 57), false)), .callF 98 [(tm 59), (tm 61)], [], false⟩,
 sg 25 63 57 false (.un .not (tm 62)),
 sm 26 64 (.pick (tm 57) (.const (.bool true)) (tm 63)),
 sv 27 65 64,
 sg 28 66 65 false (.fa 1 (tm 1)),
 sg 29 67 65 false (.ld1 (tm 66)),
 sg 30 68 65 false (.mv (tm 4)),
 sg 31 69 65 false (.slice (.sl 45) (tm 67) none (some (tm 68)) none),
 sg 32 70 65 false (.fa 12 (tm 5)),
 sg 33 71 65 false (.ldA 32 (tm 70)),
 ⟨34, (some 72), (some ((some 65), false)), .callF 99 [(tm 69), (tm 71)], [], false⟩,
 sg 35 73 65 false (.bin .geq 3 (tm 72) (.const (.int .i64 0))),
 sm 36 74 (.pick (tm 65) (.const (.bool true)) (tm 73))])
 (.cond (tm 74) (.seq (.reg [sm 0 2 (.mv (.const (.int .i64 8)))])
 .ret) .skip))
 (.reg [sm 0 75 (.fa 0 (tm 5)),
 sm 1 76 (.ld1 (tm 75)),
 sv 2 3 76])))))
 (.reg [sm 0 77 (.bin .add 3 (tm 27) (.const (.int .i64 1))),
 sv 1 27 77]))))
def c64 : Cd := (.seq (.reg [sm 0 1 (.box (tm 0)),
 sm 1 2 (.mv (.const (.int .i64 0)))])
 (.seq (.seq (.reg [sm 0 8 (.fa 0 (tm 1)),
 sm 1 9 (.ld1 (tm 8)),
 sm 2 10 (.bin .lss 3 (tm 9) (.const (.int .i64 1))),
 sv 3 11 10,
 sg 4 12 11 false (.fa 0 (tm 1)),
 sg 5 13 11 false (.ld1 (tm 12)),
 sg 6 14 11 false (.bin .gtr 3 (tm 13) (.const (.int .i64 8))),
 sm 7 15 (.pick (tm 11) (.const (.bool true)) (tm 14)),
 sv 8 16 15,
 sg 9 17 16 false (.fa 1 (tm 1)),
 sg 10 18 16 false (.ld1 (tm 17)),
 sg 11 19 16 false (.len (.sl 45) (tm 18)),
 sg 12 20 16 false (.fa 0 (tm 1)),
 sg 13 21 16 false (.ld1 (tm 20)),
 sg 14 22 16 false (.bin .gtr 3 (tm 19) (tm 21)),
 sm 15 23 (.pick (tm 16) (.const (.bool true)) (tm 22))])
 (.cond (tm 23) (.seq (.reg [sm 0 2 (.mv (.const (.int .i64 8)))])
 .ret) .skip))
 (.seq (.reg [sm 0 3 (.mv (.const (.int .i64 (-1))))])
 (.seq (.seq (.reg [sm 0 24 (.fa 1 (tm 1)),
 sm 1 25 (.ld1 (tm 24)),
 sm 2 26 (.len (.sl 45) (tm 25)),
 sm 3 27 (.mv (.const (.int .i64 0)))])
 (.block 0 (.loop l64_0)))
 (.seq (.reg [sm 0 2 (.mv (.const (.int .i64 0)))])
 .ret)))))
def r64 : List Mo := [.mv (tm 2)]
theorem c64_eq : compF Tryz.prog 64 = some c64 := by kernel_rfl
theorem r64_eq : compRs Tryz.prog 64 = some r64 := by kernel_rfl
def c65 : Cd := (.seq (.reg [sm 0 1 (.box (tm 0)),
 sm 1 2 (.mv (.const (.int .i64 0)))])
 (.seq (.seq (.reg [sm 0 6 (.ldA 11 (tm 1)),
 sc 1 7 116 [(tm 6)],
 sv 2 3 7])
 (.seq (.reg [sv 0 8 3,
 sm 1 9 (.bin .neq 38 (tm 8) (.const (.int .i64 0)))])
 (.cond (tm 9) (.seq (.reg [sv 0 10 3,
 sv 1 2 10])
 .ret) .skip)))
 (.seq (.reg [sm 0 12 (.ldA 11 (tm 1)),
 sc 1 13 117 [(tm 12)],
 sv 2 11 13,
 sm 3 14 (.ext (tm 11) 0),
 sm 4 15 (.ext (tm 11) 1),
 sv 5 4 14,
 sv 6 5 15])
 (.seq (.reg [sm 0 16 (.fa 0 (tm 1)),
 sm 1 17 (.ld1 (tm 16)),
 sv 2 18 4,
 sm 3 19 (.fa 9 (tm 1)),
 sm 4 20 (.ldA 2 (tm 19)),
 sc 5 21 118 [(tm 17), (tm 18), (tm 20)],
 sv 6 2 21])
 .ret))))
def r65 : List Mo := [.mv (tm 2)]
theorem c65_eq : compF Tryz.prog 65 = some c65 := by kernel_rfl
theorem r65_eq : compRs Tryz.prog 65 = some r65 := by kernel_rfl
def c66 : Cd := (.seq (.reg [sm 0 3 (.box (tm 1)),
 sm 1 4 (.mv (.const (.bool false)))])
 (.seq (.reg [sv 0 5 0,
 sm 1 6 (.ldA 32 (tm 3)),
 sc 2 7 119 [(tm 5), (tm 6)],
 sm 3 8 (.bin .geq 3 (tm 7) (.const (.int .i64 0))),
 sv 4 4 8])
 .ret))
def r66 : List Mo := [.mv (tm 4)]
theorem c66_eq : compF Tryz.prog 66 = some c66 := by kernel_rfl
theorem r66_eq : compRs Tryz.prog 66 = some r66 := by kernel_rfl
def l67_0 : Cd := (.seq (.reg [sm 0 14 (.bin .lss 3 (tm 13) (tm 12))])
 (.seq (.cond (tm 14) .skip (.exit 0))
 (.seq (.block 1 (.seq (.reg [sv 0 15 13,
 sv 1 5 15])
 (.seq (.reg [sv 0 16 0,
 sv 1 17 5,
 sm 2 18 (.ia (.sl 32) (tm 16) (tm 17)),
 sm 3 19 (.ldA 32 (tm 18)),
 sv 4 20 1,
 sv 5 21 5,
 sm 6 22 (.ia (.sl 32) (tm 20) (tm 21)),
 sm 7 23 (.ldA 32 (tm 22)),
 sm 8 24 (.bin .neq 57 (tm 19) (tm 23))])
 (.cond (tm 24) (.seq (.reg [sm 0 4 (.mv (.const (.bool false)))])
 .ret) .skip))))
 (.reg [sm 0 25 (.bin .add 3 (tm 13) (.const (.int .i64 1))),
 sv 1 13 25]))))
def c67 : Cd := (.seq (.reg [sm 0 4 (.mv (.const (.bool false)))])
 (.seq (.seq (.reg [sv 0 6 0,
 sm 1 7 (.len (.sl 32) (tm 6)),
 sv 2 8 1,
 sm 3 9 (.len (.sl 32) (tm 8)),
 sm 4 10 (.bin .neq 3 (tm 7) (tm 9))])
 (.cond (tm 10) (.seq (.reg [sm 0 4 (.mv (.const (.bool false)))])
 .ret) .skip))
 (.seq (.seq (.reg [sv 0 11 0,
 sm 1 12 (.len (.sl 32) (tm 11)),
 sm 2 13 (.mv (.const (.int .i64 0)))])
 (.block 0 (.loop l67_0)))
 (.seq (.reg [sm 0 4 (.mv (.const (.bool true)))])
 .ret))))
def r67 : List Mo := [.mv (tm 4)]
theorem c67_eq : compF Tryz.prog 67 = some c67 := by kernel_rfl
theorem r67_eq : compRs Tryz.prog 67 = some r67 := by kernel_rfl
def c73 : Cd := (.seq (.reg [sm 0 1 (.box (tm 0)),
 sm 1 2 (.alloc (rep 32 (.int .u8 0)))])
 (.seq (.reg [sm 0 3 (.ldA 11 (tm 1)),
 sc 1 4 123 [(tm 3)],
 sc 2 5 122 [(tm 4)],
 se 3 (.st 32 (tm 2) (tm 5))])
 .ret))
def r73 : List Mo := [.ldA 32 (tm 2)]
theorem c73_eq : compF Tryz.prog 73 = some c73 := by kernel_rfl
theorem r73_eq : compRs Tryz.prog 73 = some r73 := by kernel_rfl
def c80 : Cd := (.seq (.reg [sm 0 2 (.mv (.const (.slice none 0 0)))])
 (.seq (.seq (.reg [sv 0 3 0,
 sm 1 4 (.bin .eql 23 (tm 3) (.const (.slice none 0 0)))])
 (.cond (tm 4) (.seq (.reg [sm 0 2 (.mv (.const (.slice none 0 0)))])
 .ret) .skip))
 (.seq (.reg [sm 0 5 (.bsl 32 (rep 32 (.int .u8 0)) 0 []),
 sv 1 6 0,
 sm 2 7 (.app 32 32 (tm 5) (tm 6)),
 sv 3 2 7])
 .ret)))
def r80 : List Mo := [.mv (tm 2)]
theorem c80_eq : compF Tryz.prog 80 = some c80 := by kernel_rfl
theorem r80_eq : compRs Tryz.prog 80 = some r80 := by kernel_rfl
def c83 : Cd := (.seq (.reg [sm 0 3 (.box (tm 1)),
 sm 1 4 (.alloc [.int .u32 0, .nilS, .int .u64 0, .int .u8 0, .str [], .int .u8 0, .int .i64 0, .int .u64 0, .str [], .int .u32 0, .int .u32 0]),
 sm 2 5 (.mv (.const (.int .i64 0)))])
 (.seq (.seq (.reg [sv 0 7 0,
 sc 1 8 129 [(tm 7)],
 sm 2 9 (.bin .neq 3 (tm 8) (.const (.int .i64 0)))])
 (.cond (tm 9) (.seq (.reg [sm 0 10 (.bld [.int .u32 0, .nilS, .int .u64 0, .int .u8 0, .str [], .int .u8 0, .int .i64 0, .int .u64 0, .str [], .int .u32 0, .int .u32 0] []),
 sv 1 11 0,
 sc 2 12 129 [(tm 11)],
 se 3 (.st 11 (tm 4) (tm 10)),
 sv 4 5 12])
 .ret) .skip))
 (.seq (.reg [sm 0 13 (.ldA 11 (tm 3)),
 sc 1 14 131 [(tm 13)],
 sc 2 15 130 [(tm 14)],
 sm 3 6 (.alloc [.int .u32 0, .nilS, .int .u64 0, .int .u8 0, .str [], .int .u8 0, .int .i64 0, .int .u64 0, .str [], .int .u32 0, .int .u32 0]),
 se 4 (.st 11 (tm 6) (tm 15))])
 (.seq (.reg [sv 0 16 0,
 sc 1 17 132 [(tm 16)],
 sm 2 18 (.fa 0 (tm 6)),
 se 3 (.st 1 (tm 18) (tm 17))])
 (.seq (.seq (.reg [sm 0 19 (.ldA 11 (tm 6)),
 sc 1 20 120 [(tm 19)],
 sm 2 21 (.bin .neq 3 (tm 20) (.const (.int .i64 0)))])
 (.cond (tm 21) (.seq (.reg [sm 0 22 (.bld [.int .u32 0, .nilS, .int .u64 0, .int .u8 0, .str [], .int .u8 0, .int .i64 0, .int .u64 0, .str [], .int .u32 0, .int .u32 0] []),
 sm 1 23 (.ldA 11 (tm 6)),
 sc 2 24 120 [(tm 23)],
 se 3 (.st 11 (tm 4) (tm 22)),
 sv 4 5 24])
 .ret) .skip))
 (.seq (.reg [sv 0 25 0,
 sm 1 26 (.ldA 11 (tm 6)),
 sc 2 27 134 [(tm 26)],
 sc 3 28 133 [(tm 25), (tm 27)],
 sm 4 29 (.fa 9 (tm 6)),
 se 5 (.st 2 (tm 29) (tm 28))])
 (.seq (.reg [sm 0 30 (.ldA 11 (tm 6)),
 se 1 (.st 11 (tm 4) (tm 30)),
 sm 2 5 (.mv (.const (.int .i64 0)))])
 .ret)))))))
def r83 : List Mo := [.ldA 11 (tm 4), .mv (tm 5)]
theorem c83_eq : compF Tryz.prog 83 = some c83 := by kernel_rfl
theorem r83_eq : compRs Tryz.prog 83 = some r83 := by kernel_rfl
def l85_0 : Cd := (.seq (.seq (.reg [sv 0 12 4,
 sm 1 13 (.fa 0 (tm 1)),
 sm 2 14 (.ld1 (tm 13)),
 sm 3 15 (.len (.sl 2) (tm 14)),
 sm 4 16 (.bin .lss 3 (tm 12) (tm 15))])
 (.cond (tm 16) .skip (.exit 0)))
 (.seq (.block 1 (.dreg [sm 0 19 (.fa 0 (tm 3)),
 ⟨1, (some 20), none, .mo (.ld1 (tm 19)), [], true⟩,
 sm 2 21 (.fa 0 (tm 1)),
 sm 3 22 (.ld1 (tm 21)),
 sv 4 23 4,
 sm 5 24 (.ia (.sl 2) (tm 22) (tm 23)),
 sm 6 25 (.ldA 2 (tm 24)),
 ⟨7, (some 26), none, .callF 128 [(tm 25)], [1], false⟩,
 sm 8 27 (.bsl 2 [.nilS, .nilS] 1 [(0, (tm 26))]),
 sm 9 28 (.app 2 48 (tm 20) (tm 27)),
 sm 10 29 (.fa 0 (tm 3)),
 se 11 (.st 1 (tm 29) (tm 28))]))
 (.reg [sv 0 17 4,
 sm 1 18 (.bin .add 3 (tm 17) (.const (.int .i64 1))),
 sv 2 4 18])))
def c85 : Cd := (.seq (.reg [sm 0 1 (.box (tm 0)),
 sm 1 2 (.alloc [.nilS, .nilS, .int .i64 0])])
 (.seq (.dreg [sm 0 5 (.bsl 32 (rep 32 (.int .u8 0)) 0 []),
 sm 1 6 (.fa 1 (tm 1)),
 sm 2 7 (.ld1 (tm 6)),
 sm 4 9 (.fa 2 (tm 1)),
 ⟨5, (some 10), none, .mo (.ld1 (tm 9)), [], true⟩,
 ⟨7, (some 3), none, .mo (.alloc [.nilS, .nilS, .int .i64 0]), [], true⟩,
 ⟨3, (some 8), none, .mo (.app 32 32 (tm 5) (tm 7)), [7, 5], false⟩,
 sm 6 11 (.bld [.nilS, .nilS, .int .i64 0] [(1, 1, (tm 8)), (2, 1, (tm 10))]),
 se 8 (.st 3 (tm 3) (tm 11))])
 (.seq (.seq (.reg [sm 0 4 (.mv (.const (.int .i64 0)))])
 (.block 0 (.loop l85_0)))
 (.seq (.reg [sm 0 30 (.ldA 3 (tm 3)),
 se 1 (.st 3 (tm 2) (tm 30))])
 .ret))))
def r85 : List Mo := [.ldA 3 (tm 2)]
theorem c85_eq : compF Tryz.prog 85 = some c85 := by kernel_rfl
theorem r85_eq : compRs Tryz.prog 85 = some r85 := by kernel_rfl
def c86 : Cd := (.seq (.reg [sm 0 1 (.box (tm 0)),
 sm 1 2 (.alloc ([.int .i64 0, .int .u32 0, .nilS, .int .u64 0, .int .u8 0, .str [], .int .u8 0, .int .i64 0, .int .u64 0, .str [], .int .u32 0, .int .u32 0] ++ rep 32 (.int .u8 0) ++ [.nilS]))])
 (.seq (.dreg [sm 0 3 (.fa 0 (tm 1)),
 ⟨1, (some 4), none, .mo (.ld1 (tm 3)), [], true⟩,
 sm 2 5 (.fa 1 (tm 1)),
 sm 3 6 (.ldA 11 (tm 5)),
 sm 5 8 (.fa 12 (tm 1)),
 ⟨6, (some 9), none, .mo (.ldA 32 (tm 8)), [], true⟩,
 ⟨7, (some 10), none, .mo (.bsl 32 (rep 32 (.int .u8 0)) 0 []), [], true⟩,
 sm 8 11 (.fa 44 (tm 1)),
 ⟨9, (some 12), none, .mo (.ld1 (tm 11)), [], true⟩,
 ⟨4, (some 7), none, .callF 135 [(tm 6)], [9, 7, 6, 1], false⟩,
 ⟨10, (some 13), none, .mo (.app 32 32 (tm 10) (tm 12)), [6, 1], false⟩,
 sm 11 14 (.bld ([.int .i64 0, .int .u32 0, .nilS, .int .u64 0, .int .u8 0, .str [], .int .u8 0, .int .i64 0, .int .u64 0, .str [], .int .u32 0, .int .u32 0] ++ rep 32 (.int .u8 0) ++ [.nilS]) [(0, 1, (tm 4)), (1, 11, (tm 7)), (12, 32, (tm 9)), (44, 1, (tm 13))]),
 se 12 (.st 45 (tm 2) (tm 14))])
 .ret))
def r86 : List Mo := [.ldA 45 (tm 2)]
theorem c86_eq : compF Tryz.prog 86 = some c86 := by kernel_rfl
theorem r86_eq : compRs Tryz.prog 86 = some r86 := by kernel_rfl
def l87_0 : Cd := (.seq (.reg [sm 0 17 (.bin .lss 3 (tm 16) (tm 15))])
 (.seq (.cond (tm 17) .skip (.exit 0))
 (.seq (.block 1 (.seq (.reg [sm 0 18 (.ia (.sl 45) (tm 14) (tm 16)),
 sm 1 19 (.ldA 45 (tm 18)),
 sm 2 7 (.alloc ([.int .i64 0, .int .u32 0, .nilS, .int .u64 0, .int .u8 0, .str [], .int .u8 0, .int .i64 0, .int .u64 0, .str [], .int .u32 0, .int .u32 0] ++ rep 32 (.int .u8 0) ++ [.nilS])),
 se 3 (.st 45 (tm 7) (tm 19))])
 (.reg [sv 0 20 5,
 sm 1 21 (.fa 44 (tm 7)),
 sm 2 22 (.ld1 (tm 21)),
 sm 3 23 (.app 32 32 (tm 20) (tm 22)),
 sv 4 5 23])))
 (.reg [sm 0 24 (.bin .add 3 (tm 16) (.const (.int .i64 1))),
 sv 1 16 24]))))
def c87 : Cd := (.seq (.reg [sm 0 1 (.box (tm 0)),
 sm 1 2 (.mv (.const (.slice none 0 0))),
 sm 2 3 (.mv (.const (.int .i64 0)))])
 (.seq (.seq (.reg [sm 0 8 (.ldA 2 (tm 1)),
 sc 1 9 64 [(tm 8)],
 sv 2 4 9])
 (.seq (.reg [sv 0 10 4,
 sm 1 11 (.bin .neq 38 (tm 10) (.const (.int .i64 0)))])
 (.cond (tm 11) (.seq (.reg [sv 0 12 4,
 sm 1 2 (.mv (.const (.slice none 0 0))),
 sv 2 3 12])
 .ret) .skip)))
 (.seq (.reg [sm 0 5 (.mv (.const (.slice none 0 0)))])
 (.seq (.seq (.reg [sm 0 13 (.fa 1 (tm 1)),
 sm 1 14 (.ld1 (tm 13)),
 sm 2 15 (.len (.sl 45) (tm 14)),
 sm 3 16 (.mv (.const (.int .i64 0)))])
 (.block 0 (.loop l87_0)))
 (.seq (.reg [sv 0 25 5,
 sc 1 26 136 [(tm 25), (.func 137)]])
 (.seq (.reg [sv 0 27 5,
 sc 1 28 138 [(tm 27)],
 sv 2 2 28,
 sm 3 3 (.mv (.const (.int .i64 0)))])
 .ret))))))
def r87 : List Mo := [.mv (tm 2), .mv (tm 3)]
theorem c87_eq : compF Tryz.prog 87 = some c87 := by kernel_rfl
theorem r87_eq : compRs Tryz.prog 87 = some r87 := by kernel_rfl
def c88 : Cd := (.seq (.reg [sm 0 4 (.mv (.const (.bool false)))])
 (.seq (.reg [sv 0 5 0,
 sv 1 6 1,
 sc 2 7 139 [(tm 5), (tm 6)],
 sm 3 8 (.bin .geq 3 (tm 7) (.const (.int .i64 0))),
 sv 4 4 8])
 .ret))
def r88 : List Mo := [.mv (tm 4)]
theorem c88_eq : compF Tryz.prog 88 = some c88 := by kernel_rfl
theorem r88_eq : compRs Tryz.prog 88 = some r88 := by kernel_rfl
def c89 : Cd := (.seq (.reg [sm 0 2 (.box (tm 0)),
 sm 1 3 (.mv (.const (.bool false)))])
 (.seq (.reg [sm 0 4 (.slice (.arr 32 1) (tm 2) none none none),
 sm 1 5 (.slice (.arr 32 1) (tm 1) none none none),
 sc 2 6 90 [(tm 4), (tm 5)],
 sv 3 3 6])
 .ret))
def r89 : List Mo := [.mv (tm 3)]
theorem c89_eq : compF Tryz.prog 89 = some c89 := by kernel_rfl
theorem r89_eq : compRs Tryz.prog 89 = some r89 := by kernel_rfl
def c90 : Cd := (.seq (.reg [sm 0 4 (.mv (.const (.bool false)))])
 (.seq (.reg [sv 0 5 0,
 sm 1 6 (.cbs (tm 5)),
 sv 2 7 1,
 sm 3 8 (.cbs (tm 7)),
 sm 4 9 (.bin .eql 9 (tm 6) (tm 8)),
 sv 5 4 9])
 .ret))
def r90 : List Mo := [.mv (tm 4)]
theorem c90_eq : compF Tryz.prog 90 = some c90 := by kernel_rfl
theorem r90_eq : compRs Tryz.prog 90 = some r90 := by kernel_rfl
def l91_0 : Cd := (.seq (.reg [sm 0 25 (.bin .lss 3 (tm 24) (tm 23))])
 (.seq (.cond (tm 25) .skip (.exit 0))
 (.seq (.block 1 (.seq (.reg [sm 0 26 (.ia (.sl 45) (tm 22) (tm 24)),
 sm 1 27 (.ldA 45 (tm 26)),
 sm 2 11 (.alloc ([.int .i64 0, .int .u32 0, .nilS, .int .u64 0, .int .u8 0, .str [], .int .u8 0, .int .i64 0, .int .u64 0, .str [], .int .u32 0, .int .u32 0] ++ rep 32 (.int .u8 0) ++ [.nilS])),
 se 3 (.st 45 (tm 11) (tm 27))])
 (.seq (.reg [sm 0 28 (.ldA 45 (tm 11)),
 sc 1 29 101 [(tm 28)],
 se 2 (.st 45 (tm 11) (tm 29))])
 (.seq (.reg [sm 0 30 (.fa 44 (tm 11)),
 sm 1 31 (.ld1 (tm 30)),
 sm 2 32 (.mkF 141 [] [(tm 3)]),
 sc 3 33 140 [(tm 31), (tm 32)],
 sm 4 34 (.fa 44 (tm 11)),
 se 5 (.st 1 (tm 34) (tm 33))])
 (.seq (.reg [sm 0 35 (.fa 44 (tm 11)),
 sm 1 36 (.ld1 (tm 35)),
 sm 2 37 (.len (.sl 32) (tm 36)),
 sm 3 38 (.bin .eql 3 (tm 37) (.const (.int .i64 0)))])
 (.cond (tm 38) (.reg [sv 0 39 9,
 sm 1 40 (.ldA 45 (tm 11)),
 sm 2 41 (.bsl 45 ([.int .i64 0, .int .u32 0, .nilS, .int .u64 0, .int .u8 0, .str [], .int .u8 0, .int .i64 0, .int .u64 0, .str [], .int .u32 0, .int .u32 0] ++ rep 32 (.int .u8 0) ++ [.nilS]) 1 [(0, (tm 40))]),
 sm 3 42 (.app 45 176 (tm 39) (tm 41)),
 sv 4 9 42]) (.reg [sm 0 43 (.fa 1 (tm 8)),
 sm 1 44 (.ld1 (tm 43)),
 sm 2 45 (.ldA 45 (tm 11)),
 sm 3 46 (.bsl 45 ([.int .i64 0, .int .u32 0, .nilS, .int .u64 0, .int .u8 0, .str [], .int .u8 0, .int .i64 0, .int .u64 0, .str [], .int .u32 0, .int .u32 0] ++ rep 32 (.int .u8 0) ++ [.nilS]) 1 [(0, (tm 45))]),
 sm 4 47 (.app 45 176 (tm 44) (tm 46)),
 sm 5 48 (.fa 1 (tm 8)),
 se 6 (.st 1 (tm 48) (tm 47))])))))))
 (.reg [sm 0 49 (.bin .add 3 (tm 24) (.const (.int .i64 1))),
 sv 1 24 49]))))
def c91 : Cd := (.seq (.reg [sm 0 2 (.box (tm 0)),
 sm 1 3 (.box (tm 1)),
 sm 2 4 (.alloc [.int .i64 0, .nilS]),
 sm 3 5 (.mv (.const (.slice none 0 0))),
 sm 4 6 (.mv (.const (.int .i64 0)))])
 (.seq (.seq (.reg [sm 0 12 (.ldA 2 (tm 2)),
 sc 1 13 64 [(tm 12)],
 sv 2 7 13])
 (.seq (.reg [sv 0 14 7,
 sm 1 15 (.bin .neq 38 (tm 14) (.const (.int .i64 0)))])
 (.cond (tm 15) (.seq (.reg [sm 0 16 (.bld [.int .i64 0, .nilS] []),
 sv 1 17 7,
 se 2 (.st 2 (tm 4) (tm 16)),
 sm 3 5 (.mv (.const (.slice none 0 0))),
 sv 4 6 17])
 .ret) .skip)))
 (.seq (.reg [sm 0 18 (.fa 0 (tm 2)),
 sm 1 19 (.ld1 (tm 18)),
 sm 2 20 (.bld [.int .i64 0, .nilS] [(0, 1, (tm 19))]),
 sm 3 8 (.alloc [.int .i64 0, .nilS]),
 se 4 (.st 2 (tm 8) (tm 20))])
 (.seq (.reg [sm 0 9 (.mv (.const (.slice none 0 0)))])
 (.seq (.seq (.reg [sm 0 21 (.fa 1 (tm 2)),
 sm 1 22 (.ld1 (tm 21)),
 sm 2 23 (.len (.sl 45) (tm 22)),
 sm 3 24 (.mv (.const (.int .i64 0)))])
 (.block 0 (.loop l91_0)))
 (.seq (.reg [sm 0 50 (.ldA 2 (tm 8)),
 sv 1 51 9,
 se 2 (.st 2 (tm 4) (tm 50)),
 sv 3 5 51,
 sm 4 6 (.mv (.const (.int .i64 0)))])
 .ret))))))
def r91 : List Mo := [.ldA 2 (tm 4), .mv (tm 5), .mv (tm 6)]
theorem c91_eq : compF Tryz.prog 91 = some c91 := by kernel_rfl
theorem r91_eq : compRs Tryz.prog 91 = some r91 := by kernel_rfl
def l92_0 : Cd := (.seq (.reg [sm 0 38 (.bin .lss 3 (tm 37) (tm 36))])
 (.seq (.cond (tm 38) .skip (.exit 2))
 (.seq (.block 3 (.seq (.reg [sv 0 39 37,
 sv 1 6 39])
 (.reg [sv 0 40 5,
 sv 1 41 6,
 sv 2 42 5,
 sv 3 43 6,
 sm 4 44 (.ia (.sl 11) (tm 42) (tm 43)),
 sm 5 45 (.fa 1 (tm 44)),
 sm 6 46 (.ld1 (tm 45)),
 sc 7 47 80 [(tm 46)],
 sm 8 48 (.ia (.sl 11) (tm 40) (tm 41)),
 sm 9 49 (.fa 1 (tm 48)),
 se 10 (.st 1 (tm 49) (tm 47))])))
 (.reg [sm 0 50 (.bin .add 3 (tm 37) (.const (.int .i64 1))),
 sv 1 37 50]))))
def l92_1 : Cd := (.seq (.reg [sm 0 28 (.bin .lss 3 (tm 27) (tm 26))])
 (.seq (.cond (tm 28) .skip (.exit 0))
 (.seq (.block 1 (.seq (.reg [sv 0 29 27,
 sm 1 30 (.ia (.sl 2) (tm 25) (tm 27)),
 sm 2 31 (.ldA 2 (tm 30)),
 sm 3 4 (.alloc [.nilS, .nilS]),
 sv 4 3 29,
 se 5 (.st 2 (tm 4) (tm 31))])
 (.seq (.reg [sm 0 32 (.fa 1 (tm 4)),
 sm 1 33 (.ld1 (tm 32)),
 sc 2 34 143 [(tm 33)],
 sv 3 5 34])
 (.seq (.seq (.reg [sv 0 35 5,
 sm 1 36 (.len (.sl 11) (tm 35)),
 sm 2 37 (.mv (.const (.int .i64 0)))])
 (.block 2 (.loop l92_0)))
 (.dreg [sm 0 51 (.fa 1 (tm 1)),
 sm 1 52 (.fa 0 (tm 51)),
 ⟨2, (some 53), none, .mo (.ld1 (tm 52)), [], true⟩,
 sv 3 54 3,
 sm 4 55 (.fa 0 (tm 4)),
 sm 5 56 (.ld1 (tm 55)),
 sv 7 58 5,
 ⟨6, (some 57), none, .callF 80 [(tm 56)], [2], false⟩,
 sm 8 59 (.bld [.nilS, .nilS] [(0, 1, (tm 57)), (1, 1, (tm 58))]),
 sm 9 60 (.ia (.sl 2) (tm 53) (tm 54)),
 se 10 (.st 2 (tm 60) (tm 59))])))))
 (.reg [sm 0 61 (.bin .add 3 (tm 27) (.const (.int .i64 1))),
 sv 1 27 61]))))
def c92 : Cd := (.seq (.reg [sm 0 1 (.box (tm 0)),
 sm 1 2 (.alloc [.int .i64 0, .nilS, .nilS, .int .i64 0, .nilS])])
 (.seq (.reg [sm 0 7 (.fa 4 (tm 1)),
 sm 1 8 (.ld1 (tm 7)),
 sc 2 9 80 [(tm 8)],
 sm 3 10 (.fa 4 (tm 1)),
 se 4 (.st 1 (tm 10) (tm 9))])
 (.seq (.reg [sm 0 11 (.fa 1 (tm 1)),
 sm 1 12 (.fa 1 (tm 11)),
 sm 2 13 (.ld1 (tm 12)),
 sc 3 14 80 [(tm 13)],
 sm 4 15 (.fa 1 (tm 1)),
 sm 5 16 (.fa 1 (tm 15)),
 se 6 (.st 1 (tm 16) (tm 14))])
 (.seq (.reg [sm 0 17 (.fa 1 (tm 1)),
 sm 1 18 (.fa 0 (tm 17)),
 sm 2 19 (.ld1 (tm 18)),
 sc 3 20 142 [(tm 19)],
 sm 4 21 (.fa 1 (tm 1)),
 sm 5 22 (.fa 0 (tm 21)),
 se 6 (.st 1 (tm 22) (tm 20))])
 (.seq (.seq (.reg [sm 0 23 (.fa 1 (tm 1)),
 sm 1 24 (.fa 0 (tm 23)),
 sm 2 25 (.ld1 (tm 24)),
 sm 3 26 (.len (.sl 2) (tm 25)),
 sm 4 27 (.mv (.const (.int .i64 0)))])
 (.block 0 (.loop l92_1)))
 (.seq (.reg [sm 0 62 (.ldA 5 (tm 1)),
 se 1 (.st 5 (tm 2) (tm 62))])
 .ret))))))
def r92 : List Mo := [.ldA 5 (tm 2)]
theorem c92_eq : compF Tryz.prog 92 = some c92 := by kernel_rfl
theorem r92_eq : compRs Tryz.prog 92 = some r92 := by kernel_rfl
def c93 : Cd := (.seq (.reg [sm 0 2 (.alloc [.nilS, .nilS, .int .i64 0]),
 sm 1 3 (.mv (.const (.int .i64 0)))])
 (.seq (.seq (.reg [sv 0 4 0,
 sm 1 5 (.bin .lss 3 (tm 4) (.const (.int .i64 1))),
 sv 2 6 5,
 sg 3 7 6 false (.mv (tm 0)),
 sg 4 8 6 false (.bin .gtr 3 (tm 7) (.const (.int .i64 4))),
 sm 5 9 (.pick (tm 6) (.const (.bool true)) (tm 8))])
 (.cond (tm 9) (.seq (.reg [sm 0 10 (.bld [.nilS, .nilS, .int .i64 0] []),
 se 1 (.st 3 (tm 2) (tm 10)),
 sm 2 3 (.mv (.const (.int .i64 2)))])
 .ret) .skip))
 (.seq (.reg [sv 0 11 0,
 sm 1 12 (.mks 2 48 [.nilS, .nilS] (tm 11) (tm 11)),
 sm 2 13 (.bld [.nilS, .nilS, .int .i64 0] [(0, 1, (tm 12))]),
 se 3 (.st 3 (tm 2) (tm 13)),
 sm 4 3 (.mv (.const (.int .i64 0)))])
 .ret)))
def r93 : List Mo := [.ldA 3 (tm 2), .mv (tm 3)]
theorem c93_eq : compF Tryz.prog 93 = some c93 := by kernel_rfl
theorem r93_eq : compRs Tryz.prog 93 = some r93 := by kernel_rfl
def l95_0 : Cd := (.seq (.reg [sm 0 51 (.bin .lss 3 (tm 50) (tm 49))])
 (.seq (.cond (tm 51) .skip (.exit 0))
 (.seq (.block 1 (.seq (.reg [sv 0 52 50,
 sm 1 53 (.ia (.sl 45) (tm 48) (tm 50)),
 sm 2 54 (.ldA 45 (tm 53)),
 sm 3 5 (.alloc ([.int .i64 0, .int .u8 0, .int .u32 0, .nilS, .int .u64 0, .int .u8 0, .str [], .int .u8 0, .int .i64 0, .int .u64 0, .str [], .int .u32 0, .int .u32 0] ++ rep 32 (.int .u8 0))),
 sv 4 4 52,
 se 5 (.st 45 (tm 5) (tm 54))])
 (.seq (.seq (.reg [sm 0 55 (.ldA 45 (tm 5)),
 sc 1 56 144 [(tm 55)],
 sm 2 57 (.un .not (tm 56)),
 sv 3 58 57,
 sg 4 59 58 false (.mv (tm 4)),
 sg 5 60 58 false (.bin .gtr 3 (tm 59) (.const (.int .i64 0))),
 sg 6 61 58 false (.mv (tm 60)),
 sg 7 62 61 true (.fa 3 (tm 1)),
 sg 8 63 61 true (.ld1 (tm 62)),
 sg 9 64 61 true (.mv (tm 4)),
 sg 10 65 61 true (.bin .sub 3 (tm 64) (.const (.int .i64 1))),
 sg 11 66 61 true (.ia (.sl 45) (tm 63) (tm 65)),
 sg 12 67 61 true (.fa 0 (tm 66)),
 sg 13 68 61 true (.ld1 (tm 67)),
 sg 14 69 61 true (.fa 0 (tm 5)),
 sg 15 70 61 true (.ld1 (tm 69)),
 sg 16 71 61 true (.bin .geq 3 (tm 68) (tm 70)),
 sg 17 72 58 false (.pick (tm 61) (tm 71) (.const (.bool false))),
 sm 18 73 (.pick (tm 58) (.const (.bool true)) (tm 72))])
 (.cond (tm 73) (.seq (.reg [sm 0 2 (.mv (.const (.int .i64 8)))])
 .ret) .skip))
 (.reg [sv 0 74 3,
 sm 1 75 (.fa 0 (tm 5)),
 sm 2 76 (.ld1 (tm 75)),
 sm 3 77 (.bsl 1 [.int .i64 0] 1 [(0, (tm 76))]),
 sm 4 78 (.app 1 8 (tm 74) (tm 77)),
 sv 5 3 78]))))
 (.reg [sm 0 79 (.bin .add 3 (tm 50) (.const (.int .i64 1))),
 sv 1 50 79]))))
def l95_1 : Cd := (.seq (.reg [sm 0 84 (.bin .lss 3 (tm 83) (tm 82))])
 (.seq (.cond (tm 84) .skip (.exit 2))
 (.seq (.block 3 (.seq (.reg [sm 0 85 (.ia (.sl 48) (tm 81) (tm 83)),
 sm 1 86 (.ldA 48 (tm 85)),
 sm 2 7 (.alloc ([.int .u8 0, .int .i64 0, .nilS, .int .i64 0, .int .u8 0, .int .u32 0, .nilS, .int .u64 0, .int .u8 0, .str [], .int .u8 0, .int .i64 0, .int .u64 0, .str [], .int .u32 0, .int .u32 0] ++ rep 32 (.int .u8 0))),
 se 3 (.st 48 (tm 7) (tm 86))])
 (.seq (.reg [sm 0 88 (.ldA 48 (tm 7)),
 sc 1 89 145 [(tm 88)],
 sv 2 87 89,
 sm 3 90 (.ext (tm 87) 0),
 sm 4 91 (.ext (tm 87) 1),
 sv 5 8 90,
 sv 6 9 91])
 (.seq (.seq (.reg [sv 0 92 9,
 sm 1 93 (.un .not (tm 92)),
 sv 2 94 93,
 sg 3 95 94 false (.mv (tm 8)),
 sg 4 96 94 false (.bin .geq 3 (tm 95) (.const (.int .i64 0))),
 sg 5 97 94 false (.mv (tm 96)),
 sg 6 98 97 true (.mv (tm 3)),
 sg 7 99 97 true (.mv (tm 8)),
 ⟨8, (some 100), (some ((some 97), true)), .callF 146 [(tm 98), (tm 99)], [], false⟩,
 sg 9 101 94 false (.pick (tm 97) (tm 100) (.const (.bool false))),
 sm 10 102 (.pick (tm 94) (.const (.bool true)) (tm 101))])
 (.cond (tm 102) (.seq (.reg [sm 0 2 (.mv (.const (.int .i64 8)))])
 .ret) .skip))
 (.reg [sv 0 103 3,
 sv 1 104 8,
 sm 2 105 (.bsl 1 [.int .i64 0] 1 [(0, (tm 104))]),
 sm 3 106 (.app 1 8 (tm 103) (tm 105)),
 sv 4 3 106])))))
 (.reg [sm 0 107 (.bin .add 3 (tm 83) (.const (.int .i64 1))),
 sv 1 83 107]))))
def l95_2 : Cd := (.seq (.reg [sm 0 114 (.bin .lss 3 (tm 113) (tm 112))])
 (.seq (.cond (tm 114) .skip (.exit 4))
 (.seq (.block 5 (.seq (.reg [sm 0 115 (.ia (.sl 2) (tm 111) (tm 113)),
 sm 1 116 (.ldA 2 (tm 115)),
 sm 2 12 (.alloc [.int .i64 0, .nilS]),
 se 3 (.st 2 (tm 12) (tm 116))])
 (.seq (.seq (.reg [sm 0 117 (.fa 0 (tm 12)),
 sm 1 118 (.ld1 (tm 117)),
 sv 2 119 10,
 sm 3 120 (.bin .leq 3 (tm 118) (tm 119)),
 sv 4 121 120,
 sg 5 122 121 false (.fa 0 (tm 12)),
 sg 6 123 121 false (.ld1 (tm 122)),
 ⟨7, (some 124), (some ((some 121), false)), .callF 148 [(tm 123)], [], false⟩,
 sg 8 125 121 false (.un .not (tm 124)),
 sm 9 126 (.pick (tm 121) (.const (.bool true)) (tm 125))])
 (.cond (tm 126) (.seq (.reg [sm 0 2 (.mv (.const (.int .i64 8)))])
 .ret) .skip))
 (.reg [sm 0 127 (.fa 0 (tm 12)),
 sm 1 128 (.ld1 (tm 127)),
 sv 2 10 128]))))
 (.reg [sm 0 129 (.bin .add 3 (tm 113) (.const (.int .i64 1))),
 sv 1 113 129]))))
def c95 : Cd := (.seq (.reg [sm 0 1 (.box (tm 0)),
 sm 1 2 (.mv (.const (.int .i64 0)))])
 (.seq (.seq (.reg [sm 0 13 (.fa 0 (tm 1)),
 sm 1 14 (.ld1 (tm 13)),
 sm 2 15 (.bin .lss 3 (tm 14) (.const (.int .i64 1))),
 sv 3 16 15,
 sg 4 17 16 false (.fa 0 (tm 1)),
 sg 5 18 16 false (.ld1 (tm 17)),
 sg 6 19 16 false (.bin .gtr 3 (tm 18) (.const (.int .i64 8))),
 sm 7 20 (.pick (tm 16) (.const (.bool true)) (tm 19)),
 sv 8 21 20,
 sg 9 22 21 false (.fa 1 (tm 1)),
 sg 10 23 21 false (.ld1 (tm 22)),
 sg 11 24 21 false (.len (.sl 2) (tm 23)),
 sg 12 25 21 false (.fa 0 (tm 1)),
 sg 13 26 21 false (.ld1 (tm 25)),
 sg 14 27 21 false (.bin .gtr 3 (tm 24) (tm 26)),
 sm 15 28 (.pick (tm 21) (.const (.bool true)) (tm 27)),
 sv 16 29 28,
 sg 17 30 29 false (.fa 2 (tm 1)),
 sg 18 31 29 false (.ld1 (tm 30)),
 sg 19 32 29 false (.len (.sl 48) (tm 31)),
 sg 20 33 29 false (.bin .lss 3 (tm 32) (.const (.int .i64 1))),
 sm 21 34 (.pick (tm 29) (.const (.bool true)) (tm 33)),
 sv 22 35 34,
 sg 23 36 35 false (.fa 2 (tm 1)),
 sg 24 37 35 false (.ld1 (tm 36)),
 sg 25 38 35 false (.len (.sl 48) (tm 37)),
 sg 26 39 35 false (.bin .gtr 3 (tm 38) (.const (.int .i64 3))),
 sm 27 40 (.pick (tm 35) (.const (.bool true)) (tm 39)),
 sv 28 41 40,
 sg 29 42 41 false (.fa 3 (tm 1)),
 sg 30 43 41 false (.ld1 (tm 42)),
 sg 31 44 41 false (.len (.sl 45) (tm 43)),
 sg 32 45 41 false (.bin .gtr 3 (tm 44) (.const (.int .i64 60))),
 sm 33 46 (.pick (tm 41) (.const (.bool true)) (tm 45))])
 (.cond (tm 46) (.seq (.reg [sm 0 2 (.mv (.const (.int .i64 8)))])
 .ret) .skip))
 (.seq (.reg [sm 0 3 (.mv (.const (.slice none 0 0)))])
 (.seq (.seq (.reg [sm 0 47 (.fa 3 (tm 1)),
 sm 1 48 (.ld1 (tm 47)),
 sm 2 49 (.len (.sl 45) (tm 48)),
 sm 3 50 (.mv (.const (.int .i64 0)))])
 (.block 0 (.loop l95_0)))
 (.seq (.seq (.reg [sm 0 80 (.fa 2 (tm 1)),
 sm 1 81 (.ld1 (tm 80)),
 sm 2 82 (.len (.sl 48) (tm 81)),
 sm 3 83 (.mv (.const (.int .i64 0)))])
 (.block 2 (.loop l95_1)))
 (.seq (.reg [sv 0 108 3,
 sc 1 109 147 [(tm 108)],
 sv 2 10 109])
 (.seq (.seq (.reg [sm 0 110 (.fa 1 (tm 1)),
 sm 1 111 (.ld1 (tm 110)),
 sm 2 112 (.len (.sl 2) (tm 111)),
 sm 3 113 (.mv (.const (.int .i64 0)))])
 (.block 4 (.loop l95_2)))
 (.seq (.reg [sm 0 2 (.mv (.const (.int .i64 0)))])
 .ret))))))))
def r95 : List Mo := [.mv (tm 2)]
theorem c95_eq : compF Tryz.prog 95 = some c95 := by kernel_rfl
theorem r95_eq : compRs Tryz.prog 95 = some r95 := by kernel_rfl
def c96 : Cd := (.seq (.reg [sm 0 2 (.box (tm 0)),
 sm 1 3 (.box (tm 1)),
 sm 2 4 (.mv (.const (.bool false))),
 sm 3 5 (.mv (.const (.int .i64 0)))])
 (.seq (.seq (.reg [sm 0 7 (.ldA 2 (tm 2)),
 sc 1 8 64 [(tm 7)],
 sv 2 6 8])
 (.seq (.reg [sv 0 9 6,
 sm 1 10 (.bin .neq 38 (tm 9) (.const (.int .i64 0)))])
 (.cond (tm 10) (.seq (.reg [sv 0 11 6,
 sm 1 4 (.mv (.const (.bool false))),
 sv 2 5 11])
 .ret) .skip)))
 (.seq (.reg [sm 0 12 (.fa 1 (tm 2)),
 sm 1 13 (.ld1 (tm 12)),
 sm 2 14 (.ldA 32 (tm 3)),
 sc 3 15 99 [(tm 13), (tm 14)],
 sm 4 16 (.bin .geq 3 (tm 15) (.const (.int .i64 0))),
 sv 5 4 16,
 sm 6 5 (.mv (.const (.int .i64 0)))])
 .ret)))
def r96 : List Mo := [.mv (tm 4), .mv (tm 5)]
theorem c96_eq : compF Tryz.prog 96 = some c96 := by kernel_rfl
theorem r96_eq : compRs Tryz.prog 96 = some r96 := by kernel_rfl
def c97 : Cd := (.seq (.reg [sm 0 1 (.box (tm 0)),
 sm 1 2 (.alloc (rep 32 (.int .u8 0))),
 sm 2 3 (.mv (.const (.int .i64 0)))])
 (.seq (.reg [sm 0 7 (.ldA 11 (tm 1)),
 sc 1 8 149 [(tm 7)],
 sv 2 6 8,
 sm 3 9 (.ext (tm 6) 0),
 sm 4 10 (.ext (tm 6) 1),
 sv 5 4 9,
 sv 6 5 10])
 (.seq (.seq (.reg [sv 0 11 5,
 sm 1 12 (.bin .neq 38 (tm 11) (.const (.int .i64 0)))])
 (.cond (tm 12) (.seq (.reg [sm 0 13 (.bld (rep 32 (.int .u8 0)) []),
 sv 1 14 5,
 se 2 (.st 32 (tm 2) (tm 13)),
 sv 3 3 14])
 .ret) .skip))
 (.seq (.reg [sv 0 15 4,
 sc 1 16 150 [(tm 15)],
 sm 2 17 (.ext (tm 16) 0),
 sm 3 18 (.ext (tm 16) 1),
 se 4 (.st 32 (tm 2) (tm 17)),
 sv 5 3 18])
 .ret))))
def r97 : List Mo := [.ldA 32 (tm 2), .mv (tm 3)]
theorem c97_eq : compF Tryz.prog 97 = some c97 := by kernel_rfl
theorem r97_eq : compRs Tryz.prog 97 = some r97 := by kernel_rfl
def l98_0 : Cd := (.seq (.reg [sm 0 10 (.bin .lss 3 (tm 9) (tm 8))])
 (.seq (.cond (tm 10) .skip (.exit 0))
 (.seq (.block 1 (.seq (.reg [sv 0 11 9,
 sm 1 12 (.ia (.sl 32) (tm 7) (tm 9)),
 sm 2 13 (.ldA 32 (tm 12)),
 sm 3 6 (.alloc (rep 32 (.int .u8 0))),
 sv 4 5 11,
 se 5 (.st 32 (tm 6) (tm 13))])
 (.seq (.reg [sv 0 14 5,
 sm 1 15 (.bin .gtr 3 (tm 14) (.const (.int .i64 0))),
 sv 2 16 15,
 sg 3 17 16 true (.mv (tm 1)),
 sg 4 18 16 true (.mv (tm 5)),
 sg 5 19 16 true (.bin .sub 3 (tm 18) (.const (.int .i64 1))),
 sg 6 20 16 true (.ia (.sl 32) (tm 17) (tm 19)),
 sg 7 21 16 true (.ldA 32 (tm 20)),
 sg 8 22 16 true (.ldA 32 (tm 6)),
 ⟨9, (some 23), (some ((some 16), true)), .callF 137 [(tm 21), (tm 22)], [], false⟩,
 sg 10 24 16 true (.bin .geq 3 (tm 23) (.const (.int .i64 0))),
 sm 11 25 (.pick (tm 16) (tm 24) (.const (.bool false))),
 sv 12 26 25,
 sg 13 27 26 false (.fa 1 (tm 2)),
 sg 14 28 26 false (.ld1 (tm 27)),
 sg 15 29 26 false (.ldA 32 (tm 6)),
 ⟨16, (some 30), (some ((some 26), false)), .callF 66 [(tm 28), (tm 29)], [], false⟩,
 sg 17 31 26 false (.un .not (tm 30)),
 sm 18 32 (.pick (tm 26) (.const (.bool true)) (tm 31))])
 (.cond (tm 32) (.seq (.reg [sm 0 4 (.mv (.const (.bool false)))])
 .ret) .skip))))
 (.reg [sm 0 33 (.bin .add 3 (tm 9) (.const (.int .i64 1))),
 sv 1 9 33]))))
def c98 : Cd := (.seq (.reg [sm 0 2 (.box (tm 0)),
 sm 1 4 (.mv (.const (.bool false)))])
 (.seq (.seq (.reg [sv 0 7 1,
 sm 1 8 (.len (.sl 32) (tm 7)),
 sm 2 9 (.mv (.const (.int .i64 0)))])
 (.block 0 (.loop l98_0)))
 (.seq (.reg [sv 0 34 1,
 sm 1 35 (.len (.sl 32) (tm 34)),
 sm 2 36 (.bin .gtr 3 (tm 35) (.const (.int .i64 0))),
 sv 3 4 36])
 .ret)))
def r98 : List Mo := [.mv (tm 4)]
theorem c98_eq : compF Tryz.prog 98 = some c98 := by kernel_rfl
theorem r98_eq : compRs Tryz.prog 98 = some r98 := by kernel_rfl
def c99 : Cd := (.seq (.reg [sm 0 3 (.box (tm 1)),
 sm 1 4 (.mv (.const (.int .i64 0)))])
 (.seq (.reg [sv 0 5 0,
 sm 1 6 (.mkF 152 [] [(tm 3)]),
 sc 2 7 151 [(tm 5), (tm 6)],
 sv 3 4 7])
 .ret))
def r99 : List Mo := [.mv (tm 4)]
theorem c99_eq : compF Tryz.prog 99 = some c99 := by kernel_rfl
theorem r99_eq : compRs Tryz.prog 99 = some r99 := by kernel_rfl
def l100_0 : Cd := (.seq (.reg [sm 0 13 (.bin .lss 3 (tm 12) (tm 11))])
 (.seq (.cond (tm 13) .skip (.exit 0))
 (.seq (.block 1 (.seq (.reg [sm 0 14 (.ia (.sl 45) (tm 10) (tm 12)),
 sm 1 15 (.ldA 45 (tm 14)),
 sm 2 5 (.alloc ([.int .i64 0, .int .u32 0, .nilS, .int .u64 0, .int .u8 0, .str [], .int .u8 0, .int .i64 0, .int .u64 0, .str [], .int .u32 0, .int .u32 0] ++ rep 32 (.int .u8 0) ++ [.nilS])),
 se 3 (.st 45 (tm 5) (tm 15))])
 (.dreg [sm 0 16 (.fa 1 (tm 3)),
 ⟨1, (some 17), none, .mo (.ld1 (tm 16)), [], true⟩,
 sm 2 18 (.ldA 45 (tm 5)),
 ⟨3, (some 19), none, .callF 101 [(tm 18)], [1], false⟩,
 sm 4 20 (.bsl 45 ([.int .i64 0, .int .u32 0, .nilS, .int .u64 0, .int .u8 0, .str [], .int .u8 0, .int .i64 0, .int .u64 0, .str [], .int .u32 0, .int .u32 0] ++ rep 32 (.int .u8 0) ++ [.nilS]) 1 [(0, (tm 19))]),
 sm 5 21 (.app 45 176 (tm 17) (tm 20)),
 sm 6 22 (.fa 1 (tm 3)),
 se 7 (.st 1 (tm 22) (tm 21))])))
 (.reg [sm 0 23 (.bin .add 3 (tm 12) (.const (.int .i64 1))),
 sv 1 12 23]))))
def c100 : Cd := (.seq (.reg [sm 0 1 (.box (tm 0)),
 sm 1 2 (.alloc [.int .i64 0, .nilS])])
 (.seq (.reg [sm 0 6 (.fa 0 (tm 1)),
 sm 1 7 (.ld1 (tm 6)),
 sm 2 8 (.bld [.int .i64 0, .nilS] [(0, 1, (tm 7))]),
 sm 3 3 (.alloc [.int .i64 0, .nilS]),
 se 4 (.st 2 (tm 3) (tm 8))])
 (.seq (.seq (.reg [sm 0 9 (.fa 1 (tm 1)),
 sm 1 10 (.ld1 (tm 9)),
 sm 2 11 (.len (.sl 45) (tm 10)),
 sm 3 12 (.mv (.const (.int .i64 0)))])
 (.block 0 (.loop l100_0)))
 (.seq (.reg [sm 0 24 (.ldA 2 (tm 3)),
 se 1 (.st 2 (tm 2) (tm 24))])
 .ret))))
def r100 : List Mo := [.ldA 2 (tm 2)]
theorem c100_eq : compF Tryz.prog 100 = some c100 := by kernel_rfl
theorem r100_eq : compRs Tryz.prog 100 = some r100 := by kernel_rfl
def c101 : Cd := (.seq (.reg [sm 0 1 (.box (tm 0)),
 sm 1 2 (.alloc ([.int .i64 0, .int .u32 0, .nilS, .int .u64 0, .int .u8 0, .str [], .int .u8 0, .int .i64 0, .int .u64 0, .str [], .int .u32 0, .int .u32 0] ++ rep 32 (.int .u8 0) ++ [.nilS]))])
 (.seq (.dreg [sm 0 3 (.fa 1 (tm 1)),
 sm 1 4 (.fa 1 (tm 3)),
 sm 2 5 (.ld1 (tm 4)),
 sm 4 7 (.fa 44 (tm 1)),
 ⟨5, (some 8), none, .mo (.ld1 (tm 7)), [], true⟩,
 ⟨3, (some 6), none, .callF 80 [(tm 5)], [5], false⟩,
 sm 7 10 (.fa 1 (tm 1)),
 sm 8 11 (.fa 1 (tm 10)),
 sc 6 9 80 [(tm 8)],
 se 9 (.st 1 (tm 11) (tm 6)),
 sm 10 12 (.fa 44 (tm 1)),
 se 11 (.st 1 (tm 12) (tm 9))])
 (.seq (.reg [sm 0 13 (.ldA 45 (tm 1)),
 se 1 (.st 45 (tm 2) (tm 13))])
 .ret)))
def r101 : List Mo := [.ldA 45 (tm 2)]
theorem c101_eq : compF Tryz.prog 101 = some c101 := by kernel_rfl
theorem r101_eq : compRs Tryz.prog 101 = some r101 := by kernel_rfl
def c102 : Cd := (.seq (.reg [sm 0 2 (.box (tm 0)),
 sm 1 3 (.box (tm 1)),
 sm 2 4 (.mv (.const (.int .i64 0)))])
 (.seq (.seq (.reg [sm 0 6 (.ldA 5 (tm 2)),
 sc 1 7 63 [(tm 6)],
 sv 2 5 7])
 (.seq (.reg [sv 0 8 5,
 sm 1 9 (.bin .neq 38 (tm 8) (.const (.int .i64 0)))])
 (.cond (tm 9) (.seq (.reg [sv 0 10 5,
 sv 1 4 10])
 .ret) .skip)))
 (.seq (.reg [sm 0 11 (.ldA 11 (tm 3)),
 sc 1 12 65 [(tm 11)],
 sv 2 4 12])
 .ret)))
def r102 : List Mo := [.mv (tm 4)]
theorem c102_eq : compF Tryz.prog 102 = some c102 := by kernel_rfl
theorem r102_eq : compRs Tryz.prog 102 = some r102 := by kernel_rfl
def l104_0 : Cd := (.seq (.reg [sm 0 56 (.bin .lss 3 (tm 55) (tm 54))])
 (.seq (.cond (tm 56) .skip (.exit 2))
 (.seq (.block 3 (.seq (.reg [sv 0 57 55,
 sv 1 5 57])
 (.dreg [sv 0 58 4,
 sm 1 59 (.nilc (tm 58)),
 sm 2 60 (.fa 1 (tm 59)),
 ⟨3, (some 61), none, .mo (.ld1 (tm 60)), [], true⟩,
 sv 4 62 5,
 sv 5 63 4,
 sm 6 64 (.nilc (tm 63)),
 sm 7 65 (.fa 1 (tm 64)),
 sm 8 66 (.ld1 (tm 65)),
 sv 9 67 5,
 sm 10 68 (.ia (.sl 11) (tm 66) (tm 67)),
 sm 11 69 (.fa 1 (tm 68)),
 sm 12 70 (.ld1 (tm 69)),
 ⟨13, (some 71), none, .callF 80 [(tm 70)], [3], false⟩,
 sm 14 72 (.ia (.sl 11) (tm 61) (tm 62)),
 sm 15 73 (.fa 1 (tm 72)),
 se 16 (.st 1 (tm 73) (tm 71))])))
 (.reg [sm 0 74 (.bin .add 3 (tm 55) (.const (.int .i64 1))),
 sv 1 55 74]))))
def l104_1 : Cd := (.seq (.reg [sm 0 27 (.bin .lss 3 (tm 26) (tm 25))])
 (.seq (.cond (tm 27) .skip (.exit 0))
 (.seq (.block 1 (.seq (.reg [sv 0 28 26,
 sv 1 3 28])
 (.seq (.reg [sm 0 29 (.fa 1 (tm 1)),
 sm 1 30 (.fa 0 (tm 29)),
 sm 2 31 (.ld1 (tm 30)),
 sv 3 32 3,
 sm 4 33 (.ia (.sl 2) (tm 31) (tm 32)),
 sv 5 4 33])
 (.seq (.dreg [sv 0 34 4,
 sv 1 35 4,
 sv 2 36 4,
 sm 3 37 (.nilc (tm 36)),
 sm 4 38 (.fa 0 (tm 37)),
 sm 5 39 (.ld1 (tm 38)),
 sv 7 41 4,
 sm 8 42 (.nilc (tm 41)),
 sm 9 43 (.fa 1 (tm 42)),
 ⟨10, (some 44), none, .mo (.ld1 (tm 43)), [], true⟩,
 ⟨6, (some 40), none, .callF 80 [(tm 39)], [10], false⟩,
 sc 11 45 143 [(tm 44)],
 sm 12 46 (.nilc (tm 34)),
 sm 13 47 (.fa 0 (tm 46)),
 se 14 (.st 1 (tm 47) (tm 40)),
 sm 15 48 (.nilc (tm 35)),
 sm 16 49 (.fa 1 (tm 48)),
 se 17 (.st 1 (tm 49) (tm 45))])
 (.seq (.reg [sv 0 50 4,
 sm 1 51 (.nilc (tm 50)),
 sm 2 52 (.fa 1 (tm 51)),
 sm 3 53 (.ld1 (tm 52)),
 sm 4 54 (.len (.sl 11) (tm 53)),
 sm 5 55 (.mv (.const (.int .i64 0)))])
 (.block 2 (.loop l104_0)))))))
 (.reg [sm 0 75 (.bin .add 3 (tm 26) (.const (.int .i64 1))),
 sv 1 26 75]))))
def c104 : Cd := (.seq (.reg [sm 0 1 (.box (tm 0)),
 sm 1 2 (.alloc [.int .i64 0, .nilS, .nilS, .int .i64 0, .nilS])])
 (.seq (.dreg [sm 0 6 (.fa 1 (tm 1)),
 sm 1 7 (.fa 1 (tm 6)),
 sm 2 8 (.ld1 (tm 7)),
 sm 4 10 (.fa 4 (tm 1)),
 ⟨5, (some 11), none, .mo (.ld1 (tm 10)), [], true⟩,
 ⟨3, (some 9), none, .callF 80 [(tm 8)], [5], false⟩,
 sm 7 13 (.fa 1 (tm 1)),
 sm 8 14 (.fa 1 (tm 13)),
 sc 6 12 80 [(tm 11)],
 se 9 (.st 1 (tm 14) (tm 9)),
 sm 10 15 (.fa 4 (tm 1)),
 se 11 (.st 1 (tm 15) (tm 12))])
 (.seq (.reg [sm 0 16 (.fa 1 (tm 1)),
 sm 1 17 (.fa 0 (tm 16)),
 sm 2 18 (.ld1 (tm 17)),
 sc 3 19 142 [(tm 18)],
 sm 4 20 (.fa 1 (tm 1)),
 sm 5 21 (.fa 0 (tm 20)),
 se 6 (.st 1 (tm 21) (tm 19))])
 (.seq (.seq (.reg [sm 0 22 (.fa 1 (tm 1)),
 sm 1 23 (.fa 0 (tm 22)),
 sm 2 24 (.ld1 (tm 23)),
 sm 3 25 (.len (.sl 2) (tm 24)),
 sm 4 26 (.mv (.const (.int .i64 0)))])
 (.block 0 (.loop l104_1)))
 (.seq (.reg [sm 0 76 (.ldA 5 (tm 1)),
 se 1 (.st 5 (tm 2) (tm 76))])
 .ret)))))
def r104 : List Mo := [.ldA 5 (tm 2)]
theorem c104_eq : compF Tryz.prog 104 = some c104 := by kernel_rfl
theorem r104_eq : compRs Tryz.prog 104 = some r104 := by kernel_rfl
def l105_0 : Cd := (.seq (.reg [sm 0 69 (.bin .lss 3 (tm 68) (tm 67))])
 (.seq (.cond (tm 69) .skip (.exit 1))
 (.seq (.block 2 (.seq (.reg [sm 0 70 (.ia (.sl 2) (tm 66) (tm 68)),
 sm 1 71 (.ldA 2 (tm 70)),
 sm 2 16 (.alloc [.nilS, .nilS]),
 se 3 (.st 2 (tm 16) (tm 71))])
 (.dreg [sm 0 72 (.fa 0 (tm 14)),
 ⟨1, (some 73), none, .mo (.ld1 (tm 72)), [], true⟩,
 sm 2 74 (.ldA 2 (tm 16)),
 ⟨3, (some 75), none, .callF 157 [(tm 74)], [1], false⟩,
 sm 4 76 (.bsl 2 [.nilS, .nilS] 1 [(0, (tm 75))]),
 sm 5 77 (.app 2 48 (tm 73) (tm 76)),
 sm 6 78 (.fa 0 (tm 14)),
 se 7 (.st 1 (tm 78) (tm 77))])))
 (.reg [sm 0 79 (.bin .add 3 (tm 68) (.const (.int .i64 1))),
 sv 1 68 79]))))
def c105 : Cd := (.seq (.reg [sm 0 2 (.box (tm 0)),
 sm 1 3 (.box (tm 1)),
 sm 2 4 (.alloc [.nilS, .nilS, .int .i64 0]),
 sm 3 5 (.alloc (rep 32 (.int .u8 0))),
 sm 4 6 (.mv (.const (.int .i64 0)))])
 (.seq (.reg [sm 0 20 (.ldA 3 (tm 2)),
 sc 1 21 154 [(tm 20)],
 sv 2 7 21])
 (.seq (.seq (.reg [sv 0 22 7,
 sm 1 23 (.bin .eql 38 (tm 22) (.const (.int .i64 0)))])
 (.cond (tm 23) (.reg [sm 0 24 (.ldA 11 (tm 3)),
 sc 1 25 65 [(tm 24)],
 sv 2 7 25]) .skip))
 (.seq (.seq (.reg [sv 0 26 7,
 sm 1 27 (.bin .neq 38 (tm 26) (.const (.int .i64 0)))])
 (.cond (tm 27) (.seq (.reg [sm 0 28 (.bld [.nilS, .nilS, .int .i64 0] []),
 sm 1 29 (.bld (rep 32 (.int .u8 0)) []),
 sv 2 30 7,
 se 3 (.st 3 (tm 4) (tm 28)),
 se 4 (.st 32 (tm 5) (tm 29)),
 sv 5 6 30])
 .ret) .skip))
 (.seq (.reg [sm 0 32 (.ldA 11 (tm 3)),
 sc 1 33 97 [(tm 32)],
 sv 2 31 33,
 sm 3 34 (.ext (tm 31) 0),
 sm 4 35 (.ext (tm 31) 1),
 sm 5 8 (.alloc (rep 32 (.int .u8 0))),
 se 6 (.st 32 (tm 8) (tm 34)),
 sv 7 9 35])
 (.seq (.reg [sm 0 37 (.ldA 3 (tm 2)),
 sm 1 38 (.ldA 32 (tm 8)),
 sc 2 39 155 [(tm 37), (tm 38)],
 sv 3 36 39,
 sm 4 40 (.ext (tm 36) 0),
 sm 5 41 (.ext (tm 36) 1),
 sm 6 42 (.ext (tm 36) 2),
 sv 7 10 40,
 sv 8 11 41,
 sv 9 12 42])
 (.seq (.reg [sm 0 43 (.mkF 156 [] [(tm 2)]),
 sv 1 13 43])
 (.seq (.block 0 (.seq (.reg [sv 0 45 12,
 sv 1 44 45])
 (.cond (tm 44) (.seq (.reg [sm 0 46 (.bld [.nilS, .nilS, .int .i64 0] []),
 sm 1 47 (.bld (rep 32 (.int .u8 0)) []),
 se 2 (.st 3 (tm 4) (tm 46)),
 se 3 (.st 32 (tm 5) (tm 47)),
 sm 4 6 (.mv (.const (.int .i64 14)))])
 .ret) (.seq (.reg [sm 0 49 (.fa 1 (tm 3)),
 sm 1 50 (.ld1 (tm 49)),
 sv 2 51 13,
 sc 3 52 88 [(tm 50), (tm 51)],
 sv 4 48 52])
 (.cond (tm 48) (.seq (.reg [sm 0 53 (.bld [.nilS, .nilS, .int .i64 0] []),
 sm 1 54 (.bld (rep 32 (.int .u8 0)) []),
 se 2 (.st 3 (tm 4) (tm 53)),
 se 3 (.st 32 (tm 5) (tm 54)),
 sm 4 6 (.mv (.const (.int .i64 40)))])
 .ret) (.seq (.reg [sm 0 56 (.fa 2 (tm 2)),
 sm 1 57 (.ld1 (tm 56)),
 sm 2 58 (.bin .eql 3 (tm 57) (.const (.int .i64 60))),
 sv 3 55 58])
 (.cond (tm 55) (.seq (.reg [sm 0 59 (.bld [.nilS, .nilS, .int .i64 0] []),
 sm 1 60 (.bld (rep 32 (.int .u8 0)) []),
 se 2 (.st 3 (tm 4) (tm 59)),
 se 3 (.st 32 (tm 5) (tm 60)),
 sm 4 6 (.mv (.const (.int .i64 18)))])
 .ret) .skip)))))))
 (.seq (.reg [sm 0 61 (.fa 2 (tm 2)),
 sm 1 62 (.ld1 (tm 61)),
 sm 2 63 (.bin .add 3 (tm 62) (.const (.int .i64 1))),
 sm 3 64 (.bld [.nilS, .nilS, .int .i64 0] [(2, 1, (tm 63))]),
 sm 4 14 (.alloc [.nilS, .nilS, .int .i64 0]),
 se 5 (.st 3 (tm 14) (tm 64))])
 (.seq (.seq (.reg [sm 0 65 (.fa 0 (tm 2)),
 sm 1 66 (.ld1 (tm 65)),
 sm 2 67 (.len (.sl 2) (tm 66)),
 sm 3 68 (.mv (.const (.int .i64 0)))])
 (.block 1 (.loop l105_0)))
 (.seq (.reg [sm 0 80 (.fa 1 (tm 3)),
 sm 1 81 (.ld1 (tm 80)),
 sc 2 82 80 [(tm 81)],
 sm 3 83 (.fa 1 (tm 3)),
 se 4 (.st 1 (tm 83) (tm 82))])
 (.seq (.reg [sm 0 84 (.fa 0 (tm 14)),
 sm 1 85 (.ld1 (tm 84)),
 sv 2 86 10,
 sm 3 87 (.ia (.sl 2) (tm 85) (tm 86)),
 sv 4 17 87])
 (.seq (.dreg [sv 0 88 17,
 sv 1 89 17,
 sv 2 90 17,
 sm 3 91 (.nilc (tm 90)),
 sm 4 92 (.fa 0 (tm 91)),
 sm 5 93 (.ld1 (tm 92)),
 sv 6 94 11,
 sm 7 95 (.ldA 32 (tm 8)),
 sm 8 96 (.bsl 32 (rep 32 (.int .u8 0)) 1 [(0, (tm 95))]),
 sv 10 98 17,
 sm 11 99 (.nilc (tm 98)),
 sm 12 100 (.fa 1 (tm 99)),
 ⟨13, (some 101), none, .mo (.ld1 (tm 100)), [], true⟩,
 sv 14 102 11,
 ⟨15, (some 103), none, .mo (.ldA 11 (tm 3)), [], true⟩,
 ⟨16, (some 104), none, .mo (.bsl 11 [.int .u32 0, .nilS, .int .u64 0, .int .u8 0, .str [], .int .u8 0, .int .i64 0, .int .u64 0, .str [], .int .u32 0, .int .u32 0] 1 [(0, (tm 103))]), [], true⟩,
 ⟨9, (some 97), none, .callF 158 [(tm 93), (tm 94), (tm 96)], [16, 15, 13], false⟩,
 sc 17 105 159 [(tm 101), (tm 102), (tm 104)],
 sm 18 106 (.nilc (tm 88)),
 sm 19 107 (.fa 0 (tm 106)),
 se 20 (.st 1 (tm 107) (tm 97)),
 sm 21 108 (.nilc (tm 89)),
 sm 22 109 (.fa 1 (tm 108)),
 se 23 (.st 1 (tm 109) (tm 105))])
 (.seq (.reg [sm 0 110 (.fa 1 (tm 2)),
 sm 1 111 (.ld1 (tm 110)),
 sc 2 112 80 [(tm 111)],
 sm 3 113 (.mkF 160 [] [(tm 3)]),
 sc 4 114 140 [(tm 112), (tm 113)],
 sm 5 115 (.fa 1 (tm 14)),
 se 6 (.st 1 (tm 115) (tm 114))])
 (.seq (.reg [sm 0 117 (.fa 1 (tm 14)),
 sm 1 118 (.ld1 (tm 117)),
 sm 2 119 (.ldA 32 (tm 8)),
 sc 3 120 161 [(tm 118), (tm 119), (.func 162)],
 sv 4 116 120,
 sm 5 121 (.ext (tm 116) 0),
 sm 6 122 (.ext (tm 116) 1),
 sv 7 18 121,
 sv 8 19 122])
 (.seq (.reg [sm 0 123 (.fa 1 (tm 14)),
 sm 1 124 (.ld1 (tm 123)),
 sv 2 125 18,
 sm 3 126 (.ldA 32 (tm 8)),
 sm 4 127 (.bsl 32 (rep 32 (.int .u8 0)) 1 [(0, (tm 126))]),
 sc 5 128 158 [(tm 124), (tm 125), (tm 127)],
 sm 6 129 (.fa 1 (tm 14)),
 se 7 (.st 1 (tm 129) (tm 128))])
 (.seq (.dreg [sm 0 130 (.ldA 3 (tm 14)),
 ⟨1, (some 131), none, .mo (.ldA 32 (tm 8)), [], true⟩,
 ⟨2, none, none, .mo (.st 3 (tm 4) (tm 130)), [1], false⟩,
 se 3 (.st 32 (tm 5) (tm 131)),
 sm 4 6 (.mv (.const (.int .i64 0)))])
 .ret)))))))))))))))))
def r105 : List Mo := [.ldA 3 (tm 4), .ldA 32 (tm 5), .mv (tm 6)]
theorem c105_eq : compF Tryz.prog 105 = some c105 := by kernel_rfl
theorem r105_eq : compRs Tryz.prog 105 = some r105 := by kernel_rfl
def l106_0 : Cd := (.seq (.seq (.reg [sv 0 14 6,
 sv 1 15 0,
 sm 2 16 (.len (.sl 45) (tm 15)),
 sm 3 17 (.bin .lss 3 (tm 14) (tm 16))])
 (.cond (tm 17) .skip (.exit 0)))
 (.seq (.block 1 (.seq (.reg [sv 0 20 1,
 sv 1 21 0,
 sv 2 22 6,
 sm 3 23 (.ia (.sl 45) (tm 21) (tm 22)),
 sm 4 24 (.ldA 45 (tm 23)),
 sm 5 25 (.ldA 45 (tm 5)),
 ⟨6, (some 26), none, .callV (tm 20) [(tm 24), (tm 25)], [], false⟩,
 sm 7 27 (.bin .lss 3 (tm 26) (.const (.int .i64 0)))])
 (.cond (tm 27) (.reg [sv 0 28 0,
 sv 1 29 6,
 sm 2 30 (.ia (.sl 45) (tm 28) (tm 29)),
 sm 3 31 (.ldA 45 (tm 30)),
 se 4 (.st 45 (tm 5) (tm 31))]) .skip)))
 (.reg [sv 0 18 6,
 sm 1 19 (.bin .add 3 (tm 18) (.const (.int .i64 1))),
 sv 2 6 19])))
def c106 : Cd := (.seq (.reg [sm 0 4 (.alloc ([.int .i64 0, .int .u32 0, .nilS, .int .u64 0, .int .u8 0, .str [], .int .u8 0, .int .i64 0, .int .u64 0, .str [], .int .u32 0, .int .u32 0] ++ rep 32 (.int .u8 0) ++ [.nilS]))])
 (.seq (.seq (.reg [sv 0 7 0,
 sm 1 8 (.len (.sl 45) (tm 7)),
 sm 2 9 (.bin .lss 3 (tm 8) (.const (.int .i64 1)))])
 (.cond (tm 9) (.reg [sm 0 10 (.mkI 9 (.const (.string ⟨#[115, 108, 105, 99, 101, 115, 46, 77, 105, 110, 70, 117, 110, 99, 58, 32, 101, 109, 112, 116, 121, 32, 108, 105, 115, 116]⟩))),
 se 1 (.stop)]) .skip))
 (.seq (.reg [sv 0 11 0,
 sm 1 12 (.ia (.sl 45) (tm 11) (.const (.int .i64 0))),
 sm 2 13 (.ldA 45 (tm 12)),
 sm 3 5 (.alloc ([.int .i64 0, .int .u32 0, .nilS, .int .u64 0, .int .u8 0, .str [], .int .u8 0, .int .i64 0, .int .u64 0, .str [], .int .u32 0, .int .u32 0] ++ rep 32 (.int .u8 0) ++ [.nilS])),
 se 4 (.st 45 (tm 5) (tm 13))])
 (.seq (.seq (.reg [sm 0 6 (.mv (.const (.int .i64 1)))])
 (.block 0 (.loop l106_0)))
 (.seq (.reg [sm 0 32 (.ldA 45 (tm 5)),
 se 1 (.st 45 (tm 4) (tm 32))])
 .ret)))))
def r106 : List Mo := [.ldA 45 (tm 4)]
theorem c106_eq : compF Tryz.prog 106 = some c106 := by kernel_rfl
theorem r106_eq : compRs Tryz.prog 106 = some r106 := by kernel_rfl
def l108_0 : Cd := (.seq (.seq (.reg [sv 0 16 6,
 sv 1 17 0,
 sm 2 18 (.len (.sl 45) (tm 17)),
 sm 3 19 (.bin .lss 3 (tm 16) (tm 18))])
 (.cond (tm 19) .skip (.exit 0)))
 (.seq (.block 1 (.seq (.reg [sv 0 22 0,
 sv 1 23 6,
 sm 2 24 (.ia (.sl 45) (tm 22) (tm 23)),
 sm 3 25 (.ldA 45 (tm 24)),
 sm 4 7 (.alloc ([.int .i64 0, .int .u32 0, .nilS, .int .u64 0, .int .u8 0, .str [], .int .u8 0, .int .i64 0, .int .u64 0, .str [], .int .u32 0, .int .u32 0] ++ rep 32 (.int .u8 0) ++ [.nilS])),
 se 5 (.st 45 (tm 7) (tm 25))])
 (.seq (.reg [sv 0 26 1,
 sm 1 27 (.ldA 45 (tm 7)),
 ⟨2, (some 28), none, .callV (tm 26) [(tm 27)], [], false⟩,
 sm 3 29 (.un .not (tm 28))])
 (.cond (tm 29) (.seq (.reg [sv 0 30 0,
 sv 1 31 5,
 sm 2 32 (.ldA 45 (tm 7)),
 sm 3 33 (.ia (.sl 45) (tm 30) (tm 31)),
 se 4 (.st 45 (tm 33) (tm 32))])
 (.reg [sv 0 34 5,
 sm 1 35 (.bin .add 3 (tm 34) (.const (.int .i64 1))),
 sv 2 5 35])) .skip))))
 (.reg [sv 0 20 6,
 sm 1 21 (.bin .add 3 (tm 20) (.const (.int .i64 1))),
 sv 2 6 21])))
def c108 : Cd := (.seq (.reg [sm 0 4 (.mv (.const (.slice none 0 0)))])
 (.seq (.reg [sv 0 8 0,
 sv 1 9 1,
 sc 2 10 151 [(tm 8), (tm 9)],
 sv 3 5 10])
 (.seq (.seq (.reg [sv 0 11 5,
 sm 1 12 (.bin .eql 3 (tm 11) (.const (.int .i64 (-1))))])
 (.cond (tm 12) (.seq (.reg [sv 0 13 0,
 sv 1 4 13])
 .ret) .skip))
 (.seq (.seq (.reg [sv 0 14 5,
 sm 1 15 (.bin .add 3 (tm 14) (.const (.int .i64 1))),
 sv 2 6 15])
 (.block 0 (.loop l108_0)))
 (.seq (.reg [sv 0 36 0,
 sv 1 37 5,
 sm 2 38 (.slice (.sl 45) (tm 36) (some (tm 37)) none none),
 se 3 (.clr ([.int .i64 0, .int .u32 0, .nilS, .int .u64 0, .int .u8 0, .str [], .int .u8 0, .int .i64 0, .int .u64 0, .str [], .int .u32 0, .int .u32 0] ++ rep 32 (.int .u8 0) ++ [.nilS]) (tm 38))])
 (.seq (.reg [sv 0 39 0,
 sv 1 40 5,
 sm 2 41 (.slice (.sl 45) (tm 39) none (some (tm 40)) none),
 sv 3 4 41])
 .ret))))))
def r108 : List Mo := [.mv (tm 4)]
theorem c108_eq : compF Tryz.prog 108 = some c108 := by kernel_rfl
theorem r108_eq : compRs Tryz.prog 108 = some r108 := by kernel_rfl
def c109 : Cd := (.seq (.reg [sm 0 2 (.box (tm 0)),
 sm 1 3 (.mv (.const (.bool false)))])
 (.seq (.reg [sm 0 4 (.fa 0 (tm 2)),
 sm 1 5 (.ld1 (tm 4)),
 sm 2 6 (.fa 0 (tm 1)),
 sm 3 7 (.ld1 (tm 6)),
 sm 4 8 (.bin .eql 3 (tm 5) (tm 7)),
 sv 5 3 8])
 .ret))
def r109 : List Mo := [.mv (tm 3)]
theorem c109_eq : compF Tryz.prog 109 = some c109 := by kernel_rfl
theorem r109_eq : compRs Tryz.prog 109 = some r109 := by kernel_rfl
def l115_0 : Cd := (.seq (.reg [sm 0 51 (.bin .lss 3 (tm 50) (tm 49))])
 (.seq (.cond (tm 51) .skip (.exit 0))
 (.seq (.block 1 (.seq (.reg [sv 0 52 50,
 sm 1 53 (.ia (.sl 32) (tm 48) (tm 50)),
 sm 2 54 (.ldA 32 (tm 53)),
 sm 3 7 (.alloc (rep 32 (.int .u8 0))),
 sv 4 6 52,
 se 5 (.st 32 (tm 7) (tm 54))])
 (.seq (.reg [sm 0 55 (.fa 4 (tm 1)),
 sm 1 56 (.ld1 (tm 55)),
 sv 2 57 6,
 sv 3 58 6,
 sm 4 59 (.slice (.sl 32) (tm 56) none (some (tm 57)) (some (tm 58))),
 sm 5 8 (.alloc [.nilS]),
 se 6 (.st 1 (tm 8) (tm 59))])
 (.seq (.reg [sm 0 61 (.fa 0 (tm 4)),
 sm 1 62 (.ld1 (tm 61)),
 sm 2 63 (.ldA 32 (tm 7)),
 sc 3 64 161 [(tm 62), (tm 63), (.func 162)],
 sv 4 60 64,
 sm 5 65 (.ext (tm 60) 0),
 sm 6 66 (.ext (tm 60) 1),
 sv 7 9 65,
 sv 8 10 66])
 (.seq (.reg [sv 0 67 10,
 sm 1 68 (.un .not (tm 67)),
 sv 2 69 68,
 sg 3 70 69 false (.ld1 (tm 8)),
 sg 4 71 69 false (.ldA 32 (tm 7)),
 ⟨5, (some 72), (some ((some 69), false)), .callF 66 [(tm 70), (tm 71)], [], false⟩,
 sm 6 73 (.pick (tm 69) (.const (.bool true)) (tm 72)),
 sv 7 74 73,
 sg 8 75 74 false (.fa 1 (tm 4)),
 sg 9 76 74 false (.ld1 (tm 75)),
 sg 10 77 74 false (.mv (tm 9)),
 sg 11 78 74 false (.ia (.sl 11) (tm 76) (tm 77)),
 sg 12 79 74 false (.fa 1 (tm 78)),
 sg 13 80 74 false (.ld1 (tm 79)),
 sg 14 81 74 false (.mkF 167 [] [(tm 8)]),
 ⟨15, (some 82), (some ((some 74), false)), .callF 88 [(tm 80), (tm 81)], [], false⟩,
 sm 16 83 (.pick (tm 74) (.const (.bool true)) (tm 82))])
 (.cond (tm 83) (.seq (.reg [sm 0 84 (.bld [.nilS, .nilS] []),
 se 1 (.st 2 (tm 2) (tm 84)),
 sm 2 3 (.mv (.const (.int .i64 8)))])
 .ret) .skip))))))
 (.reg [sm 0 85 (.bin .add 3 (tm 50) (.const (.int .i64 1))),
 sv 1 50 85]))))
def c115 : Cd := (.seq (.reg [sm 0 1 (.box (tm 0)),
 sm 1 2 (.alloc [.nilS, .nilS]),
 sm 2 3 (.mv (.const (.int .i64 0)))])
 (.seq (.reg [sm 0 12 (.fa 1 (tm 1)),
 sm 1 13 (.ldA 3 (tm 12)),
 sc 2 14 166 [(tm 13)],
 sv 3 11 14,
 sm 4 15 (.ext (tm 11) 0),
 sm 5 16 (.ext (tm 11) 1),
 sm 6 4 (.alloc [.nilS, .nilS]),
 se 7 (.st 2 (tm 4) (tm 15)),
 sv 8 5 16])
 (.seq (.seq (.reg [sv 0 17 5,
 sm 1 18 (.bin .neq 38 (tm 17) (.const (.int .i64 0))),
 sv 2 19 18,
 sg 3 20 19 false (.fa 0 (tm 1)),
 sg 4 21 19 false (.ld1 (tm 20)),
 sg 5 22 19 false (.bin .lss 3 (tm 21) (.const (.int .i64 1))),
 sm 6 23 (.pick (tm 19) (.const (.bool true)) (tm 22)),
 sv 7 24 23,
 sg 8 25 24 false (.fa 0 (tm 1)),
 sg 9 26 24 false (.ld1 (tm 25)),
 sg 10 27 24 false (.bin .gtr 3 (tm 26) (.const (.int .i64 40))),
 sm 11 28 (.pick (tm 24) (.const (.bool true)) (tm 27)),
 sv 12 29 28,
 sg 13 30 29 false (.fa 1 (tm 1)),
 sg 14 31 29 false (.fa 2 (tm 30)),
 sg 15 32 29 false (.ld1 (tm 31)),
 sg 16 33 29 false (.fa 0 (tm 1)),
 sg 17 34 29 false (.ld1 (tm 33)),
 sg 18 35 29 false (.bin .gtr 3 (tm 32) (tm 34)),
 sm 19 36 (.pick (tm 29) (.const (.bool true)) (tm 35)),
 sv 20 37 36,
 sg 21 38 37 false (.fa 4 (tm 1)),
 sg 22 39 37 false (.ld1 (tm 38)),
 sg 23 40 37 false (.len (.sl 32) (tm 39)),
 sg 24 41 37 false (.fa 0 (tm 4)),
 sg 25 42 37 false (.ld1 (tm 41)),
 sg 26 43 37 false (.len (.sl 32) (tm 42)),
 sg 27 44 37 false (.bin .neq 3 (tm 40) (tm 43)),
 sm 28 45 (.pick (tm 37) (.const (.bool true)) (tm 44))])
 (.cond (tm 45) (.seq (.reg [sm 0 46 (.bld [.nilS, .nilS] []),
 se 1 (.st 2 (tm 2) (tm 46)),
 sm 2 3 (.mv (.const (.int .i64 8)))])
 .ret) .skip))
 (.seq (.seq (.reg [sm 0 47 (.fa 4 (tm 1)),
 sm 1 48 (.ld1 (tm 47)),
 sm 2 49 (.len (.sl 32) (tm 48)),
 sm 3 50 (.mv (.const (.int .i64 0)))])
 (.block 0 (.loop l115_0)))
 (.seq (.reg [sm 0 86 (.ldA 2 (tm 4)),
 se 1 (.st 2 (tm 2) (tm 86)),
 sm 2 3 (.mv (.const (.int .i64 0)))])
 .ret)))))
def r115 : List Mo := [.ldA 2 (tm 2), .mv (tm 3)]
theorem c115_eq : compF Tryz.prog 115 = some c115 := by kernel_rfl
theorem r115_eq : compRs Tryz.prog 115 = some r115 := by kernel_rfl
def c116 : Cd := (.seq (.reg [sm 0 1 (.box (tm 0)),
 sm 1 2 (.mv (.const (.int .i64 0)))])
 (.seq (.block 0 (.seq (.reg [sm 0 4 (.fa 1 (tm 1)),
 sm 1 5 (.ld1 (tm 4)),
 sm 2 6 (.len (.sl 32) (tm 5)),
 sm 3 7 (.bin .gtr 3 (tm 6) (.const (.int .i64 4))),
 sv 4 3 7])
 (.cond (tm 3) (.seq (.reg [sm 0 2 (.mv (.const (.int .i64 4)))])
 .ret) (.seq (.dreg [sm 0 9 (.fa 1 (tm 1)),
 sm 1 10 (.ld1 (tm 9)),
 sc 2 11 168 [(tm 10), (.func 162)],
 sm 3 12 (.un .not (tm 11)),
 sv 4 13 12,
 sg 5 14 13 false (.fa 1 (tm 1)),
 sg 6 15 13 false (.ld1 (tm 14)),
 sg 10 19 13 false (.fa 1 (tm 1)),
 ⟨11, (some 20), (some ((some 13), false)), .mo (.ld1 (tm 19)), [], true⟩,
 sg 12 21 13 false (.len (.sl 32) (tm 20)),
 ⟨7, (some 16), (some ((some 13), false)), .callF 80 [(tm 15)], [11], false⟩,
 ⟨8, (some 17), (some ((some 13), false)), .callF 138 [(tm 16)], [11], false⟩,
 sg 9 18 13 false (.len (.sl 32) (tm 17)),
 sg 13 22 13 false (.bin .neq 3 (tm 18) (tm 21)),
 sm 14 23 (.pick (tm 13) (.const (.bool true)) (tm 22)),
 sv 15 8 23])
 (.cond (tm 8) (.seq (.reg [sm 0 2 (.mv (.const (.int .i64 32)))])
 .ret) (.seq (.reg [sm 0 25 (.fa 0 (tm 1)),
 sm 1 26 (.ld1 (tm 25)),
 sc 2 27 169 [(tm 26)],
 sm 3 28 (.un .not (tm 27)),
 sv 4 29 28,
 sg 5 30 29 false (.fa 2 (tm 1)),
 sg 6 31 29 false (.ld1 (tm 30)),
 sg 7 32 29 false (.bin .gtr 47 (tm 31) (.const (.int .u64 1000000000000))),
 sm 8 33 (.pick (tm 29) (.const (.bool true)) (tm 32)),
 sv 9 34 33,
 sg 10 35 34 false (.fa 9 (tm 1)),
 sg 11 36 34 false (.fa 0 (tm 35)),
 sg 12 37 34 false (.ld1 (tm 36)),
 sg 13 38 34 false (.fa 9 (tm 1)),
 sg 14 39 34 false (.fa 1 (tm 38)),
 sg 15 40 34 false (.ld1 (tm 39)),
 sg 16 41 34 false (.max (tm 37) (tm 40)),
 sg 17 42 34 false (.bin .geq 46 (tm 41) (.const (.int .u32 500000003))),
 sm 18 43 (.pick (tm 34) (.const (.bool true)) (tm 42)),
 sv 19 24 43])
 (.cond (tm 24) (.seq (.reg [sm 0 2 (.mv (.const (.int .i64 8)))])
 .ret) .skip)))))))
 (.seq (.reg [sm 0 44 (.fa 3 (tm 1)),
 sm 1 45 (.ldA 6 (tm 44)),
 sc 2 46 170 [(tm 45)],
 sv 3 2 46])
 .ret)))
def r116 : List Mo := [.mv (tm 2)]
theorem c116_eq : compF Tryz.prog 116 = some c116 := by kernel_rfl
theorem r116_eq : compRs Tryz.prog 116 = some r116 := by kernel_rfl
def c117 : Cd := (.seq (.reg [sm 0 1 (.box (tm 0)),
 sm 1 2 (.mv (.const (.slice none 0 0))),
 sm 2 3 (.mv (.const (.int .i64 0)))])
 (.seq (.reg [sm 0 12 (.bld [.int .u32 0, .int .u32 0] []),
 sm 1 13 (.fa 9 (tm 1)),
 se 2 (.st 2 (tm 13) (tm 12))])
 (.seq (.seq (.reg [sm 0 14 (.ldA 11 (tm 1)),
 sc 1 15 116 [(tm 14)],
 sv 2 4 15])
 (.seq (.reg [sv 0 16 4,
 sm 1 17 (.bin .neq 38 (tm 16) (.const (.int .i64 0)))])
 (.cond (tm 17) (.seq (.reg [sv 0 18 4,
 sm 1 2 (.mv (.const (.slice none 0 0))),
 sv 2 3 18])
 .ret) .skip)))
 (.seq (.reg [sm 0 20 (.fa 1 (tm 1)),
 sm 1 21 (.ld1 (tm 20)),
 sc 2 22 171 [(tm 21)],
 sv 3 19 22,
 sm 4 23 (.ext (tm 19) 0),
 sm 5 24 (.ext (tm 19) 1),
 sv 6 5 23,
 sv 7 6 24])
 (.seq (.dreg [⟨0, (some 25), none, .mo (.bsl 1 [.int .u8 0] 1 [(0, (.const (.int .u8 111)))]), [], true⟩,
 sm 1 26 (.fa 0 (tm 1)),
 sm 2 27 (.ld1 (tm 26)),
 sm 3 28 (.cint .u64 (tm 27)),
 sv 5 30 5,
 sm 6 31 (.fa 2 (tm 1)),
 ⟨7, (some 32), none, .mo (.ld1 (tm 31)), [], true⟩,
 sm 9 34 (.fa 3 (tm 1)),
 sm 10 35 (.fa 0 (tm 34)),
 ⟨11, (some 36), none, .mo (.ld1 (tm 35)), [], true⟩,
 ⟨12, (some 37), none, .mo (.bsl 1 [.int .u8 0] 1 [(0, (tm 36))]), [], true⟩,
 ⟨4, (some 29), none, .callF 173 [(tm 28)], [12, 11, 7, 0], false⟩,
 ⟨8, (some 33), none, .callF 173 [(tm 32)], [12, 11, 0], false⟩,
 sm 13 38 (.bsl 1 [.nilS] 5 [(0, (tm 25)), (1, (tm 29)), (2, (tm 30)), (3, (tm 33)), (4, (tm 37))]),
 sc 14 39 172 [(tm 38)],
 sv 15 7 39])
 (.seq (.seq (.reg [sm 0 40 (.fa 3 (tm 1)),
 sm 1 41 (.fa 0 (tm 40)),
 sm 2 42 (.ld1 (tm 41)),
 sm 3 43 (.bin .eql 5 (tm 42) (.const (.int .u8 1)))])
 (.cond (tm 43) (.seq (.reg [sv 0 44 7,
 sv 1 2 44,
 sm 2 3 (.mv (.const (.int .i64 0)))])
 .ret) .skip))
 (.seq (.reg [sm 0 46 (.fa 3 (tm 1)),
 sm 1 47 (.fa 1 (tm 46)),
 sm 2 48 (.ld1 (tm 47)),
 sm 3 49 (.csb (tm 48)),
 sc 4 50 174 [(tm 49)],
 sv 5 45 50,
 sm 6 51 (.ext (tm 45) 0),
 sm 7 52 (.ext (tm 45) 1),
 sv 8 8 51,
 sv 9 9 52])
 (.seq (.reg [sv 0 53 7,
 sv 1 54 8,
 sm 2 55 (.app 1 1 (tm 53) (tm 54)),
 sv 3 7 55])
 (.seq (.seq (.reg [sm 0 56 (.fa 3 (tm 1)),
 sm 1 57 (.fa 0 (tm 56)),
 sm 2 58 (.ld1 (tm 57)),
 sm 3 59 (.bin .eql 5 (tm 58) (.const (.int .u8 4)))])
 (.cond (tm 59) (.seq (.reg [sm 0 61 (.fa 3 (tm 1)),
 sm 1 62 (.fa 2 (tm 61)),
 sm 2 63 (.ldA 4 (tm 62)),
 sc 3 64 175 [(tm 63)],
 sv 4 60 64,
 sm 5 65 (.ext (tm 60) 0),
 sm 6 66 (.ext (tm 60) 1),
 sv 7 10 65,
 sv 8 11 66])
 (.reg [sv 0 67 7,
 sv 1 68 10,
 sm 2 69 (.app 1 1 (tm 67) (tm 68)),
 sv 3 7 69])) .skip))
 (.seq (.reg [sv 0 70 7,
 sv 1 2 70,
 sm 2 3 (.mv (.const (.int .i64 0)))])
 .ret))))))))))
def r117 : List Mo := [.mv (tm 2), .mv (tm 3)]
theorem c117_eq : compF Tryz.prog 117 = some c117 := by kernel_rfl
theorem r117_eq : compRs Tryz.prog 117 = some r117 := by kernel_rfl
def c118 : Cd := (.seq (.reg [sm 0 5 (.box (tm 2)),
 sm 1 6 (.mv (.const (.int .i64 0)))])
 (.seq (.seq (.reg [sv 0 13 0,
 sc 1 14 169 [(tm 13)],
 sm 2 15 (.un .not (tm 14))])
 (.cond (tm 15) (.seq (.reg [sm 0 6 (.mv (.const (.int .i64 2)))])
 .ret) .skip))
 (.seq (.seq (.reg [sv 0 16 1,
 sm 1 17 (.len (.sl 1) (tm 16)),
 sm 2 18 (.bin .gtr 3 (tm 17) (.const (.int .i64 9991)))])
 (.cond (tm 18) (.seq (.reg [sm 0 6 (.mv (.const (.int .i64 4)))])
 .ret) .skip))
 (.seq (.seq (.reg [sm 0 19 (.fa 0 (tm 5)),
 sm 1 20 (.ld1 (tm 19)),
 sm 2 21 (.fa 1 (tm 5)),
 sm 3 22 (.ld1 (tm 21)),
 sm 4 23 (.max (tm 20) (tm 22)),
 sm 5 24 (.bin .geq 46 (tm 23) (.const (.int .u32 500000003)))])
 (.cond (tm 24) (.seq (.reg [sm 0 6 (.mv (.const (.int .i64 22)))])
 .ret) .skip))
 (.seq (.reg [sv 0 26 0,
 sm 1 27 (.fa 0 (tm 5)),
 sm 2 28 (.ld1 (tm 27)),
 sm 3 29 (.cint .u64 (tm 28)),
 sm 4 30 (.bin .sub 47 (.const (.int .u64 500000003)) (tm 29)),
 sc 5 31 176 [(tm 26), (tm 30)],
 sv 6 25 31,
 sm 7 32 (.ext (tm 25) 0),
 sm 8 33 (.ext (tm 25) 1),
 sv 9 7 32,
 sv 10 8 33])
 (.seq (.reg [sm 0 35 (.fa 1 (tm 5)),
 sm 1 36 (.ld1 (tm 35)),
 sm 2 37 (.cint .u64 (tm 36)),
 sc 3 38 178 [(tm 37)],
 sv 4 39 7,
 sc 5 40 177 [(tm 38), (tm 39)],
 sv 6 34 40,
 sm 7 41 (.ext (tm 34) 0),
 sm 8 42 (.ext (tm 34) 1),
 sv 9 9 41,
 sv 10 10 42])
 (.seq (.seq (.reg [sv 0 44 9,
 sv 1 45 0,
 sv 2 46 1,
 sc 3 47 179 [(tm 44), (tm 45), (tm 46)],
 sv 4 43 47,
 sm 5 48 (.ext (tm 43) 0),
 sm 6 49 (.ext (tm 43) 1),
 sv 7 11 48,
 sv 8 12 49])
 (.seq (.reg [sv 0 50 12,
 sm 1 51 (.bin .neq 38 (tm 50) (.const (.int .i64 0))),
 sv 2 52 51,
 sg 3 53 52 false (.mv (tm 11)),
 sg 4 54 52 false (.fa 0 (tm 5)),
 sg 5 55 52 false (.ld1 (tm 54)),
 sg 6 56 52 false (.bin .neq 46 (tm 53) (tm 55)),
 sm 7 57 (.pick (tm 52) (.const (.bool true)) (tm 56))])
 (.cond (tm 57) (.seq (.reg [sm 0 6 (.mv (.const (.int .i64 22)))])
 .ret) .skip)))
 (.seq (.reg [sm 0 6 (.mv (.const (.int .i64 0)))])
 .ret))))))))
def r118 : List Mo := [.mv (tm 6)]
theorem c118_eq : compF Tryz.prog 118 = some c118 := by kernel_rfl
theorem r118_eq : compRs Tryz.prog 118 = some r118 := by kernel_rfl
def l119_0 : Cd := (.seq (.reg [sm 0 9 (.bin .lss 3 (tm 8) (tm 7))])
 (.seq (.cond (tm 9) .skip (.exit 0))
 (.seq (.block 1 (.seq (.reg [sv 0 10 8,
 sv 1 5 10])
 (.seq (.reg [sm 0 11 (.ldA 32 (tm 3)),
 sv 1 12 0,
 sv 2 13 5,
 sm 3 14 (.ia (.sl 32) (tm 12) (tm 13)),
 sm 4 15 (.ldA 32 (tm 14)),
 sm 5 16 (.bin .eql 57 (tm 11) (tm 15))])
 (.cond (tm 16) (.seq (.reg [sv 0 17 5,
 sv 1 4 17])
 .ret) .skip))))
 (.reg [sm 0 18 (.bin .add 3 (tm 8) (.const (.int .i64 1))),
 sv 1 8 18]))))
def c119 : Cd := (.seq (.reg [sm 0 3 (.box (tm 1)),
 sm 1 4 (.mv (.const (.int .i64 0)))])
 (.seq (.seq (.reg [sv 0 6 0,
 sm 1 7 (.len (.sl 32) (tm 6)),
 sm 2 8 (.mv (.const (.int .i64 0)))])
 (.block 0 (.loop l119_0)))
 (.seq (.reg [sm 0 4 (.mv (.const (.int .i64 (-1))))])
 .ret)))
def r119 : List Mo := [.mv (tm 4)]
theorem c119_eq : compF Tryz.prog 119 = some c119 := by kernel_rfl
theorem r119_eq : compRs Tryz.prog 119 = some r119 := by kernel_rfl
def c120 : Cd := (.seq (.reg [sm 0 1 (.box (tm 0)),
 sm 1 2 (.mv (.const (.int .i64 0)))])
 (.seq (.seq (.reg [sm 0 3 (.fa 1 (tm 1)),
 sm 1 4 (.ld1 (tm 3)),
 sm 2 5 (.len (.sl 32) (tm 4)),
 sm 3 6 (.bin .gtr 3 (tm 5) (.const (.int .i64 4)))])
 (.cond (tm 6) (.seq (.reg [sm 0 2 (.mv (.const (.int .i64 4)))])
 .ret) .skip))
 (.seq (.seq (.reg [sm 0 7 (.fa 1 (tm 1)),
 sm 1 8 (.ld1 (tm 7)),
 sc 2 9 124 [(tm 8)],
 sm 3 10 (.un .not (tm 9))])
 (.cond (tm 10) (.seq (.reg [sm 0 2 (.mv (.const (.int .i64 32)))])
 .ret) .skip))
 (.seq (.seq (.reg [sm 0 11 (.fa 0 (tm 1)),
 sm 1 12 (.ld1 (tm 11)),
 sc 2 13 180 [(tm 12)],
 sm 3 14 (.un .not (tm 13)),
 sv 4 15 14,
 sg 5 16 15 false (.fa 2 (tm 1)),
 sg 6 17 15 false (.ld1 (tm 16)),
 sg 7 18 15 false (.bin .gtr 47 (tm 17) (.const (.int .u64 1000000000000))),
 sm 8 19 (.pick (tm 15) (.const (.bool true)) (tm 18)),
 sv 9 20 19,
 sg 10 21 20 false (.fa 3 (tm 1)),
 sg 11 22 20 false (.ldA 6 (tm 21)),
 ⟨12, (some 23), (some ((some 20), false)), .callF 181 [(tm 22)], [], false⟩,
 sg 13 24 20 false (.bin .neq 3 (tm 23) (.const (.int .i64 0))),
 sm 14 25 (.pick (tm 20) (.const (.bool true)) (tm 24)),
 sv 15 26 25,
 sg 16 27 26 false (.fa 9 (tm 1)),
 sg 17 28 26 false (.fa 0 (tm 27)),
 sg 18 29 26 false (.ld1 (tm 28)),
 ⟨19, (some 30), (some ((some 26), false)), .callF 182 [(tm 29)], [], false⟩,
 sg 20 31 26 false (.un .not (tm 30)),
 sm 21 32 (.pick (tm 26) (.const (.bool true)) (tm 31)),
 sv 22 33 32,
 sg 23 34 33 false (.fa 9 (tm 1)),
 sg 24 35 33 false (.fa 1 (tm 34)),
 sg 25 36 33 false (.ld1 (tm 35)),
 ⟨26, (some 37), (some ((some 33), false)), .callF 182 [(tm 36)], [], false⟩,
 sg 27 38 33 false (.un .not (tm 37)),
 sm 28 39 (.pick (tm 33) (.const (.bool true)) (tm 38))])
 (.cond (tm 39) (.seq (.reg [sm 0 2 (.mv (.const (.int .i64 8)))])
 .ret) .skip))
 (.seq (.reg [sm 0 2 (.mv (.const (.int .i64 0)))])
 .ret)))))
def r120 : List Mo := [.mv (tm 2)]
theorem c120_eq : compF Tryz.prog 120 = some c120 := by kernel_rfl
theorem r120_eq : compRs Tryz.prog 120 = some r120 := by kernel_rfl
def c122 : Cd := (.seq (.reg [sm 0 2 (.alloc (rep 32 (.int .u8 0)))])
 (.seq (.reg [sc 0 3 186 [],
 sm 1 4 (.bsl 1 [.int .u8 0] 0 []),
 sv 2 5 0,
 sm 3 6 (.app 1 1 (tm 4) (tm 5)),
 sv 4 7 0,
 sm 5 8 (.len (.sl 1) (tm 7)),
 sc 6 9 187 [(tm 8)],
 sm 7 10 (.app 1 1 (tm 6) (tm 9)),
 sc 8 11 185 [(tm 3), (tm 10)],
 sc 9 12 184 [(tm 11)],
 se 10 (.st 32 (tm 2) (tm 12))])
 .ret))
def r122 : List Mo := [.ldA 32 (tm 2)]
theorem c122_eq : compF Tryz.prog 122 = some c122 := by kernel_rfl
theorem r122_eq : compRs Tryz.prog 122 = some r122 := by kernel_rfl
def c123 : Cd := (.seq (.reg [sm 0 1 (.box (tm 0)),
 sm 1 2 (.mv (.const (.slice none 0 0)))])
 (.seq (.dreg [sm 0 3 (.ldA 11 (tm 1)),
 sm 2 5 (.fa 9 (tm 1)),
 sm 3 6 (.fa 0 (tm 5)),
 ⟨4, (some 7), none, .mo (.ld1 (tm 6)), [], true⟩,
 ⟨5, (some 8), none, .mo (.cint .u64 (tm 7)), [], true⟩,
 sm 8 11 (.fa 9 (tm 1)),
 sm 9 12 (.fa 1 (tm 11)),
 ⟨10, (some 13), none, .mo (.ld1 (tm 12)), [], true⟩,
 ⟨11, (some 14), none, .mo (.cint .u64 (tm 13)), [], true⟩,
 ⟨1, (some 4), none, .callF 134 [(tm 3)], [11, 10, 5, 4], false⟩,
 ⟨6, (some 9), none, .callF 188 [(tm 8)], [11, 10], false⟩,
 ⟨7, (some 10), none, .mo (.app 1 1 (tm 4) (tm 9)), [11, 10], false⟩,
 sc 12 15 188 [(tm 14)],
 sm 13 16 (.app 1 1 (tm 10) (tm 15)),
 sv 14 2 16])
 .ret))
def r123 : List Mo := [.mv (tm 2)]
theorem c123_eq : compF Tryz.prog 123 = some c123 := by kernel_rfl
theorem r123_eq : compRs Tryz.prog 123 = some r123 := by kernel_rfl
def l124_0 : Cd := (.seq (.seq (.reg [sv 0 4 3,
 sv 1 5 0,
 sm 2 6 (.len (.sl 32) (tm 5)),
 sm 3 7 (.bin .lss 3 (tm 4) (tm 6))])
 (.cond (tm 7) .skip (.exit 0)))
 (.seq (.block 1 (.seq (.reg [sv 0 10 0,
 sv 1 11 3,
 sm 2 12 (.bin .sub 3 (tm 11) (.const (.int .i64 1))),
 sm 3 13 (.ia (.sl 32) (tm 10) (tm 12)),
 sm 4 14 (.ldA 32 (tm 13)),
 sv 5 15 0,
 sv 6 16 3,
 sm 7 17 (.ia (.sl 32) (tm 15) (tm 16)),
 sm 8 18 (.ldA 32 (tm 17)),
 sc 9 19 189 [(tm 14), (tm 18)],
 sm 10 20 (.bin .geq 3 (tm 19) (.const (.int .i64 0)))])
 (.cond (tm 20) (.seq (.reg [sm 0 2 (.mv (.const (.bool false)))])
 .ret) .skip)))
 (.reg [sv 0 8 3,
 sm 1 9 (.bin .add 3 (tm 8) (.const (.int .i64 1))),
 sv 2 3 9])))
def c124 : Cd := (.seq (.reg [sm 0 2 (.mv (.const (.bool false)))])
 (.seq (.seq (.reg [sm 0 3 (.mv (.const (.int .i64 1)))])
 (.block 0 (.loop l124_0)))
 (.seq (.reg [sm 0 2 (.mv (.const (.bool true)))])
 .ret)))
def r124 : List Mo := [.mv (tm 2)]
theorem c124_eq : compF Tryz.prog 124 = some c124 := by kernel_rfl
theorem r124_eq : compRs Tryz.prog 124 = some r124 := by kernel_rfl
def l128_0 : Cd := (.seq (.seq (.reg [sv 0 10 4,
 sm 1 11 (.fa 1 (tm 1)),
 sm 2 12 (.ld1 (tm 11)),
 sm 3 13 (.len (.sl 11) (tm 12)),
 sm 4 14 (.bin .lss 3 (tm 10) (tm 13))])
 (.cond (tm 14) .skip (.exit 0)))
 (.seq (.block 1 (.dreg [sm 0 17 (.fa 1 (tm 3)),
 ⟨1, (some 18), none, .mo (.ld1 (tm 17)), [], true⟩,
 sm 2 19 (.fa 1 (tm 1)),
 sm 3 20 (.ld1 (tm 19)),
 sv 4 21 4,
 sm 5 22 (.ia (.sl 11) (tm 20) (tm 21)),
 sm 6 23 (.ldA 11 (tm 22)),
 ⟨7, (some 24), none, .callF 130 [(tm 23)], [1], false⟩,
 sm 8 25 (.bsl 11 [.int .u32 0, .nilS, .int .u64 0, .int .u8 0, .str [], .int .u8 0, .int .i64 0, .int .u64 0, .str [], .int .u32 0, .int .u32 0] 1 [(0, (tm 24))]),
 sm 9 26 (.app 11 112 (tm 18) (tm 25)),
 sm 10 27 (.fa 1 (tm 3)),
 se 11 (.st 1 (tm 27) (tm 26))]))
 (.reg [sv 0 15 4,
 sm 1 16 (.bin .add 3 (tm 15) (.const (.int .i64 1))),
 sv 2 4 16])))
def c128 : Cd := (.seq (.reg [sm 0 1 (.box (tm 0)),
 sm 1 2 (.alloc [.nilS, .nilS])])
 (.seq (.reg [sm 0 5 (.bsl 32 (rep 32 (.int .u8 0)) 0 []),
 sm 1 6 (.fa 0 (tm 1)),
 sm 2 7 (.ld1 (tm 6)),
 sm 3 8 (.app 32 32 (tm 5) (tm 7)),
 sm 4 9 (.bld [.nilS, .nilS] [(0, 1, (tm 8))]),
 sm 5 3 (.alloc [.nilS, .nilS]),
 se 6 (.st 2 (tm 3) (tm 9))])
 (.seq (.seq (.reg [sm 0 4 (.mv (.const (.int .i64 0)))])
 (.block 0 (.loop l128_0)))
 (.seq (.reg [sm 0 28 (.ldA 2 (tm 3)),
 se 1 (.st 2 (tm 2) (tm 28))])
 .ret))))
def r128 : List Mo := [.ldA 2 (tm 2)]
theorem c128_eq : compF Tryz.prog 128 = some c128 := by kernel_rfl
theorem r128_eq : compRs Tryz.prog 128 = some r128 := by kernel_rfl
def c129 : Cd := (.seq (.reg [sm 0 2 (.mv (.const (.int .i64 0)))])
 (.seq (.seq (.reg [sv 0 3 0,
 sm 1 4 (.bin .eql 46 (tm 3) (.const (.int .u32 0))),
 sv 2 5 4,
 sg 3 6 5 false (.mv (tm 0)),
 sg 4 7 5 false (.cint .u64 (tm 6)),
 sg 5 8 5 false (.bin .geq 47 (tm 7) (.const (.int .u64 500000003))),
 sm 6 9 (.pick (tm 5) (.const (.bool true)) (tm 8))])
 (.cond (tm 9) (.seq (.reg [sm 0 2 (.mv (.const (.int .i64 2)))])
 .ret) .skip))
 (.seq (.reg [sm 0 2 (.mv (.const (.int .i64 0)))])
 .ret)))
def r129 : List Mo := [.mv (tm 2)]
theorem c129_eq : compF Tryz.prog 129 = some c129 := by kernel_rfl
theorem r129_eq : compRs Tryz.prog 129 = some r129 := by kernel_rfl
def c130 : Cd := (.seq (.reg [sm 0 1 (.box (tm 0)),
 sm 1 2 (.alloc [.int .u32 0, .nilS, .int .u64 0, .int .u8 0, .str [], .int .u8 0, .int .i64 0, .int .u64 0, .str [], .int .u32 0, .int .u32 0])])
 (.seq (.reg [sm 0 3 (.bsl 32 (rep 32 (.int .u8 0)) 0 []),
 sm 1 4 (.fa 1 (tm 1)),
 sm 2 5 (.ld1 (tm 4)),
 sm 3 6 (.app 32 32 (tm 3) (tm 5)),
 sm 4 7 (.fa 1 (tm 1)),
 se 5 (.st 1 (tm 7) (tm 6))])
 (.seq (.reg [sm 0 8 (.ldA 11 (tm 1)),
 se 1 (.st 11 (tm 2) (tm 8))])
 .ret)))
def r130 : List Mo := [.ldA 11 (tm 2)]
theorem c130_eq : compF Tryz.prog 130 = some c130 := by kernel_rfl
theorem r130_eq : compRs Tryz.prog 130 = some r130 := by kernel_rfl
def c131 : Cd := (.seq (.reg [sm 0 1 (.box (tm 0)),
 sm 1 2 (.alloc [.int .u32 0, .nilS, .int .u64 0, .int .u8 0, .str [], .int .u8 0, .int .i64 0, .int .u64 0, .str [], .int .u32 0, .int .u32 0])])
 (.seq (.reg [sm 0 3 (.bld [.int .u32 0, .int .u32 0] []),
 sm 1 4 (.fa 9 (tm 1)),
 se 2 (.st 2 (tm 4) (tm 3))])
 (.seq (.reg [sm 0 5 (.ldA 11 (tm 1)),
 se 1 (.st 11 (tm 2) (tm 5))])
 .ret)))
def r131 : List Mo := [.ldA 11 (tm 2)]
theorem c131_eq : compF Tryz.prog 131 = some c131 := by kernel_rfl
theorem r131_eq : compRs Tryz.prog 131 = some r131 := by kernel_rfl
def c132 : Cd := (.seq (.reg [sm 0 2 (.mv (.const (.int .u32 0)))])
 (.seq (.reg [sv 0 3 0,
 sm 1 4 (.cint .u64 (tm 3)),
 sc 2 5 192 [(tm 4)],
 sv 3 2 5])
 .ret))
def r132 : List Mo := [.mv (tm 2)]
theorem c132_eq : compF Tryz.prog 132 = some c132 := by kernel_rfl
theorem r132_eq : compRs Tryz.prog 132 = some r132 := by kernel_rfl
def c133 : Cd := (.seq (.reg [sm 0 4 (.alloc [.int .u32 0, .int .u32 0])])
 (.seq (.reg [sv 0 7 0,
 sv 1 8 1,
 sc 2 9 193 [(tm 7), (tm 8)],
 sv 3 5 9])
 (.seq (.reg [sv 0 10 5,
 sc 1 11 132 [(tm 10)],
 sv 2 12 0,
 sc 3 13 132 [(tm 12)],
 sv 4 14 1,
 sc 5 15 194 [(tm 11), (tm 13), (tm 14)],
 sv 6 6 15])
 (.seq (.reg [sv 0 16 6,
 sv 1 17 5,
 sv 2 18 6,
 sv 3 19 0,
 sc 4 20 196 [(tm 18), (tm 19)],
 sc 5 21 195 [(tm 17), (tm 20)],
 sm 6 22 (.bld [.int .u32 0, .int .u32 0] [(0, 1, (tm 16)), (1, 1, (tm 21))]),
 se 7 (.st 2 (tm 4) (tm 22))])
 .ret))))
def r133 : List Mo := [.ldA 2 (tm 4)]
theorem c133_eq : compF Tryz.prog 133 = some c133 := by kernel_rfl
theorem r133_eq : compRs Tryz.prog 133 = some r133 := by kernel_rfl
def c134 : Cd := (.seq (.reg [sm 0 1 (.box (tm 0)),
 sm 1 2 (.mv (.const (.slice none 0 0)))])
 (.seq (.reg [sm 0 4 (.bsl 1 [.int .u8 0] 1 [(0, (.const (.int .u8 111)))]),
 sm 1 5 (.fa 0 (tm 1)),
 sm 2 6 (.ld1 (tm 5)),
 sm 3 7 (.cint .u64 (tm 6)),
 sc 4 8 188 [(tm 7)],
 sm 5 9 (.app 1 1 (tm 4) (tm 8)),
 sv 6 3 9])
 (.seq (.dreg [sv 0 10 3,
 sm 1 11 (.fa 1 (tm 1)),
 sm 2 12 (.ld1 (tm 11)),
 sm 5 15 (.fa 2 (tm 1)),
 ⟨6, (some 16), none, .mo (.ld1 (tm 15)), [], true⟩,
 ⟨3, (some 13), none, .callF 197 [(tm 12)], [6], false⟩,
 ⟨4, (some 14), none, .mo (.app 1 1 (tm 10) (tm 13)), [6], false⟩,
 sc 7 17 188 [(tm 16)],
 sm 8 18 (.app 1 1 (tm 14) (tm 17)),
 sv 9 3 18])
 (.seq (.reg [sv 0 19 3,
 sm 1 20 (.fa 3 (tm 1)),
 sm 2 21 (.fa 0 (tm 20)),
 sm 3 22 (.ld1 (tm 21)),
 sm 4 23 (.bsl 1 [.int .u8 0] 1 [(0, (tm 22))]),
 sm 5 24 (.app 1 1 (tm 19) (tm 23)),
 sv 6 3 24])
 (.seq (.seq (.reg [sm 0 25 (.fa 3 (tm 1)),
 sm 1 26 (.fa 0 (tm 25)),
 sm 2 27 (.ld1 (tm 26)),
 sm 3 28 (.bin .neq 5 (tm 27) (.const (.int .u8 1)))])
 (.cond (tm 28) (.reg [sv 0 29 3,
 sm 1 30 (.fa 3 (tm 1)),
 sm 2 31 (.fa 1 (tm 30)),
 sm 3 32 (.ld1 (tm 31)),
 sm 4 33 (.csb (tm 32)),
 sc 5 34 198 [(tm 33)],
 sm 6 35 (.app 1 1 (tm 29) (tm 34)),
 sv 7 3 35]) .skip))
 (.seq (.seq (.reg [sm 0 36 (.fa 3 (tm 1)),
 sm 1 37 (.fa 0 (tm 36)),
 sm 2 38 (.ld1 (tm 37)),
 sm 3 39 (.bin .eql 5 (tm 38) (.const (.int .u8 4)))])
 (.cond (tm 39) (.reg [sv 0 40 3,
 sm 1 41 (.fa 3 (tm 1)),
 sm 2 42 (.fa 2 (tm 41)),
 sm 3 43 (.ldA 4 (tm 42)),
 sc 4 44 199 [(tm 43)],
 sm 5 45 (.app 1 1 (tm 40) (tm 44)),
 sv 6 3 45]) .skip))
 (.seq (.reg [sv 0 46 3,
 sv 1 2 46])
 .ret)))))))
def r134 : List Mo := [.mv (tm 2)]
theorem c134_eq : compF Tryz.prog 134 = some c134 := by kernel_rfl
theorem r134_eq : compRs Tryz.prog 134 = some r134 := by kernel_rfl
def c135 : Cd := (.seq (.reg [sm 0 1 (.box (tm 0)),
 sm 1 2 (.alloc [.int .u32 0, .nilS, .int .u64 0, .int .u8 0, .str [], .int .u8 0, .int .i64 0, .int .u64 0, .str [], .int .u32 0, .int .u32 0])])
 (.seq (.reg [sm 0 3 (.bsl 32 (rep 32 (.int .u8 0)) 0 []),
 sm 1 4 (.fa 1 (tm 1)),
 sm 2 5 (.ld1 (tm 4)),
 sm 3 6 (.app 32 32 (tm 3) (tm 5)),
 sm 4 7 (.fa 1 (tm 1)),
 se 5 (.st 1 (tm 7) (tm 6))])
 (.seq (.reg [sm 0 8 (.ldA 11 (tm 1)),
 se 1 (.st 11 (tm 2) (tm 8))])
 .ret)))
def r135 : List Mo := [.ldA 11 (tm 2)]
theorem c135_eq : compF Tryz.prog 135 = some c135 := by kernel_rfl
theorem r135_eq : compRs Tryz.prog 135 = some r135 := by kernel_rfl
def c136 : Cd := (.seq (.reg [sv 0 5 0,
 sm 1 6 (.len (.sl 32) (tm 5)),
 sv 2 4 6])
 (.reg [sv 0 7 0,
 sv 1 8 4,
 sv 2 9 4,
 sm 3 10 (.cint .u64 (tm 9)),
 sc 4 11 201 [(tm 10)],
 sv 5 12 1,
 sc 6 13 200 [(tm 7), (.const (.int .i64 0)), (tm 8), (tm 11), (tm 12)]]))
def r136 : List Mo := []
theorem c136_eq : compF Tryz.prog 136 = some c136 := by kernel_rfl
theorem r136_eq : compRs Tryz.prog 136 = some r136 := by kernel_rfl
def l138_0 : Cd := (.seq (.seq (.reg [sv 0 29 5,
 sv 1 30 4,
 sm 2 31 (.len (.sl 32) (tm 30)),
 sm 3 32 (.bin .lss 3 (tm 29) (tm 31))])
 (.cond (tm 32) .skip (.exit 2)))
 (.seq (.block 3 (.seq (.reg [sv 0 35 4,
 sv 1 36 5,
 sm 2 37 (.ia (.sl 32) (tm 35) (tm 36)),
 sm 3 38 (.ldA 32 (tm 37)),
 sv 4 39 4,
 sv 5 40 5,
 sm 6 41 (.bin .sub 3 (tm 40) (.const (.int .i64 1))),
 sm 7 42 (.ia (.sl 32) (tm 39) (tm 41)),
 sm 8 43 (.ldA 32 (tm 42)),
 sm 9 44 (.bin .neq 57 (tm 38) (tm 43))])
 (.cond (tm 44) (.seq (.reg [sv 0 45 0,
 sv 1 46 3,
 sv 2 47 4,
 sv 3 48 5,
 sm 4 49 (.ia (.sl 32) (tm 47) (tm 48)),
 sm 5 50 (.ldA 32 (tm 49)),
 sm 6 51 (.ia (.sl 32) (tm 45) (tm 46)),
 se 7 (.st 32 (tm 51) (tm 50))])
 (.reg [sv 0 52 3,
 sm 1 53 (.bin .add 3 (tm 52) (.const (.int .i64 1))),
 sv 2 3 53])) .skip)))
 (.reg [sv 0 33 5,
 sm 1 34 (.bin .add 3 (tm 33) (.const (.int .i64 1))),
 sv 2 5 34])))
def l138_1 : Cd := (.seq (.seq (.reg [sv 0 10 3,
 sv 1 11 0,
 sm 2 12 (.len (.sl 32) (tm 11)),
 sm 3 13 (.bin .lss 3 (tm 10) (tm 12))])
 (.cond (tm 13) .skip (.exit 0)))
 (.seq (.block 1 (.seq (.reg [sv 0 16 0,
 sv 1 17 3,
 sm 2 18 (.ia (.sl 32) (tm 16) (tm 17)),
 sm 3 19 (.ldA 32 (tm 18)),
 sv 4 20 0,
 sv 5 21 3,
 sm 6 22 (.bin .sub 3 (tm 21) (.const (.int .i64 1))),
 sm 7 23 (.ia (.sl 32) (tm 20) (tm 22)),
 sm 8 24 (.ldA 32 (tm 23)),
 sm 9 25 (.bin .eql 57 (tm 19) (tm 24))])
 (.cond (tm 25) (.seq (.reg [sv 0 26 0,
 sv 1 27 3,
 sm 2 28 (.slice (.sl 32) (tm 26) (some (tm 27)) none none),
 sv 3 4 28])
 (.seq (.seq (.reg [sm 0 5 (.mv (.const (.int .i64 1)))])
 (.block 2 (.loop l138_0)))
 (.seq (.reg [sv 0 54 0,
 sv 1 55 3,
 sm 2 56 (.slice (.sl 32) (tm 54) (some (tm 55)) none none),
 se 3 (.clr (rep 32 (.int .u8 0)) (tm 56))])
 (.seq (.reg [sv 0 57 0,
 sv 1 58 3,
 sm 2 59 (.slice (.sl 32) (tm 57) none (some (tm 58)) none),
 sv 3 2 59])
 .ret)))) .skip)))
 (.reg [sv 0 14 3,
 sm 1 15 (.bin .add 3 (tm 14) (.const (.int .i64 1))),
 sv 2 3 15])))
def c138 : Cd := (.seq (.reg [sm 0 2 (.mv (.const (.slice none 0 0)))])
 (.seq (.seq (.reg [sv 0 6 0,
 sm 1 7 (.len (.sl 32) (tm 6)),
 sm 2 8 (.bin .lss 3 (tm 7) (.const (.int .i64 2)))])
 (.cond (tm 8) (.seq (.reg [sv 0 9 0,
 sv 1 2 9])
 .ret) .skip))
 (.seq (.seq (.reg [sm 0 3 (.mv (.const (.int .i64 1)))])
 (.block 0 (.loop l138_1)))
 (.seq (.reg [sv 0 60 0,
 sv 1 2 60])
 .ret))))
def r138 : List Mo := [.mv (tm 2)]
theorem c138_eq : compF Tryz.prog 138 = some c138 := by kernel_rfl
theorem r138_eq : compRs Tryz.prog 138 = some r138 := by kernel_rfl
def l139_0 : Cd := (.seq (.reg [sm 0 9 (.bin .lss 3 (tm 8) (tm 7))])
 (.seq (.cond (tm 9) .skip (.exit 0))
 (.seq (.block 1 (.seq (.reg [sv 0 10 8,
 sv 1 5 10])
 (.seq (.reg [sv 0 11 1,
 sv 1 12 0,
 sv 2 13 5,
 sm 3 14 (.ia (.sl 32) (tm 12) (tm 13)),
 sm 4 15 (.ldA 32 (tm 14)),
 ⟨5, (some 16), none, .callV (tm 11) [(tm 15)], [], false⟩])
 (.cond (tm 16) (.seq (.reg [sv 0 17 5,
 sv 1 4 17])
 .ret) .skip))))
 (.reg [sm 0 18 (.bin .add 3 (tm 8) (.const (.int .i64 1))),
 sv 1 8 18]))))
def c139 : Cd := (.seq (.reg [sm 0 4 (.mv (.const (.int .i64 0)))])
 (.seq (.seq (.reg [sv 0 6 0,
 sm 1 7 (.len (.sl 32) (tm 6)),
 sm 2 8 (.mv (.const (.int .i64 0)))])
 (.block 0 (.loop l139_0)))
 (.seq (.reg [sm 0 4 (.mv (.const (.int .i64 (-1))))])
 .ret)))
def r139 : List Mo := [.mv (tm 4)]
theorem c139_eq : compF Tryz.prog 139 = some c139 := by kernel_rfl
theorem r139_eq : compRs Tryz.prog 139 = some r139 := by kernel_rfl
def l140_0 : Cd := (.seq (.seq (.reg [sv 0 16 6,
 sv 1 17 0,
 sm 2 18 (.len (.sl 32) (tm 17)),
 sm 3 19 (.bin .lss 3 (tm 16) (tm 18))])
 (.cond (tm 19) .skip (.exit 0)))
 (.seq (.block 1 (.seq (.reg [sv 0 22 0,
 sv 1 23 6,
 sm 2 24 (.ia (.sl 32) (tm 22) (tm 23)),
 sm 3 25 (.ldA 32 (tm 24)),
 sm 4 7 (.alloc (rep 32 (.int .u8 0))),
 se 5 (.st 32 (tm 7) (tm 25))])
 (.seq (.reg [sv 0 26 1,
 sm 1 27 (.ldA 32 (tm 7)),
 ⟨2, (some 28), none, .callV (tm 26) [(tm 27)], [], false⟩,
 sm 3 29 (.un .not (tm 28))])
 (.cond (tm 29) (.seq (.reg [sv 0 30 0,
 sv 1 31 5,
 sm 2 32 (.ldA 32 (tm 7)),
 sm 3 33 (.ia (.sl 32) (tm 30) (tm 31)),
 se 4 (.st 32 (tm 33) (tm 32))])
 (.reg [sv 0 34 5,
 sm 1 35 (.bin .add 3 (tm 34) (.const (.int .i64 1))),
 sv 2 5 35])) .skip))))
 (.reg [sv 0 20 6,
 sm 1 21 (.bin .add 3 (tm 20) (.const (.int .i64 1))),
 sv 2 6 21])))
def c140 : Cd := (.seq (.reg [sm 0 4 (.mv (.const (.slice none 0 0)))])
 (.seq (.reg [sv 0 8 0,
 sv 1 9 1,
 sc 2 10 139 [(tm 8), (tm 9)],
 sv 3 5 10])
 (.seq (.seq (.reg [sv 0 11 5,
 sm 1 12 (.bin .eql 3 (tm 11) (.const (.int .i64 (-1))))])
 (.cond (tm 12) (.seq (.reg [sv 0 13 0,
 sv 1 4 13])
 .ret) .skip))
 (.seq (.seq (.reg [sv 0 14 5,
 sm 1 15 (.bin .add 3 (tm 14) (.const (.int .i64 1))),
 sv 2 6 15])
 (.block 0 (.loop l140_0)))
 (.seq (.reg [sv 0 36 0,
 sv 1 37 5,
 sm 2 38 (.slice (.sl 32) (tm 36) (some (tm 37)) none none),
 se 3 (.clr (rep 32 (.int .u8 0)) (tm 38))])
 (.seq (.reg [sv 0 39 0,
 sv 1 40 5,
 sm 2 41 (.slice (.sl 32) (tm 39) none (some (tm 40)) none),
 sv 3 4 41])
 .ret))))))
def r140 : List Mo := [.mv (tm 4)]
theorem c140_eq : compF Tryz.prog 140 = some c140 := by kernel_rfl
theorem r140_eq : compRs Tryz.prog 140 = some r140 := by kernel_rfl
def c141 : Cd := (.seq (.reg [sm 0 2 (.box (tm 0)),
 sm 1 3 (.mv (.const (.bool false)))])
 (.seq (.reg [sm 0 4 (.ldA 32 (tm 2)),
 sm 1 5 (.ldA 32 (tm 1)),
 sm 2 6 (.bin .eql 57 (tm 4) (tm 5)),
 sv 3 3 6])
 .ret))
def r141 : List Mo := [.mv (tm 3)]
theorem c141_eq : compF Tryz.prog 141 = some c141 := by kernel_rfl
theorem r141_eq : compRs Tryz.prog 141 = some r141 := by kernel_rfl
def c142 : Cd := (.seq (.reg [sm 0 2 (.mv (.const (.slice none 0 0)))])
 (.seq (.seq (.reg [sv 0 3 0,
 sm 1 4 (.bin .eql 22 (tm 3) (.const (.slice none 0 0)))])
 (.cond (tm 4) (.seq (.reg [sm 0 2 (.mv (.const (.slice none 0 0)))])
 .ret) .skip))
 (.seq (.reg [sm 0 5 (.bsl 2 [.nilS, .nilS] 0 []),
 sv 1 6 0,
 sm 2 7 (.app 2 48 (tm 5) (tm 6)),
 sv 3 2 7])
 .ret)))
def r142 : List Mo := [.mv (tm 2)]
theorem c142_eq : compF Tryz.prog 142 = some c142 := by kernel_rfl
theorem r142_eq : compRs Tryz.prog 142 = some r142 := by kernel_rfl
def c143 : Cd := (.seq (.reg [sm 0 2 (.mv (.const (.slice none 0 0)))])
 (.seq (.seq (.reg [sv 0 3 0,
 sm 1 4 (.bin .eql 68 (tm 3) (.const (.slice none 0 0)))])
 (.cond (tm 4) (.seq (.reg [sm 0 2 (.mv (.const (.slice none 0 0)))])
 .ret) .skip))
 (.seq (.reg [sm 0 5 (.bsl 11 [.int .u32 0, .nilS, .int .u64 0, .int .u8 0, .str [], .int .u8 0, .int .i64 0, .int .u64 0, .str [], .int .u32 0, .int .u32 0] 0 []),
 sv 1 6 0,
 sm 2 7 (.app 11 112 (tm 5) (tm 6)),
 sv 3 2 7])
 .ret)))
def r143 : List Mo := [.mv (tm 2)]
theorem c143_eq : compF Tryz.prog 143 = some c143 := by kernel_rfl
theorem r143_eq : compRs Tryz.prog 143 = some r143 := by kernel_rfl
def c144 : Cd := (.seq (.reg [sm 0 1 (.box (tm 0)),
 sm 1 2 (.mv (.const (.bool false)))])
 (.seq (.seq (.reg [sm 0 5 (.fa 0 (tm 1)),
 sm 1 6 (.ld1 (tm 5)),
 sc 2 7 148 [(tm 6)],
 sm 3 8 (.un .not (tm 7))])
 (.cond (tm 8) (.seq (.reg [sm 0 2 (.mv (.const (.bool false)))])
 .ret) .skip))
 (.seq (.seq (.reg [sm 0 9 (.fa 1 (tm 1)),
 sm 1 10 (.ld1 (tm 9))])
 (.block 0 (.seq (.reg [sm 0 12 (.bin .eql 5 (tm 10) (.const (.int .u8 0))),
 sv 1 11 12])
 (.cond (tm 11) (.seq (.reg [sm 0 14 (.fa 2 (tm 1)),
 sm 1 15 (.ldA 11 (tm 14)),
 sc 2 16 97 [(tm 15)],
 sv 3 13 16,
 sm 4 17 (.ext (tm 13) 0),
 sm 5 18 (.ext (tm 13) 1),
 sm 6 3 (.alloc (rep 32 (.int .u8 0))),
 se 7 (.st 32 (tm 3) (tm 17)),
 sv 8 4 18])
 (.seq (.reg [sv 0 19 4,
 sm 1 20 (.bin .eql 38 (tm 19) (.const (.int .i64 0))),
 sv 2 21 20,
 sg 3 22 21 true (.ldA 32 (tm 3)),
 sg 4 23 21 true (.fa 13 (tm 1)),
 sg 5 24 21 true (.ldA 32 (tm 23)),
 sg 6 25 21 true (.bin .eql 57 (tm 22) (tm 24)),
 sm 7 26 (.pick (tm 21) (tm 25) (.const (.bool false))),
 sv 8 27 26,
 sg 9 28 27 true (.fa 2 (tm 1)),
 sg 10 29 27 true (.ldA 11 (tm 28)),
 ⟨11, (some 30), (some ((some 27), true)), .callF 65 [(tm 29)], [], false⟩,
 sg 12 31 27 true (.bin .eql 38 (tm 30) (.const (.int .i64 0))),
 sm 13 32 (.pick (tm 27) (tm 31) (.const (.bool false))),
 sv 14 2 32])
 .ret)) (.seq (.seq (.reg [sm 0 34 (.bin .eql 5 (tm 10) (.const (.int .u8 2))),
 sv 1 33 34])
 (.cond (tm 33) .skip (.seq (.reg [sm 0 35 (.bin .eql 5 (tm 10) (.const (.int .u8 3))),
 sv 1 33 35])
 (.cond (tm 33) .skip (.reg [sm 0 36 (.bin .eql 5 (tm 10) (.const (.int .u8 4))),
 sv 1 33 36])))))
 (.cond (tm 33) (.seq (.reg [sm 0 37 (.ldA 45 (tm 1)),
 sc 1 38 203 [(tm 37)],
 sv 2 2 38])
 .ret) .skip))))))
 (.seq (.reg [sm 0 2 (.mv (.const (.bool false)))])
 .ret))))
def r144 : List Mo := [.mv (tm 2)]
theorem c144_eq : compF Tryz.prog 144 = some c144 := by kernel_rfl
theorem r144_eq : compRs Tryz.prog 144 = some r144 := by kernel_rfl
def c145 : Cd := (.seq (.reg [sm 0 1 (.box (tm 0)),
 sm 1 2 (.mv (.const (.int .i64 0))),
 sm 2 3 (.mv (.const (.bool false)))])
 (.seq (.reg [sm 0 6 (.fa 1 (tm 1)),
 sm 1 7 (.fa 0 (tm 6)),
 sm 2 8 (.ld1 (tm 7)),
 sm 3 9 (.bin .eql 3 (tm 8) (.const (.int .i64 0))),
 sv 4 10 9,
 sg 5 11 10 true (.fa 1 (tm 1)),
 sg 6 12 10 true (.fa 1 (tm 11)),
 sg 7 13 10 true (.ld1 (tm 12)),
 sg 8 14 10 true (.len (.sl 1) (tm 13)),
 sg 9 15 10 true (.bin .eql 3 (tm 14) (.const (.int .i64 0))),
 sm 10 16 (.pick (tm 10) (tm 15) (.const (.bool false))),
 sv 11 4 16])
 (.seq (.reg [sm 0 17 (.fa 3 (tm 1)),
 sm 1 18 (.ldA 45 (tm 17)),
 sc 2 19 203 [(tm 18)],
 sv 3 20 19,
 sg 4 21 20 true (.fa 3 (tm 1)),
 sg 5 22 20 true (.fa 0 (tm 21)),
 sg 6 23 20 true (.ld1 (tm 22)),
 sg 7 24 20 true (.bin .eql 3 (tm 23) (.const (.int .i64 0))),
 sm 8 25 (.pick (tm 20) (tm 24) (.const (.bool false))),
 sv 9 26 25,
 sg 10 27 26 true (.fa 3 (tm 1)),
 sg 11 28 26 true (.fa 1 (tm 27)),
 sg 12 29 26 true (.ld1 (tm 28)),
 sg 13 30 26 true (.bin .eql 5 (tm 29) (.const (.int .u8 0))),
 sm 14 31 (.pick (tm 26) (tm 30) (.const (.bool false))),
 sv 15 5 31])
 (.seq (.seq (.reg [sm 0 32 (.fa 0 (tm 1)),
 sm 1 33 (.ld1 (tm 32))])
 (.block 0 (.seq (.reg [sm 0 35 (.bin .eql 5 (tm 33) (.const (.int .u8 0))),
 sv 1 34 35])
 (.cond (tm 34) (.seq (.reg [sv 0 36 4,
 sv 1 37 36,
 sg 2 38 37 true (.mv (tm 5)),
 sm 3 39 (.pick (tm 37) (tm 38) (.const (.bool false))),
 sm 4 2 (.mv (.const (.int .i64 (-1)))),
 sv 5 3 39])
 .ret) (.seq (.reg [sm 0 41 (.bin .eql 5 (tm 33) (.const (.int .u8 1))),
 sv 1 40 41])
 (.cond (tm 40) (.seq (.dreg [sm 0 42 (.fa 1 (tm 1)),
 sm 1 43 (.fa 0 (tm 42)),
 ⟨2, (some 44), none, .mo (.ld1 (tm 43)), [], true⟩,
 sv 3 45 5,
 sv 4 46 45,
 sg 5 47 46 true (.fa 1 (tm 1)),
 sg 6 48 46 true (.fa 0 (tm 47)),
 sg 7 49 46 true (.ld1 (tm 48)),
 ⟨8, (some 50), (some ((some 46), true)), .callF 148 [(tm 49)], [2], false⟩,
 sm 9 51 (.pick (tm 46) (tm 50) (.const (.bool false))),
 sv 10 2 44,
 sv 11 3 51])
 .ret) (.seq (.reg [sm 0 53 (.bin .eql 5 (tm 33) (.const (.int .u8 2))),
 sv 1 52 53])
 (.cond (tm 52) (.seq (.dreg [sm 0 54 (.fa 3 (tm 1)),
 sm 1 55 (.fa 0 (tm 54)),
 ⟨2, (some 56), none, .mo (.ld1 (tm 55)), [], true⟩,
 sv 3 57 4,
 sv 4 58 57,
 sg 5 59 58 true (.fa 3 (tm 1)),
 sg 6 60 58 true (.ldA 45 (tm 59)),
 ⟨7, (some 61), (some ((some 58), true)), .callF 144 [(tm 60)], [2], false⟩,
 sm 8 62 (.pick (tm 58) (tm 61) (.const (.bool false))),
 sv 9 2 56,
 sv 10 3 62])
 .ret) .skip))))))))
 (.seq (.reg [sm 0 2 (.mv (.const (.int .i64 (-1)))),
 sm 1 3 (.mv (.const (.bool false)))])
 .ret)))))
def r145 : List Mo := [.mv (tm 2), .mv (tm 3)]
theorem c145_eq : compF Tryz.prog 145 = some c145 := by kernel_rfl
theorem r145_eq : compRs Tryz.prog 145 = some r145 := by kernel_rfl
def l147_0 : Cd := (.seq (.seq (.reg [sv 0 12 4,
 sv 1 13 0,
 sm 2 14 (.len (.sl 1) (tm 13)),
 sm 3 15 (.bin .lss 3 (tm 12) (tm 14))])
 (.cond (tm 15) .skip (.exit 0)))
 (.seq (.block 1 (.reg [sv 0 18 3,
 sv 1 19 0,
 sv 2 20 4,
 sm 3 21 (.ia (.sl 1) (tm 19) (tm 20)),
 sm 4 22 (.ld1 (tm 21)),
 sm 5 23 (.max (tm 18) (tm 22)),
 sv 6 3 23]))
 (.reg [sv 0 16 4,
 sm 1 17 (.bin .add 3 (tm 16) (.const (.int .i64 1))),
 sv 2 4 17])))
def c147 : Cd := (.seq (.reg [sm 0 2 (.mv (.const (.int .i64 0)))])
 (.seq (.seq (.reg [sv 0 5 0,
 sm 1 6 (.len (.sl 1) (tm 5)),
 sm 2 7 (.bin .lss 3 (tm 6) (.const (.int .i64 1)))])
 (.cond (tm 7) (.reg [sm 0 8 (.mkI 9 (.const (.string ⟨#[115, 108, 105, 99, 101, 115, 46, 77, 97, 120, 58, 32, 101, 109, 112, 116, 121, 32, 108, 105, 115, 116]⟩))),
 se 1 (.stop)]) .skip))
 (.seq (.reg [sv 0 9 0,
 sm 1 10 (.ia (.sl 1) (tm 9) (.const (.int .i64 0))),
 sm 2 11 (.ld1 (tm 10)),
 sv 3 3 11])
 (.seq (.seq (.reg [sm 0 4 (.mv (.const (.int .i64 1)))])
 (.block 0 (.loop l147_0)))
 (.seq (.reg [sv 0 24 3,
 sv 1 2 24])
 .ret)))))
def r147 : List Mo := [.mv (tm 2)]
theorem c147_eq : compF Tryz.prog 147 = some c147 := by kernel_rfl
theorem r147_eq : compRs Tryz.prog 147 = some r147 := by kernel_rfl
def c148 : Cd := (.seq (.reg [sm 0 2 (.mv (.const (.bool false)))])
 (.seq (.reg [sv 0 3 0,
 sm 1 4 (.bin .geq 3 (tm 3) (.const (.int .i64 0))),
 sv 2 5 4,
 sg 3 6 5 true (.mv (tm 0)),
 sg 4 7 5 true (.bin .leq 3 (tm 6) (.const (.int .i64 1000000000))),
 sm 5 8 (.pick (tm 5) (tm 7) (.const (.bool false))),
 sv 6 2 8])
 .ret))
def r148 : List Mo := [.mv (tm 2)]
theorem c148_eq : compF Tryz.prog 148 = some c148 := by kernel_rfl
theorem r148_eq : compRs Tryz.prog 148 = some r148 := by kernel_rfl
def c149 : Cd := (.seq (.reg [sm 0 1 (.box (tm 0)),
 sm 1 2 (.mv (.const (.slice none 0 0))),
 sm 2 3 (.mv (.const (.int .i64 0)))])
 (.seq (.seq (.reg [sm 0 7 (.ldA 11 (tm 1)),
 sc 1 8 116 [(tm 7)],
 sv 2 4 8])
 (.seq (.reg [sv 0 9 4,
 sm 1 10 (.bin .neq 38 (tm 9) (.const (.int .i64 0)))])
 (.cond (tm 10) (.seq (.reg [sv 0 11 4,
 sm 1 2 (.mv (.const (.slice none 0 0))),
 sv 2 3 11])
 .ret) .skip)))
 (.seq (.reg [sm 0 13 (.ldA 11 (tm 1)),
 sc 1 14 117 [(tm 13)],
 sv 2 12 14,
 sm 3 15 (.ext (tm 12) 0),
 sm 4 16 (.ext (tm 12) 1),
 sv 5 5 15,
 sv 6 6 16])
 (.seq (.dreg [sv 0 17 5,
 sm 1 18 (.fa 9 (tm 1)),
 sm 2 19 (.fa 0 (tm 18)),
 sm 3 20 (.ld1 (tm 19)),
 sm 4 21 (.cint .u64 (tm 20)),
 sm 6 23 (.fa 9 (tm 1)),
 sm 7 24 (.fa 1 (tm 23)),
 ⟨8, (some 25), none, .mo (.ld1 (tm 24)), [], true⟩,
 ⟨9, (some 26), none, .mo (.cint .u64 (tm 25)), [], true⟩,
 ⟨5, (some 22), none, .callF 173 [(tm 21)], [9, 8], false⟩,
 sc 10 27 173 [(tm 26)],
 sm 11 28 (.bsl 1 [.nilS] 3 [(0, (tm 17)), (1, (tm 22)), (2, (tm 27))]),
 sc 12 29 172 [(tm 28)],
 sv 13 2 29,
 sm 14 3 (.mv (.const (.int .i64 0)))])
 .ret))))
def r149 : List Mo := [.mv (tm 2), .mv (tm 3)]
theorem c149_eq : compF Tryz.prog 149 = some c149 := by kernel_rfl
theorem r149_eq : compRs Tryz.prog 149 = some r149 := by kernel_rfl
def c150 : Cd := (.seq (.reg [sm 0 2 (.alloc (rep 32 (.int .u8 0))),
 sm 1 3 (.mv (.const (.int .i64 0)))])
 (.seq (.reg [sv 0 4 0,
 sm 1 5 (.bsl 1 [.nilS] 1 [(0, (tm 4))]),
 sc 2 6 205 [(tm 5)],
 sm 3 7 (.ext (tm 6) 0),
 sm 4 8 (.ext (tm 6) 1),
 se 5 (.st 32 (tm 2) (tm 7)),
 sv 6 3 8])
 .ret))
def r150 : List Mo := [.ldA 32 (tm 2), .mv (tm 3)]
theorem c150_eq : compF Tryz.prog 150 = some c150 := by kernel_rfl
theorem r150_eq : compRs Tryz.prog 150 = some r150 := by kernel_rfl
def l151_0 : Cd := (.seq (.reg [sm 0 9 (.bin .lss 3 (tm 8) (tm 7))])
 (.seq (.cond (tm 9) .skip (.exit 0))
 (.seq (.block 1 (.seq (.reg [sv 0 10 8,
 sv 1 5 10])
 (.seq (.reg [sv 0 11 1,
 sv 1 12 0,
 sv 2 13 5,
 sm 3 14 (.ia (.sl 45) (tm 12) (tm 13)),
 sm 4 15 (.ldA 45 (tm 14)),
 ⟨5, (some 16), none, .callV (tm 11) [(tm 15)], [], false⟩])
 (.cond (tm 16) (.seq (.reg [sv 0 17 5,
 sv 1 4 17])
 .ret) .skip))))
 (.reg [sm 0 18 (.bin .add 3 (tm 8) (.const (.int .i64 1))),
 sv 1 8 18]))))
def c151 : Cd := (.seq (.reg [sm 0 4 (.mv (.const (.int .i64 0)))])
 (.seq (.seq (.reg [sv 0 6 0,
 sm 1 7 (.len (.sl 45) (tm 6)),
 sm 2 8 (.mv (.const (.int .i64 0)))])
 (.block 0 (.loop l151_0)))
 (.seq (.reg [sm 0 4 (.mv (.const (.int .i64 (-1))))])
 .ret)))
def r151 : List Mo := [.mv (tm 4)]
theorem c151_eq : compF Tryz.prog 151 = some c151 := by kernel_rfl
theorem r151_eq : compRs Tryz.prog 151 = some r151 := by kernel_rfl
def c152 : Cd := (.seq (.reg [sm 0 2 (.box (tm 0)),
 sm 1 3 (.mv (.const (.bool false)))])
 (.seq (.reg [sm 0 4 (.fa 12 (tm 2)),
 sm 1 5 (.ldA 32 (tm 4)),
 sm 2 6 (.ldA 32 (tm 1)),
 sm 3 7 (.bin .eql 57 (tm 5) (tm 6)),
 sv 4 3 7])
 .ret))
def r152 : List Mo := [.mv (tm 3)]
theorem c152_eq : compF Tryz.prog 152 = some c152 := by kernel_rfl
theorem r152_eq : compRs Tryz.prog 152 = some r152 := by kernel_rfl
def c153 : Cd := (.seq (.reg [sm 0 2 (.box (tm 0)),
 sm 1 3 (.box (tm 1)),
 sm 2 4 (.mv (.const .nilFunc))])
 (.seq (.reg [sm 0 5 (.mkF 206 [] [(tm 3), (tm 2)]),
 sv 1 4 5])
 .ret))
def r153 : List Mo := [.mv (tm 4)]
theorem c153_eq : compF Tryz.prog 153 = some c153 := by kernel_rfl
theorem r153_eq : compRs Tryz.prog 153 = some r153 := by kernel_rfl
def c154 : Cd := (.seq (.reg [sm 0 1 (.box (tm 0)),
 sm 1 2 (.mv (.const (.int .i64 0)))])
 (.seq (.reg [sm 0 6 (.ldA 3 (tm 1)),
 sc 1 7 207 [(tm 6)],
 sv 2 5 7,
 sm 3 8 (.ext (tm 5) 0),
 sm 4 9 (.ext (tm 5) 1),
 sm 5 3 (.alloc [.nilS, .nilS]),
 se 6 (.st 2 (tm 3) (tm 8)),
 sv 7 4 9])
 (.seq (.reg [sv 0 10 4,
 sv 1 2 10])
 .ret)))
def r154 : List Mo := [.mv (tm 2)]
theorem c154_eq : compF Tryz.prog 154 = some c154 := by kernel_rfl
theorem r154_eq : compRs Tryz.prog 154 = some r154 := by kernel_rfl
def c155 : Cd := (.seq (.reg [sm 0 2 (.box (tm 0)),
 sm 1 3 (.box (tm 1)),
 sm 2 4 (.mv (.const (.int .i64 0))),
 sm 3 5 (.mv (.const (.int .i64 0))),
 sm 4 6 (.mv (.const (.bool false)))])
 (.seq (.reg [sm 0 7 (.ldA 32 (tm 3)),
 sm 1 8 (.fa 0 (tm 2)),
 sm 2 9 (.ld1 (tm 8)),
 sm 3 10 (.len (.sl 2) (tm 9)),
 sc 4 11 208 [(tm 7), (tm 10)],
 sv 5 4 11])
 (.seq (.reg [sm 0 13 (.fa 0 (tm 2)),
 sm 1 14 (.ld1 (tm 13)),
 sv 2 15 4,
 sm 3 16 (.ia (.sl 2) (tm 14) (tm 15)),
 sm 4 17 (.fa 0 (tm 16)),
 sm 5 18 (.ld1 (tm 17)),
 sm 6 19 (.ldA 32 (tm 3)),
 sc 7 20 161 [(tm 18), (tm 19), (.func 162)],
 sv 8 12 20,
 sm 9 21 (.ext (tm 12) 0),
 sm 10 22 (.ext (tm 12) 1),
 sv 11 5 21,
 sv 12 6 22])
 (.seq (.reg [sv 0 23 4,
 sv 1 24 5,
 sv 2 25 6,
 sv 3 4 23,
 sv 4 5 24,
 sv 5 6 25])
 .ret))))
def r155 : List Mo := [.mv (tm 4), .mv (tm 5), .mv (tm 6)]
theorem c155_eq : compF Tryz.prog 155 = some c155 := by kernel_rfl
theorem r155_eq : compRs Tryz.prog 155 = some r155 := by kernel_rfl
def c156 : Cd := (.seq (.reg [sm 0 2 (.box (tm 0)),
 sm 1 3 (.mv (.const (.bool false)))])
 (.seq (.reg [sm 0 8 (.ldA 3 (tm 1)),
 sm 1 9 (.ldA 32 (tm 2)),
 sc 2 10 155 [(tm 8), (tm 9)],
 sv 3 7 10,
 sm 4 11 (.ext (tm 7) 0),
 sm 5 12 (.ext (tm 7) 1),
 sm 6 13 (.ext (tm 7) 2),
 sv 7 4 11,
 sv 8 5 12,
 sv 9 6 13])
 (.seq (.reg [sv 0 14 6,
 sm 1 15 (.un .not (tm 14)),
 sv 2 3 15])
 .ret)))
def r156 : List Mo := [.mv (tm 3)]
theorem c156_eq : compF Tryz.prog 156 = some c156 := by kernel_rfl
theorem r156_eq : compRs Tryz.prog 156 = some r156 := by kernel_rfl
def l157_0 : Cd := (.seq (.reg [sm 0 16 (.bin .lss 3 (tm 15) (tm 14))])
 (.seq (.cond (tm 16) .skip (.exit 0))
 (.seq (.block 1 (.seq (.reg [sv 0 17 15,
 sv 1 4 17])
 (.dreg [sm 0 18 (.fa 1 (tm 3)),
 ⟨1, (some 19), none, .mo (.ld1 (tm 18)), [], true⟩,
 sv 2 20 4,
 sm 3 21 (.fa 1 (tm 3)),
 sm 4 22 (.ld1 (tm 21)),
 sv 5 23 4,
 sm 6 24 (.ia (.sl 11) (tm 22) (tm 23)),
 sm 7 25 (.fa 1 (tm 24)),
 sm 8 26 (.ld1 (tm 25)),
 ⟨9, (some 27), none, .callF 80 [(tm 26)], [1], false⟩,
 sm 10 28 (.ia (.sl 11) (tm 19) (tm 20)),
 sm 11 29 (.fa 1 (tm 28)),
 se 12 (.st 1 (tm 29) (tm 27))])))
 (.reg [sm 0 30 (.bin .add 3 (tm 15) (.const (.int .i64 1))),
 sv 1 15 30]))))
def c157 : Cd := (.seq (.reg [sm 0 1 (.box (tm 0)),
 sm 1 2 (.alloc [.nilS, .nilS])])
 (.seq (.dreg [sm 0 5 (.fa 0 (tm 1)),
 sm 1 6 (.ld1 (tm 5)),
 sm 3 8 (.fa 1 (tm 1)),
 ⟨4, (some 9), none, .mo (.ld1 (tm 8)), [], true⟩,
 ⟨7, (some 3), none, .mo (.alloc [.nilS, .nilS]), [], true⟩,
 ⟨2, (some 7), none, .callF 80 [(tm 6)], [7, 4], false⟩,
 ⟨5, (some 10), none, .callF 143 [(tm 9)], [7], false⟩,
 sm 6 11 (.bld [.nilS, .nilS] [(0, 1, (tm 7)), (1, 1, (tm 10))]),
 se 8 (.st 2 (tm 3) (tm 11))])
 (.seq (.seq (.reg [sm 0 12 (.fa 1 (tm 3)),
 sm 1 13 (.ld1 (tm 12)),
 sm 2 14 (.len (.sl 11) (tm 13)),
 sm 3 15 (.mv (.const (.int .i64 0)))])
 (.block 0 (.loop l157_0)))
 (.seq (.reg [sm 0 31 (.ldA 2 (tm 3)),
 se 1 (.st 2 (tm 2) (tm 31))])
 .ret))))
def r157 : List Mo := [.ldA 2 (tm 2)]
theorem c157_eq : compF Tryz.prog 157 = some c157 := by kernel_rfl
theorem r157_eq : compRs Tryz.prog 157 = some r157 := by kernel_rfl
def c160 : Cd := (.seq (.reg [sm 0 2 (.box (tm 0)),
 sm 1 3 (.mv (.const (.bool false)))])
 (.seq (.reg [sm 0 4 (.fa 1 (tm 1)),
 sm 1 5 (.ld1 (tm 4)),
 sm 2 6 (.ldA 32 (tm 2)),
 sc 3 7 66 [(tm 5), (tm 6)],
 sv 4 3 7])
 .ret))
def r160 : List Mo := [.mv (tm 3)]
theorem c160_eq : compF Tryz.prog 160 = some c160 := by kernel_rfl
theorem r160_eq : compRs Tryz.prog 160 = some r160 := by kernel_rfl
def l161_0 : Cd := (.seq (.seq (.reg [sv 0 15 9,
 sv 1 16 10,
 sm 2 17 (.bin .lss 3 (tm 15) (tm 16))])
 (.cond (tm 17) .skip (.exit 0)))
 (.block 1 (.seq (.reg [sv 0 18 9,
 sv 1 19 10,
 sm 2 20 (.bin .add 3 (tm 18) (tm 19)),
 sm 3 21 (.cint .u64 (tm 20)),
 sm 4 22 (.bin .shr 259 (tm 21) (.const (.int .u64 1))),
 sm 5 23 (.cint .i64 (tm 22)),
 sv 6 11 23])
 (.seq (.reg [sv 0 24 2,
 sv 1 25 0,
 sv 2 26 11,
 sm 3 27 (.ia (.sl 32) (tm 25) (tm 26)),
 sm 4 28 (.ldA 32 (tm 27)),
 sm 5 29 (.ldA 32 (tm 4)),
 ⟨6, (some 30), none, .callV (tm 24) [(tm 28), (tm 29)], [], false⟩,
 sm 7 31 (.bin .lss 3 (tm 30) (.const (.int .i64 0)))])
 (.cond (tm 31) (.reg [sv 0 32 11,
 sm 1 33 (.bin .add 3 (tm 32) (.const (.int .i64 1))),
 sv 2 9 33]) (.reg [sv 0 34 11,
 sv 1 10 34]))))))
def c161 : Cd := (.seq (.reg [sm 0 4 (.box (tm 1)),
 sm 1 6 (.mv (.const (.int .i64 0))),
 sm 2 7 (.mv (.const (.bool false)))])
 (.seq (.reg [sv 0 12 0,
 sm 1 13 (.len (.sl 32) (tm 12)),
 sv 2 8 13])
 (.seq (.reg [sv 0 14 8,
 sm 1 9 (.mv (.const (.int .i64 0))),
 sv 2 10 14])
 (.seq (.block 0 (.loop l161_0))
 (.seq (.reg [sv 0 35 9,
 sv 1 36 9,
 sv 2 37 8,
 sm 3 38 (.bin .lss 3 (tm 36) (tm 37)),
 sv 4 39 38,
 sg 5 40 39 true (.mv (tm 2)),
 sg 6 41 39 true (.mv (tm 0)),
 sg 7 42 39 true (.mv (tm 9)),
 sg 8 43 39 true (.ia (.sl 32) (tm 41) (tm 42)),
 sg 9 44 39 true (.ldA 32 (tm 43)),
 sg 10 45 39 true (.ldA 32 (tm 4)),
 ⟨11, (some 46), (some ((some 39), true)), .callV (tm 40) [(tm 44), (tm 45)], [], false⟩,
 sg 12 47 39 true (.bin .eql 3 (tm 46) (.const (.int .i64 0))),
 sm 13 48 (.pick (tm 39) (tm 47) (.const (.bool false))),
 sv 14 6 35,
 sv 15 7 48])
 .ret)))))
def r161 : List Mo := [.mv (tm 6), .mv (tm 7)]
theorem c161_eq : compF Tryz.prog 161 = some c161 := by kernel_rfl
theorem r161_eq : compRs Tryz.prog 161 = some r161 := by kernel_rfl
def c162 : Cd := (.seq (.reg [sm 0 2 (.box (tm 0)),
 sm 1 3 (.box (tm 1)),
 sm 2 4 (.mv (.const (.int .i64 0)))])
 (.seq (.reg [sm 0 5 (.slice (.arr 32 1) (tm 2) none none none),
 sm 1 6 (.slice (.arr 32 1) (tm 3) none none none),
 sc 2 7 202 [(tm 5), (tm 6)],
 sv 3 4 7])
 .ret))
def r162 : List Mo := [.mv (tm 4)]
theorem c162_eq : compF Tryz.prog 162 = some c162 := by kernel_rfl
theorem r162_eq : compRs Tryz.prog 162 = some r162 := by kernel_rfl
def c166 : Cd := (.seq (.reg [sm 0 1 (.box (tm 0)),
 sm 1 2 (.alloc [.nilS, .nilS]),
 sm 2 3 (.mv (.const (.int .i64 0)))])
 (.seq (.reg [sm 0 4 (.ldA 3 (tm 1)),
 sc 1 5 207 [(tm 4)],
 sm 2 6 (.ext (tm 5) 0),
 sm 3 7 (.ext (tm 5) 1),
 se 4 (.st 2 (tm 2) (tm 6)),
 sv 5 3 7])
 .ret))
def r166 : List Mo := [.ldA 2 (tm 2), .mv (tm 3)]
theorem c166_eq : compF Tryz.prog 166 = some c166 := by kernel_rfl
theorem r166_eq : compRs Tryz.prog 166 = some r166 := by kernel_rfl
def c167 : Cd := (.seq (.reg [sm 0 2 (.box (tm 0)),
 sm 1 3 (.mv (.const (.bool false)))])
 (.seq (.reg [sm 0 4 (.ld1 (tm 1)),
 sm 1 5 (.ldA 32 (tm 2)),
 sc 2 6 66 [(tm 4), (tm 5)],
 sm 3 7 (.un .not (tm 6)),
 sv 4 3 7])
 .ret))
def r167 : List Mo := [.mv (tm 3)]
theorem c167_eq : compF Tryz.prog 167 = some c167 := by kernel_rfl
theorem r167_eq : compRs Tryz.prog 167 = some r167 := by kernel_rfl
def l168_0 : Cd := (.seq (.seq (.reg [sv 0 9 5,
 sm 1 10 (.bin .gtr 3 (tm 9) (.const (.int .i64 0)))])
 (.cond (tm 10) .skip (.exit 0)))
 (.seq (.block 1 (.seq (.reg [sv 0 13 1,
 sv 1 14 0,
 sv 2 15 5,
 sm 3 16 (.ia (.sl 32) (tm 14) (tm 15)),
 sm 4 17 (.ldA 32 (tm 16)),
 sv 5 18 0,
 sv 6 19 5,
 sm 7 20 (.bin .sub 3 (tm 19) (.const (.int .i64 1))),
 sm 8 21 (.ia (.sl 32) (tm 18) (tm 20)),
 sm 9 22 (.ldA 32 (tm 21)),
 ⟨10, (some 23), none, .callV (tm 13) [(tm 17), (tm 22)], [], false⟩,
 sm 11 24 (.bin .lss 3 (tm 23) (.const (.int .i64 0)))])
 (.cond (tm 24) (.seq (.reg [sm 0 4 (.mv (.const (.bool false)))])
 .ret) .skip)))
 (.reg [sv 0 11 5,
 sm 1 12 (.bin .sub 3 (tm 11) (.const (.int .i64 1))),
 sv 2 5 12])))
def c168 : Cd := (.seq (.reg [sm 0 4 (.mv (.const (.bool false)))])
 (.seq (.seq (.reg [sv 0 6 0,
 sm 1 7 (.len (.sl 32) (tm 6)),
 sm 2 8 (.bin .sub 3 (tm 7) (.const (.int .i64 1))),
 sv 3 5 8])
 (.block 0 (.loop l168_0)))
 (.seq (.reg [sm 0 4 (.mv (.const (.bool true)))])
 .ret)))
def r168 : List Mo := [.mv (tm 4)]
theorem c168_eq : compF Tryz.prog 168 = some c168 := by kernel_rfl
theorem r168_eq : compRs Tryz.prog 168 = some r168 := by kernel_rfl
def c169 : Cd := (.seq (.reg [sm 0 2 (.mv (.const (.bool false)))])
 (.seq (.reg [sv 0 3 0,
 sm 1 4 (.bin .gtr 46 (tm 3) (.const (.int .u32 0))),
 sv 2 5 4,
 sg 3 6 5 true (.mv (tm 0)),
 sg 4 7 5 true (.bin .lss 46 (tm 6) (.const (.int .u32 1000000007))),
 sm 5 8 (.pick (tm 5) (tm 7) (.const (.bool false))),
 sv 6 9 8,
 sg 7 10 9 true (.mv (tm 0)),
 ⟨8, (some 11), (some ((some 9), true)), .callF 215 [(tm 10), (.const (.int .u64 500000003))], [], false⟩,
 sg 9 12 9 true (.bin .eql 46 (tm 11) (.const (.int .u32 1))),
 sm 10 13 (.pick (tm 9) (tm 12) (.const (.bool false))),
 sv 11 2 13])
 .ret))
def r169 : List Mo := [.mv (tm 2)]
theorem c169_eq : compF Tryz.prog 169 = some c169 := by kernel_rfl
theorem r169_eq : compRs Tryz.prog 169 = some r169 := by kernel_rfl
def c170 : Cd := (.seq (.reg [sm 0 1 (.box (tm 0)),
 sm 1 2 (.mv (.const (.int .i64 0)))])
 (.seq (.reg [sm 0 3 (.mv (.const (.bool false)))])
 (.seq (.seq (.reg [sm 0 4 (.fa 0 (tm 1)),
 sm 1 5 (.ld1 (tm 4))])
 (.block 0 (.seq (.reg [sm 0 7 (.bin .eql 5 (tm 5) (.const (.int .u8 1))),
 sv 1 6 7])
 (.cond (tm 6) (.reg [sm 0 8 (.ldA 6 (tm 1)),
 sm 1 9 (.bld [.int .u8 0, .str [], .int .u8 0, .int .i64 0, .int .u64 0, .str []] [(0, 1, (.const (.int .u8 1)))]),
 sm 2 10 (.bin .eql 51 (tm 8) (tm 9)),
 sv 3 3 10]) (.seq (.seq (.reg [sm 0 12 (.bin .eql 5 (tm 5) (.const (.int .u8 2))),
 sv 1 11 12])
 (.cond (tm 11) .skip (.reg [sm 0 13 (.bin .eql 5 (tm 5) (.const (.int .u8 3))),
 sv 1 11 13])))
 (.cond (tm 11) (.reg [sm 0 14 (.fa 1 (tm 1)),
 sm 1 15 (.ld1 (tm 14)),
 sc 2 16 216 [(tm 15)],
 sv 3 17 16,
 sg 4 18 17 true (.fa 2 (tm 1)),
 sg 5 19 17 true (.ldA 4 (tm 18)),
 sg 6 20 17 true (.bld [.int .u8 0, .int .i64 0, .int .u64 0, .str []] []),
 sg 7 21 17 true (.bin .eql 49 (tm 19) (tm 20)),
 sm 8 22 (.pick (tm 17) (tm 21) (.const (.bool false))),
 sv 9 3 22]) (.seq (.reg [sm 0 24 (.bin .eql 5 (tm 5) (.const (.int .u8 4))),
 sv 1 23 24])
 (.cond (tm 23) (.reg [sm 0 25 (.fa 1 (tm 1)),
 sm 1 26 (.ld1 (tm 25)),
 sc 2 27 216 [(tm 26)],
 sv 3 28 27,
 sg 4 29 28 true (.fa 2 (tm 1)),
 sg 5 30 28 true (.ldA 4 (tm 29)),
 ⟨6, (some 31), (some ((some 28), true)), .callF 217 [(tm 30)], [], false⟩,
 sg 7 32 28 true (.bin .eql 38 (tm 31) (.const (.int .i64 0))),
 sm 8 33 (.pick (tm 28) (tm 32) (.const (.bool false))),
 sv 9 3 33]) .skip))))))))
 (.seq (.seq (.reg [sv 0 34 3,
 sm 1 35 (.un .not (tm 34))])
 (.cond (tm 35) (.seq (.reg [sm 0 2 (.mv (.const (.int .i64 8)))])
 .ret) .skip))
 (.seq (.reg [sm 0 2 (.mv (.const (.int .i64 0)))])
 .ret)))))
def r170 : List Mo := [.mv (tm 2)]
theorem c170_eq : compF Tryz.prog 170 = some c170 := by kernel_rfl
theorem r170_eq : compRs Tryz.prog 170 = some r170 := by kernel_rfl
def l171_0 : Cd := (.seq (.reg [sm 0 20 (.bin .lss 3 (tm 19) (tm 18))])
 (.seq (.cond (tm 20) .skip (.exit 0))
 (.seq (.block 1 (.seq (.reg [sm 0 21 (.ia (.sl 32) (tm 17) (tm 19)),
 sm 1 22 (.ldA 32 (tm 21)),
 sm 2 6 (.alloc (rep 32 (.int .u8 0))),
 se 3 (.st 32 (tm 6) (tm 22))])
 (.reg [sv 0 23 4,
 sm 1 24 (.slice (.arr 32 1) (tm 6) none none none),
 sm 2 25 (.app 1 1 (tm 23) (tm 24)),
 sv 3 4 25])))
 (.reg [sm 0 26 (.bin .add 3 (tm 19) (.const (.int .i64 1))),
 sv 1 19 26]))))
def c171 : Cd := (.seq (.reg [sm 0 2 (.mv (.const (.slice none 0 0))),
 sm 1 3 (.mv (.const (.int .i64 0)))])
 (.seq (.seq (.reg [sv 0 7 0,
 sm 1 8 (.len (.sl 32) (tm 7)),
 sm 2 9 (.bin .gtr 3 (tm 8) (.const (.int .i64 60)))])
 (.cond (tm 9) (.seq (.reg [sm 0 2 (.mv (.const (.slice none 0 0))),
 sm 1 3 (.mv (.const (.int .i64 4)))])
 .ret) .skip))
 (.seq (.seq (.reg [sv 0 10 0,
 sc 1 11 218 [(tm 10)],
 sm 2 12 (.un .not (tm 11))])
 (.cond (tm 12) (.seq (.reg [sm 0 2 (.mv (.const (.slice none 0 0))),
 sm 1 3 (.mv (.const (.int .i64 32)))])
 .ret) .skip))
 (.seq (.reg [sv 0 13 0,
 sm 1 14 (.len (.sl 32) (tm 13)),
 sm 2 15 (.cint .u64 (tm 14)),
 sc 3 16 173 [(tm 15)],
 sv 4 4 16])
 (.seq (.seq (.reg [sv 0 17 0,
 sm 1 18 (.len (.sl 32) (tm 17)),
 sm 2 19 (.mv (.const (.int .i64 0)))])
 (.block 0 (.loop l171_0)))
 (.seq (.reg [sv 0 27 4,
 sv 1 2 27,
 sm 2 3 (.mv (.const (.int .i64 0)))])
 .ret))))))
def r171 : List Mo := [.mv (tm 2), .mv (tm 3)]
theorem c171_eq : compF Tryz.prog 171 = some c171 := by kernel_rfl
theorem r171_eq : compRs Tryz.prog 171 = some r171 := by kernel_rfl
def l172_0 : Cd := (.seq (.reg [sm 0 12 (.bin .lss 3 (tm 11) (tm 10))])
 (.seq (.cond (tm 12) .skip (.exit 0))
 (.seq (.block 1 (.seq (.reg [sm 0 13 (.ia (.sl 1) (tm 9) (tm 11)),
 sm 1 14 (.ld1 (tm 13)),
 sv 2 5 14])
 (.seq (.reg [sv 0 15 3,
 sv 1 16 5,
 sm 2 17 (.len (.sl 1) (tm 16)),
 sm 3 18 (.bin .add 3 (tm 15) (tm 17)),
 sv 4 3 18])
 (.seq (.reg [sv 0 19 3,
 sm 1 20 (.bin .lss 3 (tm 19) (.const (.int .i64 0)))])
 (.cond (tm 20) (.reg [sm 0 21 (.mkI 9 (.const (.string ⟨#[108, 101, 110, 32, 111, 117, 116, 32, 111, 102, 32, 114, 97, 110, 103, 101]⟩))),
 se 1 (.stop)]) .skip)))))
 (.reg [sm 0 22 (.bin .add 3 (tm 11) (.const (.int .i64 1))),
 sv 1 11 22]))))
def l172_1 : Cd := (.seq (.reg [sm 0 28 (.bin .lss 3 (tm 27) (tm 26))])
 (.seq (.cond (tm 28) .skip (.exit 2))
 (.seq (.block 3 (.seq (.reg [sm 0 29 (.ia (.sl 1) (tm 25) (tm 27)),
 sm 1 30 (.ld1 (tm 29)),
 sv 2 8 30])
 (.reg [sv 0 31 6,
 sv 1 32 8,
 sm 2 33 (.app 1 1 (tm 31) (tm 32)),
 sv 3 6 33])))
 (.reg [sm 0 34 (.bin .add 3 (tm 27) (.const (.int .i64 1))),
 sv 1 27 34]))))
def c172 : Cd := (.seq (.reg [sm 0 2 (.mv (.const (.slice none 0 0)))])
 (.seq (.reg [sm 0 3 (.mv (.const (.int .i64 0)))])
 (.seq (.seq (.reg [sv 0 9 0,
 sm 1 10 (.len (.sl 1) (tm 9)),
 sm 2 11 (.mv (.const (.int .i64 0)))])
 (.block 0 (.loop l172_0)))
 (.seq (.reg [sv 0 23 3,
 sc 1 24 219 [(.const (.slice none 0 0)), (tm 23)],
 sv 2 6 24])
 (.seq (.seq (.reg [sv 0 25 0,
 sm 1 26 (.len (.sl 1) (tm 25)),
 sm 2 27 (.mv (.const (.int .i64 0)))])
 (.block 2 (.loop l172_1)))
 (.seq (.reg [sv 0 35 6,
 sv 1 2 35])
 .ret))))))
def r172 : List Mo := [.mv (tm 2)]
theorem c172_eq : compF Tryz.prog 172 = some c172 := by kernel_rfl
theorem r172_eq : compRs Tryz.prog 172 = some r172 := by kernel_rfl
def l173_0 : Cd := (.seq (.reg [sm 0 25 (.bin .lss 3 (tm 24) (tm 23))])
 (.seq (.cond (tm 25) .skip (.exit 0))
 (.seq (.block 1 (.seq (.reg [sv 0 26 24,
 sv 1 5 26])
 (.reg [sv 0 27 4,
 sv 1 28 3,
 sv 2 29 5,
 sm 3 30 (.bin .sub 3 (tm 28) (tm 29)),
 sv 4 31 0,
 sv 5 32 5,
 sm 6 33 (.bin .mul 3 (.const (.int .i64 8)) (tm 32)),
 sm 7 34 (.bin .shr 47 (tm 31) (tm 33)),
 sm 8 35 (.cint .u8 (tm 34)),
 sm 9 36 (.ia (.sl 1) (tm 27) (tm 30)),
 se 10 (.st 1 (tm 36) (tm 35))])))
 (.reg [sm 0 37 (.bin .add 3 (tm 24) (.const (.int .i64 1))),
 sv 1 24 37]))))
def c173 : Cd := (.seq (.reg [sm 0 2 (.mv (.const (.slice none 0 0)))])
 (.seq (.seq (.reg [sv 0 6 0,
 sm 1 7 (.bin .leq 47 (tm 6) (.const (.int .u64 247)))])
 (.cond (tm 7) (.seq (.reg [sv 0 8 0,
 sm 1 9 (.cint .u8 (tm 8)),
 sm 2 10 (.bsl 1 [.int .u8 0] 1 [(0, (tm 9))]),
 sv 3 2 10])
 .ret) .skip))
 (.seq (.reg [sv 0 11 0,
 sc 1 12 220 [(tm 11)],
 sm 2 13 (.bin .add 3 (tm 12) (.const (.int .i64 7))),
 sm 3 14 (.bin .quo 3 (tm 13) (.const (.int .i64 8))),
 sv 4 3 14])
 (.seq (.reg [sv 0 15 3,
 sm 1 16 (.bin .add 3 (tm 15) (.const (.int .i64 1))),
 sm 2 17 (.mks 1 1 [.int .u8 0] (tm 16) (tm 16)),
 sv 3 4 17])
 (.seq (.reg [sv 0 18 4,
 sv 1 19 3,
 sm 2 20 (.bin .add 3 (.const (.int .i64 247)) (tm 19)),
 sm 3 21 (.cint .u8 (tm 20)),
 sm 4 22 (.ia (.sl 1) (tm 18) (.const (.int .i64 0))),
 se 5 (.st 1 (tm 22) (tm 21))])
 (.seq (.seq (.reg [sv 0 23 3,
 sm 1 24 (.mv (.const (.int .i64 0)))])
 (.block 0 (.loop l173_0)))
 (.seq (.reg [sv 0 38 4,
 sv 1 2 38])
 .ret)))))))
def r173 : List Mo := [.mv (tm 2)]
theorem c173_eq : compF Tryz.prog 173 = some c173 := by kernel_rfl
theorem r173_eq : compRs Tryz.prog 173 = some r173 := by kernel_rfl
def c174 : Cd := (.seq (.reg [sm 0 2 (.mv (.const (.slice none 0 0))),
 sm 1 3 (.mv (.const (.int .i64 0)))])
 (.seq (.seq (.reg [sv 0 4 0,
 sm 1 5 (.len (.sl 1) (tm 4)),
 sm 2 6 (.bin .gtr 3 (tm 5) (.const (.int .i64 10000)))])
 (.cond (tm 6) (.seq (.reg [sm 0 2 (.mv (.const (.slice none 0 0))),
 sm 1 3 (.mv (.const (.int .i64 4)))])
 .ret) .skip))
 (.seq (.reg [sv 0 7 0,
 sm 1 8 (.len (.sl 1) (tm 7)),
 sm 2 9 (.cint .u64 (tm 8)),
 sc 3 10 173 [(tm 9)],
 sv 4 11 0,
 sm 5 12 (.app 1 1 (tm 10) (tm 11)),
 sv 6 2 12,
 sm 7 3 (.mv (.const (.int .i64 0)))])
 .ret)))
def r174 : List Mo := [.mv (tm 2), .mv (tm 3)]
theorem c174_eq : compF Tryz.prog 174 = some c174 := by kernel_rfl
theorem r174_eq : compRs Tryz.prog 174 = some r174 := by kernel_rfl
def c176 : Cd := (.seq (.reg [sm 0 4 (.mv (.const (.int .u32 0))),
 sm 1 5 (.mv (.const (.int .i64 0)))])
 (.seq (.seq (.reg [sv 0 6 0,
 sm 1 7 (.bsl 1 [.int .u32 0] 1 [(0, (tm 6))]),
 sc 2 8 222 [(tm 7)],
 sm 3 9 (.un .not (tm 8))])
 (.cond (tm 9) (.seq (.reg [sm 0 4 (.mv (.const (.int .u32 0))),
 sm 1 5 (.mv (.const (.int .i64 2)))])
 .ret) .skip))
 (.seq (.reg [sv 0 10 0,
 sv 1 11 1,
 sc 2 12 215 [(tm 10), (tm 11)],
 sv 3 4 12,
 sm 4 5 (.mv (.const (.int .i64 0)))])
 .ret)))
def r176 : List Mo := [.mv (tm 4), .mv (tm 5)]
theorem c176_eq : compF Tryz.prog 176 = some c176 := by kernel_rfl
theorem r176_eq : compRs Tryz.prog 176 = some r176 := by kernel_rfl
def c177 : Cd := (.seq (.reg [sm 0 4 (.mv (.const (.int .u32 0))),
 sm 1 5 (.mv (.const (.int .i64 0)))])
 (.seq (.seq (.reg [sv 0 6 0,
 sv 1 7 1,
 sm 2 8 (.bsl 1 [.int .u32 0] 2 [(0, (tm 6)), (1, (tm 7))]),
 sc 3 9 222 [(tm 8)],
 sm 4 10 (.un .not (tm 9))])
 (.cond (tm 10) (.seq (.reg [sm 0 4 (.mv (.const (.int .u32 0))),
 sm 1 5 (.mv (.const (.int .i64 2)))])
 .ret) .skip))
 (.seq (.reg [sv 0 11 0,
 sv 1 12 1,
 sm 2 13 (.bsl 1 [.int .u32 0] 2 [(0, (tm 11)), (1, (tm 12))]),
 sc 3 14 223 [(.const (.int .u64 1000000007)), (tm 13)],
 sv 4 4 14,
 sm 5 5 (.mv (.const (.int .i64 0)))])
 .ret)))
def r177 : List Mo := [.mv (tm 4), .mv (tm 5)]
theorem c177_eq : compF Tryz.prog 177 = some c177 := by kernel_rfl
theorem r177_eq : compRs Tryz.prog 177 = some r177 := by kernel_rfl
def c178 : Cd := (.seq (.reg [sm 0 2 (.mv (.const (.int .u32 0)))])
 (.seq (.reg [sv 0 3 0,
 sc 1 4 215 [(.const (.int .u32 4)), (tm 3)],
 sv 2 2 4])
 .ret))
def r178 : List Mo := [.mv (tm 2)]
theorem c178_eq : compF Tryz.prog 178 = some c178 := by kernel_rfl
theorem r178_eq : compRs Tryz.prog 178 = some r178 := by kernel_rfl
def c179 : Cd := (.seq (.reg [sm 0 6 (.mv (.const (.int .u32 0))),
 sm 1 7 (.mv (.const (.int .i64 0)))])
 (.seq (.reg [sv 0 11 2,
 sv 1 12 0,
 sv 2 13 1,
 sm 3 14 (.bsl 1 [.int .u32 0] 2 [(0, (tm 12)), (1, (tm 13))]),
 sc 4 15 224 [(.const (.int .u8 99)), (tm 11), (tm 14)],
 sv 5 10 15,
 sm 6 16 (.ext (tm 10) 0),
 sm 7 17 (.ext (tm 10) 1),
 sv 8 8 16,
 sv 9 9 17])
 (.seq (.seq (.reg [sv 0 18 9,
 sm 1 19 (.bin .neq 38 (tm 18) (.const (.int .i64 0)))])
 (.cond (tm 19) (.seq (.reg [sv 0 20 9,
 sm 1 6 (.mv (.const (.int .u32 0))),
 sv 2 7 20])
 .ret) .skip))
 (.seq (.reg [sv 0 21 8,
 sm 1 22 (.bin .rem 47 (tm 21) (.const (.int .u64 500000003))),
 sm 2 23 (.cint .u32 (tm 22)),
 sv 3 6 23,
 sm 4 7 (.mv (.const (.int .i64 0)))])
 .ret))))
def r179 : List Mo := [.mv (tm 6), .mv (tm 7)]
theorem c179_eq : compF Tryz.prog 179 = some c179 := by kernel_rfl
theorem r179_eq : compRs Tryz.prog 179 = some r179 := by kernel_rfl
def c180 : Cd := (.seq (.reg [sm 0 2 (.mv (.const (.bool false)))])
 (.seq (.reg [sv 0 3 0,
 sm 1 4 (.bin .geq 46 (tm 3) (.const (.int .u32 1))),
 sv 2 5 4,
 sg 3 6 5 true (.mv (tm 0)),
 sg 4 7 5 true (.bin .lss 46 (tm 6) (.const (.int .u32 1000000007))),
 sm 5 8 (.pick (tm 5) (tm 7) (.const (.bool false))),
 sv 6 9 8,
 sg 7 10 9 true (.mv (tm 0)),
 sg 8 11 9 true (.cint .u64 (tm 10)),
 ⟨9, (some 12), (some ((some 9), true)), .callF 225 [(tm 11), (.const (.int .u64 500000003)), (.const (.int .u64 1000000007))], [], false⟩,
 sg 10 13 9 true (.bin .eql 47 (tm 12) (.const (.int .u64 1))),
 sm 11 14 (.pick (tm 9) (tm 13) (.const (.bool false))),
 sv 12 2 14])
 .ret))
def r180 : List Mo := [.mv (tm 2)]
theorem c180_eq : compF Tryz.prog 180 = some c180 := by kernel_rfl
theorem r180_eq : compRs Tryz.prog 180 = some r180 := by kernel_rfl
def c181 : Cd := (.seq (.reg [sm 0 1 (.box (tm 0)),
 sm 1 2 (.mv (.const (.int .i64 0)))])
 (.seq (.reg [sm 0 4 (.fa 2 (tm 1)),
 sm 1 5 (.ldA 4 (tm 4)),
 sm 2 6 (.bld [.int .u8 0, .int .i64 0, .int .u64 0, .str []] []),
 sm 3 7 (.bin .eql 49 (tm 5) (tm 6)),
 sv 4 3 7])
 (.seq (.seq (.reg [sm 0 8 (.fa 0 (tm 1)),
 sm 1 9 (.ld1 (tm 8))])
 (.block 0 (.seq (.reg [sm 0 11 (.bin .eql 5 (tm 9) (.const (.int .u8 1))),
 sv 1 10 11])
 (.cond (tm 10) (.seq (.reg [sm 0 12 (.fa 1 (tm 1)),
 sm 1 13 (.ld1 (tm 12)),
 sm 2 14 (.bin .eql 9 (tm 13) (.const (.string ⟨#[]⟩))),
 sv 3 15 14,
 sg 4 16 15 true (.mv (tm 3)),
 sm 5 17 (.pick (tm 15) (tm 16) (.const (.bool false)))])
 (.cond (tm 17) (.seq (.reg [sm 0 2 (.mv (.const (.int .i64 0)))])
 .ret) .skip)) (.seq (.seq (.reg [sm 0 19 (.bin .eql 5 (tm 9) (.const (.int .u8 2))),
 sv 1 18 19])
 (.cond (tm 18) .skip (.reg [sm 0 20 (.bin .eql 5 (tm 9) (.const (.int .u8 3))),
 sv 1 18 20])))
 (.cond (tm 18) (.seq (.reg [sm 0 21 (.fa 1 (tm 1)),
 sm 1 22 (.ld1 (tm 21)),
 sc 2 23 226 [(tm 22)],
 sv 3 24 23,
 sg 4 25 24 true (.mv (tm 3)),
 sm 5 26 (.pick (tm 24) (tm 25) (.const (.bool false)))])
 (.cond (tm 26) (.seq (.reg [sm 0 2 (.mv (.const (.int .i64 0)))])
 .ret) .skip)) (.seq (.reg [sm 0 28 (.bin .eql 5 (tm 9) (.const (.int .u8 4))),
 sv 1 27 28])
 (.cond (tm 27) (.seq (.reg [sm 0 29 (.fa 1 (tm 1)),
 sm 1 30 (.ld1 (tm 29)),
 sc 2 31 226 [(tm 30)],
 sv 3 32 31,
 sg 4 33 32 true (.fa 2 (tm 1)),
 sg 5 34 32 true (.ldA 4 (tm 33)),
 ⟨6, (some 35), (some ((some 32), true)), .callF 227 [(tm 34)], [], false⟩,
 sg 7 36 32 true (.bin .eql 3 (tm 35) (.const (.int .i64 0))),
 sm 8 37 (.pick (tm 32) (tm 36) (.const (.bool false)))])
 (.cond (tm 37) (.seq (.reg [sm 0 2 (.mv (.const (.int .i64 0)))])
 .ret) .skip)) .skip))))))))
 (.seq (.reg [sm 0 2 (.mv (.const (.int .i64 8)))])
 .ret))))
def r181 : List Mo := [.mv (tm 2)]
theorem c181_eq : compF Tryz.prog 181 = some c181 := by kernel_rfl
theorem r181_eq : compRs Tryz.prog 181 = some r181 := by kernel_rfl
def c182 : Cd := (.seq (.reg [sm 0 2 (.mv (.const (.bool false)))])
 (.seq (.reg [sv 0 3 0,
 sm 1 4 (.cint .u64 (tm 3)),
 sm 2 5 (.bin .lss 47 (tm 4) (.const (.int .u64 500000003))),
 sv 3 2 5])
 .ret))
def r182 : List Mo := [.mv (tm 2)]
theorem c182_eq : compF Tryz.prog 182 = some c182 := by kernel_rfl
theorem r182_eq : compRs Tryz.prog 182 = some r182 := by kernel_rfl
def l184_0 : Cd := (.seq (.seq (.reg [sv 0 5 4,
 sm 1 6 (.bin .lss 3 (tm 5) (.const (.int .i64 32)))])
 (.cond (tm 6) .skip (.exit 0)))
 (.seq (.block 1 (.reg [sv 0 9 4,
 sv 1 10 4,
 sm 2 11 (.bin .quo 3 (tm 10) (.const (.int .i64 4))),
 sm 3 12 (.ia (.arr 8 1) (tm 1) (tm 11)),
 sm 4 13 (.ld1 (tm 12)),
 sv 5 14 4,
 sm 6 15 (.bin .rem 3 (tm 14) (.const (.int .i64 4))),
 sm 7 16 (.bin .mul 3 (.const (.int .i64 8)) (tm 15)),
 sm 8 17 (.bin .sub 3 (.const (.int .i64 24)) (tm 16)),
 sm 9 18 (.bin .shr 46 (tm 13) (tm 17)),
 sm 10 19 (.cint .u8 (tm 18)),
 sm 11 20 (.ia (.arr 32 1) (tm 3) (tm 9)),
 se 12 (.st 1 (tm 20) (tm 19))]))
 (.reg [sv 0 7 4,
 sm 1 8 (.bin .add 3 (tm 7) (.const (.int .i64 1))),
 sv 2 4 8])))
def c184 : Cd := (.seq (.reg [sm 0 1 (.box (tm 0)),
 sm 1 2 (.alloc (rep 32 (.int .u8 0)))])
 (.seq (.reg [sm 0 3 (.alloc (rep 32 (.int .u8 0)))])
 (.seq (.seq (.reg [sm 0 4 (.mv (.const (.int .i64 0)))])
 (.block 0 (.loop l184_0)))
 (.seq (.reg [sm 0 21 (.ldA 32 (tm 3)),
 se 1 (.st 32 (tm 2) (tm 21))])
 .ret))))
def r184 : List Mo := [.ldA 32 (tm 2)]
theorem c184_eq : compF Tryz.prog 184 = some c184 := by kernel_rfl
theorem r184_eq : compRs Tryz.prog 184 = some r184 := by kernel_rfl
def l185_0 : Cd := (.seq (.seq (.reg [sv 0 6 5,
 sm 1 7 (.bin .add 3 (tm 6) (.const (.int .i64 64))),
 sv 2 8 1,
 sm 3 9 (.len (.sl 1) (tm 8)),
 sm 4 10 (.bin .leq 3 (tm 7) (tm 9))])
 (.cond (tm 10) .skip (.exit 0)))
 (.seq (.block 1 (.reg [sm 0 13 (.ldA 8 (tm 2)),
 sv 1 14 1,
 sv 2 15 5,
 sv 3 16 5,
 sm 4 17 (.bin .add 3 (tm 16) (.const (.int .i64 64))),
 sm 5 18 (.slice (.sl 1) (tm 14) (some (tm 15)) (some (tm 17)) none),
 sc 6 19 231 [(tm 13), (tm 18)],
 se 7 (.st 8 (tm 2) (tm 19))]))
 (.reg [sv 0 11 5,
 sm 1 12 (.bin .add 3 (tm 11) (.const (.int .i64 64))),
 sv 2 5 12])))
def c185 : Cd := (.seq (.reg [sm 0 2 (.box (tm 0)),
 sm 1 4 (.alloc [.int .u32 0, .int .u32 0, .int .u32 0, .int .u32 0, .int .u32 0, .int .u32 0, .int .u32 0, .int .u32 0])])
 (.seq (.seq (.reg [sm 0 5 (.mv (.const (.int .i64 0)))])
 (.block 0 (.loop l185_0)))
 (.seq (.reg [sm 0 20 (.ldA 8 (tm 2)),
 se 1 (.st 8 (tm 4) (tm 20))])
 .ret)))
def r185 : List Mo := [.ldA 8 (tm 4)]
theorem c185_eq : compF Tryz.prog 185 = some c185 := by kernel_rfl
theorem r185_eq : compRs Tryz.prog 185 = some r185 := by kernel_rfl
def c186 : Cd := (.seq (.reg [sm 0 0 (.alloc [.int .u32 0, .int .u32 0, .int .u32 0, .int .u32 0, .int .u32 0, .int .u32 0, .int .u32 0, .int .u32 0])])
 (.seq (.reg [sm 0 1 (.bld [.int .u32 0, .int .u32 0, .int .u32 0, .int .u32 0, .int .u32 0, .int .u32 0, .int .u32 0, .int .u32 0] [(0, 1, (.const (.int .u32 1779033703))), (1, 1, (.const (.int .u32 3144134277))), (2, 1, (.const (.int .u32 1013904242))), (3, 1, (.const (.int .u32 2773480762))), (4, 1, (.const (.int .u32 1359893119))), (5, 1, (.const (.int .u32 2600822924))), (6, 1, (.const (.int .u32 528734635))), (7, 1, (.const (.int .u32 1541459225)))]),
 se 1 (.st 8 (tm 0) (tm 1))])
 .ret))
def r186 : List Mo := [.ldA 8 (tm 0)]
theorem c186_eq : compF Tryz.prog 186 = some c186 := by kernel_rfl
theorem r186_eq : compRs Tryz.prog 186 = some r186 := by kernel_rfl
def l187_0 : Cd := (.seq (.seq (.reg [sv 0 6 0,
 sv 1 7 3,
 sm 2 8 (.len (.sl 1) (tm 7)),
 sm 3 9 (.bin .add 3 (tm 6) (tm 8)),
 sm 4 10 (.bin .add 3 (tm 9) (.const (.int .i64 8))),
 sm 5 11 (.bin .rem 3 (tm 10) (.const (.int .i64 64))),
 sm 6 12 (.bin .neq 3 (tm 11) (.const (.int .i64 0)))])
 (.cond (tm 12) .skip (.exit 0)))
 (.block 1 (.reg [sv 0 13 3,
 sm 1 14 (.bsl 1 [.int .u8 0] 1 [(0, (.const (.int .u8 0)))]),
 sm 2 15 (.app 1 1 (tm 13) (tm 14)),
 sv 3 3 15])))
def l187_1 : Cd := (.seq (.seq (.reg [sv 0 16 4,
 sm 1 17 (.bin .geq 3 (tm 16) (.const (.int .i64 0)))])
 (.cond (tm 17) .skip (.exit 2)))
 (.seq (.block 3 (.reg [sv 0 20 3,
 sv 1 21 0,
 sm 2 22 (.cint .u64 (tm 21)),
 sm 3 23 (.bin .mul 47 (.const (.int .u64 8)) (tm 22)),
 sv 4 24 4,
 sm 5 25 (.bin .mul 3 (.const (.int .i64 8)) (tm 24)),
 sm 6 26 (.bin .shr 47 (tm 23) (tm 25)),
 sm 7 27 (.cint .u8 (tm 26)),
 sm 8 28 (.bsl 1 [.int .u8 0] 1 [(0, (tm 27))]),
 sm 9 29 (.app 1 1 (tm 20) (tm 28)),
 sv 10 3 29]))
 (.reg [sv 0 18 4,
 sm 1 19 (.bin .sub 3 (tm 18) (.const (.int .i64 1))),
 sv 2 4 19])))
def c187 : Cd := (.seq (.reg [sm 0 2 (.mv (.const (.slice none 0 0)))])
 (.seq (.reg [sm 0 5 (.bsl 1 [.int .u8 0] 1 [(0, (.const (.int .u8 128)))]),
 sv 1 3 5])
 (.seq (.block 0 (.loop l187_0))
 (.seq (.seq (.reg [sm 0 4 (.mv (.const (.int .i64 7)))])
 (.block 2 (.loop l187_1)))
 (.seq (.reg [sv 0 30 3,
 sv 1 2 30])
 .ret)))))
def r187 : List Mo := [.mv (tm 2)]
theorem c187_eq : compF Tryz.prog 187 = some c187 := by kernel_rfl
theorem r187_eq : compRs Tryz.prog 187 = some r187 := by kernel_rfl
def l188_0 : Cd := (.seq (.seq (.reg [sv 0 11 0,
 sm 1 12 (.bin .gtr 47 (tm 11) (.const (.int .u64 0)))])
 (.cond (tm 12) .skip (.exit 0)))
 (.block 1 (.seq (.reg [sv 0 13 3,
 sv 1 14 0,
 sm 2 15 (.bin .rem 47 (tm 14) (.const (.int .u64 256))),
 sm 3 16 (.cint .u8 (tm 15)),
 sm 4 17 (.bsl 1 [.int .u8 0] 1 [(0, (tm 16))]),
 sm 5 18 (.app 1 1 (tm 13) (tm 17)),
 sv 6 3 18])
 (.reg [sv 0 19 0,
 sm 1 20 (.bin .quo 47 (tm 19) (.const (.int .u64 256))),
 sv 2 0 20]))))
def l188_1 : Cd := (.seq (.seq (.reg [sv 0 29 5,
 sm 1 30 (.bin .geq 3 (tm 29) (.const (.int .i64 0)))])
 (.cond (tm 30) .skip (.exit 2)))
 (.seq (.block 3 (.reg [sv 0 33 4,
 sv 1 34 3,
 sv 2 35 5,
 sm 3 36 (.ia (.sl 1) (tm 34) (tm 35)),
 sm 4 37 (.ld1 (tm 36)),
 sm 5 38 (.bsl 1 [.int .u8 0] 1 [(0, (tm 37))]),
 sm 6 39 (.app 1 1 (tm 33) (tm 38)),
 sv 7 4 39]))
 (.reg [sv 0 31 5,
 sm 1 32 (.bin .sub 3 (tm 31) (.const (.int .i64 1))),
 sv 2 5 32])))
def c188 : Cd := (.seq (.reg [sm 0 2 (.mv (.const (.slice none 0 0)))])
 (.seq (.seq (.reg [sv 0 6 0,
 sm 1 7 (.bin .leq 47 (tm 6) (.const (.int .u64 247)))])
 (.cond (tm 7) (.seq (.reg [sv 0 8 0,
 sm 1 9 (.cint .u8 (tm 8)),
 sm 2 10 (.bsl 1 [.int .u8 0] 1 [(0, (tm 9))]),
 sv 3 2 10])
 .ret) .skip))
 (.seq (.reg [sm 0 3 (.mv (.const (.slice none 0 0)))])
 (.seq (.block 0 (.loop l188_0))
 (.seq (.reg [sv 0 21 3,
 sm 1 22 (.len (.sl 1) (tm 21)),
 sm 2 23 (.bin .add 3 (.const (.int .i64 247)) (tm 22)),
 sm 3 24 (.cint .u8 (tm 23)),
 sm 4 25 (.bsl 1 [.int .u8 0] 1 [(0, (tm 24))]),
 sv 5 4 25])
 (.seq (.seq (.reg [sv 0 26 3,
 sm 1 27 (.len (.sl 1) (tm 26)),
 sm 2 28 (.bin .sub 3 (tm 27) (.const (.int .i64 1))),
 sv 3 5 28])
 (.block 2 (.loop l188_1)))
 (.seq (.reg [sv 0 40 4,
 sv 1 2 40])
 .ret)))))))
def r188 : List Mo := [.mv (tm 2)]
theorem c188_eq : compF Tryz.prog 188 = some c188 := by kernel_rfl
theorem r188_eq : compRs Tryz.prog 188 = some r188 := by kernel_rfl
def l189_0 : Cd := (.seq (.seq (.reg [sv 0 6 5,
 sm 1 7 (.bin .lss 3 (tm 6) (.const (.int .i64 32)))])
 (.cond (tm 7) .skip (.exit 0)))
 (.seq (.block 1 (.seq (.seq (.reg [sv 0 10 5,
 sm 1 11 (.ia (.arr 32 1) (tm 2) (tm 10)),
 sm 2 12 (.ld1 (tm 11)),
 sv 3 13 5,
 sm 4 14 (.ia (.arr 32 1) (tm 3) (tm 13)),
 sm 5 15 (.ld1 (tm 14)),
 sm 6 16 (.bin .lss 5 (tm 12) (tm 15))])
 (.cond (tm 16) (.seq (.reg [sm 0 4 (.mv (.const (.int .i64 (-1))))])
 .ret) .skip))
 (.seq (.reg [sv 0 17 5,
 sm 1 18 (.ia (.arr 32 1) (tm 2) (tm 17)),
 sm 2 19 (.ld1 (tm 18)),
 sv 3 20 5,
 sm 4 21 (.ia (.arr 32 1) (tm 3) (tm 20)),
 sm 5 22 (.ld1 (tm 21)),
 sm 6 23 (.bin .gtr 5 (tm 19) (tm 22))])
 (.cond (tm 23) (.seq (.reg [sm 0 4 (.mv (.const (.int .i64 1)))])
 .ret) .skip))))
 (.reg [sv 0 8 5,
 sm 1 9 (.bin .add 3 (tm 8) (.const (.int .i64 1))),
 sv 2 5 9])))
def c189 : Cd := (.seq (.reg [sm 0 2 (.box (tm 0)),
 sm 1 3 (.box (tm 1)),
 sm 2 4 (.mv (.const (.int .i64 0)))])
 (.seq (.seq (.reg [sm 0 5 (.mv (.const (.int .i64 0)))])
 (.block 0 (.loop l189_0)))
 (.seq (.reg [sm 0 4 (.mv (.const (.int .i64 0)))])
 .ret)))
def r189 : List Mo := [.mv (tm 4)]
theorem c189_eq : compF Tryz.prog 189 = some c189 := by kernel_rfl
theorem r189_eq : compRs Tryz.prog 189 = some r189 := by kernel_rfl
def c192 : Cd := (.seq (.reg [sm 0 2 (.mv (.const (.int .u32 0)))])
 (.seq (.reg [sv 0 3 0,
 sc 1 4 229 [(.const (.int .u32 4)), (tm 3)],
 sv 2 2 4])
 .ret))
def r192 : List Mo := [.mv (tm 2)]
theorem c192_eq : compF Tryz.prog 192 = some c192 := by kernel_rfl
theorem r192_eq : compRs Tryz.prog 192 = some r192 := by kernel_rfl
def c193 : Cd := (.seq (.reg [sm 0 4 (.mv (.const (.int .u32 0)))])
 (.seq (.reg [sm 0 6 (.bsl 1 [.int .u8 0] 1 [(0, (.const (.int .u8 110)))]),
 sv 1 7 0,
 sc 2 8 232 [(tm 7)],
 sm 3 9 (.app 1 1 (tm 6) (tm 8)),
 sv 4 5 9])
 (.seq (.reg [sv 0 10 5,
 sv 1 11 1,
 sm 2 12 (.app 1 1 (tm 10) (tm 11)),
 sc 3 13 233 [(tm 12)],
 sm 4 14 (.bin .rem 47 (tm 13) (.const (.int .u64 500000002))),
 sm 5 15 (.cint .u32 (tm 14)),
 sm 6 16 (.bin .add 46 (tm 15) (.const (.int .u32 1))),
 sv 7 4 16])
 .ret)))
def r193 : List Mo := [.mv (tm 4)]
theorem c193_eq : compF Tryz.prog 193 = some c193 := by kernel_rfl
theorem r193_eq : compRs Tryz.prog 193 = some r193 := by kernel_rfl
def c194 : Cd := (.seq (.reg [sm 0 6 (.mv (.const (.int .u32 0)))])
 (.seq (.reg [sm 0 8 (.bsl 1 [.int .u8 0] 1 [(0, (.const (.int .u8 99)))]),
 sv 1 9 0,
 sc 2 10 232 [(tm 9)],
 sm 3 11 (.app 1 1 (tm 8) (tm 10)),
 sv 4 12 1,
 sc 5 13 232 [(tm 12)],
 sm 6 14 (.app 1 1 (tm 11) (tm 13)),
 sv 7 7 14])
 (.seq (.reg [sv 0 15 7,
 sv 1 16 2,
 sm 2 17 (.app 1 1 (tm 15) (tm 16)),
 sc 3 18 233 [(tm 17)],
 sm 4 19 (.bin .rem 47 (tm 18) (.const (.int .u64 500000003))),
 sm 5 20 (.cint .u32 (tm 19)),
 sv 6 6 20])
 .ret)))
def r194 : List Mo := [.mv (tm 6)]
theorem c194_eq : compF Tryz.prog 194 = some c194 := by kernel_rfl
theorem r194_eq : compRs Tryz.prog 194 = some r194 := by kernel_rfl
def c195 : Cd := (.seq (.reg [sm 0 4 (.mv (.const (.int .u32 0)))])
 (.seq (.reg [sv 0 5 0,
 sm 1 6 (.cint .u64 (tm 5)),
 sv 2 7 1,
 sm 3 8 (.cint .u64 (tm 7)),
 sm 4 9 (.bin .add 47 (tm 6) (tm 8)),
 sm 5 10 (.bin .rem 47 (tm 9) (.const (.int .u64 500000003))),
 sm 6 11 (.cint .u32 (tm 10)),
 sv 7 4 11])
 .ret))
def r195 : List Mo := [.mv (tm 4)]
theorem c195_eq : compF Tryz.prog 195 = some c195 := by kernel_rfl
theorem r195_eq : compRs Tryz.prog 195 = some r195 := by kernel_rfl
def c196 : Cd := (.seq (.reg [sm 0 4 (.mv (.const (.int .u32 0)))])
 (.seq (.reg [sv 0 5 0,
 sm 1 6 (.cint .u64 (tm 5)),
 sv 2 7 1,
 sm 3 8 (.cint .u64 (tm 7)),
 sm 4 9 (.bin .mul 47 (tm 6) (tm 8)),
 sm 5 10 (.bin .rem 47 (tm 9) (.const (.int .u64 500000003))),
 sm 6 11 (.cint .u32 (tm 10)),
 sv 7 4 11])
 .ret))
def r196 : List Mo := [.mv (tm 4)]
theorem c196_eq : compF Tryz.prog 196 = some c196 := by kernel_rfl
theorem r196_eq : compRs Tryz.prog 196 = some r196 := by kernel_rfl
def l197_0 : Cd := (.seq (.seq (.reg [sv 0 9 4,
 sv 1 10 0,
 sm 2 11 (.len (.sl 32) (tm 10)),
 sm 3 12 (.bin .lss 3 (tm 9) (tm 11))])
 (.cond (tm 12) .skip (.exit 0)))
 (.seq (.block 1 (.reg [sv 0 15 3,
 sv 1 16 0,
 sv 2 17 4,
 sm 3 18 (.ia (.sl 32) (tm 16) (tm 17)),
 sm 4 19 (.slice (.arr 32 1) (tm 18) none none none),
 sm 5 20 (.app 1 1 (tm 15) (tm 19)),
 sv 6 3 20]))
 (.reg [sv 0 13 4,
 sm 1 14 (.bin .add 3 (tm 13) (.const (.int .i64 1))),
 sv 2 4 14])))
def c197 : Cd := (.seq (.reg [sm 0 2 (.mv (.const (.slice none 0 0)))])
 (.seq (.reg [sv 0 5 0,
 sm 1 6 (.len (.sl 32) (tm 5)),
 sm 2 7 (.cint .u64 (tm 6)),
 sc 3 8 188 [(tm 7)],
 sv 4 3 8])
 (.seq (.seq (.reg [sm 0 4 (.mv (.const (.int .i64 0)))])
 (.block 0 (.loop l197_0)))
 (.seq (.reg [sv 0 21 3,
 sv 1 2 21])
 .ret))))
def r197 : List Mo := [.mv (tm 2)]
theorem c197_eq : compF Tryz.prog 197 = some c197 := by kernel_rfl
theorem r197_eq : compRs Tryz.prog 197 = some r197 := by kernel_rfl
def c198 : Cd := (.seq (.reg [sm 0 2 (.mv (.const (.slice none 0 0)))])
 (.seq (.reg [sv 0 3 0,
 sm 1 4 (.len (.sl 1) (tm 3)),
 sm 2 5 (.cint .u64 (tm 4)),
 sc 3 6 188 [(tm 5)],
 sv 4 7 0,
 sm 5 8 (.app 1 1 (tm 6) (tm 7)),
 sv 6 2 8])
 .ret))
def r198 : List Mo := [.mv (tm 2)]
theorem c198_eq : compF Tryz.prog 198 = some c198 := by kernel_rfl
theorem r198_eq : compRs Tryz.prog 198 = some r198 := by kernel_rfl
def l200_0 : Cd := (.block 1 (.seq (.reg [sv 0 21 2,
 sv 1 22 1,
 sm 2 23 (.bin .sub 3 (tm 21) (tm 22)),
 sv 3 12 23])
 (.seq (.seq (.reg [sv 0 24 12,
 sm 1 25 (.bin .leq 3 (tm 24) (.const (.int .i64 12)))])
 (.cond (tm 25) (.seq (.reg [sv 0 26 0,
 sv 1 27 1,
 sv 2 28 2,
 sv 3 29 4,
 sc 4 30 235 [(tm 26), (tm 27), (tm 28), (tm 29)]])
 .ret) .skip))
 (.seq (.seq (.reg [sv 0 31 3,
 sm 1 32 (.bin .eql 3 (tm 31) (.const (.int .i64 0)))])
 (.cond (tm 32) (.seq (.reg [sv 0 33 0,
 sv 1 34 1,
 sv 2 35 2,
 sv 3 36 4,
 sc 4 37 236 [(tm 33), (tm 34), (tm 35), (tm 36)]])
 .ret) .skip))
 (.seq (.seq (.reg [sv 0 38 10,
 sm 1 39 (.un .not (tm 38))])
 (.cond (tm 39) (.seq (.reg [sv 0 40 0,
 sv 1 41 1,
 sv 2 42 2,
 sv 3 43 4,
 sc 4 44 237 [(tm 40), (tm 41), (tm 42), (tm 43)]])
 (.reg [sv 0 45 3,
 sm 1 46 (.bin .sub 3 (tm 45) (.const (.int .i64 1))),
 sv 2 3 46])) .skip))
 (.seq (.reg [sv 0 48 0,
 sv 1 49 1,
 sv 2 50 2,
 sv 3 51 4,
 sc 4 52 238 [(tm 48), (tm 49), (tm 50), (tm 51)],
 sv 5 47 52,
 sm 6 53 (.ext (tm 47) 0),
 sm 7 54 (.ext (tm 47) 1),
 sv 8 13 53,
 sv 9 14 54])
 (.seq (.seq (.reg [sv 0 55 14,
 sm 1 56 (.bin .eql 287 (tm 55) (.const (.int .i64 2)))])
 (.cond (tm 56) (.seq (.reg [sv 0 57 0,
 sv 1 58 1,
 sv 2 59 2,
 sv 3 60 4,
 sc 4 61 239 [(tm 57), (tm 58), (tm 59), (tm 60)]])
 (.seq (.reg [sv 0 62 2,
 sm 1 63 (.bin .sub 3 (tm 62) (.const (.int .i64 1))),
 sv 2 64 13,
 sv 3 65 1,
 sm 4 66 (.bin .sub 3 (tm 64) (tm 65)),
 sm 5 67 (.bin .sub 3 (tm 63) (tm 66)),
 sv 6 13 67])
 (.reg [sm 0 14 (.mv (.const (.int .i64 1)))]))) .skip))
 (.seq (.seq (.reg [sv 0 68 10,
 sv 1 69 68,
 sg 2 70 69 true (.mv (tm 11)),
 sm 3 71 (.pick (tm 69) (tm 70) (.const (.bool false))),
 sv 4 72 71,
 sg 5 73 72 true (.mv (tm 14)),
 sg 6 74 72 true (.bin .eql 287 (tm 73) (.const (.int .i64 1))),
 sm 7 75 (.pick (tm 72) (tm 74) (.const (.bool false)))])
 (.cond (tm 75) (.seq (.reg [sv 0 76 0,
 sv 1 77 1,
 sv 2 78 2,
 sv 3 79 4,
 sc 4 80 240 [(tm 76), (tm 77), (tm 78), (tm 79)]])
 (.cond (tm 80) .ret .skip)) .skip))
 (.seq (.seq (.reg [sv 0 81 1,
 sm 1 82 (.bin .gtr 3 (tm 81) (.const (.int .i64 0))),
 sv 2 83 82,
 sg 3 84 83 true (.mv (tm 4)),
 sg 4 85 83 true (.mv (tm 0)),
 sg 5 86 83 true (.mv (tm 1)),
 sg 6 87 83 true (.bin .sub 3 (tm 86) (.const (.int .i64 1))),
 sg 7 88 83 true (.ia (.sl 32) (tm 85) (tm 87)),
 sg 8 89 83 true (.ldA 32 (tm 88)),
 sg 9 90 83 true (.mv (tm 0)),
 sg 10 91 83 true (.mv (tm 13)),
 sg 11 92 83 true (.ia (.sl 32) (tm 90) (tm 91)),
 sg 12 93 83 true (.ldA 32 (tm 92)),
 ⟨13, (some 94), (some ((some 83), true)), .callV (tm 84) [(tm 89), (tm 93)], [], false⟩,
 sg 14 95 83 true (.bin .lss 3 (tm 94) (.const (.int .i64 0))),
 sg 15 96 83 true (.un .not (tm 95)),
 sm 16 97 (.pick (tm 83) (tm 96) (.const (.bool false)))])
 (.cond (tm 97) (.seq (.reg [sv 0 98 0,
 sv 1 99 1,
 sv 2 100 2,
 sv 3 101 13,
 sv 4 102 4,
 sc 5 103 241 [(tm 98), (tm 99), (tm 100), (tm 101), (tm 102)],
 sv 6 15 103])
 (.seq (.reg [sv 0 104 15,
 sv 1 1 104])
 (.exit 1))) .skip))
 (.seq (.reg [sv 0 106 0,
 sv 1 107 1,
 sv 2 108 2,
 sv 3 109 13,
 sv 4 110 4,
 sc 5 111 242 [(tm 106), (tm 107), (tm 108), (tm 109), (tm 110)],
 sv 6 105 111,
 sm 7 112 (.ext (tm 105) 0),
 sm 8 113 (.ext (tm 105) 1),
 sv 9 16 112,
 sv 10 17 113])
 (.seq (.reg [sv 0 114 17,
 sv 1 11 114])
 (.seq (.reg [sv 0 115 16,
 sv 1 116 1,
 sm 2 117 (.bin .sub 3 (tm 115) (tm 116)),
 sv 3 118 2,
 sv 4 119 16,
 sm 5 120 (.bin .sub 3 (tm 118) (tm 119)),
 sv 6 18 117,
 sv 7 19 120])
 (.seq (.reg [sv 0 121 12,
 sm 1 122 (.bin .quo 3 (tm 121) (.const (.int .i64 8))),
 sv 2 20 122])
 (.seq (.reg [sv 0 123 18,
 sv 1 124 19,
 sm 2 125 (.bin .lss 3 (tm 123) (tm 124))])
 (.cond (tm 125) (.seq (.reg [sv 0 126 18,
 sv 1 127 20,
 sm 2 128 (.bin .geq 3 (tm 126) (tm 127)),
 sv 3 10 128])
 (.seq (.reg [sv 0 129 0,
 sv 1 130 1,
 sv 2 131 16,
 sv 3 132 3,
 sv 4 133 4,
 sc 5 134 200 [(tm 129), (tm 130), (tm 131), (tm 132), (tm 133)]])
 (.reg [sv 0 135 16,
 sm 1 136 (.bin .add 3 (tm 135) (.const (.int .i64 1))),
 sv 2 1 136]))) (.seq (.reg [sv 0 137 19,
 sv 1 138 20,
 sm 2 139 (.bin .geq 3 (tm 137) (tm 138)),
 sv 3 10 139])
 (.seq (.reg [sv 0 140 0,
 sv 1 141 16,
 sm 2 142 (.bin .add 3 (tm 141) (.const (.int .i64 1))),
 sv 3 143 2,
 sv 4 144 3,
 sv 5 145 4,
 sc 6 146 200 [(tm 140), (tm 142), (tm 143), (tm 144), (tm 145)]])
 (.reg [sv 0 147 16,
 sv 1 2 147]))))))))))))))))))
def c200 : Cd := (.seq (.reg [sm 0 10 (.mv (.const (.bool true)))])
 (.seq (.reg [sm 0 11 (.mv (.const (.bool true)))])
 (.block 0 (.loop l200_0))))
def r200 : List Mo := []
theorem c200_eq : compF Tryz.prog 200 = some c200 := by kernel_rfl
theorem r200_eq : compRs Tryz.prog 200 = some r200 := by kernel_rfl
def c201 : Cd := (.seq (.reg [sm 0 2 (.mv (.const (.int .i64 0)))])
 (.seq (.cond (.const (.bool false)) (.seq (.reg [sv 0 3 0,
 sm 1 4 (.cint .u32 (tm 3)),
 sc 2 5 243 [(tm 4)],
 sv 3 2 5])
 .ret) .skip)
 (.seq (.reg [sv 0 6 0,
 sc 1 7 220 [(tm 6)],
 sv 2 2 7])
 .ret)))
def r201 : List Mo := [.mv (tm 2)]
theorem c201_eq : compF Tryz.prog 201 = some c201 := by kernel_rfl
theorem r201_eq : compRs Tryz.prog 201 = some r201 := by kernel_rfl
def c202 : Cd := (.seq (.reg [sm 0 4 (.mv (.const (.int .i64 0)))])
 (.seq (.reg [sv 0 5 0,
 sv 1 6 1,
 sm 2 7 (.cmpB 244 (.func 244) (tm 5) (tm 6)),
 sv 3 4 7])
 .ret))
def r202 : List Mo := [.mv (tm 4)]
theorem c202_eq : compF Tryz.prog 202 = some c202 := by kernel_rfl
theorem r202_eq : compRs Tryz.prog 202 = some r202 := by kernel_rfl
def c203 : Cd := (.seq (.reg [sm 0 1 (.box (tm 0)),
 sm 1 2 (.mv (.const (.bool false)))])
 (.seq (.reg [sm 0 4 (.fa 2 (tm 1)),
 sm 1 5 (.ldA 11 (tm 4)),
 sm 2 3 (.alloc [.int .u32 0, .nilS, .int .u64 0, .int .u8 0, .str [], .int .u8 0, .int .i64 0, .int .u64 0, .str [], .int .u32 0, .int .u32 0]),
 se 3 (.st 11 (tm 3) (tm 5))])
 (.seq (.reg [sm 0 6 (.fa 0 (tm 3)),
 sm 1 7 (.ld1 (tm 6)),
 sm 2 8 (.bin .eql 46 (tm 7) (.const (.int .u32 0))),
 sv 3 9 8,
 sg 4 10 9 true (.fa 1 (tm 3)),
 sg 5 11 9 true (.ld1 (tm 10)),
 sg 6 12 9 true (.len (.sl 32) (tm 11)),
 sg 7 13 9 true (.bin .eql 3 (tm 12) (.const (.int .i64 0))),
 sm 8 14 (.pick (tm 9) (tm 13) (.const (.bool false))),
 sv 9 15 14,
 sg 10 16 15 true (.fa 2 (tm 3)),
 sg 11 17 15 true (.ld1 (tm 16)),
 sg 12 18 15 true (.bin .eql 47 (tm 17) (.const (.int .u64 0))),
 sm 13 19 (.pick (tm 15) (tm 18) (.const (.bool false))),
 sv 14 20 19,
 sg 15 21 20 true (.fa 3 (tm 3)),
 sg 16 22 20 true (.ldA 6 (tm 21)),
 sg 17 23 20 true (.bld [.int .u8 0, .str [], .int .u8 0, .int .i64 0, .int .u64 0, .str []] []),
 sg 18 24 20 true (.bin .eql 51 (tm 22) (tm 23)),
 sm 19 25 (.pick (tm 20) (tm 24) (.const (.bool false))),
 sv 20 26 25,
 sg 21 27 26 true (.fa 9 (tm 3)),
 sg 22 28 26 true (.ldA 2 (tm 27)),
 sg 23 29 26 true (.bld [.int .u32 0, .int .u32 0] []),
 sg 24 30 26 true (.bin .eql 53 (tm 28) (tm 29)),
 sm 25 31 (.pick (tm 26) (tm 30) (.const (.bool false))),
 sv 26 32 31,
 sg 27 33 32 true (.fa 13 (tm 1)),
 sg 28 34 32 true (.ldA 32 (tm 33)),
 sg 29 35 32 true (.bld (rep 32 (.int .u8 0)) []),
 sg 30 36 32 true (.bin .eql 57 (tm 34) (tm 35)),
 sm 31 37 (.pick (tm 32) (tm 36) (.const (.bool false))),
 sv 32 2 37])
 .ret)))
def r203 : List Mo := [.mv (tm 2)]
theorem c203_eq : compF Tryz.prog 203 = some c203 := by kernel_rfl
theorem r203_eq : compRs Tryz.prog 203 = some r203 := by kernel_rfl
def l205_0 : Cd := (.seq (.reg [sm 0 19 (.bin .lss 3 (tm 18) (tm 17))])
 (.seq (.cond (tm 19) .skip (.exit 0))
 (.seq (.block 1 (.seq (.reg [sm 0 20 (.ia (.sl 1) (tm 16) (tm 18)),
 sm 1 21 (.ld1 (tm 20)),
 sv 2 6 21])
 (.reg [sm 0 22 (.ldA 10 (tm 4)),
 sv 1 23 6,
 sc 2 24 248 [(tm 22), (tm 23)],
 se 3 (.st 10 (tm 4) (tm 24))])))
 (.reg [sm 0 25 (.bin .add 3 (tm 18) (.const (.int .i64 1))),
 sv 1 18 25]))))
def c205 : Cd := (.seq (.reg [sm 0 2 (.alloc (rep 32 (.int .u8 0))),
 sm 1 3 (.mv (.const (.int .i64 0)))])
 (.seq (.seq (.reg [sv 0 7 0,
 sm 1 8 (.len (.sl 1) (tm 7)),
 sm 2 9 (.bin .gtr 3 (tm 8) (.const (.int .i64 20))),
 sv 3 10 9,
 sg 4 11 10 false (.mv (tm 0)),
 ⟨5, (some 12), (some ((some 10), false)), .callF 245 [(tm 11), (.func 246)], [], false⟩,
 sm 6 13 (.pick (tm 10) (.const (.bool true)) (tm 12))])
 (.cond (tm 13) (.seq (.reg [sm 0 14 (.bld (rep 32 (.int .u8 0)) []),
 se 1 (.st 32 (tm 2) (tm 14)),
 sm 2 3 (.mv (.const (.int .i64 4)))])
 .ret) .skip))
 (.seq (.reg [sc 0 15 247 [],
 sm 1 4 (.alloc [.int .u32 0, .int .u32 0, .int .u32 0, .int .u32 0, .int .u32 0, .int .u32 0, .int .u32 0, .int .u32 0, .nilS, .int .i64 0]),
 se 2 (.st 10 (tm 4) (tm 15))])
 (.seq (.seq (.reg [sv 0 16 0,
 sm 1 17 (.len (.sl 1) (tm 16)),
 sm 2 18 (.mv (.const (.int .i64 0)))])
 (.block 0 (.loop l205_0)))
 (.seq (.reg [sm 0 26 (.ldA 10 (tm 4)),
 sc 1 27 249 [(tm 26)],
 se 2 (.st 32 (tm 2) (tm 27)),
 sm 3 3 (.mv (.const (.int .i64 0)))])
 .ret)))))
def r205 : List Mo := [.ldA 32 (tm 2), .mv (tm 3)]
theorem c205_eq : compF Tryz.prog 205 = some c205 := by kernel_rfl
theorem r205_eq : compRs Tryz.prog 205 = some r205 := by kernel_rfl
def l206_0 : Cd := (.seq (.reg [sm 0 10 (.bin .lss 3 (tm 9) (tm 8))])
 (.seq (.cond (tm 10) .skip (.exit 0))
 (.seq (.block 1 (.seq (.reg [sm 0 11 (.ia (.sl 32) (tm 7) (tm 9)),
 sm 1 12 (.ldA 32 (tm 11)),
 sm 2 5 (.alloc (rep 32 (.int .u8 0))),
 se 3 (.st 32 (tm 5) (tm 12))])
 (.seq (.reg [sm 0 13 (.fa 4 (tm 2)),
 sm 1 14 (.ld1 (tm 13)),
 sm 2 15 (.ldA 32 (tm 5)),
 sc 3 16 66 [(tm 14), (tm 15)],
 sm 4 17 (.un .not (tm 16)),
 sv 5 18 17,
 sg 6 19 18 true (.mv (tm 0)),
 sg 7 20 18 true (.ldA 32 (tm 5)),
 ⟨8, (some 21), (some ((some 18), true)), .callV (tm 19) [(tm 20)], [], false⟩,
 sg 9 22 18 true (.un .not (tm 21)),
 sm 10 23 (.pick (tm 18) (tm 22) (.const (.bool false)))])
 (.cond (tm 23) .ret .skip))))
 (.reg [sm 0 24 (.bin .add 3 (tm 9) (.const (.int .i64 1))),
 sv 1 9 24]))))
def c206 : Cd := (.seq (.reg [sm 0 6 (.fa 1 (tm 1)),
 sm 1 7 (.ld1 (tm 6)),
 sm 2 8 (.len (.sl 32) (tm 7)),
 sm 3 9 (.mv (.const (.int .i64 0)))])
 (.block 0 (.loop l206_0)))
def r206 : List Mo := []
theorem c206_eq : compF Tryz.prog 206 = some c206 := by kernel_rfl
theorem r206_eq : compRs Tryz.prog 206 = some r206 := by kernel_rfl
def l207_0 : Cd := (.seq (.reg [sm 0 25 (.bin .lss 3 (tm 24) (tm 23))])
 (.seq (.cond (tm 25) .skip (.exit 0))
 (.seq (.block 1 (.seq (.reg [sv 0 26 24,
 sm 1 27 (.ia (.sl 2) (tm 22) (tm 24)),
 sm 2 28 (.ldA 2 (tm 27)),
 sm 3 5 (.alloc [.int .i64 0]),
 sm 4 6 (.alloc [.nilS, .nilS]),
 se 5 (.st 1 (tm 5) (tm 26)),
 se 6 (.st 2 (tm 6) (tm 28))])
 (.seq (.reg [sm 0 29 (.fa 0 (tm 6)),
 sm 1 30 (.ld1 (tm 29)),
 sm 2 31 (.mkF 250 [] [(tm 4), (tm 5)]),
 sc 3 32 88 [(tm 30), (tm 31)]])
 (.cond (tm 32) (.seq (.reg [sm 0 33 (.bld [.nilS, .nilS] []),
 se 1 (.st 2 (tm 2) (tm 33)),
 sm 2 3 (.mv (.const (.int .i64 8)))])
 .ret) .skip))))
 (.reg [sm 0 34 (.bin .add 3 (tm 24) (.const (.int .i64 1))),
 sv 1 24 34]))))
def c207 : Cd := (.seq (.reg [sm 0 1 (.box (tm 0)),
 sm 1 2 (.alloc [.nilS, .nilS]),
 sm 2 3 (.mv (.const (.int .i64 0)))])
 (.seq (.reg [sm 0 11 (.fa 0 (tm 1)),
 sm 1 12 (.ld1 (tm 11)),
 sm 2 13 (.len (.sl 2) (tm 12)),
 sm 3 4 (.alloc [.int .i64 0]),
 se 4 (.st 1 (tm 4) (tm 13))])
 (.seq (.seq (.reg [sm 0 14 (.ld1 (tm 4)),
 sm 1 15 (.bin .lss 3 (tm 14) (.const (.int .i64 1))),
 sv 2 16 15,
 sg 3 17 16 false (.ld1 (tm 4)),
 sg 4 18 16 false (.bin .gtr 3 (tm 17) (.const (.int .i64 4))),
 sm 5 19 (.pick (tm 16) (.const (.bool true)) (tm 18))])
 (.cond (tm 19) (.seq (.reg [sm 0 20 (.bld [.nilS, .nilS] []),
 se 1 (.st 2 (tm 2) (tm 20)),
 sm 2 3 (.mv (.const (.int .i64 8)))])
 .ret) .skip))
 (.seq (.seq (.reg [sm 0 21 (.fa 0 (tm 1)),
 sm 1 22 (.ld1 (tm 21)),
 sm 2 23 (.len (.sl 2) (tm 22)),
 sm 3 24 (.mv (.const (.int .i64 0)))])
 (.block 0 (.loop l207_0)))
 (.seq (.reg [sm 0 36 (.ldA 3 (tm 1)),
 sc 1 37 251 [(tm 36)],
 sv 2 35 37,
 sm 3 38 (.ext (tm 35) 0),
 sm 4 39 (.ext (tm 35) 1),
 sm 5 7 (.alloc [.nilS, .nilS]),
 se 6 (.st 2 (tm 7) (tm 38)),
 sv 7 8 39])
 (.seq (.seq (.reg [sv 0 40 8,
 sm 1 41 (.un .not (tm 40)),
 sv 2 42 41,
 sg 3 43 42 false (.ldA 2 (tm 7)),
 ⟨4, (some 44), (some ((some 42), false)), .callF 252 [(tm 43)], [], false⟩,
 sg 5 45 42 false (.bin .neq 38 (tm 44) (.const (.int .i64 0))),
 sm 6 46 (.pick (tm 42) (.const (.bool true)) (tm 45)),
 sv 7 47 46,
 sg 8 48 47 false (.fa 2 (tm 1)),
 sg 9 49 47 false (.ld1 (tm 48)),
 sg 10 50 47 false (.fa 0 (tm 7)),
 sg 11 51 47 false (.ld1 (tm 50)),
 sg 12 52 47 false (.len (.sl 32) (tm 51)),
 sg 13 53 47 false (.bin .neq 3 (tm 49) (tm 52)),
 sm 14 54 (.pick (tm 47) (.const (.bool true)) (tm 53))])
 (.cond (tm 54) (.seq (.reg [sm 0 55 (.bld [.nilS, .nilS] []),
 se 1 (.st 2 (tm 2) (tm 55)),
 sm 2 3 (.mv (.const (.int .i64 8)))])
 .ret) .skip))
 (.seq (.seq (.reg [sm 0 57 (.ldA 2 (tm 7)),
 sc 1 58 253 [(tm 57)],
 sv 2 56 58,
 sm 3 59 (.ext (tm 56) 0),
 sm 4 60 (.ext (tm 56) 1),
 sv 5 9 59,
 sv 6 10 60])
 (.seq (.reg [sv 0 61 10,
 sm 1 62 (.bin .neq 38 (tm 61) (.const (.int .i64 0))),
 sv 2 63 62,
 sg 3 64 63 false (.mv (tm 9)),
 sg 4 65 63 false (.fa 1 (tm 1)),
 sg 5 66 63 false (.ld1 (tm 65)),
 ⟨6, (some 67), (some ((some 63), false)), .callF 67 [(tm 64), (tm 66)], [], false⟩,
 sg 7 68 63 false (.un .not (tm 67)),
 sm 8 69 (.pick (tm 63) (.const (.bool true)) (tm 68))])
 (.cond (tm 69) (.seq (.reg [sm 0 70 (.bld [.nilS, .nilS] []),
 se 1 (.st 2 (tm 2) (tm 70)),
 sm 2 3 (.mv (.const (.int .i64 8)))])
 .ret) .skip)))
 (.seq (.reg [sm 0 71 (.ldA 2 (tm 7)),
 se 1 (.st 2 (tm 2) (tm 71)),
 sm 2 3 (.mv (.const (.int .i64 0)))])
 .ret))))))))
def r207 : List Mo := [.ldA 2 (tm 2), .mv (tm 3)]
theorem c207_eq : compF Tryz.prog 207 = some c207 := by kernel_rfl
theorem r207_eq : compRs Tryz.prog 207 = some r207 := by kernel_rfl
def c208 : Cd := (.seq (.reg [sm 0 2 (.box (tm 0)),
 sm 1 4 (.mv (.const (.int .i64 0)))])
 (.seq (.reg [sm 0 5 (.ia (.arr 32 1) (tm 2) (.const (.int .i64 0))),
 sm 1 6 (.ld1 (tm 5)),
 sm 2 7 (.cint .i64 (tm 6)),
 sv 3 8 1,
 sm 4 9 (.bin .rem 3 (tm 7) (tm 8)),
 sv 5 4 9])
 .ret))
def r208 : List Mo := [.mv (tm 4)]
theorem c208_eq : compF Tryz.prog 208 = some c208 := by kernel_rfl
theorem r208_eq : compRs Tryz.prog 208 = some r208 := by kernel_rfl
def l215_0 : Cd := (.seq (.reg [sm 0 10 (.bin .lss 3 (tm 9) (.const (.int .i64 64)))])
 (.seq (.cond (tm 10) .skip (.exit 0))
 (.seq (.block 1 (.seq (.reg [sv 0 11 9,
 sv 1 7 11])
 (.seq (.reg [sv 0 12 6,
 ⟨1, (some 13), none, .callV (tm 12) [], [], false⟩])
 (.seq (.reg [sv 0 14 1,
 sv 1 15 7,
 sm 2 16 (.bin .sub 3 (.const (.int .i64 63)) (tm 15)),
 sm 3 17 (.bin .shr 47 (tm 14) (tm 16)),
 sm 4 18 (.bin .and 47 (tm 17) (.const (.int .u64 1))),
 sm 5 19 (.bin .eql 47 (tm 18) (.const (.int .u64 1)))])
 (.cond (tm 19) (.reg [sm 0 20 (.ld1 (tm 5)),
 sv 1 21 0,
 sm 2 22 (.bsl 1 [.int .u32 0] 2 [(0, (tm 20)), (1, (tm 21))]),
 sc 3 23 223 [(.const (.int .u64 1000000007)), (tm 22)],
 se 4 (.st 1 (tm 5) (tm 23))]) .skip)))))
 (.reg [sm 0 24 (.bin .add 3 (tm 9) (.const (.int .i64 1))),
 sv 1 9 24]))))
def c215 : Cd := (.seq (.reg [sm 0 4 (.mv (.const (.int .u32 0)))])
 (.seq (.reg [sm 0 5 (.alloc [.int .u32 0]),
 se 1 (.st 1 (tm 5) (.const (.int .u32 1)))])
 (.seq (.reg [sm 0 8 (.mkF 256 [] [(tm 5)]),
 sv 1 6 8])
 (.seq (.seq (.reg [sm 0 9 (.mv (.const (.int .i64 0)))])
 (.block 0 (.loop l215_0)))
 (.seq (.reg [sm 0 25 (.ld1 (tm 5)),
 sv 1 4 25])
 .ret)))))
def r215 : List Mo := [.mv (tm 4)]
theorem c215_eq : compF Tryz.prog 215 = some c215 := by kernel_rfl
theorem r215_eq : compRs Tryz.prog 215 = some r215 := by kernel_rfl
def c218 : Cd := (.seq (.reg [sm 0 1 (.box (tm 0)),
 sm 1 2 (.mv (.const (.bool false)))])
 (.seq (.reg [sm 0 3 (.alloc [.int .i64 0]),
 se 1 (.st 1 (tm 3) (.const (.int .i64 0)))])
 (.seq (.reg [sm 0 4 (.ld1 (tm 1)),
 sm 1 5 (.mkF 262 [] [(tm 3), (tm 1)]),
 sc 2 6 88 [(tm 4), (tm 5)],
 sm 3 7 (.un .not (tm 6)),
 sv 4 2 7])
 .ret)))
def r218 : List Mo := [.mv (tm 2)]
theorem c218_eq : compF Tryz.prog 218 = some c218 := by kernel_rfl
theorem r218_eq : compRs Tryz.prog 218 = some r218 := by kernel_rfl
def c219 : Cd := (.seq (.reg [sm 0 4 (.mv (.const (.slice none 0 0)))])
 (.seq (.seq (.reg [sv 0 5 1,
 sm 1 6 (.bin .lss 3 (tm 5) (.const (.int .i64 0)))])
 (.cond (tm 6) (.reg [sm 0 7 (.mkI 9 (.const (.string ⟨#[99, 97, 110, 110, 111, 116, 32, 98, 101, 32, 110, 101, 103, 97, 116, 105, 118, 101]⟩))),
 se 1 (.stop)]) .skip))
 (.seq (.seq (.reg [sv 0 8 1,
 sv 1 9 0,
 sm 2 10 (.cap (.sl 1) (tm 9)),
 sv 3 11 0,
 sm 4 12 (.len (.sl 1) (tm 11)),
 sm 5 13 (.bin .sub 3 (tm 10) (tm 12)),
 sm 6 14 (.bin .sub 3 (tm 8) (tm 13)),
 sv 7 1 14])
 (.seq (.reg [sv 0 15 1,
 sm 1 16 (.bin .gtr 3 (tm 15) (.const (.int .i64 0)))])
 (.cond (tm 16) (.reg [sv 0 17 0,
 sv 1 18 0,
 sm 2 19 (.cap (.sl 1) (tm 18)),
 sm 3 20 (.slice (.sl 1) (tm 17) none (some (tm 19)) none),
 sv 4 21 1,
 sm 5 22 (.appZ 1 1 [.int .u8 0] (tm 20) (tm 21)),
 sv 6 23 0,
 sm 7 24 (.len (.sl 1) (tm 23)),
 sm 8 25 (.slice (.sl 1) (tm 22) none (some (tm 24)) none),
 sv 9 0 25]) .skip)))
 (.seq (.reg [sv 0 26 0,
 sv 1 4 26])
 .ret))))
def r219 : List Mo := [.mv (tm 4)]
theorem c219_eq : compF Tryz.prog 219 = some c219 := by kernel_rfl
theorem r219_eq : compRs Tryz.prog 219 = some r219 := by kernel_rfl
def c220 : Cd := (.seq (.reg [sm 0 2 (.mv (.const (.int .i64 0)))])
 (.seq (.seq (.reg [sv 0 3 0,
 sm 1 4 (.bin .geq 47 (tm 3) (.const (.int .u64 4294967296)))])
 (.cond (tm 4) (.seq (.reg [sv 0 5 0,
 sm 1 6 (.bin .shr 47 (tm 5) (.const (.int .u64 32))),
 sv 2 0 6])
 (.reg [sm 0 2 (.mv (.const (.int .i64 32)))])) .skip))
 (.seq (.seq (.reg [sv 0 7 0,
 sm 1 8 (.bin .geq 47 (tm 7) (.const (.int .u64 65536)))])
 (.cond (tm 8) (.seq (.reg [sv 0 9 0,
 sm 1 10 (.bin .shr 47 (tm 9) (.const (.int .u64 16))),
 sv 2 0 10])
 (.reg [sv 0 11 2,
 sm 1 12 (.bin .add 3 (tm 11) (.const (.int .i64 16))),
 sv 2 2 12])) .skip))
 (.seq (.seq (.reg [sv 0 13 0,
 sm 1 14 (.bin .geq 47 (tm 13) (.const (.int .u64 256)))])
 (.cond (tm 14) (.seq (.reg [sv 0 15 0,
 sm 1 16 (.bin .shr 47 (tm 15) (.const (.int .u64 8))),
 sv 2 0 16])
 (.reg [sv 0 17 2,
 sm 1 18 (.bin .add 3 (tm 17) (.const (.int .i64 8))),
 sv 2 2 18])) .skip))
 (.seq (.reg [sv 0 19 2,
 sv 1 20 0,
 sm 2 21 (.cint .u8 (tm 20)),
 sm 3 22 (.ixT (.const (.string ⟨#[0, 1, 2, 2, 3, 3, 3, 3, 4, 4, 4, 4, 4, 4, 4, 4, 5, 5, 5, 5, 5, 5, 5, 5, 5, 5, 5, 5, 5, 5, 5, 5, 6, 6, 6, 6, 6, 6, 6, 6, 6, 6, 6, 6, 6, 6, 6, 6, 6, 6, 6, 6, 6, 6, 6, 6, 6, 6, 6, 6, 6, 6, 6, 6, 7, 7, 7, 7, 7, 7, 7, 7, 7, 7, 7, 7, 7, 7, 7, 7, 7, 7, 7, 7, 7, 7, 7, 7, 7, 7, 7, 7, 7, 7, 7, 7, 7, 7, 7, 7, 7, 7, 7, 7, 7, 7, 7, 7, 7, 7, 7, 7, 7, 7, 7, 7, 7, 7, 7, 7, 7, 7, 7, 7, 7, 7, 7, 7, 8, 8, 8, 8, 8, 8, 8, 8, 8, 8, 8, 8, 8, 8, 8, 8, 8, 8, 8, 8, 8, 8, 8, 8, 8, 8, 8, 8, 8, 8, 8, 8, 8, 8, 8, 8, 8, 8, 8, 8, 8, 8, 8, 8, 8, 8, 8, 8, 8, 8, 8, 8, 8, 8, 8, 8, 8, 8, 8, 8, 8, 8, 8, 8, 8, 8, 8, 8, 8, 8, 8, 8, 8, 8, 8, 8, 8, 8, 8, 8, 8, 8, 8, 8, 8, 8, 8, 8, 8, 8, 8, 8, 8, 8, 8, 8, 8, 8, 8, 8, 8, 8, 8, 8, 8, 8, 8, 8, 8, 8, 8, 8, 8, 8, 8, 8, 8, 8, 8, 8, 8, 8, 8, 8, 8, 8, 8, 8]⟩)) (tm 21)),
 sm 4 23 (.cint .i64 (tm 22)),
 sm 5 24 (.bin .add 3 (tm 19) (tm 23)),
 sv 6 2 24])
 .ret)))))
def r220 : List Mo := [.mv (tm 2)]
theorem c220_eq : compF Tryz.prog 220 = some c220 := by kernel_rfl
theorem r220_eq : compRs Tryz.prog 220 = some r220 := by kernel_rfl
def c221 : Cd := (.seq (.reg [sm 0 2 (.mv (.const (.slice none 0 0)))])
 (.seq (.reg [sv 0 3 0,
 sm 1 4 (.cint .u64 (tm 3)),
 sm 2 5 (.bin .shl 47 (tm 4) (.const (.int .u64 1))),
 sv 3 6 0,
 sm 4 7 (.bin .shr 2 (tm 6) (.const (.int .u64 63))),
 sm 5 8 (.cint .u64 (tm 7)),
 sm 6 9 (.bin .xor 47 (tm 5) (tm 8)),
 sc 7 10 173 [(tm 9)],
 sv 8 2 10])
 .ret))
def r221 : List Mo := [.mv (tm 2)]
theorem c221_eq : compF Tryz.prog 221 = some c221 := by kernel_rfl
theorem r221_eq : compRs Tryz.prog 221 = some r221 := by kernel_rfl
def l222_0 : Cd := (.seq (.reg [sm 0 8 (.bin .lss 3 (tm 7) (tm 6))])
 (.seq (.cond (tm 8) .skip (.exit 0))
 (.seq (.block 1 (.seq (.reg [sm 0 9 (.ia (.sl 1) (tm 5) (tm 7)),
 sm 1 10 (.ld1 (tm 9)),
 sv 2 4 10])
 (.seq (.reg [sv 0 11 4,
 sc 1 12 169 [(tm 11)],
 sm 2 13 (.un .not (tm 12))])
 (.cond (tm 13) (.seq (.reg [sm 0 2 (.mv (.const (.bool false)))])
 .ret) .skip))))
 (.reg [sm 0 14 (.bin .add 3 (tm 7) (.const (.int .i64 1))),
 sv 1 7 14]))))
def c222 : Cd := (.seq (.reg [sm 0 2 (.mv (.const (.bool false)))])
 (.seq (.seq (.reg [sv 0 5 0,
 sm 1 6 (.len (.sl 1) (tm 5)),
 sm 2 7 (.mv (.const (.int .i64 0)))])
 (.block 0 (.loop l222_0)))
 (.seq (.reg [sm 0 2 (.mv (.const (.bool true)))])
 .ret)))
def r222 : List Mo := [.mv (tm 2)]
theorem c222_eq : compF Tryz.prog 222 = some c222 := by kernel_rfl
theorem r222_eq : compRs Tryz.prog 222 = some r222 := by kernel_rfl
def l223_0 : Cd := (.seq (.reg [sm 0 11 (.bin .lss 3 (tm 10) (tm 9))])
 (.seq (.cond (tm 11) .skip (.exit 0))
 (.seq (.block 1 (.seq (.reg [sm 0 12 (.ia (.sl 1) (tm 8) (tm 10)),
 sm 1 13 (.ld1 (tm 12)),
 sv 2 7 13])
 (.reg [sv 0 14 5,
 sv 1 15 7,
 sm 2 16 (.cint .u64 (tm 15)),
 sm 3 17 (.bin .mul 47 (tm 14) (tm 16)),
 sv 4 18 0,
 sm 5 19 (.bin .rem 47 (tm 17) (tm 18)),
 sv 6 5 19])))
 (.reg [sm 0 20 (.bin .add 3 (tm 10) (.const (.int .i64 1))),
 sv 1 10 20]))))
def c223 : Cd := (.seq (.reg [sm 0 4 (.mv (.const (.int .u32 0)))])
 (.seq (.reg [sm 0 5 (.mv (.const (.int .u64 1)))])
 (.seq (.seq (.reg [sv 0 8 1,
 sm 1 9 (.len (.sl 1) (tm 8)),
 sm 2 10 (.mv (.const (.int .i64 0)))])
 (.block 0 (.loop l223_0)))
 (.seq (.reg [sv 0 21 5,
 sm 1 22 (.cint .u32 (tm 21)),
 sv 2 4 22])
 .ret))))
def r223 : List Mo := [.mv (tm 4)]
theorem c223_eq : compF Tryz.prog 223 = some c223 := by kernel_rfl
theorem r223_eq : compRs Tryz.prog 223 = some r223 := by kernel_rfl
def l224_0 : Cd := (.seq (.reg [sm 0 24 (.bin .lss 3 (tm 23) (tm 22))])
 (.seq (.cond (tm 24) .skip (.exit 0))
 (.seq (.block 1 (.seq (.reg [sm 0 25 (.ia (.sl 1) (tm 21) (tm 23)),
 sm 1 26 (.ld1 (tm 25)),
 sv 2 10 26])
 (.reg [sv 0 27 8,
 sv 1 28 10,
 sm 2 29 (.bin .shr 46 (tm 28) (.const (.int .u64 24))),
 sm 3 30 (.cint .u8 (tm 29)),
 sv 4 31 10,
 sm 5 32 (.bin .shr 46 (tm 31) (.const (.int .u64 16))),
 sm 6 33 (.cint .u8 (tm 32)),
 sv 7 34 10,
 sm 8 35 (.bin .shr 46 (tm 34) (.const (.int .u64 8))),
 sm 9 36 (.cint .u8 (tm 35)),
 sv 10 37 10,
 sm 11 38 (.cint .u8 (tm 37)),
 sm 12 39 (.bsl 1 [.int .u8 0] 4 [(0, (tm 30)), (1, (tm 33)), (2, (tm 36)), (3, (tm 38))]),
 sm 13 40 (.app 1 1 (tm 27) (tm 39)),
 sv 14 8 40])))
 (.reg [sm 0 41 (.bin .add 3 (tm 23) (.const (.int .i64 1))),
 sv 1 23 41]))))
def l224_1 : Cd := (.seq (.reg [sm 0 52 (.bin .lss 3 (tm 51) (tm 50))])
 (.seq (.cond (tm 52) .skip (.exit 2))
 (.seq (.block 3 (.seq (.reg [sm 0 53 (.ia (.sl 1) (tm 49) (tm 51)),
 sm 1 54 (.ld1 (tm 53)),
 sv 2 15 54])
 (.reg [sv 0 55 13,
 sm 1 56 (.bin .shl 47 (tm 55) (.const (.int .u64 8))),
 sv 2 57 15,
 sm 3 58 (.cint .u64 (tm 57)),
 sm 4 59 (.bin .or 47 (tm 56) (tm 58)),
 sv 5 13 59])))
 (.reg [sm 0 60 (.bin .add 3 (tm 51) (.const (.int .i64 1))),
 sv 1 51 60]))))
def c224 : Cd := (.seq (.reg [sm 0 6 (.mv (.const (.int .u64 0))),
 sm 1 7 (.mv (.const (.int .i64 0)))])
 (.seq (.seq (.reg [sv 0 16 1,
 sm 1 17 (.len (.sl 1) (tm 16)),
 sm 2 18 (.bin .gtr 3 (tm 17) (.const (.int .i64 9991)))])
 (.cond (tm 18) (.seq (.reg [sm 0 6 (.mv (.const (.int .u64 0))),
 sm 1 7 (.mv (.const (.int .i64 4)))])
 .ret) .skip))
 (.seq (.reg [sv 0 19 0,
 sm 1 20 (.bsl 1 [.int .u8 0] 1 [(0, (tm 19))]),
 sv 2 8 20])
 (.seq (.seq (.reg [sv 0 21 2,
 sm 1 22 (.len (.sl 1) (tm 21)),
 sm 2 23 (.mv (.const (.int .i64 0)))])
 (.block 0 (.loop l224_0)))
 (.seq (.reg [sv 0 43 8,
 sv 1 44 1,
 sm 2 45 (.bsl 1 [.nilS] 2 [(0, (tm 43)), (1, (tm 44))]),
 sc 3 46 205 [(tm 45)],
 sv 4 42 46,
 sm 5 47 (.ext (tm 42) 0),
 sm 6 48 (.ext (tm 42) 1),
 sm 7 11 (.alloc (rep 32 (.int .u8 0))),
 se 8 (.st 32 (tm 11) (tm 47)),
 sv 9 12 48])
 (.seq (.reg [sm 0 13 (.mv (.const (.int .u64 0)))])
 (.seq (.seq (.reg [sm 0 49 (.slice (.arr 32 1) (tm 11) none (some (.const (.int .i64 8))) none),
 sm 1 50 (.len (.sl 1) (tm 49)),
 sm 2 51 (.mv (.const (.int .i64 0)))])
 (.block 2 (.loop l224_1)))
 (.seq (.reg [sv 0 61 13,
 sv 1 62 12,
 sv 2 6 61,
 sv 3 7 62])
 .ret))))))))
def r224 : List Mo := [.mv (tm 6), .mv (tm 7)]
theorem c224_eq : compF Tryz.prog 224 = some c224 := by kernel_rfl
theorem r224_eq : compRs Tryz.prog 224 = some r224 := by kernel_rfl
def l225_0 : Cd := (.seq (.seq (.reg [sv 0 8 1,
 sm 1 9 (.bin .gtr 47 (tm 8) (.const (.int .u64 0)))])
 (.cond (tm 9) .skip (.exit 0)))
 (.block 1 (.seq (.seq (.reg [sv 0 10 1,
 sm 1 11 (.bin .rem 47 (tm 10) (.const (.int .u64 2))),
 sm 2 12 (.bin .eql 47 (tm 11) (.const (.int .u64 1)))])
 (.cond (tm 12) (.reg [sv 0 13 7,
 sv 1 14 0,
 sm 2 15 (.bin .mul 47 (tm 13) (tm 14)),
 sv 3 16 2,
 sm 4 17 (.bin .rem 47 (tm 15) (tm 16)),
 sv 5 7 17]) .skip))
 (.seq (.reg [sv 0 18 0,
 sv 1 19 0,
 sm 2 20 (.bin .mul 47 (tm 18) (tm 19)),
 sv 3 21 2,
 sm 4 22 (.bin .rem 47 (tm 20) (tm 21)),
 sv 5 0 22])
 (.reg [sv 0 23 1,
 sm 1 24 (.bin .quo 47 (tm 23) (.const (.int .u64 2))),
 sv 2 1 24])))))
def c225 : Cd := (.seq (.reg [sm 0 6 (.mv (.const (.int .u64 0)))])
 (.seq (.reg [sm 0 7 (.mv (.const (.int .u64 1)))])
 (.seq (.block 0 (.loop l225_0))
 (.seq (.reg [sv 0 25 7,
 sv 1 6 25])
 .ret))))
def r225 : List Mo := [.mv (tm 6)]
theorem c225_eq : compF Tryz.prog 225 = some c225 := by kernel_rfl
theorem r225_eq : compRs Tryz.prog 225 = some r225 := by kernel_rfl
def c229 : Cd := (.seq (.reg [sm 0 4 (.mv (.const (.int .u32 0)))])
 (.seq (.reg [sv 0 5 0,
 sm 1 6 (.cint .u64 (tm 5)),
 sv 2 7 1,
 sc 3 8 225 [(tm 6), (tm 7), (.const (.int .u64 1000000007))],
 sm 4 9 (.cint .u32 (tm 8)),
 sv 5 4 9])
 .ret))
def r229 : List Mo := [.mv (tm 4)]
theorem c229_eq : compF Tryz.prog 229 = some c229 := by kernel_rfl
theorem r229_eq : compRs Tryz.prog 229 = some r229 := by kernel_rfl
def l231_0 : Cd := (.seq (.seq (.reg [sv 0 22 6,
 sm 1 23 (.bin .lss 3 (tm 22) (.const (.int .i64 16)))])
 (.cond (tm 23) .skip (.exit 0)))
 (.seq (.block 1 (.reg [sv 0 26 5,
 sv 1 27 1,
 sv 2 28 6,
 sm 3 29 (.bin .mul 3 (.const (.int .i64 4)) (tm 28)),
 sm 4 30 (.ia (.sl 1) (tm 27) (tm 29)),
 sm 5 31 (.ld1 (tm 30)),
 sm 6 32 (.cint .u32 (tm 31)),
 sm 7 33 (.bin .mul 46 (tm 32) (.const (.int .u32 256))),
 sv 8 34 1,
 sv 9 35 6,
 sm 10 36 (.bin .mul 3 (.const (.int .i64 4)) (tm 35)),
 sm 11 37 (.bin .add 3 (tm 36) (.const (.int .i64 1))),
 sm 12 38 (.ia (.sl 1) (tm 34) (tm 37)),
 sm 13 39 (.ld1 (tm 38)),
 sm 14 40 (.cint .u32 (tm 39)),
 sm 15 41 (.bin .add 46 (tm 33) (tm 40)),
 sm 16 42 (.bin .mul 46 (tm 41) (.const (.int .u32 256))),
 sv 17 43 1,
 sv 18 44 6,
 sm 19 45 (.bin .mul 3 (.const (.int .i64 4)) (tm 44)),
 sm 20 46 (.bin .add 3 (tm 45) (.const (.int .i64 2))),
 sm 21 47 (.ia (.sl 1) (tm 43) (tm 46)),
 sm 22 48 (.ld1 (tm 47)),
 sm 23 49 (.cint .u32 (tm 48)),
 sm 24 50 (.bin .add 46 (tm 42) (tm 49)),
 sm 25 51 (.bin .mul 46 (tm 50) (.const (.int .u32 256))),
 sv 26 52 1,
 sv 27 53 6,
 sm 28 54 (.bin .mul 3 (.const (.int .i64 4)) (tm 53)),
 sm 29 55 (.bin .add 3 (tm 54) (.const (.int .i64 3))),
 sm 30 56 (.ia (.sl 1) (tm 52) (tm 55)),
 sm 31 57 (.ld1 (tm 56)),
 sm 32 58 (.cint .u32 (tm 57)),
 sm 33 59 (.bin .add 46 (tm 51) (tm 58)),
 sm 34 60 (.bsl 1 [.int .u32 0] 1 [(0, (tm 59))]),
 sm 35 61 (.app 1 4 (tm 26) (tm 60)),
 sv 36 5 61]))
 (.reg [sv 0 24 6,
 sm 1 25 (.bin .add 3 (tm 24) (.const (.int .i64 1))),
 sv 2 6 25])))
def l231_1 : Cd := (.seq (.seq (.reg [sv 0 62 7,
 sm 1 63 (.bin .lss 3 (tm 62) (.const (.int .i64 64)))])
 (.cond (tm 63) .skip (.exit 2)))
 (.seq (.block 3 (.seq (.reg [sv 0 66 5,
 sv 1 67 7,
 sm 2 68 (.bin .sub 3 (tm 67) (.const (.int .i64 15))),
 sm 3 69 (.ia (.sl 1) (tm 66) (tm 68)),
 sm 4 70 (.ld1 (tm 69)),
 sv 5 71 5,
 sv 6 72 7,
 sm 7 73 (.bin .sub 3 (tm 72) (.const (.int .i64 2))),
 sm 8 74 (.ia (.sl 1) (tm 71) (tm 73)),
 sm 9 75 (.ld1 (tm 74)),
 sv 10 8 70,
 sv 11 9 75])
 (.dreg [sv 0 76 5,
 sv 1 77 5,
 sv 2 78 7,
 sm 3 79 (.bin .sub 3 (tm 78) (.const (.int .i64 16))),
 sm 4 80 (.ia (.sl 1) (tm 77) (tm 79)),
 ⟨5, (some 81), none, .mo (.ld1 (tm 80)), [], true⟩,
 sv 6 82 5,
 sv 7 83 7,
 sm 8 84 (.bin .sub 3 (tm 83) (.const (.int .i64 7))),
 sm 9 85 (.ia (.sl 1) (tm 82) (tm 84)),
 ⟨10, (some 86), none, .mo (.ld1 (tm 85)), [], true⟩,
 sm 11 87 (.bin .add 46 (tm 81) (tm 86)),
 sv 12 88 8,
 sv 14 90 8,
 sv 17 93 8,
 sm 18 94 (.bin .shr 46 (tm 93) (.const (.int .u64 3))),
 sv 21 97 9,
 sv 23 99 9,
 sv 26 102 9,
 sm 27 103 (.bin .shr 46 (tm 102) (.const (.int .u64 10))),
 ⟨13, (some 89), none, .callF 265 [(tm 88), (.const (.int .i64 7))], [10, 5], false⟩,
 ⟨15, (some 91), none, .callF 265 [(tm 90), (.const (.int .i64 18))], [10, 5], false⟩,
 sm 16 92 (.bin .xor 46 (tm 89) (tm 91)),
 sm 19 95 (.bin .xor 46 (tm 92) (tm 94)),
 sm 20 96 (.bin .add 46 (tm 87) (tm 95)),
 ⟨22, (some 98), none, .callF 265 [(tm 97), (.const (.int .i64 17))], [10, 5], false⟩,
 ⟨24, (some 100), none, .callF 265 [(tm 99), (.const (.int .i64 19))], [10, 5], false⟩,
 sm 25 101 (.bin .xor 46 (tm 98) (tm 100)),
 sm 28 104 (.bin .xor 46 (tm 101) (tm 103)),
 sm 29 105 (.bin .add 46 (tm 96) (tm 104)),
 sm 30 106 (.bsl 1 [.int .u32 0] 1 [(0, (tm 105))]),
 sm 31 107 (.app 1 4 (tm 76) (tm 106)),
 sv 32 5 107])))
 (.reg [sv 0 64 7,
 sm 1 65 (.bin .add 3 (tm 64) (.const (.int .i64 1))),
 sv 2 7 65])))
def l231_2 : Cd := (.seq (.seq (.reg [sv 0 110 12,
 sm 1 111 (.bin .lss 3 (tm 110) (.const (.int .i64 64)))])
 (.cond (tm 111) .skip (.exit 4)))
 (.seq (.block 5 (.seq (.reg [sm 0 114 (.ia (.arr 8 1) (tm 11) (.const (.int .i64 0))),
 sm 1 115 (.ld1 (tm 114)),
 sm 2 116 (.ia (.arr 8 1) (tm 11) (.const (.int .i64 1))),
 sm 3 117 (.ld1 (tm 116)),
 sm 4 118 (.ia (.arr 8 1) (tm 11) (.const (.int .i64 2))),
 sm 5 119 (.ld1 (tm 118)),
 sm 6 120 (.ia (.arr 8 1) (tm 11) (.const (.int .i64 4))),
 sm 7 121 (.ld1 (tm 120)),
 sm 8 122 (.ia (.arr 8 1) (tm 11) (.const (.int .i64 5))),
 sm 9 123 (.ld1 (tm 122)),
 sm 10 124 (.ia (.arr 8 1) (tm 11) (.const (.int .i64 6))),
 sm 11 125 (.ld1 (tm 124)),
 sv 12 13 115,
 sv 13 14 117,
 sv 14 15 119,
 sv 15 16 121,
 sv 16 17 123,
 sv 17 18 125])
 (.seq (.dreg [sm 0 126 (.ia (.arr 8 1) (tm 11) (.const (.int .i64 7))),
 ⟨1, (some 127), none, .mo (.ld1 (tm 126)), [], true⟩,
 sv 2 128 16,
 sv 4 130 16,
 sv 7 133 16,
 sv 11 137 16,
 sv 12 138 17,
 sm 13 139 (.bin .and 46 (tm 137) (tm 138)),
 sv 14 140 16,
 sm 15 141 (.un .xor (tm 140)),
 sv 16 142 18,
 sm 17 143 (.bin .and 46 (tm 141) (tm 142)),
 sm 18 144 (.bin .xor 46 (tm 139) (tm 143)),
 sv 20 146 10,
 sv 21 147 12,
 sm 22 148 (.ia (.sl 1) (tm 146) (tm 147)),
 ⟨23, (some 149), none, .mo (.ld1 (tm 148)), [], true⟩,
 sv 25 151 5,
 sv 26 152 12,
 sm 27 153 (.ia (.sl 1) (tm 151) (tm 152)),
 ⟨28, (some 154), none, .mo (.ld1 (tm 153)), [], true⟩,
 ⟨3, (some 129), none, .callF 265 [(tm 128), (.const (.int .i64 6))], [28, 23, 1], false⟩,
 ⟨5, (some 131), none, .callF 265 [(tm 130), (.const (.int .i64 11))], [28, 23, 1], false⟩,
 sm 6 132 (.bin .xor 46 (tm 129) (tm 131)),
 ⟨8, (some 134), none, .callF 265 [(tm 133), (.const (.int .i64 25))], [28, 23, 1], false⟩,
 sm 9 135 (.bin .xor 46 (tm 132) (tm 134)),
 sm 10 136 (.bin .add 46 (tm 127) (tm 135)),
 sm 19 145 (.bin .add 46 (tm 136) (tm 144)),
 sm 24 150 (.bin .add 46 (tm 145) (tm 149)),
 sm 29 155 (.bin .add 46 (tm 150) (tm 154)),
 sv 30 19 155])
 (.seq (.reg [sv 0 156 13,
 sc 1 157 265 [(tm 156), (.const (.int .i64 2))],
 sv 2 158 13,
 sc 3 159 265 [(tm 158), (.const (.int .i64 13))],
 sm 4 160 (.bin .xor 46 (tm 157) (tm 159)),
 sv 5 161 13,
 sc 6 162 265 [(tm 161), (.const (.int .i64 22))],
 sm 7 163 (.bin .xor 46 (tm 160) (tm 162)),
 sv 8 164 13,
 sv 9 165 14,
 sm 10 166 (.bin .and 46 (tm 164) (tm 165)),
 sv 11 167 13,
 sv 12 168 15,
 sm 13 169 (.bin .and 46 (tm 167) (tm 168)),
 sm 14 170 (.bin .xor 46 (tm 166) (tm 169)),
 sv 15 171 14,
 sv 16 172 15,
 sm 17 173 (.bin .and 46 (tm 171) (tm 172)),
 sm 18 174 (.bin .xor 46 (tm 170) (tm 173)),
 sm 19 175 (.bin .add 46 (tm 163) (tm 174)),
 sv 20 20 175])
 (.reg [sv 0 176 19,
 sv 1 177 20,
 sm 2 178 (.bin .add 46 (tm 176) (tm 177)),
 sv 3 179 13,
 sv 4 180 14,
 sv 5 181 15,
 sm 6 182 (.ia (.arr 8 1) (tm 11) (.const (.int .i64 3))),
 sm 7 183 (.ld1 (tm 182)),
 sv 8 184 19,
 sm 9 185 (.bin .add 46 (tm 183) (tm 184)),
 sv 10 186 16,
 sv 11 187 17,
 sv 12 188 18,
 sm 13 189 (.bld [.int .u32 0, .int .u32 0, .int .u32 0, .int .u32 0, .int .u32 0, .int .u32 0, .int .u32 0, .int .u32 0] [(0, 1, (tm 178)), (1, 1, (tm 179)), (2, 1, (tm 180)), (3, 1, (tm 181)), (4, 1, (tm 185)), (5, 1, (tm 186)), (6, 1, (tm 187)), (7, 1, (tm 188))]),
 se 14 (.st 8 (tm 11) (tm 189))])))))
 (.reg [sv 0 112 12,
 sm 1 113 (.bin .add 3 (tm 112) (.const (.int .i64 1))),
 sv 2 12 113])))
def l231_3 : Cd := (.seq (.seq (.reg [sv 0 190 21,
 sm 1 191 (.bin .lss 3 (tm 190) (.const (.int .i64 8)))])
 (.cond (tm 191) .skip (.exit 6)))
 (.seq (.block 7 (.reg [sv 0 194 21,
 sm 1 195 (.ia (.arr 8 1) (tm 2) (tm 194)),
 sm 2 196 (.ld1 (tm 195)),
 sv 3 197 21,
 sm 4 198 (.ia (.arr 8 1) (tm 11) (tm 197)),
 sm 5 199 (.ld1 (tm 198)),
 sm 6 200 (.bin .add 46 (tm 196) (tm 199)),
 sm 7 201 (.ia (.arr 8 1) (tm 2) (tm 194)),
 se 8 (.st 1 (tm 201) (tm 200))]))
 (.reg [sv 0 192 21,
 sm 1 193 (.bin .add 3 (tm 192) (.const (.int .i64 1))),
 sv 2 21 193])))
def c231 : Cd := (.seq (.reg [sm 0 2 (.box (tm 0)),
 sm 1 4 (.alloc [.int .u32 0, .int .u32 0, .int .u32 0, .int .u32 0, .int .u32 0, .int .u32 0, .int .u32 0, .int .u32 0])])
 (.seq (.reg [sm 0 5 (.mv (.const (.slice none 0 0)))])
 (.seq (.seq (.reg [sm 0 6 (.mv (.const (.int .i64 0)))])
 (.block 0 (.loop l231_0)))
 (.seq (.seq (.reg [sm 0 7 (.mv (.const (.int .i64 16)))])
 (.block 2 (.loop l231_1)))
 (.seq (.reg [sc 0 108 266 [],
 sv 1 10 108])
 (.seq (.reg [sm 0 109 (.ldA 8 (tm 2)),
 sm 1 11 (.alloc [.int .u32 0, .int .u32 0, .int .u32 0, .int .u32 0, .int .u32 0, .int .u32 0, .int .u32 0, .int .u32 0]),
 se 2 (.st 8 (tm 11) (tm 109))])
 (.seq (.seq (.reg [sm 0 12 (.mv (.const (.int .i64 0)))])
 (.block 4 (.loop l231_2)))
 (.seq (.seq (.reg [sm 0 21 (.mv (.const (.int .i64 0)))])
 (.block 6 (.loop l231_3)))
 (.seq (.reg [sm 0 202 (.ldA 8 (tm 2)),
 se 1 (.st 8 (tm 4) (tm 202))])
 .ret)))))))))
def r231 : List Mo := [.ldA 8 (tm 4)]
theorem c231_eq : compF Tryz.prog 231 = some c231 := by kernel_rfl
theorem r231_eq : compRs Tryz.prog 231 = some r231 := by kernel_rfl
def c232 : Cd := (.seq (.reg [sm 0 2 (.mv (.const (.slice none 0 0)))])
 (.seq (.reg [sv 0 3 0,
 sm 1 4 (.bin .quo 46 (tm 3) (.const (.int .u32 16777216))),
 sm 2 5 (.cint .u8 (tm 4)),
 sv 3 6 0,
 sm 4 7 (.bin .quo 46 (tm 6) (.const (.int .u32 65536))),
 sm 5 8 (.bin .rem 46 (tm 7) (.const (.int .u32 256))),
 sm 6 9 (.cint .u8 (tm 8)),
 sv 7 10 0,
 sm 8 11 (.bin .quo 46 (tm 10) (.const (.int .u32 256))),
 sm 9 12 (.bin .rem 46 (tm 11) (.const (.int .u32 256))),
 sm 10 13 (.cint .u8 (tm 12)),
 sv 11 14 0,
 sm 12 15 (.bin .rem 46 (tm 14) (.const (.int .u32 256))),
 sm 13 16 (.cint .u8 (tm 15)),
 sm 14 17 (.bsl 1 [.int .u8 0] 4 [(0, (tm 5)), (1, (tm 9)), (2, (tm 13)), (3, (tm 16))]),
 sv 15 2 17])
 .ret))
def r232 : List Mo := [.mv (tm 2)]
theorem c232_eq : compF Tryz.prog 232 = some c232 := by kernel_rfl
theorem r232_eq : compRs Tryz.prog 232 = some r232 := by kernel_rfl
def l233_0 : Cd := (.seq (.seq (.reg [sv 0 8 5,
 sm 1 9 (.bin .lss 3 (tm 8) (.const (.int .i64 8)))])
 (.cond (tm 9) .skip (.exit 0)))
 (.seq (.block 1 (.reg [sv 0 12 4,
 sm 1 13 (.bin .mul 47 (.const (.int .u64 256)) (tm 12)),
 sv 2 14 5,
 sm 3 15 (.ia (.arr 32 1) (tm 3) (tm 14)),
 sm 4 16 (.ld1 (tm 15)),
 sm 5 17 (.cint .u64 (tm 16)),
 sm 6 18 (.bin .add 47 (tm 13) (tm 17)),
 sv 7 4 18]))
 (.reg [sv 0 10 5,
 sm 1 11 (.bin .add 3 (tm 10) (.const (.int .i64 1))),
 sv 2 5 11])))
def c233 : Cd := (.seq (.reg [sm 0 2 (.mv (.const (.int .u64 0)))])
 (.seq (.reg [sv 0 6 0,
 sc 1 7 122 [(tm 6)],
 sm 2 3 (.alloc (rep 32 (.int .u8 0))),
 se 3 (.st 32 (tm 3) (tm 7))])
 (.seq (.reg [sm 0 4 (.mv (.const (.int .u64 0)))])
 (.seq (.seq (.reg [sm 0 5 (.mv (.const (.int .i64 0)))])
 (.block 0 (.loop l233_0)))
 (.seq (.reg [sv 0 19 4,
 sv 1 2 19])
 .ret)))))
def r233 : List Mo := [.mv (tm 2)]
theorem c233_eq : compF Tryz.prog 233 = some c233 := by kernel_rfl
theorem r233_eq : compRs Tryz.prog 233 = some r233 := by kernel_rfl
def c234 : Cd := (.seq (.reg [sm 0 2 (.mv (.const (.slice none 0 0)))])
 (.seq (.seq (.reg [sv 0 3 0,
 sm 1 4 (.bin .geq 2 (tm 3) (.const (.int .i64 0)))])
 (.cond (tm 4) (.seq (.reg [sv 0 5 0,
 sm 1 6 (.cint .u64 (tm 5)),
 sm 2 7 (.bin .mul 47 (.const (.int .u64 2)) (tm 6)),
 sc 3 8 188 [(tm 7)],
 sv 4 2 8])
 .ret) .skip))
 (.seq (.reg [sv 0 9 0,
 sm 1 10 (.bin .add 2 (tm 9) (.const (.int .i64 1))),
 sm 2 11 (.un .neg (tm 10)),
 sm 3 12 (.cint .u64 (tm 11)),
 sm 4 13 (.bin .mul 47 (.const (.int .u64 2)) (tm 12)),
 sm 5 14 (.bin .add 47 (tm 13) (.const (.int .u64 1))),
 sc 6 15 188 [(tm 14)],
 sv 7 2 15])
 .ret)))
def r234 : List Mo := [.mv (tm 2)]
theorem c234_eq : compF Tryz.prog 234 = some c234 := by kernel_rfl
theorem r234_eq : compRs Tryz.prog 234 = some r234 := by kernel_rfl
def l235_0 : Cd := (.seq (.seq (.reg [sv 0 18 9,
 sv 1 19 1,
 sm 2 20 (.bin .gtr 3 (tm 18) (tm 19)),
 sv 3 21 20,
 sg 4 22 21 true (.mv (tm 3)),
 sg 5 23 21 true (.mv (tm 0)),
 sg 6 24 21 true (.mv (tm 9)),
 sg 7 25 21 true (.ia (.sl 32) (tm 23) (tm 24)),
 sg 8 26 21 true (.ldA 32 (tm 25)),
 sg 9 27 21 true (.mv (tm 0)),
 sg 10 28 21 true (.mv (tm 9)),
 sg 11 29 21 true (.bin .sub 3 (tm 28) (.const (.int .i64 1))),
 sg 12 30 21 true (.ia (.sl 32) (tm 27) (tm 29)),
 sg 13 31 21 true (.ldA 32 (tm 30)),
 ⟨14, (some 32), (some ((some 21), true)), .callV (tm 22) [(tm 26), (tm 31)], [], false⟩,
 sg 15 33 21 true (.bin .lss 3 (tm 32) (.const (.int .i64 0))),
 sm 16 34 (.pick (tm 21) (tm 33) (.const (.bool false)))])
 (.cond (tm 34) .skip (.exit 2)))
 (.seq (.block 3 (.reg [sv 0 37 0,
 sv 1 38 9,
 sv 2 39 0,
 sv 3 40 9,
 sm 4 41 (.bin .sub 3 (tm 40) (.const (.int .i64 1))),
 sv 5 42 0,
 sv 6 43 9,
 sm 7 44 (.bin .sub 3 (tm 43) (.const (.int .i64 1))),
 sm 8 45 (.ia (.sl 32) (tm 42) (tm 44)),
 sm 9 46 (.ldA 32 (tm 45)),
 sv 10 47 0,
 sv 11 48 9,
 sm 12 49 (.ia (.sl 32) (tm 47) (tm 48)),
 sm 13 50 (.ldA 32 (tm 49)),
 sm 14 51 (.ia (.sl 32) (tm 37) (tm 38)),
 se 15 (.st 32 (tm 51) (tm 46)),
 sm 16 52 (.ia (.sl 32) (tm 39) (tm 41)),
 se 17 (.st 32 (tm 52) (tm 50))]))
 (.reg [sv 0 35 9,
 sm 1 36 (.bin .sub 3 (tm 35) (.const (.int .i64 1))),
 sv 2 9 36])))
def l235_1 : Cd := (.seq (.seq (.reg [sv 0 12 8,
 sv 1 13 2,
 sm 2 14 (.bin .lss 3 (tm 12) (tm 13))])
 (.cond (tm 14) .skip (.exit 0)))
 (.seq (.block 1 (.seq (.reg [sv 0 17 8,
 sv 1 9 17])
 (.block 2 (.loop l235_0))))
 (.reg [sv 0 15 8,
 sm 1 16 (.bin .add 3 (tm 15) (.const (.int .i64 1))),
 sv 2 8 16])))
def c235 : Cd := (.seq (.reg [sv 0 10 1,
 sm 1 11 (.bin .add 3 (tm 10) (.const (.int .i64 1))),
 sv 2 8 11])
 (.block 0 (.loop l235_1)))
def r235 : List Mo := []
theorem c235_eq : compF Tryz.prog 235 = some c235 := by kernel_rfl
theorem r235_eq : compRs Tryz.prog 235 = some r235 := by kernel_rfl
def c245 : Cd := (.seq (.reg [sm 0 4 (.mv (.const (.bool false)))])
 (.seq (.reg [sv 0 5 0,
 sv 1 6 1,
 sc 2 7 272 [(tm 5), (tm 6)],
 sm 3 8 (.bin .geq 3 (tm 7) (.const (.int .i64 0))),
 sv 4 4 8])
 .ret))
def r245 : List Mo := [.mv (tm 4)]
theorem c245_eq : compF Tryz.prog 245 = some c245 := by kernel_rfl
theorem r245_eq : compRs Tryz.prog 245 = some r245 := by kernel_rfl
def c246 : Cd := (.seq (.reg [sm 0 2 (.mv (.const (.bool false)))])
 (.seq (.reg [sv 0 3 0,
 sm 1 4 (.len (.sl 1) (tm 3)),
 sm 2 5 (.bin .gtr 3 (tm 4) (.const (.int .i64 10000))),
 sv 3 2 5])
 .ret))
def r246 : List Mo := [.mv (tm 2)]
theorem c246_eq : compF Tryz.prog 246 = some c246 := by kernel_rfl
theorem r246_eq : compRs Tryz.prog 246 = some r246 := by kernel_rfl
def c247 : Cd := (.seq (.reg [sm 0 0 (.alloc [.int .u32 0, .int .u32 0, .int .u32 0, .int .u32 0, .int .u32 0, .int .u32 0, .int .u32 0, .int .u32 0, .nilS, .int .i64 0])])
 (.seq (.reg [sm 0 1 (.bld [.int .u32 0, .int .u32 0, .int .u32 0, .int .u32 0, .int .u32 0, .int .u32 0, .int .u32 0, .int .u32 0] [(0, 1, (.const (.int .u32 1779033703))), (1, 1, (.const (.int .u32 3144134277))), (2, 1, (.const (.int .u32 1013904242))), (3, 1, (.const (.int .u32 2773480762))), (4, 1, (.const (.int .u32 1359893119))), (5, 1, (.const (.int .u32 2600822924))), (6, 1, (.const (.int .u32 528734635))), (7, 1, (.const (.int .u32 1541459225)))]),
 sm 1 2 (.bld [.int .u32 0, .int .u32 0, .int .u32 0, .int .u32 0, .int .u32 0, .int .u32 0, .int .u32 0, .int .u32 0, .nilS, .int .i64 0] [(0, 8, (tm 1))]),
 se 2 (.st 10 (tm 0) (tm 2))])
 .ret))
def r247 : List Mo := [.ldA 10 (tm 0)]
theorem c247_eq : compF Tryz.prog 247 = some c247 := by kernel_rfl
theorem r247_eq : compRs Tryz.prog 247 = some r247 := by kernel_rfl
def l248_0 : Cd := (.seq (.seq (.reg [sv 0 11 5,
 sm 1 12 (.len (.sl 1) (tm 11)),
 sm 2 13 (.bin .geq 3 (tm 12) (.const (.int .i64 64)))])
 (.cond (tm 13) .skip (.exit 0)))
 (.block 1 (.seq (.reg [sm 0 14 (.fa 0 (tm 2)),
 sv 1 15 5,
 sc 2 16 273 [(tm 14), (tm 15)]])
 (.reg [sv 0 17 5,
 sm 1 18 (.slice (.sl 1) (tm 17) (some (.const (.int .i64 64))) none none),
 sv 2 5 18]))))
def c248 : Cd := (.seq (.reg [sm 0 2 (.box (tm 0)),
 sm 1 4 (.alloc [.int .u32 0, .int .u32 0, .int .u32 0, .int .u32 0, .int .u32 0, .int .u32 0, .int .u32 0, .int .u32 0, .nilS, .int .i64 0])])
 (.seq (.reg [sm 0 6 (.fa 8 (tm 2)),
 sm 1 7 (.ld1 (tm 6)),
 sv 2 8 1,
 sm 3 9 (.bsl 1 [.nilS] 2 [(0, (tm 7)), (1, (tm 8))]),
 sc 4 10 172 [(tm 9)],
 sv 5 5 10])
 (.seq (.block 0 (.loop l248_0))
 (.seq (.dreg [sm 0 19 (.fa 9 (tm 2)),
 ⟨1, (some 20), none, .mo (.ld1 (tm 19)), [], true⟩,
 sv 2 21 1,
 sm 3 22 (.len (.sl 1) (tm 21)),
 sm 4 23 (.bin .add 3 (tm 20) (tm 22)),
 sv 5 24 5,
 ⟨6, (some 25), none, .callF 274 [(tm 24)], [1], false⟩,
 sm 7 26 (.fa 9 (tm 2)),
 se 8 (.st 1 (tm 26) (tm 23)),
 sm 9 27 (.fa 8 (tm 2)),
 se 10 (.st 1 (tm 27) (tm 25))])
 (.seq (.reg [sm 0 28 (.ldA 10 (tm 2)),
 se 1 (.st 10 (tm 4) (tm 28))])
 .ret)))))
def r248 : List Mo := [.ldA 10 (tm 4)]
theorem c248_eq : compF Tryz.prog 248 = some c248 := by kernel_rfl
theorem r248_eq : compRs Tryz.prog 248 = some r248 := by kernel_rfl
def l249_0 : Cd := (.seq (.seq (.reg [sv 0 19 5,
 sm 1 20 (.bin .geq 3 (tm 19) (.const (.int .i64 0)))])
 (.cond (tm 20) .skip (.exit 0)))
 (.seq (.block 1 (.reg [sv 0 23 4,
 sv 1 24 3,
 sv 2 25 5,
 sm 3 26 (.bin .shr 47 (tm 24) (tm 25)),
 sm 4 27 (.cint .u8 (tm 26)),
 sm 5 28 (.bsl 1 [.int .u8 0] 1 [(0, (tm 27))]),
 sm 6 29 (.app 1 1 (tm 23) (tm 28)),
 sv 7 4 29]))
 (.reg [sv 0 21 5,
 sm 1 22 (.bin .sub 3 (tm 21) (.const (.int .i64 8))),
 sv 2 5 22])))
def l249_1 : Cd := (.seq (.reg [sm 0 35 (.bin .lss 3 (tm 34) (.const (.int .i64 8)))])
 (.seq (.cond (tm 35) .skip (.exit 2))
 (.seq (.block 3 (.seq (.reg [sv 0 36 34,
 sm 1 37 (.ix1 8 1 (tm 33) (tm 34)),
 sv 2 6 36,
 sv 3 7 37])
 (.reg [sv 0 38 6,
 sm 1 39 (.bin .mul 3 (.const (.int .i64 4)) (tm 38)),
 sv 2 40 6,
 sm 3 41 (.bin .mul 3 (.const (.int .i64 4)) (tm 40)),
 sm 4 42 (.bin .add 3 (tm 41) (.const (.int .i64 1))),
 sv 5 43 6,
 sm 6 44 (.bin .mul 3 (.const (.int .i64 4)) (tm 43)),
 sm 7 45 (.bin .add 3 (tm 44) (.const (.int .i64 2))),
 sv 8 46 6,
 sm 9 47 (.bin .mul 3 (.const (.int .i64 4)) (tm 46)),
 sm 10 48 (.bin .add 3 (tm 47) (.const (.int .i64 3))),
 sv 11 49 7,
 sm 12 50 (.bin .shr 46 (tm 49) (.const (.int .u64 24))),
 sm 13 51 (.cint .u8 (tm 50)),
 sv 14 52 7,
 sm 15 53 (.bin .shr 46 (tm 52) (.const (.int .u64 16))),
 sm 16 54 (.cint .u8 (tm 53)),
 sv 17 55 7,
 sm 18 56 (.bin .shr 46 (tm 55) (.const (.int .u64 8))),
 sm 19 57 (.cint .u8 (tm 56)),
 sv 20 58 7,
 sm 21 59 (.cint .u8 (tm 58)),
 sm 22 60 (.ia (.arr 32 1) (tm 2) (tm 39)),
 se 23 (.st 1 (tm 60) (tm 51)),
 sm 24 61 (.ia (.arr 32 1) (tm 2) (tm 42)),
 se 25 (.st 1 (tm 61) (tm 54)),
 sm 26 62 (.ia (.arr 32 1) (tm 2) (tm 45)),
 se 27 (.st 1 (tm 62) (tm 57)),
 sm 28 63 (.ia (.arr 32 1) (tm 2) (tm 48)),
 se 29 (.st 1 (tm 63) (tm 59))])))
 (.reg [sm 0 64 (.bin .add 3 (tm 34) (.const (.int .i64 1))),
 sv 1 34 64]))))
def c249 : Cd := (.seq (.reg [sm 0 1 (.box (tm 0)),
 sm 1 2 (.alloc (rep 32 (.int .u8 0)))])
 (.seq (.reg [sm 0 8 (.fa 9 (tm 1)),
 sm 1 9 (.ld1 (tm 8)),
 sm 2 10 (.cint .u64 (tm 9)),
 sm 3 11 (.bin .mul 47 (tm 10) (.const (.int .u64 8))),
 sv 4 3 11])
 (.seq (.reg [sm 0 12 (.bsl 1 [.int .u8 0] 1 [(0, (.const (.int .u8 128)))]),
 sm 1 13 (.fa 9 (tm 1)),
 sm 2 14 (.ld1 (tm 13)),
 sm 3 15 (.bin .rem 3 (tm 14) (.const (.int .i64 64))),
 sm 4 16 (.bin .sub 3 (.const (.int .i64 119)) (tm 15)),
 sm 5 17 (.bin .rem 3 (tm 16) (.const (.int .i64 64))),
 sm 6 18 (.appZ 1 1 [.int .u8 0] (tm 12) (tm 17)),
 sv 7 4 18])
 (.seq (.seq (.reg [sm 0 5 (.mv (.const (.int .i64 56)))])
 (.block 0 (.loop l249_0)))
 (.seq (.seq (.reg [sm 0 30 (.ldA 10 (tm 1)),
 sv 1 31 4,
 sc 2 32 248 [(tm 30), (tm 31)],
 sm 3 33 (.fldA 8 0 (tm 32)),
 sm 4 34 (.mv (.const (.int .i64 0)))])
 (.block 2 (.loop l249_1)))
 (.seq (.reg [sm 0 65 (.ldA 32 (tm 2)),
 se 1 (.st 32 (tm 2) (tm 65))])
 .ret))))))
def r249 : List Mo := [.ldA 32 (tm 2)]
theorem c249_eq : compF Tryz.prog 249 = some c249 := by kernel_rfl
theorem r249_eq : compRs Tryz.prog 249 = some r249 := by kernel_rfl
def c250 : Cd := (.seq (.reg [sm 0 3 (.box (tm 0)),
 sm 1 4 (.mv (.const (.bool false)))])
 (.seq (.dreg [sm 0 5 (.ldA 32 (tm 3)),
 sm 1 6 (.ld1 (tm 1)),
 ⟨3, (some 8), none, .mo (.ld1 (tm 2)), [], true⟩,
 ⟨2, (some 7), none, .callF 208 [(tm 5), (tm 6)], [3], false⟩,
 sm 4 9 (.bin .neq 3 (tm 7) (tm 8)),
 sv 5 4 9])
 .ret))
def r250 : List Mo := [.mv (tm 4)]
theorem c250_eq : compF Tryz.prog 250 = some c250 := by kernel_rfl
theorem r250_eq : compRs Tryz.prog 250 = some r250 := by kernel_rfl
def l251_0 : Cd := (.seq (.seq (.reg [sv 0 31 8,
 sm 1 32 (.fa 0 (tm 7)),
 sm 2 33 (.ld1 (tm 32)),
 sm 3 34 (.len (.sl 32) (tm 33)),
 sm 4 35 (.bin .lss 3 (tm 31) (tm 34))])
 (.cond (tm 35) .skip (.exit 2)))
 (.seq (.block 3 (.seq (.reg [sm 0 38 (.fa 0 (tm 7)),
 sm 1 39 (.ld1 (tm 38)),
 sv 2 40 8,
 sm 3 41 (.bin .sub 3 (tm 40) (.const (.int .i64 1))),
 sm 4 42 (.ia (.sl 32) (tm 39) (tm 41)),
 sm 5 43 (.ldA 32 (tm 42)),
 sm 6 44 (.fa 0 (tm 7)),
 sm 7 45 (.ld1 (tm 44)),
 sv 8 46 8,
 sm 9 47 (.ia (.sl 32) (tm 45) (tm 46)),
 sm 10 48 (.ldA 32 (tm 47)),
 sc 11 49 162 [(tm 43), (tm 48)],
 sm 12 50 (.bin .geq 3 (tm 49) (.const (.int .i64 0)))])
 (.cond (tm 50) (.seq (.reg [sm 0 51 (.ldA 2 (tm 4)),
 se 1 (.st 2 (tm 2) (tm 51)),
 sm 2 3 (.mv (.const (.bool false)))])
 .ret) .skip)))
 (.reg [sv 0 36 8,
 sm 1 37 (.bin .add 3 (tm 36) (.const (.int .i64 1))),
 sv 2 8 37])))
def l251_1 : Cd := (.seq (.reg [sm 0 20 (.bin .lss 3 (tm 19) (tm 18))])
 (.seq (.cond (tm 20) .skip (.exit 0))
 (.seq (.block 1 (.seq (.reg [sm 0 21 (.ia (.sl 2) (tm 17) (tm 19)),
 sm 1 22 (.ldA 2 (tm 21)),
 sm 2 7 (.alloc [.nilS, .nilS]),
 se 3 (.st 2 (tm 7) (tm 22))])
 (.seq (.seq (.reg [sm 0 23 (.fa 0 (tm 7)),
 sm 1 24 (.ld1 (tm 23)),
 sm 2 25 (.len (.sl 32) (tm 24)),
 sm 3 26 (.fa 1 (tm 7)),
 sm 4 27 (.ld1 (tm 26)),
 sm 5 28 (.len (.sl 11) (tm 27)),
 sm 6 29 (.bin .neq 3 (tm 25) (tm 28))])
 (.cond (tm 29) (.seq (.reg [sm 0 30 (.ldA 2 (tm 4)),
 se 1 (.st 2 (tm 2) (tm 30)),
 sm 2 3 (.mv (.const (.bool false)))])
 .ret) .skip))
 (.seq (.reg [sm 0 8 (.mv (.const (.int .i64 1)))])
 (.block 2 (.loop l251_0))))))
 (.reg [sm 0 52 (.bin .add 3 (tm 19) (.const (.int .i64 1))),
 sv 1 19 52]))))
def l251_2 : Cd := (.seq (.reg [sm 0 57 (.bin .lss 3 (tm 56) (tm 55))])
 (.seq (.cond (tm 57) .skip (.exit 6))
 (.seq (.block 7 (.seq (.reg [sv 0 58 56,
 sm 1 59 (.ia (.sl 2) (tm 54) (tm 56)),
 sm 2 60 (.ldA 2 (tm 59)),
 sm 3 11 (.alloc [.nilS, .nilS]),
 sv 4 10 58,
 se 5 (.st 2 (tm 11) (tm 60))])
 (.seq (.reg [sv 0 61 5,
 sv 1 62 10,
 sm 2 63 (.ia (.sl 1) (tm 61) (tm 62)),
 sm 3 64 (.ld1 (tm 63)),
 sm 4 65 (.fa 0 (tm 11)),
 sm 5 66 (.ld1 (tm 65)),
 sm 6 67 (.len (.sl 32) (tm 66)),
 sm 7 68 (.bin .lss 3 (tm 64) (tm 67)),
 sv 8 69 68,
 sg 9 70 69 true (.mv (tm 9)),
 sg 10 71 69 true (.bin .lss 3 (tm 70) (.const (.int .i64 0))),
 sg 11 72 69 true (.mv (tm 71)),
 sg 12 73 72 false (.fa 0 (tm 11)),
 sg 13 74 72 false (.ld1 (tm 73)),
 sg 14 75 72 false (.mv (tm 5)),
 sg 15 76 72 false (.mv (tm 10)),
 sg 16 77 72 false (.ia (.sl 1) (tm 75) (tm 76)),
 sg 17 78 72 false (.ld1 (tm 77)),
 sg 18 79 72 false (.ia (.sl 32) (tm 74) (tm 78)),
 sg 19 80 72 false (.ldA 32 (tm 79)),
 sg 20 81 72 false (.fa 0 (tm 1)),
 sg 21 82 72 false (.ld1 (tm 81)),
 sg 22 83 72 false (.mv (tm 9)),
 sg 23 84 72 false (.ia (.sl 2) (tm 82) (tm 83)),
 sg 24 85 72 false (.fa 0 (tm 84)),
 sg 25 86 72 false (.ld1 (tm 85)),
 sg 26 87 72 false (.mv (tm 5)),
 sg 27 88 72 false (.mv (tm 9)),
 sg 28 89 72 false (.ia (.sl 1) (tm 87) (tm 88)),
 sg 29 90 72 false (.ld1 (tm 89)),
 sg 30 91 72 false (.ia (.sl 32) (tm 86) (tm 90)),
 sg 31 92 72 false (.ldA 32 (tm 91)),
 ⟨32, (some 93), (some ((some 72), false)), .callF 162 [(tm 80), (tm 92)], [], false⟩,
 sg 33 94 72 false (.bin .lss 3 (tm 93) (.const (.int .i64 0))),
 sg 34 95 69 true (.pick (tm 72) (.const (.bool true)) (tm 94)),
 sm 35 96 (.pick (tm 69) (tm 95) (.const (.bool false)))])
 (.cond (tm 96) (.reg [sv 0 97 10,
 sv 1 9 97]) .skip))))
 (.reg [sm 0 98 (.bin .add 3 (tm 56) (.const (.int .i64 1))),
 sv 1 56 98]))))
def l251_3 : Cd := (.block 5 (.seq (.reg [sm 0 9 (.mv (.const (.int .i64 (-1))))])
 (.seq (.seq (.reg [sm 0 53 (.fa 0 (tm 1)),
 sm 1 54 (.ld1 (tm 53)),
 sm 2 55 (.len (.sl 2) (tm 54)),
 sm 3 56 (.mv (.const (.int .i64 0)))])
 (.block 6 (.loop l251_2)))
 (.seq (.seq (.reg [sv 0 99 9,
 sm 1 100 (.bin .lss 3 (tm 99) (.const (.int .i64 0)))])
 (.cond (tm 100) (.seq (.reg [sm 0 101 (.ldA 2 (tm 4)),
 sc 1 102 157 [(tm 101)],
 se 2 (.st 2 (tm 2) (tm 102)),
 sm 3 3 (.mv (.const (.bool true)))])
 .ret) .skip))
 (.seq (.dreg [sm 0 103 (.fa 0 (tm 4)),
 sm 1 104 (.ld1 (tm 103)),
 sm 2 105 (.fa 0 (tm 1)),
 sm 3 106 (.ld1 (tm 105)),
 sv 4 107 9,
 sm 5 108 (.ia (.sl 2) (tm 106) (tm 107)),
 sm 6 109 (.fa 0 (tm 108)),
 sm 7 110 (.ld1 (tm 109)),
 sv 8 111 5,
 sv 9 112 9,
 sm 10 113 (.ia (.sl 1) (tm 111) (tm 112)),
 sm 11 114 (.ld1 (tm 113)),
 sm 12 115 (.ia (.sl 32) (tm 110) (tm 114)),
 sm 13 116 (.ldA 32 (tm 115)),
 sm 14 117 (.bsl 32 (rep 32 (.int .u8 0)) 1 [(0, (tm 116))]),
 sm 16 119 (.fa 1 (tm 4)),
 ⟨17, (some 120), none, .mo (.ld1 (tm 119)), [], true⟩,
 sm 18 121 (.fa 0 (tm 1)),
 ⟨19, (some 122), none, .mo (.ld1 (tm 121)), [], true⟩,
 sv 20 123 9,
 sm 21 124 (.ia (.sl 2) (tm 122) (tm 123)),
 sm 22 125 (.fa 1 (tm 124)),
 ⟨23, (some 126), none, .mo (.ld1 (tm 125)), [], true⟩,
 sv 24 127 5,
 sv 25 128 9,
 sm 26 129 (.ia (.sl 1) (tm 127) (tm 128)),
 ⟨27, (some 130), none, .mo (.ld1 (tm 129)), [], true⟩,
 sm 28 131 (.ia (.sl 11) (tm 126) (tm 130)),
 ⟨29, (some 132), none, .mo (.ldA 11 (tm 131)), [], true⟩,
 ⟨30, (some 133), none, .mo (.bsl 11 [.int .u32 0, .nilS, .int .u64 0, .int .u8 0, .str [], .int .u8 0, .int .i64 0, .int .u64 0, .str [], .int .u32 0, .int .u32 0] 1 [(0, (tm 132))]), [], true⟩,
 ⟨15, (some 118), none, .mo (.app 32 32 (tm 104) (tm 117)), [30, 29, 27, 23, 19, 17], false⟩,
 sm 32 135 (.fa 0 (tm 4)),
 sm 31 134 (.app 11 112 (tm 120) (tm 133)),
 se 33 (.st 1 (tm 135) (tm 118)),
 sm 34 136 (.fa 1 (tm 4)),
 se 35 (.st 1 (tm 136) (tm 134))])
 (.reg [sv 0 137 5,
 sv 1 138 9,
 sm 2 139 (.ia (.sl 1) (tm 137) (tm 138)),
 sm 3 140 (.ld1 (tm 139)),
 sm 4 141 (.bin .add 3 (tm 140) (.const (.int .i64 1))),
 sm 5 142 (.ia (.sl 1) (tm 137) (tm 138)),
 se 6 (.st 1 (tm 142) (tm 141))]))))))
def c251 : Cd := (.seq (.reg [sm 0 1 (.box (tm 0)),
 sm 1 2 (.alloc [.nilS, .nilS]),
 sm 2 3 (.mv (.const (.bool false)))])
 (.seq (.reg [sm 0 4 (.alloc [.nilS, .nilS])])
 (.seq (.reg [sm 0 12 (.fa 0 (tm 1)),
 sm 1 13 (.ld1 (tm 12)),
 sm 2 14 (.len (.sl 2) (tm 13)),
 sm 3 15 (.mks 1 8 [.int .i64 0] (tm 14) (tm 14)),
 sv 4 5 15])
 (.seq (.seq (.reg [sm 0 16 (.fa 0 (tm 1)),
 sm 1 17 (.ld1 (tm 16)),
 sm 2 18 (.len (.sl 2) (tm 17)),
 sm 3 19 (.mv (.const (.int .i64 0)))])
 (.block 0 (.loop l251_1)))
 (.block 4 (.loop l251_3))))))
def r251 : List Mo := [.ldA 2 (tm 2), .mv (tm 3)]
theorem c251_eq : compF Tryz.prog 251 = some c251 := by kernel_rfl
theorem r251_eq : compRs Tryz.prog 251 = some r251 := by kernel_rfl
def l252_0 : Cd := (.seq (.reg [sm 0 22 (.bin .lss 3 (tm 21) (tm 20))])
 (.seq (.cond (tm 22) .skip (.exit 0))
 (.seq (.block 1 (.seq (.reg [sv 0 23 21,
 sm 1 24 (.ia (.sl 11) (tm 19) (tm 21)),
 sm 2 25 (.ldA 11 (tm 24)),
 sm 3 4 (.alloc [.int .u32 0, .nilS, .int .u64 0, .int .u8 0, .str [], .int .u8 0, .int .i64 0, .int .u64 0, .str [], .int .u32 0, .int .u32 0]),
 sv 4 3 23,
 se 5 (.st 11 (tm 4) (tm 25))])
 (.seq (.reg [sm 0 27 (.ldA 11 (tm 4)),
 sc 1 28 97 [(tm 27)],
 sv 2 26 28,
 sm 3 29 (.ext (tm 26) 0),
 sm 4 30 (.ext (tm 26) 1),
 sm 5 5 (.alloc (rep 32 (.int .u8 0))),
 se 6 (.st 32 (tm 5) (tm 29)),
 sv 7 6 30])
 (.seq (.reg [sv 0 31 6,
 sm 1 32 (.bin .neq 38 (tm 31) (.const (.int .i64 0))),
 sv 2 33 32,
 sg 3 34 33 false (.ldA 32 (tm 5)),
 sg 4 35 33 false (.fa 0 (tm 1)),
 sg 5 36 33 false (.ld1 (tm 35)),
 sg 6 37 33 false (.mv (tm 3)),
 sg 7 38 33 false (.ia (.sl 32) (tm 36) (tm 37)),
 sg 8 39 33 false (.ldA 32 (tm 38)),
 sg 9 40 33 false (.bin .neq 57 (tm 34) (tm 39)),
 sm 10 41 (.pick (tm 33) (.const (.bool true)) (tm 40)),
 sv 11 42 41,
 sg 12 43 42 false (.ldA 11 (tm 4)),
 ⟨13, (some 44), (some ((some 42), false)), .callF 65 [(tm 43)], [], false⟩,
 sg 14 45 42 false (.bin .neq 38 (tm 44) (.const (.int .i64 0))),
 sm 15 46 (.pick (tm 42) (.const (.bool true)) (tm 45))])
 (.cond (tm 46) (.seq (.reg [sm 0 2 (.mv (.const (.int .i64 8)))])
 .ret) .skip)))))
 (.reg [sm 0 47 (.bin .add 3 (tm 21) (.const (.int .i64 1))),
 sv 1 21 47]))))
def c252 : Cd := (.seq (.reg [sm 0 1 (.box (tm 0)),
 sm 1 2 (.mv (.const (.int .i64 0)))])
 (.seq (.seq (.reg [sm 0 7 (.fa 1 (tm 1)),
 sm 1 8 (.ld1 (tm 7)),
 sm 2 9 (.len (.sl 11) (tm 8)),
 sm 3 10 (.bin .gtr 3 (tm 9) (.const (.int .i64 60)))])
 (.cond (tm 10) (.seq (.reg [sm 0 2 (.mv (.const (.int .i64 4)))])
 .ret) .skip))
 (.seq (.seq (.reg [sm 0 11 (.fa 0 (tm 1)),
 sm 1 12 (.ld1 (tm 11)),
 sm 2 13 (.len (.sl 32) (tm 12)),
 sm 3 14 (.fa 1 (tm 1)),
 sm 4 15 (.ld1 (tm 14)),
 sm 5 16 (.len (.sl 11) (tm 15)),
 sm 6 17 (.bin .neq 3 (tm 13) (tm 16))])
 (.cond (tm 17) (.seq (.reg [sm 0 2 (.mv (.const (.int .i64 8)))])
 .ret) .skip))
 (.seq (.seq (.reg [sm 0 18 (.fa 1 (tm 1)),
 sm 1 19 (.ld1 (tm 18)),
 sm 2 20 (.len (.sl 11) (tm 19)),
 sm 3 21 (.mv (.const (.int .i64 0)))])
 (.block 0 (.loop l252_0)))
 (.seq (.reg [sm 0 48 (.ldA 2 (tm 1)),
 sc 1 49 275 [(tm 48)],
 sv 2 2 49])
 .ret)))))
def r252 : List Mo := [.mv (tm 2)]
theorem c252_eq : compF Tryz.prog 252 = some c252 := by kernel_rfl
theorem r252_eq : compRs Tryz.prog 252 = some r252 := by kernel_rfl
def l253_0 : Cd := (.seq (.reg [sm 0 26 (.bin .lss 3 (tm 25) (tm 24))])
 (.seq (.cond (tm 26) .skip (.exit 0))
 (.seq (.block 1 (.seq (.reg [sv 0 27 25,
 sv 1 7 27])
 (.reg [sv 0 28 6,
 sv 1 29 7,
 sm 2 30 (.ia (.sl 1) (tm 28) (tm 29)),
 se 3 (.st 1 (tm 30) (.const (.bool true)))])))
 (.reg [sm 0 31 (.bin .add 3 (tm 25) (.const (.int .i64 1))),
 sv 1 25 31]))))
def l253_1 : Cd := (.seq (.reg [sm 0 43 (.bin .lss 3 (tm 42) (tm 41))])
 (.seq (.cond (tm 43) .skip (.exit 4))
 (.seq (.block 5 (.seq (.reg [sm 0 44 (.ia (.sl 32) (tm 40) (tm 42)),
 sm 1 45 (.ldA 32 (tm 44)),
 sm 2 11 (.alloc (rep 32 (.int .u8 0))),
 se 3 (.st 32 (tm 11) (tm 45))])
 (.reg [sv 0 46 6,
 sv 1 47 5,
 sm 2 48 (.ldA 32 (tm 11)),
 sm 3 49 (.lkp 57 (.int .i64 0) false (tm 47) (tm 48)),
 sm 4 50 (.ia (.sl 1) (tm 46) (tm 49)),
 se 5 (.st 1 (tm 50) (.const (.bool false)))])))
 (.reg [sm 0 51 (.bin .add 3 (tm 42) (.const (.int .i64 1))),
 sv 1 42 51]))))
def l253_2 : Cd := (.seq (.reg [sm 0 36 (.bin .lss 3 (tm 35) (tm 34))])
 (.seq (.cond (tm 36) .skip (.exit 2))
 (.seq (.block 3 (.seq (.reg [sm 0 37 (.ia (.sl 11) (tm 33) (tm 35)),
 sm 1 38 (.ldA 11 (tm 37)),
 sm 2 9 (.alloc [.int .u32 0, .nilS, .int .u64 0, .int .u8 0, .str [], .int .u8 0, .int .i64 0, .int .u64 0, .str [], .int .u32 0, .int .u32 0]),
 se 3 (.st 11 (tm 9) (tm 38))])
 (.seq (.reg [sm 0 39 (.fa 1 (tm 9)),
 sm 1 40 (.ld1 (tm 39)),
 sm 2 41 (.len (.sl 32) (tm 40)),
 sm 3 42 (.mv (.const (.int .i64 0)))])
 (.block 4 (.loop l253_1)))))
 (.reg [sm 0 52 (.bin .add 3 (tm 35) (.const (.int .i64 1))),
 sv 1 35 52]))))
def c253 : Cd := (.seq (.reg [sm 0 1 (.box (tm 0)),
 sm 1 2 (.mv (.const (.slice none 0 0))),
 sm 2 3 (.mv (.const (.int .i64 0)))])
 (.seq (.seq (.reg [sm 0 12 (.ldA 2 (tm 1)),
 sc 1 13 252 [(tm 12)],
 sv 2 4 13])
 (.seq (.reg [sv 0 14 4,
 sm 1 15 (.bin .neq 38 (tm 14) (.const (.int .i64 0)))])
 (.cond (tm 15) (.seq (.reg [sv 0 16 4,
 sm 1 2 (.mv (.const (.slice none 0 0))),
 sv 2 3 16])
 .ret) .skip)))
 (.seq (.reg [sm 0 17 (.ldA 2 (tm 1)),
 sc 1 18 276 [(tm 17)],
 sv 2 5 18])
 (.seq (.reg [sm 0 19 (.fa 0 (tm 1)),
 sm 1 20 (.ld1 (tm 19)),
 sm 2 21 (.len (.sl 32) (tm 20)),
 sm 3 22 (.mks 1 1 [.bool false] (tm 21) (tm 21)),
 sv 4 6 22])
 (.seq (.seq (.reg [sv 0 23 6,
 sm 1 24 (.len (.sl 1) (tm 23)),
 sm 2 25 (.mv (.const (.int .i64 0)))])
 (.block 0 (.loop l253_0)))
 (.seq (.seq (.reg [sm 0 32 (.fa 1 (tm 1)),
 sm 1 33 (.ld1 (tm 32)),
 sm 2 34 (.len (.sl 11) (tm 33)),
 sm 3 35 (.mv (.const (.int .i64 0)))])
 (.block 2 (.loop l253_2)))
 (.seq (.reg [sm 0 53 (.ldA 2 (tm 1)),
 sv 1 54 6,
 sc 2 55 277 [(tm 53), (tm 54)],
 sv 3 2 55,
 sm 4 3 (.mv (.const (.int .i64 0)))])
 .ret)))))))
def r253 : List Mo := [.mv (tm 2), .mv (tm 3)]
theorem c253_eq : compF Tryz.prog 253 = some c253 := by kernel_rfl
theorem r253_eq : compRs Tryz.prog 253 = some r253 := by kernel_rfl
def c256 : Cd := (.reg [sm 0 1 (.ld1 (tm 0)),
 sm 1 2 (.ld1 (tm 0)),
 sm 2 3 (.bsl 1 [.int .u32 0] 2 [(0, (tm 1)), (1, (tm 2))]),
 sc 3 4 223 [(.const (.int .u64 1000000007)), (tm 3)],
 se 4 (.st 1 (tm 0) (tm 4))])
def r256 : List Mo := []
theorem c256_eq : compF Tryz.prog 256 = some c256 := by kernel_rfl
theorem r256_eq : compRs Tryz.prog 256 = some r256 := by kernel_rfl
def c262 : Cd := (.seq (.reg [sm 0 3 (.box (tm 0)),
 sm 1 4 (.mv (.const (.bool false)))])
 (.seq (.reg [sm 0 5 (.ld1 (tm 1)),
 sm 1 6 (.bin .add 3 (tm 5) (.const (.int .i64 1))),
 se 2 (.st 1 (tm 1) (tm 6))])
 (.seq (.reg [sm 0 7 (.ld1 (tm 1)),
 sm 1 8 (.ld1 (tm 2)),
 sm 2 9 (.len (.sl 32) (tm 8)),
 sm 3 10 (.bin .lss 3 (tm 7) (tm 9)),
 sv 4 11 10,
 sg 5 12 11 true (.ld1 (tm 2)),
 sg 6 13 11 true (.ld1 (tm 1)),
 sg 7 14 11 true (.bin .sub 3 (tm 13) (.const (.int .i64 1))),
 sg 8 15 11 true (.ia (.sl 32) (tm 12) (tm 14)),
 sg 9 16 11 true (.ldA 32 (tm 15)),
 sg 10 17 11 true (.ld1 (tm 2)),
 sg 11 18 11 true (.ld1 (tm 1)),
 sg 12 19 11 true (.ia (.sl 32) (tm 17) (tm 18)),
 sg 13 20 11 true (.ldA 32 (tm 19)),
 ⟨14, (some 21), (some ((some 11), true)), .callF 162 [(tm 16), (tm 20)], [], false⟩,
 sg 15 22 11 true (.bin .geq 3 (tm 21) (.const (.int .i64 0))),
 sm 16 23 (.pick (tm 11) (tm 22) (.const (.bool false))),
 sv 17 4 23])
 .ret)))
def r262 : List Mo := [.mv (tm 4)]
theorem c262_eq : compF Tryz.prog 262 = some c262 := by kernel_rfl
theorem r262_eq : compRs Tryz.prog 262 = some r262 := by kernel_rfl
def c265 : Cd := (.seq (.reg [sm 0 4 (.mv (.const (.int .u32 0)))])
 (.seq (.reg [sv 0 5 0,
 sv 1 6 1,
 sm 2 7 (.bin .shr 46 (tm 5) (tm 6)),
 sv 3 8 0,
 sv 4 9 1,
 sm 5 10 (.bin .sub 3 (.const (.int .i64 32)) (tm 9)),
 sm 6 11 (.bin .shl 46 (tm 8) (tm 10)),
 sm 7 12 (.bin .or 46 (tm 7) (tm 11)),
 sv 8 4 12])
 .ret))
def r265 : List Mo := [.mv (tm 4)]
theorem c265_eq : compF Tryz.prog 265 = some c265 := by kernel_rfl
theorem r265_eq : compRs Tryz.prog 265 = some r265 := by kernel_rfl
def c266 : Cd := (.seq (.reg [sm 0 0 (.mv (.const (.slice none 0 0)))])
 (.seq (.reg [sm 0 1 (.bsl 1 [.int .u32 0] 64 [(0, (.const (.int .u32 1116352408))), (1, (.const (.int .u32 1899447441))), (2, (.const (.int .u32 3049323471))), (3, (.const (.int .u32 3921009573))), (4, (.const (.int .u32 961987163))), (5, (.const (.int .u32 1508970993))), (6, (.const (.int .u32 2453635748))), (7, (.const (.int .u32 2870763221))), (8, (.const (.int .u32 3624381080))), (9, (.const (.int .u32 310598401))), (10, (.const (.int .u32 607225278))), (11, (.const (.int .u32 1426881987))), (12, (.const (.int .u32 1925078388))), (13, (.const (.int .u32 2162078206))), (14, (.const (.int .u32 2614888103))), (15, (.const (.int .u32 3248222580))), (16, (.const (.int .u32 3835390401))), (17, (.const (.int .u32 4022224774))), (18, (.const (.int .u32 264347078))), (19, (.const (.int .u32 604807628))), (20, (.const (.int .u32 770255983))), (21, (.const (.int .u32 1249150122))), (22, (.const (.int .u32 1555081692))), (23, (.const (.int .u32 1996064986))), (24, (.const (.int .u32 2554220882))), (25, (.const (.int .u32 2821834349))), (26, (.const (.int .u32 2952996808))), (27, (.const (.int .u32 3210313671))), (28, (.const (.int .u32 3336571891))), (29, (.const (.int .u32 3584528711))), (30, (.const (.int .u32 113926993))), (31, (.const (.int .u32 338241895))), (32, (.const (.int .u32 666307205))), (33, (.const (.int .u32 773529912))), (34, (.const (.int .u32 1294757372))), (35, (.const (.int .u32 1396182291))), (36, (.const (.int .u32 1695183700))), (37, (.const (.int .u32 1986661051))), (38, (.const (.int .u32 2177026350))), (39, (.const (.int .u32 2456956037))), (40, (.const (.int .u32 2730485921))), (41, (.const (.int .u32 2820302411))), (42, (.const (.int .u32 3259730800))), (43, (.const (.int .u32 3345764771))), (44, (.const (.int .u32 3516065817))), (45, (.const (.int .u32 3600352804))), (46, (.const (.int .u32 4094571909))), (47, (.const (.int .u32 275423344))), (48, (.const (.int .u32 430227734))), (49, (.const (.int .u32 506948616))), (50, (.const (.int .u32 659060556))), (51, (.const (.int .u32 883997877))), (52, (.const (.int .u32 958139571))), (53, (.const (.int .u32 1322822218))), (54, (.const (.int .u32 1537002063))), (55, (.const (.int .u32 1747873779))), (56, (.const (.int .u32 1955562222))), (57, (.const (.int .u32 2024104815))), (58, (.const (.int .u32 2227730452))), (59, (.const (.int .u32 2361852424))), (60, (.const (.int .u32 2428436474))), (61, (.const (.int .u32 2756734187))), (62, (.const (.int .u32 3204031479))), (63, (.const (.int .u32 3329325298)))]),
 sv 1 0 1])
 .ret))
def r266 : List Mo := [.mv (tm 0)]
theorem c266_eq : compF Tryz.prog 266 = some c266 := by kernel_rfl
theorem r266_eq : compRs Tryz.prog 266 = some r266 := by kernel_rfl
def l272_0 : Cd := (.seq (.reg [sm 0 9 (.bin .lss 3 (tm 8) (tm 7))])
 (.seq (.cond (tm 9) .skip (.exit 0))
 (.seq (.block 1 (.seq (.reg [sv 0 10 8,
 sv 1 5 10])
 (.seq (.reg [sv 0 11 1,
 sv 1 12 0,
 sv 2 13 5,
 sm 3 14 (.ia (.sl 1) (tm 12) (tm 13)),
 sm 4 15 (.ld1 (tm 14)),
 ⟨5, (some 16), none, .callV (tm 11) [(tm 15)], [], false⟩])
 (.cond (tm 16) (.seq (.reg [sv 0 17 5,
 sv 1 4 17])
 .ret) .skip))))
 (.reg [sm 0 18 (.bin .add 3 (tm 8) (.const (.int .i64 1))),
 sv 1 8 18]))))
def c272 : Cd := (.seq (.reg [sm 0 4 (.mv (.const (.int .i64 0)))])
 (.seq (.seq (.reg [sv 0 6 0,
 sm 1 7 (.len (.sl 1) (tm 6)),
 sm 2 8 (.mv (.const (.int .i64 0)))])
 (.block 0 (.loop l272_0)))
 (.seq (.reg [sm 0 4 (.mv (.const (.int .i64 (-1))))])
 .ret)))
def r272 : List Mo := [.mv (tm 4)]
theorem c272_eq : compF Tryz.prog 272 = some c272 := by kernel_rfl
theorem r272_eq : compRs Tryz.prog 272 = some r272 := by kernel_rfl
def l273_0 : Cd := (.seq (.reg [sm 0 53 (.bin .lss 3 (tm 52) (.const (.int .i64 64)))])
 (.seq (.cond (tm 53) .skip (.exit 0))
 (.seq (.block 1 (.seq (.reg [sv 0 54 52,
 sv 1 13 54])
 (.seq (.dreg [sv 0 55 12,
 sv 1 56 9,
 sv 4 59 9,
 sv 5 60 10,
 sm 6 61 (.bin .and 46 (tm 59) (tm 60)),
 sv 7 62 9,
 sm 8 63 (.un .xor (tm 62)),
 sv 9 64 11,
 sm 10 65 (.bin .and 46 (tm 63) (tm 64)),
 sm 11 66 (.bin .xor 46 (tm 61) (tm 65)),
 sv 13 68 13,
 sm 14 69 (.ia (.arr 64 1) (.global 1) (tm 68)),
 ⟨15, (some 70), none, .mo (.ld1 (tm 69)), [], true⟩,
 sv 17 72 13,
 sm 18 73 (.ia (.arr 64 1) (tm 4) (tm 72)),
 ⟨19, (some 74), none, .mo (.ld1 (tm 73)), [], true⟩,
 ⟨2, (some 57), none, .callF 286 [(tm 56), (.const (.int .i64 6)), (.const (.int .i64 11)), (.const (.int .i64 25))], [19, 15], false⟩,
 sm 3 58 (.bin .add 46 (tm 55) (tm 57)),
 sm 12 67 (.bin .add 46 (tm 58) (tm 66)),
 sm 16 71 (.bin .add 46 (tm 67) (tm 70)),
 sm 20 75 (.bin .add 46 (tm 71) (tm 74)),
 sv 21 14 75])
 (.seq (.reg [sv 0 76 5,
 sc 1 77 286 [(tm 76), (.const (.int .i64 2)), (.const (.int .i64 13)), (.const (.int .i64 22))],
 sv 2 78 5,
 sv 3 79 6,
 sm 4 80 (.bin .and 46 (tm 78) (tm 79)),
 sv 5 81 5,
 sv 6 82 7,
 sm 7 83 (.bin .and 46 (tm 81) (tm 82)),
 sm 8 84 (.bin .xor 46 (tm 80) (tm 83)),
 sv 9 85 6,
 sv 10 86 7,
 sm 11 87 (.bin .and 46 (tm 85) (tm 86)),
 sm 12 88 (.bin .xor 46 (tm 84) (tm 87)),
 sm 13 89 (.bin .add 46 (tm 77) (tm 88)),
 sv 14 15 89])
 (.reg [sv 0 90 14,
 sv 1 91 15,
 sm 2 92 (.bin .add 46 (tm 90) (tm 91)),
 sv 3 93 5,
 sv 4 94 6,
 sv 5 95 7,
 sv 6 96 8,
 sv 7 97 14,
 sm 8 98 (.bin .add 46 (tm 96) (tm 97)),
 sv 9 99 9,
 sv 10 100 10,
 sv 11 101 11,
 sv 12 5 92,
 sv 13 6 93,
 sv 14 7 94,
 sv 15 8 95,
 sv 16 9 98,
 sv 17 10 99,
 sv 18 11 100,
 sv 19 12 101])))))
 (.reg [sm 0 102 (.bin .add 3 (tm 52) (.const (.int .i64 1))),
 sv 1 52 102]))))
def l273_1 : Cd := (.seq (.reg [sm 0 113 (.bin .lss 3 (tm 112) (.const (.int .i64 8)))])
 (.seq (.cond (tm 113) .skip (.exit 2))
 (.seq (.block 3 (.seq (.reg [sv 0 114 112,
 sm 1 115 (.ix1 8 1 (tm 111) (tm 112)),
 sv 2 16 114,
 sv 3 17 115])
 (.reg [sv 0 116 0,
 sv 1 117 16,
 sm 2 118 (.nilc (tm 116)),
 sm 3 119 (.ia (.arr 8 1) (tm 118) (tm 117)),
 sm 4 120 (.ld1 (tm 119)),
 sv 5 121 17,
 sm 6 122 (.bin .add 46 (tm 120) (tm 121)),
 sm 7 123 (.nilc (tm 116)),
 sm 8 124 (.ia (.arr 8 1) (tm 123) (tm 117)),
 se 9 (.st 1 (tm 124) (tm 122))])))
 (.reg [sm 0 125 (.bin .add 3 (tm 112) (.const (.int .i64 1))),
 sv 1 112 125]))))
def c273 : Cd := (.seq (.reg [sv 0 18 1,
 sc 1 19 285 [(tm 18)],
 sm 2 4 (.alloc (rep 64 (.int .u32 0))),
 se 3 (.st 64 (tm 4) (tm 19))])
 (.seq (.reg [sv 0 20 0,
 sm 1 21 (.nilc (tm 20)),
 sm 2 22 (.ia (.arr 8 1) (tm 21) (.const (.int .i64 0))),
 sm 3 23 (.ld1 (tm 22)),
 sv 4 24 0,
 sm 5 25 (.nilc (tm 24)),
 sm 6 26 (.ia (.arr 8 1) (tm 25) (.const (.int .i64 1))),
 sm 7 27 (.ld1 (tm 26)),
 sv 8 28 0,
 sm 9 29 (.nilc (tm 28)),
 sm 10 30 (.ia (.arr 8 1) (tm 29) (.const (.int .i64 2))),
 sm 11 31 (.ld1 (tm 30)),
 sv 12 32 0,
 sm 13 33 (.nilc (tm 32)),
 sm 14 34 (.ia (.arr 8 1) (tm 33) (.const (.int .i64 3))),
 sm 15 35 (.ld1 (tm 34)),
 sv 16 36 0,
 sm 17 37 (.nilc (tm 36)),
 sm 18 38 (.ia (.arr 8 1) (tm 37) (.const (.int .i64 4))),
 sm 19 39 (.ld1 (tm 38)),
 sv 20 40 0,
 sm 21 41 (.nilc (tm 40)),
 sm 22 42 (.ia (.arr 8 1) (tm 41) (.const (.int .i64 5))),
 sm 23 43 (.ld1 (tm 42)),
 sv 24 44 0,
 sm 25 45 (.nilc (tm 44)),
 sm 26 46 (.ia (.arr 8 1) (tm 45) (.const (.int .i64 6))),
 sm 27 47 (.ld1 (tm 46)),
 sv 28 48 0,
 sm 29 49 (.nilc (tm 48)),
 sm 30 50 (.ia (.arr 8 1) (tm 49) (.const (.int .i64 7))),
 sm 31 51 (.ld1 (tm 50)),
 sv 32 5 23,
 sv 33 6 27,
 sv 34 7 31,
 sv 35 8 35,
 sv 36 9 39,
 sv 37 10 43,
 sv 38 11 47,
 sv 39 12 51])
 (.seq (.seq (.reg [sm 0 52 (.mv (.const (.int .i64 0)))])
 (.block 0 (.loop l273_0)))
 (.seq (.reg [sv 0 103 5,
 sv 1 104 6,
 sv 2 105 7,
 sv 3 106 8,
 sv 4 107 9,
 sv 5 108 10,
 sv 6 109 11,
 sv 7 110 12,
 sm 8 111 (.bld [.int .u32 0, .int .u32 0, .int .u32 0, .int .u32 0, .int .u32 0, .int .u32 0, .int .u32 0, .int .u32 0] [(0, 1, (tm 103)), (1, 1, (tm 104)), (2, 1, (tm 105)), (3, 1, (tm 106)), (4, 1, (tm 107)), (5, 1, (tm 108)), (6, 1, (tm 109)), (7, 1, (tm 110))]),
 sm 9 112 (.mv (.const (.int .i64 0)))])
 (.block 2 (.loop l273_1))))))
def r273 : List Mo := []
theorem c273_eq : compF Tryz.prog 273 = some c273 := by kernel_rfl
theorem r273_eq : compRs Tryz.prog 273 = some r273 := by kernel_rfl
def c274 : Cd := (.seq (.reg [sm 0 2 (.mv (.const (.slice none 0 0)))])
 (.seq (.seq (.reg [sv 0 3 0,
 sm 1 4 (.bin .eql 100 (tm 3) (.const (.slice none 0 0)))])
 (.cond (tm 4) (.seq (.reg [sm 0 2 (.mv (.const (.slice none 0 0)))])
 .ret) .skip))
 (.seq (.reg [sm 0 5 (.bsl 1 [.int .u8 0] 0 []),
 sv 1 6 0,
 sm 2 7 (.app 1 1 (tm 5) (tm 6)),
 sv 3 2 7])
 .ret)))
def r274 : List Mo := [.mv (tm 2)]
theorem c274_eq : compF Tryz.prog 274 = some c274 := by kernel_rfl
theorem r274_eq : compRs Tryz.prog 274 = some r274 := by kernel_rfl
def l275_0 : Cd := (.seq (.seq (.reg [sv 0 16 3,
 sm 1 17 (.fa 0 (tm 1)),
 sm 2 18 (.ld1 (tm 17)),
 sm 3 19 (.len (.sl 32) (tm 18)),
 sm 4 20 (.bin .lss 3 (tm 16) (tm 19))])
 (.cond (tm 20) .skip (.exit 0)))
 (.seq (.block 1 (.seq (.reg [sm 0 23 (.fa 0 (tm 1)),
 sm 1 24 (.ld1 (tm 23)),
 sv 2 25 3,
 sm 3 26 (.bin .sub 3 (tm 25) (.const (.int .i64 1))),
 sm 4 27 (.ia (.sl 32) (tm 24) (tm 26)),
 sm 5 28 (.ldA 32 (tm 27)),
 sm 6 29 (.fa 0 (tm 1)),
 sm 7 30 (.ld1 (tm 29)),
 sv 8 31 3,
 sm 9 32 (.ia (.sl 32) (tm 30) (tm 31)),
 sm 10 33 (.ldA 32 (tm 32)),
 sc 11 34 162 [(tm 28), (tm 33)],
 sm 12 35 (.bin .geq 3 (tm 34) (.const (.int .i64 0)))])
 (.cond (tm 35) (.seq (.reg [sm 0 2 (.mv (.const (.int .i64 32)))])
 .ret) .skip)))
 (.reg [sv 0 21 3,
 sm 1 22 (.bin .add 3 (tm 21) (.const (.int .i64 1))),
 sv 2 3 22])))
def l275_1 : Cd := (.seq (.reg [sm 0 56 (.bin .lss 3 (tm 55) (tm 54))])
 (.seq (.cond (tm 56) .skip (.exit 4))
 (.seq (.block 5 (.seq (.reg [sm 0 57 (.ia (.sl 32) (tm 53) (tm 55)),
 sm 1 58 (.ldA 32 (tm 57)),
 sm 2 10 (.alloc (rep 32 (.int .u8 0))),
 se 3 (.st 32 (tm 10) (tm 58))])
 (.seq (.reg [sm 0 60 (.ldA 2 (tm 1)),
 sm 1 61 (.ldA 32 (tm 10)),
 sc 2 62 287 [(tm 60), (tm 61)],
 sv 3 59 62,
 sm 4 63 (.ext (tm 59) 0),
 sm 5 64 (.ext (tm 59) 1),
 sv 6 11 63,
 sv 7 12 64])
 (.seq (.seq (.reg [sv 0 65 12,
 sm 1 66 (.un .not (tm 65))])
 (.cond (tm 66) (.seq (.reg [sm 0 2 (.mv (.const (.int .i64 40)))])
 .ret) .skip))
 (.reg [sv 0 67 5,
 sv 1 68 11,
 sv 2 69 5,
 sv 3 70 11,
 sm 4 71 (.ia (.sl 1) (tm 69) (tm 70)),
 sm 5 72 (.ld1 (tm 71)),
 sv 6 73 7,
 sm 7 74 (.bsl 1 [.int .i64 0] 1 [(0, (tm 73))]),
 sm 8 75 (.app 1 8 (tm 72) (tm 74)),
 sm 9 76 (.ia (.sl 1) (tm 67) (tm 68)),
 se 10 (.st 1 (tm 76) (tm 75))])))))
 (.reg [sm 0 77 (.bin .add 3 (tm 55) (.const (.int .i64 1))),
 sv 1 55 77]))))
def l275_2 : Cd := (.seq (.reg [sm 0 48 (.bin .lss 3 (tm 47) (tm 46))])
 (.seq (.cond (tm 48) .skip (.exit 2))
 (.seq (.block 3 (.seq (.reg [sv 0 49 47,
 sm 1 50 (.ia (.sl 11) (tm 45) (tm 47)),
 sm 2 51 (.ldA 11 (tm 50)),
 sm 3 8 (.alloc [.int .u32 0, .nilS, .int .u64 0, .int .u8 0, .str [], .int .u8 0, .int .i64 0, .int .u64 0, .str [], .int .u32 0, .int .u32 0]),
 sv 4 7 49,
 se 5 (.st 11 (tm 8) (tm 51))])
 (.seq (.seq (.reg [sm 0 52 (.fa 1 (tm 8)),
 sm 1 53 (.ld1 (tm 52)),
 sm 2 54 (.len (.sl 32) (tm 53)),
 sm 3 55 (.mv (.const (.int .i64 0)))])
 (.block 4 (.loop l275_1)))
 (.seq (.reg [sv 0 78 4,
 sv 1 79 7,
 sm 2 80 (.fa 1 (tm 8)),
 sm 3 81 (.ld1 (tm 80)),
 sm 4 82 (.len (.sl 32) (tm 81)),
 sm 5 83 (.ia (.sl 1) (tm 78) (tm 79)),
 se 6 (.st 1 (tm 83) (tm 82))])
 (.seq (.reg [sv 0 84 4,
 sv 1 85 7,
 sm 2 86 (.ia (.sl 1) (tm 84) (tm 85)),
 sm 3 87 (.ld1 (tm 86)),
 sm 4 88 (.bin .eql 3 (tm 87) (.const (.int .i64 0)))])
 (.cond (tm 88) (.reg [sv 0 89 6,
 sv 1 90 7,
 sm 2 91 (.bsl 1 [.int .i64 0] 1 [(0, (tm 90))]),
 sm 3 92 (.app 1 8 (tm 89) (tm 91)),
 sv 4 6 92]) .skip))))))
 (.reg [sm 0 93 (.bin .add 3 (tm 47) (.const (.int .i64 1))),
 sv 1 47 93]))))
def l275_3 : Cd := (.seq (.reg [sm 0 109 (.bin .lss 3 (tm 108) (tm 107))])
 (.seq (.cond (tm 109) .skip (.exit 8))
 (.seq (.block 9 (.seq (.reg [sm 0 110 (.ia (.sl 1) (tm 106) (tm 108)),
 sm 1 111 (.ld1 (tm 110)),
 sv 2 15 111])
 (.seq (.reg [sv 0 112 4,
 sv 1 113 15,
 sm 2 114 (.ia (.sl 1) (tm 112) (tm 113)),
 sm 3 115 (.ld1 (tm 114)),
 sm 4 116 (.bin .sub 3 (tm 115) (.const (.int .i64 1))),
 sm 5 117 (.ia (.sl 1) (tm 112) (tm 113)),
 se 6 (.st 1 (tm 117) (tm 116))])
 (.seq (.reg [sv 0 118 4,
 sv 1 119 15,
 sm 2 120 (.ia (.sl 1) (tm 118) (tm 119)),
 sm 3 121 (.ld1 (tm 120)),
 sm 4 122 (.bin .eql 3 (tm 121) (.const (.int .i64 0)))])
 (.cond (tm 122) (.reg [sv 0 123 6,
 sv 1 124 15,
 sm 2 125 (.bsl 1 [.int .i64 0] 1 [(0, (tm 124))]),
 sm 3 126 (.app 1 8 (tm 123) (tm 125)),
 sv 4 6 126]) .skip)))))
 (.reg [sm 0 127 (.bin .add 3 (tm 108) (.const (.int .i64 1))),
 sv 1 108 127]))))
def l275_4 : Cd := (.seq (.seq (.reg [sv 0 94 13,
 sv 1 95 6,
 sm 2 96 (.len (.sl 1) (tm 95)),
 sm 3 97 (.bin .lss 3 (tm 94) (tm 96))])
 (.cond (tm 97) .skip (.exit 6)))
 (.seq (.block 7 (.seq (.reg [sv 0 100 5,
 sv 1 101 6,
 sv 2 102 13,
 sm 3 103 (.ia (.sl 1) (tm 101) (tm 102)),
 sm 4 104 (.ld1 (tm 103)),
 sm 5 105 (.ia (.sl 1) (tm 100) (tm 104)),
 sm 6 106 (.ld1 (tm 105)),
 sm 7 107 (.len (.sl 1) (tm 106)),
 sm 8 108 (.mv (.const (.int .i64 0)))])
 (.block 8 (.loop l275_3))))
 (.reg [sv 0 98 13,
 sm 1 99 (.bin .add 3 (tm 98) (.const (.int .i64 1))),
 sv 2 13 99])))
def c275 : Cd := (.seq (.reg [sm 0 1 (.box (tm 0)),
 sm 1 2 (.mv (.const (.int .i64 0)))])
 (.seq (.seq (.reg [sm 0 3 (.mv (.const (.int .i64 1)))])
 (.block 0 (.loop l275_0)))
 (.seq (.reg [sm 0 36 (.fa 1 (tm 1)),
 sm 1 37 (.ld1 (tm 36)),
 sm 2 38 (.len (.sl 11) (tm 37)),
 sm 3 39 (.mks 1 8 [.int .i64 0] (tm 38) (tm 38)),
 sv 4 4 39])
 (.seq (.reg [sm 0 40 (.fa 1 (tm 1)),
 sm 1 41 (.ld1 (tm 40)),
 sm 2 42 (.len (.sl 11) (tm 41)),
 sm 3 43 (.mks 1 24 [.nilS] (tm 42) (tm 42)),
 sv 4 5 43])
 (.seq (.reg [sm 0 6 (.mv (.const (.slice none 0 0)))])
 (.seq (.seq (.reg [sm 0 44 (.fa 1 (tm 1)),
 sm 1 45 (.ld1 (tm 44)),
 sm 2 46 (.len (.sl 11) (tm 45)),
 sm 3 47 (.mv (.const (.int .i64 0)))])
 (.block 2 (.loop l275_2)))
 (.seq (.reg [sm 0 13 (.mv (.const (.int .i64 0)))])
 (.seq (.block 6 (.loop l275_4))
 (.seq (.seq (.reg [sv 0 128 13,
 sm 1 129 (.fa 1 (tm 1)),
 sm 2 130 (.ld1 (tm 129)),
 sm 3 131 (.len (.sl 11) (tm 130)),
 sm 4 132 (.bin .lss 3 (tm 128) (tm 131))])
 (.cond (tm 132) (.seq (.reg [sm 0 2 (.mv (.const (.int .i64 36)))])
 .ret) .skip))
 (.seq (.reg [sm 0 2 (.mv (.const (.int .i64 0)))])
 .ret))))))))))
def r275 : List Mo := [.mv (tm 2)]
theorem c275_eq : compF Tryz.prog 275 = some c275 := by kernel_rfl
theorem r275_eq : compRs Tryz.prog 275 = some r275 := by kernel_rfl
def l276_0 : Cd := (.seq (.reg [sm 0 14 (.bin .lss 3 (tm 13) (tm 12))])
 (.seq (.cond (tm 14) .skip (.exit 0))
 (.seq (.block 1 (.seq (.reg [sv 0 15 13,
 sm 1 16 (.ia (.sl 32) (tm 11) (tm 13)),
 sm 2 17 (.ldA 32 (tm 16)),
 sm 3 5 (.alloc (rep 32 (.int .u8 0))),
 sv 4 4 15,
 se 5 (.st 32 (tm 5) (tm 17))])
 (.reg [sv 0 18 3,
 sm 1 19 (.ldA 32 (tm 5)),
 sv 2 20 4,
 se 3 (.mup 57 (tm 18) (tm 19) (tm 20))])))
 (.reg [sm 0 21 (.bin .add 3 (tm 13) (.const (.int .i64 1))),
 sv 1 13 21]))))
def c276 : Cd := (.seq (.reg [sm 0 1 (.box (tm 0)),
 sm 1 2 (.mv (.const (.map none)))])
 (.seq (.reg [sm 0 6 (.fa 0 (tm 1)),
 sm 1 7 (.ld1 (tm 6)),
 sm 2 8 (.len (.sl 32) (tm 7)),
 sm 3 9 (.mkM (some (tm 8))),
 sv 4 3 9])
 (.seq (.seq (.reg [sm 0 10 (.fa 0 (tm 1)),
 sm 1 11 (.ld1 (tm 10)),
 sm 2 12 (.len (.sl 32) (tm 11)),
 sm 3 13 (.mv (.const (.int .i64 0)))])
 (.block 0 (.loop l276_0)))
 (.seq (.reg [sv 0 22 3,
 sv 1 2 22])
 .ret))))
def r276 : List Mo := [.mv (tm 2)]
theorem c276_eq : compF Tryz.prog 276 = some c276 := by kernel_rfl
theorem r276_eq : compRs Tryz.prog 276 = some r276 := by kernel_rfl
def l277_0 : Cd := (.seq (.reg [sm 0 10 (.bin .lss 3 (tm 9) (tm 8))])
 (.seq (.cond (tm 10) .skip (.exit 0))
 (.seq (.block 1 (.seq (.reg [sv 0 11 9,
 sv 1 6 11])
 (.seq (.reg [sv 0 12 1,
 sv 1 13 6,
 sm 2 14 (.ia (.sl 1) (tm 12) (tm 13)),
 sm 3 15 (.ld1 (tm 14))])
 (.cond (tm 15) (.reg [sv 0 16 5,
 sm 1 17 (.fa 0 (tm 2)),
 sm 2 18 (.ld1 (tm 17)),
 sv 3 19 6,
 sm 4 20 (.ia (.sl 32) (tm 18) (tm 19)),
 sm 5 21 (.ldA 32 (tm 20)),
 sm 6 22 (.bsl 32 (rep 32 (.int .u8 0)) 1 [(0, (tm 21))]),
 sm 7 23 (.app 32 32 (tm 16) (tm 22)),
 sv 8 5 23]) .skip))))
 (.reg [sm 0 24 (.bin .add 3 (tm 9) (.const (.int .i64 1))),
 sv 1 9 24]))))
def c277 : Cd := (.seq (.reg [sm 0 2 (.box (tm 0)),
 sm 1 4 (.mv (.const (.slice none 0 0)))])
 (.seq (.reg [sm 0 5 (.mv (.const (.slice none 0 0)))])
 (.seq (.seq (.reg [sv 0 7 1,
 sm 1 8 (.len (.sl 1) (tm 7)),
 sm 2 9 (.mv (.const (.int .i64 0)))])
 (.block 0 (.loop l277_0)))
 (.seq (.reg [sv 0 25 5,
 sv 1 4 25])
 .ret))))
def r277 : List Mo := [.mv (tm 4)]
theorem c277_eq : compF Tryz.prog 277 = some c277 := by kernel_rfl
theorem r277_eq : compRs Tryz.prog 277 = some r277 := by kernel_rfl
def l285_0 : Cd := (.seq (.reg [sm 0 14 (.bin .lss 3 (tm 13) (tm 12))])
 (.seq (.cond (tm 14) .skip (.exit 0))
 (.seq (.block 1 (.seq (.reg [sv 0 15 13,
 sm 1 16 (.ia (.sl 1) (tm 11) (tm 13)),
 sm 2 17 (.ld1 (tm 16)),
 sv 3 3 15,
 sv 4 4 17])
 (.reg [sv 0 18 3,
 sm 1 19 (.bin .quo 3 (tm 18) (.const (.int .i64 4))),
 sv 2 20 3,
 sm 3 21 (.bin .quo 3 (tm 20) (.const (.int .i64 4))),
 sm 4 22 (.ia (.arr 64 1) (tm 2) (tm 21)),
 sm 5 23 (.ld1 (tm 22)),
 sm 6 24 (.bin .shl 46 (tm 23) (.const (.int .u64 8))),
 sv 7 25 4,
 sm 8 26 (.cint .u32 (tm 25)),
 sm 9 27 (.bin .or 46 (tm 24) (tm 26)),
 sm 10 28 (.ia (.arr 64 1) (tm 2) (tm 19)),
 se 11 (.st 1 (tm 28) (tm 27))])))
 (.reg [sm 0 29 (.bin .add 3 (tm 13) (.const (.int .i64 1))),
 sv 1 13 29]))))
def l285_1 : Cd := (.seq (.seq (.reg [sv 0 30 5,
 sm 1 31 (.bin .lss 3 (tm 30) (.const (.int .i64 64)))])
 (.cond (tm 31) .skip (.exit 2)))
 (.seq (.block 3 (.seq (.reg [sv 0 34 5,
 sm 1 35 (.bin .sub 3 (tm 34) (.const (.int .i64 15))),
 sm 2 36 (.ia (.arr 64 1) (tm 2) (tm 35)),
 sm 3 37 (.ld1 (tm 36)),
 sv 4 38 5,
 sm 5 39 (.bin .sub 3 (tm 38) (.const (.int .i64 2))),
 sm 6 40 (.ia (.arr 64 1) (tm 2) (tm 39)),
 sm 7 41 (.ld1 (tm 40)),
 sv 8 6 37,
 sv 9 7 41])
 (.seq (.reg [sv 0 42 6,
 sc 1 43 291 [(tm 42), (.const (.int .i64 (-7)))],
 sv 2 44 6,
 sc 3 45 291 [(tm 44), (.const (.int .i64 (-18)))],
 sm 4 46 (.bin .xor 46 (tm 43) (tm 45)),
 sv 5 47 6,
 sm 6 48 (.bin .shr 46 (tm 47) (.const (.int .u64 3))),
 sm 7 49 (.bin .xor 46 (tm 46) (tm 48)),
 sv 8 8 49])
 (.seq (.reg [sv 0 50 7,
 sc 1 51 291 [(tm 50), (.const (.int .i64 (-17)))],
 sv 2 52 7,
 sc 3 53 291 [(tm 52), (.const (.int .i64 (-19)))],
 sm 4 54 (.bin .xor 46 (tm 51) (tm 53)),
 sv 5 55 7,
 sm 6 56 (.bin .shr 46 (tm 55) (.const (.int .u64 10))),
 sm 7 57 (.bin .xor 46 (tm 54) (tm 56)),
 sv 8 9 57])
 (.reg [sv 0 58 5,
 sv 1 59 5,
 sm 2 60 (.bin .sub 3 (tm 59) (.const (.int .i64 16))),
 sm 3 61 (.ia (.arr 64 1) (tm 2) (tm 60)),
 sm 4 62 (.ld1 (tm 61)),
 sv 5 63 5,
 sm 6 64 (.bin .sub 3 (tm 63) (.const (.int .i64 7))),
 sm 7 65 (.ia (.arr 64 1) (tm 2) (tm 64)),
 sm 8 66 (.ld1 (tm 65)),
 sm 9 67 (.bin .add 46 (tm 62) (tm 66)),
 sv 10 68 8,
 sm 11 69 (.bin .add 46 (tm 67) (tm 68)),
 sv 12 70 9,
 sm 13 71 (.bin .add 46 (tm 69) (tm 70)),
 sm 14 72 (.ia (.arr 64 1) (tm 2) (tm 58)),
 se 15 (.st 1 (tm 72) (tm 71))])))))
 (.reg [sv 0 32 5,
 sm 1 33 (.bin .add 3 (tm 32) (.const (.int .i64 1))),
 sv 2 5 33])))
def c285 : Cd := (.seq (.reg [sm 0 2 (.alloc (rep 64 (.int .u32 0)))])
 (.seq (.seq (.reg [sv 0 10 0,
 sm 1 11 (.slice (.sl 1) (tm 10) none (some (.const (.int .i64 64))) none),
 sm 2 12 (.len (.sl 1) (tm 11)),
 sm 3 13 (.mv (.const (.int .i64 0)))])
 (.block 0 (.loop l285_0)))
 (.seq (.seq (.reg [sm 0 5 (.mv (.const (.int .i64 16)))])
 (.block 2 (.loop l285_1)))
 (.seq (.reg [sm 0 73 (.ldA 64 (tm 2)),
 se 1 (.st 64 (tm 2) (tm 73))])
 .ret))))
def r285 : List Mo := [.ldA 64 (tm 2)]
theorem c285_eq : compF Tryz.prog 285 = some c285 := by kernel_rfl
theorem r285_eq : compRs Tryz.prog 285 = some r285 := by kernel_rfl
def c286 : Cd := (.seq (.reg [sm 0 8 (.mv (.const (.int .u32 0)))])
 (.seq (.reg [sv 0 9 0,
 sv 1 10 1,
 sm 2 11 (.un .neg (tm 10)),
 sc 3 12 291 [(tm 9), (tm 11)],
 sv 4 13 0,
 sv 5 14 2,
 sm 6 15 (.un .neg (tm 14)),
 sc 7 16 291 [(tm 13), (tm 15)],
 sm 8 17 (.bin .xor 46 (tm 12) (tm 16)),
 sv 9 18 0,
 sv 10 19 3,
 sm 11 20 (.un .neg (tm 19)),
 sc 12 21 291 [(tm 18), (tm 20)],
 sm 13 22 (.bin .xor 46 (tm 17) (tm 21)),
 sv 14 8 22])
 .ret))
def r286 : List Mo := [.mv (tm 8)]
theorem c286_eq : compF Tryz.prog 286 = some c286 := by kernel_rfl
theorem r286_eq : compRs Tryz.prog 286 = some r286 := by kernel_rfl
def c287 : Cd := (.seq (.reg [sm 0 2 (.box (tm 0)),
 sm 1 3 (.box (tm 1)),
 sm 2 4 (.mv (.const (.int .i64 0))),
 sm 3 5 (.mv (.const (.bool false)))])
 (.seq (.reg [sm 0 6 (.fa 0 (tm 2)),
 sm 1 7 (.ld1 (tm 6)),
 sm 2 8 (.ldA 32 (tm 3)),
 sc 3 9 161 [(tm 7), (tm 8), (.func 162)],
 sm 4 10 (.ext (tm 9) 0),
 sm 5 11 (.ext (tm 9) 1),
 sv 6 4 10,
 sv 7 5 11])
 .ret))
def r287 : List Mo := [.mv (tm 4), .mv (tm 5)]
theorem c287_eq : compF Tryz.prog 287 = some c287 := by kernel_rfl
theorem r287_eq : compRs Tryz.prog 287 = some r287 := by kernel_rfl
def c291 : Cd := (.seq (.reg [sm 0 4 (.mv (.const (.int .u32 0)))])
 (.seq (.reg [sv 0 6 1,
 sm 1 7 (.cint .u64 (tm 6)),
 sm 2 8 (.bin .and 259 (tm 7) (.const (.int .u64 31))),
 sv 3 5 8])
 (.seq (.reg [sv 0 9 0,
 sv 1 10 5,
 sm 2 11 (.bin .shl 46 (tm 9) (tm 10)),
 sv 3 12 0,
 sv 4 13 5,
 sm 5 14 (.bin .sub 259 (.const (.int .u64 32)) (tm 13)),
 sm 6 15 (.bin .shr 46 (tm 12) (tm 14)),
 sm 7 16 (.bin .or 46 (tm 11) (tm 15)),
 sv 8 4 16])
 .ret)))
def r291 : List Mo := [.mv (tm 4)]
theorem c291_eq : compF Tryz.prog 291 = some c291 := by kernel_rfl
theorem r291_eq : compRs Tryz.prog 291 = some r291 := by kernel_rfl
def tblT : Tr (Cd × List Mo) := (.node (.node (.node (.node (.node (.node (.node .nil (some (c63, r63)) .nil) none (.node (.node (.node .nil (some (c287, r287)) .nil) none .nil) (some (c95, r95)) (.node .nil (some (c223, r223)) .nil))) (some (c15, r15)) (.node (.node (.node .nil (some (c143, r143)) .nil) none (.node .nil (some (c207, r207)) .nil)) (some (c47, r47)) .nil)) none (.node (.node (.node (.node .nil (some (c135, r135)) .nil) none .nil) (some (c39, r39)) (.node (.node .nil (some (c167, r167)) .nil) none (.node .nil (some (c231, r231)) .nil))) none (.node (.node (.node .nil (some (c151, r151)) .nil) (some (c87, r87)) (.node .nil (some (c215, r215)) .nil)) (some (c55, r55)) (.node .nil (some (c119, r119)) (.node .nil (some (c247, r247)) .nil))))) none (.node (.node (.node (.node (.node .nil (some (c131, r131)) .nil) (some (c67, r67)) (.node .nil (some (c195, r195)) .nil)) none (.node (.node (.node .nil (some (c291, r291)) .nil) none .nil) (some (c99, r99)) .nil)) none (.node (.node (.node (.node .nil (some (c275, r275)) .nil) (some (c147, r147)) .nil) (some (c83, r83)) .nil) (some (c51, r51)) (.node (.node .nil (some (c179, r179)) .nil) (some (c115, r115)) .nil))) (some (c11, r11)) (.node (.node (.node (.node .nil (some (c139, r139)) .nil) none (.node .nil (some (c203, r203)) .nil)) none (.node (.node .nil (some (c171, r171)) .nil) none (.node .nil (some (c235, r235)) .nil))) (some (c27, r27)) (.node (.node (.node .nil (some (c155, r155)) .nil) (some (c91, r91)) (.node .nil (some (c219, r219)) .nil)) none (.node (.node .nil (some (c187, r187)) .nil) (some (c123, r123)) (.node .nil (some (c251, r251)) .nil)))))) none (.node (.node (.node (.node (.node (.node .nil (some (c129, r129)) .nil) (some (c65, r65)) (.node .nil (some (c193, r193)) .nil)) none (.node (.node .nil (some (c161, r161)) .nil) (some (c97, r97)) (.node .nil (some (c225, r225)) .nil))) none (.node (.node (.node (.node .nil (some (c273, r273)) .nil) (some (c145, r145)) .nil) none .nil) none (.node (.node .nil (some (c177, r177)) .nil) none .nil))) none (.node (.node (.node (.node (.node .nil (some (c265, r265)) .nil) none .nil) (some (c73, r73)) (.node .nil (some (c201, r201)) .nil)) none (.node (.node .nil (some (c169, r169)) .nil) (some (c105, r105)) (.node .nil (some (c233, r233)) .nil))) none (.node (.node (.node .nil (some (c153, r153)) .nil) (some (c89, r89)) .nil) none (.node (.node .nil (some (c185, r185)) .nil) none (.node .nil (some (c249, r249)) .nil))))) none (.node (.node (.node (.node (.node .nil (some (c133, r133)) .nil) none (.node .nil (some (c197, r197)) .nil)) none (.node .nil (some (c101, r101)) (.node .nil (some (c229, r229)) .nil))) none (.node (.node (.node (.node .nil (some (c277, r277)) .nil) (some (c149, r149)) .nil) (some (c85, r85)) .nil) (some (c53, r53)) (.node (.node .nil (some (c181, r181)) .nil) (some (c117, r117)) (.node .nil (some (c245, r245)) .nil)))) none (.node (.node (.node (.node .nil (some (c141, r141)) .nil) none (.node .nil (some (c205, r205)) .nil)) (some (c45, r45)) (.node (.node .nil (some (c173, r173)) .nil) (some (c109, r109)) .nil)) none (.node (.node (.node (.node .nil (some (c285, r285)) .nil) (some (c157, r157)) .nil) (some (c93, r93)) (.node .nil (some (c221, r221)) .nil)) none (.node (.node .nil (some (c189, r189)) .nil) none (.node .nil (some (c253, r253)) .nil))))))) none (.node (.node (.node (.node (.node (.node (.node (.node .nil (some (c256, r256)) .nil) (some (c128, r128)) .nil) (some (c64, r64)) (.node .nil (some (c192, r192)) .nil)) none (.node (.node .nil (some (c160, r160)) .nil) (some (c96, r96)) (.node .nil (some (c224, r224)) .nil))) (some (c16, r16)) (.node (.node (.node (.node .nil (some (c272, r272)) .nil) (some (c144, r144)) .nil) (some (c80, r80)) (.node .nil (some (c208, r208)) .nil)) (some (c48, r48)) (.node (.node .nil (some (c176, r176)) .nil) none .nil))) (some (c8, r8)) (.node (.node (.node (.node .nil (some (c136, r136)) .nil) none (.node .nil (some (c200, r200)) .nil)) (some (c40, r40)) (.node (.node .nil (some (c168, r168)) .nil) (some (c104, r104)) (.node .nil (some (c232, r232)) .nil))) (some (c24, r24)) (.node (.node (.node .nil (some (c152, r152)) .nil) (some (c88, r88)) .nil) (some (c56, r56)) (.node (.node .nil (some (c184, r184)) .nil) (some (c120, r120)) (.node .nil (some (c248, r248)) .nil))))) none (.node (.node (.node (.node (.node .nil (some (c132, r132)) .nil) none (.node .nil (some (c196, r196)) .nil)) none (.node .nil (some (c100, r100)) .nil)) (some (c20, r20)) (.node (.node (.node (.node .nil (some (c276, r276)) .nil) (some (c148, r148)) .nil) none .nil) (some (c52, r52)) (.node (.node .nil (some (c180, r180)) .nil) (some (c116, r116)) .nil))) (some (c12, r12)) (.node (.node (.node (.node .nil (some (c140, r140)) .nil) none .nil) (some (c44, r44)) (.node (.node .nil (some (c172, r172)) .nil) (some (c108, r108)) .nil)) none (.node (.node (.node .nil (some (c156, r156)) .nil) (some (c92, r92)) (.node .nil (some (c220, r220)) .nil)) none (.node (.node .nil (some (c188, r188)) .nil) (some (c124, r124)) (.node .nil (some (c252, r252)) .nil)))))) none (.node (.node (.node (.node (.node (.node .nil (some (c130, r130)) .nil) (some (c66, r66)) (.node .nil (some (c194, r194)) .nil)) none (.node (.node .nil (some (c162, r162)) .nil) (some (c98, r98)) .nil)) (some (c18, r18)) (.node (.node (.node (.node .nil (some (c274, r274)) .nil) none .nil) none .nil) none (.node (.node .nil (some (c178, r178)) .nil) none .nil))) none (.node (.node (.node (.node (.node .nil (some (c266, r266)) .nil) (some (c138, r138)) .nil) none (.node .nil (some (c202, r202)) .nil)) none (.node (.node .nil (some (c170, r170)) .nil) (some (c106, r106)) (.node .nil (some (c234, r234)) .nil))) none (.node (.node (.node .nil (some (c154, r154)) .nil) (some (c90, r90)) (.node .nil (some (c218, r218)) .nil)) none (.node (.node .nil (some (c186, r186)) .nil) (some (c122, r122)) (.node .nil (some (c250, r250)) .nil))))) none (.node (.node (.node (.node (.node (.node .nil (some (c262, r262)) .nil) (some (c134, r134)) .nil) none (.node .nil (some (c198, r198)) .nil)) none (.node (.node .nil (some (c166, r166)) .nil) (some (c102, r102)) .nil)) (some (c22, r22)) (.node (.node (.node .nil (some (c150, r150)) .nil) (some (c86, r86)) .nil) (some (c54, r54)) (.node (.node .nil (some (c182, r182)) .nil) (some (c118, r118)) (.node .nil (some (c246, r246)) .nil)))) none (.node (.node (.node (.node .nil (some (c142, r142)) .nil) none (.node .nil (some (c206, r206)) .nil)) (some (c46, r46)) (.node (.node .nil (some (c174, r174)) .nil) none .nil)) none (.node (.node (.node (.node .nil (some (c286, r286)) .nil) none .nil) none (.node .nil (some (c222, r222)) .nil)) none .nil))))))
theorem tbl_all : AllT (TblP Tryz.prog) tblT := (allT_none (allT_none (allT_none (allT_none (allT_some ⟨c15_eq, r15_eq⟩ (allT_none (allT_some ⟨c63_eq, r63_eq⟩ allT_nil allT_nil) (allT_some ⟨c95_eq, r95_eq⟩ (allT_none (allT_some ⟨c287_eq, r287_eq⟩ allT_nil allT_nil) allT_nil) (allT_some ⟨c223_eq, r223_eq⟩ allT_nil allT_nil))) (allT_some ⟨c47_eq, r47_eq⟩ (allT_none (allT_some ⟨c143_eq, r143_eq⟩ allT_nil allT_nil) (allT_some ⟨c207_eq, r207_eq⟩ allT_nil allT_nil)) allT_nil)) (allT_none (allT_some ⟨c39_eq, r39_eq⟩ (allT_none (allT_some ⟨c135_eq, r135_eq⟩ allT_nil allT_nil) allT_nil) (allT_none (allT_some ⟨c167_eq, r167_eq⟩ allT_nil allT_nil) (allT_some ⟨c231_eq, r231_eq⟩ allT_nil allT_nil))) (allT_some ⟨c55_eq, r55_eq⟩ (allT_some ⟨c87_eq, r87_eq⟩ (allT_some ⟨c151_eq, r151_eq⟩ allT_nil allT_nil) (allT_some ⟨c215_eq, r215_eq⟩ allT_nil allT_nil)) (allT_some ⟨c119_eq, r119_eq⟩ allT_nil (allT_some ⟨c247_eq, r247_eq⟩ allT_nil allT_nil))))) (allT_some ⟨c11_eq, r11_eq⟩ (allT_none (allT_none (allT_some ⟨c67_eq, r67_eq⟩ (allT_some ⟨c131_eq, r131_eq⟩ allT_nil allT_nil) (allT_some ⟨c195_eq, r195_eq⟩ allT_nil allT_nil)) (allT_some ⟨c99_eq, r99_eq⟩ (allT_none (allT_some ⟨c291_eq, r291_eq⟩ allT_nil allT_nil) allT_nil) allT_nil)) (allT_some ⟨c51_eq, r51_eq⟩ (allT_some ⟨c83_eq, r83_eq⟩ (allT_some ⟨c147_eq, r147_eq⟩ (allT_some ⟨c275_eq, r275_eq⟩ allT_nil allT_nil) allT_nil) allT_nil) (allT_some ⟨c115_eq, r115_eq⟩ (allT_some ⟨c179_eq, r179_eq⟩ allT_nil allT_nil) allT_nil))) (allT_some ⟨c27_eq, r27_eq⟩ (allT_none (allT_none (allT_some ⟨c139_eq, r139_eq⟩ allT_nil allT_nil) (allT_some ⟨c203_eq, r203_eq⟩ allT_nil allT_nil)) (allT_none (allT_some ⟨c171_eq, r171_eq⟩ allT_nil allT_nil) (allT_some ⟨c235_eq, r235_eq⟩ allT_nil allT_nil))) (allT_none (allT_some ⟨c91_eq, r91_eq⟩ (allT_some ⟨c155_eq, r155_eq⟩ allT_nil allT_nil) (allT_some ⟨c219_eq, r219_eq⟩ allT_nil allT_nil)) (allT_some ⟨c123_eq, r123_eq⟩ (allT_some ⟨c187_eq, r187_eq⟩ allT_nil allT_nil) (allT_some ⟨c251_eq, r251_eq⟩ allT_nil allT_nil)))))) (allT_none (allT_none (allT_none (allT_none (allT_some ⟨c65_eq, r65_eq⟩ (allT_some ⟨c129_eq, r129_eq⟩ allT_nil allT_nil) (allT_some ⟨c193_eq, r193_eq⟩ allT_nil allT_nil)) (allT_some ⟨c97_eq, r97_eq⟩ (allT_some ⟨c161_eq, r161_eq⟩ allT_nil allT_nil) (allT_some ⟨c225_eq, r225_eq⟩ allT_nil allT_nil))) (allT_none (allT_none (allT_some ⟨c145_eq, r145_eq⟩ (allT_some ⟨c273_eq, r273_eq⟩ allT_nil allT_nil) allT_nil) allT_nil) (allT_none (allT_some ⟨c177_eq, r177_eq⟩ allT_nil allT_nil) allT_nil))) (allT_none (allT_none (allT_some ⟨c73_eq, r73_eq⟩ (allT_none (allT_some ⟨c265_eq, r265_eq⟩ allT_nil allT_nil) allT_nil) (allT_some ⟨c201_eq, r201_eq⟩ allT_nil allT_nil)) (allT_some ⟨c105_eq, r105_eq⟩ (allT_some ⟨c169_eq, r169_eq⟩ allT_nil allT_nil) (allT_some ⟨c233_eq, r233_eq⟩ allT_nil allT_nil))) (allT_none (allT_some ⟨c89_eq, r89_eq⟩ (allT_some ⟨c153_eq, r153_eq⟩ allT_nil allT_nil) allT_nil) (allT_none (allT_some ⟨c185_eq, r185_eq⟩ allT_nil allT_nil) (allT_some ⟨c249_eq, r249_eq⟩ allT_nil allT_nil))))) (allT_none (allT_none (allT_none (allT_none (allT_some ⟨c133_eq, r133_eq⟩ allT_nil allT_nil) (allT_some ⟨c197_eq, r197_eq⟩ allT_nil allT_nil)) (allT_some ⟨c101_eq, r101_eq⟩ allT_nil (allT_some ⟨c229_eq, r229_eq⟩ allT_nil allT_nil))) (allT_some ⟨c53_eq, r53_eq⟩ (allT_some ⟨c85_eq, r85_eq⟩ (allT_some ⟨c149_eq, r149_eq⟩ (allT_some ⟨c277_eq, r277_eq⟩ allT_nil allT_nil) allT_nil) allT_nil) (allT_some ⟨c117_eq, r117_eq⟩ (allT_some ⟨c181_eq, r181_eq⟩ allT_nil allT_nil) (allT_some ⟨c245_eq, r245_eq⟩ allT_nil allT_nil)))) (allT_none (allT_some ⟨c45_eq, r45_eq⟩ (allT_none (allT_some ⟨c141_eq, r141_eq⟩ allT_nil allT_nil) (allT_some ⟨c205_eq, r205_eq⟩ allT_nil allT_nil)) (allT_some ⟨c109_eq, r109_eq⟩ (allT_some ⟨c173_eq, r173_eq⟩ allT_nil allT_nil) allT_nil)) (allT_none (allT_some ⟨c93_eq, r93_eq⟩ (allT_some ⟨c157_eq, r157_eq⟩ (allT_some ⟨c285_eq, r285_eq⟩ allT_nil allT_nil) allT_nil) (allT_some ⟨c221_eq, r221_eq⟩ allT_nil allT_nil)) (allT_none (allT_some ⟨c189_eq, r189_eq⟩ allT_nil allT_nil) (allT_some ⟨c253_eq, r253_eq⟩ allT_nil allT_nil))))))) (allT_none (allT_none (allT_some ⟨c8_eq, r8_eq⟩ (allT_some ⟨c16_eq, r16_eq⟩ (allT_none (allT_some ⟨c64_eq, r64_eq⟩ (allT_some ⟨c128_eq, r128_eq⟩ (allT_some ⟨c256_eq, r256_eq⟩ allT_nil allT_nil) allT_nil) (allT_some ⟨c192_eq, r192_eq⟩ allT_nil allT_nil)) (allT_some ⟨c96_eq, r96_eq⟩ (allT_some ⟨c160_eq, r160_eq⟩ allT_nil allT_nil) (allT_some ⟨c224_eq, r224_eq⟩ allT_nil allT_nil))) (allT_some ⟨c48_eq, r48_eq⟩ (allT_some ⟨c80_eq, r80_eq⟩ (allT_some ⟨c144_eq, r144_eq⟩ (allT_some ⟨c272_eq, r272_eq⟩ allT_nil allT_nil) allT_nil) (allT_some ⟨c208_eq, r208_eq⟩ allT_nil allT_nil)) (allT_none (allT_some ⟨c176_eq, r176_eq⟩ allT_nil allT_nil) allT_nil))) (allT_some ⟨c24_eq, r24_eq⟩ (allT_some ⟨c40_eq, r40_eq⟩ (allT_none (allT_some ⟨c136_eq, r136_eq⟩ allT_nil allT_nil) (allT_some ⟨c200_eq, r200_eq⟩ allT_nil allT_nil)) (allT_some ⟨c104_eq, r104_eq⟩ (allT_some ⟨c168_eq, r168_eq⟩ allT_nil allT_nil) (allT_some ⟨c232_eq, r232_eq⟩ allT_nil allT_nil))) (allT_some ⟨c56_eq, r56_eq⟩ (allT_some ⟨c88_eq, r88_eq⟩ (allT_some ⟨c152_eq, r152_eq⟩ allT_nil allT_nil) allT_nil) (allT_some ⟨c120_eq, r120_eq⟩ (allT_some ⟨c184_eq, r184_eq⟩ allT_nil allT_nil) (allT_some ⟨c248_eq, r248_eq⟩ allT_nil allT_nil))))) (allT_some ⟨c12_eq, r12_eq⟩ (allT_some ⟨c20_eq, r20_eq⟩ (allT_none (allT_none (allT_some ⟨c132_eq, r132_eq⟩ allT_nil allT_nil) (allT_some ⟨c196_eq, r196_eq⟩ allT_nil allT_nil)) (allT_some ⟨c100_eq, r100_eq⟩ allT_nil allT_nil)) (allT_some ⟨c52_eq, r52_eq⟩ (allT_none (allT_some ⟨c148_eq, r148_eq⟩ (allT_some ⟨c276_eq, r276_eq⟩ allT_nil allT_nil) allT_nil) allT_nil) (allT_some ⟨c116_eq, r116_eq⟩ (allT_some ⟨c180_eq, r180_eq⟩ allT_nil allT_nil) allT_nil))) (allT_none (allT_some ⟨c44_eq, r44_eq⟩ (allT_none (allT_some ⟨c140_eq, r140_eq⟩ allT_nil allT_nil) allT_nil) (allT_some ⟨c108_eq, r108_eq⟩ (allT_some ⟨c172_eq, r172_eq⟩ allT_nil allT_nil) allT_nil)) (allT_none (allT_some ⟨c92_eq, r92_eq⟩ (allT_some ⟨c156_eq, r156_eq⟩ allT_nil allT_nil) (allT_some ⟨c220_eq, r220_eq⟩ allT_nil allT_nil)) (allT_some ⟨c124_eq, r124_eq⟩ (allT_some ⟨c188_eq, r188_eq⟩ allT_nil allT_nil) (allT_some ⟨c252_eq, r252_eq⟩ allT_nil allT_nil)))))) (allT_none (allT_none (allT_some ⟨c18_eq, r18_eq⟩ (allT_none (allT_some ⟨c66_eq, r66_eq⟩ (allT_some ⟨c130_eq, r130_eq⟩ allT_nil allT_nil) (allT_some ⟨c194_eq, r194_eq⟩ allT_nil allT_nil)) (allT_some ⟨c98_eq, r98_eq⟩ (allT_some ⟨c162_eq, r162_eq⟩ allT_nil allT_nil) allT_nil)) (allT_none (allT_none (allT_none (allT_some ⟨c274_eq, r274_eq⟩ allT_nil allT_nil) allT_nil) allT_nil) (allT_none (allT_some ⟨c178_eq, r178_eq⟩ allT_nil allT_nil) allT_nil))) (allT_none (allT_none (allT_none (allT_some ⟨c138_eq, r138_eq⟩ (allT_some ⟨c266_eq, r266_eq⟩ allT_nil allT_nil) allT_nil) (allT_some ⟨c202_eq, r202_eq⟩ allT_nil allT_nil)) (allT_some ⟨c106_eq, r106_eq⟩ (allT_some ⟨c170_eq, r170_eq⟩ allT_nil allT_nil) (allT_some ⟨c234_eq, r234_eq⟩ allT_nil allT_nil))) (allT_none (allT_some ⟨c90_eq, r90_eq⟩ (allT_some ⟨c154_eq, r154_eq⟩ allT_nil allT_nil) (allT_some ⟨c218_eq, r218_eq⟩ allT_nil allT_nil)) (allT_some ⟨c122_eq, r122_eq⟩ (allT_some ⟨c186_eq, r186_eq⟩ allT_nil allT_nil) (allT_some ⟨c250_eq, r250_eq⟩ allT_nil allT_nil))))) (allT_none (allT_some ⟨c22_eq, r22_eq⟩ (allT_none (allT_none (allT_some ⟨c134_eq, r134_eq⟩ (allT_some ⟨c262_eq, r262_eq⟩ allT_nil allT_nil) allT_nil) (allT_some ⟨c198_eq, r198_eq⟩ allT_nil allT_nil)) (allT_some ⟨c102_eq, r102_eq⟩ (allT_some ⟨c166_eq, r166_eq⟩ allT_nil allT_nil) allT_nil)) (allT_some ⟨c54_eq, r54_eq⟩ (allT_some ⟨c86_eq, r86_eq⟩ (allT_some ⟨c150_eq, r150_eq⟩ allT_nil allT_nil) allT_nil) (allT_some ⟨c118_eq, r118_eq⟩ (allT_some ⟨c182_eq, r182_eq⟩ allT_nil allT_nil) (allT_some ⟨c246_eq, r246_eq⟩ allT_nil allT_nil)))) (allT_none (allT_some ⟨c46_eq, r46_eq⟩ (allT_none (allT_some ⟨c142_eq, r142_eq⟩ allT_nil allT_nil) (allT_some ⟨c206_eq, r206_eq⟩ allT_nil allT_nil)) (allT_none (allT_some ⟨c174_eq, r174_eq⟩ allT_nil allT_nil) allT_nil)) (allT_none (allT_none (allT_none (allT_some ⟨c286_eq, r286_eq⟩ allT_nil allT_nil) allT_nil) (allT_some ⟨c222_eq, r222_eq⟩ allT_nil allT_nil)) allT_nil))))))
theorem tbl_ok : TblOk Tryz.prog (fun f => tblT.get f) := tblOk_of tbl_all
end Go.CM
