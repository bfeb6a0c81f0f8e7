/-
  The code of the functions, without types, as the canonical machine reads it (printed by program).
-/
import Derived.Test.YtobphgccoalchaaGreatDoorKg
import Derived.Test.YtobphgccoalchaaGreatDoorRows
import Derived.ProofKit
namespace Go.CM
open Go Go.Proofs
set_option maxRecDepth 100000
/-! F6 braid/braidlaw23.FoldNames -/
def l6_0 : Cd := (.seq (.seq (.reg [sv 0 79 6,
  sv 1 80 5,
  sm 2 81 (.len (.sl 4) (tm 80)),
  sm 3 82 (.bin .lss 3 (tm 79) (tm 81))])
  (.cond (tm 82) .skip (.exit 0)))
  (.seq (.block 1 (.seq (.dreg [sv 0 86 5,
  sv 1 87 6,
  sm 2 88 (.ia (.sl 4) (tm 86) (tm 87)),
  sm 3 89 (.ldA 4 (tm 88)),
  sm 4 90 (.mks 32 32 (rep 32 (.int .u8 0)) (.const (.int .i64 61)) (.const (.int .i64 61))),
  sm 5 91 (.bld [.nilS, .nilS] [(0, 1, (tm 90))]),
  sm 6 92 (.ldA 32 (tm 4)),
  ⟨11, (some 7), none, .mo (.alloc [.int .i64 0, .nilS, .nilS, .nilS]), [], true⟩,
  ⟨7, (some 93), none, .callF 20 [(tm 89), (tm 91), (tm 92)], [11], false⟩,
  sv 8 85 93,
  sm 9 94 (.ext (tm 85) 0),
  sm 10 95 (.ext (tm 85) 1),
  se 12 (.st 4 (tm 7) (tm 94)),
  sv 13 8 95])
  (.seq (.reg [sv 0 97 5,
  sv 1 98 6,
  sm 2 99 (.ia (.sl 4) (tm 97) (tm 98)),
  sm 3 100 (.ldA 4 (tm 99)),
  sc 4 101 13 [(tm 100), (.const (.string ⟨#[]⟩))],
  sv 5 96 101,
  sm 6 102 (.ext (tm 96) 0),
  sm 7 103 (.ext (tm 96) 1),
  sm 8 104 (.ext (tm 96) 2),
  sm 9 10 (.alloc [.int .u8 0, .int .i64 0, .int .u64 0, .str []]),
  sv 10 9 102,
  se 11 (.st 4 (tm 10) (tm 103)),
  sv 12 11 104])
  (.seq (.reg [sv 0 105 5,
  sv 1 106 6,
  sm 2 107 (.ia (.sl 4) (tm 105) (tm 106)),
  sm 3 108 (.ldA 4 (tm 107)),
  sc 4 109 25 [(tm 108)],
  sm 5 110 (.bin .neq 37 (tm 109) (.const (.int .i64 8))),
  sv 6 111 110,
  sg 7 112 111 false (.mv (tm 8)),
  sg 8 113 111 false (.bin .neq 37 (tm 112) (.const (.int .i64 8))),
  sm 9 114 (.pick (tm 111) (.const (.bool true)) (tm 113)),
  sv 10 115 114,
  sg 11 116 115 false (.mv (tm 11)),
  sg 12 117 115 false (.bin .neq 37 (tm 116) (.const (.int .i64 8))),
  sm 13 118 (.pick (tm 115) (.const (.bool true)) (tm 117))])
  (.cond (tm 118) (.seq (.reg [sm 0 0 (.mv (.const (.bool false)))])
  .ret) .skip)))))
  (.reg [sv 0 83 6,
  sm 1 84 (.bin .add 3 (tm 83) (.const (.int .i64 1))),
  sv 2 6 84])))
def c6 : Cd := (.seq (.reg [sm 0 0 (.mv (.const (.bool false)))])
  (.seq (.reg [sc 0 42 31 [],
  sv 1 1 42])
  (.seq (.reg [sv 0 44 1,
  sc 1 45 32 [(tm 44)],
  sv 2 43 45,
  sm 3 46 (.ext (tm 43) 0),
  sm 4 47 (.ext (tm 43) 1),
  sm 5 2 (.alloc [.nilS, .nilS]),
  se 6 (.st 2 (tm 2) (tm 46)),
  sv 7 3 47])
  (.seq (.seq (.reg [sv 0 48 3,
  sm 1 49 (.bin .neq 3 (tm 48) (.const (.int .i64 0)))])
  (.cond (tm 49) (.seq (.reg [sm 0 0 (.mv (.const (.bool false)))])
  .ret) .skip))
  (.seq (.reg [sv 0 50 1,
  sm 1 51 (.ia (.sl 11) (tm 50) (.const (.int .i64 0))),
  sm 2 52 (.ldA 11 (tm 51)),
  sc 3 53 33 [(tm 52)],
  sm 4 4 (.alloc (rep 32 (.int .u8 0))),
  se 5 (.st 32 (tm 4) (tm 53))])
  (.seq (.reg [sm 0 54 (.bld [.int .i64 0, .nilS, .nilS, .nilS] [(0, 1, (.const (.int .i64 (-1))))]),
  sm 1 55 (.bld (rep 32 (.int .u8 0)) [(0, 1, (.const (.int .u8 1)))]),
  sm 2 56 (.bsl 32 (rep 32 (.int .u8 0)) 1 [(0, (tm 55))]),
  sm 3 57 (.bld [.int .i64 0, .nilS, .nilS, .nilS] [(0, 1, (.const (.int .i64 61))), (3, 1, (tm 56))]),
  sm 4 58 (.bld [.int .i64 0, .nilS, .nilS, .nilS] [(0, 1, (.const (.int .i64 1)))]),
  sm 5 59 (.bld (rep 32 (.int .u8 0)) [(0, 1, (.const (.int .u8 1)))]),
  sm 6 60 (.bsl 32 (rep 32 (.int .u8 0)) 1 [(0, (tm 59))]),
  sm 7 61 (.bld [.int .i64 0, .nilS, .nilS, .nilS] [(3, 1, (tm 60))]),
  sm 8 62 (.bld (rep 32 (.int .u8 0)) [(0, 1, (.const (.int .u8 1)))]),
  sm 9 63 (.bld (rep 32 (.int .u8 0)) [(0, 1, (.const (.int .u8 1)))]),
  sm 10 64 (.bsl 32 (rep 32 (.int .u8 0)) 2 [(0, (tm 62)), (1, (tm 63))]),
  sm 11 65 (.bld [.int .i64 0, .nilS, .nilS, .nilS] [(0, 1, (.const (.int .i64 2))), (3, 1, (tm 64))]),
  sm 12 66 (.bld (rep 32 (.int .u8 0)) [(0, 1, (.const (.int .u8 2)))]),
  sm 13 67 (.bld (rep 32 (.int .u8 0)) [(0, 1, (.const (.int .u8 1)))]),
  sm 14 68 (.bsl 32 (rep 32 (.int .u8 0)) 2 [(0, (tm 66)), (1, (tm 67))]),
  sm 15 69 (.bld [.int .i64 0, .nilS, .nilS, .nilS] [(0, 1, (.const (.int .i64 2))), (3, 1, (tm 68))]),
  sm 16 70 (.bld ([.str []] ++ rep 32 (.int .u8 0)) []),
  sm 17 71 (.bsl 33 ([.str []] ++ rep 32 (.int .u8 0)) 1 [(0, (tm 70))]),
  sm 18 72 (.bld [.nilS] [(0, 1, (tm 71))]),
  sm 19 73 (.bld [.int .i64 0, .nilS, .nilS, .nilS] [(1, 1, (tm 72))]),
  sm 20 74 (.bld ([.str [], .int .u8 0, .int .i64 0, .int .u64 0, .str [], .int .u64 0] ++ rep 32 (.int .u8 0)) []),
  sm 21 75 (.bsl 38 ([.str [], .int .u8 0, .int .i64 0, .int .u64 0, .str [], .int .u64 0] ++ rep 32 (.int .u8 0)) 1 [(0, (tm 74))]),
  sm 22 76 (.bld [.nilS] [(0, 1, (tm 75))]),
  sm 23 77 (.bld [.int .i64 0, .nilS, .nilS, .nilS] [(2, 1, (tm 76))]),
  sm 24 78 (.bsl 4 [.int .i64 0, .nilS, .nilS, .nilS] 8 [(0, (tm 54)), (1, (tm 57)), (2, (tm 58)), (3, (tm 61)), (4, (tm 65)), (5, (tm 69)), (6, (tm 73)), (7, (tm 77))]),
  sv 25 5 78])
  (.seq (.seq (.reg [sm 0 6 (.mv (.const (.int .i64 0)))])
  (.block 0 (.loop l6_0)))
  (.seq (.reg [sm 0 120 (.bld [.int .i64 0, .nilS, .nilS, .nilS] []),
  sm 1 121 (.ldA 2 (tm 2)),
  sm 2 122 (.ldA 32 (tm 4)),
  sc 3 123 20 [(tm 120), (tm 121), (tm 122)],
  sv 4 119 123,
  sm 5 124 (.ext (tm 119) 0),
  sm 6 125 (.ext (tm 119) 1),
  sm 7 12 (.alloc [.int .i64 0, .nilS, .nilS, .nilS]),
  se 8 (.st 4 (tm 12) (tm 124)),
  sv 9 13 125])
  (.seq (.reg [sm 0 127 (.ldA 4 (tm 12)),
  sm 1 128 (.ldA 2 (tm 2)),
  sm 2 129 (.ldA 32 (tm 4)),
  sc 3 130 20 [(tm 127), (tm 128), (tm 129)],
  sv 4 126 130,
  sm 5 131 (.ext (tm 126) 0),
  sm 6 132 (.ext (tm 126) 1),
  sm 7 14 (.alloc [.int .i64 0, .nilS, .nilS, .nilS]),
  se 8 (.st 4 (tm 14) (tm 131)),
  sv 9 15 132])
  (.seq (.reg [sm 0 134 (.ldA 4 (tm 12)),
  sm 1 135 (.ldA 2 (tm 2)),
  sm 2 136 (.bld (rep 32 (.int .u8 0)) []),
  sc 3 137 20 [(tm 134), (tm 135), (tm 136)],
  sv 4 133 137,
  sm 5 138 (.ext (tm 133) 0),
  sm 6 139 (.ext (tm 133) 1),
  sm 7 16 (.alloc [.int .i64 0, .nilS, .nilS, .nilS]),
  se 8 (.st 4 (tm 16) (tm 138)),
  sv 9 17 139])
  (.seq (.reg [sm 0 141 (.bld (rep 32 (.int .u8 0)) [(0, 1, (.const (.int .u8 1)))]),
  sm 1 142 (.bsl 32 (rep 32 (.int .u8 0)) 1 [(0, (tm 141))]),
  sm 2 143 (.bld [.int .i64 0, .nilS, .nilS, .nilS] [(0, 1, (.const (.int .i64 60))), (3, 1, (tm 142))]),
  sm 3 144 (.ldA 2 (tm 2)),
  sm 4 145 (.ldA 32 (tm 4)),
  sc 5 146 20 [(tm 143), (tm 144), (tm 145)],
  sv 6 140 146,
  sm 7 147 (.ext (tm 140) 0),
  sm 8 148 (.ext (tm 140) 1),
  sm 9 18 (.alloc [.int .i64 0, .nilS, .nilS, .nilS]),
  se 10 (.st 4 (tm 18) (tm 147)),
  sv 11 19 148])
  (.seq (.reg [sm 0 150 (.bld (rep 32 (.int .u8 0)) [(0, 1, (.const (.int .u8 1)))]),
  sm 1 151 (.bsl 32 (rep 32 (.int .u8 0)) 1 [(0, (tm 150))]),
  sm 2 152 (.fa 1 (tm 12)),
  sm 3 153 (.ldA 1 (tm 152)),
  sm 4 154 (.bld [.int .i64 0, .nilS, .nilS, .nilS] [(0, 1, (.const (.int .i64 1))), (3, 1, (tm 151)), (1, 1, (tm 153))]),
  sm 5 155 (.ldA 2 (tm 2)),
  sm 6 156 (.ldA 32 (tm 4)),
  sc 7 157 20 [(tm 154), (tm 155), (tm 156)],
  sv 8 149 157,
  sm 9 158 (.ext (tm 149) 0),
  sm 10 159 (.ext (tm 149) 1),
  sm 11 20 (.alloc [.int .i64 0, .nilS, .nilS, .nilS]),
  se 12 (.st 4 (tm 20) (tm 158)),
  sv 13 21 159])
  (.seq (.dreg [sv 0 160 1,
  sm 1 161 (.ia (.sl 11) (tm 160) (.const (.int .i64 2))),
  sm 2 162 (.ldA 11 (tm 161)),
  sv 5 165 1,
  sm 6 166 (.slice (.sl 11) (tm 165) (some (.const (.int .i64 2))) none none),
  ⟨8, (some 22), none, .mo (.alloc [.nilS, .nilS]), [], true⟩,
  ⟨3, (some 163), none, .callF 33 [(tm 162)], [8], false⟩,
  sm 4 164 (.bsl 32 (rep 32 (.int .u8 0)) 1 [(0, (tm 163))]),
  sm 7 167 (.bld [.nilS, .nilS] [(0, 1, (tm 164)), (1, 1, (tm 166))]),
  se 9 (.st 2 (tm 22) (tm 167))])
  (.seq (.reg [sm 0 169 (.bld [.int .i64 0, .nilS, .nilS, .nilS] []),
  sm 1 170 (.ldA 2 (tm 22)),
  sm 2 171 (.ldA 32 (tm 4)),
  sc 3 172 20 [(tm 169), (tm 170), (tm 171)],
  sv 4 168 172,
  sm 5 173 (.ext (tm 168) 0),
  sm 6 174 (.ext (tm 168) 1),
  sm 7 23 (.alloc [.int .i64 0, .nilS, .nilS, .nilS]),
  se 8 (.st 4 (tm 23) (tm 173)),
  sv 9 24 174])
  (.seq (.reg [sm 0 176 (.ldA 2 (tm 22)),
  sc 1 177 12 [(tm 176)],
  sv 2 175 177,
  sm 3 178 (.ext (tm 175) 0),
  sm 4 179 (.ext (tm 175) 1),
  sm 5 25 (.alloc [.int .i64 0, .nilS, .nilS, .nilS]),
  se 6 (.st 4 (tm 25) (tm 178)),
  sv 7 26 179])
  (.seq (.reg [sm 0 181 (.ldA 2 (tm 22)),
  sc 1 182 29 [(tm 181), (.const (.slice none 0 0))],
  sv 2 180 182,
  sm 3 183 (.ext (tm 180) 0),
  sm 4 184 (.ext (tm 180) 1),
  sm 5 27 (.alloc [.int .i64 0, .nilS, .nilS, .nilS]),
  se 6 (.st 4 (tm 27) (tm 183)),
  sv 7 28 184])
  (.seq (.reg [sm 0 186 (.ldA 2 (tm 2)),
  sc 1 187 29 [(tm 186), (.const (.slice none 0 0))],
  sv 2 185 187,
  sm 3 188 (.ext (tm 185) 0),
  sm 4 189 (.ext (tm 185) 1),
  sm 5 29 (.alloc [.int .i64 0, .nilS, .nilS, .nilS]),
  se 6 (.st 4 (tm 29) (tm 188)),
  sv 7 30 189])
  (.seq (.reg [sm 0 191 (.ldA 2 (tm 2)),
  sm 1 192 (.ldA 32 (tm 4)),
  sm 2 193 (.ldA 32 (tm 4)),
  sm 3 194 (.ldA 32 (tm 4)),
  sm 4 195 (.bsl 32 (rep 32 (.int .u8 0)) 3 [(0, (tm 192)), (1, (tm 193)), (2, (tm 194))]),
  sc 5 196 29 [(tm 191), (tm 195)],
  sv 6 190 196,
  sm 7 197 (.ext (tm 190) 0),
  sm 8 198 (.ext (tm 190) 1),
  sm 9 31 (.alloc [.int .i64 0, .nilS, .nilS, .nilS]),
  se 10 (.st 4 (tm 31) (tm 197)),
  sv 11 32 198])
  (.seq (.dreg [⟨0, (some 200), none, .mo (.ldA 2 (tm 2)), [], true⟩,
  sv 1 201 1,
  sm 2 202 (.ia (.sl 11) (tm 201) (.const (.int .i64 2))),
  sm 3 203 (.ldA 11 (tm 202)),
  ⟨5, (some 205), none, .mo (.ldA 32 (tm 4)), [], true⟩,
  sv 6 206 1,
  sm 7 207 (.ia (.sl 11) (tm 206) (.const (.int .i64 1))),
  ⟨8, (some 208), none, .mo (.ldA 11 (tm 207)), [], true⟩,
  ⟨15, (some 33), none, .mo (.alloc [.int .i64 0, .nilS, .nilS, .nilS]), [], true⟩,
  ⟨4, (some 204), none, .callF 33 [(tm 203)], [15, 8, 5, 0], false⟩,
  ⟨9, (some 209), none, .callF 33 [(tm 208)], [15, 5, 0], false⟩,
  sm 10 210 (.bsl 32 (rep 32 (.int .u8 0)) 3 [(0, (tm 204)), (1, (tm 205)), (2, (tm 209))]),
  ⟨11, (some 211), none, .callF 29 [(tm 200), (tm 210)], [15], false⟩,
  sv 12 199 211,
  sm 13 212 (.ext (tm 199) 0),
  sm 14 213 (.ext (tm 199) 1),
  se 16 (.st 4 (tm 33) (tm 212)),
  sv 17 34 213])
  (.seq (.dreg [⟨0, (some 215), none, .mo (.ldA 2 (tm 2)), [], true⟩,
  ⟨1, (some 216), none, .mo (.ldA 32 (tm 4)), [], true⟩,
  sv 2 217 1,
  sm 3 218 (.ia (.sl 11) (tm 217) (.const (.int .i64 1))),
  sm 4 219 (.ldA 11 (tm 218)),
  sm 6 221 (.bld (rep 32 (.int .u8 0)) []),
  ⟨12, (some 35), none, .mo (.alloc [.int .i64 0, .nilS, .nilS, .nilS]), [], true⟩,
  ⟨5, (some 220), none, .callF 33 [(tm 219)], [12, 1, 0], false⟩,
  sm 7 222 (.bsl 32 (rep 32 (.int .u8 0)) 3 [(0, (tm 216)), (1, (tm 220)), (2, (tm 221))]),
  ⟨8, (some 223), none, .callF 29 [(tm 215), (tm 222)], [12], false⟩,
  sv 9 214 223,
  sm 10 224 (.ext (tm 214) 0),
  sm 11 225 (.ext (tm 214) 1),
  se 13 (.st 4 (tm 35) (tm 224)),
  sv 14 36 225])
  (.seq (.dreg [⟨0, (some 227), none, .mo (.ldA 2 (tm 2)), [], true⟩,
  ⟨1, (some 228), none, .mo (.ldA 32 (tm 4)), [], true⟩,
  sv 2 229 1,
  sm 3 230 (.ia (.sl 11) (tm 229) (.const (.int .i64 1))),
  sm 4 231 (.ldA 11 (tm 230)),
  sv 6 233 1,
  sm 7 234 (.ia (.sl 11) (tm 233) (.const (.int .i64 2))),
  ⟨8, (some 235), none, .mo (.ldA 11 (tm 234)), [], true⟩,
  ⟨15, (some 37), none, .mo (.alloc [.int .i64 0, .nilS, .nilS, .nilS]), [], true⟩,
  ⟨5, (some 232), none, .callF 33 [(tm 231)], [15, 8, 1, 0], false⟩,
  ⟨9, (some 236), none, .callF 33 [(tm 235)], [15, 1, 0], false⟩,
  sm 10 237 (.bsl 32 (rep 32 (.int .u8 0)) 3 [(0, (tm 228)), (1, (tm 232)), (2, (tm 236))]),
  ⟨11, (some 238), none, .callF 29 [(tm 227), (tm 237)], [15], false⟩,
  sv 12 226 238,
  sm 13 239 (.ext (tm 226) 0),
  sm 14 240 (.ext (tm 226) 1),
  se 16 (.st 4 (tm 37) (tm 239)),
  sv 17 38 240])
  (.seq (.reg [sm 0 242 (.bld [.int .i64 0, .nilS, .nilS, .nilS] []),
  sc 1 243 13 [(tm 242), (.const (.string ⟨#[107]⟩))],
  sv 2 241 243,
  sm 3 244 (.ext (tm 241) 0),
  sm 4 245 (.ext (tm 241) 1),
  sm 5 246 (.ext (tm 241) 2),
  sm 6 40 (.alloc [.int .u8 0, .int .i64 0, .int .u64 0, .str []]),
  sv 7 39 244,
  se 8 (.st 4 (tm 40) (tm 245)),
  sv 9 41 246])
  (.seq (.reg [sm 0 247 (.mv (.const (.bool true))),
  ⟨1, (some 248), (some ((some 247), true)), .callF 9 [], [], false⟩,
  sm 2 249 (.pick (tm 247) (tm 248) (.const (.bool false))),
  sv 3 250 249,
  sg 4 251 250 true (.mv (tm 13)),
  sg 5 252 250 true (.bin .eql 37 (tm 251) (.const (.int .i64 0))),
  sm 6 253 (.pick (tm 250) (tm 252) (.const (.bool false))),
  sv 7 254 253,
  sg 8 255 254 true (.mv (tm 15)),
  sg 9 256 254 true (.bin .eql 37 (tm 255) (.const (.int .i64 14))),
  sm 10 257 (.pick (tm 254) (tm 256) (.const (.bool false))),
  sv 11 258 257,
  sg 12 259 258 true (.mv (tm 17)),
  sg 13 260 258 true (.bin .eql 37 (tm 259) (.const (.int .i64 6))),
  sm 14 261 (.pick (tm 258) (tm 260) (.const (.bool false))),
  sv 15 262 261,
  sg 16 263 262 true (.mv (tm 19)),
  sg 17 264 262 true (.bin .eql 37 (tm 263) (.const (.int .i64 18))),
  sm 18 265 (.pick (tm 262) (tm 264) (.const (.bool false))),
  sv 19 266 265,
  sg 20 267 266 true (.mv (tm 21)),
  sg 21 268 266 true (.bin .eql 37 (tm 267) (.const (.int .i64 14))),
  sm 22 269 (.pick (tm 266) (tm 268) (.const (.bool false))),
  sv 23 270 269,
  sg 24 271 270 true (.mv (tm 24)),
  sg 25 272 270 true (.bin .eql 37 (tm 271) (.const (.int .i64 40))),
  sm 26 273 (.pick (tm 270) (tm 272) (.const (.bool false))),
  sv 27 274 273,
  sg 28 275 274 true (.mv (tm 26)),
  sg 29 276 274 true (.bin .eql 37 (tm 275) (.const (.int .i64 40))),
  sm 30 277 (.pick (tm 274) (tm 276) (.const (.bool false))),
  sv 31 278 277,
  sg 32 279 278 true (.mv (tm 28)),
  sg 33 280 278 true (.bin .eql 37 (tm 279) (.const (.int .i64 40))),
  sm 34 281 (.pick (tm 278) (tm 280) (.const (.bool false))),
  sv 35 282 281,
  sg 36 283 282 true (.mv (tm 30)),
  sg 37 284 282 true (.bin .eql 37 (tm 283) (.const (.int .i64 32))),
  sm 38 285 (.pick (tm 282) (tm 284) (.const (.bool false))),
  sv 39 286 285,
  sg 40 287 286 true (.mv (tm 32)),
  sg 41 288 286 true (.bin .eql 37 (tm 287) (.const (.int .i64 32))),
  sm 42 289 (.pick (tm 286) (tm 288) (.const (.bool false))),
  sv 43 290 289,
  sg 44 291 290 true (.mv (tm 34)),
  sg 45 292 290 true (.bin .eql 37 (tm 291) (.const (.int .i64 32))),
  sm 46 293 (.pick (tm 290) (tm 292) (.const (.bool false))),
  sv 47 294 293,
  sg 48 295 294 true (.mv (tm 36)),
  sg 49 296 294 true (.bin .eql 37 (tm 295) (.const (.int .i64 32))),
  sm 50 297 (.pick (tm 294) (tm 296) (.const (.bool false))),
  sv 51 298 297,
  sg 52 299 298 true (.mv (tm 38)),
  sg 53 300 298 true (.bin .eql 37 (tm 299) (.const (.int .i64 0))),
  sm 54 301 (.pick (tm 298) (tm 300) (.const (.bool false))),
  sv 55 302 301,
  sg 56 303 302 true (.fa 0 (tm 37)),
  sg 57 304 302 true (.ld1 (tm 303)),
  sg 58 305 302 true (.bin .eql 3 (tm 304) (.const (.int .i64 3))),
  sm 59 306 (.pick (tm 302) (tm 305) (.const (.bool false))),
  sv 60 307 306,
  sg 61 308 307 true (.mv (tm 41)),
  sg 62 309 307 true (.bin .eql 37 (tm 308) (.const (.int .i64 0))),
  sm 63 310 (.pick (tm 307) (tm 309) (.const (.bool false))),
  sv 64 311 310,
  sg 65 312 311 true (.mv (tm 39)),
  sg 66 313 311 true (.un .not (tm 312)),
  sm 67 314 (.pick (tm 311) (tm 313) (.const (.bool false))),
  sv 68 315 314,
  sg 69 316 315 true (.ldA 4 (tm 40)),
  sg 70 317 315 true (.bld [.int .u8 0, .int .i64 0, .int .u64 0, .str []] []),
  sg 71 318 315 true (.bin .eql 42 (tm 316) (tm 317)),
  sm 72 319 (.pick (tm 315) (tm 318) (.const (.bool false))),
  sv 73 0 319])
  .ret)))))))))))))))))))))))
def r6 : List Mo := [.mv (tm 0)]
theorem c6_eq : compF Tryz.prog 6 = some c6 := by kernel_rfl
theorem r6_eq : compRs Tryz.prog 6 = some r6 := by kernel_rfl
/-! F9 braid/braidlaw23.alive -/
def c9 : Cd := (.seq (.reg [sm 0 0 (.mv (.const (.bool false)))])
  (.seq (.reg [sc 0 16 31 [],
  sv 1 1 16])
  (.seq (.reg [sv 0 18 1,
  sm 1 19 (.slice (.sl 11) (tm 18) none (some (.const (.int .i64 2))) none),
  sc 2 20 32 [(tm 19)],
  sv 3 17 20,
  sm 4 21 (.ext (tm 17) 0),
  sm 5 22 (.ext (tm 17) 1),
  sm 6 2 (.alloc [.nilS, .nilS]),
  se 7 (.st 2 (tm 2) (tm 21)),
  sv 8 3 22])
  (.seq (.reg [sv 0 24 1,
  sc 1 25 32 [(tm 24)],
  sv 2 23 25,
  sm 3 26 (.ext (tm 23) 0),
  sm 4 27 (.ext (tm 23) 1),
  sm 5 4 (.alloc [.nilS, .nilS]),
  se 6 (.st 2 (tm 4) (tm 26)),
  sv 7 5 27])
  (.seq (.reg [sm 0 29 (.ldA 2 (tm 2)),
  sc 1 30 12 [(tm 29)],
  sv 2 28 30,
  sm 3 31 (.ext (tm 28) 0),
  sm 4 32 (.ext (tm 28) 1),
  sm 5 6 (.alloc [.int .i64 0, .nilS, .nilS, .nilS]),
  se 6 (.st 4 (tm 6) (tm 31)),
  sv 7 7 32])
  (.seq (.reg [sm 0 34 (.ldA 2 (tm 4)),
  sc 1 35 12 [(tm 34)],
  sv 2 33 35,
  sm 3 36 (.ext (tm 33) 0),
  sm 4 37 (.ext (tm 33) 1),
  sm 5 8 (.alloc [.int .i64 0, .nilS, .nilS, .nilS]),
  se 6 (.st 4 (tm 8) (tm 36)),
  sv 7 9 37])
  (.seq (.reg [sm 0 39 (.ldA 4 (tm 6)),
  sc 1 40 13 [(tm 39), (.const (.string ⟨#[107]⟩))],
  sv 2 38 40,
  sm 3 41 (.ext (tm 38) 0),
  sm 4 42 (.ext (tm 38) 1),
  sm 5 43 (.ext (tm 38) 2),
  sm 6 11 (.alloc [.int .u8 0, .int .i64 0, .int .u64 0, .str []]),
  sv 7 10 41,
  se 8 (.st 4 (tm 11) (tm 42)),
  sv 9 12 43])
  (.seq (.reg [sm 0 45 (.ldA 4 (tm 8)),
  sc 1 46 13 [(tm 45), (.const (.string ⟨#[107]⟩))],
  sv 2 44 46,
  sm 3 47 (.ext (tm 44) 0),
  sm 4 48 (.ext (tm 44) 1),
  sm 5 49 (.ext (tm 44) 2),
  sm 6 14 (.alloc [.int .u8 0, .int .i64 0, .int .u64 0, .str []]),
  sv 7 13 47,
  se 8 (.st 4 (tm 14) (tm 48)),
  sv 9 15 49])
  (.seq (.dreg [sv 0 50 3,
  sm 1 51 (.bin .eql 3 (tm 50) (.const (.int .i64 0))),
  sv 2 52 51,
  sg 3 53 52 true (.mv (tm 5)),
  sg 4 54 52 true (.bin .eql 3 (tm 53) (.const (.int .i64 0))),
  sm 5 55 (.pick (tm 52) (tm 54) (.const (.bool false))),
  sv 6 56 55,
  sg 7 57 56 true (.mv (tm 7)),
  sg 8 58 56 true (.bin .eql 37 (tm 57) (.const (.int .i64 0))),
  sm 9 59 (.pick (tm 56) (tm 58) (.const (.bool false))),
  sv 10 60 59,
  sg 11 61 60 true (.mv (tm 9)),
  sg 12 62 60 true (.bin .eql 37 (tm 61) (.const (.int .i64 0))),
  sm 13 63 (.pick (tm 60) (tm 62) (.const (.bool false))),
  sv 14 64 63,
  sg 15 65 64 true (.mv (tm 12)),
  sg 16 66 64 true (.bin .eql 37 (tm 65) (.const (.int .i64 0))),
  sm 17 67 (.pick (tm 64) (tm 66) (.const (.bool false))),
  sv 18 68 67,
  sg 19 69 68 true (.mv (tm 15)),
  sg 20 70 68 true (.bin .eql 37 (tm 69) (.const (.int .i64 0))),
  sm 21 71 (.pick (tm 68) (tm 70) (.const (.bool false))),
  sv 22 72 71,
  sg 23 73 72 true (.fa 0 (tm 6)),
  sg 24 74 72 true (.ld1 (tm 73)),
  sg 25 75 72 true (.bin .eql 3 (tm 74) (.const (.int .i64 2))),
  sm 26 76 (.pick (tm 72) (tm 75) (.const (.bool false))),
  sv 27 77 76,
  sg 28 78 77 true (.fa 3 (tm 6)),
  sg 29 79 77 true (.ld1 (tm 78)),
  sg 30 80 77 true (.len (.sl 32) (tm 79)),
  sg 31 81 77 true (.bin .eql 3 (tm 80) (.const (.int .i64 2))),
  sm 32 82 (.pick (tm 77) (tm 81) (.const (.bool false))),
  sv 33 83 82,
  sg 34 84 83 true (.mv (tm 10)),
  sm 35 85 (.pick (tm 83) (tm 84) (.const (.bool false))),
  sv 36 86 85,
  ⟨37, (some 87), (some ((some 86), true)), .mo (.ldA 4 (tm 11)), [], true⟩,
  ⟨38, (some 88), (some ((some 86), true)), .callF 36 [], [37], false⟩,
  sg 39 89 86 true (.bin .eql 42 (tm 87) (tm 88)),
  sm 40 90 (.pick (tm 86) (tm 89) (.const (.bool false))),
  sv 41 91 90,
  sg 42 92 91 true (.fa 0 (tm 8)),
  sg 43 93 91 true (.ld1 (tm 92)),
  sg 44 94 91 true (.bin .eql 3 (tm 93) (.const (.int .i64 3))),
  sm 45 95 (.pick (tm 91) (tm 94) (.const (.bool false))),
  sv 46 96 95,
  sg 47 97 96 true (.fa 3 (tm 8)),
  ⟨48, (some 98), (some ((some 96), true)), .mo (.ld1 (tm 97)), [], true⟩,
  sg 49 99 96 true (.mv (tm 1)),
  sg 50 100 96 true (.ia (.sl 11) (tm 99) (.const (.int .i64 2))),
  sg 51 101 96 true (.ldA 11 (tm 100)),
  ⟨52, (some 102), (some ((some 96), true)), .callF 33 [(tm 101)], [48], false⟩,
  sg 53 103 96 true (.bsl 32 (rep 32 (.int .u8 0)) 1 [(0, (tm 102))]),
  ⟨54, (some 104), (some ((some 96), true)), .callF 37 [(tm 98), (tm 103)], [], false⟩,
  sm 55 105 (.pick (tm 96) (tm 104) (.const (.bool false))),
  sv 56 106 105,
  sg 57 107 106 true (.mv (tm 13)),
  sg 58 108 106 true (.un .not (tm 107)),
  sm 59 109 (.pick (tm 106) (tm 108) (.const (.bool false))),
  sv 60 110 109,
  ⟨61, (some 111), (some ((some 110), true)), .mo (.ldA 4 (tm 14)), [], true⟩,
  ⟨62, (some 112), (some ((some 110), true)), .callF 36 [], [61], false⟩,
  sg 63 113 110 true (.bin .eql 42 (tm 111) (tm 112)),
  sm 64 114 (.pick (tm 110) (tm 113) (.const (.bool false))),
  sv 65 0 114])
  .ret)))))))))
def r9 : List Mo := [.mv (tm 0)]
theorem c9_eq : compF Tryz.prog 9 = some c9 := by kernel_rfl
theorem r9_eq : compRs Tryz.prog 9 = some r9 := by kernel_rfl
/-! F12 braid/fold.Of -/
def c12 : Cd := (.seq (.reg [sm 0 1 (.box (tm 0)),
  sm 1 2 (.alloc [.int .i64 0, .nilS, .nilS, .nilS]),
  sm 2 3 (.mv (.const (.int .i64 0)))])
  (.seq (.reg [sm 0 8 (.ldA 2 (tm 1)),
  sc 1 9 41 [(tm 8)],
  sv 2 7 9,
  sm 3 10 (.ext (tm 7) 0),
  sm 4 11 (.ext (tm 7) 1),
  sm 5 4 (.alloc [.nilS]),
  se 6 (.st 1 (tm 4) (tm 10)),
  sv 7 5 11])
  (.seq (.seq (.reg [sv 0 12 5,
  sm 1 13 (.bin .neq 37 (tm 12) (.const (.int .i64 0)))])
  (.cond (tm 13) (.seq (.reg [sm 0 14 (.bld [.int .i64 0, .nilS, .nilS, .nilS] []),
  sv 1 15 5,
  se 2 (.st 4 (tm 2) (tm 14)),
  sv 3 3 15])
  .ret) .skip))
  (.seq (.reg [sm 0 16 (.fa 1 (tm 1)),
  sm 1 17 (.ld1 (tm 16)),
  sm 2 18 (.len (.sl 11) (tm 17)),
  sm 3 19 (.ldA 1 (tm 4)),
  sm 4 20 (.bld [.int .i64 0, .nilS, .nilS, .nilS] [(0, 1, (tm 18)), (1, 1, (tm 19))]),
  sm 5 6 (.alloc [.int .i64 0, .nilS, .nilS, .nilS]),
  se 6 (.st 4 (tm 6) (tm 20))])
  (.seq (.reg [sm 0 22 (.ldA 2 (tm 1)),
  sc 1 23 42 [(tm 22)],
  sv 2 21 23,
  sm 3 24 (.ext (tm 21) 0),
  sm 4 25 (.ext (tm 21) 1),
  sm 5 26 (.fa 2 (tm 6)),
  se 6 (.st 1 (tm 26) (tm 24))])
  (.seq (.reg [sm 0 28 (.ldA 2 (tm 1)),
  sc 1 29 43 [(tm 28)],
  sv 2 27 29,
  sm 3 30 (.ext (tm 27) 0),
  sm 4 31 (.ext (tm 27) 1),
  sm 5 32 (.fa 3 (tm 6)),
  se 6 (.st 1 (tm 32) (tm 30))])
  (.seq (.reg [sm 0 33 (.ldA 4 (tm 6)),
  se 1 (.st 4 (tm 2) (tm 33)),
  sm 2 3 (.mv (.const (.int .i64 0)))])
  .ret)))))))
def r12 : List Mo := [.ldA 4 (tm 2), .mv (tm 3)]
theorem c12_eq : compF Tryz.prog 12 = some c12 := by kernel_rfl
theorem r12_eq : compRs Tryz.prog 12 = some r12 := by kernel_rfl
/-! F13 braid/fold.Read -/
def c13 : Cd := (.seq (.reg [sm 0 2 (.box (tm 0)),
  sm 1 4 (.mv (.const (.bool false))),
  sm 2 5 (.alloc [.int .u8 0, .int .i64 0, .int .u64 0, .str []]),
  sm 3 6 (.mv (.const (.int .i64 0)))])
  (.seq (.seq (.reg [sm 0 8 (.ldA 4 (tm 2)),
  sc 1 9 25 [(tm 8)],
  sv 2 7 9])
  (.seq (.reg [sv 0 10 7,
  sm 1 11 (.bin .neq 37 (tm 10) (.const (.int .i64 0)))])
  (.cond (tm 11) (.seq (.reg [sm 0 12 (.bld [.int .u8 0, .int .i64 0, .int .u64 0, .str []] []),
  sv 1 13 7,
  sm 2 4 (.mv (.const (.bool false))),
  se 3 (.st 4 (tm 5) (tm 12)),
  sv 4 6 13])
  .ret) .skip)))
  (.seq (.reg [sm 0 15 (.fa 1 (tm 2)),
  sm 1 16 (.ldA 1 (tm 15)),
  sv 2 17 1,
  sc 3 18 44 [(tm 16), (tm 17)],
  sv 4 14 18,
  sm 5 19 (.ext (tm 14) 0),
  sm 6 20 (.ext (tm 14) 1),
  sv 7 4 19])
  (.seq (.reg [sm 0 22 (.fa 2 (tm 2)),
  sm 1 23 (.ldA 1 (tm 22)),
  sv 2 24 1,
  sc 3 25 45 [(tm 23), (tm 24)],
  sv 4 21 25,
  sm 5 26 (.ext (tm 21) 0),
  sm 6 27 (.ext (tm 21) 1),
  se 7 (.st 4 (tm 5) (tm 26))])
  (.seq (.reg [sv 0 28 4,
  sm 1 29 (.ldA 4 (tm 5)),
  sv 2 4 28,
  se 3 (.st 4 (tm 5) (tm 29)),
  sm 4 6 (.mv (.const (.int .i64 0)))])
  .ret)))))
def r13 : List Mo := [.mv (tm 4), .ldA 4 (tm 5), .mv (tm 6)]
theorem c13_eq : compF Tryz.prog 13 = some c13 := by kernel_rfl
theorem r13_eq : compRs Tryz.prog 13 = some r13 := by kernel_rfl
/-! F19 braid/braidref09.Twin -/
def l19_0 : Cd := (.seq (.seq (.reg [sv 0 10 4,
  sm 1 11 (.fa 1 (tm 1)),
  sm 2 12 (.ld1 (tm 11)),
  sm 3 13 (.len (.sl 11) (tm 12)),
  sm 4 14 (.bin .lss 3 (tm 10) (tm 13))])
  (.cond (tm 14) .skip (.exit 0)))
  (.seq (.block 1 (.dreg [sm 0 17 (.fa 1 (tm 3)),
  ⟨1, (some 18), none, .mo (.ld1 (tm 17)), [], true⟩,
  sm 2 19 (.fa 1 (tm 1)),
  sm 3 20 (.ld1 (tm 19)),
  sv 4 21 4,
  sm 5 22 (.ia (.sl 11) (tm 20) (tm 21)),
  sm 6 23 (.ldA 11 (tm 22)),
  ⟨7, (some 24), none, .callF 51 [(tm 23)], [1], false⟩,
  sm 8 25 (.bsl 11 [.int .u32 0, .nilS, .int .u64 0, .int .u8 0, .str [], .int .u8 0, .int .i64 0, .int .u64 0, .str [], .int .u32 0, .int .u32 0] 1 [(0, (tm 24))]),
  sm 9 26 (.app 11 112 (tm 18) (tm 25)),
  sm 10 27 (.fa 1 (tm 3)),
  se 11 (.st 1 (tm 27) (tm 26))]))
  (.reg [sv 0 15 4,
  sm 1 16 (.bin .add 3 (tm 15) (.const (.int .i64 1))),
  sv 2 4 16])))
def c19 : Cd := (.seq (.reg [sm 0 1 (.box (tm 0)),
  sm 1 2 (.alloc [.nilS, .nilS])])
  (.seq (.reg [sm 0 5 (.bsl 32 (rep 32 (.int .u8 0)) 0 []),
  sm 1 6 (.fa 0 (tm 1)),
  sm 2 7 (.ld1 (tm 6)),
  sm 3 8 (.app 32 32 (tm 5) (tm 7)),
  sm 4 9 (.bld [.nilS, .nilS] [(0, 1, (tm 8))]),
  sm 5 3 (.alloc [.nilS, .nilS]),
  se 6 (.st 2 (tm 3) (tm 9))])
  (.seq (.seq (.reg [sm 0 4 (.mv (.const (.int .i64 0)))])
  (.block 0 (.loop l19_0)))
  (.seq (.reg [sm 0 28 (.ldA 2 (tm 3)),
  se 1 (.st 2 (tm 2) (tm 28))])
  .ret))))
def r19 : List Mo := [.ldA 2 (tm 2)]
theorem c19_eq : compF Tryz.prog 19 = some c19 := by kernel_rfl
theorem r19_eq : compRs Tryz.prog 19 = some r19 := by kernel_rfl
/-! F20 braid/fold.Apply -/
def c20 : Cd := (.seq (.reg [sm 0 3 (.box (tm 0)),
  sm 1 4 (.box (tm 1)),
  sm 2 5 (.box (tm 2)),
  sm 3 6 (.alloc [.int .i64 0, .nilS, .nilS, .nilS]),
  sm 4 7 (.mv (.const (.int .i64 0)))])
  (.seq (.seq (.reg [sm 0 10 (.ldA 4 (tm 3)),
  sc 1 11 25 [(tm 10)],
  sv 2 8 11])
  (.seq (.reg [sv 0 12 8,
  sm 1 13 (.bin .neq 37 (tm 12) (.const (.int .i64 0)))])
  (.cond (tm 13) (.seq (.reg [sm 0 14 (.bld [.int .i64 0, .nilS, .nilS, .nilS] []),
  sv 1 15 8,
  se 2 (.st 4 (tm 6) (tm 14)),
  sv 3 7 15])
  .ret) .skip)))
  (.seq (.seq (.reg [sm 0 16 (.ldA 2 (tm 4)),
  sc 1 17 52 [(tm 16)],
  sv 2 9 17])
  (.seq (.reg [sv 0 18 9,
  sm 1 19 (.bin .neq 37 (tm 18) (.const (.int .i64 0)))])
  (.cond (tm 19) (.seq (.reg [sm 0 20 (.bld [.int .i64 0, .nilS, .nilS, .nilS] []),
  sv 1 21 9,
  se 2 (.st 4 (tm 6) (tm 20)),
  sv 3 7 21])
  .ret) .skip)))
  (.seq (.reg [sm 0 22 (.ldA 4 (tm 3)),
  sm 1 23 (.ldA 2 (tm 4)),
  sm 2 24 (.ldA 32 (tm 5)),
  sc 3 25 53 [(tm 22), (tm 23), (tm 24)],
  sm 4 26 (.ext (tm 25) 0),
  sm 5 27 (.ext (tm 25) 1),
  se 6 (.st 4 (tm 6) (tm 26)),
  sv 7 7 27])
  .ret))))
def r20 : List Mo := [.ldA 4 (tm 6), .mv (tm 7)]
theorem c20_eq : compF Tryz.prog 20 = some c20 := by kernel_rfl
theorem r20_eq : compRs Tryz.prog 20 = some r20 := by kernel_rfl
/-! F24 braid/fold.New -/
def c24 : Cd := (.seq (.reg [sm 0 0 (.alloc [.int .i64 0, .nilS, .nilS, .nilS])])
  (.seq (.reg [sm 0 1 (.bld [.int .i64 0, .nilS, .nilS, .nilS] []),
  se 1 (.st 4 (tm 0) (tm 1))])
  .ret))
def r24 : List Mo := [.ldA 4 (tm 0)]
theorem c24_eq : compF Tryz.prog 24 = some c24 := by kernel_rfl
theorem r24_eq : compRs Tryz.prog 24 = some r24 := by kernel_rfl
/-! F25 braid/fold.Check -/
def l25_0 : Cd := (.seq (.seq (.reg [sv 0 43 4,
  sv 1 44 3,
  sm 2 45 (.bin .lss 3 (tm 43) (tm 44))])
  (.cond (tm 45) .skip (.exit 0)))
  (.seq (.block 1 (.seq (.reg [sm 0 48 (.fa 3 (tm 1)),
  sm 1 49 (.ld1 (tm 48)),
  sv 2 50 4,
  sm 3 51 (.bin .sub 3 (tm 50) (.const (.int .i64 1))),
  sm 4 52 (.ia (.sl 32) (tm 49) (tm 51)),
  sm 5 53 (.ldA 32 (tm 52)),
  sm 6 54 (.fa 3 (tm 1)),
  sm 7 55 (.ld1 (tm 54)),
  sv 8 56 4,
  sm 9 57 (.ia (.sl 32) (tm 55) (tm 56)),
  sm 10 58 (.ldA 32 (tm 57)),
  sc 11 59 60 [(tm 53), (tm 58)],
  sm 12 60 (.bin .geq 3 (tm 59) (.const (.int .i64 0)))])
  (.cond (tm 60) (.seq (.reg [sm 0 2 (.mv (.const (.int .i64 8)))])
  .ret) .skip)))
  (.reg [sv 0 46 4,
  sm 1 47 (.bin .add 3 (tm 46) (.const (.int .i64 1))),
  sv 2 4 47])))
def c25 : Cd := (.seq (.reg [sm 0 1 (.box (tm 0)),
  sm 1 2 (.mv (.const (.int .i64 0)))])
  (.seq (.reg [sm 0 5 (.fa 3 (tm 1)),
  sm 1 6 (.ld1 (tm 5)),
  sm 2 7 (.len (.sl 32) (tm 6)),
  sv 3 3 7])
  (.seq (.seq (.reg [sm 0 8 (.fa 0 (tm 1)),
  sm 1 9 (.ld1 (tm 8)),
  sm 2 10 (.bin .lss 3 (tm 9) (.const (.int .i64 0))),
  sv 3 11 10,
  sg 4 12 11 false (.fa 0 (tm 1)),
  sg 5 13 11 false (.ld1 (tm 12)),
  sg 6 14 11 false (.bin .gtr 3 (tm 13) (.const (.int .i64 60))),
  sm 7 15 (.pick (tm 11) (.const (.bool true)) (tm 14)),
  sv 8 16 15,
  sg 9 17 16 false (.mv (tm 3)),
  sg 10 18 16 false (.fa 0 (tm 1)),
  sg 11 19 16 false (.ld1 (tm 18)),
  sg 12 20 16 false (.bin .gtr 3 (tm 17) (tm 19)),
  sm 13 21 (.pick (tm 16) (.const (.bool true)) (tm 20)),
  sv 14 22 21,
  sg 15 23 22 false (.mv (tm 3)),
  sg 16 24 22 false (.bin .eql 3 (tm 23) (.const (.int .i64 0))),
  sg 17 25 22 false (.mv (tm 24)),
  sg 18 26 25 true (.fa 0 (tm 1)),
  sg 19 27 25 true (.ld1 (tm 26)),
  sg 20 28 25 true (.bin .gtr 3 (tm 27) (.const (.int .i64 0))),
  sg 21 29 22 false (.pick (tm 25) (tm 28) (.const (.bool false))),
  sm 22 30 (.pick (tm 22) (.const (.bool true)) (tm 29)),
  sv 23 31 30,
  sg 24 32 31 false (.fa 1 (tm 1)),
  sg 25 33 31 false (.ldA 1 (tm 32)),
  ⟨26, (some 34), (some ((some 31), false)), .callF 58 [(tm 33)], [], false⟩,
  sg 27 35 31 false (.bin .neq 37 (tm 34) (.const (.int .i64 0))),
  sm 28 36 (.pick (tm 31) (.const (.bool true)) (tm 35)),
  sv 29 37 36,
  sg 30 38 37 false (.fa 2 (tm 1)),
  sg 31 39 37 false (.ldA 1 (tm 38)),
  ⟨32, (some 40), (some ((some 37), false)), .callF 59 [(tm 39)], [], false⟩,
  sg 33 41 37 false (.bin .neq 37 (tm 40) (.const (.int .i64 0))),
  sm 34 42 (.pick (tm 37) (.const (.bool true)) (tm 41))])
  (.cond (tm 42) (.seq (.reg [sm 0 2 (.mv (.const (.int .i64 8)))])
  .ret) .skip))
  (.seq (.seq (.reg [sm 0 4 (.mv (.const (.int .i64 1)))])
  (.block 0 (.loop l25_0)))
  (.seq (.reg [sm 0 2 (.mv (.const (.int .i64 0)))])
  .ret)))))
def r25 : List Mo := [.mv (tm 2)]
theorem c25_eq : compF Tryz.prog 25 = some c25 := by kernel_rfl
theorem r25_eq : compRs Tryz.prog 25 = some r25 := by kernel_rfl
/-! F29 braid/fold.Run -/
def l29_0 : Cd := (.seq (.reg [sm 0 30 (.bin .lss 3 (tm 29) (tm 28))])
  (.seq (.cond (tm 30) .skip (.exit 0))
  (.seq (.block 1 (.seq (.reg [sv 0 31 29,
  sm 1 32 (.ia (.sl 32) (tm 27) (tm 29)),
  sm 2 33 (.ldA 32 (tm 32)),
  sm 3 8 (.alloc [.int .i64 0]),
  sm 4 9 (.alloc (rep 32 (.int .u8 0))),
  se 5 (.st 1 (tm 8) (tm 31)),
  se 6 (.st 32 (tm 9) (tm 33))])
  (.seq (.reg [sm 0 35 (.ldA 2 (tm 2)),
  sm 1 36 (.ldA 32 (tm 9)),
  sc 2 37 68 [(tm 35), (tm 36)],
  sv 3 34 37,
  sm 4 38 (.ext (tm 34) 0),
  sm 5 39 (.ext (tm 34) 1),
  sm 6 10 (.alloc [.int .u32 0, .nilS, .int .u64 0, .int .u8 0, .str [], .int .u8 0, .int .i64 0, .int .u64 0, .str [], .int .u32 0, .int .u32 0]),
  se 7 (.st 11 (tm 10) (tm 38)),
  sv 8 11 39])
  (.seq (.reg [sm 0 40 (.mkF 69 [] [(tm 3), (tm 8)]),
  sv 1 12 40])
  (.seq (.seq (.reg [sv 0 41 11,
  sm 1 42 (.bin .neq 37 (tm 41) (.const (.int .i64 0))),
  sv 2 43 42,
  sg 3 44 43 false (.ld1 (tm 3)),
  sg 4 45 43 false (.ld1 (tm 8)),
  sg 5 46 43 false (.slice (.sl 32) (tm 44) none (some (tm 45)) none),
  sg 6 47 43 false (.ldA 32 (tm 9)),
  ⟨7, (some 48), (some ((some 43), false)), .callF 70 [(tm 46), (tm 47)], [], false⟩,
  sm 8 49 (.pick (tm 43) (.const (.bool true)) (tm 48)),
  sv 9 50 49,
  sg 10 51 50 false (.fa 1 (tm 10)),
  sg 11 52 50 false (.ld1 (tm 51)),
  sg 12 53 50 false (.mv (tm 12)),
  ⟨13, (some 54), (some ((some 50), false)), .callF 71 [(tm 52), (tm 53)], [], false⟩,
  sm 14 55 (.pick (tm 50) (.const (.bool true)) (tm 54))])
  (.cond (tm 55) (.seq (.reg [sm 0 56 (.bld [.int .i64 0, .nilS, .nilS, .nilS] []),
  se 1 (.st 4 (tm 4) (tm 56)),
  sm 2 5 (.mv (.const (.int .i64 32)))])
  .ret) .skip))
  (.seq (.reg [sm 0 58 (.ldA 4 (tm 7)),
  sm 1 59 (.ldA 2 (tm 2)),
  sm 2 60 (.ldA 32 (tm 9)),
  sc 3 61 53 [(tm 58), (tm 59), (tm 60)],
  sv 4 57 61,
  sm 5 62 (.ext (tm 57) 0),
  sm 6 63 (.ext (tm 57) 1),
  se 7 (.st 4 (tm 7) (tm 62)),
  sv 8 11 63])
  (.seq (.reg [sv 0 64 11,
  sm 1 65 (.bin .neq 37 (tm 64) (.const (.int .i64 0)))])
  (.cond (tm 65) (.seq (.reg [sm 0 66 (.bld [.int .i64 0, .nilS, .nilS, .nilS] []),
  sv 1 67 11,
  se 2 (.st 4 (tm 4) (tm 66)),
  sv 3 5 67])
  .ret) .skip))))))))
  (.reg [sm 0 68 (.bin .add 3 (tm 29) (.const (.int .i64 1))),
  sv 1 29 68]))))
def c29 : Cd := (.seq (.reg [sm 0 2 (.box (tm 0)),
  sm 1 3 (.box (tm 1)),
  sm 2 4 (.alloc [.int .i64 0, .nilS, .nilS, .nilS]),
  sm 3 5 (.mv (.const (.int .i64 0)))])
  (.seq (.seq (.reg [sm 0 13 (.ldA 2 (tm 2)),
  sc 1 14 52 [(tm 13)],
  sv 2 6 14])
  (.seq (.reg [sv 0 15 6,
  sm 1 16 (.bin .neq 37 (tm 15) (.const (.int .i64 0)))])
  (.cond (tm 16) (.seq (.reg [sm 0 17 (.bld [.int .i64 0, .nilS, .nilS, .nilS] []),
  sv 1 18 6,
  se 2 (.st 4 (tm 4) (tm 17)),
  sv 3 5 18])
  .ret) .skip)))
  (.seq (.seq (.reg [sm 0 19 (.ld1 (tm 3)),
  sm 1 20 (.len (.sl 32) (tm 19)),
  sm 2 21 (.fa 0 (tm 2)),
  sm 3 22 (.ld1 (tm 21)),
  sm 4 23 (.len (.sl 32) (tm 22)),
  sm 5 24 (.bin .neq 3 (tm 20) (tm 23))])
  (.cond (tm 24) (.seq (.reg [sm 0 25 (.bld [.int .i64 0, .nilS, .nilS, .nilS] []),
  se 1 (.st 4 (tm 4) (tm 25)),
  sm 2 5 (.mv (.const (.int .i64 32)))])
  .ret) .skip))
  (.seq (.reg [sc 0 26 24 [],
  sm 1 7 (.alloc [.int .i64 0, .nilS, .nilS, .nilS]),
  se 2 (.st 4 (tm 7) (tm 26))])
  (.seq (.seq (.reg [sm 0 27 (.ld1 (tm 3)),
  sm 1 28 (.len (.sl 32) (tm 27)),
  sm 2 29 (.mv (.const (.int .i64 0)))])
  (.block 0 (.loop l29_0)))
  (.seq (.reg [sm 0 69 (.ldA 4 (tm 7)),
  se 1 (.st 4 (tm 4) (tm 69)),
  sm 2 5 (.mv (.const (.int .i64 0)))])
  .ret))))))
def r29 : List Mo := [.ldA 4 (tm 4), .mv (tm 5)]
theorem c29_eq : compF Tryz.prog 29 = some c29 := by kernel_rfl
theorem r29_eq : compRs Tryz.prog 29 = some r29 := by kernel_rfl
/-! F31 braid/braidlaw23.given -/
def c31 : Cd := (.seq (.reg [sm 0 0 (.mv (.const (.slice none 0 0)))])
  (.seq (.reg [sm 0 8 (.bld [.int .u8 0, .str [], .int .u8 0, .int .i64 0, .int .u64 0, .str []] [(0, 1, (.const (.int .u8 2))), (1, 1, (.const (.string ⟨#[107]⟩)))]),
  sm 1 9 (.bld [.int .u32 0, .nilS, .int .u64 0, .int .u8 0, .str [], .int .u8 0, .int .i64 0, .int .u64 0, .str [], .int .u32 0, .int .u32 0] [(3, 6, (tm 8))]),
  sc 2 10 73 [(.const (.int .u32 5)), (tm 9)],
  sv 3 7 10,
  sm 4 11 (.ext (tm 7) 0),
  sm 5 12 (.ext (tm 7) 1),
  sm 6 1 (.alloc [.int .u32 0, .nilS, .int .u64 0, .int .u8 0, .str [], .int .u8 0, .int .i64 0, .int .u64 0, .str [], .int .u32 0, .int .u32 0]),
  se 7 (.st 11 (tm 1) (tm 11)),
  sv 8 2 12])
  (.seq (.reg [sc 0 14 36 [],
  sm 1 15 (.bld [.int .u8 0, .str [], .int .u8 0, .int .i64 0, .int .u64 0, .str []] [(0, 1, (.const (.int .u8 4))), (1, 1, (.const (.string ⟨#[107]⟩))), (2, 4, (tm 14))]),
  sm 2 16 (.bld [.int .u32 0, .nilS, .int .u64 0, .int .u8 0, .str [], .int .u8 0, .int .i64 0, .int .u64 0, .str [], .int .u32 0, .int .u32 0] [(3, 6, (tm 15))]),
  sc 3 17 73 [(.const (.int .u32 5)), (tm 16)],
  sv 4 13 17,
  sm 5 18 (.ext (tm 13) 0),
  sm 6 19 (.ext (tm 13) 1),
  sm 7 3 (.alloc [.int .u32 0, .nilS, .int .u64 0, .int .u8 0, .str [], .int .u8 0, .int .i64 0, .int .u64 0, .str [], .int .u32 0, .int .u32 0]),
  se 8 (.st 11 (tm 3) (tm 18)),
  sv 9 4 19])
  (.seq (.dreg [sm 0 21 (.ldA 11 (tm 1)),
  ⟨2, (some 23), none, .mo (.ldA 11 (tm 3)), [], true⟩,
  sm 6 27 (.bld [.int .u8 0, .str [], .int .u8 0, .int .i64 0, .int .u64 0, .str []] [(0, 1, (.const (.int .u8 3))), (1, 1, (.const (.string ⟨#[107]⟩)))]),
  ⟨12, (some 5), none, .mo (.alloc [.int .u32 0, .nilS, .int .u64 0, .int .u8 0, .str [], .int .u8 0, .int .i64 0, .int .u64 0, .str [], .int .u32 0, .int .u32 0]), [], true⟩,
  ⟨1, (some 22), none, .callF 33 [(tm 21)], [12, 2], false⟩,
  ⟨3, (some 24), none, .callF 33 [(tm 23)], [12], false⟩,
  sm 4 25 (.bsl 32 (rep 32 (.int .u8 0)) 2 [(0, (tm 22)), (1, (tm 24))]),
  ⟨5, (some 26), none, .callF 74 [(tm 25)], [12], false⟩,
  sm 7 28 (.bld [.int .u32 0, .nilS, .int .u64 0, .int .u8 0, .str [], .int .u8 0, .int .i64 0, .int .u64 0, .str [], .int .u32 0, .int .u32 0] [(1, 1, (tm 26)), (3, 6, (tm 27))]),
  ⟨8, (some 29), none, .callF 73 [(.const (.int .u32 5)), (tm 28)], [12], false⟩,
  sv 9 20 29,
  sm 10 30 (.ext (tm 20) 0),
  sm 11 31 (.ext (tm 20) 1),
  se 13 (.st 11 (tm 5) (tm 30)),
  sv 14 6 31])
  (.seq (.reg [sm 0 32 (.ldA 11 (tm 1)),
  sm 1 33 (.ldA 11 (tm 3)),
  sm 2 34 (.ldA 11 (tm 5)),
  sm 3 35 (.bsl 11 [.int .u32 0, .nilS, .int .u64 0, .int .u8 0, .str [], .int .u8 0, .int .i64 0, .int .u64 0, .str [], .int .u32 0, .int .u32 0] 3 [(0, (tm 32)), (1, (tm 33)), (2, (tm 34))]),
  sv 4 0 35])
  .ret)))))
def r31 : List Mo := [.mv (tm 0)]
theorem c31_eq : compF Tryz.prog 31 = some c31 := by kernel_rfl
theorem r31_eq : compRs Tryz.prog 31 = some r31 := by kernel_rfl
/-! F32 braid/braidref09.Of -/
def l32_0 : Cd := (.seq (.seq (.reg [sv 0 12 4,
  sv 1 13 0,
  sm 2 14 (.len (.sl 11) (tm 13)),
  sm 3 15 (.bin .lss 3 (tm 12) (tm 14))])
  (.cond (tm 15) .skip (.exit 0)))
  (.seq (.block 1 (.seq (.reg [sv 0 18 0,
  sv 1 19 4,
  sm 2 20 (.ia (.sl 11) (tm 18) (tm 19)),
  sm 3 21 (.ldA 11 (tm 20)),
  sc 4 22 39 [(tm 21)],
  sm 5 23 (.bin .neq 3 (tm 22) (.const (.int .i64 0)))])
  (.cond (tm 23) (.seq (.reg [sm 0 24 (.bld [.nilS, .nilS] []),
  sv 1 25 0,
  sv 2 26 4,
  sm 3 27 (.ia (.sl 11) (tm 25) (tm 26)),
  sm 4 28 (.ldA 11 (tm 27)),
  sc 5 29 39 [(tm 28)],
  se 6 (.st 2 (tm 2) (tm 24)),
  sv 7 3 29])
  .ret) .skip)))
  (.reg [sv 0 16 4,
  sm 1 17 (.bin .add 3 (tm 16) (.const (.int .i64 1))),
  sv 2 4 17])))
def l32_1 : Cd := (.seq (.seq (.reg [sv 0 30 6,
  sv 1 31 0,
  sm 2 32 (.len (.sl 11) (tm 31)),
  sm 3 33 (.bin .lss 3 (tm 30) (tm 32))])
  (.cond (tm 33) .skip (.exit 2)))
  (.seq (.block 3 (.seq (.reg [sv 0 36 0,
  sv 1 37 6,
  sm 2 38 (.ia (.sl 11) (tm 36) (tm 37)),
  sm 3 39 (.ldA 11 (tm 38)),
  sc 4 40 33 [(tm 39)],
  sm 5 7 (.alloc (rep 32 (.int .u8 0))),
  se 6 (.st 32 (tm 7) (tm 40))])
  (.seq (.seq (.reg [sm 0 41 (.fa 0 (tm 5)),
  sm 1 42 (.ld1 (tm 41)),
  sm 2 43 (.ldA 32 (tm 7)),
  sc 3 44 75 [(tm 42), (tm 43)],
  sm 4 45 (.bin .geq 3 (tm 44) (.const (.int .i64 0)))])
  (.cond (tm 45) (.seq (.reg [sm 0 46 (.bld [.nilS, .nilS] []),
  se 1 (.st 2 (tm 2) (tm 46)),
  sm 2 3 (.mv (.const (.int .i64 14)))])
  .ret) .skip))
  (.reg [sm 0 47 (.ldA 2 (tm 5)),
  sm 1 48 (.ldA 32 (tm 7)),
  sv 2 49 0,
  sv 3 50 6,
  sm 4 51 (.ia (.sl 11) (tm 49) (tm 50)),
  sm 5 52 (.ldA 11 (tm 51)),
  sc 6 53 76 [(tm 47), (tm 48), (tm 52)],
  se 7 (.st 2 (tm 5) (tm 53))]))))
  (.reg [sv 0 34 6,
  sm 1 35 (.bin .add 3 (tm 34) (.const (.int .i64 1))),
  sv 2 6 35])))
def c32 : Cd := (.seq (.reg [sm 0 2 (.alloc [.nilS, .nilS]),
  sm 1 3 (.mv (.const (.int .i64 0)))])
  (.seq (.seq (.reg [sv 0 8 0,
  sm 1 9 (.len (.sl 11) (tm 8)),
  sm 2 10 (.bin .gtr 3 (tm 9) (.const (.int .i64 60)))])
  (.cond (tm 10) (.seq (.reg [sm 0 11 (.bld [.nilS, .nilS] []),
  se 1 (.st 2 (tm 2) (tm 11)),
  sm 2 3 (.mv (.const (.int .i64 4)))])
  .ret) .skip))
  (.seq (.seq (.reg [sm 0 4 (.mv (.const (.int .i64 0)))])
  (.block 0 (.loop l32_0)))
  (.seq (.reg [sm 0 5 (.alloc [.nilS, .nilS])])
  (.seq (.seq (.reg [sm 0 6 (.mv (.const (.int .i64 0)))])
  (.block 2 (.loop l32_1)))
  (.seq (.seq (.reg [sm 0 54 (.ldA 2 (tm 5)),
  sc 1 55 40 [(tm 54)],
  sm 2 56 (.bin .neq 3 (tm 55) (.const (.int .i64 0)))])
  (.cond (tm 56) (.seq (.reg [sm 0 57 (.bld [.nilS, .nilS] []),
  sm 1 58 (.ldA 2 (tm 5)),
  sc 2 59 40 [(tm 58)],
  se 3 (.st 2 (tm 2) (tm 57)),
  sv 4 3 59])
  .ret) .skip))
  (.seq (.reg [sm 0 60 (.ldA 2 (tm 5)),
  se 1 (.st 2 (tm 2) (tm 60)),
  sm 2 3 (.mv (.const (.int .i64 0)))])
  .ret)))))))
def r32 : List Mo := [.ldA 2 (tm 2), .mv (tm 3)]
theorem c32_eq : compF Tryz.prog 32 = some c32 := by kernel_rfl
theorem r32_eq : compRs Tryz.prog 32 = some r32 := by kernel_rfl
/-! F33 braid/braidref06.Of -/
def c33 : Cd := (.seq (.reg [sm 0 1 (.box (tm 0)),
  sm 1 2 (.alloc (rep 32 (.int .u8 0)))])
  (.seq (.reg [sm 0 3 (.ldA 11 (tm 1)),
  sc 1 4 78 [(tm 3)],
  sc 2 5 77 [(tm 4)],
  se 3 (.st 32 (tm 2) (tm 5))])
  .ret))
def r33 : List Mo := [.ldA 32 (tm 2)]
theorem c33_eq : compF Tryz.prog 33 = some c33 := by kernel_rfl
theorem r33_eq : compRs Tryz.prog 33 = some r33 := by kernel_rfl
/-! F36 braid/braidlaw23.seven -/
def c36 : Cd := (.seq (.reg [sm 0 0 (.alloc [.int .u8 0, .int .i64 0, .int .u64 0, .str []])])
  (.seq (.reg [sm 0 1 (.bld [.int .u8 0, .int .i64 0, .int .u64 0, .str []] [(0, 1, (.const (.int .u8 1))), (1, 1, (.const (.int .i64 7)))]),
  se 1 (.st 4 (tm 0) (tm 1))])
  .ret))
def r36 : List Mo := [.ldA 4 (tm 0)]
theorem c36_eq : compF Tryz.prog 36 = some c36 := by kernel_rfl
theorem r36_eq : compRs Tryz.prog 36 = some r36 := by kernel_rfl
/-! F37 braid/braidref04.SameIDs -/
def l37_0 : Cd := (.seq (.seq (.reg [sv 0 11 5,
  sv 1 12 0,
  sm 2 13 (.len (.sl 32) (tm 12)),
  sm 3 14 (.bin .lss 3 (tm 11) (tm 13))])
  (.cond (tm 14) .skip (.exit 0)))
  (.seq (.block 1 (.seq (.reg [sv 0 17 0,
  sv 1 18 5,
  sm 2 19 (.ia (.sl 32) (tm 17) (tm 18)),
  sm 3 20 (.ldA 32 (tm 19)),
  sv 4 21 1,
  sv 5 22 5,
  sm 6 23 (.ia (.sl 32) (tm 21) (tm 22)),
  sm 7 24 (.ldA 32 (tm 23)),
  sm 8 25 (.bin .neq 48 (tm 20) (tm 24))])
  (.cond (tm 25) (.seq (.reg [sm 0 4 (.mv (.const (.bool false)))])
  .ret) .skip)))
  (.reg [sv 0 15 5,
  sm 1 16 (.bin .add 3 (tm 15) (.const (.int .i64 1))),
  sv 2 5 16])))
def c37 : Cd := (.seq (.reg [sm 0 4 (.mv (.const (.bool false)))])
  (.seq (.seq (.reg [sv 0 6 0,
  sm 1 7 (.len (.sl 32) (tm 6)),
  sv 2 8 1,
  sm 3 9 (.len (.sl 32) (tm 8)),
  sm 4 10 (.bin .neq 3 (tm 7) (tm 9))])
  (.cond (tm 10) (.seq (.reg [sm 0 4 (.mv (.const (.bool false)))])
  .ret) .skip))
  (.seq (.seq (.reg [sm 0 5 (.mv (.const (.int .i64 0)))])
  (.block 0 (.loop l37_0)))
  (.seq (.reg [sm 0 4 (.mv (.const (.bool true)))])
  .ret))))
def r37 : List Mo := [.mv (tm 4)]
theorem c37_eq : compF Tryz.prog 37 = some c37 := by kernel_rfl
theorem r37_eq : compRs Tryz.prog 37 = some r37 := by kernel_rfl
/-! F39 braid/braidref06.Verify -/
def c39 : Cd := (.seq (.reg [sm 0 1 (.box (tm 0)),
  sm 1 2 (.mv (.const (.int .i64 0)))])
  (.seq (.seq (.reg [sm 0 3 (.ldA 11 (tm 1)),
  sc 1 4 81 [(tm 3)],
  sm 2 5 (.bin .neq 3 (tm 4) (.const (.int .i64 0)))])
  (.cond (tm 5) (.seq (.reg [sm 0 6 (.ldA 11 (tm 1)),
  sc 1 7 81 [(tm 6)],
  sv 2 2 7])
  .ret) .skip))
  (.seq (.seq (.reg [sm 0 8 (.ldA 11 (tm 1)),
  sc 1 9 82 [(tm 8)],
  sm 2 10 (.un .not (tm 9))])
  (.cond (tm 10) (.seq (.reg [sm 0 2 (.mv (.const (.int .i64 22)))])
  .ret) .skip))
  (.seq (.reg [sm 0 2 (.mv (.const (.int .i64 0)))])
  .ret))))
def r39 : List Mo := [.mv (tm 2)]
theorem c39_eq : compF Tryz.prog 39 = some c39 := by kernel_rfl
theorem r39_eq : compRs Tryz.prog 39 = some r39 := by kernel_rfl
/-! F40 braid/braidref09.shape -/
def l40_0 : Cd := (.seq (.seq (.reg [sv 0 8 3,
  sm 1 9 (.fa 1 (tm 1)),
  sm 2 10 (.ld1 (tm 9)),
  sm 3 11 (.len (.sl 11) (tm 10)),
  sm 4 12 (.bin .lss 3 (tm 8) (tm 11))])
  (.cond (tm 12) .skip (.exit 0)))
  (.seq (.block 1 (.seq (.reg [sm 0 15 (.fa 0 (tm 1)),
  sm 1 16 (.ld1 (tm 15)),
  sm 2 17 (.fa 1 (tm 1)),
  sm 3 18 (.ld1 (tm 17)),
  sv 4 19 3,
  sm 5 20 (.ia (.sl 11) (tm 18) (tm 19)),
  sm 6 21 (.fa 1 (tm 20)),
  sm 7 22 (.ld1 (tm 21)),
  sc 8 23 80 [(tm 16), (tm 22)],
  sm 9 24 (.un .not (tm 23))])
  (.cond (tm 24) (.seq (.reg [sm 0 2 (.mv (.const (.int .i64 40)))])
  .ret) .skip)))
  (.reg [sv 0 13 3,
  sm 1 14 (.bin .add 3 (tm 13) (.const (.int .i64 1))),
  sv 2 3 14])))
def c40 : Cd := (.seq (.reg [sm 0 1 (.box (tm 0)),
  sm 1 2 (.mv (.const (.int .i64 0)))])
  (.seq (.seq (.reg [sm 0 4 (.fa 0 (tm 1)),
  sm 1 5 (.ld1 (tm 4)),
  sc 2 6 61 [(tm 5)],
  sm 3 7 (.un .not (tm 6))])
  (.cond (tm 7) (.seq (.reg [sm 0 2 (.mv (.const (.int .i64 32)))])
  .ret) .skip))
  (.seq (.seq (.reg [sm 0 3 (.mv (.const (.int .i64 0)))])
  (.block 0 (.loop l40_0)))
  (.seq (.seq (.dreg [sm 0 25 (.ldA 2 (tm 1)),
  sm 3 28 (.fa 1 (tm 1)),
  ⟨4, (some 29), none, .mo (.ld1 (tm 28)), [], true⟩,
  sm 5 30 (.len (.sl 11) (tm 29)),
  ⟨1, (some 26), none, .callF 83 [(tm 25)], [4], false⟩,
  sm 2 27 (.len (.sl 1) (tm 26)),
  sm 6 31 (.bin .lss 3 (tm 27) (tm 30))])
  (.cond (tm 31) (.seq (.reg [sm 0 2 (.mv (.const (.int .i64 36)))])
  .ret) .skip))
  (.seq (.reg [sm 0 2 (.mv (.const (.int .i64 0)))])
  .ret)))))
def r40 : List Mo := [.mv (tm 2)]
theorem c40_eq : compF Tryz.prog 40 = some c40 := by kernel_rfl
theorem r40_eq : compRs Tryz.prog 40 = some r40 := by kernel_rfl
/-! F41 braid/orset.Of -/
def l41_0 : Cd := (.seq (.reg [sm 0 48 (.bin .lss 3 (tm 47) (tm 46))])
  (.seq (.cond (tm 48) .skip (.exit 2))
  (.seq (.block 3 (.seq (.reg [sm 0 49 (.ia (.sl 32) (tm 45) (tm 47)),
  sm 1 50 (.ldA 32 (tm 49)),
  sm 2 11 (.alloc (rep 32 (.int .u8 0))),
  se 3 (.st 32 (tm 11) (tm 50))])
  (.reg [sv 0 51 5,
  sm 1 52 (.fa 3 (tm 7)),
  sm 2 53 (.fa 1 (tm 52)),
  sm 3 54 (.ld1 (tm 53)),
  sm 4 55 (.ldA 32 (tm 11)),
  sm 5 56 (.bld ([.str []] ++ rep 32 (.int .u8 0)) [(0, 1, (tm 54)), (1, 32, (tm 55))]),
  se 6 (.mup 53 (tm 51) (tm 56) (.const (.bool true)))])))
  (.reg [sm 0 57 (.bin .add 3 (tm 47) (.const (.int .i64 1))),
  sv 1 47 57]))))
def l41_1 : Cd := (.seq (.reg [sm 0 27 (.bin .lss 3 (tm 26) (tm 25))])
  (.seq (.cond (tm 27) .skip (.exit 0))
  (.seq (.block 1 (.seq (.reg [sv 0 28 26,
  sm 1 29 (.ia (.sl 11) (tm 24) (tm 26)),
  sm 2 30 (.ldA 11 (tm 29)),
  sm 3 7 (.alloc [.int .u32 0, .nilS, .int .u64 0, .int .u8 0, .str [], .int .u8 0, .int .i64 0, .int .u64 0, .str [], .int .u32 0, .int .u32 0]),
  sv 4 6 28,
  se 5 (.st 11 (tm 7) (tm 30))])
  (.seq (.seq (.reg [sm 0 31 (.fa 3 (tm 7)),
  sm 1 32 (.fa 0 (tm 31)),
  sm 2 33 (.ld1 (tm 32)),
  sm 3 34 (.bin .neq 5 (tm 33) (.const (.int .u8 3)))])
  (.cond (tm 34) (.exit 1) .skip))
  (.seq (.reg [sm 0 36 (.ldA 2 (tm 1)),
  sm 1 37 (.fa 0 (tm 1)),
  sm 2 38 (.ld1 (tm 37)),
  sv 3 39 6,
  sm 4 40 (.ia (.sl 32) (tm 38) (tm 39)),
  sm 5 41 (.ldA 32 (tm 40)),
  sc 6 42 84 [(tm 36), (tm 41)],
  sv 7 35 42,
  sm 8 43 (.ext (tm 35) 0),
  sm 9 44 (.ext (tm 35) 1),
  sv 10 8 43,
  sv 11 9 44])
  (.seq (.reg [sv 0 45 8,
  sm 1 46 (.len (.sl 32) (tm 45)),
  sm 2 47 (.mv (.const (.int .i64 0)))])
  (.block 2 (.loop l41_0)))))))
  (.reg [sm 0 58 (.bin .add 3 (tm 26) (.const (.int .i64 1))),
  sv 1 26 58]))))
def l41_2 : Cd := (.seq (.reg [sm 0 63 (.bin .lss 3 (tm 62) (tm 61))])
  (.seq (.cond (tm 63) .skip (.exit 4))
  (.seq (.block 5 (.seq (.reg [sv 0 64 62,
  sm 1 65 (.ia (.sl 11) (tm 60) (tm 62)),
  sm 2 66 (.ldA 11 (tm 65)),
  sm 3 14 (.alloc [.int .u32 0, .nilS, .int .u64 0, .int .u8 0, .str [], .int .u8 0, .int .i64 0, .int .u64 0, .str [], .int .u32 0, .int .u32 0]),
  sv 4 13 64,
  se 5 (.st 11 (tm 14) (tm 66))])
  (.seq (.reg [sm 0 67 (.fa 3 (tm 14)),
  sm 1 68 (.fa 1 (tm 67)),
  sm 2 69 (.ld1 (tm 68)),
  sm 3 70 (.fa 0 (tm 1)),
  sm 4 71 (.ld1 (tm 70)),
  sv 5 72 13,
  sm 6 73 (.ia (.sl 32) (tm 71) (tm 72)),
  sm 7 74 (.ldA 32 (tm 73)),
  sm 8 75 (.bld ([.str []] ++ rep 32 (.int .u8 0)) [(0, 1, (tm 69)), (1, 32, (tm 74))]),
  sm 9 15 (.alloc ([.str []] ++ rep 32 (.int .u8 0))),
  se 10 (.st 33 (tm 15) (tm 75))])
  (.seq (.reg [sm 0 76 (.fa 3 (tm 14)),
  sm 1 77 (.fa 0 (tm 76)),
  sm 2 78 (.ld1 (tm 77)),
  sm 3 79 (.bin .eql 5 (tm 78) (.const (.int .u8 2))),
  sv 4 80 79,
  sg 5 81 80 true (.mv (tm 5)),
  sg 6 82 80 true (.ldA 33 (tm 15)),
  sg 7 83 80 true (.lkp 53 (.bool false) false (tm 81) (tm 82)),
  sg 8 84 80 true (.un .not (tm 83)),
  sm 9 85 (.pick (tm 80) (tm 84) (.const (.bool false)))])
  (.cond (tm 85) (.reg [sm 0 86 (.fa 0 (tm 12)),
  sm 1 87 (.ld1 (tm 86)),
  sm 2 88 (.ldA 33 (tm 15)),
  sm 3 89 (.bsl 33 ([.str []] ++ rep 32 (.int .u8 0)) 1 [(0, (tm 88))]),
  sm 4 90 (.app 33 48 (tm 87) (tm 89)),
  sm 5 91 (.fa 0 (tm 12)),
  se 6 (.st 1 (tm 91) (tm 90))]) .skip)))))
  (.reg [sm 0 92 (.bin .add 3 (tm 62) (.const (.int .i64 1))),
  sv 1 62 92]))))
def c41 : Cd := (.seq (.reg [sm 0 1 (.box (tm 0)),
  sm 1 2 (.alloc [.nilS]),
  sm 2 3 (.mv (.const (.int .i64 0)))])
  (.seq (.seq (.reg [sm 0 16 (.ldA 2 (tm 1)),
  sc 1 17 52 [(tm 16)],
  sv 2 4 17])
  (.seq (.reg [sv 0 18 4,
  sm 1 19 (.bin .neq 37 (tm 18) (.const (.int .i64 0)))])
  (.cond (tm 19) (.seq (.reg [sm 0 20 (.bld [.nilS] []),
  sv 1 21 4,
  se 2 (.st 1 (tm 2) (tm 20)),
  sv 3 3 21])
  .ret) .skip)))
  (.seq (.reg [sm 0 22 (.mkM none),
  sv 1 5 22])
  (.seq (.seq (.reg [sm 0 23 (.fa 1 (tm 1)),
  sm 1 24 (.ld1 (tm 23)),
  sm 2 25 (.len (.sl 11) (tm 24)),
  sm 3 26 (.mv (.const (.int .i64 0)))])
  (.block 0 (.loop l41_1)))
  (.seq (.reg [sm 0 12 (.alloc [.nilS])])
  (.seq (.seq (.reg [sm 0 59 (.fa 1 (tm 1)),
  sm 1 60 (.ld1 (tm 59)),
  sm 2 61 (.len (.sl 11) (tm 60)),
  sm 3 62 (.mv (.const (.int .i64 0)))])
  (.block 4 (.loop l41_2)))
  (.seq (.reg [sm 0 93 (.fa 0 (tm 12)),
  sm 1 94 (.ld1 (tm 93)),
  sc 2 95 85 [(tm 94), (.func 86)]])
  (.seq (.reg [sm 0 96 (.ldA 1 (tm 12)),
  se 1 (.st 1 (tm 2) (tm 96)),
  sm 2 3 (.mv (.const (.int .i64 0)))])
  .ret))))))))
def r41 : List Mo := [.ldA 1 (tm 2), .mv (tm 3)]
theorem c41_eq : compF Tryz.prog 41 = some c41 := by kernel_rfl
theorem r41_eq : compRs Tryz.prog 41 = some r41 := by kernel_rfl
/-! F42 braid/lww.Of -/
def l42_0 : Cd := (.seq (.reg [sm 0 18 (.bin .lss 3 (tm 17) (tm 16))])
  (.seq (.cond (tm 18) .skip (.exit 0))
  (.seq (.block 1 (.seq (.reg [sv 0 19 17,
  sm 1 20 (.ia (.sl 11) (tm 15) (tm 17)),
  sm 2 21 (.ldA 11 (tm 20)),
  sm 3 7 (.alloc [.int .u32 0, .nilS, .int .u64 0, .int .u8 0, .str [], .int .u8 0, .int .i64 0, .int .u64 0, .str [], .int .u32 0, .int .u32 0]),
  sv 4 6 19,
  se 5 (.st 11 (tm 7) (tm 21))])
  (.reg [sm 0 22 (.fa 0 (tm 5)),
  sm 1 23 (.ld1 (tm 22)),
  sm 2 24 (.ldA 11 (tm 7)),
  sm 3 25 (.fa 0 (tm 1)),
  sm 4 26 (.ld1 (tm 25)),
  sv 5 27 6,
  sm 6 28 (.ia (.sl 32) (tm 26) (tm 27)),
  sm 7 29 (.ldA 32 (tm 28)),
  sc 8 30 87 [(tm 23), (tm 24), (tm 29)],
  sm 9 31 (.fa 0 (tm 5)),
  se 10 (.st 1 (tm 31) (tm 30))])))
  (.reg [sm 0 32 (.bin .add 3 (tm 17) (.const (.int .i64 1))),
  sv 1 17 32]))))
def c42 : Cd := (.seq (.reg [sm 0 1 (.box (tm 0)),
  sm 1 2 (.alloc [.nilS]),
  sm 2 3 (.mv (.const (.int .i64 0)))])
  (.seq (.seq (.reg [sm 0 8 (.ldA 2 (tm 1)),
  sc 1 9 52 [(tm 8)],
  sv 2 4 9])
  (.seq (.reg [sv 0 10 4,
  sm 1 11 (.bin .neq 37 (tm 10) (.const (.int .i64 0)))])
  (.cond (tm 11) (.seq (.reg [sm 0 12 (.bld [.nilS] []),
  sv 1 13 4,
  se 2 (.st 1 (tm 2) (tm 12)),
  sv 3 3 13])
  .ret) .skip)))
  (.seq (.reg [sm 0 5 (.alloc [.nilS])])
  (.seq (.seq (.reg [sm 0 14 (.fa 1 (tm 1)),
  sm 1 15 (.ld1 (tm 14)),
  sm 2 16 (.len (.sl 11) (tm 15)),
  sm 3 17 (.mv (.const (.int .i64 0)))])
  (.block 0 (.loop l42_0)))
  (.seq (.reg [sm 0 33 (.ldA 1 (tm 5)),
  se 1 (.st 1 (tm 2) (tm 33)),
  sm 2 3 (.mv (.const (.int .i64 0)))])
  .ret)))))
def r42 : List Mo := [.ldA 1 (tm 2), .mv (tm 3)]
theorem c42_eq : compF Tryz.prog 42 = some c42 := by kernel_rfl
theorem r42_eq : compRs Tryz.prog 42 = some r42 := by kernel_rfl
/-! F43 braid/ancestry.Heads -/
def l43_0 : Cd := (.seq (.reg [sm 0 26 (.bin .lss 3 (tm 25) (tm 24))])
  (.seq (.cond (tm 26) .skip (.exit 0))
  (.seq (.block 1 (.seq (.reg [sv 0 27 25,
  sv 1 7 27])
  (.reg [sv 0 28 6,
  sv 1 29 7,
  sm 2 30 (.ia (.sl 1) (tm 28) (tm 29)),
  se 3 (.st 1 (tm 30) (.const (.bool true)))])))
  (.reg [sm 0 31 (.bin .add 3 (tm 25) (.const (.int .i64 1))),
  sv 1 25 31]))))
def l43_1 : Cd := (.seq (.reg [sm 0 43 (.bin .lss 3 (tm 42) (tm 41))])
  (.seq (.cond (tm 43) .skip (.exit 4))
  (.seq (.block 5 (.seq (.reg [sm 0 44 (.ia (.sl 32) (tm 40) (tm 42)),
  sm 1 45 (.ldA 32 (tm 44)),
  sm 2 11 (.alloc (rep 32 (.int .u8 0))),
  se 3 (.st 32 (tm 11) (tm 45))])
  (.reg [sv 0 46 6,
  sv 1 47 5,
  sm 2 48 (.ldA 32 (tm 11)),
  sm 3 49 (.lkp 48 (.int .i64 0) false (tm 47) (tm 48)),
  sm 4 50 (.ia (.sl 1) (tm 46) (tm 49)),
  se 5 (.st 1 (tm 50) (.const (.bool false)))])))
  (.reg [sm 0 51 (.bin .add 3 (tm 42) (.const (.int .i64 1))),
  sv 1 42 51]))))
def l43_2 : Cd := (.seq (.reg [sm 0 36 (.bin .lss 3 (tm 35) (tm 34))])
  (.seq (.cond (tm 36) .skip (.exit 2))
  (.seq (.block 3 (.seq (.reg [sm 0 37 (.ia (.sl 11) (tm 33) (tm 35)),
  sm 1 38 (.ldA 11 (tm 37)),
  sm 2 9 (.alloc [.int .u32 0, .nilS, .int .u64 0, .int .u8 0, .str [], .int .u8 0, .int .i64 0, .int .u64 0, .str [], .int .u32 0, .int .u32 0]),
  se 3 (.st 11 (tm 9) (tm 38))])
  (.seq (.reg [sm 0 39 (.fa 1 (tm 9)),
  sm 1 40 (.ld1 (tm 39)),
  sm 2 41 (.len (.sl 32) (tm 40)),
  sm 3 42 (.mv (.const (.int .i64 0)))])
  (.block 4 (.loop l43_1)))))
  (.reg [sm 0 52 (.bin .add 3 (tm 35) (.const (.int .i64 1))),
  sv 1 35 52]))))
def c43 : Cd := (.seq (.reg [sm 0 1 (.box (tm 0)),
  sm 1 2 (.mv (.const (.slice none 0 0))),
  sm 2 3 (.mv (.const (.int .i64 0)))])
  (.seq (.seq (.reg [sm 0 12 (.ldA 2 (tm 1)),
  sc 1 13 52 [(tm 12)],
  sv 2 4 13])
  (.seq (.reg [sv 0 14 4,
  sm 1 15 (.bin .neq 37 (tm 14) (.const (.int .i64 0)))])
  (.cond (tm 15) (.seq (.reg [sv 0 16 4,
  sm 1 2 (.mv (.const (.slice none 0 0))),
  sv 2 3 16])
  .ret) .skip)))
  (.seq (.reg [sm 0 17 (.ldA 2 (tm 1)),
  sc 1 18 88 [(tm 17)],
  sv 2 5 18])
  (.seq (.reg [sm 0 19 (.fa 0 (tm 1)),
  sm 1 20 (.ld1 (tm 19)),
  sm 2 21 (.len (.sl 32) (tm 20)),
  sm 3 22 (.mks 1 1 [.bool false] (tm 21) (tm 21)),
  sv 4 6 22])
  (.seq (.seq (.reg [sv 0 23 6,
  sm 1 24 (.len (.sl 1) (tm 23)),
  sm 2 25 (.mv (.const (.int .i64 0)))])
  (.block 0 (.loop l43_0)))
  (.seq (.seq (.reg [sm 0 32 (.fa 1 (tm 1)),
  sm 1 33 (.ld1 (tm 32)),
  sm 2 34 (.len (.sl 11) (tm 33)),
  sm 3 35 (.mv (.const (.int .i64 0)))])
  (.block 2 (.loop l43_2)))
  (.seq (.reg [sm 0 53 (.ldA 2 (tm 1)),
  sv 1 54 6,
  sc 2 55 89 [(tm 53), (tm 54)],
  sv 3 2 55,
  sm 4 3 (.mv (.const (.int .i64 0)))])
  .ret)))))))
def r43 : List Mo := [.mv (tm 2), .mv (tm 3)]
theorem c43_eq : compF Tryz.prog 43 = some c43 := by kernel_rfl
theorem r43_eq : compRs Tryz.prog 43 = some r43 := by kernel_rfl
/-! F44 braid/orset.Has -/
def c44 : Cd := (.seq (.reg [sm 0 2 (.box (tm 0)),
  sm 1 4 (.mv (.const (.bool false))),
  sm 2 5 (.mv (.const (.int .i64 0)))])
  (.seq (.reg [sm 0 9 (.ldA 1 (tm 2)),
  sc 1 10 90 [(tm 9)],
  sv 2 8 10,
  sm 3 11 (.ext (tm 8) 0),
  sm 4 12 (.ext (tm 8) 1),
  sv 5 6 11,
  sv 6 7 12])
  (.seq (.reg [sv 0 13 6,
  sv 1 14 1,
  sc 2 15 91 [(tm 13), (tm 14)],
  sv 3 16 7,
  sv 4 4 15,
  sv 5 5 16])
  .ret)))
def r44 : List Mo := [.mv (tm 4), .mv (tm 5)]
theorem c44_eq : compF Tryz.prog 44 = some c44 := by kernel_rfl
theorem r44_eq : compRs Tryz.prog 44 = some r44 := by kernel_rfl
/-! F45 braid/lww.Get -/
def c45 : Cd := (.seq (.reg [sm 0 2 (.box (tm 0)),
  sm 1 4 (.alloc [.int .u8 0, .int .i64 0, .int .u64 0, .str []]),
  sm 2 5 (.mv (.const (.int .i64 0)))])
  (.seq (.seq (.reg [sm 0 9 (.ldA 1 (tm 2)),
  sc 1 10 59 [(tm 9)],
  sv 2 6 10])
  (.seq (.reg [sv 0 11 6,
  sm 1 12 (.bin .neq 37 (tm 11) (.const (.int .i64 0)))])
  (.cond (tm 12) (.seq (.reg [sm 0 13 (.bld [.int .u8 0, .int .i64 0, .int .u64 0, .str []] []),
  sv 1 14 6,
  se 2 (.st 4 (tm 4) (tm 13)),
  sv 3 5 14])
  .ret) .skip)))
  (.seq (.reg [sm 0 16 (.fa 0 (tm 2)),
  sm 1 17 (.ld1 (tm 16)),
  sv 2 18 1,
  sc 3 19 92 [(tm 17), (.func 93), (tm 18)],
  sv 4 15 19,
  sm 5 20 (.ext (tm 15) 0),
  sm 6 21 (.ext (tm 15) 1),
  sv 7 7 20,
  sv 8 8 21])
  (.seq (.seq (.reg [sv 0 22 8,
  sm 1 23 (.un .not (tm 22))])
  (.cond (tm 23) (.seq (.reg [sm 0 24 (.bld [.int .u8 0, .int .i64 0, .int .u64 0, .str []] []),
  se 1 (.st 4 (tm 4) (tm 24)),
  sm 2 5 (.mv (.const (.int .i64 6)))])
  .ret) .skip))
  (.seq (.reg [sm 0 25 (.fa 0 (tm 2)),
  sm 1 26 (.ld1 (tm 25)),
  sv 2 27 7,
  sm 3 28 (.ia (.sl 38) (tm 26) (tm 27)),
  sm 4 29 (.fa 1 (tm 28)),
  sm 5 30 (.ldA 4 (tm 29)),
  se 6 (.st 4 (tm 4) (tm 30)),
  sm 7 5 (.mv (.const (.int .i64 0)))])
  .ret)))))
def r45 : List Mo := [.ldA 4 (tm 4), .mv (tm 5)]
theorem c45_eq : compF Tryz.prog 45 = some c45 := by kernel_rfl
theorem r45_eq : compRs Tryz.prog 45 = some r45 := by kernel_rfl
/-! F51 braid/braidref06.Twin -/
def c51 : Cd := (.seq (.reg [sm 0 1 (.box (tm 0)),
  sm 1 2 (.alloc [.int .u32 0, .nilS, .int .u64 0, .int .u8 0, .str [], .int .u8 0, .int .i64 0, .int .u64 0, .str [], .int .u32 0, .int .u32 0])])
  (.seq (.reg [sm 0 3 (.bsl 32 (rep 32 (.int .u8 0)) 0 []),
  sm 1 4 (.fa 1 (tm 1)),
  sm 2 5 (.ld1 (tm 4)),
  sm 3 6 (.app 32 32 (tm 3) (tm 5)),
  sm 4 7 (.fa 1 (tm 1)),
  se 5 (.st 1 (tm 7) (tm 6))])
  (.seq (.reg [sm 0 8 (.ldA 11 (tm 1)),
  se 1 (.st 11 (tm 2) (tm 8))])
  .ret)))
def r51 : List Mo := [.ldA 11 (tm 2)]
theorem c51_eq : compF Tryz.prog 51 = some c51 := by kernel_rfl
theorem r51_eq : compRs Tryz.prog 51 = some r51 := by kernel_rfl
/-! F52 braid/dag.Check -/
def l52_0 : Cd := (.seq (.reg [sm 0 22 (.bin .lss 3 (tm 21) (tm 20))])
  (.seq (.cond (tm 22) .skip (.exit 0))
  (.seq (.block 1 (.seq (.reg [sv 0 23 21,
  sm 1 24 (.ia (.sl 11) (tm 19) (tm 21)),
  sm 2 25 (.ldA 11 (tm 24)),
  sm 3 4 (.alloc [.int .u32 0, .nilS, .int .u64 0, .int .u8 0, .str [], .int .u8 0, .int .i64 0, .int .u64 0, .str [], .int .u32 0, .int .u32 0]),
  sv 4 3 23,
  se 5 (.st 11 (tm 4) (tm 25))])
  (.seq (.reg [sm 0 27 (.ldA 11 (tm 4)),
  sc 1 28 94 [(tm 27)],
  sv 2 26 28,
  sm 3 29 (.ext (tm 26) 0),
  sm 4 30 (.ext (tm 26) 1),
  sm 5 5 (.alloc (rep 32 (.int .u8 0))),
  se 6 (.st 32 (tm 5) (tm 29)),
  sv 7 6 30])
  (.seq (.reg [sv 0 31 6,
  sm 1 32 (.bin .neq 37 (tm 31) (.const (.int .i64 0))),
  sv 2 33 32,
  sg 3 34 33 false (.ldA 32 (tm 5)),
  sg 4 35 33 false (.fa 0 (tm 1)),
  sg 5 36 33 false (.ld1 (tm 35)),
  sg 6 37 33 false (.mv (tm 3)),
  sg 7 38 33 false (.ia (.sl 32) (tm 36) (tm 37)),
  sg 8 39 33 false (.ldA 32 (tm 38)),
  sg 9 40 33 false (.bin .neq 48 (tm 34) (tm 39)),
  sm 10 41 (.pick (tm 33) (.const (.bool true)) (tm 40)),
  sv 11 42 41,
  sg 12 43 42 false (.ldA 11 (tm 4)),
  ⟨13, (some 44), (some ((some 42), false)), .callF 95 [(tm 43)], [], false⟩,
  sg 14 45 42 false (.bin .neq 37 (tm 44) (.const (.int .i64 0))),
  sm 15 46 (.pick (tm 42) (.const (.bool true)) (tm 45))])
  (.cond (tm 46) (.seq (.reg [sm 0 2 (.mv (.const (.int .i64 8)))])
  .ret) .skip)))))
  (.reg [sm 0 47 (.bin .add 3 (tm 21) (.const (.int .i64 1))),
  sv 1 21 47]))))
def c52 : Cd := (.seq (.reg [sm 0 1 (.box (tm 0)),
  sm 1 2 (.mv (.const (.int .i64 0)))])
  (.seq (.seq (.reg [sm 0 7 (.fa 1 (tm 1)),
  sm 1 8 (.ld1 (tm 7)),
  sm 2 9 (.len (.sl 11) (tm 8)),
  sm 3 10 (.bin .gtr 3 (tm 9) (.const (.int .i64 60)))])
  (.cond (tm 10) (.seq (.reg [sm 0 2 (.mv (.const (.int .i64 4)))])
  .ret) .skip))
  (.seq (.seq (.reg [sm 0 11 (.fa 0 (tm 1)),
  sm 1 12 (.ld1 (tm 11)),
  sm 2 13 (.len (.sl 32) (tm 12)),
  sm 3 14 (.fa 1 (tm 1)),
  sm 4 15 (.ld1 (tm 14)),
  sm 5 16 (.len (.sl 11) (tm 15)),
  sm 6 17 (.bin .neq 3 (tm 13) (tm 16))])
  (.cond (tm 17) (.seq (.reg [sm 0 2 (.mv (.const (.int .i64 8)))])
  .ret) .skip))
  (.seq (.seq (.reg [sm 0 18 (.fa 1 (tm 1)),
  sm 1 19 (.ld1 (tm 18)),
  sm 2 20 (.len (.sl 11) (tm 19)),
  sm 3 21 (.mv (.const (.int .i64 0)))])
  (.block 0 (.loop l52_0)))
  (.seq (.reg [sm 0 48 (.ldA 2 (tm 1)),
  sc 1 49 96 [(tm 48)],
  sv 2 2 49])
  .ret)))))
def r52 : List Mo := [.mv (tm 2)]
theorem c52_eq : compF Tryz.prog 52 = some c52 := by kernel_rfl
theorem r52_eq : compRs Tryz.prog 52 = some r52 := by kernel_rfl
/-! F53 braid/fold.apply -/
def l53_0 : Cd := (.seq (.reg [sm 0 73 (.bin .lss 3 (tm 72) (tm 71))])
  (.seq (.cond (tm 73) .skip (.exit 0))
  (.seq (.block 1 (.seq (.reg [sm 0 74 (.ia (.sl 32) (tm 70) (tm 72)),
  sm 1 75 (.ldA 32 (tm 74)),
  sm 2 14 (.alloc (rep 32 (.int .u8 0))),
  se 3 (.st 32 (tm 14) (tm 75))])
  (.seq (.reg [sm 0 76 (.fa 1 (tm 8)),
  sm 1 77 (.ld1 (tm 76)),
  sm 2 78 (.ldA 32 (tm 14)),
  sc 3 79 70 [(tm 77), (tm 78)],
  sm 4 80 (.un .not (tm 79))])
  (.cond (tm 80) (.reg [sm 0 81 (.fa 3 (tm 12)),
  sm 1 82 (.ld1 (tm 81)),
  sm 2 83 (.ldA 32 (tm 14)),
  sm 3 84 (.bsl 32 (rep 32 (.int .u8 0)) 1 [(0, (tm 83))]),
  sm 4 85 (.app 32 32 (tm 82) (tm 84)),
  sm 5 86 (.fa 3 (tm 12)),
  se 6 (.st 1 (tm 86) (tm 85))]) .skip))))
  (.reg [sm 0 87 (.bin .add 3 (tm 72) (.const (.int .i64 1))),
  sv 1 72 87]))))
def c53 : Cd := (.seq (.reg [sm 0 3 (.box (tm 0)),
  sm 1 4 (.box (tm 1)),
  sm 2 5 (.box (tm 2)),
  sm 3 6 (.alloc [.int .i64 0, .nilS, .nilS, .nilS]),
  sm 4 7 (.mv (.const (.int .i64 0)))])
  (.seq (.reg [sm 0 16 (.ldA 2 (tm 4)),
  sm 1 17 (.ldA 32 (tm 5)),
  sc 2 18 68 [(tm 16), (tm 17)],
  sv 3 15 18,
  sm 4 19 (.ext (tm 15) 0),
  sm 5 20 (.ext (tm 15) 1),
  sm 6 8 (.alloc [.int .u32 0, .nilS, .int .u64 0, .int .u8 0, .str [], .int .u8 0, .int .i64 0, .int .u64 0, .str [], .int .u32 0, .int .u32 0]),
  se 7 (.st 11 (tm 8) (tm 19)),
  sv 8 9 20])
  (.seq (.seq (.reg [sv 0 21 9,
  sm 1 22 (.bin .neq 37 (tm 21) (.const (.int .i64 0)))])
  (.cond (tm 22) (.seq (.reg [sm 0 23 (.bld [.int .i64 0, .nilS, .nilS, .nilS] []),
  sv 1 24 9,
  se 2 (.st 4 (tm 6) (tm 23)),
  sv 3 7 24])
  .ret) .skip))
  (.seq (.seq (.reg [sm 0 25 (.fa 3 (tm 3)),
  sm 1 26 (.ld1 (tm 25)),
  sm 2 27 (.ldA 32 (tm 5)),
  sc 3 28 70 [(tm 26), (tm 27)]])
  (.cond (tm 28) (.seq (.reg [sm 0 29 (.bld [.int .i64 0, .nilS, .nilS, .nilS] []),
  se 1 (.st 4 (tm 6) (tm 29)),
  sm 2 7 (.mv (.const (.int .i64 14)))])
  .ret) .skip))
  (.seq (.seq (.reg [sm 0 30 (.fa 0 (tm 3)),
  sm 1 31 (.ld1 (tm 30)),
  sm 2 32 (.bin .eql 3 (tm 31) (.const (.int .i64 60)))])
  (.cond (tm 32) (.seq (.reg [sm 0 33 (.bld [.int .i64 0, .nilS, .nilS, .nilS] []),
  se 1 (.st 4 (tm 6) (tm 33)),
  sm 2 7 (.mv (.const (.int .i64 18)))])
  .ret) .skip))
  (.seq (.reg [sm 0 35 (.ldA 2 (tm 4)),
  sm 1 36 (.ldA 32 (tm 5)),
  sc 2 37 84 [(tm 35), (tm 36)],
  sv 3 34 37,
  sm 4 38 (.ext (tm 34) 0),
  sm 5 39 (.ext (tm 34) 1),
  sv 6 10 38,
  sv 7 11 39])
  (.seq (.reg [sm 0 40 (.fa 0 (tm 3)),
  sm 1 41 (.ld1 (tm 40)),
  sm 2 42 (.bin .add 3 (tm 41) (.const (.int .i64 1))),
  sm 3 43 (.bld [.int .i64 0, .nilS, .nilS, .nilS] [(0, 1, (tm 42))]),
  sm 4 12 (.alloc [.int .i64 0, .nilS, .nilS, .nilS]),
  se 5 (.st 4 (tm 12) (tm 43))])
  (.seq (.seq (.reg [sm 0 45 (.fa 1 (tm 3)),
  sm 1 46 (.ldA 1 (tm 45)),
  sm 2 47 (.ldA 11 (tm 8)),
  sv 3 48 10,
  sc 4 49 97 [(tm 46), (tm 47), (tm 48)],
  sv 5 44 49,
  sm 6 50 (.ext (tm 44) 0),
  sm 7 51 (.ext (tm 44) 1),
  sm 8 52 (.fa 1 (tm 12)),
  se 9 (.st 1 (tm 52) (tm 50)),
  sv 10 9 51])
  (.seq (.reg [sv 0 53 9,
  sm 1 54 (.bin .neq 37 (tm 53) (.const (.int .i64 0)))])
  (.cond (tm 54) (.seq (.reg [sm 0 55 (.bld [.int .i64 0, .nilS, .nilS, .nilS] []),
  sv 1 56 9,
  se 2 (.st 4 (tm 6) (tm 55)),
  sv 3 7 56])
  .ret) .skip)))
  (.seq (.seq (.reg [sm 0 58 (.fa 2 (tm 3)),
  sm 1 59 (.ldA 1 (tm 58)),
  sm 2 60 (.ldA 11 (tm 8)),
  sc 3 61 98 [(tm 59), (tm 60)],
  sv 4 57 61,
  sm 5 62 (.ext (tm 57) 0),
  sm 6 63 (.ext (tm 57) 1),
  sm 7 64 (.fa 2 (tm 12)),
  se 8 (.st 1 (tm 64) (tm 62)),
  sv 9 9 63])
  (.seq (.reg [sv 0 65 9,
  sm 1 66 (.bin .neq 37 (tm 65) (.const (.int .i64 0)))])
  (.cond (tm 66) (.seq (.reg [sm 0 67 (.bld [.int .i64 0, .nilS, .nilS, .nilS] []),
  sv 1 68 9,
  se 2 (.st 4 (tm 6) (tm 67)),
  sv 3 7 68])
  .ret) .skip)))
  (.seq (.seq (.reg [sm 0 69 (.fa 3 (tm 3)),
  sm 1 70 (.ld1 (tm 69)),
  sm 2 71 (.len (.sl 32) (tm 70)),
  sm 3 72 (.mv (.const (.int .i64 0)))])
  (.block 0 (.loop l53_0)))
  (.seq (.reg [sm 0 88 (.fa 3 (tm 12)),
  sm 1 89 (.ld1 (tm 88)),
  sm 2 90 (.ldA 32 (tm 5)),
  sm 3 91 (.bsl 32 (rep 32 (.int .u8 0)) 1 [(0, (tm 90))]),
  sm 4 92 (.app 32 32 (tm 89) (tm 91)),
  sm 5 93 (.fa 3 (tm 12)),
  se 6 (.st 1 (tm 93) (tm 92))])
  (.seq (.reg [sm 0 94 (.fa 3 (tm 12)),
  sm 1 95 (.ld1 (tm 94)),
  sc 2 96 99 [(tm 95), (.func 60)]])
  (.seq (.reg [sm 0 97 (.ldA 4 (tm 12)),
  se 1 (.st 4 (tm 6) (tm 97)),
  sm 2 7 (.mv (.const (.int .i64 0)))])
  .ret)))))))))))))
def r53 : List Mo := [.ldA 4 (tm 6), .mv (tm 7)]
theorem c53_eq : compF Tryz.prog 53 = some c53 := by kernel_rfl
theorem r53_eq : compRs Tryz.prog 53 = some r53 := by kernel_rfl
/-! F58 braid/orset.Check -/
def l58_0 : Cd := (.seq (.reg [sm 0 13 (.bin .lss 3 (tm 12) (tm 11))])
  (.seq (.cond (tm 13) .skip (.exit 0))
  (.seq (.block 1 (.seq (.reg [sv 0 14 12,
  sm 1 15 (.ia (.sl 33) (tm 10) (tm 12)),
  sm 2 16 (.ldA 33 (tm 15)),
  sm 3 4 (.alloc ([.str []] ++ rep 32 (.int .u8 0))),
  sv 4 3 14,
  se 5 (.st 33 (tm 4) (tm 16))])
  (.seq (.reg [sm 0 17 (.fa 0 (tm 4)),
  sm 1 18 (.ld1 (tm 17)),
  sm 2 19 (.bld [.int .u8 0, .str [], .int .u8 0, .int .i64 0, .int .u64 0, .str []] [(0, 1, (.const (.int .u8 2))), (1, 1, (tm 18))]),
  sc 3 20 104 [(tm 19)],
  sm 4 21 (.bin .neq 37 (tm 20) (.const (.int .i64 0))),
  sv 5 22 21,
  sg 6 23 22 false (.mv (tm 3)),
  sg 7 24 22 false (.bin .gtr 3 (tm 23) (.const (.int .i64 0))),
  sg 8 25 22 false (.mv (tm 24)),
  sg 9 26 25 true (.fa 0 (tm 1)),
  sg 10 27 25 true (.ld1 (tm 26)),
  sg 11 28 25 true (.mv (tm 3)),
  sg 12 29 25 true (.bin .sub 3 (tm 28) (.const (.int .i64 1))),
  sg 13 30 25 true (.ia (.sl 33) (tm 27) (tm 29)),
  sg 14 31 25 true (.ldA 33 (tm 30)),
  sg 15 32 25 true (.ldA 33 (tm 4)),
  ⟨16, (some 33), (some ((some 25), true)), .callF 86 [(tm 31), (tm 32)], [], false⟩,
  sg 17 34 25 true (.bin .geq 3 (tm 33) (.const (.int .i64 0))),
  sg 18 35 22 false (.pick (tm 25) (tm 34) (.const (.bool false))),
  sm 19 36 (.pick (tm 22) (.const (.bool true)) (tm 35))])
  (.cond (tm 36) (.seq (.reg [sm 0 2 (.mv (.const (.int .i64 8)))])
  .ret) .skip))))
  (.reg [sm 0 37 (.bin .add 3 (tm 12) (.const (.int .i64 1))),
  sv 1 12 37]))))
def c58 : Cd := (.seq (.reg [sm 0 1 (.box (tm 0)),
  sm 1 2 (.mv (.const (.int .i64 0)))])
  (.seq (.seq (.reg [sm 0 5 (.fa 0 (tm 1)),
  sm 1 6 (.ld1 (tm 5)),
  sm 2 7 (.len (.sl 33) (tm 6)),
  sm 3 8 (.bin .gtr 3 (tm 7) (.const (.int .i64 60)))])
  (.cond (tm 8) (.seq (.reg [sm 0 2 (.mv (.const (.int .i64 4)))])
  .ret) .skip))
  (.seq (.seq (.reg [sm 0 9 (.fa 0 (tm 1)),
  sm 1 10 (.ld1 (tm 9)),
  sm 2 11 (.len (.sl 33) (tm 10)),
  sm 3 12 (.mv (.const (.int .i64 0)))])
  (.block 0 (.loop l58_0)))
  (.seq (.reg [sm 0 2 (.mv (.const (.int .i64 0)))])
  .ret))))
def r58 : List Mo := [.mv (tm 2)]
theorem c58_eq : compF Tryz.prog 58 = some c58 := by kernel_rfl
theorem r58_eq : compRs Tryz.prog 58 = some r58 := by kernel_rfl
/-! F59 braid/lww.Check -/
def l59_0 : Cd := (.seq (.reg [sm 0 13 (.bin .lss 3 (tm 12) (tm 11))])
  (.seq (.cond (tm 13) .skip (.exit 0))
  (.seq (.block 1 (.seq (.reg [sv 0 14 12,
  sm 1 15 (.ia (.sl 38) (tm 10) (tm 12)),
  sm 2 16 (.ldA 38 (tm 15)),
  sm 3 4 (.alloc ([.str [], .int .u8 0, .int .i64 0, .int .u64 0, .str [], .int .u64 0] ++ rep 32 (.int .u8 0))),
  sv 4 3 14,
  se 5 (.st 38 (tm 4) (tm 16))])
  (.seq (.reg [sm 0 17 (.fa 0 (tm 4)),
  sm 1 18 (.ld1 (tm 17)),
  sm 2 19 (.bld [.int .u8 0, .str [], .int .u8 0, .int .i64 0, .int .u64 0, .str []] [(0, 1, (.const (.int .u8 2))), (1, 1, (tm 18))]),
  sc 3 20 104 [(tm 19)],
  sm 4 21 (.bin .neq 37 (tm 20) (.const (.int .i64 0))),
  sv 5 22 21,
  sg 6 23 22 false (.fa 1 (tm 4)),
  sg 7 24 22 false (.ldA 4 (tm 23)),
  ⟨8, (some 25), (some ((some 22), false)), .callF 105 [(tm 24)], [], false⟩,
  sg 9 26 22 false (.bin .neq 37 (tm 25) (.const (.int .i64 0))),
  sm 10 27 (.pick (tm 22) (.const (.bool true)) (tm 26)),
  sv 11 28 27,
  sg 12 29 28 false (.fa 5 (tm 4)),
  sg 13 30 28 false (.ld1 (tm 29)),
  sg 14 31 28 false (.bin .gtr 40 (tm 30) (.const (.int .u64 1000000000000))),
  sm 15 32 (.pick (tm 28) (.const (.bool true)) (tm 31)),
  sv 16 33 32,
  sg 17 34 33 false (.mv (tm 3)),
  sg 18 35 33 false (.bin .gtr 3 (tm 34) (.const (.int .i64 0))),
  sg 19 36 33 false (.mv (tm 35)),
  sg 20 37 36 true (.fa 0 (tm 1)),
  sg 21 38 36 true (.ld1 (tm 37)),
  sg 22 39 36 true (.mv (tm 3)),
  sg 23 40 36 true (.bin .sub 3 (tm 39) (.const (.int .i64 1))),
  sg 24 41 36 true (.ia (.sl 38) (tm 38) (tm 40)),
  sg 25 42 36 true (.fa 0 (tm 41)),
  sg 26 43 36 true (.ld1 (tm 42)),
  sg 27 44 36 true (.fa 0 (tm 4)),
  sg 28 45 36 true (.ld1 (tm 44)),
  sg 29 46 36 true (.bin .geq 9 (tm 43) (tm 45)),
  sg 30 47 33 false (.pick (tm 36) (tm 46) (.const (.bool false))),
  sm 31 48 (.pick (tm 33) (.const (.bool true)) (tm 47))])
  (.cond (tm 48) (.seq (.reg [sm 0 2 (.mv (.const (.int .i64 8)))])
  .ret) .skip))))
  (.reg [sm 0 49 (.bin .add 3 (tm 12) (.const (.int .i64 1))),
  sv 1 12 49]))))
def c59 : Cd := (.seq (.reg [sm 0 1 (.box (tm 0)),
  sm 1 2 (.mv (.const (.int .i64 0)))])
  (.seq (.seq (.reg [sm 0 5 (.fa 0 (tm 1)),
  sm 1 6 (.ld1 (tm 5)),
  sm 2 7 (.len (.sl 38) (tm 6)),
  sm 3 8 (.bin .gtr 3 (tm 7) (.const (.int .i64 60)))])
  (.cond (tm 8) (.seq (.reg [sm 0 2 (.mv (.const (.int .i64 4)))])
  .ret) .skip))
  (.seq (.seq (.reg [sm 0 9 (.fa 0 (tm 1)),
  sm 1 10 (.ld1 (tm 9)),
  sm 2 11 (.len (.sl 38) (tm 10)),
  sm 3 12 (.mv (.const (.int .i64 0)))])
  (.block 0 (.loop l59_0)))
  (.seq (.reg [sm 0 2 (.mv (.const (.int .i64 0)))])
  .ret))))
def r59 : List Mo := [.mv (tm 2)]
theorem c59_eq : compF Tryz.prog 59 = some c59 := by kernel_rfl
theorem r59_eq : compRs Tryz.prog 59 = some r59 := by kernel_rfl
/-! F60 braid/fold.compare -/
def c60 : Cd := (.seq (.reg [sm 0 2 (.box (tm 0)),
  sm 1 3 (.box (tm 1)),
  sm 2 4 (.mv (.const (.int .i64 0)))])
  (.seq (.reg [sm 0 5 (.slice (.arr 32 1) (tm 2) none none none),
  sm 1 6 (.slice (.arr 32 1) (tm 3) none none none),
  sc 2 7 106 [(tm 5), (tm 6)],
  sv 3 4 7])
  .ret))
def r60 : List Mo := [.mv (tm 4)]
theorem c60_eq : compF Tryz.prog 60 = some c60 := by kernel_rfl
theorem r60_eq : compRs Tryz.prog 60 = some r60 := by kernel_rfl
/-! F61 braid/braidref04.Rising -/
def l61_0 : Cd := (.seq (.seq (.reg [sv 0 4 3,
  sv 1 5 0,
  sm 2 6 (.len (.sl 32) (tm 5)),
  sm 3 7 (.bin .lss 3 (tm 4) (tm 6))])
  (.cond (tm 7) .skip (.exit 0)))
  (.seq (.block 1 (.seq (.reg [sv 0 10 0,
  sv 1 11 3,
  sm 2 12 (.bin .sub 3 (tm 11) (.const (.int .i64 1))),
  sm 3 13 (.ia (.sl 32) (tm 10) (tm 12)),
  sm 4 14 (.ldA 32 (tm 13)),
  sv 5 15 0,
  sv 6 16 3,
  sm 7 17 (.ia (.sl 32) (tm 15) (tm 16)),
  sm 8 18 (.ldA 32 (tm 17)),
  sc 9 19 107 [(tm 14), (tm 18)],
  sm 10 20 (.bin .geq 3 (tm 19) (.const (.int .i64 0)))])
  (.cond (tm 20) (.seq (.reg [sm 0 2 (.mv (.const (.bool false)))])
  .ret) .skip)))
  (.reg [sv 0 8 3,
  sm 1 9 (.bin .add 3 (tm 8) (.const (.int .i64 1))),
  sv 2 3 9])))
def c61 : Cd := (.seq (.reg [sm 0 2 (.mv (.const (.bool false)))])
  (.seq (.seq (.reg [sm 0 3 (.mv (.const (.int .i64 1)))])
  (.block 0 (.loop l61_0)))
  (.seq (.reg [sm 0 2 (.mv (.const (.bool true)))])
  .ret)))
def r61 : List Mo := [.mv (tm 2)]
theorem c61_eq : compF Tryz.prog 61 = some c61 := by kernel_rfl
theorem r61_eq : compRs Tryz.prog 61 = some r61 := by kernel_rfl
/-! F68 braid/dag.Get -/
def c68 : Cd := (.seq (.reg [sm 0 2 (.box (tm 0)),
  sm 1 3 (.box (tm 1)),
  sm 2 4 (.alloc [.int .u32 0, .nilS, .int .u64 0, .int .u8 0, .str [], .int .u8 0, .int .i64 0, .int .u64 0, .str [], .int .u32 0, .int .u32 0]),
  sm 3 5 (.mv (.const (.int .i64 0)))])
  (.seq (.seq (.reg [sm 0 9 (.ldA 2 (tm 2)),
  sc 1 10 52 [(tm 9)],
  sv 2 6 10])
  (.seq (.reg [sv 0 11 6,
  sm 1 12 (.bin .neq 37 (tm 11) (.const (.int .i64 0)))])
  (.cond (tm 12) (.seq (.reg [sm 0 13 (.bld [.int .u32 0, .nilS, .int .u64 0, .int .u8 0, .str [], .int .u8 0, .int .i64 0, .int .u64 0, .str [], .int .u32 0, .int .u32 0] []),
  sv 1 14 6,
  se 2 (.st 11 (tm 4) (tm 13)),
  sv 3 5 14])
  .ret) .skip)))
  (.seq (.reg [sm 0 16 (.ldA 2 (tm 2)),
  sm 1 17 (.ldA 32 (tm 3)),
  sc 2 18 114 [(tm 16), (tm 17)],
  sv 3 15 18,
  sm 4 19 (.ext (tm 15) 0),
  sm 5 20 (.ext (tm 15) 1),
  sv 6 7 19,
  sv 7 8 20])
  (.seq (.seq (.reg [sv 0 21 8,
  sm 1 22 (.un .not (tm 21))])
  (.cond (tm 22) (.seq (.reg [sm 0 23 (.bld [.int .u32 0, .nilS, .int .u64 0, .int .u8 0, .str [], .int .u8 0, .int .i64 0, .int .u64 0, .str [], .int .u32 0, .int .u32 0] []),
  se 1 (.st 11 (tm 4) (tm 23)),
  sm 2 5 (.mv (.const (.int .i64 6)))])
  .ret) .skip))
  (.seq (.reg [sm 0 24 (.fa 1 (tm 2)),
  sm 1 25 (.ld1 (tm 24)),
  sv 2 26 7,
  sm 3 27 (.ia (.sl 11) (tm 25) (tm 26)),
  sm 4 28 (.ldA 11 (tm 27)),
  sc 5 29 115 [(tm 28)],
  se 6 (.st 11 (tm 4) (tm 29)),
  sm 7 5 (.mv (.const (.int .i64 0)))])
  .ret)))))
def r68 : List Mo := [.ldA 11 (tm 4), .mv (tm 5)]
theorem c68_eq : compF Tryz.prog 68 = some c68 := by kernel_rfl
theorem r68_eq : compRs Tryz.prog 68 = some r68 := by kernel_rfl
/-! F69 braid/fold.Run$1 -/
def c69 : Cd := (.seq (.reg [sm 0 3 (.box (tm 0)),
  sm 1 4 (.mv (.const (.bool false)))])
  (.seq (.reg [sm 0 5 (.ld1 (tm 1)),
  sm 1 6 (.ld1 (tm 2)),
  sm 2 7 (.slice (.sl 32) (tm 5) none (some (tm 6)) none),
  sm 3 8 (.ldA 32 (tm 3)),
  sc 4 9 70 [(tm 7), (tm 8)],
  sm 5 10 (.un .not (tm 9)),
  sv 6 4 10])
  .ret))
def r69 : List Mo := [.mv (tm 4)]
theorem c69_eq : compF Tryz.prog 69 = some c69 := by kernel_rfl
theorem r69_eq : compRs Tryz.prog 69 = some r69 := by kernel_rfl
/-! F70 slices.Contains[[]braid/api.ID,braid/api.ID] -/
def c70 : Cd := (.seq (.reg [sm 0 3 (.box (tm 1)),
  sm 1 4 (.mv (.const (.bool false)))])
  (.seq (.reg [sv 0 5 0,
  sm 1 6 (.ldA 32 (tm 3)),
  sc 2 7 116 [(tm 5), (tm 6)],
  sm 3 8 (.bin .geq 3 (tm 7) (.const (.int .i64 0))),
  sv 4 4 8])
  .ret))
def r70 : List Mo := [.mv (tm 4)]
theorem c70_eq : compF Tryz.prog 70 = some c70 := by kernel_rfl
theorem r70_eq : compRs Tryz.prog 70 = some r70 := by kernel_rfl
/-! F71 slices.ContainsFunc[[]braid/api.ID,braid/api.ID] -/
def c71 : Cd := (.seq (.reg [sm 0 4 (.mv (.const (.bool false)))])
  (.seq (.reg [sv 0 5 0,
  sv 1 6 1,
  sc 2 7 117 [(tm 5), (tm 6)],
  sm 3 8 (.bin .geq 3 (tm 7) (.const (.int .i64 0))),
  sv 4 4 8])
  .ret))
def r71 : List Mo := [.mv (tm 4)]
theorem c71_eq : compF Tryz.prog 71 = some c71 := by kernel_rfl
theorem r71_eq : compRs Tryz.prog 71 = some r71 := by kernel_rfl
/-! F73 braid/braidref06.Sign -/
def c73 : Cd := (.seq (.reg [sm 0 3 (.box (tm 1)),
  sm 1 4 (.alloc [.int .u32 0, .nilS, .int .u64 0, .int .u8 0, .str [], .int .u8 0, .int .i64 0, .int .u64 0, .str [], .int .u32 0, .int .u32 0]),
  sm 2 5 (.mv (.const (.int .i64 0)))])
  (.seq (.seq (.reg [sv 0 7 0,
  sc 1 8 118 [(tm 7)],
  sm 2 9 (.bin .neq 3 (tm 8) (.const (.int .i64 0)))])
  (.cond (tm 9) (.seq (.reg [sm 0 10 (.bld [.int .u32 0, .nilS, .int .u64 0, .int .u8 0, .str [], .int .u8 0, .int .i64 0, .int .u64 0, .str [], .int .u32 0, .int .u32 0] []),
  sv 1 11 0,
  sc 2 12 118 [(tm 11)],
  se 3 (.st 11 (tm 4) (tm 10)),
  sv 4 5 12])
  .ret) .skip))
  (.seq (.reg [sm 0 13 (.ldA 11 (tm 3)),
  sc 1 14 119 [(tm 13)],
  sc 2 15 51 [(tm 14)],
  sm 3 6 (.alloc [.int .u32 0, .nilS, .int .u64 0, .int .u8 0, .str [], .int .u8 0, .int .i64 0, .int .u64 0, .str [], .int .u32 0, .int .u32 0]),
  se 4 (.st 11 (tm 6) (tm 15))])
  (.seq (.reg [sv 0 16 0,
  sc 1 17 120 [(tm 16)],
  sm 2 18 (.fa 0 (tm 6)),
  se 3 (.st 1 (tm 18) (tm 17))])
  (.seq (.seq (.reg [sm 0 19 (.ldA 11 (tm 6)),
  sc 1 20 81 [(tm 19)],
  sm 2 21 (.bin .neq 3 (tm 20) (.const (.int .i64 0)))])
  (.cond (tm 21) (.seq (.reg [sm 0 22 (.bld [.int .u32 0, .nilS, .int .u64 0, .int .u8 0, .str [], .int .u8 0, .int .i64 0, .int .u64 0, .str [], .int .u32 0, .int .u32 0] []),
  sm 1 23 (.ldA 11 (tm 6)),
  sc 2 24 81 [(tm 23)],
  se 3 (.st 11 (tm 4) (tm 22)),
  sv 4 5 24])
  .ret) .skip))
  (.seq (.reg [sv 0 25 0,
  sm 1 26 (.ldA 11 (tm 6)),
  sc 2 27 122 [(tm 26)],
  sc 3 28 121 [(tm 25), (tm 27)],
  sm 4 29 (.fa 9 (tm 6)),
  se 5 (.st 2 (tm 29) (tm 28))])
  (.seq (.reg [sm 0 30 (.ldA 11 (tm 6)),
  se 1 (.st 11 (tm 4) (tm 30)),
  sm 2 5 (.mv (.const (.int .i64 0)))])
  .ret)))))))
def r73 : List Mo := [.ldA 11 (tm 4), .mv (tm 5)]
theorem c73_eq : compF Tryz.prog 73 = some c73 := by kernel_rfl
theorem r73_eq : compRs Tryz.prog 73 = some r73 := by kernel_rfl
/-! F74 braid/braidref23.Sorted -/
def l74_0 : Cd := (.seq (.seq (.reg [sv 0 16 5,
  sm 1 17 (.bin .gtr 3 (tm 16) (.const (.int .i64 0))),
  sv 2 18 17,
  sg 3 19 18 true (.mv (tm 3)),
  sg 4 20 18 true (.mv (tm 5)),
  sg 5 21 18 true (.bin .sub 3 (tm 20) (.const (.int .i64 1))),
  sg 6 22 18 true (.ia (.sl 32) (tm 19) (tm 21)),
  sg 7 23 18 true (.ldA 32 (tm 22)),
  sg 8 24 18 true (.mv (tm 3)),
  sg 9 25 18 true (.mv (tm 5)),
  sg 10 26 18 true (.ia (.sl 32) (tm 24) (tm 25)),
  sg 11 27 18 true (.ldA 32 (tm 26)),
  sg 12 28 18 true (.bsl 32 (rep 32 (.int .u8 0)) 2 [(0, (tm 23)), (1, (tm 27))]),
  ⟨13, (some 29), (some ((some 18), true)), .callF 61 [(tm 28)], [], false⟩,
  sg 14 30 18 true (.un .not (tm 29)),
  sm 15 31 (.pick (tm 18) (tm 30) (.const (.bool false)))])
  (.cond (tm 31) .skip (.exit 2)))
  (.seq (.block 3 (.reg [sv 0 34 3,
  sv 1 35 5,
  sm 2 36 (.bin .sub 3 (tm 35) (.const (.int .i64 1))),
  sv 3 37 3,
  sv 4 38 5,
  sv 5 39 3,
  sv 6 40 5,
  sm 7 41 (.ia (.sl 32) (tm 39) (tm 40)),
  sm 8 42 (.ldA 32 (tm 41)),
  sv 9 43 3,
  sv 10 44 5,
  sm 11 45 (.bin .sub 3 (tm 44) (.const (.int .i64 1))),
  sm 12 46 (.ia (.sl 32) (tm 43) (tm 45)),
  sm 13 47 (.ldA 32 (tm 46)),
  sm 14 48 (.ia (.sl 32) (tm 34) (tm 36)),
  se 15 (.st 32 (tm 48) (tm 42)),
  sm 16 49 (.ia (.sl 32) (tm 37) (tm 38)),
  se 17 (.st 32 (tm 49) (tm 47))]))
  (.reg [sv 0 32 5,
  sm 1 33 (.bin .sub 3 (tm 32) (.const (.int .i64 1))),
  sv 2 5 33])))
def l74_1 : Cd := (.seq (.seq (.reg [sv 0 9 4,
  sv 1 10 3,
  sm 2 11 (.len (.sl 32) (tm 10)),
  sm 3 12 (.bin .lss 3 (tm 9) (tm 11))])
  (.cond (tm 12) .skip (.exit 0)))
  (.seq (.block 1 (.seq (.reg [sv 0 15 4,
  sv 1 5 15])
  (.block 2 (.loop l74_0))))
  (.reg [sv 0 13 4,
  sm 1 14 (.bin .add 3 (tm 13) (.const (.int .i64 1))),
  sv 2 4 14])))
def c74 : Cd := (.seq (.reg [sm 0 2 (.mv (.const (.slice none 0 0)))])
  (.seq (.reg [sm 0 6 (.bsl 32 (rep 32 (.int .u8 0)) 0 []),
  sv 1 7 0,
  sm 2 8 (.app 32 32 (tm 6) (tm 7)),
  sv 3 3 8])
  (.seq (.seq (.reg [sm 0 4 (.mv (.const (.int .i64 0)))])
  (.block 0 (.loop l74_1)))
  (.seq (.reg [sv 0 50 3,
  sv 1 2 50])
  .ret))))
def r74 : List Mo := [.mv (tm 2)]
theorem c74_eq : compF Tryz.prog 74 = some c74 := by kernel_rfl
theorem r74_eq : compRs Tryz.prog 74 = some r74 := by kernel_rfl
/-! F75 braid/braidref09.At -/
def l75_0 : Cd := (.seq (.seq (.reg [sv 0 6 5,
  sv 1 7 0,
  sm 2 8 (.len (.sl 32) (tm 7)),
  sm 3 9 (.bin .lss 3 (tm 6) (tm 8))])
  (.cond (tm 9) .skip (.exit 0)))
  (.seq (.block 1 (.seq (.reg [sv 0 12 0,
  sv 1 13 5,
  sm 2 14 (.ia (.sl 32) (tm 12) (tm 13)),
  sm 3 15 (.ldA 32 (tm 14)),
  sm 4 16 (.ldA 32 (tm 3)),
  sm 5 17 (.bin .eql 48 (tm 15) (tm 16))])
  (.cond (tm 17) (.seq (.reg [sv 0 18 5,
  sv 1 4 18])
  .ret) .skip)))
  (.reg [sv 0 10 5,
  sm 1 11 (.bin .add 3 (tm 10) (.const (.int .i64 1))),
  sv 2 5 11])))
def c75 : Cd := (.seq (.reg [sm 0 3 (.box (tm 1)),
  sm 1 4 (.mv (.const (.int .i64 0)))])
  (.seq (.seq (.reg [sm 0 5 (.mv (.const (.int .i64 0)))])
  (.block 0 (.loop l75_0)))
  (.seq (.reg [sm 0 4 (.mv (.const (.int .i64 (-1))))])
  .ret)))
def r75 : List Mo := [.mv (tm 4)]
theorem c75_eq : compF Tryz.prog 75 = some c75 := by kernel_rfl
theorem r75_eq : compRs Tryz.prog 75 = some r75 := by kernel_rfl
/-! F76 braid/braidref09.Put -/
def l76_0 : Cd := (.seq (.seq (.reg [sv 0 10 8,
  sm 1 11 (.fa 0 (tm 3)),
  sm 2 12 (.ld1 (tm 11)),
  sm 3 13 (.len (.sl 32) (tm 12)),
  sm 4 14 (.bin .lss 3 (tm 10) (tm 13)),
  sv 5 15 14,
  sg 6 16 15 true (.fa 0 (tm 3)),
  sg 7 17 15 true (.ld1 (tm 16)),
  sg 8 18 15 true (.mv (tm 8)),
  sg 9 19 15 true (.ia (.sl 32) (tm 17) (tm 18)),
  sg 10 20 15 true (.ldA 32 (tm 19)),
  sg 11 21 15 true (.ldA 32 (tm 4)),
  ⟨12, (some 22), (some ((some 15), true)), .callF 107 [(tm 20), (tm 21)], [], false⟩,
  sg 13 23 15 true (.bin .lss 3 (tm 22) (.const (.int .i64 0))),
  sm 14 24 (.pick (tm 15) (tm 23) (.const (.bool false)))])
  (.cond (tm 24) .skip (.exit 0)))
  (.block 1 (.reg [sv 0 25 8,
  sm 1 26 (.bin .add 3 (tm 25) (.const (.int .i64 1))),
  sv 2 8 26])))
def c76 : Cd := (.seq (.reg [sm 0 3 (.box (tm 0)),
  sm 1 4 (.box (tm 1)),
  sm 2 5 (.box (tm 2)),
  sm 3 6 (.alloc [.nilS, .nilS])])
  (.seq (.reg [sm 0 9 (.bld [.nilS, .nilS] []),
  sm 1 7 (.alloc [.nilS, .nilS]),
  se 2 (.st 2 (tm 7) (tm 9))])
  (.seq (.reg [sm 0 8 (.mv (.const (.int .i64 0)))])
  (.seq (.block 0 (.loop l76_0))
  (.seq (.dreg [sm 0 27 (.bsl 32 (rep 32 (.int .u8 0)) 0 []),
  sm 1 28 (.fa 0 (tm 3)),
  sm 2 29 (.ld1 (tm 28)),
  sv 3 30 8,
  sm 4 31 (.slice (.sl 32) (tm 29) none (some (tm 30)) none),
  ⟨6, (some 33), none, .mo (.ldA 32 (tm 4)), [], true⟩,
  ⟨7, (some 34), none, .mo (.bsl 32 (rep 32 (.int .u8 0)) 1 [(0, (tm 33))]), [], true⟩,
  sm 9 36 (.fa 0 (tm 3)),
  ⟨10, (some 37), none, .mo (.ld1 (tm 36)), [], true⟩,
  sv 11 38 8,
  sm 12 39 (.slice (.sl 32) (tm 37) (some (tm 38)) none none),
  ⟨5, (some 32), none, .mo (.app 32 32 (tm 27) (tm 31)), [10, 7, 6], false⟩,
  ⟨8, (some 35), none, .mo (.app 32 32 (tm 32) (tm 34)), [10], false⟩,
  sm 13 40 (.app 32 32 (tm 35) (tm 39)),
  sm 14 41 (.fa 0 (tm 7)),
  se 15 (.st 1 (tm 41) (tm 40))])
  (.seq (.dreg [sm 0 42 (.bsl 11 [.int .u32 0, .nilS, .int .u64 0, .int .u8 0, .str [], .int .u8 0, .int .i64 0, .int .u64 0, .str [], .int .u32 0, .int .u32 0] 0 []),
  sm 1 43 (.fa 1 (tm 3)),
  sm 2 44 (.ld1 (tm 43)),
  sv 3 45 8,
  sm 4 46 (.slice (.sl 11) (tm 44) none (some (tm 45)) none),
  ⟨6, (some 48), none, .mo (.ldA 11 (tm 5)), [], true⟩,
  ⟨7, (some 49), none, .mo (.bsl 11 [.int .u32 0, .nilS, .int .u64 0, .int .u8 0, .str [], .int .u8 0, .int .i64 0, .int .u64 0, .str [], .int .u32 0, .int .u32 0] 1 [(0, (tm 48))]), [], true⟩,
  sm 9 51 (.fa 1 (tm 3)),
  ⟨10, (some 52), none, .mo (.ld1 (tm 51)), [], true⟩,
  sv 11 53 8,
  sm 12 54 (.slice (.sl 11) (tm 52) (some (tm 53)) none none),
  ⟨5, (some 47), none, .mo (.app 11 112 (tm 42) (tm 46)), [10, 7, 6], false⟩,
  ⟨8, (some 50), none, .mo (.app 11 112 (tm 47) (tm 49)), [10], false⟩,
  sm 13 55 (.app 11 112 (tm 50) (tm 54)),
  sm 14 56 (.fa 1 (tm 7)),
  se 15 (.st 1 (tm 56) (tm 55))])
  (.seq (.reg [sm 0 57 (.ldA 2 (tm 7)),
  sc 1 58 19 [(tm 57)],
  se 2 (.st 2 (tm 6) (tm 58))])
  .ret)))))))
def r76 : List Mo := [.ldA 2 (tm 6)]
theorem c76_eq : compF Tryz.prog 76 = some c76 := by kernel_rfl
theorem r76_eq : compRs Tryz.prog 76 = some r76 := by kernel_rfl
/-! F77 braid/braidref01.Of -/
def c77 : Cd := (.seq (.reg [sm 0 2 (.alloc (rep 32 (.int .u8 0)))])
  (.seq (.reg [sc 0 3 125 [],
  sm 1 4 (.bsl 1 [.int .u8 0] 0 []),
  sv 2 5 0,
  sm 3 6 (.app 1 1 (tm 4) (tm 5)),
  sv 4 7 0,
  sm 5 8 (.len (.sl 1) (tm 7)),
  sc 6 9 126 [(tm 8)],
  sm 7 10 (.app 1 1 (tm 6) (tm 9)),
  sc 8 11 124 [(tm 3), (tm 10)],
  sc 9 12 123 [(tm 11)],
  se 10 (.st 32 (tm 2) (tm 12))])
  .ret))
def r77 : List Mo := [.ldA 32 (tm 2)]
theorem c77_eq : compF Tryz.prog 77 = some c77 := by kernel_rfl
theorem r77_eq : compRs Tryz.prog 77 = some r77 := by kernel_rfl
/-! F78 braid/braidref06.Bytes -/
def c78 : Cd := (.seq (.reg [sm 0 1 (.box (tm 0)),
  sm 1 2 (.mv (.const (.slice none 0 0)))])
  (.seq (.dreg [sm 0 3 (.ldA 11 (tm 1)),
  sm 2 5 (.fa 9 (tm 1)),
  sm 3 6 (.fa 0 (tm 5)),
  ⟨4, (some 7), none, .mo (.ld1 (tm 6)), [], true⟩,
  ⟨5, (some 8), none, .mo (.cint .u64 (tm 7)), [], true⟩,
  sm 8 11 (.fa 9 (tm 1)),
  sm 9 12 (.fa 1 (tm 11)),
  ⟨10, (some 13), none, .mo (.ld1 (tm 12)), [], true⟩,
  ⟨11, (some 14), none, .mo (.cint .u64 (tm 13)), [], true⟩,
  ⟨1, (some 4), none, .callF 122 [(tm 3)], [11, 10, 5, 4], false⟩,
  ⟨6, (some 9), none, .callF 127 [(tm 8)], [11, 10], false⟩,
  ⟨7, (some 10), none, .mo (.app 1 1 (tm 4) (tm 9)), [11, 10], false⟩,
  sc 12 15 127 [(tm 14)],
  sm 13 16 (.app 1 1 (tm 10) (tm 15)),
  sv 14 2 16])
  .ret))
def r78 : List Mo := [.mv (tm 2)]
theorem c78_eq : compF Tryz.prog 78 = some c78 := by kernel_rfl
theorem r78_eq : compRs Tryz.prog 78 = some r78 := by kernel_rfl
/-! F80 braid/braidref09.All -/
def l80_0 : Cd := (.seq (.seq (.reg [sv 0 6 5,
  sv 1 7 1,
  sm 2 8 (.len (.sl 32) (tm 7)),
  sm 3 9 (.bin .lss 3 (tm 6) (tm 8))])
  (.cond (tm 9) .skip (.exit 0)))
  (.seq (.block 1 (.seq (.reg [sv 0 12 0,
  sv 1 13 1,
  sv 2 14 5,
  sm 3 15 (.ia (.sl 32) (tm 13) (tm 14)),
  sm 4 16 (.ldA 32 (tm 15)),
  sc 5 17 75 [(tm 12), (tm 16)],
  sm 6 18 (.bin .lss 3 (tm 17) (.const (.int .i64 0)))])
  (.cond (tm 18) (.seq (.reg [sm 0 4 (.mv (.const (.bool false)))])
  .ret) .skip)))
  (.reg [sv 0 10 5,
  sm 1 11 (.bin .add 3 (tm 10) (.const (.int .i64 1))),
  sv 2 5 11])))
def c80 : Cd := (.seq (.reg [sm 0 4 (.mv (.const (.bool false)))])
  (.seq (.seq (.reg [sm 0 5 (.mv (.const (.int .i64 0)))])
  (.block 0 (.loop l80_0)))
  (.seq (.reg [sm 0 4 (.mv (.const (.bool true)))])
  .ret)))
def r80 : List Mo := [.mv (tm 4)]
theorem c80_eq : compF Tryz.prog 80 = some c80 := by kernel_rfl
theorem r80_eq : compRs Tryz.prog 80 = some r80 := by kernel_rfl
/-! F81 braid/braidref06.Check -/
def c81 : Cd := (.seq (.reg [sm 0 1 (.box (tm 0)),
  sm 1 2 (.mv (.const (.int .i64 0)))])
  (.seq (.seq (.reg [sm 0 3 (.fa 1 (tm 1)),
  sm 1 4 (.ld1 (tm 3)),
  sm 2 5 (.len (.sl 32) (tm 4)),
  sm 3 6 (.bin .gtr 3 (tm 5) (.const (.int .i64 4)))])
  (.cond (tm 6) (.seq (.reg [sm 0 2 (.mv (.const (.int .i64 4)))])
  .ret) .skip))
  (.seq (.seq (.reg [sm 0 7 (.fa 1 (tm 1)),
  sm 1 8 (.ld1 (tm 7)),
  sc 2 9 61 [(tm 8)],
  sm 3 10 (.un .not (tm 9))])
  (.cond (tm 10) (.seq (.reg [sm 0 2 (.mv (.const (.int .i64 32)))])
  .ret) .skip))
  (.seq (.seq (.reg [sm 0 11 (.fa 0 (tm 1)),
  sm 1 12 (.ld1 (tm 11)),
  sc 2 13 128 [(tm 12)],
  sm 3 14 (.un .not (tm 13)),
  sv 4 15 14,
  sg 5 16 15 false (.fa 2 (tm 1)),
  sg 6 17 15 false (.ld1 (tm 16)),
  sg 7 18 15 false (.bin .gtr 40 (tm 17) (.const (.int .u64 1000000000000))),
  sm 8 19 (.pick (tm 15) (.const (.bool true)) (tm 18)),
  sv 9 20 19,
  sg 10 21 20 false (.fa 3 (tm 1)),
  sg 11 22 20 false (.ldA 6 (tm 21)),
  ⟨12, (some 23), (some ((some 20), false)), .callF 129 [(tm 22)], [], false⟩,
  sg 13 24 20 false (.bin .neq 3 (tm 23) (.const (.int .i64 0))),
  sm 14 25 (.pick (tm 20) (.const (.bool true)) (tm 24)),
  sv 15 26 25,
  sg 16 27 26 false (.fa 9 (tm 1)),
  sg 17 28 26 false (.fa 0 (tm 27)),
  sg 18 29 26 false (.ld1 (tm 28)),
  ⟨19, (some 30), (some ((some 26), false)), .callF 130 [(tm 29)], [], false⟩,
  sg 20 31 26 false (.un .not (tm 30)),
  sm 21 32 (.pick (tm 26) (.const (.bool true)) (tm 31)),
  sv 22 33 32,
  sg 23 34 33 false (.fa 9 (tm 1)),
  sg 24 35 33 false (.fa 1 (tm 34)),
  sg 25 36 33 false (.ld1 (tm 35)),
  ⟨26, (some 37), (some ((some 33), false)), .callF 130 [(tm 36)], [], false⟩,
  sg 27 38 33 false (.un .not (tm 37)),
  sm 28 39 (.pick (tm 33) (.const (.bool true)) (tm 38))])
  (.cond (tm 39) (.seq (.reg [sm 0 2 (.mv (.const (.int .i64 8)))])
  .ret) .skip))
  (.seq (.reg [sm 0 2 (.mv (.const (.int .i64 0)))])
  .ret)))))
def r81 : List Mo := [.mv (tm 2)]
theorem c81_eq : compF Tryz.prog 81 = some c81 := by kernel_rfl
theorem r81_eq : compRs Tryz.prog 81 = some r81 := by kernel_rfl
/-! F82 braid/braidref06.Signed -/
def c82 : Cd := (.seq (.reg [sm 0 1 (.box (tm 0)),
  sm 1 2 (.mv (.const (.bool false)))])
  (.seq (.dreg [sm 0 3 (.fa 0 (tm 1)),
  ⟨1, (some 4), none, .mo (.ld1 (tm 3)), [], true⟩,
  sm 2 5 (.ldA 11 (tm 1)),
  sm 4 7 (.fa 9 (tm 1)),
  ⟨5, (some 8), none, .mo (.ldA 2 (tm 7)), [], true⟩,
  ⟨3, (some 6), none, .callF 122 [(tm 5)], [5, 1], false⟩,
  sc 6 9 131 [(tm 4), (tm 6), (tm 8)],
  sv 7 2 9])
  .ret))
def r82 : List Mo := [.mv (tm 2)]
theorem c82_eq : compF Tryz.prog 82 = some c82 := by kernel_rfl
theorem r82_eq : compRs Tryz.prog 82 = some r82 := by kernel_rfl
/-! F83 braid/braidref09.Order -/
def l83_0 : Cd := (.seq (.seq (.reg [sv 0 13 7,
  sm 1 14 (.fa 1 (tm 1)),
  sm 2 15 (.ld1 (tm 14)),
  sm 3 16 (.len (.sl 11) (tm 15)),
  sm 4 17 (.bin .lss 3 (tm 13) (tm 16))])
  (.cond (tm 17) .skip (.exit 2)))
  (.seq (.block 3 (.seq (.reg [sv 0 20 5,
  sv 1 21 7,
  sm 2 22 (.ia (.sl 1) (tm 20) (tm 21)),
  sm 3 23 (.ld1 (tm 22)),
  sm 4 24 (.un .not (tm 23)),
  sv 5 25 24,
  sg 6 26 25 true (.mv (tm 4)),
  sg 7 27 25 true (.fa 1 (tm 1)),
  sg 8 28 25 true (.ld1 (tm 27)),
  sg 9 29 25 true (.mv (tm 7)),
  sg 10 30 25 true (.ia (.sl 11) (tm 28) (tm 29)),
  sg 11 31 25 true (.fa 1 (tm 30)),
  sg 12 32 25 true (.ld1 (tm 31)),
  ⟨13, (some 33), (some ((some 25), true)), .callF 80 [(tm 26), (tm 32)], [], false⟩,
  sm 14 34 (.pick (tm 25) (tm 33) (.const (.bool false)))])
  (.cond (tm 34) (.seq (.dreg [sv 0 35 5,
  sv 1 36 7,
  sv 2 37 3,
  sv 3 38 7,
  sm 4 39 (.bsl 1 [.int .i64 0] 1 [(0, (tm 38))]),
  sv 6 41 4,
  sm 7 42 (.fa 0 (tm 1)),
  ⟨8, (some 43), none, .mo (.ld1 (tm 42)), [], true⟩,
  sv 9 44 7,
  sm 10 45 (.ia (.sl 32) (tm 43) (tm 44)),
  ⟨11, (some 46), none, .mo (.ldA 32 (tm 45)), [], true⟩,
  ⟨12, (some 47), none, .mo (.bsl 32 (rep 32 (.int .u8 0)) 1 [(0, (tm 46))]), [], true⟩,
  ⟨5, (some 40), none, .mo (.app 1 8 (tm 37) (tm 39)), [12, 11, 8], false⟩,
  sm 13 48 (.app 32 32 (tm 41) (tm 47)),
  sv 14 3 40,
  sv 15 4 48,
  sm 16 49 (.ia (.sl 1) (tm 35) (tm 36)),
  se 17 (.st 1 (tm 49) (.const (.bool true))),
  sm 18 6 (.mv (.const (.bool true)))])
  (.exit 2)) .skip)))
  (.reg [sv 0 18 7,
  sm 1 19 (.bin .add 3 (tm 18) (.const (.int .i64 1))),
  sv 2 7 19])))
def l83_1 : Cd := (.seq (.seq (.reg [sv 0 12 6])
  (.cond (tm 12) .skip (.exit 0)))
  (.block 1 (.seq (.reg [sm 0 6 (.mv (.const (.bool false)))])
  (.seq (.reg [sm 0 7 (.mv (.const (.int .i64 0)))])
  (.block 2 (.loop l83_0))))))
def c83 : Cd := (.seq (.reg [sm 0 1 (.box (tm 0)),
  sm 1 2 (.mv (.const (.slice none 0 0)))])
  (.seq (.reg [sm 0 3 (.mv (.const (.slice none 0 0)))])
  (.seq (.reg [sm 0 4 (.mv (.const (.slice none 0 0)))])
  (.seq (.reg [sm 0 8 (.fa 1 (tm 1)),
  sm 1 9 (.ld1 (tm 8)),
  sm 2 10 (.len (.sl 11) (tm 9)),
  sm 3 11 (.mks 1 1 [.bool false] (tm 10) (tm 10)),
  sv 4 5 11])
  (.seq (.seq (.reg [sm 0 6 (.mv (.const (.bool true)))])
  (.block 0 (.loop l83_1)))
  (.seq (.reg [sv 0 50 3,
  sv 1 2 50])
  .ret))))))
def r83 : List Mo := [.mv (tm 2)]
theorem c83_eq : compF Tryz.prog 83 = some c83 := by kernel_rfl
theorem r83_eq : compRs Tryz.prog 83 = some r83 := by kernel_rfl
/-! F84 braid/ancestry.Ancestors -/
def c84 : Cd := (.seq (.reg [sm 0 2 (.box (tm 0)),
  sm 1 3 (.box (tm 1)),
  sm 2 4 (.mv (.const (.slice none 0 0))),
  sm 3 5 (.mv (.const (.int .i64 0)))])
  (.seq (.reg [sm 0 9 (.ldA 2 (tm 2)),
  sm 1 10 (.ldA 32 (tm 3)),
  sc 2 11 132 [(tm 9), (tm 10)],
  sv 3 8 11,
  sm 4 12 (.ext (tm 8) 0),
  sm 5 13 (.ext (tm 8) 1),
  sv 6 6 12,
  sv 7 7 13])
  (.seq (.seq (.reg [sv 0 14 7,
  sm 1 15 (.bin .neq 37 (tm 14) (.const (.int .i64 0)))])
  (.cond (tm 15) (.seq (.reg [sv 0 16 7,
  sm 1 4 (.mv (.const (.slice none 0 0))),
  sv 2 5 16])
  .ret) .skip))
  (.seq (.dreg [⟨0, (some 17), none, .mo (.ldA 2 (tm 2)), [], true⟩,
  sm 1 18 (.ldA 2 (tm 2)),
  sm 2 19 (.fa 1 (tm 2)),
  sm 3 20 (.ld1 (tm 19)),
  sv 4 21 6,
  sm 5 22 (.ia (.sl 11) (tm 20) (tm 21)),
  sm 6 23 (.fa 1 (tm 22)),
  sm 7 24 (.ld1 (tm 23)),
  ⟨8, (some 25), none, .callF 133 [(tm 18), (tm 24)], [0], false⟩,
  sc 9 26 89 [(tm 17), (tm 25)],
  sv 10 4 26,
  sm 11 5 (.mv (.const (.int .i64 0)))])
  .ret))))
def r84 : List Mo := [.mv (tm 4), .mv (tm 5)]
theorem c84_eq : compF Tryz.prog 84 = some c84 := by kernel_rfl
theorem r84_eq : compRs Tryz.prog 84 = some r84 := by kernel_rfl
/-! F85 slices.SortFunc[[]braid/api.Tag,braid/api.Tag] -/
def c85 : Cd := (.seq (.reg [sv 0 5 0,
  sm 1 6 (.len (.sl 33) (tm 5)),
  sv 2 4 6])
  (.reg [sv 0 7 0,
  sv 1 8 4,
  sv 2 9 4,
  sm 3 10 (.cint .u64 (tm 9)),
  sc 4 11 135 [(tm 10)],
  sv 5 12 1,
  sc 6 13 134 [(tm 7), (.const (.int .i64 0)), (tm 8), (tm 11), (tm 12)]]))
def r85 : List Mo := []
theorem c85_eq : compF Tryz.prog 85 = some c85 := by kernel_rfl
theorem r85_eq : compRs Tryz.prog 85 = some r85 := by kernel_rfl
/-! F86 braid/orset.compare -/
def c86 : Cd := (.seq (.reg [sm 0 2 (.box (tm 0)),
  sm 1 3 (.box (tm 1)),
  sm 2 4 (.mv (.const (.int .i64 0)))])
  (.seq (.reg [sm 0 5 (.fa 0 (tm 2)),
  sm 1 6 (.ld1 (tm 5)),
  sm 2 7 (.fa 0 (tm 3)),
  sm 3 8 (.ld1 (tm 7)),
  sm 5 10 (.fa 1 (tm 2)),
  sm 6 11 (.slice (.arr 32 1) (tm 10) none none none),
  sm 7 12 (.fa 1 (tm 3)),
  sm 8 13 (.slice (.arr 32 1) (tm 12) none none none),
  sc 4 9 137 [(tm 6), (tm 8)],
  sc 9 14 106 [(tm 11), (tm 13)],
  sm 10 15 (.bsl 1 [.int .i64 0] 2 [(0, (tm 9)), (1, (tm 14))]),
  sc 11 16 136 [(tm 15)],
  sv 12 4 16])
  .ret))
def r86 : List Mo := [.mv (tm 4)]
theorem c86_eq : compF Tryz.prog 86 = some c86 := by kernel_rfl
theorem r86_eq : compRs Tryz.prog 86 = some r86 := by kernel_rfl
/-! F87 braid/lww.apply -/
def c87 : Cd := (.seq (.reg [sm 0 4 (.box (tm 1)),
  sm 1 5 (.box (tm 2)),
  sm 2 6 (.mv (.const (.slice none 0 0)))])
  (.seq (.seq (.reg [sm 0 10 (.fa 3 (tm 4)),
  sm 1 11 (.fa 0 (tm 10)),
  sm 2 12 (.ld1 (tm 11)),
  sm 3 13 (.bin .neq 5 (tm 12) (.const (.int .u8 4)))])
  (.cond (tm 13) (.seq (.reg [sv 0 14 0,
  sv 1 6 14])
  .ret) .skip))
  (.seq (.reg [sm 0 15 (.fa 3 (tm 4)),
  sm 1 16 (.fa 1 (tm 15)),
  sm 2 17 (.ld1 (tm 16)),
  sm 3 18 (.fa 3 (tm 4)),
  sm 4 19 (.fa 2 (tm 18)),
  sm 5 20 (.ldA 4 (tm 19)),
  sm 6 21 (.fa 2 (tm 4)),
  sm 7 22 (.ld1 (tm 21)),
  sm 8 23 (.ldA 32 (tm 5)),
  sm 9 24 (.bld ([.str [], .int .u8 0, .int .i64 0, .int .u64 0, .str [], .int .u64 0] ++ rep 32 (.int .u8 0)) [(0, 1, (tm 17)), (1, 4, (tm 20)), (5, 1, (tm 22)), (6, 32, (tm 23))]),
  sm 10 7 (.alloc ([.str [], .int .u8 0, .int .i64 0, .int .u64 0, .str [], .int .u64 0] ++ rep 32 (.int .u8 0))),
  se 11 (.st 38 (tm 7) (tm 24))])
  (.seq (.reg [sv 0 26 0,
  sm 1 27 (.fa 0 (tm 7)),
  sm 2 28 (.ld1 (tm 27)),
  sc 3 29 92 [(tm 26), (.func 93), (tm 28)],
  sv 4 25 29,
  sm 5 30 (.ext (tm 25) 0),
  sm 6 31 (.ext (tm 25) 1),
  sv 7 8 30,
  sv 8 9 31])
  (.seq (.seq (.reg [sv 0 32 9,
  sm 1 33 (.un .not (tm 32))])
  (.cond (tm 33) (.seq (.reg [sv 0 34 0,
  sv 1 35 8,
  sm 2 36 (.ldA 38 (tm 7)),
  sm 3 37 (.bsl 38 ([.str [], .int .u8 0, .int .i64 0, .int .u64 0, .str [], .int .u64 0] ++ rep 32 (.int .u8 0)) 1 [(0, (tm 36))]),
  sc 4 38 138 [(tm 34), (tm 35), (tm 37)],
  sv 5 6 38])
  .ret) .skip))
  (.seq (.seq (.reg [sm 0 39 (.ldA 38 (tm 7)),
  sv 1 40 0,
  sv 2 41 8,
  sm 3 42 (.ia (.sl 38) (tm 40) (tm 41)),
  sm 4 43 (.ldA 38 (tm 42)),
  sc 5 44 139 [(tm 39), (tm 43)]])
  (.cond (tm 44) (.reg [sv 0 45 0,
  sv 1 46 8,
  sm 2 47 (.ldA 38 (tm 7)),
  sm 3 48 (.ia (.sl 38) (tm 45) (tm 46)),
  se 4 (.st 38 (tm 48) (tm 47))]) .skip))
  (.seq (.reg [sv 0 49 0,
  sv 1 6 49])
  .ret)))))))
def r87 : List Mo := [.mv (tm 6)]
theorem c87_eq : compF Tryz.prog 87 = some c87 := by kernel_rfl
theorem r87_eq : compRs Tryz.prog 87 = some r87 := by kernel_rfl
/-! F88 braid/ancestry.places -/
def l88_0 : Cd := (.seq (.reg [sm 0 14 (.bin .lss 3 (tm 13) (tm 12))])
  (.seq (.cond (tm 14) .skip (.exit 0))
  (.seq (.block 1 (.seq (.reg [sv 0 15 13,
  sm 1 16 (.ia (.sl 32) (tm 11) (tm 13)),
  sm 2 17 (.ldA 32 (tm 16)),
  sm 3 5 (.alloc (rep 32 (.int .u8 0))),
  sv 4 4 15,
  se 5 (.st 32 (tm 5) (tm 17))])
  (.reg [sv 0 18 3,
  sm 1 19 (.ldA 32 (tm 5)),
  sv 2 20 4,
  se 3 (.mup 48 (tm 18) (tm 19) (tm 20))])))
  (.reg [sm 0 21 (.bin .add 3 (tm 13) (.const (.int .i64 1))),
  sv 1 13 21]))))
def c88 : Cd := (.seq (.reg [sm 0 1 (.box (tm 0)),
  sm 1 2 (.mv (.const (.map none)))])
  (.seq (.reg [sm 0 6 (.fa 0 (tm 1)),
  sm 1 7 (.ld1 (tm 6)),
  sm 2 8 (.len (.sl 32) (tm 7)),
  sm 3 9 (.mkM (some (tm 8))),
  sv 4 3 9])
  (.seq (.seq (.reg [sm 0 10 (.fa 0 (tm 1)),
  sm 1 11 (.ld1 (tm 10)),
  sm 2 12 (.len (.sl 32) (tm 11)),
  sm 3 13 (.mv (.const (.int .i64 0)))])
  (.block 0 (.loop l88_0)))
  (.seq (.reg [sv 0 22 3,
  sv 1 2 22])
  .ret))))
def r88 : List Mo := [.mv (tm 2)]
theorem c88_eq : compF Tryz.prog 88 = some c88 := by kernel_rfl
theorem r88_eq : compRs Tryz.prog 88 = some r88 := by kernel_rfl
/-! F89 braid/ancestry.marked -/
def l89_0 : Cd := (.seq (.reg [sm 0 10 (.bin .lss 3 (tm 9) (tm 8))])
  (.seq (.cond (tm 10) .skip (.exit 0))
  (.seq (.block 1 (.seq (.reg [sv 0 11 9,
  sv 1 6 11])
  (.seq (.reg [sv 0 12 1,
  sv 1 13 6,
  sm 2 14 (.ia (.sl 1) (tm 12) (tm 13)),
  sm 3 15 (.ld1 (tm 14))])
  (.cond (tm 15) (.reg [sv 0 16 5,
  sm 1 17 (.fa 0 (tm 2)),
  sm 2 18 (.ld1 (tm 17)),
  sv 3 19 6,
  sm 4 20 (.ia (.sl 32) (tm 18) (tm 19)),
  sm 5 21 (.ldA 32 (tm 20)),
  sm 6 22 (.bsl 32 (rep 32 (.int .u8 0)) 1 [(0, (tm 21))]),
  sm 7 23 (.app 32 32 (tm 16) (tm 22)),
  sv 8 5 23]) .skip))))
  (.reg [sm 0 24 (.bin .add 3 (tm 9) (.const (.int .i64 1))),
  sv 1 9 24]))))
def c89 : Cd := (.seq (.reg [sm 0 2 (.box (tm 0)),
  sm 1 4 (.mv (.const (.slice none 0 0)))])
  (.seq (.reg [sm 0 5 (.mv (.const (.slice none 0 0)))])
  (.seq (.seq (.reg [sv 0 7 1,
  sm 1 8 (.len (.sl 1) (tm 7)),
  sm 2 9 (.mv (.const (.int .i64 0)))])
  (.block 0 (.loop l89_0)))
  (.seq (.reg [sv 0 25 5,
  sv 1 4 25])
  .ret))))
def r89 : List Mo := [.mv (tm 4)]
theorem c89_eq : compF Tryz.prog 89 = some c89 := by kernel_rfl
theorem r89_eq : compRs Tryz.prog 89 = some r89 := by kernel_rfl
/-! F90 braid/orset.Keys -/
def l90_0 : Cd := (.seq (.reg [sm 0 17 (.bin .lss 3 (tm 16) (tm 15))])
  (.seq (.cond (tm 17) .skip (.exit 0))
  (.seq (.block 1 (.seq (.reg [sm 0 18 (.ia (.sl 33) (tm 14) (tm 16)),
  sm 1 19 (.ldA 33 (tm 18)),
  sm 2 7 (.alloc ([.str []] ++ rep 32 (.int .u8 0))),
  se 3 (.st 33 (tm 7) (tm 19))])
  (.reg [sv 0 20 5,
  sm 1 21 (.fa 0 (tm 7)),
  sm 2 22 (.ld1 (tm 21)),
  sm 3 23 (.bsl 1 [.str []] 1 [(0, (tm 22))]),
  sm 4 24 (.app 1 16 (tm 20) (tm 23)),
  sv 5 5 24])))
  (.reg [sm 0 25 (.bin .add 3 (tm 16) (.const (.int .i64 1))),
  sv 1 16 25]))))
def c90 : Cd := (.seq (.reg [sm 0 1 (.box (tm 0)),
  sm 1 2 (.mv (.const (.slice none 0 0))),
  sm 2 3 (.mv (.const (.int .i64 0)))])
  (.seq (.seq (.reg [sm 0 8 (.ldA 1 (tm 1)),
  sc 1 9 58 [(tm 8)],
  sv 2 4 9])
  (.seq (.reg [sv 0 10 4,
  sm 1 11 (.bin .neq 37 (tm 10) (.const (.int .i64 0)))])
  (.cond (tm 11) (.seq (.reg [sv 0 12 4,
  sm 1 2 (.mv (.const (.slice none 0 0))),
  sv 2 3 12])
  .ret) .skip)))
  (.seq (.reg [sm 0 5 (.mv (.const (.slice none 0 0)))])
  (.seq (.seq (.reg [sm 0 13 (.fa 0 (tm 1)),
  sm 1 14 (.ld1 (tm 13)),
  sm 2 15 (.len (.sl 33) (tm 14)),
  sm 3 16 (.mv (.const (.int .i64 0)))])
  (.block 0 (.loop l90_0)))
  (.seq (.reg [sv 0 26 5,
  sc 1 27 140 [(tm 26)],
  sv 2 2 27,
  sm 3 3 (.mv (.const (.int .i64 0)))])
  .ret)))))
def r90 : List Mo := [.mv (tm 2), .mv (tm 3)]
theorem c90_eq : compF Tryz.prog 90 = some c90 := by kernel_rfl
theorem r90_eq : compRs Tryz.prog 90 = some r90 := by kernel_rfl
/-! F91 slices.Contains[[]string,string] -/
def c91 : Cd := (.seq (.reg [sm 0 4 (.mv (.const (.bool false)))])
  (.seq (.reg [sv 0 5 0,
  sv 1 6 1,
  sc 2 7 141 [(tm 5), (tm 6)],
  sm 3 8 (.bin .geq 3 (tm 7) (.const (.int .i64 0))),
  sv 4 4 8])
  .ret))
def r91 : List Mo := [.mv (tm 4)]
theorem c91_eq : compF Tryz.prog 91 = some c91 := by kernel_rfl
theorem r91_eq : compRs Tryz.prog 91 = some r91 := by kernel_rfl
/-! F92 braid/lww.find[braid/api.Reg] -/
def c92 : Cd := (.seq (.reg [sm 0 4 (.box (tm 1)),
  sm 1 6 (.mv (.const (.int .i64 0))),
  sm 2 7 (.mv (.const (.bool false)))])
  (.seq (.reg [sv 0 8 0,
  sv 1 9 2,
  sm 2 10 (.mkF 143 [] [(tm 4)]),
  sc 3 11 142 [(tm 8), (tm 9), (tm 10)],
  sm 4 12 (.ext (tm 11) 0),
  sm 5 13 (.ext (tm 11) 1),
  sv 6 6 12,
  sv 7 7 13])
  .ret))
def r92 : List Mo := [.mv (tm 6), .mv (tm 7)]
theorem c92_eq : compF Tryz.prog 92 = some c92 := by kernel_rfl
theorem r92_eq : compRs Tryz.prog 92 = some r92 := by kernel_rfl
/-! F93 braid/lww.key -/
def c93 : Cd := (.seq (.reg [sm 0 1 (.box (tm 0)),
  sm 1 2 (.mv (.const (.string ⟨#[]⟩)))])
  (.seq (.reg [sm 0 3 (.fa 0 (tm 1)),
  sm 1 4 (.ld1 (tm 3)),
  sv 2 2 4])
  .ret))
def r93 : List Mo := [.mv (tm 2)]
theorem c93_eq : compF Tryz.prog 93 = some c93 := by kernel_rfl
theorem r93_eq : compRs Tryz.prog 93 = some r93 := by kernel_rfl
/-! F94 braid/op.ID -/
def c94 : Cd := (.seq (.reg [sm 0 1 (.box (tm 0)),
  sm 1 2 (.alloc (rep 32 (.int .u8 0))),
  sm 2 3 (.mv (.const (.int .i64 0)))])
  (.seq (.reg [sm 0 7 (.ldA 11 (tm 1)),
  sc 1 8 144 [(tm 7)],
  sv 2 6 8,
  sm 3 9 (.ext (tm 6) 0),
  sm 4 10 (.ext (tm 6) 1),
  sv 5 4 9,
  sv 6 5 10])
  (.seq (.seq (.reg [sv 0 11 5,
  sm 1 12 (.bin .neq 37 (tm 11) (.const (.int .i64 0)))])
  (.cond (tm 12) (.seq (.reg [sm 0 13 (.bld (rep 32 (.int .u8 0)) []),
  sv 1 14 5,
  se 2 (.st 32 (tm 2) (tm 13)),
  sv 3 3 14])
  .ret) .skip))
  (.seq (.reg [sv 0 15 4,
  sc 1 16 145 [(tm 15)],
  sm 2 17 (.ext (tm 16) 0),
  sm 3 18 (.ext (tm 16) 1),
  se 4 (.st 32 (tm 2) (tm 17)),
  sv 5 3 18])
  .ret))))
def r94 : List Mo := [.ldA 32 (tm 2), .mv (tm 3)]
theorem c94_eq : compF Tryz.prog 94 = some c94 := by kernel_rfl
theorem r94_eq : compRs Tryz.prog 94 = some r94 := by kernel_rfl
/-! F95 braid/op.Verify -/
def c95 : Cd := (.seq (.reg [sm 0 1 (.box (tm 0)),
  sm 1 2 (.mv (.const (.int .i64 0)))])
  (.seq (.seq (.reg [sm 0 6 (.ldA 11 (tm 1)),
  sc 1 7 146 [(tm 6)],
  sv 2 3 7])
  (.seq (.reg [sv 0 8 3,
  sm 1 9 (.bin .neq 37 (tm 8) (.const (.int .i64 0)))])
  (.cond (tm 9) (.seq (.reg [sv 0 10 3,
  sv 1 2 10])
  .ret) .skip)))
  (.seq (.reg [sm 0 12 (.ldA 11 (tm 1)),
  sc 1 13 147 [(tm 12)],
  sv 2 11 13,
  sm 3 14 (.ext (tm 11) 0),
  sm 4 15 (.ext (tm 11) 1),
  sv 5 4 14,
  sv 6 5 15])
  (.seq (.reg [sm 0 16 (.fa 0 (tm 1)),
  sm 1 17 (.ld1 (tm 16)),
  sv 2 18 4,
  sm 3 19 (.fa 9 (tm 1)),
  sm 4 20 (.ldA 2 (tm 19)),
  sc 5 21 148 [(tm 17), (tm 18), (tm 20)],
  sv 6 2 21])
  .ret))))
def r95 : List Mo := [.mv (tm 2)]
theorem c95_eq : compF Tryz.prog 95 = some c95 := by kernel_rfl
theorem r95_eq : compRs Tryz.prog 95 = some r95 := by kernel_rfl
/-! F96 braid/dag.shape -/
def l96_0 : Cd := (.seq (.seq (.reg [sv 0 16 3,
  sm 1 17 (.fa 0 (tm 1)),
  sm 2 18 (.ld1 (tm 17)),
  sm 3 19 (.len (.sl 32) (tm 18)),
  sm 4 20 (.bin .lss 3 (tm 16) (tm 19))])
  (.cond (tm 20) .skip (.exit 0)))
  (.seq (.block 1 (.seq (.reg [sm 0 23 (.fa 0 (tm 1)),
  sm 1 24 (.ld1 (tm 23)),
  sv 2 25 3,
  sm 3 26 (.bin .sub 3 (tm 25) (.const (.int .i64 1))),
  sm 4 27 (.ia (.sl 32) (tm 24) (tm 26)),
  sm 5 28 (.ldA 32 (tm 27)),
  sm 6 29 (.fa 0 (tm 1)),
  sm 7 30 (.ld1 (tm 29)),
  sv 8 31 3,
  sm 9 32 (.ia (.sl 32) (tm 30) (tm 31)),
  sm 10 33 (.ldA 32 (tm 32)),
  sc 11 34 149 [(tm 28), (tm 33)],
  sm 12 35 (.bin .geq 3 (tm 34) (.const (.int .i64 0)))])
  (.cond (tm 35) (.seq (.reg [sm 0 2 (.mv (.const (.int .i64 32)))])
  .ret) .skip)))
  (.reg [sv 0 21 3,
  sm 1 22 (.bin .add 3 (tm 21) (.const (.int .i64 1))),
  sv 2 3 22])))
def l96_1 : Cd := (.seq (.reg [sm 0 56 (.bin .lss 3 (tm 55) (tm 54))])
  (.seq (.cond (tm 56) .skip (.exit 4))
  (.seq (.block 5 (.seq (.reg [sm 0 57 (.ia (.sl 32) (tm 53) (tm 55)),
  sm 1 58 (.ldA 32 (tm 57)),
  sm 2 10 (.alloc (rep 32 (.int .u8 0))),
  se 3 (.st 32 (tm 10) (tm 58))])
  (.seq (.reg [sm 0 60 (.ldA 2 (tm 1)),
  sm 1 61 (.ldA 32 (tm 10)),
  sc 2 62 114 [(tm 60), (tm 61)],
  sv 3 59 62,
  sm 4 63 (.ext (tm 59) 0),
  sm 5 64 (.ext (tm 59) 1),
  sv 6 11 63,
  sv 7 12 64])
  (.seq (.seq (.reg [sv 0 65 12,
  sm 1 66 (.un .not (tm 65))])
  (.cond (tm 66) (.seq (.reg [sm 0 2 (.mv (.const (.int .i64 40)))])
  .ret) .skip))
  (.reg [sv 0 67 5,
  sv 1 68 11,
  sv 2 69 5,
  sv 3 70 11,
  sm 4 71 (.ia (.sl 1) (tm 69) (tm 70)),
  sm 5 72 (.ld1 (tm 71)),
  sv 6 73 7,
  sm 7 74 (.bsl 1 [.int .i64 0] 1 [(0, (tm 73))]),
  sm 8 75 (.app 1 8 (tm 72) (tm 74)),
  sm 9 76 (.ia (.sl 1) (tm 67) (tm 68)),
  se 10 (.st 1 (tm 76) (tm 75))])))))
  (.reg [sm 0 77 (.bin .add 3 (tm 55) (.const (.int .i64 1))),
  sv 1 55 77]))))
def l96_2 : Cd := (.seq (.reg [sm 0 48 (.bin .lss 3 (tm 47) (tm 46))])
  (.seq (.cond (tm 48) .skip (.exit 2))
  (.seq (.block 3 (.seq (.reg [sv 0 49 47,
  sm 1 50 (.ia (.sl 11) (tm 45) (tm 47)),
  sm 2 51 (.ldA 11 (tm 50)),
  sm 3 8 (.alloc [.int .u32 0, .nilS, .int .u64 0, .int .u8 0, .str [], .int .u8 0, .int .i64 0, .int .u64 0, .str [], .int .u32 0, .int .u32 0]),
  sv 4 7 49,
  se 5 (.st 11 (tm 8) (tm 51))])
  (.seq (.seq (.reg [sm 0 52 (.fa 1 (tm 8)),
  sm 1 53 (.ld1 (tm 52)),
  sm 2 54 (.len (.sl 32) (tm 53)),
  sm 3 55 (.mv (.const (.int .i64 0)))])
  (.block 4 (.loop l96_1)))
  (.seq (.reg [sv 0 78 4,
  sv 1 79 7,
  sm 2 80 (.fa 1 (tm 8)),
  sm 3 81 (.ld1 (tm 80)),
  sm 4 82 (.len (.sl 32) (tm 81)),
  sm 5 83 (.ia (.sl 1) (tm 78) (tm 79)),
  se 6 (.st 1 (tm 83) (tm 82))])
  (.seq (.reg [sv 0 84 4,
  sv 1 85 7,
  sm 2 86 (.ia (.sl 1) (tm 84) (tm 85)),
  sm 3 87 (.ld1 (tm 86)),
  sm 4 88 (.bin .eql 3 (tm 87) (.const (.int .i64 0)))])
  (.cond (tm 88) (.reg [sv 0 89 6,
  sv 1 90 7,
  sm 2 91 (.bsl 1 [.int .i64 0] 1 [(0, (tm 90))]),
  sm 3 92 (.app 1 8 (tm 89) (tm 91)),
  sv 4 6 92]) .skip))))))
  (.reg [sm 0 93 (.bin .add 3 (tm 47) (.const (.int .i64 1))),
  sv 1 47 93]))))
def l96_3 : Cd := (.seq (.reg [sm 0 109 (.bin .lss 3 (tm 108) (tm 107))])
  (.seq (.cond (tm 109) .skip (.exit 8))
  (.seq (.block 9 (.seq (.reg [sm 0 110 (.ia (.sl 1) (tm 106) (tm 108)),
  sm 1 111 (.ld1 (tm 110)),
  sv 2 15 111])
  (.seq (.reg [sv 0 112 4,
  sv 1 113 15,
  sm 2 114 (.ia (.sl 1) (tm 112) (tm 113)),
  sm 3 115 (.ld1 (tm 114)),
  sm 4 116 (.bin .sub 3 (tm 115) (.const (.int .i64 1))),
  sm 5 117 (.ia (.sl 1) (tm 112) (tm 113)),
  se 6 (.st 1 (tm 117) (tm 116))])
  (.seq (.reg [sv 0 118 4,
  sv 1 119 15,
  sm 2 120 (.ia (.sl 1) (tm 118) (tm 119)),
  sm 3 121 (.ld1 (tm 120)),
  sm 4 122 (.bin .eql 3 (tm 121) (.const (.int .i64 0)))])
  (.cond (tm 122) (.reg [sv 0 123 6,
  sv 1 124 15,
  sm 2 125 (.bsl 1 [.int .i64 0] 1 [(0, (tm 124))]),
  sm 3 126 (.app 1 8 (tm 123) (tm 125)),
  sv 4 6 126]) .skip)))))
  (.reg [sm 0 127 (.bin .add 3 (tm 108) (.const (.int .i64 1))),
  sv 1 108 127]))))
def l96_4 : Cd := (.seq (.seq (.reg [sv 0 94 13,
  sv 1 95 6,
  sm 2 96 (.len (.sl 1) (tm 95)),
  sm 3 97 (.bin .lss 3 (tm 94) (tm 96))])
  (.cond (tm 97) .skip (.exit 6)))
  (.seq (.block 7 (.seq (.reg [sv 0 100 5,
  sv 1 101 6,
  sv 2 102 13,
  sm 3 103 (.ia (.sl 1) (tm 101) (tm 102)),
  sm 4 104 (.ld1 (tm 103)),
  sm 5 105 (.ia (.sl 1) (tm 100) (tm 104)),
  sm 6 106 (.ld1 (tm 105)),
  sm 7 107 (.len (.sl 1) (tm 106)),
  sm 8 108 (.mv (.const (.int .i64 0)))])
  (.block 8 (.loop l96_3))))
  (.reg [sv 0 98 13,
  sm 1 99 (.bin .add 3 (tm 98) (.const (.int .i64 1))),
  sv 2 13 99])))
def c96 : Cd := (.seq (.reg [sm 0 1 (.box (tm 0)),
  sm 1 2 (.mv (.const (.int .i64 0)))])
  (.seq (.seq (.reg [sm 0 3 (.mv (.const (.int .i64 1)))])
  (.block 0 (.loop l96_0)))
  (.seq (.reg [sm 0 36 (.fa 1 (tm 1)),
  sm 1 37 (.ld1 (tm 36)),
  sm 2 38 (.len (.sl 11) (tm 37)),
  sm 3 39 (.mks 1 8 [.int .i64 0] (tm 38) (tm 38)),
  sv 4 4 39])
  (.seq (.reg [sm 0 40 (.fa 1 (tm 1)),
  sm 1 41 (.ld1 (tm 40)),
  sm 2 42 (.len (.sl 11) (tm 41)),
  sm 3 43 (.mks 1 24 [.nilS] (tm 42) (tm 42)),
  sv 4 5 43])
  (.seq (.reg [sm 0 6 (.mv (.const (.slice none 0 0)))])
  (.seq (.seq (.reg [sm 0 44 (.fa 1 (tm 1)),
  sm 1 45 (.ld1 (tm 44)),
  sm 2 46 (.len (.sl 11) (tm 45)),
  sm 3 47 (.mv (.const (.int .i64 0)))])
  (.block 2 (.loop l96_2)))
  (.seq (.reg [sm 0 13 (.mv (.const (.int .i64 0)))])
  (.seq (.block 6 (.loop l96_4))
  (.seq (.seq (.reg [sv 0 128 13,
  sm 1 129 (.fa 1 (tm 1)),
  sm 2 130 (.ld1 (tm 129)),
  sm 3 131 (.len (.sl 11) (tm 130)),
  sm 4 132 (.bin .lss 3 (tm 128) (tm 131))])
  (.cond (tm 132) (.seq (.reg [sm 0 2 (.mv (.const (.int .i64 36)))])
  .ret) .skip))
  (.seq (.reg [sm 0 2 (.mv (.const (.int .i64 0)))])
  .ret))))))))))
def r96 : List Mo := [.mv (tm 2)]
theorem c96_eq : compF Tryz.prog 96 = some c96 := by kernel_rfl
theorem r96_eq : compRs Tryz.prog 96 = some r96 := by kernel_rfl
/-! F97 braid/orset.Apply -/
def c97 : Cd := (.seq (.reg [sm 0 3 (.box (tm 0)),
  sm 1 4 (.box (tm 1)),
  sm 2 5 (.box (tm 2)),
  sm 3 6 (.alloc [.nilS]),
  sm 4 7 (.mv (.const (.int .i64 0)))])
  (.seq (.seq (.reg [sm 0 15 (.ldA 1 (tm 3)),
  sc 1 16 58 [(tm 15)],
  sv 2 8 16])
  (.seq (.reg [sv 0 17 8,
  sm 1 18 (.bin .neq 37 (tm 17) (.const (.int .i64 0)))])
  (.cond (tm 18) (.seq (.reg [sm 0 19 (.bld [.nilS] []),
  sv 1 20 8,
  se 2 (.st 1 (tm 6) (tm 19)),
  sv 3 7 20])
  .ret) .skip)))
  (.seq (.reg [sm 0 22 (.ldA 11 (tm 4)),
  sc 1 23 94 [(tm 22)],
  sv 2 21 23,
  sm 3 24 (.ext (tm 21) 0),
  sm 4 25 (.ext (tm 21) 1),
  sm 5 9 (.alloc (rep 32 (.int .u8 0))),
  se 6 (.st 32 (tm 9) (tm 24)),
  sv 7 10 25])
  (.seq (.seq (.reg [sv 0 26 10,
  sm 1 27 (.bin .neq 37 (tm 26) (.const (.int .i64 0)))])
  (.cond (tm 27) (.seq (.reg [sm 0 28 (.bld [.nilS] []),
  se 1 (.st 1 (tm 6) (tm 28)),
  sm 2 7 (.mv (.const (.int .i64 8)))])
  .ret) .skip))
  (.seq (.seq (.reg [sm 0 29 (.ld1 (tm 5)),
  sm 1 30 (.len (.sl 32) (tm 29)),
  sm 2 31 (.bin .gtr 3 (tm 30) (.const (.int .i64 60)))])
  (.cond (tm 31) (.seq (.reg [sm 0 32 (.bld [.nilS] []),
  se 1 (.st 1 (tm 6) (tm 32)),
  sm 2 7 (.mv (.const (.int .i64 4)))])
  .ret) .skip))
  (.seq (.reg [sm 0 33 (.fa 0 (tm 3)),
  sm 1 34 (.ld1 (tm 33)),
  sc 2 35 150 [(tm 34)],
  sm 3 36 (.bld [.nilS] [(0, 1, (tm 35))]),
  sm 4 11 (.alloc [.nilS]),
  se 5 (.st 1 (tm 11) (tm 36))])
  (.seq (.seq (.reg [sm 0 37 (.fa 3 (tm 4)),
  sm 1 38 (.fa 0 (tm 37)),
  sm 2 39 (.ld1 (tm 38))])
  (.block 0 (.seq (.reg [sm 0 41 (.bin .eql 5 (tm 39) (.const (.int .u8 2))),
  sv 1 40 41])
  (.cond (tm 40) (.seq (.reg [sm 0 42 (.fa 3 (tm 4)),
  sm 1 43 (.fa 1 (tm 42)),
  sm 2 44 (.ld1 (tm 43)),
  sm 3 45 (.ldA 32 (tm 9)),
  sm 4 46 (.bld ([.str []] ++ rep 32 (.int .u8 0)) [(0, 1, (tm 44)), (1, 32, (tm 45))]),
  sm 5 12 (.alloc ([.str []] ++ rep 32 (.int .u8 0))),
  se 6 (.st 33 (tm 12) (tm 46))])
  (.seq (.reg [sm 0 48 (.fa 0 (tm 11)),
  sm 1 49 (.ld1 (tm 48)),
  sm 2 50 (.ldA 33 (tm 12)),
  sc 3 51 151 [(tm 49), (tm 50), (.func 86)],
  sv 4 47 51,
  sm 5 52 (.ext (tm 47) 0),
  sm 6 53 (.ext (tm 47) 1),
  sv 7 13 52,
  sv 8 14 53])
  (.seq (.seq (.reg [sv 0 54 14])
  (.cond (tm 54) (.seq (.reg [sm 0 55 (.bld [.nilS] []),
  se 1 (.st 1 (tm 6) (tm 55)),
  sm 2 7 (.mv (.const (.int .i64 14)))])
  .ret) .skip))
  (.seq (.seq (.reg [sm 0 56 (.fa 0 (tm 11)),
  sm 1 57 (.ld1 (tm 56)),
  sm 2 58 (.len (.sl 33) (tm 57)),
  sm 3 59 (.bin .eql 3 (tm 58) (.const (.int .i64 60)))])
  (.cond (tm 59) (.seq (.reg [sm 0 60 (.bld [.nilS] []),
  se 1 (.st 1 (tm 6) (tm 60)),
  sm 2 7 (.mv (.const (.int .i64 18)))])
  .ret) .skip))
  (.reg [sm 0 61 (.fa 0 (tm 11)),
  sm 1 62 (.ld1 (tm 61)),
  sv 2 63 13,
  sm 3 64 (.ldA 33 (tm 12)),
  sm 4 65 (.bsl 33 ([.str []] ++ rep 32 (.int .u8 0)) 1 [(0, (tm 64))]),
  sc 5 66 152 [(tm 62), (tm 63), (tm 65)],
  sm 6 67 (.fa 0 (tm 11)),
  se 7 (.st 1 (tm 67) (tm 66))]))))) (.seq (.reg [sm 0 69 (.bin .eql 5 (tm 39) (.const (.int .u8 3))),
  sv 1 68 69])
  (.cond (tm 68) (.reg [sm 0 70 (.fa 0 (tm 11)),
  sm 1 71 (.ld1 (tm 70)),
  sm 2 72 (.mkF 154 [] [(tm 4), (tm 5)]),
  sc 3 73 153 [(tm 71), (tm 72)],
  sm 4 74 (.fa 0 (tm 11)),
  se 5 (.st 1 (tm 74) (tm 73))]) .skip))))))
  (.seq (.reg [sm 0 75 (.ldA 1 (tm 11)),
  se 1 (.st 1 (tm 6) (tm 75)),
  sm 2 7 (.mv (.const (.int .i64 0)))])
  .ret))))))))
def r97 : List Mo := [.ldA 1 (tm 6), .mv (tm 7)]
theorem c97_eq : compF Tryz.prog 97 = some c97 := by kernel_rfl
theorem r97_eq : compRs Tryz.prog 97 = some r97 := by kernel_rfl
/-! F98 braid/lww.Apply -/
def c98 : Cd := (.seq (.reg [sm 0 2 (.box (tm 0)),
  sm 1 3 (.box (tm 1)),
  sm 2 4 (.alloc [.nilS]),
  sm 3 5 (.mv (.const (.int .i64 0)))])
  (.seq (.seq (.reg [sm 0 10 (.ldA 1 (tm 2)),
  sc 1 11 59 [(tm 10)],
  sv 2 6 11])
  (.seq (.reg [sv 0 12 6,
  sm 1 13 (.bin .neq 37 (tm 12) (.const (.int .i64 0)))])
  (.cond (tm 13) (.seq (.reg [sm 0 14 (.bld [.nilS] []),
  sv 1 15 6,
  se 2 (.st 1 (tm 4) (tm 14)),
  sv 3 5 15])
  .ret) .skip)))
  (.seq (.reg [sm 0 17 (.ldA 11 (tm 3)),
  sc 1 18 94 [(tm 17)],
  sv 2 16 18,
  sm 3 19 (.ext (tm 16) 0),
  sm 4 20 (.ext (tm 16) 1),
  sm 5 7 (.alloc (rep 32 (.int .u8 0))),
  se 6 (.st 32 (tm 7) (tm 19)),
  sv 7 8 20])
  (.seq (.seq (.reg [sv 0 21 8,
  sm 1 22 (.bin .neq 37 (tm 21) (.const (.int .i64 0)))])
  (.cond (tm 22) (.seq (.reg [sm 0 23 (.bld [.nilS] []),
  se 1 (.st 1 (tm 4) (tm 23)),
  sm 2 5 (.mv (.const (.int .i64 8)))])
  .ret) .skip))
  (.seq (.dreg [sm 0 24 (.fa 0 (tm 2)),
  sm 1 25 (.ld1 (tm 24)),
  ⟨3, (some 27), none, .mo (.ldA 11 (tm 3)), [], true⟩,
  ⟨4, (some 28), none, .mo (.ldA 32 (tm 7)), [], true⟩,
  ⟨2, (some 26), none, .callF 155 [(tm 25)], [4, 3], false⟩,
  sc 5 29 87 [(tm 26), (tm 27), (tm 28)],
  sv 6 9 29])
  (.seq (.seq (.reg [sv 0 30 9,
  sm 1 31 (.len (.sl 38) (tm 30)),
  sm 2 32 (.bin .gtr 3 (tm 31) (.const (.int .i64 60)))])
  (.cond (tm 32) (.seq (.reg [sm 0 33 (.bld [.nilS] []),
  se 1 (.st 1 (tm 4) (tm 33)),
  sm 2 5 (.mv (.const (.int .i64 18)))])
  .ret) .skip))
  (.seq (.reg [sv 0 34 9,
  sm 1 35 (.bld [.nilS] [(0, 1, (tm 34))]),
  se 2 (.st 1 (tm 4) (tm 35)),
  sm 3 5 (.mv (.const (.int .i64 0)))])
  .ret)))))))
def r98 : List Mo := [.ldA 1 (tm 4), .mv (tm 5)]
theorem c98_eq : compF Tryz.prog 98 = some c98 := by kernel_rfl
theorem r98_eq : compRs Tryz.prog 98 = some r98 := by kernel_rfl
/-! F99 slices.SortFunc[[]braid/api.ID,braid/api.ID] -/
def c99 : Cd := (.seq (.reg [sv 0 5 0,
  sm 1 6 (.len (.sl 32) (tm 5)),
  sv 2 4 6])
  (.reg [sv 0 7 0,
  sv 1 8 4,
  sv 2 9 4,
  sm 3 10 (.cint .u64 (tm 9)),
  sc 4 11 135 [(tm 10)],
  sv 5 12 1,
  sc 6 13 156 [(tm 7), (.const (.int .i64 0)), (tm 8), (tm 11), (tm 12)]]))
def r99 : List Mo := []
theorem c99_eq : compF Tryz.prog 99 = some c99 := by kernel_rfl
theorem r99_eq : compRs Tryz.prog 99 = some r99 := by kernel_rfl
/-! F104 braid/op.CheckAct -/
def c104 : Cd := (.seq (.reg [sm 0 1 (.box (tm 0)),
  sm 1 2 (.mv (.const (.int .i64 0)))])
  (.seq (.reg [sm 0 3 (.mv (.const (.bool false)))])
  (.seq (.seq (.reg [sm 0 4 (.fa 0 (tm 1)),
  sm 1 5 (.ld1 (tm 4))])
  (.block 0 (.seq (.reg [sm 0 7 (.bin .eql 5 (tm 5) (.const (.int .u8 1))),
  sv 1 6 7])
  (.cond (tm 6) (.reg [sm 0 8 (.ldA 6 (tm 1)),
  sm 1 9 (.bld [.int .u8 0, .str [], .int .u8 0, .int .i64 0, .int .u64 0, .str []] [(0, 1, (.const (.int .u8 1)))]),
  sm 2 10 (.bin .eql 78 (tm 8) (tm 9)),
  sv 3 3 10]) (.seq (.seq (.reg [sm 0 12 (.bin .eql 5 (tm 5) (.const (.int .u8 2))),
  sv 1 11 12])
  (.cond (tm 11) .skip (.reg [sm 0 13 (.bin .eql 5 (tm 5) (.const (.int .u8 3))),
  sv 1 11 13])))
  (.cond (tm 11) (.reg [sm 0 14 (.fa 1 (tm 1)),
  sm 1 15 (.ld1 (tm 14)),
  sc 2 16 157 [(tm 15)],
  sv 3 17 16,
  sg 4 18 17 true (.fa 2 (tm 1)),
  sg 5 19 17 true (.ldA 4 (tm 18)),
  sg 6 20 17 true (.bld [.int .u8 0, .int .i64 0, .int .u64 0, .str []] []),
  sg 7 21 17 true (.bin .eql 42 (tm 19) (tm 20)),
  sm 8 22 (.pick (tm 17) (tm 21) (.const (.bool false))),
  sv 9 3 22]) (.seq (.reg [sm 0 24 (.bin .eql 5 (tm 5) (.const (.int .u8 4))),
  sv 1 23 24])
  (.cond (tm 23) (.reg [sm 0 25 (.fa 1 (tm 1)),
  sm 1 26 (.ld1 (tm 25)),
  sc 2 27 157 [(tm 26)],
  sv 3 28 27,
  sg 4 29 28 true (.fa 2 (tm 1)),
  sg 5 30 28 true (.ldA 4 (tm 29)),
  ⟨6, (some 31), (some ((some 28), true)), .callF 105 [(tm 30)], [], false⟩,
  sg 7 32 28 true (.bin .eql 37 (tm 31) (.const (.int .i64 0))),
  sm 8 33 (.pick (tm 28) (tm 32) (.const (.bool false))),
  sv 9 3 33]) .skip))))))))
  (.seq (.seq (.reg [sv 0 34 3,
  sm 1 35 (.un .not (tm 34))])
  (.cond (tm 35) (.seq (.reg [sm 0 2 (.mv (.const (.int .i64 8)))])
  .ret) .skip))
  (.seq (.reg [sm 0 2 (.mv (.const (.int .i64 0)))])
  .ret)))))
def r104 : List Mo := [.mv (tm 2)]
theorem c104_eq : compF Tryz.prog 104 = some c104 := by kernel_rfl
theorem r104_eq : compRs Tryz.prog 104 = some r104 := by kernel_rfl
/-! F105 braid/value.Check -/
def c105 : Cd := (.seq (.reg [sm 0 1 (.box (tm 0)),
  sm 1 2 (.mv (.const (.int .i64 0)))])
  (.seq (.reg [sm 0 3 (.alloc [.int .u8 0, .int .i64 0, .int .u64 0, .str []])])
  (.seq (.seq (.reg [sm 0 4 (.fa 0 (tm 1)),
  sm 1 5 (.ld1 (tm 4))])
  (.block 0 (.seq (.reg [sm 0 7 (.bin .eql 5 (tm 5) (.const (.int .u8 1))),
  sv 1 6 7])
  (.cond (tm 6) (.reg [sm 0 8 (.fa 1 (tm 1)),
  sm 1 9 (.ld1 (tm 8)),
  sc 2 10 158 [(tm 9)],
  se 3 (.st 4 (tm 3) (tm 10))]) (.seq (.reg [sm 0 12 (.bin .eql 5 (tm 5) (.const (.int .u8 2))),
  sv 1 11 12])
  (.cond (tm 11) (.reg [sm 0 13 (.fa 2 (tm 1)),
  sm 1 14 (.ld1 (tm 13)),
  sc 2 15 159 [(tm 14)],
  se 3 (.st 4 (tm 3) (tm 15))]) (.seq (.reg [sm 0 17 (.bin .eql 5 (tm 5) (.const (.int .u8 3))),
  sv 1 16 17])
  (.cond (tm 16) (.reg [sm 0 19 (.fa 3 (tm 1)),
  sm 1 20 (.ld1 (tm 19)),
  sc 2 21 160 [(tm 20)],
  sv 3 18 21,
  sm 4 22 (.ext (tm 18) 0),
  sm 5 23 (.ext (tm 18) 1),
  se 6 (.st 4 (tm 3) (tm 22))]) .skip))))))))
  (.seq (.seq (.reg [sm 0 24 (.ldA 4 (tm 1)),
  sm 1 25 (.ldA 4 (tm 3)),
  sm 2 26 (.bin .neq 42 (tm 24) (tm 25)),
  sv 3 27 26,
  sg 4 28 27 false (.fa 0 (tm 1)),
  sg 5 29 27 false (.ld1 (tm 28)),
  sg 6 30 27 false (.bin .eql 5 (tm 29) (.const (.int .u8 0))),
  sm 7 31 (.pick (tm 27) (.const (.bool true)) (tm 30))])
  (.cond (tm 31) (.seq (.reg [sm 0 2 (.mv (.const (.int .i64 8)))])
  .ret) .skip))
  (.seq (.reg [sm 0 2 (.mv (.const (.int .i64 0)))])
  .ret)))))
def r105 : List Mo := [.mv (tm 2)]
theorem c105_eq : compF Tryz.prog 105 = some c105 := by kernel_rfl
theorem r105_eq : compRs Tryz.prog 105 = some r105 := by kernel_rfl
/-! F106 bytes.Compare -/
def c106 : Cd := (.seq (.reg [sm 0 4 (.mv (.const (.int .i64 0)))])
  (.seq (.reg [sv 0 5 0,
  sv 1 6 1,
  sm 2 7 (.cmpB 161 (.func 161) (tm 5) (tm 6)),
  sv 3 4 7])
  .ret))
def r106 : List Mo := [.mv (tm 4)]
theorem c106_eq : compF Tryz.prog 106 = some c106 := by kernel_rfl
theorem r106_eq : compRs Tryz.prog 106 = some r106 := by kernel_rfl
/-! F107 braid/braidref01.Cmp -/
def l107_0 : Cd := (.seq (.seq (.reg [sv 0 6 5,
  sm 1 7 (.bin .lss 3 (tm 6) (.const (.int .i64 32)))])
  (.cond (tm 7) .skip (.exit 0)))
  (.seq (.block 1 (.seq (.seq (.reg [sv 0 10 5,
  sm 1 11 (.ia (.arr 32 1) (tm 2) (tm 10)),
  sm 2 12 (.ld1 (tm 11)),
  sv 3 13 5,
  sm 4 14 (.ia (.arr 32 1) (tm 3) (tm 13)),
  sm 5 15 (.ld1 (tm 14)),
  sm 6 16 (.bin .lss 5 (tm 12) (tm 15))])
  (.cond (tm 16) (.seq (.reg [sm 0 4 (.mv (.const (.int .i64 (-1))))])
  .ret) .skip))
  (.seq (.reg [sv 0 17 5,
  sm 1 18 (.ia (.arr 32 1) (tm 2) (tm 17)),
  sm 2 19 (.ld1 (tm 18)),
  sv 3 20 5,
  sm 4 21 (.ia (.arr 32 1) (tm 3) (tm 20)),
  sm 5 22 (.ld1 (tm 21)),
  sm 6 23 (.bin .gtr 5 (tm 19) (tm 22))])
  (.cond (tm 23) (.seq (.reg [sm 0 4 (.mv (.const (.int .i64 1)))])
  .ret) .skip))))
  (.reg [sv 0 8 5,
  sm 1 9 (.bin .add 3 (tm 8) (.const (.int .i64 1))),
  sv 2 5 9])))
def c107 : Cd := (.seq (.reg [sm 0 2 (.box (tm 0)),
  sm 1 3 (.box (tm 1)),
  sm 2 4 (.mv (.const (.int .i64 0)))])
  (.seq (.seq (.reg [sm 0 5 (.mv (.const (.int .i64 0)))])
  (.block 0 (.loop l107_0)))
  (.seq (.reg [sm 0 4 (.mv (.const (.int .i64 0)))])
  .ret)))
def r107 : List Mo := [.mv (tm 4)]
theorem c107_eq : compF Tryz.prog 107 = some c107 := by kernel_rfl
theorem r107_eq : compRs Tryz.prog 107 = some r107 := by kernel_rfl
/-! F108 braid/braidref06.Name -/
def l108_0 : Cd := (.seq (.seq (.reg [sv 0 12 3,
  sv 1 13 0,
  sm 2 14 (.len .str (tm 13)),
  sm 3 15 (.bin .lss 3 (tm 12) (tm 14))])
  (.cond (tm 15) .skip (.exit 0)))
  (.seq (.block 1 (.seq (.reg [sv 0 18 0,
  sv 1 19 3,
  sm 2 20 (.ixT (tm 18) (tm 19)),
  sm 3 21 (.bin .lss 5 (tm 20) (.const (.int .u8 33))),
  sv 4 22 21,
  sg 5 23 22 false (.mv (tm 0)),
  sg 6 24 22 false (.mv (tm 3)),
  sg 7 25 22 false (.ixT (tm 23) (tm 24)),
  sg 8 26 22 false (.bin .gtr 5 (tm 25) (.const (.int .u8 126))),
  sm 9 27 (.pick (tm 22) (.const (.bool true)) (tm 26))])
  (.cond (tm 27) (.seq (.reg [sm 0 2 (.mv (.const (.bool false)))])
  .ret) .skip)))
  (.reg [sv 0 16 3,
  sm 1 17 (.bin .add 3 (tm 16) (.const (.int .i64 1))),
  sv 2 3 17])))
def c108 : Cd := (.seq (.reg [sm 0 2 (.mv (.const (.bool false)))])
  (.seq (.seq (.reg [sv 0 4 0,
  sm 1 5 (.len .str (tm 4)),
  sm 2 6 (.bin .lss 3 (tm 5) (.const (.int .i64 1))),
  sv 3 7 6,
  sg 4 8 7 false (.mv (tm 0)),
  sg 5 9 7 false (.len .str (tm 8)),
  sg 6 10 7 false (.bin .gtr 3 (tm 9) (.const (.int .i64 20))),
  sm 7 11 (.pick (tm 7) (.const (.bool true)) (tm 10))])
  (.cond (tm 11) (.seq (.reg [sm 0 2 (.mv (.const (.bool false)))])
  .ret) .skip))
  (.seq (.seq (.reg [sm 0 3 (.mv (.const (.int .i64 0)))])
  (.block 0 (.loop l108_0)))
  (.seq (.reg [sm 0 2 (.mv (.const (.bool true)))])
  .ret))))
def r108 : List Mo := [.mv (tm 2)]
theorem c108_eq : compF Tryz.prog 108 = some c108 := by kernel_rfl
theorem r108_eq : compRs Tryz.prog 108 = some r108 := by kernel_rfl
/-! F110 braid/braidref05.Check -/
def c110 : Cd := (.seq (.reg [sm 0 1 (.box (tm 0)),
  sm 1 2 (.mv (.const (.int .i64 0)))])
  (.seq (.seq (.reg [sm 0 3 (.fa 0 (tm 1)),
  sm 1 4 (.ld1 (tm 3))])
  (.block 0 (.seq (.reg [sm 0 6 (.bin .eql 5 (tm 4) (.const (.int .u8 1))),
  sv 1 5 6])
  (.cond (tm 5) (.seq (.reg [sm 0 7 (.fa 2 (tm 1)),
  sm 1 8 (.ld1 (tm 7)),
  sm 2 9 (.bin .eql 40 (tm 8) (.const (.int .u64 0))),
  sv 3 10 9,
  sg 4 11 10 true (.fa 3 (tm 1)),
  sg 5 12 10 true (.ld1 (tm 11)),
  sg 6 13 10 true (.bin .eql 9 (tm 12) (.const (.string ⟨#[]⟩))),
  sm 7 14 (.pick (tm 10) (tm 13) (.const (.bool false)))])
  (.cond (tm 14) (.seq (.reg [sm 0 2 (.mv (.const (.int .i64 0)))])
  .ret) .skip)) (.seq (.reg [sm 0 16 (.bin .eql 5 (tm 4) (.const (.int .u8 2))),
  sv 1 15 16])
  (.cond (tm 15) (.seq (.dreg [sm 0 17 (.fa 1 (tm 1)),
  sm 1 18 (.ld1 (tm 17)),
  sm 2 19 (.bin .eql 2 (tm 18) (.const (.int .i64 0))),
  sv 3 20 19,
  sg 4 21 20 true (.fa 3 (tm 1)),
  sg 5 22 20 true (.ld1 (tm 21)),
  sg 6 23 20 true (.bin .eql 9 (tm 22) (.const (.string ⟨#[]⟩))),
  sm 7 24 (.pick (tm 20) (tm 23) (.const (.bool false))),
  sv 8 25 24,
  sg 9 26 25 true (.fa 2 (tm 1)),
  sg 10 27 25 true (.ld1 (tm 26)),
  sg 12 29 25 true (.fa 2 (tm 1)),
  ⟨13, (some 30), (some ((some 25), true)), .mo (.ld1 (tm 29)), [], true⟩,
  ⟨11, (some 28), (some ((some 25), true)), .callF 162 [(tm 27)], [13], false⟩,
  sg 14 31 25 true (.bin .eql 40 (tm 28) (tm 30)),
  sm 15 32 (.pick (tm 25) (tm 31) (.const (.bool false)))])
  (.cond (tm 32) (.seq (.reg [sm 0 2 (.mv (.const (.int .i64 0)))])
  .ret) .skip)) (.seq (.reg [sm 0 34 (.bin .eql 5 (tm 4) (.const (.int .u8 3))),
  sv 1 33 34])
  (.cond (tm 33) (.seq (.reg [sm 0 35 (.fa 1 (tm 1)),
  sm 1 36 (.ld1 (tm 35)),
  sm 2 37 (.bin .eql 2 (tm 36) (.const (.int .i64 0))),
  sv 3 38 37,
  sg 4 39 38 true (.fa 2 (tm 1)),
  sg 5 40 38 true (.ld1 (tm 39)),
  sg 6 41 38 true (.bin .eql 40 (tm 40) (.const (.int .u64 0))),
  sm 7 42 (.pick (tm 38) (tm 41) (.const (.bool false))),
  sv 8 43 42,
  sg 9 44 43 true (.fa 3 (tm 1)),
  sg 10 45 43 true (.ld1 (tm 44)),
  sg 11 46 43 true (.len .str (tm 45)),
  sg 12 47 43 true (.bin .leq 3 (tm 46) (.const (.int .i64 30))),
  sm 13 48 (.pick (tm 43) (tm 47) (.const (.bool false))),
  sv 14 49 48,
  sg 15 50 49 true (.fa 3 (tm 1)),
  sg 16 51 49 true (.ld1 (tm 50)),
  ⟨17, (some 52), (some ((some 49), true)), .callF 163 [(tm 51)], [], false⟩,
  sm 18 53 (.pick (tm 49) (tm 52) (.const (.bool false)))])
  (.cond (tm 53) (.seq (.reg [sm 0 2 (.mv (.const (.int .i64 0)))])
  .ret) .skip)) .skip))))))))
  (.seq (.reg [sm 0 2 (.mv (.const (.int .i64 8)))])
  .ret)))
def r110 : List Mo := [.mv (tm 2)]
theorem c110_eq : compF Tryz.prog 110 = some c110 := by kernel_rfl
theorem r110_eq : compRs Tryz.prog 110 = some r110 := by kernel_rfl
/-! F114 braid/dag.find -/
def c114 : Cd := (.seq (.reg [sm 0 2 (.box (tm 0)),
  sm 1 3 (.box (tm 1)),
  sm 2 4 (.mv (.const (.int .i64 0))),
  sm 3 5 (.mv (.const (.bool false)))])
  (.seq (.reg [sm 0 6 (.fa 0 (tm 2)),
  sm 1 7 (.ld1 (tm 6)),
  sm 2 8 (.ldA 32 (tm 3)),
  sc 3 9 164 [(tm 7), (tm 8), (.func 149)],
  sm 4 10 (.ext (tm 9) 0),
  sm 5 11 (.ext (tm 9) 1),
  sv 6 4 10,
  sv 7 5 11])
  .ret))
def r114 : List Mo := [.mv (tm 4), .mv (tm 5)]
theorem c114_eq : compF Tryz.prog 114 = some c114 := by kernel_rfl
theorem r114_eq : compRs Tryz.prog 114 = some r114 := by kernel_rfl
/-! F115 braid/dag.twin -/
def c115 : Cd := (.seq (.reg [sm 0 1 (.box (tm 0)),
  sm 1 2 (.alloc [.int .u32 0, .nilS, .int .u64 0, .int .u8 0, .str [], .int .u8 0, .int .i64 0, .int .u64 0, .str [], .int .u32 0, .int .u32 0])])
  (.seq (.reg [sm 0 3 (.fa 1 (tm 1)),
  sm 1 4 (.ld1 (tm 3)),
  sc 2 5 165 [(tm 4)],
  sm 3 6 (.fa 1 (tm 1)),
  se 4 (.st 1 (tm 6) (tm 5))])
  (.seq (.reg [sm 0 7 (.ldA 11 (tm 1)),
  se 1 (.st 11 (tm 2) (tm 7))])
  .ret)))
def r115 : List Mo := [.ldA 11 (tm 2)]
theorem c115_eq : compF Tryz.prog 115 = some c115 := by kernel_rfl
theorem r115_eq : compRs Tryz.prog 115 = some r115 := by kernel_rfl
/-! F116 slices.Index[[]braid/api.ID,braid/api.ID] -/
def l116_0 : Cd := (.seq (.reg [sm 0 9 (.bin .lss 3 (tm 8) (tm 7))])
  (.seq (.cond (tm 9) .skip (.exit 0))
  (.seq (.block 1 (.seq (.reg [sv 0 10 8,
  sv 1 5 10])
  (.seq (.reg [sm 0 11 (.ldA 32 (tm 3)),
  sv 1 12 0,
  sv 2 13 5,
  sm 3 14 (.ia (.sl 32) (tm 12) (tm 13)),
  sm 4 15 (.ldA 32 (tm 14)),
  sm 5 16 (.bin .eql 48 (tm 11) (tm 15))])
  (.cond (tm 16) (.seq (.reg [sv 0 17 5,
  sv 1 4 17])
  .ret) .skip))))
  (.reg [sm 0 18 (.bin .add 3 (tm 8) (.const (.int .i64 1))),
  sv 1 8 18]))))
def c116 : Cd := (.seq (.reg [sm 0 3 (.box (tm 1)),
  sm 1 4 (.mv (.const (.int .i64 0)))])
  (.seq (.seq (.reg [sv 0 6 0,
  sm 1 7 (.len (.sl 32) (tm 6)),
  sm 2 8 (.mv (.const (.int .i64 0)))])
  (.block 0 (.loop l116_0)))
  (.seq (.reg [sm 0 4 (.mv (.const (.int .i64 (-1))))])
  .ret)))
def r116 : List Mo := [.mv (tm 4)]
theorem c116_eq : compF Tryz.prog 116 = some c116 := by kernel_rfl
theorem r116_eq : compRs Tryz.prog 116 = some r116 := by kernel_rfl
/-! F117 slices.IndexFunc[[]braid/api.ID,braid/api.ID] -/
def l117_0 : Cd := (.seq (.reg [sm 0 9 (.bin .lss 3 (tm 8) (tm 7))])
  (.seq (.cond (tm 9) .skip (.exit 0))
  (.seq (.block 1 (.seq (.reg [sv 0 10 8,
  sv 1 5 10])
  (.seq (.reg [sv 0 11 1,
  sv 1 12 0,
  sv 2 13 5,
  sm 3 14 (.ia (.sl 32) (tm 12) (tm 13)),
  sm 4 15 (.ldA 32 (tm 14)),
  ⟨5, (some 16), none, .callV (tm 11) [(tm 15)], [], false⟩])
  (.cond (tm 16) (.seq (.reg [sv 0 17 5,
  sv 1 4 17])
  .ret) .skip))))
  (.reg [sm 0 18 (.bin .add 3 (tm 8) (.const (.int .i64 1))),
  sv 1 8 18]))))
def c117 : Cd := (.seq (.reg [sm 0 4 (.mv (.const (.int .i64 0)))])
  (.seq (.seq (.reg [sv 0 6 0,
  sm 1 7 (.len (.sl 32) (tm 6)),
  sm 2 8 (.mv (.const (.int .i64 0)))])
  (.block 0 (.loop l117_0)))
  (.seq (.reg [sm 0 4 (.mv (.const (.int .i64 (-1))))])
  .ret)))
def r117 : List Mo := [.mv (tm 4)]
theorem c117_eq : compF Tryz.prog 117 = some c117 := by kernel_rfl
theorem r117_eq : compRs Tryz.prog 117 = some r117 := by kernel_rfl
/-! F118 braid/braidref03.Check -/
def c118 : Cd := (.seq (.reg [sm 0 2 (.mv (.const (.int .i64 0)))])
  (.seq (.seq (.reg [sv 0 3 0,
  sm 1 4 (.bin .eql 76 (tm 3) (.const (.int .u32 0))),
  sv 2 5 4,
  sg 3 6 5 false (.mv (tm 0)),
  sg 4 7 5 false (.cint .u64 (tm 6)),
  sg 5 8 5 false (.bin .geq 40 (tm 7) (.const (.int .u64 500000003))),
  sm 6 9 (.pick (tm 5) (.const (.bool true)) (tm 8))])
  (.cond (tm 9) (.seq (.reg [sm 0 2 (.mv (.const (.int .i64 2)))])
  .ret) .skip))
  (.seq (.reg [sm 0 2 (.mv (.const (.int .i64 0)))])
  .ret)))
def r118 : List Mo := [.mv (tm 2)]
theorem c118_eq : compF Tryz.prog 118 = some c118 := by kernel_rfl
theorem r118_eq : compRs Tryz.prog 118 = some r118 := by kernel_rfl
/-! F119 braid/braidref06.bare -/
def c119 : Cd := (.seq (.reg [sm 0 1 (.box (tm 0)),
  sm 1 2 (.alloc [.int .u32 0, .nilS, .int .u64 0, .int .u8 0, .str [], .int .u8 0, .int .i64 0, .int .u64 0, .str [], .int .u32 0, .int .u32 0])])
  (.seq (.reg [sm 0 3 (.bld [.int .u32 0, .int .u32 0] []),
  sm 1 4 (.fa 9 (tm 1)),
  se 2 (.st 2 (tm 4) (tm 3))])
  (.seq (.reg [sm 0 5 (.ldA 11 (tm 1)),
  se 1 (.st 11 (tm 2) (tm 5))])
  .ret)))
def r119 : List Mo := [.ldA 11 (tm 2)]
theorem c119_eq : compF Tryz.prog 119 = some c119 := by kernel_rfl
theorem r119_eq : compRs Tryz.prog 119 = some r119 := by kernel_rfl
/-! F120 braid/braidref03.Key -/
def c120 : Cd := (.seq (.reg [sm 0 2 (.mv (.const (.int .u32 0)))])
  (.seq (.reg [sv 0 3 0,
  sm 1 4 (.cint .u64 (tm 3)),
  sc 2 5 166 [(tm 4)],
  sv 3 2 5])
  .ret))
def r120 : List Mo := [.mv (tm 2)]
theorem c120_eq : compF Tryz.prog 120 = some c120 := by kernel_rfl
theorem r120_eq : compRs Tryz.prog 120 = some r120 := by kernel_rfl
/-! F121 braid/braidref03.Signed -/
def c121 : Cd := (.seq (.reg [sm 0 4 (.alloc [.int .u32 0, .int .u32 0])])
  (.seq (.reg [sv 0 7 0,
  sv 1 8 1,
  sc 2 9 167 [(tm 7), (tm 8)],
  sv 3 5 9])
  (.seq (.reg [sv 0 10 5,
  sc 1 11 120 [(tm 10)],
  sv 2 12 0,
  sc 3 13 120 [(tm 12)],
  sv 4 14 1,
  sc 5 15 168 [(tm 11), (tm 13), (tm 14)],
  sv 6 6 15])
  (.seq (.reg [sv 0 16 6,
  sv 1 17 5,
  sv 2 18 6,
  sv 3 19 0,
  sc 4 20 170 [(tm 18), (tm 19)],
  sc 5 21 169 [(tm 17), (tm 20)],
  sm 6 22 (.bld [.int .u32 0, .int .u32 0] [(0, 1, (tm 16)), (1, 1, (tm 21))]),
  se 7 (.st 2 (tm 4) (tm 22))])
  .ret))))
def r121 : List Mo := [.ldA 2 (tm 4)]
theorem c121_eq : compF Tryz.prog 121 = some c121 := by kernel_rfl
theorem r121_eq : compRs Tryz.prog 121 = some r121 := by kernel_rfl
/-! F122 braid/braidref06.text -/
def c122 : Cd := (.seq (.reg [sm 0 1 (.box (tm 0)),
  sm 1 2 (.mv (.const (.slice none 0 0)))])
  (.seq (.reg [sm 0 4 (.bsl 1 [.int .u8 0] 1 [(0, (.const (.int .u8 111)))]),
  sm 1 5 (.fa 0 (tm 1)),
  sm 2 6 (.ld1 (tm 5)),
  sm 3 7 (.cint .u64 (tm 6)),
  sc 4 8 127 [(tm 7)],
  sm 5 9 (.app 1 1 (tm 4) (tm 8)),
  sv 6 3 9])
  (.seq (.dreg [sv 0 10 3,
  sm 1 11 (.fa 1 (tm 1)),
  sm 2 12 (.ld1 (tm 11)),
  sm 5 15 (.fa 2 (tm 1)),
  ⟨6, (some 16), none, .mo (.ld1 (tm 15)), [], true⟩,
  ⟨3, (some 13), none, .callF 171 [(tm 12)], [6], false⟩,
  ⟨4, (some 14), none, .mo (.app 1 1 (tm 10) (tm 13)), [6], false⟩,
  sc 7 17 127 [(tm 16)],
  sm 8 18 (.app 1 1 (tm 14) (tm 17)),
  sv 9 3 18])
  (.seq (.reg [sv 0 19 3,
  sm 1 20 (.fa 3 (tm 1)),
  sm 2 21 (.fa 0 (tm 20)),
  sm 3 22 (.ld1 (tm 21)),
  sm 4 23 (.bsl 1 [.int .u8 0] 1 [(0, (tm 22))]),
  sm 5 24 (.app 1 1 (tm 19) (tm 23)),
  sv 6 3 24])
  (.seq (.seq (.reg [sm 0 25 (.fa 3 (tm 1)),
  sm 1 26 (.fa 0 (tm 25)),
  sm 2 27 (.ld1 (tm 26)),
  sm 3 28 (.bin .neq 5 (tm 27) (.const (.int .u8 1)))])
  (.cond (tm 28) (.reg [sv 0 29 3,
  sm 1 30 (.fa 3 (tm 1)),
  sm 2 31 (.fa 1 (tm 30)),
  sm 3 32 (.ld1 (tm 31)),
  sm 4 33 (.csb (tm 32)),
  sc 5 34 172 [(tm 33)],
  sm 6 35 (.app 1 1 (tm 29) (tm 34)),
  sv 7 3 35]) .skip))
  (.seq (.seq (.reg [sm 0 36 (.fa 3 (tm 1)),
  sm 1 37 (.fa 0 (tm 36)),
  sm 2 38 (.ld1 (tm 37)),
  sm 3 39 (.bin .eql 5 (tm 38) (.const (.int .u8 4)))])
  (.cond (tm 39) (.reg [sv 0 40 3,
  sm 1 41 (.fa 3 (tm 1)),
  sm 2 42 (.fa 2 (tm 41)),
  sm 3 43 (.ldA 4 (tm 42)),
  sc 4 44 173 [(tm 43)],
  sm 5 45 (.app 1 1 (tm 40) (tm 44)),
  sv 6 3 45]) .skip))
  (.seq (.reg [sv 0 46 3,
  sv 1 2 46])
  .ret)))))))
def r122 : List Mo := [.mv (tm 2)]
theorem c122_eq : compF Tryz.prog 122 = some c122 := by kernel_rfl
theorem r122_eq : compRs Tryz.prog 122 = some r122 := by kernel_rfl
/-! F123 braid/braidref01.written -/
def l123_0 : Cd := (.seq (.seq (.reg [sv 0 5 4,
  sm 1 6 (.bin .lss 3 (tm 5) (.const (.int .i64 32)))])
  (.cond (tm 6) .skip (.exit 0)))
  (.seq (.block 1 (.reg [sv 0 9 4,
  sv 1 10 4,
  sm 2 11 (.bin .quo 3 (tm 10) (.const (.int .i64 4))),
  sm 3 12 (.ia (.arr 8 1) (tm 1) (tm 11)),
  sm 4 13 (.ld1 (tm 12)),
  sv 5 14 4,
  sm 6 15 (.bin .rem 3 (tm 14) (.const (.int .i64 4))),
  sm 7 16 (.bin .mul 3 (.const (.int .i64 8)) (tm 15)),
  sm 8 17 (.bin .sub 3 (.const (.int .i64 24)) (tm 16)),
  sm 9 18 (.bin .shr 76 (tm 13) (tm 17)),
  sm 10 19 (.cint .u8 (tm 18)),
  sm 11 20 (.ia (.arr 32 1) (tm 3) (tm 9)),
  se 12 (.st 1 (tm 20) (tm 19))]))
  (.reg [sv 0 7 4,
  sm 1 8 (.bin .add 3 (tm 7) (.const (.int .i64 1))),
  sv 2 4 8])))
def c123 : Cd := (.seq (.reg [sm 0 1 (.box (tm 0)),
  sm 1 2 (.alloc (rep 32 (.int .u8 0)))])
  (.seq (.reg [sm 0 3 (.alloc (rep 32 (.int .u8 0)))])
  (.seq (.seq (.reg [sm 0 4 (.mv (.const (.int .i64 0)))])
  (.block 0 (.loop l123_0)))
  (.seq (.reg [sm 0 21 (.ldA 32 (tm 3)),
  se 1 (.st 32 (tm 2) (tm 21))])
  .ret))))
def r123 : List Mo := [.ldA 32 (tm 2)]
theorem c123_eq : compF Tryz.prog 123 = some c123 := by kernel_rfl
theorem r123_eq : compRs Tryz.prog 123 = some r123 := by kernel_rfl
/-! F124 braid/braidref01.blocks -/
def l124_0 : Cd := (.seq (.seq (.reg [sv 0 6 5,
  sm 1 7 (.bin .add 3 (tm 6) (.const (.int .i64 64))),
  sv 2 8 1,
  sm 3 9 (.len (.sl 1) (tm 8)),
  sm 4 10 (.bin .leq 3 (tm 7) (tm 9))])
  (.cond (tm 10) .skip (.exit 0)))
  (.seq (.block 1 (.reg [sm 0 13 (.ldA 8 (tm 2)),
  sv 1 14 1,
  sv 2 15 5,
  sv 3 16 5,
  sm 4 17 (.bin .add 3 (tm 16) (.const (.int .i64 64))),
  sm 5 18 (.slice (.sl 1) (tm 14) (some (tm 15)) (some (tm 17)) none),
  sc 6 19 174 [(tm 13), (tm 18)],
  se 7 (.st 8 (tm 2) (tm 19))]))
  (.reg [sv 0 11 5,
  sm 1 12 (.bin .add 3 (tm 11) (.const (.int .i64 64))),
  sv 2 5 12])))
def c124 : Cd := (.seq (.reg [sm 0 2 (.box (tm 0)),
  sm 1 4 (.alloc [.int .u32 0, .int .u32 0, .int .u32 0, .int .u32 0, .int .u32 0, .int .u32 0, .int .u32 0, .int .u32 0])])
  (.seq (.seq (.reg [sm 0 5 (.mv (.const (.int .i64 0)))])
  (.block 0 (.loop l124_0)))
  (.seq (.reg [sm 0 20 (.ldA 8 (tm 2)),
  se 1 (.st 8 (tm 4) (tm 20))])
  .ret)))
def r124 : List Mo := [.ldA 8 (tm 4)]
theorem c124_eq : compF Tryz.prog 124 = some c124 := by kernel_rfl
theorem r124_eq : compRs Tryz.prog 124 = some r124 := by kernel_rfl
/-! F125 braid/braidref01.First -/
def c125 : Cd := (.seq (.reg [sm 0 0 (.alloc [.int .u32 0, .int .u32 0, .int .u32 0, .int .u32 0, .int .u32 0, .int .u32 0, .int .u32 0, .int .u32 0])])
  (.seq (.reg [sm 0 1 (.bld [.int .u32 0, .int .u32 0, .int .u32 0, .int .u32 0, .int .u32 0, .int .u32 0, .int .u32 0, .int .u32 0] [(0, 1, (.const (.int .u32 1779033703))), (1, 1, (.const (.int .u32 3144134277))), (2, 1, (.const (.int .u32 1013904242))), (3, 1, (.const (.int .u32 2773480762))), (4, 1, (.const (.int .u32 1359893119))), (5, 1, (.const (.int .u32 2600822924))), (6, 1, (.const (.int .u32 528734635))), (7, 1, (.const (.int .u32 1541459225)))]),
  se 1 (.st 8 (tm 0) (tm 1))])
  .ret))
def r125 : List Mo := [.ldA 8 (tm 0)]
theorem c125_eq : compF Tryz.prog 125 = some c125 := by kernel_rfl
theorem r125_eq : compRs Tryz.prog 125 = some r125 := by kernel_rfl
/-! F126 braid/braidref01.tail -/
def l126_0 : Cd := (.seq (.seq (.reg [sv 0 6 0,
  sv 1 7 3,
  sm 2 8 (.len (.sl 1) (tm 7)),
  sm 3 9 (.bin .add 3 (tm 6) (tm 8)),
  sm 4 10 (.bin .add 3 (tm 9) (.const (.int .i64 8))),
  sm 5 11 (.bin .rem 3 (tm 10) (.const (.int .i64 64))),
  sm 6 12 (.bin .neq 3 (tm 11) (.const (.int .i64 0)))])
  (.cond (tm 12) .skip (.exit 0)))
  (.block 1 (.reg [sv 0 13 3,
  sm 1 14 (.bsl 1 [.int .u8 0] 1 [(0, (.const (.int .u8 0)))]),
  sm 2 15 (.app 1 1 (tm 13) (tm 14)),
  sv 3 3 15])))
def l126_1 : Cd := (.seq (.seq (.reg [sv 0 16 4,
  sm 1 17 (.bin .geq 3 (tm 16) (.const (.int .i64 0)))])
  (.cond (tm 17) .skip (.exit 2)))
  (.seq (.block 3 (.reg [sv 0 20 3,
  sv 1 21 0,
  sm 2 22 (.cint .u64 (tm 21)),
  sm 3 23 (.bin .mul 40 (.const (.int .u64 8)) (tm 22)),
  sv 4 24 4,
  sm 5 25 (.bin .mul 3 (.const (.int .i64 8)) (tm 24)),
  sm 6 26 (.bin .shr 40 (tm 23) (tm 25)),
  sm 7 27 (.cint .u8 (tm 26)),
  sm 8 28 (.bsl 1 [.int .u8 0] 1 [(0, (tm 27))]),
  sm 9 29 (.app 1 1 (tm 20) (tm 28)),
  sv 10 3 29]))
  (.reg [sv 0 18 4,
  sm 1 19 (.bin .sub 3 (tm 18) (.const (.int .i64 1))),
  sv 2 4 19])))
def c126 : Cd := (.seq (.reg [sm 0 2 (.mv (.const (.slice none 0 0)))])
  (.seq (.reg [sm 0 5 (.bsl 1 [.int .u8 0] 1 [(0, (.const (.int .u8 128)))]),
  sv 1 3 5])
  (.seq (.block 0 (.loop l126_0))
  (.seq (.seq (.reg [sm 0 4 (.mv (.const (.int .i64 7)))])
  (.block 2 (.loop l126_1)))
  (.seq (.reg [sv 0 30 3,
  sv 1 2 30])
  .ret)))))
def r126 : List Mo := [.mv (tm 2)]
theorem c126_eq : compF Tryz.prog 126 = some c126 := by kernel_rfl
theorem r126_eq : compRs Tryz.prog 126 = some r126 := by kernel_rfl
/-! F127 braid/braidref04.Number -/
def l127_0 : Cd := (.seq (.seq (.reg [sv 0 11 0,
  sm 1 12 (.bin .gtr 40 (tm 11) (.const (.int .u64 0)))])
  (.cond (tm 12) .skip (.exit 0)))
  (.block 1 (.seq (.reg [sv 0 13 3,
  sv 1 14 0,
  sm 2 15 (.bin .rem 40 (tm 14) (.const (.int .u64 256))),
  sm 3 16 (.cint .u8 (tm 15)),
  sm 4 17 (.bsl 1 [.int .u8 0] 1 [(0, (tm 16))]),
  sm 5 18 (.app 1 1 (tm 13) (tm 17)),
  sv 6 3 18])
  (.reg [sv 0 19 0,
  sm 1 20 (.bin .quo 40 (tm 19) (.const (.int .u64 256))),
  sv 2 0 20]))))
def l127_1 : Cd := (.seq (.seq (.reg [sv 0 29 5,
  sm 1 30 (.bin .geq 3 (tm 29) (.const (.int .i64 0)))])
  (.cond (tm 30) .skip (.exit 2)))
  (.seq (.block 3 (.reg [sv 0 33 4,
  sv 1 34 3,
  sv 2 35 5,
  sm 3 36 (.ia (.sl 1) (tm 34) (tm 35)),
  sm 4 37 (.ld1 (tm 36)),
  sm 5 38 (.bsl 1 [.int .u8 0] 1 [(0, (tm 37))]),
  sm 6 39 (.app 1 1 (tm 33) (tm 38)),
  sv 7 4 39]))
  (.reg [sv 0 31 5,
  sm 1 32 (.bin .sub 3 (tm 31) (.const (.int .i64 1))),
  sv 2 5 32])))
def c127 : Cd := (.seq (.reg [sm 0 2 (.mv (.const (.slice none 0 0)))])
  (.seq (.seq (.reg [sv 0 6 0,
  sm 1 7 (.bin .leq 40 (tm 6) (.const (.int .u64 247)))])
  (.cond (tm 7) (.seq (.reg [sv 0 8 0,
  sm 1 9 (.cint .u8 (tm 8)),
  sm 2 10 (.bsl 1 [.int .u8 0] 1 [(0, (tm 9))]),
  sv 3 2 10])
  .ret) .skip))
  (.seq (.reg [sm 0 3 (.mv (.const (.slice none 0 0)))])
  (.seq (.block 0 (.loop l127_0))
  (.seq (.reg [sv 0 21 3,
  sm 1 22 (.len (.sl 1) (tm 21)),
  sm 2 23 (.bin .add 3 (.const (.int .i64 247)) (tm 22)),
  sm 3 24 (.cint .u8 (tm 23)),
  sm 4 25 (.bsl 1 [.int .u8 0] 1 [(0, (tm 24))]),
  sv 5 4 25])
  (.seq (.seq (.reg [sv 0 26 3,
  sm 1 27 (.len (.sl 1) (tm 26)),
  sm 2 28 (.bin .sub 3 (tm 27) (.const (.int .i64 1))),
  sv 3 5 28])
  (.block 2 (.loop l127_1)))
  (.seq (.reg [sv 0 40 4,
  sv 1 2 40])
  .ret)))))))
def r127 : List Mo := [.mv (tm 2)]
theorem c127_eq : compF Tryz.prog 127 = some c127 := by kernel_rfl
theorem r127_eq : compRs Tryz.prog 127 = some r127 := by kernel_rfl
/-! F128 braid/braidref02.Is -/
def c128 : Cd := (.seq (.reg [sm 0 2 (.mv (.const (.bool false)))])
  (.seq (.reg [sv 0 3 0,
  sm 1 4 (.bin .geq 76 (tm 3) (.const (.int .u32 1))),
  sv 2 5 4,
  sg 3 6 5 true (.mv (tm 0)),
  sg 4 7 5 true (.bin .lss 76 (tm 6) (.const (.int .u32 1000000007))),
  sm 5 8 (.pick (tm 5) (tm 7) (.const (.bool false))),
  sv 6 9 8,
  sg 7 10 9 true (.mv (tm 0)),
  sg 8 11 9 true (.cint .u64 (tm 10)),
  ⟨9, (some 12), (some ((some 9), true)), .callF 175 [(tm 11), (.const (.int .u64 500000003)), (.const (.int .u64 1000000007))], [], false⟩,
  sg 10 13 9 true (.bin .eql 40 (tm 12) (.const (.int .u64 1))),
  sm 11 14 (.pick (tm 9) (tm 13) (.const (.bool false))),
  sv 12 2 14])
  .ret))
def r128 : List Mo := [.mv (tm 2)]
theorem c128_eq : compF Tryz.prog 128 = some c128 := by kernel_rfl
theorem r128_eq : compRs Tryz.prog 128 = some r128 := by kernel_rfl
/-! F129 braid/braidref06.CheckAct -/
def c129 : Cd := (.seq (.reg [sm 0 1 (.box (tm 0)),
  sm 1 2 (.mv (.const (.int .i64 0)))])
  (.seq (.reg [sm 0 4 (.fa 2 (tm 1)),
  sm 1 5 (.ldA 4 (tm 4)),
  sm 2 6 (.bld [.int .u8 0, .int .i64 0, .int .u64 0, .str []] []),
  sm 3 7 (.bin .eql 42 (tm 5) (tm 6)),
  sv 4 3 7])
  (.seq (.seq (.reg [sm 0 8 (.fa 0 (tm 1)),
  sm 1 9 (.ld1 (tm 8))])
  (.block 0 (.seq (.reg [sm 0 11 (.bin .eql 5 (tm 9) (.const (.int .u8 1))),
  sv 1 10 11])
  (.cond (tm 10) (.seq (.reg [sm 0 12 (.fa 1 (tm 1)),
  sm 1 13 (.ld1 (tm 12)),
  sm 2 14 (.bin .eql 9 (tm 13) (.const (.string ⟨#[]⟩))),
  sv 3 15 14,
  sg 4 16 15 true (.mv (tm 3)),
  sm 5 17 (.pick (tm 15) (tm 16) (.const (.bool false)))])
  (.cond (tm 17) (.seq (.reg [sm 0 2 (.mv (.const (.int .i64 0)))])
  .ret) .skip)) (.seq (.seq (.reg [sm 0 19 (.bin .eql 5 (tm 9) (.const (.int .u8 2))),
  sv 1 18 19])
  (.cond (tm 18) .skip (.reg [sm 0 20 (.bin .eql 5 (tm 9) (.const (.int .u8 3))),
  sv 1 18 20])))
  (.cond (tm 18) (.seq (.reg [sm 0 21 (.fa 1 (tm 1)),
  sm 1 22 (.ld1 (tm 21)),
  sc 2 23 108 [(tm 22)],
  sv 3 24 23,
  sg 4 25 24 true (.mv (tm 3)),
  sm 5 26 (.pick (tm 24) (tm 25) (.const (.bool false)))])
  (.cond (tm 26) (.seq (.reg [sm 0 2 (.mv (.const (.int .i64 0)))])
  .ret) .skip)) (.seq (.reg [sm 0 28 (.bin .eql 5 (tm 9) (.const (.int .u8 4))),
  sv 1 27 28])
  (.cond (tm 27) (.seq (.reg [sm 0 29 (.fa 1 (tm 1)),
  sm 1 30 (.ld1 (tm 29)),
  sc 2 31 108 [(tm 30)],
  sv 3 32 31,
  sg 4 33 32 true (.fa 2 (tm 1)),
  sg 5 34 32 true (.ldA 4 (tm 33)),
  ⟨6, (some 35), (some ((some 32), true)), .callF 110 [(tm 34)], [], false⟩,
  sg 7 36 32 true (.bin .eql 3 (tm 35) (.const (.int .i64 0))),
  sm 8 37 (.pick (tm 32) (tm 36) (.const (.bool false)))])
  (.cond (tm 37) (.seq (.reg [sm 0 2 (.mv (.const (.int .i64 0)))])
  .ret) .skip)) .skip))))))))
  (.seq (.reg [sm 0 2 (.mv (.const (.int .i64 8)))])
  .ret))))
def r129 : List Mo := [.mv (tm 2)]
theorem c129_eq : compF Tryz.prog 129 = some c129 := by kernel_rfl
theorem r129_eq : compRs Tryz.prog 129 = some r129 := by kernel_rfl
/-! F130 braid/braidref02.Exponent -/
def c130 : Cd := (.seq (.reg [sm 0 2 (.mv (.const (.bool false)))])
  (.seq (.reg [sv 0 3 0,
  sm 1 4 (.cint .u64 (tm 3)),
  sm 2 5 (.bin .lss 40 (tm 4) (.const (.int .u64 500000003))),
  sv 3 2 5])
  .ret))
def r130 : List Mo := [.mv (tm 2)]
theorem c130_eq : compF Tryz.prog 130 = some c130 := by kernel_rfl
theorem r130_eq : compRs Tryz.prog 130 = some r130 := by kernel_rfl
/-! F131 braid/braidref03.Right -/
def c131 : Cd := (.seq (.reg [sm 0 5 (.box (tm 2)),
  sm 1 6 (.mv (.const (.bool false)))])
  (.seq (.seq (.reg [sm 0 9 (.fa 0 (tm 5)),
  sm 1 10 (.ld1 (tm 9)),
  sc 2 11 130 [(tm 10)],
  sm 3 12 (.un .not (tm 11)),
  sv 4 13 12,
  sg 5 14 13 false (.fa 1 (tm 5)),
  sg 6 15 13 false (.ld1 (tm 14)),
  ⟨7, (some 16), (some ((some 13), false)), .callF 130 [(tm 15)], [], false⟩,
  sg 8 17 13 false (.un .not (tm 16)),
  sm 9 18 (.pick (tm 13) (.const (.bool true)) (tm 17))])
  (.cond (tm 18) (.seq (.reg [sm 0 6 (.mv (.const (.bool false)))])
  .ret) .skip))
  (.seq (.reg [sv 0 20 0,
  sm 1 21 (.fa 0 (tm 5)),
  sm 2 22 (.ld1 (tm 21)),
  sm 3 23 (.cint .u64 (tm 22)),
  sc 4 24 177 [(tm 20), (tm 23)],
  sc 5 25 176 [(tm 24)],
  sv 6 19 25,
  sm 7 26 (.ext (tm 19) 0),
  sm 8 27 (.ext (tm 19) 1),
  sv 9 7 26,
  sv 10 8 27])
  (.seq (.dreg [sm 0 28 (.fa 1 (tm 5)),
  sm 1 29 (.ld1 (tm 28)),
  sv 3 31 7,
  sv 5 33 0,
  sv 6 34 1,
  sm 8 36 (.fa 0 (tm 5)),
  ⟨9, (some 37), none, .mo (.ld1 (tm 36)), [], true⟩,
  ⟨2, (some 30), none, .callF 120 [(tm 29)], [9], false⟩,
  ⟨4, (some 32), none, .callF 178 [(tm 30), (tm 31)], [9], false⟩,
  ⟨7, (some 35), none, .callF 168 [(tm 32), (tm 33), (tm 34)], [9], false⟩,
  sm 10 38 (.bin .eql 76 (tm 35) (tm 37)),
  sv 11 6 38])
  .ret))))
def r131 : List Mo := [.mv (tm 6)]
theorem c131_eq : compF Tryz.prog 131 = some c131 := by kernel_rfl
theorem r131_eq : compRs Tryz.prog 131 = some r131 := by kernel_rfl
/-! F132 braid/ancestry.look -/
def c132 : Cd := (.seq (.reg [sm 0 2 (.box (tm 0)),
  sm 1 3 (.box (tm 1)),
  sm 2 4 (.mv (.const (.int .i64 0))),
  sm 3 5 (.mv (.const (.int .i64 0)))])
  (.seq (.seq (.reg [sm 0 9 (.ldA 2 (tm 2)),
  sc 1 10 52 [(tm 9)],
  sv 2 6 10])
  (.seq (.reg [sv 0 11 6,
  sm 1 12 (.bin .neq 37 (tm 11) (.const (.int .i64 0)))])
  (.cond (tm 12) (.seq (.reg [sv 0 13 6,
  sm 1 4 (.mv (.const (.int .i64 0))),
  sv 2 5 13])
  .ret) .skip)))
  (.seq (.reg [sm 0 15 (.fa 0 (tm 2)),
  sm 1 16 (.ld1 (tm 15)),
  sm 2 17 (.ldA 32 (tm 3)),
  sc 3 18 164 [(tm 16), (tm 17), (.func 149)],
  sv 4 14 18,
  sm 5 19 (.ext (tm 14) 0),
  sm 6 20 (.ext (tm 14) 1),
  sv 7 7 19,
  sv 8 8 20])
  (.seq (.seq (.reg [sv 0 21 8,
  sm 1 22 (.un .not (tm 21))])
  (.cond (tm 22) (.seq (.reg [sm 0 4 (.mv (.const (.int .i64 0))),
  sm 1 5 (.mv (.const (.int .i64 6)))])
  .ret) .skip))
  (.seq (.reg [sv 0 23 7,
  sv 1 4 23,
  sm 2 5 (.mv (.const (.int .i64 0)))])
  .ret)))))
def r132 : List Mo := [.mv (tm 4), .mv (tm 5)]
theorem c132_eq : compF Tryz.prog 132 = some c132 := by kernel_rfl
theorem r132_eq : compRs Tryz.prog 132 = some r132 := by kernel_rfl
/-! F133 braid/ancestry.reach -/
def l133_0 : Cd := (.seq (.reg [sm 0 20 (.bin .lss 3 (tm 19) (tm 18))])
  (.seq (.cond (tm 20) .skip (.exit 0))
  (.seq (.block 1 (.seq (.reg [sm 0 21 (.ia (.sl 32) (tm 17) (tm 19)),
  sm 1 22 (.ldA 32 (tm 21)),
  sm 2 9 (.alloc (rep 32 (.int .u8 0))),
  se 3 (.st 32 (tm 9) (tm 22))])
  (.reg [sm 0 23 (.ld1 (tm 7)),
  sm 1 24 (.ldA 32 (tm 9)),
  ⟨2, (some 25), none, .callV (tm 23) [(tm 24)], [], false⟩])))
  (.reg [sm 0 26 (.bin .add 3 (tm 19) (.const (.int .i64 1))),
  sv 1 19 26]))))
def c133 : Cd := (.seq (.reg [sm 0 2 (.box (tm 0)),
  sm 1 4 (.mv (.const (.slice none 0 0)))])
  (.seq (.reg [sm 0 10 (.ldA 2 (tm 2)),
  sc 1 11 88 [(tm 10)],
  sm 2 5 (.alloc [.nilM]),
  se 3 (.st 1 (tm 5) (tm 11))])
  (.seq (.reg [sm 0 12 (.fa 0 (tm 2)),
  sm 1 13 (.ld1 (tm 12)),
  sm 2 14 (.len (.sl 32) (tm 13)),
  sm 3 15 (.mks 1 1 [.bool false] (tm 14) (tm 14)),
  sm 4 6 (.alloc [.nilS]),
  se 5 (.st 1 (tm 6) (tm 15))])
  (.seq (.reg [sm 0 7 (.alloc [.nilF])])
  (.seq (.reg [sm 0 16 (.mkF 179 [] [(tm 5), (tm 6), (tm 2), (tm 7)]),
  se 1 (.st 1 (tm 7) (tm 16))])
  (.seq (.seq (.reg [sv 0 17 1,
  sm 1 18 (.len (.sl 32) (tm 17)),
  sm 2 19 (.mv (.const (.int .i64 0)))])
  (.block 0 (.loop l133_0)))
  (.seq (.reg [sm 0 27 (.ld1 (tm 6)),
  sv 1 4 27])
  .ret)))))))
def r133 : List Mo := [.mv (tm 4)]
theorem c133_eq : compF Tryz.prog 133 = some c133 := by kernel_rfl
theorem r133_eq : compRs Tryz.prog 133 = some r133 := by kernel_rfl
/-! F134 slices.pdqsortCmpFunc[braid/api.Tag] -/
def l134_0 : Cd := (.block 1 (.seq (.reg [sv 0 21 2,
  sv 1 22 1,
  sm 2 23 (.bin .sub 3 (tm 21) (tm 22)),
  sv 3 12 23])
  (.seq (.seq (.reg [sv 0 24 12,
  sm 1 25 (.bin .leq 3 (tm 24) (.const (.int .i64 12)))])
  (.cond (tm 25) (.seq (.reg [sv 0 26 0,
  sv 1 27 1,
  sv 2 28 2,
  sv 3 29 4,
  sc 4 30 180 [(tm 26), (tm 27), (tm 28), (tm 29)]])
  .ret) .skip))
  (.seq (.seq (.reg [sv 0 31 3,
  sm 1 32 (.bin .eql 3 (tm 31) (.const (.int .i64 0)))])
  (.cond (tm 32) (.seq (.reg [sv 0 33 0,
  sv 1 34 1,
  sv 2 35 2,
  sv 3 36 4,
  sc 4 37 181 [(tm 33), (tm 34), (tm 35), (tm 36)]])
  .ret) .skip))
  (.seq (.seq (.reg [sv 0 38 10,
  sm 1 39 (.un .not (tm 38))])
  (.cond (tm 39) (.seq (.reg [sv 0 40 0,
  sv 1 41 1,
  sv 2 42 2,
  sv 3 43 4,
  sc 4 44 182 [(tm 40), (tm 41), (tm 42), (tm 43)]])
  (.reg [sv 0 45 3,
  sm 1 46 (.bin .sub 3 (tm 45) (.const (.int .i64 1))),
  sv 2 3 46])) .skip))
  (.seq (.reg [sv 0 48 0,
  sv 1 49 1,
  sv 2 50 2,
  sv 3 51 4,
  sc 4 52 183 [(tm 48), (tm 49), (tm 50), (tm 51)],
  sv 5 47 52,
  sm 6 53 (.ext (tm 47) 0),
  sm 7 54 (.ext (tm 47) 1),
  sv 8 13 53,
  sv 9 14 54])
  (.seq (.seq (.reg [sv 0 55 14,
  sm 1 56 (.bin .eql 233 (tm 55) (.const (.int .i64 2)))])
  (.cond (tm 56) (.seq (.reg [sv 0 57 0,
  sv 1 58 1,
  sv 2 59 2,
  sv 3 60 4,
  sc 4 61 184 [(tm 57), (tm 58), (tm 59), (tm 60)]])
  (.seq (.reg [sv 0 62 2,
  sm 1 63 (.bin .sub 3 (tm 62) (.const (.int .i64 1))),
  sv 2 64 13,
  sv 3 65 1,
  sm 4 66 (.bin .sub 3 (tm 64) (tm 65)),
  sm 5 67 (.bin .sub 3 (tm 63) (tm 66)),
  sv 6 13 67])
  (.reg [sm 0 14 (.mv (.const (.int .i64 1)))]))) .skip))
  (.seq (.seq (.reg [sv 0 68 10,
  sv 1 69 68,
  sg 2 70 69 true (.mv (tm 11)),
  sm 3 71 (.pick (tm 69) (tm 70) (.const (.bool false))),
  sv 4 72 71,
  sg 5 73 72 true (.mv (tm 14)),
  sg 6 74 72 true (.bin .eql 233 (tm 73) (.const (.int .i64 1))),
  sm 7 75 (.pick (tm 72) (tm 74) (.const (.bool false)))])
  (.cond (tm 75) (.seq (.reg [sv 0 76 0,
  sv 1 77 1,
  sv 2 78 2,
  sv 3 79 4,
  sc 4 80 185 [(tm 76), (tm 77), (tm 78), (tm 79)]])
  (.cond (tm 80) .ret .skip)) .skip))
  (.seq (.seq (.reg [sv 0 81 1,
  sm 1 82 (.bin .gtr 3 (tm 81) (.const (.int .i64 0))),
  sv 2 83 82,
  sg 3 84 83 true (.mv (tm 4)),
  sg 4 85 83 true (.mv (tm 0)),
  sg 5 86 83 true (.mv (tm 1)),
  sg 6 87 83 true (.bin .sub 3 (tm 86) (.const (.int .i64 1))),
  sg 7 88 83 true (.ia (.sl 33) (tm 85) (tm 87)),
  sg 8 89 83 true (.ldA 33 (tm 88)),
  sg 9 90 83 true (.mv (tm 0)),
  sg 10 91 83 true (.mv (tm 13)),
  sg 11 92 83 true (.ia (.sl 33) (tm 90) (tm 91)),
  sg 12 93 83 true (.ldA 33 (tm 92)),
  ⟨13, (some 94), (some ((some 83), true)), .callV (tm 84) [(tm 89), (tm 93)], [], false⟩,
  sg 14 95 83 true (.bin .lss 3 (tm 94) (.const (.int .i64 0))),
  sg 15 96 83 true (.un .not (tm 95)),
  sm 16 97 (.pick (tm 83) (tm 96) (.const (.bool false)))])
  (.cond (tm 97) (.seq (.reg [sv 0 98 0,
  sv 1 99 1,
  sv 2 100 2,
  sv 3 101 13,
  sv 4 102 4,
  sc 5 103 186 [(tm 98), (tm 99), (tm 100), (tm 101), (tm 102)],
  sv 6 15 103])
  (.seq (.reg [sv 0 104 15,
  sv 1 1 104])
  (.exit 1))) .skip))
  (.seq (.reg [sv 0 106 0,
  sv 1 107 1,
  sv 2 108 2,
  sv 3 109 13,
  sv 4 110 4,
  sc 5 111 187 [(tm 106), (tm 107), (tm 108), (tm 109), (tm 110)],
  sv 6 105 111,
  sm 7 112 (.ext (tm 105) 0),
  sm 8 113 (.ext (tm 105) 1),
  sv 9 16 112,
  sv 10 17 113])
  (.seq (.reg [sv 0 114 17,
  sv 1 11 114])
  (.seq (.reg [sv 0 115 16,
  sv 1 116 1,
  sm 2 117 (.bin .sub 3 (tm 115) (tm 116)),
  sv 3 118 2,
  sv 4 119 16,
  sm 5 120 (.bin .sub 3 (tm 118) (tm 119)),
  sv 6 18 117,
  sv 7 19 120])
  (.seq (.reg [sv 0 121 12,
  sm 1 122 (.bin .quo 3 (tm 121) (.const (.int .i64 8))),
  sv 2 20 122])
  (.seq (.reg [sv 0 123 18,
  sv 1 124 19,
  sm 2 125 (.bin .lss 3 (tm 123) (tm 124))])
  (.cond (tm 125) (.seq (.reg [sv 0 126 18,
  sv 1 127 20,
  sm 2 128 (.bin .geq 3 (tm 126) (tm 127)),
  sv 3 10 128])
  (.seq (.reg [sv 0 129 0,
  sv 1 130 1,
  sv 2 131 16,
  sv 3 132 3,
  sv 4 133 4,
  sc 5 134 134 [(tm 129), (tm 130), (tm 131), (tm 132), (tm 133)]])
  (.reg [sv 0 135 16,
  sm 1 136 (.bin .add 3 (tm 135) (.const (.int .i64 1))),
  sv 2 1 136]))) (.seq (.reg [sv 0 137 19,
  sv 1 138 20,
  sm 2 139 (.bin .geq 3 (tm 137) (tm 138)),
  sv 3 10 139])
  (.seq (.reg [sv 0 140 0,
  sv 1 141 16,
  sm 2 142 (.bin .add 3 (tm 141) (.const (.int .i64 1))),
  sv 3 143 2,
  sv 4 144 3,
  sv 5 145 4,
  sc 6 146 134 [(tm 140), (tm 142), (tm 143), (tm 144), (tm 145)]])
  (.reg [sv 0 147 16,
  sv 1 2 147]))))))))))))))))))
def c134 : Cd := (.seq (.reg [sm 0 10 (.mv (.const (.bool true)))])
  (.seq (.reg [sm 0 11 (.mv (.const (.bool true)))])
  (.block 0 (.loop l134_0))))
def r134 : List Mo := []
theorem c134_eq : compF Tryz.prog 134 = some c134 := by kernel_rfl
theorem r134_eq : compRs Tryz.prog 134 = some r134 := by kernel_rfl
/-! F135 math/bits.Len -/
def c135 : Cd := (.seq (.reg [sm 0 2 (.mv (.const (.int .i64 0)))])
  (.seq (.cond (.const (.bool false)) (.seq (.reg [sv 0 3 0,
  sm 1 4 (.cint .u32 (tm 3)),
  sc 2 5 188 [(tm 4)],
  sv 3 2 5])
  .ret) .skip)
  (.seq (.reg [sv 0 6 0,
  sc 1 7 189 [(tm 6)],
  sv 2 2 7])
  .ret)))
def r135 : List Mo := [.mv (tm 2)]
theorem c135_eq : compF Tryz.prog 135 = some c135 := by kernel_rfl
theorem r135_eq : compRs Tryz.prog 135 = some r135 := by kernel_rfl
/-! F136 cmp.Or[int] -/
def l136_0 : Cd := (.seq (.reg [sm 0 9 (.bin .lss 3 (tm 8) (tm 7))])
  (.seq (.cond (tm 9) .skip (.exit 0))
  (.seq (.block 1 (.seq (.reg [sm 0 10 (.ia (.sl 1) (tm 6) (tm 8)),
  sm 1 11 (.ld1 (tm 10)),
  sv 2 5 11])
  (.seq (.reg [sv 0 12 5,
  sv 1 13 3,
  sm 2 14 (.bin .neq 3 (tm 12) (tm 13))])
  (.cond (tm 14) (.seq (.reg [sv 0 15 5,
  sv 1 2 15])
  .ret) .skip))))
  (.reg [sm 0 16 (.bin .add 3 (tm 8) (.const (.int .i64 1))),
  sv 1 8 16]))))
def c136 : Cd := (.seq (.reg [sm 0 2 (.mv (.const (.int .i64 0)))])
  (.seq (.reg [sm 0 3 (.mv (.const (.int .i64 0)))])
  (.seq (.seq (.reg [sv 0 6 0,
  sm 1 7 (.len (.sl 1) (tm 6)),
  sm 2 8 (.mv (.const (.int .i64 0)))])
  (.block 0 (.loop l136_0)))
  (.seq (.reg [sv 0 17 3,
  sv 1 2 17])
  .ret))))
def r136 : List Mo := [.mv (tm 2)]
theorem c136_eq : compF Tryz.prog 136 = some c136 := by kernel_rfl
theorem r136_eq : compRs Tryz.prog 136 = some r136 := by kernel_rfl
/-! F137 cmp.Compare[string] -/
def c137 : Cd := (.seq (.reg [sm 0 4 (.mv (.const (.int .i64 0)))])
  (.seq (.reg [sv 0 7 0,
  sc 1 8 190 [(tm 7)],
  sv 2 5 8])
  (.seq (.reg [sv 0 9 1,
  sc 1 10 190 [(tm 9)],
  sv 2 6 10])
  (.seq (.seq (.reg [sv 0 11 5])
  (.cond (tm 11) (.seq (.seq (.reg [sv 0 12 6])
  (.cond (tm 12) (.seq (.reg [sm 0 4 (.mv (.const (.int .i64 0)))])
  .ret) .skip))
  (.seq (.reg [sm 0 4 (.mv (.const (.int .i64 (-1))))])
  .ret)) .skip))
  (.seq (.seq (.reg [sv 0 13 6])
  (.cond (tm 13) (.seq (.reg [sm 0 4 (.mv (.const (.int .i64 1)))])
  .ret) .skip))
  (.seq (.seq (.reg [sv 0 14 0,
  sv 1 15 1,
  sm 2 16 (.bin .lss 9 (tm 14) (tm 15))])
  (.cond (tm 16) (.seq (.reg [sm 0 4 (.mv (.const (.int .i64 (-1))))])
  .ret) .skip))
  (.seq (.seq (.reg [sv 0 17 0,
  sv 1 18 1,
  sm 2 19 (.bin .gtr 9 (tm 17) (tm 18))])
  (.cond (tm 19) (.seq (.reg [sm 0 4 (.mv (.const (.int .i64 1)))])
  .ret) .skip))
  (.seq (.reg [sm 0 4 (.mv (.const (.int .i64 0)))])
  .ret))))))))
def r137 : List Mo := [.mv (tm 4)]
theorem c137_eq : compF Tryz.prog 137 = some c137 := by kernel_rfl
theorem r137_eq : compRs Tryz.prog 137 = some r137 := by kernel_rfl
/-! F140 slices.Compact[[]string,string] -/
def l140_0 : Cd := (.seq (.seq (.reg [sv 0 29 5,
  sv 1 30 4,
  sm 2 31 (.len (.sl 1) (tm 30)),
  sm 3 32 (.bin .lss 3 (tm 29) (tm 31))])
  (.cond (tm 32) .skip (.exit 2)))
  (.seq (.block 3 (.seq (.reg [sv 0 35 4,
  sv 1 36 5,
  sm 2 37 (.ia (.sl 1) (tm 35) (tm 36)),
  sm 3 38 (.ld1 (tm 37)),
  sv 4 39 4,
  sv 5 40 5,
  sm 6 41 (.bin .sub 3 (tm 40) (.const (.int .i64 1))),
  sm 7 42 (.ia (.sl 1) (tm 39) (tm 41)),
  sm 8 43 (.ld1 (tm 42)),
  sm 9 44 (.bin .neq 9 (tm 38) (tm 43))])
  (.cond (tm 44) (.seq (.reg [sv 0 45 0,
  sv 1 46 3,
  sv 2 47 4,
  sv 3 48 5,
  sm 4 49 (.ia (.sl 1) (tm 47) (tm 48)),
  sm 5 50 (.ld1 (tm 49)),
  sm 6 51 (.ia (.sl 1) (tm 45) (tm 46)),
  se 7 (.st 1 (tm 51) (tm 50))])
  (.reg [sv 0 52 3,
  sm 1 53 (.bin .add 3 (tm 52) (.const (.int .i64 1))),
  sv 2 3 53])) .skip)))
  (.reg [sv 0 33 5,
  sm 1 34 (.bin .add 3 (tm 33) (.const (.int .i64 1))),
  sv 2 5 34])))
def l140_1 : Cd := (.seq (.seq (.reg [sv 0 10 3,
  sv 1 11 0,
  sm 2 12 (.len (.sl 1) (tm 11)),
  sm 3 13 (.bin .lss 3 (tm 10) (tm 12))])
  (.cond (tm 13) .skip (.exit 0)))
  (.seq (.block 1 (.seq (.reg [sv 0 16 0,
  sv 1 17 3,
  sm 2 18 (.ia (.sl 1) (tm 16) (tm 17)),
  sm 3 19 (.ld1 (tm 18)),
  sv 4 20 0,
  sv 5 21 3,
  sm 6 22 (.bin .sub 3 (tm 21) (.const (.int .i64 1))),
  sm 7 23 (.ia (.sl 1) (tm 20) (tm 22)),
  sm 8 24 (.ld1 (tm 23)),
  sm 9 25 (.bin .eql 9 (tm 19) (tm 24))])
  (.cond (tm 25) (.seq (.reg [sv 0 26 0,
  sv 1 27 3,
  sm 2 28 (.slice (.sl 1) (tm 26) (some (tm 27)) none none),
  sv 3 4 28])
  (.seq (.seq (.reg [sm 0 5 (.mv (.const (.int .i64 1)))])
  (.block 2 (.loop l140_0)))
  (.seq (.reg [sv 0 54 0,
  sv 1 55 3,
  sm 2 56 (.slice (.sl 1) (tm 54) (some (tm 55)) none none),
  se 3 (.clr [.str []] (tm 56))])
  (.seq (.reg [sv 0 57 0,
  sv 1 58 3,
  sm 2 59 (.slice (.sl 1) (tm 57) none (some (tm 58)) none),
  sv 3 2 59])
  .ret)))) .skip)))
  (.reg [sv 0 14 3,
  sm 1 15 (.bin .add 3 (tm 14) (.const (.int .i64 1))),
  sv 2 3 15])))
def c140 : Cd := (.seq (.reg [sm 0 2 (.mv (.const (.slice none 0 0)))])
  (.seq (.seq (.reg [sv 0 6 0,
  sm 1 7 (.len (.sl 1) (tm 6)),
  sm 2 8 (.bin .lss 3 (tm 7) (.const (.int .i64 2)))])
  (.cond (tm 8) (.seq (.reg [sv 0 9 0,
  sv 1 2 9])
  .ret) .skip))
  (.seq (.seq (.reg [sm 0 3 (.mv (.const (.int .i64 1)))])
  (.block 0 (.loop l140_1)))
  (.seq (.reg [sv 0 60 0,
  sv 1 2 60])
  .ret))))
def r140 : List Mo := [.mv (tm 2)]
theorem c140_eq : compF Tryz.prog 140 = some c140 := by kernel_rfl
theorem r140_eq : compRs Tryz.prog 140 = some r140 := by kernel_rfl
/-! F141 slices.Index[[]string,string] -/
def l141_0 : Cd := (.seq (.reg [sm 0 9 (.bin .lss 3 (tm 8) (tm 7))])
  (.seq (.cond (tm 9) .skip (.exit 0))
  (.seq (.block 1 (.seq (.reg [sv 0 10 8,
  sv 1 5 10])
  (.seq (.reg [sv 0 11 1,
  sv 1 12 0,
  sv 2 13 5,
  sm 3 14 (.ia (.sl 1) (tm 12) (tm 13)),
  sm 4 15 (.ld1 (tm 14)),
  sm 5 16 (.bin .eql 9 (tm 11) (tm 15))])
  (.cond (tm 16) (.seq (.reg [sv 0 17 5,
  sv 1 4 17])
  .ret) .skip))))
  (.reg [sm 0 18 (.bin .add 3 (tm 8) (.const (.int .i64 1))),
  sv 1 8 18]))))
def c141 : Cd := (.seq (.reg [sm 0 4 (.mv (.const (.int .i64 0)))])
  (.seq (.seq (.reg [sv 0 6 0,
  sm 1 7 (.len (.sl 1) (tm 6)),
  sm 2 8 (.mv (.const (.int .i64 0)))])
  (.block 0 (.loop l141_0)))
  (.seq (.reg [sm 0 4 (.mv (.const (.int .i64 (-1))))])
  .ret)))
def r141 : List Mo := [.mv (tm 4)]
theorem c141_eq : compF Tryz.prog 141 = some c141 := by kernel_rfl
theorem r141_eq : compRs Tryz.prog 141 = some r141 := by kernel_rfl
/-! F142 slices.BinarySearchFunc[[]braid/api.Reg,braid/api.Reg,string] -/
def l142_0 : Cd := (.seq (.seq (.reg [sv 0 15 9,
  sv 1 16 10,
  sm 2 17 (.bin .lss 3 (tm 15) (tm 16))])
  (.cond (tm 17) .skip (.exit 0)))
  (.block 1 (.seq (.reg [sv 0 18 9,
  sv 1 19 10,
  sm 2 20 (.bin .add 3 (tm 18) (tm 19)),
  sm 3 21 (.cint .u64 (tm 20)),
  sm 4 22 (.bin .shr 194 (tm 21) (.const (.int .u64 1))),
  sm 5 23 (.cint .i64 (tm 22)),
  sv 6 11 23])
  (.seq (.reg [sv 0 24 2,
  sv 1 25 0,
  sv 2 26 11,
  sm 3 27 (.ia (.sl 38) (tm 25) (tm 26)),
  sm 4 28 (.ldA 38 (tm 27)),
  sv 5 29 1,
  ⟨6, (some 30), none, .callV (tm 24) [(tm 28), (tm 29)], [], false⟩,
  sm 7 31 (.bin .lss 3 (tm 30) (.const (.int .i64 0)))])
  (.cond (tm 31) (.reg [sv 0 32 11,
  sm 1 33 (.bin .add 3 (tm 32) (.const (.int .i64 1))),
  sv 2 9 33]) (.reg [sv 0 34 11,
  sv 1 10 34]))))))
def c142 : Cd := (.seq (.reg [sm 0 6 (.mv (.const (.int .i64 0))),
  sm 1 7 (.mv (.const (.bool false)))])
  (.seq (.reg [sv 0 12 0,
  sm 1 13 (.len (.sl 38) (tm 12)),
  sv 2 8 13])
  (.seq (.reg [sv 0 14 8,
  sm 1 9 (.mv (.const (.int .i64 0))),
  sv 2 10 14])
  (.seq (.block 0 (.loop l142_0))
  (.seq (.reg [sv 0 35 9,
  sv 1 36 9,
  sv 2 37 8,
  sm 3 38 (.bin .lss 3 (tm 36) (tm 37)),
  sv 4 39 38,
  sg 5 40 39 true (.mv (tm 2)),
  sg 6 41 39 true (.mv (tm 0)),
  sg 7 42 39 true (.mv (tm 9)),
  sg 8 43 39 true (.ia (.sl 38) (tm 41) (tm 42)),
  sg 9 44 39 true (.ldA 38 (tm 43)),
  sg 10 45 39 true (.mv (tm 1)),
  ⟨11, (some 46), (some ((some 39), true)), .callV (tm 40) [(tm 44), (tm 45)], [], false⟩,
  sg 12 47 39 true (.bin .eql 3 (tm 46) (.const (.int .i64 0))),
  sm 13 48 (.pick (tm 39) (tm 47) (.const (.bool false))),
  sv 14 6 35,
  sv 15 7 48])
  .ret)))))
def r142 : List Mo := [.mv (tm 6), .mv (tm 7)]
theorem c142_eq : compF Tryz.prog 142 = some c142 := by kernel_rfl
theorem r142_eq : compRs Tryz.prog 142 = some r142 := by kernel_rfl
/-! F143 braid/lww.find[braid/api.Reg]$1 -/
def c143 : Cd := (.seq (.reg [sm 0 3 (.box (tm 0)),
  sm 1 5 (.mv (.const (.int .i64 0)))])
  (.seq (.reg [sm 0 6 (.ld1 (tm 2)),
  sm 1 7 (.ldA 38 (tm 3)),
  ⟨2, (some 8), none, .callV (tm 6) [(tm 7)], [], false⟩,
  sv 3 9 1,
  sc 4 10 137 [(tm 8), (tm 9)],
  sv 5 5 10])
  .ret))
def r143 : List Mo := [.mv (tm 5)]
theorem c143_eq : compF Tryz.prog 143 = some c143 := by kernel_rfl
theorem r143_eq : compRs Tryz.prog 143 = some r143 := by kernel_rfl
/-! F144 braid/op.Encode -/
def c144 : Cd := (.seq (.reg [sm 0 1 (.box (tm 0)),
  sm 1 2 (.mv (.const (.slice none 0 0))),
  sm 2 3 (.mv (.const (.int .i64 0)))])
  (.seq (.seq (.reg [sm 0 7 (.ldA 11 (tm 1)),
  sc 1 8 146 [(tm 7)],
  sv 2 4 8])
  (.seq (.reg [sv 0 9 4,
  sm 1 10 (.bin .neq 37 (tm 9) (.const (.int .i64 0)))])
  (.cond (tm 10) (.seq (.reg [sv 0 11 4,
  sm 1 2 (.mv (.const (.slice none 0 0))),
  sv 2 3 11])
  .ret) .skip)))
  (.seq (.reg [sm 0 13 (.ldA 11 (tm 1)),
  sc 1 14 147 [(tm 13)],
  sv 2 12 14,
  sm 3 15 (.ext (tm 12) 0),
  sm 4 16 (.ext (tm 12) 1),
  sv 5 5 15,
  sv 6 6 16])
  (.seq (.dreg [sv 0 17 5,
  sm 1 18 (.fa 9 (tm 1)),
  sm 2 19 (.fa 0 (tm 18)),
  sm 3 20 (.ld1 (tm 19)),
  sm 4 21 (.cint .u64 (tm 20)),
  sm 6 23 (.fa 9 (tm 1)),
  sm 7 24 (.fa 1 (tm 23)),
  ⟨8, (some 25), none, .mo (.ld1 (tm 24)), [], true⟩,
  ⟨9, (some 26), none, .mo (.cint .u64 (tm 25)), [], true⟩,
  ⟨5, (some 22), none, .callF 195 [(tm 21)], [9, 8], false⟩,
  sc 10 27 195 [(tm 26)],
  sm 11 28 (.bsl 1 [.nilS] 3 [(0, (tm 17)), (1, (tm 22)), (2, (tm 27))]),
  sc 12 29 194 [(tm 28)],
  sv 13 2 29,
  sm 14 3 (.mv (.const (.int .i64 0)))])
  .ret))))
def r144 : List Mo := [.mv (tm 2), .mv (tm 3)]
theorem c144_eq : compF Tryz.prog 144 = some c144 := by kernel_rfl
theorem r144_eq : compRs Tryz.prog 144 = some r144 := by kernel_rfl
/-! F145 braid/digest.Sum -/
def c145 : Cd := (.seq (.reg [sm 0 2 (.alloc (rep 32 (.int .u8 0))),
  sm 1 3 (.mv (.const (.int .i64 0)))])
  (.seq (.reg [sv 0 4 0,
  sm 1 5 (.bsl 1 [.nilS] 1 [(0, (tm 4))]),
  sc 2 6 196 [(tm 5)],
  sm 3 7 (.ext (tm 6) 0),
  sm 4 8 (.ext (tm 6) 1),
  se 5 (.st 32 (tm 2) (tm 7)),
  sv 6 3 8])
  .ret))
def r145 : List Mo := [.ldA 32 (tm 2), .mv (tm 3)]
theorem c145_eq : compF Tryz.prog 145 = some c145 := by kernel_rfl
theorem r145_eq : compRs Tryz.prog 145 = some r145 := by kernel_rfl
/-! F146 braid/op.Check -/
def c146 : Cd := (.seq (.reg [sm 0 1 (.box (tm 0)),
  sm 1 2 (.mv (.const (.int .i64 0)))])
  (.seq (.block 0 (.seq (.reg [sm 0 4 (.fa 1 (tm 1)),
  sm 1 5 (.ld1 (tm 4)),
  sm 2 6 (.len (.sl 32) (tm 5)),
  sm 3 7 (.bin .gtr 3 (tm 6) (.const (.int .i64 4))),
  sv 4 3 7])
  (.cond (tm 3) (.seq (.reg [sm 0 2 (.mv (.const (.int .i64 4)))])
  .ret) (.seq (.dreg [sm 0 9 (.fa 1 (tm 1)),
  sm 1 10 (.ld1 (tm 9)),
  sc 2 11 197 [(tm 10), (.func 149)],
  sm 3 12 (.un .not (tm 11)),
  sv 4 13 12,
  sg 5 14 13 false (.fa 1 (tm 1)),
  sg 6 15 13 false (.ld1 (tm 14)),
  sg 10 19 13 false (.fa 1 (tm 1)),
  ⟨11, (some 20), (some ((some 13), false)), .mo (.ld1 (tm 19)), [], true⟩,
  sg 12 21 13 false (.len (.sl 32) (tm 20)),
  ⟨7, (some 16), (some ((some 13), false)), .callF 165 [(tm 15)], [11], false⟩,
  ⟨8, (some 17), (some ((some 13), false)), .callF 198 [(tm 16)], [11], false⟩,
  sg 9 18 13 false (.len (.sl 32) (tm 17)),
  sg 13 22 13 false (.bin .neq 3 (tm 18) (tm 21)),
  sm 14 23 (.pick (tm 13) (.const (.bool true)) (tm 22)),
  sv 15 8 23])
  (.cond (tm 8) (.seq (.reg [sm 0 2 (.mv (.const (.int .i64 32)))])
  .ret) (.seq (.reg [sm 0 25 (.fa 0 (tm 1)),
  sm 1 26 (.ld1 (tm 25)),
  sc 2 27 199 [(tm 26)],
  sm 3 28 (.un .not (tm 27)),
  sv 4 29 28,
  sg 5 30 29 false (.fa 2 (tm 1)),
  sg 6 31 29 false (.ld1 (tm 30)),
  sg 7 32 29 false (.bin .gtr 40 (tm 31) (.const (.int .u64 1000000000000))),
  sm 8 33 (.pick (tm 29) (.const (.bool true)) (tm 32)),
  sv 9 34 33,
  sg 10 35 34 false (.fa 9 (tm 1)),
  sg 11 36 34 false (.fa 0 (tm 35)),
  sg 12 37 34 false (.ld1 (tm 36)),
  sg 13 38 34 false (.fa 9 (tm 1)),
  sg 14 39 34 false (.fa 1 (tm 38)),
  sg 15 40 34 false (.ld1 (tm 39)),
  sg 16 41 34 false (.max (tm 37) (tm 40)),
  sg 17 42 34 false (.bin .geq 76 (tm 41) (.const (.int .u32 500000003))),
  sm 18 43 (.pick (tm 34) (.const (.bool true)) (tm 42)),
  sv 19 24 43])
  (.cond (tm 24) (.seq (.reg [sm 0 2 (.mv (.const (.int .i64 8)))])
  .ret) .skip)))))))
  (.seq (.reg [sm 0 44 (.fa 3 (tm 1)),
  sm 1 45 (.ldA 6 (tm 44)),
  sc 2 46 104 [(tm 45)],
  sv 3 2 46])
  .ret)))
def r146 : List Mo := [.mv (tm 2)]
theorem c146_eq : compF Tryz.prog 146 = some c146 := by kernel_rfl
theorem r146_eq : compRs Tryz.prog 146 = some r146 := by kernel_rfl
/-! F147 braid/op.Message -/
def c147 : Cd := (.seq (.reg [sm 0 1 (.box (tm 0)),
  sm 1 2 (.mv (.const (.slice none 0 0))),
  sm 2 3 (.mv (.const (.int .i64 0)))])
  (.seq (.reg [sm 0 12 (.bld [.int .u32 0, .int .u32 0] []),
  sm 1 13 (.fa 9 (tm 1)),
  se 2 (.st 2 (tm 13) (tm 12))])
  (.seq (.seq (.reg [sm 0 14 (.ldA 11 (tm 1)),
  sc 1 15 146 [(tm 14)],
  sv 2 4 15])
  (.seq (.reg [sv 0 16 4,
  sm 1 17 (.bin .neq 37 (tm 16) (.const (.int .i64 0)))])
  (.cond (tm 17) (.seq (.reg [sv 0 18 4,
  sm 1 2 (.mv (.const (.slice none 0 0))),
  sv 2 3 18])
  .ret) .skip)))
  (.seq (.reg [sm 0 20 (.fa 1 (tm 1)),
  sm 1 21 (.ld1 (tm 20)),
  sc 2 22 200 [(tm 21)],
  sv 3 19 22,
  sm 4 23 (.ext (tm 19) 0),
  sm 5 24 (.ext (tm 19) 1),
  sv 6 5 23,
  sv 7 6 24])
  (.seq (.dreg [⟨0, (some 25), none, .mo (.bsl 1 [.int .u8 0] 1 [(0, (.const (.int .u8 111)))]), [], true⟩,
  sm 1 26 (.fa 0 (tm 1)),
  sm 2 27 (.ld1 (tm 26)),
  sm 3 28 (.cint .u64 (tm 27)),
  sv 5 30 5,
  sm 6 31 (.fa 2 (tm 1)),
  ⟨7, (some 32), none, .mo (.ld1 (tm 31)), [], true⟩,
  sm 9 34 (.fa 3 (tm 1)),
  sm 10 35 (.fa 0 (tm 34)),
  ⟨11, (some 36), none, .mo (.ld1 (tm 35)), [], true⟩,
  ⟨12, (some 37), none, .mo (.bsl 1 [.int .u8 0] 1 [(0, (tm 36))]), [], true⟩,
  ⟨4, (some 29), none, .callF 195 [(tm 28)], [12, 11, 7, 0], false⟩,
  ⟨8, (some 33), none, .callF 195 [(tm 32)], [12, 11, 0], false⟩,
  sm 13 38 (.bsl 1 [.nilS] 5 [(0, (tm 25)), (1, (tm 29)), (2, (tm 30)), (3, (tm 33)), (4, (tm 37))]),
  sc 14 39 194 [(tm 38)],
  sv 15 7 39])
  (.seq (.seq (.reg [sm 0 40 (.fa 3 (tm 1)),
  sm 1 41 (.fa 0 (tm 40)),
  sm 2 42 (.ld1 (tm 41)),
  sm 3 43 (.bin .eql 5 (tm 42) (.const (.int .u8 1)))])
  (.cond (tm 43) (.seq (.reg [sv 0 44 7,
  sv 1 2 44,
  sm 2 3 (.mv (.const (.int .i64 0)))])
  .ret) .skip))
  (.seq (.reg [sm 0 46 (.fa 3 (tm 1)),
  sm 1 47 (.fa 1 (tm 46)),
  sm 2 48 (.ld1 (tm 47)),
  sm 3 49 (.csb (tm 48)),
  sc 4 50 201 [(tm 49)],
  sv 5 45 50,
  sm 6 51 (.ext (tm 45) 0),
  sm 7 52 (.ext (tm 45) 1),
  sv 8 8 51,
  sv 9 9 52])
  (.seq (.reg [sv 0 53 7,
  sv 1 54 8,
  sm 2 55 (.app 1 1 (tm 53) (tm 54)),
  sv 3 7 55])
  (.seq (.seq (.reg [sm 0 56 (.fa 3 (tm 1)),
  sm 1 57 (.fa 0 (tm 56)),
  sm 2 58 (.ld1 (tm 57)),
  sm 3 59 (.bin .eql 5 (tm 58) (.const (.int .u8 4)))])
  (.cond (tm 59) (.seq (.reg [sm 0 61 (.fa 3 (tm 1)),
  sm 1 62 (.fa 2 (tm 61)),
  sm 2 63 (.ldA 4 (tm 62)),
  sc 3 64 202 [(tm 63)],
  sv 4 60 64,
  sm 5 65 (.ext (tm 60) 0),
  sm 6 66 (.ext (tm 60) 1),
  sv 7 10 65,
  sv 8 11 66])
  (.reg [sv 0 67 7,
  sv 1 68 10,
  sm 2 69 (.app 1 1 (tm 67) (tm 68)),
  sv 3 7 69])) .skip))
  (.seq (.reg [sv 0 70 7,
  sv 1 2 70,
  sm 2 3 (.mv (.const (.int .i64 0)))])
  .ret))))))))))
def r147 : List Mo := [.mv (tm 2), .mv (tm 3)]
theorem c147_eq : compF Tryz.prog 147 = some c147 := by kernel_rfl
theorem r147_eq : compRs Tryz.prog 147 = some r147 := by kernel_rfl
/-! F148 braid/sign.Verify -/
def c148 : Cd := (.seq (.reg [sm 0 5 (.box (tm 2)),
  sm 1 6 (.mv (.const (.int .i64 0)))])
  (.seq (.seq (.reg [sv 0 13 0,
  sc 1 14 199 [(tm 13)],
  sm 2 15 (.un .not (tm 14))])
  (.cond (tm 15) (.seq (.reg [sm 0 6 (.mv (.const (.int .i64 2)))])
  .ret) .skip))
  (.seq (.seq (.reg [sv 0 16 1,
  sm 1 17 (.len (.sl 1) (tm 16)),
  sm 2 18 (.bin .gtr 3 (tm 17) (.const (.int .i64 9991)))])
  (.cond (tm 18) (.seq (.reg [sm 0 6 (.mv (.const (.int .i64 4)))])
  .ret) .skip))
  (.seq (.seq (.reg [sm 0 19 (.fa 0 (tm 5)),
  sm 1 20 (.ld1 (tm 19)),
  sm 2 21 (.fa 1 (tm 5)),
  sm 3 22 (.ld1 (tm 21)),
  sm 4 23 (.max (tm 20) (tm 22)),
  sm 5 24 (.bin .geq 76 (tm 23) (.const (.int .u32 500000003)))])
  (.cond (tm 24) (.seq (.reg [sm 0 6 (.mv (.const (.int .i64 22)))])
  .ret) .skip))
  (.seq (.reg [sv 0 26 0,
  sm 1 27 (.fa 0 (tm 5)),
  sm 2 28 (.ld1 (tm 27)),
  sm 3 29 (.cint .u64 (tm 28)),
  sm 4 30 (.bin .sub 40 (.const (.int .u64 500000003)) (tm 29)),
  sc 5 31 203 [(tm 26), (tm 30)],
  sv 6 25 31,
  sm 7 32 (.ext (tm 25) 0),
  sm 8 33 (.ext (tm 25) 1),
  sv 9 7 32,
  sv 10 8 33])
  (.seq (.reg [sm 0 35 (.fa 1 (tm 5)),
  sm 1 36 (.ld1 (tm 35)),
  sm 2 37 (.cint .u64 (tm 36)),
  sc 3 38 205 [(tm 37)],
  sv 4 39 7,
  sc 5 40 204 [(tm 38), (tm 39)],
  sv 6 34 40,
  sm 7 41 (.ext (tm 34) 0),
  sm 8 42 (.ext (tm 34) 1),
  sv 9 9 41,
  sv 10 10 42])
  (.seq (.seq (.reg [sv 0 44 9,
  sv 1 45 0,
  sv 2 46 1,
  sc 3 47 206 [(tm 44), (tm 45), (tm 46)],
  sv 4 43 47,
  sm 5 48 (.ext (tm 43) 0),
  sm 6 49 (.ext (tm 43) 1),
  sv 7 11 48,
  sv 8 12 49])
  (.seq (.reg [sv 0 50 12,
  sm 1 51 (.bin .neq 37 (tm 50) (.const (.int .i64 0))),
  sv 2 52 51,
  sg 3 53 52 false (.mv (tm 11)),
  sg 4 54 52 false (.fa 0 (tm 5)),
  sg 5 55 52 false (.ld1 (tm 54)),
  sg 6 56 52 false (.bin .neq 76 (tm 53) (tm 55)),
  sm 7 57 (.pick (tm 52) (.const (.bool true)) (tm 56))])
  (.cond (tm 57) (.seq (.reg [sm 0 6 (.mv (.const (.int .i64 22)))])
  .ret) .skip)))
  (.seq (.reg [sm 0 6 (.mv (.const (.int .i64 0)))])
  .ret))))))))
def r148 : List Mo := [.mv (tm 6)]
theorem c148_eq : compF Tryz.prog 148 = some c148 := by kernel_rfl
theorem r148_eq : compRs Tryz.prog 148 = some r148 := by kernel_rfl
/-! F149 braid/digest.Cmp -/
def c149 : Cd := (.seq (.reg [sm 0 2 (.box (tm 0)),
  sm 1 3 (.box (tm 1)),
  sm 2 4 (.mv (.const (.int .i64 0)))])
  (.seq (.reg [sm 0 5 (.slice (.arr 32 1) (tm 2) none none none),
  sm 1 6 (.slice (.arr 32 1) (tm 3) none none none),
  sc 2 7 106 [(tm 5), (tm 6)],
  sv 3 4 7])
  .ret))
def r149 : List Mo := [.mv (tm 4)]
theorem c149_eq : compF Tryz.prog 149 = some c149 := by kernel_rfl
theorem r149_eq : compRs Tryz.prog 149 = some r149 := by kernel_rfl
/-! F150 slices.Clone[[]braid/api.Tag,braid/api.Tag] -/
def c150 : Cd := (.seq (.reg [sm 0 2 (.mv (.const (.slice none 0 0)))])
  (.seq (.seq (.reg [sv 0 3 0,
  sm 1 4 (.bin .eql 29 (tm 3) (.const (.slice none 0 0)))])
  (.cond (tm 4) (.seq (.reg [sm 0 2 (.mv (.const (.slice none 0 0)))])
  .ret) .skip))
  (.seq (.reg [sm 0 5 (.bsl 33 ([.str []] ++ rep 32 (.int .u8 0)) 0 []),
  sv 1 6 0,
  sm 2 7 (.app 33 48 (tm 5) (tm 6)),
  sv 3 2 7])
  .ret)))
def r150 : List Mo := [.mv (tm 2)]
theorem c150_eq : compF Tryz.prog 150 = some c150 := by kernel_rfl
theorem r150_eq : compRs Tryz.prog 150 = some r150 := by kernel_rfl
/-! F151 slices.BinarySearchFunc[[]braid/api.Tag,braid/api.Tag,braid/api.Tag] -/
def l151_0 : Cd := (.seq (.seq (.reg [sv 0 15 9,
  sv 1 16 10,
  sm 2 17 (.bin .lss 3 (tm 15) (tm 16))])
  (.cond (tm 17) .skip (.exit 0)))
  (.block 1 (.seq (.reg [sv 0 18 9,
  sv 1 19 10,
  sm 2 20 (.bin .add 3 (tm 18) (tm 19)),
  sm 3 21 (.cint .u64 (tm 20)),
  sm 4 22 (.bin .shr 194 (tm 21) (.const (.int .u64 1))),
  sm 5 23 (.cint .i64 (tm 22)),
  sv 6 11 23])
  (.seq (.reg [sv 0 24 2,
  sv 1 25 0,
  sv 2 26 11,
  sm 3 27 (.ia (.sl 33) (tm 25) (tm 26)),
  sm 4 28 (.ldA 33 (tm 27)),
  sm 5 29 (.ldA 33 (tm 4)),
  ⟨6, (some 30), none, .callV (tm 24) [(tm 28), (tm 29)], [], false⟩,
  sm 7 31 (.bin .lss 3 (tm 30) (.const (.int .i64 0)))])
  (.cond (tm 31) (.reg [sv 0 32 11,
  sm 1 33 (.bin .add 3 (tm 32) (.const (.int .i64 1))),
  sv 2 9 33]) (.reg [sv 0 34 11,
  sv 1 10 34]))))))
def c151 : Cd := (.seq (.reg [sm 0 4 (.box (tm 1)),
  sm 1 6 (.mv (.const (.int .i64 0))),
  sm 2 7 (.mv (.const (.bool false)))])
  (.seq (.reg [sv 0 12 0,
  sm 1 13 (.len (.sl 33) (tm 12)),
  sv 2 8 13])
  (.seq (.reg [sv 0 14 8,
  sm 1 9 (.mv (.const (.int .i64 0))),
  sv 2 10 14])
  (.seq (.block 0 (.loop l151_0))
  (.seq (.reg [sv 0 35 9,
  sv 1 36 9,
  sv 2 37 8,
  sm 3 38 (.bin .lss 3 (tm 36) (tm 37)),
  sv 4 39 38,
  sg 5 40 39 true (.mv (tm 2)),
  sg 6 41 39 true (.mv (tm 0)),
  sg 7 42 39 true (.mv (tm 9)),
  sg 8 43 39 true (.ia (.sl 33) (tm 41) (tm 42)),
  sg 9 44 39 true (.ldA 33 (tm 43)),
  sg 10 45 39 true (.ldA 33 (tm 4)),
  ⟨11, (some 46), (some ((some 39), true)), .callV (tm 40) [(tm 44), (tm 45)], [], false⟩,
  sg 12 47 39 true (.bin .eql 3 (tm 46) (.const (.int .i64 0))),
  sm 13 48 (.pick (tm 39) (tm 47) (.const (.bool false))),
  sv 14 6 35,
  sv 15 7 48])
  .ret)))))
def r151 : List Mo := [.mv (tm 6), .mv (tm 7)]
theorem c151_eq : compF Tryz.prog 151 = some c151 := by kernel_rfl
theorem r151_eq : compRs Tryz.prog 151 = some r151 := by kernel_rfl
/-! F153 slices.DeleteFunc[[]braid/api.Tag,braid/api.Tag] -/
def l153_0 : Cd := (.seq (.seq (.reg [sv 0 16 6,
  sv 1 17 0,
  sm 2 18 (.len (.sl 33) (tm 17)),
  sm 3 19 (.bin .lss 3 (tm 16) (tm 18))])
  (.cond (tm 19) .skip (.exit 0)))
  (.seq (.block 1 (.seq (.reg [sv 0 22 0,
  sv 1 23 6,
  sm 2 24 (.ia (.sl 33) (tm 22) (tm 23)),
  sm 3 25 (.ldA 33 (tm 24)),
  sm 4 7 (.alloc ([.str []] ++ rep 32 (.int .u8 0))),
  se 5 (.st 33 (tm 7) (tm 25))])
  (.seq (.reg [sv 0 26 1,
  sm 1 27 (.ldA 33 (tm 7)),
  ⟨2, (some 28), none, .callV (tm 26) [(tm 27)], [], false⟩,
  sm 3 29 (.un .not (tm 28))])
  (.cond (tm 29) (.seq (.reg [sv 0 30 0,
  sv 1 31 5,
  sm 2 32 (.ldA 33 (tm 7)),
  sm 3 33 (.ia (.sl 33) (tm 30) (tm 31)),
  se 4 (.st 33 (tm 33) (tm 32))])
  (.reg [sv 0 34 5,
  sm 1 35 (.bin .add 3 (tm 34) (.const (.int .i64 1))),
  sv 2 5 35])) .skip))))
  (.reg [sv 0 20 6,
  sm 1 21 (.bin .add 3 (tm 20) (.const (.int .i64 1))),
  sv 2 6 21])))
def c153 : Cd := (.seq (.reg [sm 0 4 (.mv (.const (.slice none 0 0)))])
  (.seq (.reg [sv 0 8 0,
  sv 1 9 1,
  sc 2 10 209 [(tm 8), (tm 9)],
  sv 3 5 10])
  (.seq (.seq (.reg [sv 0 11 5,
  sm 1 12 (.bin .eql 3 (tm 11) (.const (.int .i64 (-1))))])
  (.cond (tm 12) (.seq (.reg [sv 0 13 0,
  sv 1 4 13])
  .ret) .skip))
  (.seq (.seq (.reg [sv 0 14 5,
  sm 1 15 (.bin .add 3 (tm 14) (.const (.int .i64 1))),
  sv 2 6 15])
  (.block 0 (.loop l153_0)))
  (.seq (.reg [sv 0 36 0,
  sv 1 37 5,
  sm 2 38 (.slice (.sl 33) (tm 36) (some (tm 37)) none none),
  se 3 (.clr ([.str []] ++ rep 32 (.int .u8 0)) (tm 38))])
  (.seq (.reg [sv 0 39 0,
  sv 1 40 5,
  sm 2 41 (.slice (.sl 33) (tm 39) none (some (tm 40)) none),
  sv 3 4 41])
  .ret))))))
def r153 : List Mo := [.mv (tm 4)]
theorem c153_eq : compF Tryz.prog 153 = some c153 := by kernel_rfl
theorem r153_eq : compRs Tryz.prog 153 = some r153 := by kernel_rfl
/-! F154 braid/orset.Apply$1 -/
def c154 : Cd := (.seq (.reg [sm 0 3 (.box (tm 0)),
  sm 1 4 (.mv (.const (.bool false)))])
  (.seq (.reg [sm 0 5 (.fa 0 (tm 3)),
  sm 1 6 (.ld1 (tm 5)),
  sm 2 7 (.fa 3 (tm 1)),
  sm 3 8 (.fa 1 (tm 7)),
  sm 4 9 (.ld1 (tm 8)),
  sm 5 10 (.bin .eql 9 (tm 6) (tm 9)),
  sv 6 11 10,
  sg 7 12 11 true (.ld1 (tm 2)),
  sg 8 13 11 true (.fa 1 (tm 3)),
  sg 9 14 11 true (.ldA 32 (tm 13)),
  ⟨10, (some 15), (some ((some 11), true)), .callF 70 [(tm 12), (tm 14)], [], false⟩,
  sm 11 16 (.pick (tm 11) (tm 15) (.const (.bool false))),
  sv 12 4 16])
  .ret))
def r154 : List Mo := [.mv (tm 4)]
theorem c154_eq : compF Tryz.prog 154 = some c154 := by kernel_rfl
theorem r154_eq : compRs Tryz.prog 154 = some r154 := by kernel_rfl
/-! F155 slices.Clone[[]braid/api.Reg,braid/api.Reg] -/
def c155 : Cd := (.seq (.reg [sm 0 2 (.mv (.const (.slice none 0 0)))])
  (.seq (.seq (.reg [sv 0 3 0,
  sm 1 4 (.bin .eql 32 (tm 3) (.const (.slice none 0 0)))])
  (.cond (tm 4) (.seq (.reg [sm 0 2 (.mv (.const (.slice none 0 0)))])
  .ret) .skip))
  (.seq (.reg [sm 0 5 (.bsl 38 ([.str [], .int .u8 0, .int .i64 0, .int .u64 0, .str [], .int .u64 0] ++ rep 32 (.int .u8 0)) 0 []),
  sv 1 6 0,
  sm 2 7 (.app 38 96 (tm 5) (tm 6)),
  sv 3 2 7])
  .ret)))
def r155 : List Mo := [.mv (tm 2)]
theorem c155_eq : compF Tryz.prog 155 = some c155 := by kernel_rfl
theorem r155_eq : compRs Tryz.prog 155 = some r155 := by kernel_rfl
/-! F156 slices.pdqsortCmpFunc[braid/api.ID] -/
def l156_0 : Cd := (.block 1 (.seq (.reg [sv 0 21 2,
  sv 1 22 1,
  sm 2 23 (.bin .sub 3 (tm 21) (tm 22)),
  sv 3 12 23])
  (.seq (.seq (.reg [sv 0 24 12,
  sm 1 25 (.bin .leq 3 (tm 24) (.const (.int .i64 12)))])
  (.cond (tm 25) (.seq (.reg [sv 0 26 0,
  sv 1 27 1,
  sv 2 28 2,
  sv 3 29 4,
  sc 4 30 210 [(tm 26), (tm 27), (tm 28), (tm 29)]])
  .ret) .skip))
  (.seq (.seq (.reg [sv 0 31 3,
  sm 1 32 (.bin .eql 3 (tm 31) (.const (.int .i64 0)))])
  (.cond (tm 32) (.seq (.reg [sv 0 33 0,
  sv 1 34 1,
  sv 2 35 2,
  sv 3 36 4,
  sc 4 37 211 [(tm 33), (tm 34), (tm 35), (tm 36)]])
  .ret) .skip))
  (.seq (.seq (.reg [sv 0 38 10,
  sm 1 39 (.un .not (tm 38))])
  (.cond (tm 39) (.seq (.reg [sv 0 40 0,
  sv 1 41 1,
  sv 2 42 2,
  sv 3 43 4,
  sc 4 44 212 [(tm 40), (tm 41), (tm 42), (tm 43)]])
  (.reg [sv 0 45 3,
  sm 1 46 (.bin .sub 3 (tm 45) (.const (.int .i64 1))),
  sv 2 3 46])) .skip))
  (.seq (.reg [sv 0 48 0,
  sv 1 49 1,
  sv 2 50 2,
  sv 3 51 4,
  sc 4 52 213 [(tm 48), (tm 49), (tm 50), (tm 51)],
  sv 5 47 52,
  sm 6 53 (.ext (tm 47) 0),
  sm 7 54 (.ext (tm 47) 1),
  sv 8 13 53,
  sv 9 14 54])
  (.seq (.seq (.reg [sv 0 55 14,
  sm 1 56 (.bin .eql 233 (tm 55) (.const (.int .i64 2)))])
  (.cond (tm 56) (.seq (.reg [sv 0 57 0,
  sv 1 58 1,
  sv 2 59 2,
  sv 3 60 4,
  sc 4 61 214 [(tm 57), (tm 58), (tm 59), (tm 60)]])
  (.seq (.reg [sv 0 62 2,
  sm 1 63 (.bin .sub 3 (tm 62) (.const (.int .i64 1))),
  sv 2 64 13,
  sv 3 65 1,
  sm 4 66 (.bin .sub 3 (tm 64) (tm 65)),
  sm 5 67 (.bin .sub 3 (tm 63) (tm 66)),
  sv 6 13 67])
  (.reg [sm 0 14 (.mv (.const (.int .i64 1)))]))) .skip))
  (.seq (.seq (.reg [sv 0 68 10,
  sv 1 69 68,
  sg 2 70 69 true (.mv (tm 11)),
  sm 3 71 (.pick (tm 69) (tm 70) (.const (.bool false))),
  sv 4 72 71,
  sg 5 73 72 true (.mv (tm 14)),
  sg 6 74 72 true (.bin .eql 233 (tm 73) (.const (.int .i64 1))),
  sm 7 75 (.pick (tm 72) (tm 74) (.const (.bool false)))])
  (.cond (tm 75) (.seq (.reg [sv 0 76 0,
  sv 1 77 1,
  sv 2 78 2,
  sv 3 79 4,
  sc 4 80 215 [(tm 76), (tm 77), (tm 78), (tm 79)]])
  (.cond (tm 80) .ret .skip)) .skip))
  (.seq (.seq (.reg [sv 0 81 1,
  sm 1 82 (.bin .gtr 3 (tm 81) (.const (.int .i64 0))),
  sv 2 83 82,
  sg 3 84 83 true (.mv (tm 4)),
  sg 4 85 83 true (.mv (tm 0)),
  sg 5 86 83 true (.mv (tm 1)),
  sg 6 87 83 true (.bin .sub 3 (tm 86) (.const (.int .i64 1))),
  sg 7 88 83 true (.ia (.sl 32) (tm 85) (tm 87)),
  sg 8 89 83 true (.ldA 32 (tm 88)),
  sg 9 90 83 true (.mv (tm 0)),
  sg 10 91 83 true (.mv (tm 13)),
  sg 11 92 83 true (.ia (.sl 32) (tm 90) (tm 91)),
  sg 12 93 83 true (.ldA 32 (tm 92)),
  ⟨13, (some 94), (some ((some 83), true)), .callV (tm 84) [(tm 89), (tm 93)], [], false⟩,
  sg 14 95 83 true (.bin .lss 3 (tm 94) (.const (.int .i64 0))),
  sg 15 96 83 true (.un .not (tm 95)),
  sm 16 97 (.pick (tm 83) (tm 96) (.const (.bool false)))])
  (.cond (tm 97) (.seq (.reg [sv 0 98 0,
  sv 1 99 1,
  sv 2 100 2,
  sv 3 101 13,
  sv 4 102 4,
  sc 5 103 216 [(tm 98), (tm 99), (tm 100), (tm 101), (tm 102)],
  sv 6 15 103])
  (.seq (.reg [sv 0 104 15,
  sv 1 1 104])
  (.exit 1))) .skip))
  (.seq (.reg [sv 0 106 0,
  sv 1 107 1,
  sv 2 108 2,
  sv 3 109 13,
  sv 4 110 4,
  sc 5 111 217 [(tm 106), (tm 107), (tm 108), (tm 109), (tm 110)],
  sv 6 105 111,
  sm 7 112 (.ext (tm 105) 0),
  sm 8 113 (.ext (tm 105) 1),
  sv 9 16 112,
  sv 10 17 113])
  (.seq (.reg [sv 0 114 17,
  sv 1 11 114])
  (.seq (.reg [sv 0 115 16,
  sv 1 116 1,
  sm 2 117 (.bin .sub 3 (tm 115) (tm 116)),
  sv 3 118 2,
  sv 4 119 16,
  sm 5 120 (.bin .sub 3 (tm 118) (tm 119)),
  sv 6 18 117,
  sv 7 19 120])
  (.seq (.reg [sv 0 121 12,
  sm 1 122 (.bin .quo 3 (tm 121) (.const (.int .i64 8))),
  sv 2 20 122])
  (.seq (.reg [sv 0 123 18,
  sv 1 124 19,
  sm 2 125 (.bin .lss 3 (tm 123) (tm 124))])
  (.cond (tm 125) (.seq (.reg [sv 0 126 18,
  sv 1 127 20,
  sm 2 128 (.bin .geq 3 (tm 126) (tm 127)),
  sv 3 10 128])
  (.seq (.reg [sv 0 129 0,
  sv 1 130 1,
  sv 2 131 16,
  sv 3 132 3,
  sv 4 133 4,
  sc 5 134 156 [(tm 129), (tm 130), (tm 131), (tm 132), (tm 133)]])
  (.reg [sv 0 135 16,
  sm 1 136 (.bin .add 3 (tm 135) (.const (.int .i64 1))),
  sv 2 1 136]))) (.seq (.reg [sv 0 137 19,
  sv 1 138 20,
  sm 2 139 (.bin .geq 3 (tm 137) (tm 138)),
  sv 3 10 139])
  (.seq (.reg [sv 0 140 0,
  sv 1 141 16,
  sm 2 142 (.bin .add 3 (tm 141) (.const (.int .i64 1))),
  sv 3 143 2,
  sv 4 144 3,
  sv 5 145 4,
  sc 6 146 156 [(tm 140), (tm 142), (tm 143), (tm 144), (tm 145)]])
  (.reg [sv 0 147 16,
  sv 1 2 147]))))))))))))))))))
def c156 : Cd := (.seq (.reg [sm 0 10 (.mv (.const (.bool true)))])
  (.seq (.reg [sm 0 11 (.mv (.const (.bool true)))])
  (.block 0 (.loop l156_0))))
def r156 : List Mo := []
theorem c156_eq : compF Tryz.prog 156 = some c156 := by kernel_rfl
theorem r156_eq : compRs Tryz.prog 156 = some r156 := by kernel_rfl
/-! F157 braid/op.key -/
def c157 : Cd := (.seq (.reg [sm 0 2 (.mv (.const (.bool false)))])
  (.seq (.reg [sv 0 3 0,
  sm 1 4 (.len .str (tm 3)),
  sm 2 5 (.bin .geq 3 (tm 4) (.const (.int .i64 1))),
  sv 3 6 5,
  sg 4 7 6 true (.mv (tm 0)),
  sg 5 8 6 true (.len .str (tm 7)),
  sg 6 9 6 true (.bin .leq 3 (tm 8) (.const (.int .i64 20))),
  sm 7 10 (.pick (tm 6) (tm 9) (.const (.bool false))),
  sv 8 11 10,
  sg 9 12 11 true (.mv (tm 0)),
  ⟨10, (some 13), (some ((some 11), true)), .callF 218 [(tm 12), (.func 219)], [], false⟩,
  sg 11 14 11 true (.bin .lss 3 (tm 13) (.const (.int .i64 0))),
  sm 12 15 (.pick (tm 11) (tm 14) (.const (.bool false))),
  sv 13 2 15])
  .ret))
def r157 : List Mo := [.mv (tm 2)]
theorem c157_eq : compF Tryz.prog 157 = some c157 := by kernel_rfl
theorem r157_eq : compRs Tryz.prog 157 = some r157 := by kernel_rfl
/-! F158 braid/value.Number -/
def c158 : Cd := (.seq (.reg [sm 0 2 (.alloc [.int .u8 0, .int .i64 0, .int .u64 0, .str []])])
  (.seq (.reg [sv 0 3 0,
  sm 1 4 (.bld [.int .u8 0, .int .i64 0, .int .u64 0, .str []] [(0, 1, (.const (.int .u8 1))), (1, 1, (tm 3))]),
  se 2 (.st 4 (tm 2) (tm 4))])
  .ret))
def r158 : List Mo := [.ldA 4 (tm 2)]
theorem c158_eq : compF Tryz.prog 158 = some c158 := by kernel_rfl
theorem r158_eq : compRs Tryz.prog 158 = some r158 := by kernel_rfl
/-! F164 slices.BinarySearchFunc[[]braid/api.ID,braid/api.ID,braid/api.ID] -/
def l164_0 : Cd := (.seq (.seq (.reg [sv 0 15 9,
  sv 1 16 10,
  sm 2 17 (.bin .lss 3 (tm 15) (tm 16))])
  (.cond (tm 17) .skip (.exit 0)))
  (.block 1 (.seq (.reg [sv 0 18 9,
  sv 1 19 10,
  sm 2 20 (.bin .add 3 (tm 18) (tm 19)),
  sm 3 21 (.cint .u64 (tm 20)),
  sm 4 22 (.bin .shr 194 (tm 21) (.const (.int .u64 1))),
  sm 5 23 (.cint .i64 (tm 22)),
  sv 6 11 23])
  (.seq (.reg [sv 0 24 2,
  sv 1 25 0,
  sv 2 26 11,
  sm 3 27 (.ia (.sl 32) (tm 25) (tm 26)),
  sm 4 28 (.ldA 32 (tm 27)),
  sm 5 29 (.ldA 32 (tm 4)),
  ⟨6, (some 30), none, .callV (tm 24) [(tm 28), (tm 29)], [], false⟩,
  sm 7 31 (.bin .lss 3 (tm 30) (.const (.int .i64 0)))])
  (.cond (tm 31) (.reg [sv 0 32 11,
  sm 1 33 (.bin .add 3 (tm 32) (.const (.int .i64 1))),
  sv 2 9 33]) (.reg [sv 0 34 11,
  sv 1 10 34]))))))
def c164 : Cd := (.seq (.reg [sm 0 4 (.box (tm 1)),
  sm 1 6 (.mv (.const (.int .i64 0))),
  sm 2 7 (.mv (.const (.bool false)))])
  (.seq (.reg [sv 0 12 0,
  sm 1 13 (.len (.sl 32) (tm 12)),
  sv 2 8 13])
  (.seq (.reg [sv 0 14 8,
  sm 1 9 (.mv (.const (.int .i64 0))),
  sv 2 10 14])
  (.seq (.block 0 (.loop l164_0))
  (.seq (.reg [sv 0 35 9,
  sv 1 36 9,
  sv 2 37 8,
  sm 3 38 (.bin .lss 3 (tm 36) (tm 37)),
  sv 4 39 38,
  sg 5 40 39 true (.mv (tm 2)),
  sg 6 41 39 true (.mv (tm 0)),
  sg 7 42 39 true (.mv (tm 9)),
  sg 8 43 39 true (.ia (.sl 32) (tm 41) (tm 42)),
  sg 9 44 39 true (.ldA 32 (tm 43)),
  sg 10 45 39 true (.ldA 32 (tm 4)),
  ⟨11, (some 46), (some ((some 39), true)), .callV (tm 40) [(tm 44), (tm 45)], [], false⟩,
  sg 12 47 39 true (.bin .eql 3 (tm 46) (.const (.int .i64 0))),
  sm 13 48 (.pick (tm 39) (tm 47) (.const (.bool false))),
  sv 14 6 35,
  sv 15 7 48])
  .ret)))))
def r164 : List Mo := [.mv (tm 6), .mv (tm 7)]
theorem c164_eq : compF Tryz.prog 164 = some c164 := by kernel_rfl
theorem r164_eq : compRs Tryz.prog 164 = some r164 := by kernel_rfl
/-! F165 slices.Clone[[]braid/api.ID,braid/api.ID] -/
def c165 : Cd := (.seq (.reg [sm 0 2 (.mv (.const (.slice none 0 0)))])
  (.seq (.seq (.reg [sv 0 3 0,
  sm 1 4 (.bin .eql 22 (tm 3) (.const (.slice none 0 0)))])
  (.cond (tm 4) (.seq (.reg [sm 0 2 (.mv (.const (.slice none 0 0)))])
  .ret) .skip))
  (.seq (.reg [sm 0 5 (.bsl 32 (rep 32 (.int .u8 0)) 0 []),
  sv 1 6 0,
  sm 2 7 (.app 32 32 (tm 5) (tm 6)),
  sv 3 2 7])
  .ret)))
def r165 : List Mo := [.mv (tm 2)]
theorem c165_eq : compF Tryz.prog 165 = some c165 := by kernel_rfl
theorem r165_eq : compRs Tryz.prog 165 = some r165 := by kernel_rfl
/-! F166 braid/braidref02.Base -/
def c166 : Cd := (.seq (.reg [sm 0 2 (.mv (.const (.int .u32 0)))])
  (.seq (.reg [sv 0 3 0,
  sc 1 4 177 [(.const (.int .u32 4)), (tm 3)],
  sv 2 2 4])
  .ret))
def r166 : List Mo := [.mv (tm 2)]
theorem c166_eq : compF Tryz.prog 166 = some c166 := by kernel_rfl
theorem r166_eq : compRs Tryz.prog 166 = some r166 := by kernel_rfl
/-! F167 braid/braidref03.nonce -/
def c167 : Cd := (.seq (.reg [sm 0 4 (.mv (.const (.int .u32 0)))])
  (.seq (.reg [sm 0 6 (.bsl 1 [.int .u8 0] 1 [(0, (.const (.int .u8 110)))]),
  sv 1 7 0,
  sc 2 8 223 [(tm 7)],
  sm 3 9 (.app 1 1 (tm 6) (tm 8)),
  sv 4 5 9])
  (.seq (.reg [sv 0 10 5,
  sv 1 11 1,
  sm 2 12 (.app 1 1 (tm 10) (tm 11)),
  sc 3 13 224 [(tm 12)],
  sm 4 14 (.bin .rem 40 (tm 13) (.const (.int .u64 500000002))),
  sm 5 15 (.cint .u32 (tm 14)),
  sm 6 16 (.bin .add 76 (tm 15) (.const (.int .u32 1))),
  sv 7 4 16])
  .ret)))
def r167 : List Mo := [.mv (tm 4)]
theorem c167_eq : compF Tryz.prog 167 = some c167 := by kernel_rfl
theorem r167_eq : compRs Tryz.prog 167 = some r167 := by kernel_rfl
/-! F168 braid/braidref03.challenge -/
def c168 : Cd := (.seq (.reg [sm 0 6 (.mv (.const (.int .u32 0)))])
  (.seq (.reg [sm 0 8 (.bsl 1 [.int .u8 0] 1 [(0, (.const (.int .u8 99)))]),
  sv 1 9 0,
  sc 2 10 223 [(tm 9)],
  sm 3 11 (.app 1 1 (tm 8) (tm 10)),
  sv 4 12 1,
  sc 5 13 223 [(tm 12)],
  sm 6 14 (.app 1 1 (tm 11) (tm 13)),
  sv 7 7 14])
  (.seq (.reg [sv 0 15 7,
  sv 1 16 2,
  sm 2 17 (.app 1 1 (tm 15) (tm 16)),
  sc 3 18 224 [(tm 17)],
  sm 4 19 (.bin .rem 40 (tm 18) (.const (.int .u64 500000003))),
  sm 5 20 (.cint .u32 (tm 19)),
  sv 6 6 20])
  .ret)))
def r168 : List Mo := [.mv (tm 6)]
theorem c168_eq : compF Tryz.prog 168 = some c168 := by kernel_rfl
theorem r168_eq : compRs Tryz.prog 168 = some r168 := by kernel_rfl
/-! F169 braid/braidref02.Sum -/
def c169 : Cd := (.seq (.reg [sm 0 4 (.mv (.const (.int .u32 0)))])
  (.seq (.reg [sv 0 5 0,
  sm 1 6 (.cint .u64 (tm 5)),
  sv 2 7 1,
  sm 3 8 (.cint .u64 (tm 7)),
  sm 4 9 (.bin .add 40 (tm 6) (tm 8)),
  sm 5 10 (.bin .rem 40 (tm 9) (.const (.int .u64 500000003))),
  sm 6 11 (.cint .u32 (tm 10)),
  sv 7 4 11])
  .ret))
def r169 : List Mo := [.mv (tm 4)]
theorem c169_eq : compF Tryz.prog 169 = some c169 := by kernel_rfl
theorem r169_eq : compRs Tryz.prog 169 = some r169 := by kernel_rfl
/-! F170 braid/braidref02.Scaled -/
def c170 : Cd := (.seq (.reg [sm 0 4 (.mv (.const (.int .u32 0)))])
  (.seq (.reg [sv 0 5 0,
  sm 1 6 (.cint .u64 (tm 5)),
  sv 2 7 1,
  sm 3 8 (.cint .u64 (tm 7)),
  sm 4 9 (.bin .mul 40 (tm 6) (tm 8)),
  sm 5 10 (.bin .rem 40 (tm 9) (.const (.int .u64 500000003))),
  sm 6 11 (.cint .u32 (tm 10)),
  sv 7 4 11])
  .ret))
def r170 : List Mo := [.mv (tm 4)]
theorem c170_eq : compF Tryz.prog 170 = some c170 := by kernel_rfl
theorem r170_eq : compRs Tryz.prog 170 = some r170 := by kernel_rfl
/-! F171 braid/braidref04.List -/
def l171_0 : Cd := (.seq (.seq (.reg [sv 0 9 4,
  sv 1 10 0,
  sm 2 11 (.len (.sl 32) (tm 10)),
  sm 3 12 (.bin .lss 3 (tm 9) (tm 11))])
  (.cond (tm 12) .skip (.exit 0)))
  (.seq (.block 1 (.reg [sv 0 15 3,
  sv 1 16 0,
  sv 2 17 4,
  sm 3 18 (.ia (.sl 32) (tm 16) (tm 17)),
  sm 4 19 (.slice (.arr 32 1) (tm 18) none none none),
  sm 5 20 (.app 1 1 (tm 15) (tm 19)),
  sv 6 3 20]))
  (.reg [sv 0 13 4,
  sm 1 14 (.bin .add 3 (tm 13) (.const (.int .i64 1))),
  sv 2 4 14])))
def c171 : Cd := (.seq (.reg [sm 0 2 (.mv (.const (.slice none 0 0)))])
  (.seq (.reg [sv 0 5 0,
  sm 1 6 (.len (.sl 32) (tm 5)),
  sm 2 7 (.cint .u64 (tm 6)),
  sc 3 8 127 [(tm 7)],
  sv 4 3 8])
  (.seq (.seq (.reg [sm 0 4 (.mv (.const (.int .i64 0)))])
  (.block 0 (.loop l171_0)))
  (.seq (.reg [sv 0 21 3,
  sv 1 2 21])
  .ret))))
def r171 : List Mo := [.mv (tm 2)]
theorem c171_eq : compF Tryz.prog 171 = some c171 := by kernel_rfl
theorem r171_eq : compRs Tryz.prog 171 = some r171 := by kernel_rfl
/-! F172 braid/braidref04.Text -/
def c172 : Cd := (.seq (.reg [sm 0 2 (.mv (.const (.slice none 0 0)))])
  (.seq (.reg [sv 0 3 0,
  sm 1 4 (.len (.sl 1) (tm 3)),
  sm 2 5 (.cint .u64 (tm 4)),
  sc 3 6 127 [(tm 5)],
  sv 4 7 0,
  sm 5 8 (.app 1 1 (tm 6) (tm 7)),
  sv 6 2 8])
  .ret))
def r172 : List Mo := [.mv (tm 2)]
theorem c172_eq : compF Tryz.prog 172 = some c172 := by kernel_rfl
theorem r172_eq : compRs Tryz.prog 172 = some r172 := by kernel_rfl
/-! F173 braid/braidref05.Bytes -/
def l173_0 : Cd := (.seq (.seq (.reg [sv 0 19 4,
  sm 1 20 (.bin .geq 3 (tm 19) (.const (.int .i64 0)))])
  (.cond (tm 20) .skip (.exit 1)))
  (.seq (.block 2 (.reg [sv 0 23 3,
  sm 1 24 (.fa 2 (tm 1)),
  sm 2 25 (.ld1 (tm 24)),
  sv 3 26 4,
  sm 4 27 (.bin .mul 3 (.const (.int .i64 8)) (tm 26)),
  sm 5 28 (.bin .shr 40 (tm 25) (tm 27)),
  sm 6 29 (.cint .u8 (tm 28)),
  sm 7 30 (.bsl 1 [.int .u8 0] 1 [(0, (tm 29))]),
  sm 8 31 (.app 1 1 (tm 23) (tm 30)),
  sv 9 3 31]))
  (.reg [sv 0 21 4,
  sm 1 22 (.bin .sub 3 (tm 21) (.const (.int .i64 1))),
  sv 2 4 22])))
def c173 : Cd := (.seq (.reg [sm 0 1 (.box (tm 0)),
  sm 1 2 (.mv (.const (.slice none 0 0)))])
  (.seq (.reg [sm 0 5 (.fa 0 (tm 1)),
  sm 1 6 (.ld1 (tm 5)),
  sm 2 7 (.bsl 1 [.int .u8 0] 1 [(0, (tm 6))]),
  sv 3 3 7])
  (.seq (.seq (.reg [sm 0 8 (.fa 0 (tm 1)),
  sm 1 9 (.ld1 (tm 8))])
  (.block 0 (.seq (.reg [sm 0 11 (.bin .eql 5 (tm 9) (.const (.int .u8 1))),
  sv 1 10 11])
  (.cond (tm 10) (.seq (.reg [sv 0 12 3,
  sm 1 13 (.fa 1 (tm 1)),
  sm 2 14 (.ld1 (tm 13)),
  sc 3 15 225 [(tm 14)],
  sm 4 16 (.app 1 1 (tm 12) (tm 15)),
  sv 5 2 16])
  .ret) (.seq (.reg [sm 0 18 (.bin .eql 5 (tm 9) (.const (.int .u8 2))),
  sv 1 17 18])
  (.cond (tm 17) (.seq (.seq (.reg [sm 0 4 (.mv (.const (.int .i64 7)))])
  (.block 1 (.loop l173_0)))
  (.seq (.reg [sv 0 32 3,
  sv 1 2 32])
  .ret)) .skip))))))
  (.seq (.reg [sv 0 33 3,
  sm 1 34 (.fa 3 (tm 1)),
  sm 2 35 (.ld1 (tm 34)),
  sm 3 36 (.csb (tm 35)),
  sc 4 37 172 [(tm 36)],
  sm 5 38 (.app 1 1 (tm 33) (tm 37)),
  sv 6 2 38])
  .ret))))
def r173 : List Mo := [.mv (tm 2)]
theorem c173_eq : compF Tryz.prog 173 = some c173 := by kernel_rfl
theorem r173_eq : compRs Tryz.prog 173 = some r173 := by kernel_rfl
/-! F174 braid/braidref01.Ground -/
def l174_0 : Cd := (.seq (.seq (.reg [sv 0 22 6,
  sm 1 23 (.bin .lss 3 (tm 22) (.const (.int .i64 16)))])
  (.cond (tm 23) .skip (.exit 0)))
  (.seq (.block 1 (.reg [sv 0 26 5,
  sv 1 27 1,
  sv 2 28 6,
  sm 3 29 (.bin .mul 3 (.const (.int .i64 4)) (tm 28)),
  sm 4 30 (.ia (.sl 1) (tm 27) (tm 29)),
  sm 5 31 (.ld1 (tm 30)),
  sm 6 32 (.cint .u32 (tm 31)),
  sm 7 33 (.bin .mul 76 (tm 32) (.const (.int .u32 256))),
  sv 8 34 1,
  sv 9 35 6,
  sm 10 36 (.bin .mul 3 (.const (.int .i64 4)) (tm 35)),
  sm 11 37 (.bin .add 3 (tm 36) (.const (.int .i64 1))),
  sm 12 38 (.ia (.sl 1) (tm 34) (tm 37)),
  sm 13 39 (.ld1 (tm 38)),
  sm 14 40 (.cint .u32 (tm 39)),
  sm 15 41 (.bin .add 76 (tm 33) (tm 40)),
  sm 16 42 (.bin .mul 76 (tm 41) (.const (.int .u32 256))),
  sv 17 43 1,
  sv 18 44 6,
  sm 19 45 (.bin .mul 3 (.const (.int .i64 4)) (tm 44)),
  sm 20 46 (.bin .add 3 (tm 45) (.const (.int .i64 2))),
  sm 21 47 (.ia (.sl 1) (tm 43) (tm 46)),
  sm 22 48 (.ld1 (tm 47)),
  sm 23 49 (.cint .u32 (tm 48)),
  sm 24 50 (.bin .add 76 (tm 42) (tm 49)),
  sm 25 51 (.bin .mul 76 (tm 50) (.const (.int .u32 256))),
  sv 26 52 1,
  sv 27 53 6,
  sm 28 54 (.bin .mul 3 (.const (.int .i64 4)) (tm 53)),
  sm 29 55 (.bin .add 3 (tm 54) (.const (.int .i64 3))),
  sm 30 56 (.ia (.sl 1) (tm 52) (tm 55)),
  sm 31 57 (.ld1 (tm 56)),
  sm 32 58 (.cint .u32 (tm 57)),
  sm 33 59 (.bin .add 76 (tm 51) (tm 58)),
  sm 34 60 (.bsl 1 [.int .u32 0] 1 [(0, (tm 59))]),
  sm 35 61 (.app 1 4 (tm 26) (tm 60)),
  sv 36 5 61]))
  (.reg [sv 0 24 6,
  sm 1 25 (.bin .add 3 (tm 24) (.const (.int .i64 1))),
  sv 2 6 25])))
def l174_1 : Cd := (.seq (.seq (.reg [sv 0 62 7,
  sm 1 63 (.bin .lss 3 (tm 62) (.const (.int .i64 64)))])
  (.cond (tm 63) .skip (.exit 2)))
  (.seq (.block 3 (.seq (.reg [sv 0 66 5,
  sv 1 67 7,
  sm 2 68 (.bin .sub 3 (tm 67) (.const (.int .i64 15))),
  sm 3 69 (.ia (.sl 1) (tm 66) (tm 68)),
  sm 4 70 (.ld1 (tm 69)),
  sv 5 71 5,
  sv 6 72 7,
  sm 7 73 (.bin .sub 3 (tm 72) (.const (.int .i64 2))),
  sm 8 74 (.ia (.sl 1) (tm 71) (tm 73)),
  sm 9 75 (.ld1 (tm 74)),
  sv 10 8 70,
  sv 11 9 75])
  (.dreg [sv 0 76 5,
  sv 1 77 5,
  sv 2 78 7,
  sm 3 79 (.bin .sub 3 (tm 78) (.const (.int .i64 16))),
  sm 4 80 (.ia (.sl 1) (tm 77) (tm 79)),
  ⟨5, (some 81), none, .mo (.ld1 (tm 80)), [], true⟩,
  sv 6 82 5,
  sv 7 83 7,
  sm 8 84 (.bin .sub 3 (tm 83) (.const (.int .i64 7))),
  sm 9 85 (.ia (.sl 1) (tm 82) (tm 84)),
  ⟨10, (some 86), none, .mo (.ld1 (tm 85)), [], true⟩,
  sm 11 87 (.bin .add 76 (tm 81) (tm 86)),
  sv 12 88 8,
  sv 14 90 8,
  sv 17 93 8,
  sm 18 94 (.bin .shr 76 (tm 93) (.const (.int .u64 3))),
  sv 21 97 9,
  sv 23 99 9,
  sv 26 102 9,
  sm 27 103 (.bin .shr 76 (tm 102) (.const (.int .u64 10))),
  ⟨13, (some 89), none, .callF 226 [(tm 88), (.const (.int .i64 7))], [10, 5], false⟩,
  ⟨15, (some 91), none, .callF 226 [(tm 90), (.const (.int .i64 18))], [10, 5], false⟩,
  sm 16 92 (.bin .xor 76 (tm 89) (tm 91)),
  sm 19 95 (.bin .xor 76 (tm 92) (tm 94)),
  sm 20 96 (.bin .add 76 (tm 87) (tm 95)),
  ⟨22, (some 98), none, .callF 226 [(tm 97), (.const (.int .i64 17))], [10, 5], false⟩,
  ⟨24, (some 100), none, .callF 226 [(tm 99), (.const (.int .i64 19))], [10, 5], false⟩,
  sm 25 101 (.bin .xor 76 (tm 98) (tm 100)),
  sm 28 104 (.bin .xor 76 (tm 101) (tm 103)),
  sm 29 105 (.bin .add 76 (tm 96) (tm 104)),
  sm 30 106 (.bsl 1 [.int .u32 0] 1 [(0, (tm 105))]),
  sm 31 107 (.app 1 4 (tm 76) (tm 106)),
  sv 32 5 107])))
  (.reg [sv 0 64 7,
  sm 1 65 (.bin .add 3 (tm 64) (.const (.int .i64 1))),
  sv 2 7 65])))
def l174_2 : Cd := (.seq (.seq (.reg [sv 0 110 12,
  sm 1 111 (.bin .lss 3 (tm 110) (.const (.int .i64 64)))])
  (.cond (tm 111) .skip (.exit 4)))
  (.seq (.block 5 (.seq (.reg [sm 0 114 (.ia (.arr 8 1) (tm 11) (.const (.int .i64 0))),
  sm 1 115 (.ld1 (tm 114)),
  sm 2 116 (.ia (.arr 8 1) (tm 11) (.const (.int .i64 1))),
  sm 3 117 (.ld1 (tm 116)),
  sm 4 118 (.ia (.arr 8 1) (tm 11) (.const (.int .i64 2))),
  sm 5 119 (.ld1 (tm 118)),
  sm 6 120 (.ia (.arr 8 1) (tm 11) (.const (.int .i64 4))),
  sm 7 121 (.ld1 (tm 120)),
  sm 8 122 (.ia (.arr 8 1) (tm 11) (.const (.int .i64 5))),
  sm 9 123 (.ld1 (tm 122)),
  sm 10 124 (.ia (.arr 8 1) (tm 11) (.const (.int .i64 6))),
  sm 11 125 (.ld1 (tm 124)),
  sv 12 13 115,
  sv 13 14 117,
  sv 14 15 119,
  sv 15 16 121,
  sv 16 17 123,
  sv 17 18 125])
  (.seq (.dreg [sm 0 126 (.ia (.arr 8 1) (tm 11) (.const (.int .i64 7))),
  ⟨1, (some 127), none, .mo (.ld1 (tm 126)), [], true⟩,
  sv 2 128 16,
  sv 4 130 16,
  sv 7 133 16,
  sv 11 137 16,
  sv 12 138 17,
  sm 13 139 (.bin .and 76 (tm 137) (tm 138)),
  sv 14 140 16,
  sm 15 141 (.un .xor (tm 140)),
  sv 16 142 18,
  sm 17 143 (.bin .and 76 (tm 141) (tm 142)),
  sm 18 144 (.bin .xor 76 (tm 139) (tm 143)),
  sv 20 146 10,
  sv 21 147 12,
  sm 22 148 (.ia (.sl 1) (tm 146) (tm 147)),
  ⟨23, (some 149), none, .mo (.ld1 (tm 148)), [], true⟩,
  sv 25 151 5,
  sv 26 152 12,
  sm 27 153 (.ia (.sl 1) (tm 151) (tm 152)),
  ⟨28, (some 154), none, .mo (.ld1 (tm 153)), [], true⟩,
  ⟨3, (some 129), none, .callF 226 [(tm 128), (.const (.int .i64 6))], [28, 23, 1], false⟩,
  ⟨5, (some 131), none, .callF 226 [(tm 130), (.const (.int .i64 11))], [28, 23, 1], false⟩,
  sm 6 132 (.bin .xor 76 (tm 129) (tm 131)),
  ⟨8, (some 134), none, .callF 226 [(tm 133), (.const (.int .i64 25))], [28, 23, 1], false⟩,
  sm 9 135 (.bin .xor 76 (tm 132) (tm 134)),
  sm 10 136 (.bin .add 76 (tm 127) (tm 135)),
  sm 19 145 (.bin .add 76 (tm 136) (tm 144)),
  sm 24 150 (.bin .add 76 (tm 145) (tm 149)),
  sm 29 155 (.bin .add 76 (tm 150) (tm 154)),
  sv 30 19 155])
  (.seq (.reg [sv 0 156 13,
  sc 1 157 226 [(tm 156), (.const (.int .i64 2))],
  sv 2 158 13,
  sc 3 159 226 [(tm 158), (.const (.int .i64 13))],
  sm 4 160 (.bin .xor 76 (tm 157) (tm 159)),
  sv 5 161 13,
  sc 6 162 226 [(tm 161), (.const (.int .i64 22))],
  sm 7 163 (.bin .xor 76 (tm 160) (tm 162)),
  sv 8 164 13,
  sv 9 165 14,
  sm 10 166 (.bin .and 76 (tm 164) (tm 165)),
  sv 11 167 13,
  sv 12 168 15,
  sm 13 169 (.bin .and 76 (tm 167) (tm 168)),
  sm 14 170 (.bin .xor 76 (tm 166) (tm 169)),
  sv 15 171 14,
  sv 16 172 15,
  sm 17 173 (.bin .and 76 (tm 171) (tm 172)),
  sm 18 174 (.bin .xor 76 (tm 170) (tm 173)),
  sm 19 175 (.bin .add 76 (tm 163) (tm 174)),
  sv 20 20 175])
  (.reg [sv 0 176 19,
  sv 1 177 20,
  sm 2 178 (.bin .add 76 (tm 176) (tm 177)),
  sv 3 179 13,
  sv 4 180 14,
  sv 5 181 15,
  sm 6 182 (.ia (.arr 8 1) (tm 11) (.const (.int .i64 3))),
  sm 7 183 (.ld1 (tm 182)),
  sv 8 184 19,
  sm 9 185 (.bin .add 76 (tm 183) (tm 184)),
  sv 10 186 16,
  sv 11 187 17,
  sv 12 188 18,
  sm 13 189 (.bld [.int .u32 0, .int .u32 0, .int .u32 0, .int .u32 0, .int .u32 0, .int .u32 0, .int .u32 0, .int .u32 0] [(0, 1, (tm 178)), (1, 1, (tm 179)), (2, 1, (tm 180)), (3, 1, (tm 181)), (4, 1, (tm 185)), (5, 1, (tm 186)), (6, 1, (tm 187)), (7, 1, (tm 188))]),
  se 14 (.st 8 (tm 11) (tm 189))])))))
  (.reg [sv 0 112 12,
  sm 1 113 (.bin .add 3 (tm 112) (.const (.int .i64 1))),
  sv 2 12 113])))
def l174_3 : Cd := (.seq (.seq (.reg [sv 0 190 21,
  sm 1 191 (.bin .lss 3 (tm 190) (.const (.int .i64 8)))])
  (.cond (tm 191) .skip (.exit 6)))
  (.seq (.block 7 (.reg [sv 0 194 21,
  sm 1 195 (.ia (.arr 8 1) (tm 2) (tm 194)),
  sm 2 196 (.ld1 (tm 195)),
  sv 3 197 21,
  sm 4 198 (.ia (.arr 8 1) (tm 11) (tm 197)),
  sm 5 199 (.ld1 (tm 198)),
  sm 6 200 (.bin .add 76 (tm 196) (tm 199)),
  sm 7 201 (.ia (.arr 8 1) (tm 2) (tm 194)),
  se 8 (.st 1 (tm 201) (tm 200))]))
  (.reg [sv 0 192 21,
  sm 1 193 (.bin .add 3 (tm 192) (.const (.int .i64 1))),
  sv 2 21 193])))
def c174 : Cd := (.seq (.reg [sm 0 2 (.box (tm 0)),
  sm 1 4 (.alloc [.int .u32 0, .int .u32 0, .int .u32 0, .int .u32 0, .int .u32 0, .int .u32 0, .int .u32 0, .int .u32 0])])
  (.seq (.reg [sm 0 5 (.mv (.const (.slice none 0 0)))])
  (.seq (.seq (.reg [sm 0 6 (.mv (.const (.int .i64 0)))])
  (.block 0 (.loop l174_0)))
  (.seq (.seq (.reg [sm 0 7 (.mv (.const (.int .i64 16)))])
  (.block 2 (.loop l174_1)))
  (.seq (.reg [sc 0 108 227 [],
  sv 1 10 108])
  (.seq (.reg [sm 0 109 (.ldA 8 (tm 2)),
  sm 1 11 (.alloc [.int .u32 0, .int .u32 0, .int .u32 0, .int .u32 0, .int .u32 0, .int .u32 0, .int .u32 0, .int .u32 0]),
  se 2 (.st 8 (tm 11) (tm 109))])
  (.seq (.seq (.reg [sm 0 12 (.mv (.const (.int .i64 0)))])
  (.block 4 (.loop l174_2)))
  (.seq (.seq (.reg [sm 0 21 (.mv (.const (.int .i64 0)))])
  (.block 6 (.loop l174_3)))
  (.seq (.reg [sm 0 202 (.ldA 8 (tm 2)),
  se 1 (.st 8 (tm 4) (tm 202))])
  .ret)))))))))
def r174 : List Mo := [.ldA 8 (tm 4)]
theorem c174_eq : compF Tryz.prog 174 = some c174 := by kernel_rfl
theorem r174_eq : compRs Tryz.prog 174 = some r174 := by kernel_rfl
/-! F175 braid/braidref02.Power -/
def l175_0 : Cd := (.seq (.seq (.reg [sv 0 8 1,
  sm 1 9 (.bin .gtr 40 (tm 8) (.const (.int .u64 0)))])
  (.cond (tm 9) .skip (.exit 0)))
  (.block 1 (.seq (.seq (.reg [sv 0 10 1,
  sm 1 11 (.bin .rem 40 (tm 10) (.const (.int .u64 2))),
  sm 2 12 (.bin .eql 40 (tm 11) (.const (.int .u64 1)))])
  (.cond (tm 12) (.reg [sv 0 13 7,
  sv 1 14 0,
  sm 2 15 (.bin .mul 40 (tm 13) (tm 14)),
  sv 3 16 2,
  sm 4 17 (.bin .rem 40 (tm 15) (tm 16)),
  sv 5 7 17]) .skip))
  (.seq (.reg [sv 0 18 0,
  sv 1 19 0,
  sm 2 20 (.bin .mul 40 (tm 18) (tm 19)),
  sv 3 21 2,
  sm 4 22 (.bin .rem 40 (tm 20) (tm 21)),
  sv 5 0 22])
  (.reg [sv 0 23 1,
  sm 1 24 (.bin .quo 40 (tm 23) (.const (.int .u64 2))),
  sv 2 1 24])))))
def c175 : Cd := (.seq (.reg [sm 0 6 (.mv (.const (.int .u64 0)))])
  (.seq (.reg [sm 0 7 (.mv (.const (.int .u64 1)))])
  (.seq (.block 0 (.loop l175_0))
  (.seq (.reg [sv 0 25 7,
  sv 1 6 25])
  .ret))))
def r175 : List Mo := [.mv (tm 6)]
theorem c175_eq : compF Tryz.prog 175 = some c175 := by kernel_rfl
theorem r175_eq : compRs Tryz.prog 175 = some r175 := by kernel_rfl
/-! F176 braid/braidref02.Inv -/
def c176 : Cd := (.seq (.reg [sm 0 2 (.mv (.const (.int .u32 0))),
  sm 1 3 (.mv (.const (.int .i64 0)))])
  (.seq (.seq (.reg [sv 0 4 0,
  sc 1 5 128 [(tm 4)],
  sm 2 6 (.un .not (tm 5))])
  (.cond (tm 6) (.seq (.reg [sm 0 2 (.mv (.const (.int .u32 0))),
  sm 1 3 (.mv (.const (.int .i64 2)))])
  .ret) .skip))
  (.seq (.reg [sv 0 7 0,
  sc 1 8 177 [(tm 7), (.const (.int .u64 500000002))],
  sv 2 2 8,
  sm 3 3 (.mv (.const (.int .i64 0)))])
  .ret)))
def r176 : List Mo := [.mv (tm 2), .mv (tm 3)]
theorem c176_eq : compF Tryz.prog 176 = some c176 := by kernel_rfl
theorem r176_eq : compRs Tryz.prog 176 = some r176 := by kernel_rfl
/-! F177 braid/braidref02.Raised -/
def c177 : Cd := (.seq (.reg [sm 0 4 (.mv (.const (.int .u32 0)))])
  (.seq (.reg [sv 0 5 0,
  sm 1 6 (.cint .u64 (tm 5)),
  sv 2 7 1,
  sc 3 8 175 [(tm 6), (tm 7), (.const (.int .u64 1000000007))],
  sm 4 9 (.cint .u32 (tm 8)),
  sv 5 4 9])
  .ret))
def r177 : List Mo := [.mv (tm 4)]
theorem c177_eq : compF Tryz.prog 177 = some c177 := by kernel_rfl
theorem r177_eq : compRs Tryz.prog 177 = some r177 := by kernel_rfl
/-! F178 braid/braidref02.Product -/
def c178 : Cd := (.seq (.reg [sm 0 4 (.mv (.const (.int .u32 0)))])
  (.seq (.reg [sv 0 5 0,
  sm 1 6 (.cint .u64 (tm 5)),
  sv 2 7 1,
  sm 3 8 (.cint .u64 (tm 7)),
  sm 4 9 (.bin .mul 40 (tm 6) (tm 8)),
  sm 5 10 (.bin .rem 40 (tm 9) (.const (.int .u64 1000000007))),
  sm 6 11 (.cint .u32 (tm 10)),
  sv 7 4 11])
  .ret))
def r178 : List Mo := [.mv (tm 4)]
theorem c178_eq : compF Tryz.prog 178 = some c178 := by kernel_rfl
theorem r178_eq : compRs Tryz.prog 178 = some r178 := by kernel_rfl
/-! F179 braid/ancestry.reach$1 -/
def l179_0 : Cd := (.seq (.reg [sm 0 27 (.bin .lss 3 (tm 26) (tm 25))])
  (.seq (.cond (tm 27) .skip (.exit 0))
  (.seq (.block 1 (.seq (.reg [sm 0 28 (.ia (.sl 32) (tm 24) (tm 26)),
  sm 1 29 (.ldA 32 (tm 28)),
  sm 2 8 (.alloc (rep 32 (.int .u8 0))),
  se 3 (.st 32 (tm 8) (tm 29))])
  (.reg [sm 0 30 (.ld1 (tm 4)),
  sm 1 31 (.ldA 32 (tm 8)),
  ⟨2, (some 32), none, .callV (tm 30) [(tm 31)], [], false⟩])))
  (.reg [sm 0 33 (.bin .add 3 (tm 26) (.const (.int .i64 1))),
  sv 1 26 33]))))
def c179 : Cd := (.seq (.reg [sm 0 5 (.box (tm 0))])
  (.seq (.reg [sm 0 9 (.ld1 (tm 1)),
  sm 1 10 (.ldA 32 (tm 5)),
  sm 2 11 (.lkp 48 (.int .i64 0) false (tm 9) (tm 10)),
  sv 3 6 11])
  (.seq (.seq (.reg [sm 0 12 (.ld1 (tm 2)),
  sv 1 13 6,
  sm 2 14 (.ia (.sl 1) (tm 12) (tm 13)),
  sm 3 15 (.ld1 (tm 14))])
  (.cond (tm 15) .ret .skip))
  (.seq (.reg [sm 0 16 (.ld1 (tm 2)),
  sv 1 17 6,
  sm 2 18 (.ia (.sl 1) (tm 16) (tm 17)),
  se 3 (.st 1 (tm 18) (.const (.bool true)))])
  (.seq (.reg [sm 0 19 (.fa 1 (tm 3)),
  sm 1 20 (.ld1 (tm 19)),
  sv 2 21 6,
  sm 3 22 (.ia (.sl 11) (tm 20) (tm 21)),
  sm 4 23 (.fa 1 (tm 22)),
  sm 5 24 (.ld1 (tm 23)),
  sm 6 25 (.len (.sl 32) (tm 24)),
  sm 7 26 (.mv (.const (.int .i64 0)))])
  (.block 0 (.loop l179_0)))))))
def r179 : List Mo := []
theorem c179_eq : compF Tryz.prog 179 = some c179 := by kernel_rfl
theorem r179_eq : compRs Tryz.prog 179 = some r179 := by kernel_rfl
/-! F180 slices.insertionSortCmpFunc[braid/api.Tag] -/
def l180_0 : Cd := (.seq (.seq (.reg [sv 0 18 9,
  sv 1 19 1,
  sm 2 20 (.bin .gtr 3 (tm 18) (tm 19)),
  sv 3 21 20,
  sg 4 22 21 true (.mv (tm 3)),
  sg 5 23 21 true (.mv (tm 0)),
  sg 6 24 21 true (.mv (tm 9)),
  sg 7 25 21 true (.ia (.sl 33) (tm 23) (tm 24)),
  sg 8 26 21 true (.ldA 33 (tm 25)),
  sg 9 27 21 true (.mv (tm 0)),
  sg 10 28 21 true (.mv (tm 9)),
  sg 11 29 21 true (.bin .sub 3 (tm 28) (.const (.int .i64 1))),
  sg 12 30 21 true (.ia (.sl 33) (tm 27) (tm 29)),
  sg 13 31 21 true (.ldA 33 (tm 30)),
  ⟨14, (some 32), (some ((some 21), true)), .callV (tm 22) [(tm 26), (tm 31)], [], false⟩,
  sg 15 33 21 true (.bin .lss 3 (tm 32) (.const (.int .i64 0))),
  sm 16 34 (.pick (tm 21) (tm 33) (.const (.bool false)))])
  (.cond (tm 34) .skip (.exit 2)))
  (.seq (.block 3 (.reg [sv 0 37 0,
  sv 1 38 9,
  sv 2 39 0,
  sv 3 40 9,
  sm 4 41 (.bin .sub 3 (tm 40) (.const (.int .i64 1))),
  sv 5 42 0,
  sv 6 43 9,
  sm 7 44 (.bin .sub 3 (tm 43) (.const (.int .i64 1))),
  sm 8 45 (.ia (.sl 33) (tm 42) (tm 44)),
  sm 9 46 (.ldA 33 (tm 45)),
  sv 10 47 0,
  sv 11 48 9,
  sm 12 49 (.ia (.sl 33) (tm 47) (tm 48)),
  sm 13 50 (.ldA 33 (tm 49)),
  sm 14 51 (.ia (.sl 33) (tm 37) (tm 38)),
  se 15 (.st 33 (tm 51) (tm 46)),
  sm 16 52 (.ia (.sl 33) (tm 39) (tm 41)),
  se 17 (.st 33 (tm 52) (tm 50))]))
  (.reg [sv 0 35 9,
  sm 1 36 (.bin .sub 3 (tm 35) (.const (.int .i64 1))),
  sv 2 9 36])))
def l180_1 : Cd := (.seq (.seq (.reg [sv 0 12 8,
  sv 1 13 2,
  sm 2 14 (.bin .lss 3 (tm 12) (tm 13))])
  (.cond (tm 14) .skip (.exit 0)))
  (.seq (.block 1 (.seq (.reg [sv 0 17 8,
  sv 1 9 17])
  (.block 2 (.loop l180_0))))
  (.reg [sv 0 15 8,
  sm 1 16 (.bin .add 3 (tm 15) (.const (.int .i64 1))),
  sv 2 8 16])))
def c180 : Cd := (.seq (.reg [sv 0 10 1,
  sm 1 11 (.bin .add 3 (tm 10) (.const (.int .i64 1))),
  sv 2 8 11])
  (.block 0 (.loop l180_1)))
def r180 : List Mo := []
theorem c180_eq : compF Tryz.prog 180 = some c180 := by kernel_rfl
theorem r180_eq : compRs Tryz.prog 180 = some r180 := by kernel_rfl
/-! F189 math/bits.Len64 -/
def c189 : Cd := (.seq (.reg [sm 0 2 (.mv (.const (.int .i64 0)))])
  (.seq (.seq (.reg [sv 0 3 0,
  sm 1 4 (.bin .geq 40 (tm 3) (.const (.int .u64 4294967296)))])
  (.cond (tm 4) (.seq (.reg [sv 0 5 0,
  sm 1 6 (.bin .shr 40 (tm 5) (.const (.int .u64 32))),
  sv 2 0 6])
  (.reg [sm 0 2 (.mv (.const (.int .i64 32)))])) .skip))
  (.seq (.seq (.reg [sv 0 7 0,
  sm 1 8 (.bin .geq 40 (tm 7) (.const (.int .u64 65536)))])
  (.cond (tm 8) (.seq (.reg [sv 0 9 0,
  sm 1 10 (.bin .shr 40 (tm 9) (.const (.int .u64 16))),
  sv 2 0 10])
  (.reg [sv 0 11 2,
  sm 1 12 (.bin .add 3 (tm 11) (.const (.int .i64 16))),
  sv 2 2 12])) .skip))
  (.seq (.seq (.reg [sv 0 13 0,
  sm 1 14 (.bin .geq 40 (tm 13) (.const (.int .u64 256)))])
  (.cond (tm 14) (.seq (.reg [sv 0 15 0,
  sm 1 16 (.bin .shr 40 (tm 15) (.const (.int .u64 8))),
  sv 2 0 16])
  (.reg [sv 0 17 2,
  sm 1 18 (.bin .add 3 (tm 17) (.const (.int .i64 8))),
  sv 2 2 18])) .skip))
  (.seq (.reg [sv 0 19 2,
  sv 1 20 0,
  sm 2 21 (.cint .u8 (tm 20)),
  sm 3 22 (.ixT (.const (.string ⟨#[0, 1, 2, 2, 3, 3, 3, 3, 4, 4, 4, 4, 4, 4, 4, 4, 5, 5, 5, 5, 5, 5, 5, 5, 5, 5, 5, 5, 5, 5, 5, 5, 6, 6, 6, 6, 6, 6, 6, 6, 6, 6, 6, 6, 6, 6, 6, 6, 6, 6, 6, 6, 6, 6, 6, 6, 6, 6, 6, 6, 6, 6, 6, 6, 7, 7, 7, 7, 7, 7, 7, 7, 7, 7, 7, 7, 7, 7, 7, 7, 7, 7, 7, 7, 7, 7, 7, 7, 7, 7, 7, 7, 7, 7, 7, 7, 7, 7, 7, 7, 7, 7, 7, 7, 7, 7, 7, 7, 7, 7, 7, 7, 7, 7, 7, 7, 7, 7, 7, 7, 7, 7, 7, 7, 7, 7, 7, 7, 8, 8, 8, 8, 8, 8, 8, 8, 8, 8, 8, 8, 8, 8, 8, 8, 8, 8, 8, 8, 8, 8, 8, 8, 8, 8, 8, 8, 8, 8, 8, 8, 8, 8, 8, 8, 8, 8, 8, 8, 8, 8, 8, 8, 8, 8, 8, 8, 8, 8, 8, 8, 8, 8, 8, 8, 8, 8, 8, 8, 8, 8, 8, 8, 8, 8, 8, 8, 8, 8, 8, 8, 8, 8, 8, 8, 8, 8, 8, 8, 8, 8, 8, 8, 8, 8, 8, 8, 8, 8, 8, 8, 8, 8, 8, 8, 8, 8, 8, 8, 8, 8, 8, 8, 8, 8, 8, 8, 8, 8, 8, 8, 8, 8, 8, 8, 8, 8, 8, 8, 8, 8, 8, 8, 8, 8, 8, 8]⟩)) (tm 21)),
  sm 4 23 (.cint .i64 (tm 22)),
  sm 5 24 (.bin .add 3 (tm 19) (tm 23)),
  sv 6 2 24])
  .ret)))))
def r189 : List Mo := [.mv (tm 2)]
theorem c189_eq : compF Tryz.prog 189 = some c189 := by kernel_rfl
theorem r189_eq : compRs Tryz.prog 189 = some r189 := by kernel_rfl
/-! F190 cmp.isNaN[string] -/
def c190 : Cd := (.seq (.reg [sm 0 2 (.mv (.const (.bool false)))])
  (.seq (.reg [sv 0 3 0,
  sv 1 4 0,
  sm 2 5 (.bin .neq 9 (tm 3) (tm 4)),
  sv 3 2 5])
  .ret))
def r190 : List Mo := [.mv (tm 2)]
theorem c190_eq : compF Tryz.prog 190 = some c190 := by kernel_rfl
theorem r190_eq : compRs Tryz.prog 190 = some r190 := by kernel_rfl
/-! F194 slices.Concat[[]byte,byte] -/
def l194_0 : Cd := (.seq (.reg [sm 0 12 (.bin .lss 3 (tm 11) (tm 10))])
  (.seq (.cond (tm 12) .skip (.exit 0))
  (.seq (.block 1 (.seq (.reg [sm 0 13 (.ia (.sl 1) (tm 9) (tm 11)),
  sm 1 14 (.ld1 (tm 13)),
  sv 2 5 14])
  (.seq (.reg [sv 0 15 3,
  sv 1 16 5,
  sm 2 17 (.len (.sl 1) (tm 16)),
  sm 3 18 (.bin .add 3 (tm 15) (tm 17)),
  sv 4 3 18])
  (.seq (.reg [sv 0 19 3,
  sm 1 20 (.bin .lss 3 (tm 19) (.const (.int .i64 0)))])
  (.cond (tm 20) (.reg [sm 0 21 (.mkI 9 (.const (.string ⟨#[108, 101, 110, 32, 111, 117, 116, 32, 111, 102, 32, 114, 97, 110, 103, 101]⟩))),
  se 1 (.stop)]) .skip)))))
  (.reg [sm 0 22 (.bin .add 3 (tm 11) (.const (.int .i64 1))),
  sv 1 11 22]))))
def l194_1 : Cd := (.seq (.reg [sm 0 28 (.bin .lss 3 (tm 27) (tm 26))])
  (.seq (.cond (tm 28) .skip (.exit 2))
  (.seq (.block 3 (.seq (.reg [sm 0 29 (.ia (.sl 1) (tm 25) (tm 27)),
  sm 1 30 (.ld1 (tm 29)),
  sv 2 8 30])
  (.reg [sv 0 31 6,
  sv 1 32 8,
  sm 2 33 (.app 1 1 (tm 31) (tm 32)),
  sv 3 6 33])))
  (.reg [sm 0 34 (.bin .add 3 (tm 27) (.const (.int .i64 1))),
  sv 1 27 34]))))
def c194 : Cd := (.seq (.reg [sm 0 2 (.mv (.const (.slice none 0 0)))])
  (.seq (.reg [sm 0 3 (.mv (.const (.int .i64 0)))])
  (.seq (.seq (.reg [sv 0 9 0,
  sm 1 10 (.len (.sl 1) (tm 9)),
  sm 2 11 (.mv (.const (.int .i64 0)))])
  (.block 0 (.loop l194_0)))
  (.seq (.reg [sv 0 23 3,
  sc 1 24 235 [(.const (.slice none 0 0)), (tm 23)],
  sv 2 6 24])
  (.seq (.seq (.reg [sv 0 25 0,
  sm 1 26 (.len (.sl 1) (tm 25)),
  sm 2 27 (.mv (.const (.int .i64 0)))])
  (.block 2 (.loop l194_1)))
  (.seq (.reg [sv 0 35 6,
  sv 1 2 35])
  .ret))))))
def r194 : List Mo := [.mv (tm 2)]
theorem c194_eq : compF Tryz.prog 194 = some c194 := by kernel_rfl
theorem r194_eq : compRs Tryz.prog 194 = some r194 := by kernel_rfl
/-! F195 braid/wire.Number -/
def l195_0 : Cd := (.seq (.reg [sm 0 25 (.bin .lss 3 (tm 24) (tm 23))])
  (.seq (.cond (tm 25) .skip (.exit 0))
  (.seq (.block 1 (.seq (.reg [sv 0 26 24,
  sv 1 5 26])
  (.reg [sv 0 27 4,
  sv 1 28 3,
  sv 2 29 5,
  sm 3 30 (.bin .sub 3 (tm 28) (tm 29)),
  sv 4 31 0,
  sv 5 32 5,
  sm 6 33 (.bin .mul 3 (.const (.int .i64 8)) (tm 32)),
  sm 7 34 (.bin .shr 40 (tm 31) (tm 33)),
  sm 8 35 (.cint .u8 (tm 34)),
  sm 9 36 (.ia (.sl 1) (tm 27) (tm 30)),
  se 10 (.st 1 (tm 36) (tm 35))])))
  (.reg [sm 0 37 (.bin .add 3 (tm 24) (.const (.int .i64 1))),
  sv 1 24 37]))))
def c195 : Cd := (.seq (.reg [sm 0 2 (.mv (.const (.slice none 0 0)))])
  (.seq (.seq (.reg [sv 0 6 0,
  sm 1 7 (.bin .leq 40 (tm 6) (.const (.int .u64 247)))])
  (.cond (tm 7) (.seq (.reg [sv 0 8 0,
  sm 1 9 (.cint .u8 (tm 8)),
  sm 2 10 (.bsl 1 [.int .u8 0] 1 [(0, (tm 9))]),
  sv 3 2 10])
  .ret) .skip))
  (.seq (.reg [sv 0 11 0,
  sc 1 12 189 [(tm 11)],
  sm 2 13 (.bin .add 3 (tm 12) (.const (.int .i64 7))),
  sm 3 14 (.bin .quo 3 (tm 13) (.const (.int .i64 8))),
  sv 4 3 14])
  (.seq (.reg [sv 0 15 3,
  sm 1 16 (.bin .add 3 (tm 15) (.const (.int .i64 1))),
  sm 2 17 (.mks 1 1 [.int .u8 0] (tm 16) (tm 16)),
  sv 3 4 17])
  (.seq (.reg [sv 0 18 4,
  sv 1 19 3,
  sm 2 20 (.bin .add 3 (.const (.int .i64 247)) (tm 19)),
  sm 3 21 (.cint .u8 (tm 20)),
  sm 4 22 (.ia (.sl 1) (tm 18) (.const (.int .i64 0))),
  se 5 (.st 1 (tm 22) (tm 21))])
  (.seq (.seq (.reg [sv 0 23 3,
  sm 1 24 (.mv (.const (.int .i64 0)))])
  (.block 0 (.loop l195_0)))
  (.seq (.reg [sv 0 38 4,
  sv 1 2 38])
  .ret)))))))
def r195 : List Mo := [.mv (tm 2)]
theorem c195_eq : compF Tryz.prog 195 = some c195 := by kernel_rfl
theorem r195_eq : compRs Tryz.prog 195 = some r195 := by kernel_rfl
/-! F196 braid/digest.Pieces -/
def l196_0 : Cd := (.seq (.reg [sm 0 19 (.bin .lss 3 (tm 18) (tm 17))])
  (.seq (.cond (tm 19) .skip (.exit 0))
  (.seq (.block 1 (.seq (.reg [sm 0 20 (.ia (.sl 1) (tm 16) (tm 18)),
  sm 1 21 (.ld1 (tm 20)),
  sv 2 6 21])
  (.reg [sm 0 22 (.ldA 10 (tm 4)),
  sv 1 23 6,
  sc 2 24 239 [(tm 22), (tm 23)],
  se 3 (.st 10 (tm 4) (tm 24))])))
  (.reg [sm 0 25 (.bin .add 3 (tm 18) (.const (.int .i64 1))),
  sv 1 18 25]))))
def c196 : Cd := (.seq (.reg [sm 0 2 (.alloc (rep 32 (.int .u8 0))),
  sm 1 3 (.mv (.const (.int .i64 0)))])
  (.seq (.seq (.reg [sv 0 7 0,
  sm 1 8 (.len (.sl 1) (tm 7)),
  sm 2 9 (.bin .gtr 3 (tm 8) (.const (.int .i64 20))),
  sv 3 10 9,
  sg 4 11 10 false (.mv (tm 0)),
  ⟨5, (some 12), (some ((some 10), false)), .callF 236 [(tm 11), (.func 237)], [], false⟩,
  sm 6 13 (.pick (tm 10) (.const (.bool true)) (tm 12))])
  (.cond (tm 13) (.seq (.reg [sm 0 14 (.bld (rep 32 (.int .u8 0)) []),
  se 1 (.st 32 (tm 2) (tm 14)),
  sm 2 3 (.mv (.const (.int .i64 4)))])
  .ret) .skip))
  (.seq (.reg [sc 0 15 238 [],
  sm 1 4 (.alloc [.int .u32 0, .int .u32 0, .int .u32 0, .int .u32 0, .int .u32 0, .int .u32 0, .int .u32 0, .int .u32 0, .nilS, .int .i64 0]),
  se 2 (.st 10 (tm 4) (tm 15))])
  (.seq (.seq (.reg [sv 0 16 0,
  sm 1 17 (.len (.sl 1) (tm 16)),
  sm 2 18 (.mv (.const (.int .i64 0)))])
  (.block 0 (.loop l196_0)))
  (.seq (.reg [sm 0 26 (.ldA 10 (tm 4)),
  sc 1 27 240 [(tm 26)],
  se 2 (.st 32 (tm 2) (tm 27)),
  sm 3 3 (.mv (.const (.int .i64 0)))])
  .ret)))))
def r196 : List Mo := [.ldA 32 (tm 2), .mv (tm 3)]
theorem c196_eq : compF Tryz.prog 196 = some c196 := by kernel_rfl
theorem r196_eq : compRs Tryz.prog 196 = some r196 := by kernel_rfl
/-! F197 slices.IsSortedFunc[[]braid/api.ID,braid/api.ID] -/
def l197_0 : Cd := (.seq (.seq (.reg [sv 0 9 5,
  sm 1 10 (.bin .gtr 3 (tm 9) (.const (.int .i64 0)))])
  (.cond (tm 10) .skip (.exit 0)))
  (.seq (.block 1 (.seq (.reg [sv 0 13 1,
  sv 1 14 0,
  sv 2 15 5,
  sm 3 16 (.ia (.sl 32) (tm 14) (tm 15)),
  sm 4 17 (.ldA 32 (tm 16)),
  sv 5 18 0,
  sv 6 19 5,
  sm 7 20 (.bin .sub 3 (tm 19) (.const (.int .i64 1))),
  sm 8 21 (.ia (.sl 32) (tm 18) (tm 20)),
  sm 9 22 (.ldA 32 (tm 21)),
  ⟨10, (some 23), none, .callV (tm 13) [(tm 17), (tm 22)], [], false⟩,
  sm 11 24 (.bin .lss 3 (tm 23) (.const (.int .i64 0)))])
  (.cond (tm 24) (.seq (.reg [sm 0 4 (.mv (.const (.bool false)))])
  .ret) .skip)))
  (.reg [sv 0 11 5,
  sm 1 12 (.bin .sub 3 (tm 11) (.const (.int .i64 1))),
  sv 2 5 12])))
def c197 : Cd := (.seq (.reg [sm 0 4 (.mv (.const (.bool false)))])
  (.seq (.seq (.reg [sv 0 6 0,
  sm 1 7 (.len (.sl 32) (tm 6)),
  sm 2 8 (.bin .sub 3 (tm 7) (.const (.int .i64 1))),
  sv 3 5 8])
  (.block 0 (.loop l197_0)))
  (.seq (.reg [sm 0 4 (.mv (.const (.bool true)))])
  .ret)))
def r197 : List Mo := [.mv (tm 4)]
theorem c197_eq : compF Tryz.prog 197 = some c197 := by kernel_rfl
theorem r197_eq : compRs Tryz.prog 197 = some r197 := by kernel_rfl
/-! F198 slices.Compact[[]braid/api.ID,braid/api.ID] -/
def l198_0 : Cd := (.seq (.seq (.reg [sv 0 29 5,
  sv 1 30 4,
  sm 2 31 (.len (.sl 32) (tm 30)),
  sm 3 32 (.bin .lss 3 (tm 29) (tm 31))])
  (.cond (tm 32) .skip (.exit 2)))
  (.seq (.block 3 (.seq (.reg [sv 0 35 4,
  sv 1 36 5,
  sm 2 37 (.ia (.sl 32) (tm 35) (tm 36)),
  sm 3 38 (.ldA 32 (tm 37)),
  sv 4 39 4,
  sv 5 40 5,
  sm 6 41 (.bin .sub 3 (tm 40) (.const (.int .i64 1))),
  sm 7 42 (.ia (.sl 32) (tm 39) (tm 41)),
  sm 8 43 (.ldA 32 (tm 42)),
  sm 9 44 (.bin .neq 48 (tm 38) (tm 43))])
  (.cond (tm 44) (.seq (.reg [sv 0 45 0,
  sv 1 46 3,
  sv 2 47 4,
  sv 3 48 5,
  sm 4 49 (.ia (.sl 32) (tm 47) (tm 48)),
  sm 5 50 (.ldA 32 (tm 49)),
  sm 6 51 (.ia (.sl 32) (tm 45) (tm 46)),
  se 7 (.st 32 (tm 51) (tm 50))])
  (.reg [sv 0 52 3,
  sm 1 53 (.bin .add 3 (tm 52) (.const (.int .i64 1))),
  sv 2 3 53])) .skip)))
  (.reg [sv 0 33 5,
  sm 1 34 (.bin .add 3 (tm 33) (.const (.int .i64 1))),
  sv 2 5 34])))
def l198_1 : Cd := (.seq (.seq (.reg [sv 0 10 3,
  sv 1 11 0,
  sm 2 12 (.len (.sl 32) (tm 11)),
  sm 3 13 (.bin .lss 3 (tm 10) (tm 12))])
  (.cond (tm 13) .skip (.exit 0)))
  (.seq (.block 1 (.seq (.reg [sv 0 16 0,
  sv 1 17 3,
  sm 2 18 (.ia (.sl 32) (tm 16) (tm 17)),
  sm 3 19 (.ldA 32 (tm 18)),
  sv 4 20 0,
  sv 5 21 3,
  sm 6 22 (.bin .sub 3 (tm 21) (.const (.int .i64 1))),
  sm 7 23 (.ia (.sl 32) (tm 20) (tm 22)),
  sm 8 24 (.ldA 32 (tm 23)),
  sm 9 25 (.bin .eql 48 (tm 19) (tm 24))])
  (.cond (tm 25) (.seq (.reg [sv 0 26 0,
  sv 1 27 3,
  sm 2 28 (.slice (.sl 32) (tm 26) (some (tm 27)) none none),
  sv 3 4 28])
  (.seq (.seq (.reg [sm 0 5 (.mv (.const (.int .i64 1)))])
  (.block 2 (.loop l198_0)))
  (.seq (.reg [sv 0 54 0,
  sv 1 55 3,
  sm 2 56 (.slice (.sl 32) (tm 54) (some (tm 55)) none none),
  se 3 (.clr (rep 32 (.int .u8 0)) (tm 56))])
  (.seq (.reg [sv 0 57 0,
  sv 1 58 3,
  sm 2 59 (.slice (.sl 32) (tm 57) none (some (tm 58)) none),
  sv 3 2 59])
  .ret)))) .skip)))
  (.reg [sv 0 14 3,
  sm 1 15 (.bin .add 3 (tm 14) (.const (.int .i64 1))),
  sv 2 3 15])))
def c198 : Cd := (.seq (.reg [sm 0 2 (.mv (.const (.slice none 0 0)))])
  (.seq (.seq (.reg [sv 0 6 0,
  sm 1 7 (.len (.sl 32) (tm 6)),
  sm 2 8 (.bin .lss 3 (tm 7) (.const (.int .i64 2)))])
  (.cond (tm 8) (.seq (.reg [sv 0 9 0,
  sv 1 2 9])
  .ret) .skip))
  (.seq (.seq (.reg [sm 0 3 (.mv (.const (.int .i64 1)))])
  (.block 0 (.loop l198_1)))
  (.seq (.reg [sv 0 60 0,
  sv 1 2 60])
  .ret))))
def r198 : List Mo := [.mv (tm 2)]
theorem c198_eq : compF Tryz.prog 198 = some c198 := by kernel_rfl
theorem r198_eq : compRs Tryz.prog 198 = some r198 := by kernel_rfl
/-! F199 braid/group.Is -/
def c199 : Cd := (.seq (.reg [sm 0 2 (.mv (.const (.bool false)))])
  (.seq (.reg [sv 0 3 0,
  sm 1 4 (.bin .gtr 76 (tm 3) (.const (.int .u32 0))),
  sv 2 5 4,
  sg 3 6 5 true (.mv (tm 0)),
  sg 4 7 5 true (.bin .lss 76 (tm 6) (.const (.int .u32 1000000007))),
  sm 5 8 (.pick (tm 5) (tm 7) (.const (.bool false))),
  sv 6 9 8,
  sg 7 10 9 true (.mv (tm 0)),
  ⟨8, (some 11), (some ((some 9), true)), .callF 241 [(tm 10), (.const (.int .u64 500000003))], [], false⟩,
  sg 9 12 9 true (.bin .eql 76 (tm 11) (.const (.int .u32 1))),
  sm 10 13 (.pick (tm 9) (tm 12) (.const (.bool false))),
  sv 11 2 13])
  .ret))
def r199 : List Mo := [.mv (tm 2)]
theorem c199_eq : compF Tryz.prog 199 = some c199 := by kernel_rfl
theorem r199_eq : compRs Tryz.prog 199 = some r199 := by kernel_rfl
/-! F200 braid/wire.IDs -/
def l200_0 : Cd := (.seq (.reg [sm 0 20 (.bin .lss 3 (tm 19) (tm 18))])
  (.seq (.cond (tm 20) .skip (.exit 0))
  (.seq (.block 1 (.seq (.reg [sm 0 21 (.ia (.sl 32) (tm 17) (tm 19)),
  sm 1 22 (.ldA 32 (tm 21)),
  sm 2 6 (.alloc (rep 32 (.int .u8 0))),
  se 3 (.st 32 (tm 6) (tm 22))])
  (.reg [sv 0 23 4,
  sm 1 24 (.slice (.arr 32 1) (tm 6) none none none),
  sm 2 25 (.app 1 1 (tm 23) (tm 24)),
  sv 3 4 25])))
  (.reg [sm 0 26 (.bin .add 3 (tm 19) (.const (.int .i64 1))),
  sv 1 19 26]))))
def c200 : Cd := (.seq (.reg [sm 0 2 (.mv (.const (.slice none 0 0))),
  sm 1 3 (.mv (.const (.int .i64 0)))])
  (.seq (.seq (.reg [sv 0 7 0,
  sm 1 8 (.len (.sl 32) (tm 7)),
  sm 2 9 (.bin .gtr 3 (tm 8) (.const (.int .i64 60)))])
  (.cond (tm 9) (.seq (.reg [sm 0 2 (.mv (.const (.slice none 0 0))),
  sm 1 3 (.mv (.const (.int .i64 4)))])
  .ret) .skip))
  (.seq (.seq (.reg [sv 0 10 0,
  sc 1 11 242 [(tm 10)],
  sm 2 12 (.un .not (tm 11))])
  (.cond (tm 12) (.seq (.reg [sm 0 2 (.mv (.const (.slice none 0 0))),
  sm 1 3 (.mv (.const (.int .i64 32)))])
  .ret) .skip))
  (.seq (.reg [sv 0 13 0,
  sm 1 14 (.len (.sl 32) (tm 13)),
  sm 2 15 (.cint .u64 (tm 14)),
  sc 3 16 195 [(tm 15)],
  sv 4 4 16])
  (.seq (.seq (.reg [sv 0 17 0,
  sm 1 18 (.len (.sl 32) (tm 17)),
  sm 2 19 (.mv (.const (.int .i64 0)))])
  (.block 0 (.loop l200_0)))
  (.seq (.reg [sv 0 27 4,
  sv 1 2 27,
  sm 2 3 (.mv (.const (.int .i64 0)))])
  .ret))))))
def r200 : List Mo := [.mv (tm 2), .mv (tm 3)]
theorem c200_eq : compF Tryz.prog 200 = some c200 := by kernel_rfl
theorem r200_eq : compRs Tryz.prog 200 = some r200 := by kernel_rfl
/-! F201 braid/wire.Bytes -/
def c201 : Cd := (.seq (.reg [sm 0 2 (.mv (.const (.slice none 0 0))),
  sm 1 3 (.mv (.const (.int .i64 0)))])
  (.seq (.seq (.reg [sv 0 4 0,
  sm 1 5 (.len (.sl 1) (tm 4)),
  sm 2 6 (.bin .gtr 3 (tm 5) (.const (.int .i64 10000)))])
  (.cond (tm 6) (.seq (.reg [sm 0 2 (.mv (.const (.slice none 0 0))),
  sm 1 3 (.mv (.const (.int .i64 4)))])
  .ret) .skip))
  (.seq (.reg [sv 0 7 0,
  sm 1 8 (.len (.sl 1) (tm 7)),
  sm 2 9 (.cint .u64 (tm 8)),
  sc 3 10 195 [(tm 9)],
  sv 4 11 0,
  sm 5 12 (.app 1 1 (tm 10) (tm 11)),
  sv 6 2 12,
  sm 7 3 (.mv (.const (.int .i64 0)))])
  .ret)))
def r201 : List Mo := [.mv (tm 2), .mv (tm 3)]
theorem c201_eq : compF Tryz.prog 201 = some c201 := by kernel_rfl
theorem r201_eq : compRs Tryz.prog 201 = some r201 := by kernel_rfl
/-! F202 braid/value.Encode -/
def l202_0 : Cd := (.seq (.seq (.reg [sv 0 28 6,
  sm 1 29 (.bin .geq 3 (tm 28) (.const (.int .i64 0)))])
  (.cond (tm 29) .skip (.exit 1)))
  (.seq (.block 2 (.reg [sv 0 32 5,
  sm 1 33 (.fa 2 (tm 1)),
  sm 2 34 (.ld1 (tm 33)),
  sv 3 35 6,
  sm 4 36 (.bin .shr 40 (tm 34) (tm 35)),
  sm 5 37 (.cint .u8 (tm 36)),
  sm 6 38 (.bsl 1 [.int .u8 0] 1 [(0, (tm 37))]),
  sm 7 39 (.app 1 1 (tm 32) (tm 38)),
  sv 8 5 39]))
  (.reg [sv 0 30 6,
  sm 1 31 (.bin .sub 3 (tm 30) (.const (.int .i64 8))),
  sv 2 6 31])))
def c202 : Cd := (.seq (.reg [sm 0 1 (.box (tm 0)),
  sm 1 2 (.mv (.const (.slice none 0 0))),
  sm 2 3 (.mv (.const (.int .i64 0)))])
  (.seq (.seq (.reg [sm 0 9 (.ldA 4 (tm 1)),
  sc 1 10 105 [(tm 9)],
  sv 2 4 10])
  (.seq (.reg [sv 0 11 4,
  sm 1 12 (.bin .neq 37 (tm 11) (.const (.int .i64 0)))])
  (.cond (tm 12) (.seq (.reg [sv 0 13 4,
  sm 1 2 (.mv (.const (.slice none 0 0))),
  sv 2 3 13])
  .ret) .skip)))
  (.seq (.reg [sm 0 14 (.fa 0 (tm 1)),
  sm 1 15 (.ld1 (tm 14)),
  sm 2 16 (.bsl 1 [.int .u8 0] 1 [(0, (tm 15))]),
  sv 3 5 16])
  (.seq (.seq (.reg [sm 0 17 (.fa 0 (tm 1)),
  sm 1 18 (.ld1 (tm 17))])
  (.block 0 (.seq (.reg [sm 0 20 (.bin .eql 5 (tm 18) (.const (.int .u8 1))),
  sv 1 19 20])
  (.cond (tm 19) (.reg [sv 0 21 5,
  sm 1 22 (.fa 1 (tm 1)),
  sm 2 23 (.ld1 (tm 22)),
  sc 3 24 243 [(tm 23)],
  sm 4 25 (.app 1 1 (tm 21) (tm 24)),
  sv 5 5 25]) (.seq (.reg [sm 0 27 (.bin .eql 5 (tm 18) (.const (.int .u8 2))),
  sv 1 26 27])
  (.cond (tm 26) (.seq (.reg [sm 0 6 (.mv (.const (.int .i64 56)))])
  (.block 1 (.loop l202_0))) (.seq (.reg [sm 0 41 (.bin .eql 5 (tm 18) (.const (.int .u8 3))),
  sv 1 40 41])
  (.cond (tm 40) (.seq (.reg [sm 0 43 (.fa 3 (tm 1)),
  sm 1 44 (.ld1 (tm 43)),
  sm 2 45 (.csb (tm 44)),
  sc 3 46 201 [(tm 45)],
  sv 4 42 46,
  sm 5 47 (.ext (tm 42) 0),
  sm 6 48 (.ext (tm 42) 1),
  sv 7 7 47,
  sv 8 8 48])
  (.reg [sv 0 49 5,
  sv 1 50 7,
  sm 2 51 (.app 1 1 (tm 49) (tm 50)),
  sv 3 5 51])) .skip))))))))
  (.seq (.reg [sv 0 52 5,
  sv 1 2 52,
  sm 2 3 (.mv (.const (.int .i64 0)))])
  .ret)))))
def r202 : List Mo := [.mv (tm 2), .mv (tm 3)]
theorem c202_eq : compF Tryz.prog 202 = some c202 := by kernel_rfl
theorem r202_eq : compRs Tryz.prog 202 = some r202 := by kernel_rfl
/-! F203 braid/group.Pow -/
def c203 : Cd := (.seq (.reg [sm 0 4 (.mv (.const (.int .u32 0))),
  sm 1 5 (.mv (.const (.int .i64 0)))])
  (.seq (.seq (.reg [sv 0 6 0,
  sm 1 7 (.bsl 1 [.int .u32 0] 1 [(0, (tm 6))]),
  sc 2 8 244 [(tm 7)],
  sm 3 9 (.un .not (tm 8))])
  (.cond (tm 9) (.seq (.reg [sm 0 4 (.mv (.const (.int .u32 0))),
  sm 1 5 (.mv (.const (.int .i64 2)))])
  .ret) .skip))
  (.seq (.reg [sv 0 10 0,
  sv 1 11 1,
  sc 2 12 241 [(tm 10), (tm 11)],
  sv 3 4 12,
  sm 4 5 (.mv (.const (.int .i64 0)))])
  .ret)))
def r203 : List Mo := [.mv (tm 4), .mv (tm 5)]
theorem c203_eq : compF Tryz.prog 203 = some c203 := by kernel_rfl
theorem r203_eq : compRs Tryz.prog 203 = some r203 := by kernel_rfl
/-! F204 braid/group.Mul -/
def c204 : Cd := (.seq (.reg [sm 0 4 (.mv (.const (.int .u32 0))),
  sm 1 5 (.mv (.const (.int .i64 0)))])
  (.seq (.seq (.reg [sv 0 6 0,
  sv 1 7 1,
  sm 2 8 (.bsl 1 [.int .u32 0] 2 [(0, (tm 6)), (1, (tm 7))]),
  sc 3 9 244 [(tm 8)],
  sm 4 10 (.un .not (tm 9))])
  (.cond (tm 10) (.seq (.reg [sm 0 4 (.mv (.const (.int .u32 0))),
  sm 1 5 (.mv (.const (.int .i64 2)))])
  .ret) .skip))
  (.seq (.reg [sv 0 11 0,
  sv 1 12 1,
  sm 2 13 (.bsl 1 [.int .u32 0] 2 [(0, (tm 11)), (1, (tm 12))]),
  sc 3 14 245 [(.const (.int .u64 1000000007)), (tm 13)],
  sv 4 4 14,
  sm 5 5 (.mv (.const (.int .i64 0)))])
  .ret)))
def r204 : List Mo := [.mv (tm 4), .mv (tm 5)]
theorem c204_eq : compF Tryz.prog 204 = some c204 := by kernel_rfl
theorem r204_eq : compRs Tryz.prog 204 = some r204 := by kernel_rfl
/-! F205 braid/group.Base -/
def c205 : Cd := (.seq (.reg [sm 0 2 (.mv (.const (.int .u32 0)))])
  (.seq (.reg [sv 0 3 0,
  sc 1 4 241 [(.const (.int .u32 4)), (tm 3)],
  sv 2 2 4])
  .ret))
def r205 : List Mo := [.mv (tm 2)]
theorem c205_eq : compF Tryz.prog 205 = some c205 := by kernel_rfl
theorem r205_eq : compRs Tryz.prog 205 = some r205 := by kernel_rfl
/-! F206 braid/sign.Challenge -/
def c206 : Cd := (.seq (.reg [sm 0 6 (.mv (.const (.int .u32 0))),
  sm 1 7 (.mv (.const (.int .i64 0)))])
  (.seq (.reg [sv 0 11 2,
  sv 1 12 0,
  sv 2 13 1,
  sm 3 14 (.bsl 1 [.int .u32 0] 2 [(0, (tm 12)), (1, (tm 13))]),
  sc 4 15 246 [(.const (.int .u8 99)), (tm 11), (tm 14)],
  sv 5 10 15,
  sm 6 16 (.ext (tm 10) 0),
  sm 7 17 (.ext (tm 10) 1),
  sv 8 8 16,
  sv 9 9 17])
  (.seq (.seq (.reg [sv 0 18 9,
  sm 1 19 (.bin .neq 37 (tm 18) (.const (.int .i64 0)))])
  (.cond (tm 19) (.seq (.reg [sv 0 20 9,
  sm 1 6 (.mv (.const (.int .u32 0))),
  sv 2 7 20])
  .ret) .skip))
  (.seq (.reg [sv 0 21 8,
  sm 1 22 (.bin .rem 40 (tm 21) (.const (.int .u64 500000003))),
  sm 2 23 (.cint .u32 (tm 22)),
  sv 3 6 23,
  sm 4 7 (.mv (.const (.int .i64 0)))])
  .ret))))
def r206 : List Mo := [.mv (tm 6), .mv (tm 7)]
theorem c206_eq : compF Tryz.prog 206 = some c206 := by kernel_rfl
theorem r206_eq : compRs Tryz.prog 206 = some r206 := by kernel_rfl
/-! F209 slices.IndexFunc[[]braid/api.Tag,braid/api.Tag] -/
def l209_0 : Cd := (.seq (.reg [sm 0 9 (.bin .lss 3 (tm 8) (tm 7))])
  (.seq (.cond (tm 9) .skip (.exit 0))
  (.seq (.block 1 (.seq (.reg [sv 0 10 8,
  sv 1 5 10])
  (.seq (.reg [sv 0 11 1,
  sv 1 12 0,
  sv 2 13 5,
  sm 3 14 (.ia (.sl 33) (tm 12) (tm 13)),
  sm 4 15 (.ldA 33 (tm 14)),
  ⟨5, (some 16), none, .callV (tm 11) [(tm 15)], [], false⟩])
  (.cond (tm 16) (.seq (.reg [sv 0 17 5,
  sv 1 4 17])
  .ret) .skip))))
  (.reg [sm 0 18 (.bin .add 3 (tm 8) (.const (.int .i64 1))),
  sv 1 8 18]))))
def c209 : Cd := (.seq (.reg [sm 0 4 (.mv (.const (.int .i64 0)))])
  (.seq (.seq (.reg [sv 0 6 0,
  sm 1 7 (.len (.sl 33) (tm 6)),
  sm 2 8 (.mv (.const (.int .i64 0)))])
  (.block 0 (.loop l209_0)))
  (.seq (.reg [sm 0 4 (.mv (.const (.int .i64 (-1))))])
  .ret)))
def r209 : List Mo := [.mv (tm 4)]
theorem c209_eq : compF Tryz.prog 209 = some c209 := by kernel_rfl
theorem r209_eq : compRs Tryz.prog 209 = some r209 := by kernel_rfl
/-! F210 slices.insertionSortCmpFunc[braid/api.ID] -/
def l210_0 : Cd := (.seq (.seq (.reg [sv 0 18 9,
  sv 1 19 1,
  sm 2 20 (.bin .gtr 3 (tm 18) (tm 19)),
  sv 3 21 20,
  sg 4 22 21 true (.mv (tm 3)),
  sg 5 23 21 true (.mv (tm 0)),
  sg 6 24 21 true (.mv (tm 9)),
  sg 7 25 21 true (.ia (.sl 32) (tm 23) (tm 24)),
  sg 8 26 21 true (.ldA 32 (tm 25)),
  sg 9 27 21 true (.mv (tm 0)),
  sg 10 28 21 true (.mv (tm 9)),
  sg 11 29 21 true (.bin .sub 3 (tm 28) (.const (.int .i64 1))),
  sg 12 30 21 true (.ia (.sl 32) (tm 27) (tm 29)),
  sg 13 31 21 true (.ldA 32 (tm 30)),
  ⟨14, (some 32), (some ((some 21), true)), .callV (tm 22) [(tm 26), (tm 31)], [], false⟩,
  sg 15 33 21 true (.bin .lss 3 (tm 32) (.const (.int .i64 0))),
  sm 16 34 (.pick (tm 21) (tm 33) (.const (.bool false)))])
  (.cond (tm 34) .skip (.exit 2)))
  (.seq (.block 3 (.reg [sv 0 37 0,
  sv 1 38 9,
  sv 2 39 0,
  sv 3 40 9,
  sm 4 41 (.bin .sub 3 (tm 40) (.const (.int .i64 1))),
  sv 5 42 0,
  sv 6 43 9,
  sm 7 44 (.bin .sub 3 (tm 43) (.const (.int .i64 1))),
  sm 8 45 (.ia (.sl 32) (tm 42) (tm 44)),
  sm 9 46 (.ldA 32 (tm 45)),
  sv 10 47 0,
  sv 11 48 9,
  sm 12 49 (.ia (.sl 32) (tm 47) (tm 48)),
  sm 13 50 (.ldA 32 (tm 49)),
  sm 14 51 (.ia (.sl 32) (tm 37) (tm 38)),
  se 15 (.st 32 (tm 51) (tm 46)),
  sm 16 52 (.ia (.sl 32) (tm 39) (tm 41)),
  se 17 (.st 32 (tm 52) (tm 50))]))
  (.reg [sv 0 35 9,
  sm 1 36 (.bin .sub 3 (tm 35) (.const (.int .i64 1))),
  sv 2 9 36])))
def l210_1 : Cd := (.seq (.seq (.reg [sv 0 12 8,
  sv 1 13 2,
  sm 2 14 (.bin .lss 3 (tm 12) (tm 13))])
  (.cond (tm 14) .skip (.exit 0)))
  (.seq (.block 1 (.seq (.reg [sv 0 17 8,
  sv 1 9 17])
  (.block 2 (.loop l210_0))))
  (.reg [sv 0 15 8,
  sm 1 16 (.bin .add 3 (tm 15) (.const (.int .i64 1))),
  sv 2 8 16])))
def c210 : Cd := (.seq (.reg [sv 0 10 1,
  sm 1 11 (.bin .add 3 (tm 10) (.const (.int .i64 1))),
  sv 2 8 11])
  (.block 0 (.loop l210_1)))
def r210 : List Mo := []
theorem c210_eq : compF Tryz.prog 210 = some c210 := by kernel_rfl
theorem r210_eq : compRs Tryz.prog 210 = some r210 := by kernel_rfl
/-! F218 strings.IndexFunc -/
def c218 : Cd := (.seq (.reg [sm 0 4 (.mv (.const (.int .i64 0)))])
  (.seq (.reg [sv 0 5 0,
  sv 1 6 1,
  sc 2 7 251 [(tm 5), (tm 6), (.const (.bool true))],
  sv 3 4 7])
  .ret))
def r218 : List Mo := [.mv (tm 4)]
theorem c218_eq : compF Tryz.prog 218 = some c218 := by kernel_rfl
theorem r218_eq : compRs Tryz.prog 218 = some r218 := by kernel_rfl
/-! F219 braid/op.key$1 -/
def c219 : Cd := (.seq (.reg [sm 0 2 (.mv (.const (.bool false)))])
  (.seq (.reg [sv 0 3 0,
  sm 1 4 (.bin .lss 21 (tm 3) (.const (.int .i32 33))),
  sv 2 5 4,
  sg 3 6 5 false (.mv (tm 0)),
  sg 4 7 5 false (.bin .gtr 21 (tm 6) (.const (.int .i32 126))),
  sm 5 8 (.pick (tm 5) (.const (.bool true)) (tm 7)),
  sv 6 2 8])
  .ret))
def r219 : List Mo := [.mv (tm 2)]
theorem c219_eq : compF Tryz.prog 219 = some c219 := by kernel_rfl
theorem r219_eq : compRs Tryz.prog 219 = some r219 := by kernel_rfl
/-! F223 braid/braidref03.four -/
def c223 : Cd := (.seq (.reg [sm 0 2 (.mv (.const (.slice none 0 0)))])
  (.seq (.reg [sv 0 3 0,
  sm 1 4 (.bin .quo 76 (tm 3) (.const (.int .u32 16777216))),
  sm 2 5 (.cint .u8 (tm 4)),
  sv 3 6 0,
  sm 4 7 (.bin .quo 76 (tm 6) (.const (.int .u32 65536))),
  sm 5 8 (.bin .rem 76 (tm 7) (.const (.int .u32 256))),
  sm 6 9 (.cint .u8 (tm 8)),
  sv 7 10 0,
  sm 8 11 (.bin .quo 76 (tm 10) (.const (.int .u32 256))),
  sm 9 12 (.bin .rem 76 (tm 11) (.const (.int .u32 256))),
  sm 10 13 (.cint .u8 (tm 12)),
  sv 11 14 0,
  sm 12 15 (.bin .rem 76 (tm 14) (.const (.int .u32 256))),
  sm 13 16 (.cint .u8 (tm 15)),
  sm 14 17 (.bsl 1 [.int .u8 0] 4 [(0, (tm 5)), (1, (tm 9)), (2, (tm 13)), (3, (tm 16))]),
  sv 15 2 17])
  .ret))
def r223 : List Mo := [.mv (tm 2)]
theorem c223_eq : compF Tryz.prog 223 = some c223 := by kernel_rfl
theorem r223_eq : compRs Tryz.prog 223 = some r223 := by kernel_rfl
/-! F224 braid/braidref03.number -/
def l224_0 : Cd := (.seq (.seq (.reg [sv 0 8 5,
  sm 1 9 (.bin .lss 3 (tm 8) (.const (.int .i64 8)))])
  (.cond (tm 9) .skip (.exit 0)))
  (.seq (.block 1 (.reg [sv 0 12 4,
  sm 1 13 (.bin .mul 40 (.const (.int .u64 256)) (tm 12)),
  sv 2 14 5,
  sm 3 15 (.ia (.arr 32 1) (tm 3) (tm 14)),
  sm 4 16 (.ld1 (tm 15)),
  sm 5 17 (.cint .u64 (tm 16)),
  sm 6 18 (.bin .add 40 (tm 13) (tm 17)),
  sv 7 4 18]))
  (.reg [sv 0 10 5,
  sm 1 11 (.bin .add 3 (tm 10) (.const (.int .i64 1))),
  sv 2 5 11])))
def c224 : Cd := (.seq (.reg [sm 0 2 (.mv (.const (.int .u64 0)))])
  (.seq (.reg [sv 0 6 0,
  sc 1 7 77 [(tm 6)],
  sm 2 3 (.alloc (rep 32 (.int .u8 0))),
  se 3 (.st 32 (tm 3) (tm 7))])
  (.seq (.reg [sm 0 4 (.mv (.const (.int .u64 0)))])
  (.seq (.seq (.reg [sm 0 5 (.mv (.const (.int .i64 0)))])
  (.block 0 (.loop l224_0)))
  (.seq (.reg [sv 0 19 4,
  sv 1 2 19])
  .ret)))))
def r224 : List Mo := [.mv (tm 2)]
theorem c224_eq : compF Tryz.prog 224 = some c224 := by kernel_rfl
theorem r224_eq : compRs Tryz.prog 224 = some r224 := by kernel_rfl
/-! F225 braid/braidref04.Signed -/
def c225 : Cd := (.seq (.reg [sm 0 2 (.mv (.const (.slice none 0 0)))])
  (.seq (.seq (.reg [sv 0 3 0,
  sm 1 4 (.bin .geq 2 (tm 3) (.const (.int .i64 0)))])
  (.cond (tm 4) (.seq (.reg [sv 0 5 0,
  sm 1 6 (.cint .u64 (tm 5)),
  sm 2 7 (.bin .mul 40 (.const (.int .u64 2)) (tm 6)),
  sc 3 8 127 [(tm 7)],
  sv 4 2 8])
  .ret) .skip))
  (.seq (.reg [sv 0 9 0,
  sm 1 10 (.bin .add 2 (tm 9) (.const (.int .i64 1))),
  sm 2 11 (.un .neg (tm 10)),
  sm 3 12 (.cint .u64 (tm 11)),
  sm 4 13 (.bin .mul 40 (.const (.int .u64 2)) (tm 12)),
  sm 5 14 (.bin .add 40 (tm 13) (.const (.int .u64 1))),
  sc 6 15 127 [(tm 14)],
  sv 7 2 15])
  .ret)))
def r225 : List Mo := [.mv (tm 2)]
theorem c225_eq : compF Tryz.prog 225 = some c225 := by kernel_rfl
theorem r225_eq : compRs Tryz.prog 225 = some r225 := by kernel_rfl
/-! F226 braid/braidref01.turn -/
def c226 : Cd := (.seq (.reg [sm 0 4 (.mv (.const (.int .u32 0)))])
  (.seq (.reg [sv 0 5 0,
  sv 1 6 1,
  sm 2 7 (.bin .shr 76 (tm 5) (tm 6)),
  sv 3 8 0,
  sv 4 9 1,
  sm 5 10 (.bin .sub 3 (.const (.int .i64 32)) (tm 9)),
  sm 6 11 (.bin .shl 76 (tm 8) (tm 10)),
  sm 7 12 (.bin .or 76 (tm 7) (tm 11)),
  sv 8 4 12])
  .ret))
def r226 : List Mo := [.mv (tm 4)]
theorem c226_eq : compF Tryz.prog 226 = some c226 := by kernel_rfl
theorem r226_eq : compRs Tryz.prog 226 = some r226 := by kernel_rfl
/-! F227 braid/braidref01.constants -/
def c227 : Cd := (.seq (.reg [sm 0 0 (.mv (.const (.slice none 0 0)))])
  (.seq (.reg [sm 0 1 (.bsl 1 [.int .u32 0] 64 [(0, (.const (.int .u32 1116352408))), (1, (.const (.int .u32 1899447441))), (2, (.const (.int .u32 3049323471))), (3, (.const (.int .u32 3921009573))), (4, (.const (.int .u32 961987163))), (5, (.const (.int .u32 1508970993))), (6, (.const (.int .u32 2453635748))), (7, (.const (.int .u32 2870763221))), (8, (.const (.int .u32 3624381080))), (9, (.const (.int .u32 310598401))), (10, (.const (.int .u32 607225278))), (11, (.const (.int .u32 1426881987))), (12, (.const (.int .u32 1925078388))), (13, (.const (.int .u32 2162078206))), (14, (.const (.int .u32 2614888103))), (15, (.const (.int .u32 3248222580))), (16, (.const (.int .u32 3835390401))), (17, (.const (.int .u32 4022224774))), (18, (.const (.int .u32 264347078))), (19, (.const (.int .u32 604807628))), (20, (.const (.int .u32 770255983))), (21, (.const (.int .u32 1249150122))), (22, (.const (.int .u32 1555081692))), (23, (.const (.int .u32 1996064986))), (24, (.const (.int .u32 2554220882))), (25, (.const (.int .u32 2821834349))), (26, (.const (.int .u32 2952996808))), (27, (.const (.int .u32 3210313671))), (28, (.const (.int .u32 3336571891))), (29, (.const (.int .u32 3584528711))), (30, (.const (.int .u32 113926993))), (31, (.const (.int .u32 338241895))), (32, (.const (.int .u32 666307205))), (33, (.const (.int .u32 773529912))), (34, (.const (.int .u32 1294757372))), (35, (.const (.int .u32 1396182291))), (36, (.const (.int .u32 1695183700))), (37, (.const (.int .u32 1986661051))), (38, (.const (.int .u32 2177026350))), (39, (.const (.int .u32 2456956037))), (40, (.const (.int .u32 2730485921))), (41, (.const (.int .u32 2820302411))), (42, (.const (.int .u32 3259730800))), (43, (.const (.int .u32 3345764771))), (44, (.const (.int .u32 3516065817))), (45, (.const (.int .u32 3600352804))), (46, (.const (.int .u32 4094571909))), (47, (.const (.int .u32 275423344))), (48, (.const (.int .u32 430227734))), (49, (.const (.int .u32 506948616))), (50, (.const (.int .u32 659060556))), (51, (.const (.int .u32 883997877))), (52, (.const (.int .u32 958139571))), (53, (.const (.int .u32 1322822218))), (54, (.const (.int .u32 1537002063))), (55, (.const (.int .u32 1747873779))), (56, (.const (.int .u32 1955562222))), (57, (.const (.int .u32 2024104815))), (58, (.const (.int .u32 2227730452))), (59, (.const (.int .u32 2361852424))), (60, (.const (.int .u32 2428436474))), (61, (.const (.int .u32 2756734187))), (62, (.const (.int .u32 3204031479))), (63, (.const (.int .u32 3329325298)))]),
  sv 1 0 1])
  .ret))
def r227 : List Mo := [.mv (tm 0)]
theorem c227_eq : compF Tryz.prog 227 = some c227 := by kernel_rfl
theorem r227_eq : compRs Tryz.prog 227 = some r227 := by kernel_rfl
/-! F235 slices.Grow[[]byte,byte] -/
def c235 : Cd := (.seq (.reg [sm 0 4 (.mv (.const (.slice none 0 0)))])
  (.seq (.seq (.reg [sv 0 5 1,
  sm 1 6 (.bin .lss 3 (tm 5) (.const (.int .i64 0)))])
  (.cond (tm 6) (.reg [sm 0 7 (.mkI 9 (.const (.string ⟨#[99, 97, 110, 110, 111, 116, 32, 98, 101, 32, 110, 101, 103, 97, 116, 105, 118, 101]⟩))),
  se 1 (.stop)]) .skip))
  (.seq (.seq (.reg [sv 0 8 1,
  sv 1 9 0,
  sm 2 10 (.cap (.sl 1) (tm 9)),
  sv 3 11 0,
  sm 4 12 (.len (.sl 1) (tm 11)),
  sm 5 13 (.bin .sub 3 (tm 10) (tm 12)),
  sm 6 14 (.bin .sub 3 (tm 8) (tm 13)),
  sv 7 1 14])
  (.seq (.reg [sv 0 15 1,
  sm 1 16 (.bin .gtr 3 (tm 15) (.const (.int .i64 0)))])
  (.cond (tm 16) (.reg [sv 0 17 0,
  sv 1 18 0,
  sm 2 19 (.cap (.sl 1) (tm 18)),
  sm 3 20 (.slice (.sl 1) (tm 17) none (some (tm 19)) none),
  sv 4 21 1,
  sm 5 22 (.appZ 1 1 [.int .u8 0] (tm 20) (tm 21)),
  sv 6 23 0,
  sm 7 24 (.len (.sl 1) (tm 23)),
  sm 8 25 (.slice (.sl 1) (tm 22) none (some (tm 24)) none),
  sv 9 0 25]) .skip)))
  (.seq (.reg [sv 0 26 0,
  sv 1 4 26])
  .ret))))
def r235 : List Mo := [.mv (tm 4)]
theorem c235_eq : compF Tryz.prog 235 = some c235 := by kernel_rfl
theorem r235_eq : compRs Tryz.prog 235 = some r235 := by kernel_rfl
/-! F236 slices.ContainsFunc[[][]byte,[]byte] -/
def c236 : Cd := (.seq (.reg [sm 0 4 (.mv (.const (.bool false)))])
  (.seq (.reg [sv 0 5 0,
  sv 1 6 1,
  sc 2 7 257 [(tm 5), (tm 6)],
  sm 3 8 (.bin .geq 3 (tm 7) (.const (.int .i64 0))),
  sv 4 4 8])
  .ret))
def r236 : List Mo := [.mv (tm 4)]
theorem c236_eq : compF Tryz.prog 236 = some c236 := by kernel_rfl
theorem r236_eq : compRs Tryz.prog 236 = some r236 := by kernel_rfl
/-! F237 braid/digest.Pieces$1 -/
def c237 : Cd := (.seq (.reg [sm 0 2 (.mv (.const (.bool false)))])
  (.seq (.reg [sv 0 3 0,
  sm 1 4 (.len (.sl 1) (tm 3)),
  sm 2 5 (.bin .gtr 3 (tm 4) (.const (.int .i64 10000))),
  sv 3 2 5])
  .ret))
def r237 : List Mo := [.mv (tm 2)]
theorem c237_eq : compF Tryz.prog 237 = some c237 := by kernel_rfl
theorem r237_eq : compRs Tryz.prog 237 = some r237 := by kernel_rfl
/-! F238 braid/digest.Start -/
def c238 : Cd := (.seq (.reg [sm 0 0 (.alloc [.int .u32 0, .int .u32 0, .int .u32 0, .int .u32 0, .int .u32 0, .int .u32 0, .int .u32 0, .int .u32 0, .nilS, .int .i64 0])])
  (.seq (.reg [sm 0 1 (.bld [.int .u32 0, .int .u32 0, .int .u32 0, .int .u32 0, .int .u32 0, .int .u32 0, .int .u32 0, .int .u32 0] [(0, 1, (.const (.int .u32 1779033703))), (1, 1, (.const (.int .u32 3144134277))), (2, 1, (.const (.int .u32 1013904242))), (3, 1, (.const (.int .u32 2773480762))), (4, 1, (.const (.int .u32 1359893119))), (5, 1, (.const (.int .u32 2600822924))), (6, 1, (.const (.int .u32 528734635))), (7, 1, (.const (.int .u32 1541459225)))]),
  sm 1 2 (.bld [.int .u32 0, .int .u32 0, .int .u32 0, .int .u32 0, .int .u32 0, .int .u32 0, .int .u32 0, .int .u32 0, .nilS, .int .i64 0] [(0, 8, (tm 1))]),
  se 2 (.st 10 (tm 0) (tm 2))])
  .ret))
def r238 : List Mo := [.ldA 10 (tm 0)]
theorem c238_eq : compF Tryz.prog 238 = some c238 := by kernel_rfl
theorem r238_eq : compRs Tryz.prog 238 = some r238 := by kernel_rfl
/-! F239 braid/digest.feed -/
def l239_0 : Cd := (.seq (.seq (.reg [sv 0 11 5,
  sm 1 12 (.len (.sl 1) (tm 11)),
  sm 2 13 (.bin .geq 3 (tm 12) (.const (.int .i64 64)))])
  (.cond (tm 13) .skip (.exit 0)))
  (.block 1 (.seq (.reg [sm 0 14 (.fa 0 (tm 2)),
  sv 1 15 5,
  sc 2 16 258 [(tm 14), (tm 15)]])
  (.reg [sv 0 17 5,
  sm 1 18 (.slice (.sl 1) (tm 17) (some (.const (.int .i64 64))) none none),
  sv 2 5 18]))))
def c239 : Cd := (.seq (.reg [sm 0 2 (.box (tm 0)),
  sm 1 4 (.alloc [.int .u32 0, .int .u32 0, .int .u32 0, .int .u32 0, .int .u32 0, .int .u32 0, .int .u32 0, .int .u32 0, .nilS, .int .i64 0])])
  (.seq (.reg [sm 0 6 (.fa 8 (tm 2)),
  sm 1 7 (.ld1 (tm 6)),
  sv 2 8 1,
  sm 3 9 (.bsl 1 [.nilS] 2 [(0, (tm 7)), (1, (tm 8))]),
  sc 4 10 194 [(tm 9)],
  sv 5 5 10])
  (.seq (.block 0 (.loop l239_0))
  (.seq (.dreg [sm 0 19 (.fa 9 (tm 2)),
  ⟨1, (some 20), none, .mo (.ld1 (tm 19)), [], true⟩,
  sv 2 21 1,
  sm 3 22 (.len (.sl 1) (tm 21)),
  sm 4 23 (.bin .add 3 (tm 20) (tm 22)),
  sv 5 24 5,
  ⟨6, (some 25), none, .callF 259 [(tm 24)], [1], false⟩,
  sm 7 26 (.fa 9 (tm 2)),
  se 8 (.st 1 (tm 26) (tm 23)),
  sm 9 27 (.fa 8 (tm 2)),
  se 10 (.st 1 (tm 27) (tm 25))])
  (.seq (.reg [sm 0 28 (.ldA 10 (tm 2)),
  se 1 (.st 10 (tm 4) (tm 28))])
  .ret)))))
def r239 : List Mo := [.ldA 10 (tm 4)]
theorem c239_eq : compF Tryz.prog 239 = some c239 := by kernel_rfl
theorem r239_eq : compRs Tryz.prog 239 = some r239 := by kernel_rfl
/-! F240 braid/digest.end -/
def l240_0 : Cd := (.seq (.seq (.reg [sv 0 19 5,
  sm 1 20 (.bin .geq 3 (tm 19) (.const (.int .i64 0)))])
  (.cond (tm 20) .skip (.exit 0)))
  (.seq (.block 1 (.reg [sv 0 23 4,
  sv 1 24 3,
  sv 2 25 5,
  sm 3 26 (.bin .shr 40 (tm 24) (tm 25)),
  sm 4 27 (.cint .u8 (tm 26)),
  sm 5 28 (.bsl 1 [.int .u8 0] 1 [(0, (tm 27))]),
  sm 6 29 (.app 1 1 (tm 23) (tm 28)),
  sv 7 4 29]))
  (.reg [sv 0 21 5,
  sm 1 22 (.bin .sub 3 (tm 21) (.const (.int .i64 8))),
  sv 2 5 22])))
def l240_1 : Cd := (.seq (.reg [sm 0 35 (.bin .lss 3 (tm 34) (.const (.int .i64 8)))])
  (.seq (.cond (tm 35) .skip (.exit 2))
  (.seq (.block 3 (.seq (.reg [sv 0 36 34,
  sm 1 37 (.ix1 8 1 (tm 33) (tm 34)),
  sv 2 6 36,
  sv 3 7 37])
  (.reg [sv 0 38 6,
  sm 1 39 (.bin .mul 3 (.const (.int .i64 4)) (tm 38)),
  sv 2 40 6,
  sm 3 41 (.bin .mul 3 (.const (.int .i64 4)) (tm 40)),
  sm 4 42 (.bin .add 3 (tm 41) (.const (.int .i64 1))),
  sv 5 43 6,
  sm 6 44 (.bin .mul 3 (.const (.int .i64 4)) (tm 43)),
  sm 7 45 (.bin .add 3 (tm 44) (.const (.int .i64 2))),
  sv 8 46 6,
  sm 9 47 (.bin .mul 3 (.const (.int .i64 4)) (tm 46)),
  sm 10 48 (.bin .add 3 (tm 47) (.const (.int .i64 3))),
  sv 11 49 7,
  sm 12 50 (.bin .shr 76 (tm 49) (.const (.int .u64 24))),
  sm 13 51 (.cint .u8 (tm 50)),
  sv 14 52 7,
  sm 15 53 (.bin .shr 76 (tm 52) (.const (.int .u64 16))),
  sm 16 54 (.cint .u8 (tm 53)),
  sv 17 55 7,
  sm 18 56 (.bin .shr 76 (tm 55) (.const (.int .u64 8))),
  sm 19 57 (.cint .u8 (tm 56)),
  sv 20 58 7,
  sm 21 59 (.cint .u8 (tm 58)),
  sm 22 60 (.ia (.arr 32 1) (tm 2) (tm 39)),
  se 23 (.st 1 (tm 60) (tm 51)),
  sm 24 61 (.ia (.arr 32 1) (tm 2) (tm 42)),
  se 25 (.st 1 (tm 61) (tm 54)),
  sm 26 62 (.ia (.arr 32 1) (tm 2) (tm 45)),
  se 27 (.st 1 (tm 62) (tm 57)),
  sm 28 63 (.ia (.arr 32 1) (tm 2) (tm 48)),
  se 29 (.st 1 (tm 63) (tm 59))])))
  (.reg [sm 0 64 (.bin .add 3 (tm 34) (.const (.int .i64 1))),
  sv 1 34 64]))))
def c240 : Cd := (.seq (.reg [sm 0 1 (.box (tm 0)),
  sm 1 2 (.alloc (rep 32 (.int .u8 0)))])
  (.seq (.reg [sm 0 8 (.fa 9 (tm 1)),
  sm 1 9 (.ld1 (tm 8)),
  sm 2 10 (.cint .u64 (tm 9)),
  sm 3 11 (.bin .mul 40 (tm 10) (.const (.int .u64 8))),
  sv 4 3 11])
  (.seq (.reg [sm 0 12 (.bsl 1 [.int .u8 0] 1 [(0, (.const (.int .u8 128)))]),
  sm 1 13 (.fa 9 (tm 1)),
  sm 2 14 (.ld1 (tm 13)),
  sm 3 15 (.bin .rem 3 (tm 14) (.const (.int .i64 64))),
  sm 4 16 (.bin .sub 3 (.const (.int .i64 119)) (tm 15)),
  sm 5 17 (.bin .rem 3 (tm 16) (.const (.int .i64 64))),
  sm 6 18 (.appZ 1 1 [.int .u8 0] (tm 12) (tm 17)),
  sv 7 4 18])
  (.seq (.seq (.reg [sm 0 5 (.mv (.const (.int .i64 56)))])
  (.block 0 (.loop l240_0)))
  (.seq (.seq (.reg [sm 0 30 (.ldA 10 (tm 1)),
  sv 1 31 4,
  sc 2 32 239 [(tm 30), (tm 31)],
  sm 3 33 (.fldA 8 0 (tm 32)),
  sm 4 34 (.mv (.const (.int .i64 0)))])
  (.block 2 (.loop l240_1)))
  (.seq (.reg [sm 0 65 (.ldA 32 (tm 2)),
  se 1 (.st 32 (tm 2) (tm 65))])
  .ret))))))
def r240 : List Mo := [.ldA 32 (tm 2)]
theorem c240_eq : compF Tryz.prog 240 = some c240 := by kernel_rfl
theorem r240_eq : compRs Tryz.prog 240 = some r240 := by kernel_rfl
/-! F241 braid/group.pow -/
def l241_0 : Cd := (.seq (.reg [sm 0 10 (.bin .lss 3 (tm 9) (.const (.int .i64 64)))])
  (.seq (.cond (tm 10) .skip (.exit 0))
  (.seq (.block 1 (.seq (.reg [sv 0 11 9,
  sv 1 7 11])
  (.seq (.reg [sv 0 12 6,
  ⟨1, (some 13), none, .callV (tm 12) [], [], false⟩])
  (.seq (.reg [sv 0 14 1,
  sv 1 15 7,
  sm 2 16 (.bin .sub 3 (.const (.int .i64 63)) (tm 15)),
  sm 3 17 (.bin .shr 40 (tm 14) (tm 16)),
  sm 4 18 (.bin .and 40 (tm 17) (.const (.int .u64 1))),
  sm 5 19 (.bin .eql 40 (tm 18) (.const (.int .u64 1)))])
  (.cond (tm 19) (.reg [sm 0 20 (.ld1 (tm 5)),
  sv 1 21 0,
  sm 2 22 (.bsl 1 [.int .u32 0] 2 [(0, (tm 20)), (1, (tm 21))]),
  sc 3 23 245 [(.const (.int .u64 1000000007)), (tm 22)],
  se 4 (.st 1 (tm 5) (tm 23))]) .skip)))))
  (.reg [sm 0 24 (.bin .add 3 (tm 9) (.const (.int .i64 1))),
  sv 1 9 24]))))
def c241 : Cd := (.seq (.reg [sm 0 4 (.mv (.const (.int .u32 0)))])
  (.seq (.reg [sm 0 5 (.alloc [.int .u32 0]),
  se 1 (.st 1 (tm 5) (.const (.int .u32 1)))])
  (.seq (.reg [sm 0 8 (.mkF 260 [] [(tm 5)]),
  sv 1 6 8])
  (.seq (.seq (.reg [sm 0 9 (.mv (.const (.int .i64 0)))])
  (.block 0 (.loop l241_0)))
  (.seq (.reg [sm 0 25 (.ld1 (tm 5)),
  sv 1 4 25])
  .ret)))))
def r241 : List Mo := [.mv (tm 4)]
theorem c241_eq : compF Tryz.prog 241 = some c241 := by kernel_rfl
theorem r241_eq : compRs Tryz.prog 241 = some r241 := by kernel_rfl
/-! F242 braid/wire.rising -/
def c242 : Cd := (.seq (.reg [sm 0 1 (.box (tm 0)),
  sm 1 2 (.mv (.const (.bool false)))])
  (.seq (.reg [sm 0 3 (.alloc [.int .i64 0]),
  se 1 (.st 1 (tm 3) (.const (.int .i64 0)))])
  (.seq (.reg [sm 0 4 (.ld1 (tm 1)),
  sm 1 5 (.mkF 261 [] [(tm 3), (tm 1)]),
  sc 2 6 71 [(tm 4), (tm 5)],
  sm 3 7 (.un .not (tm 6)),
  sv 4 2 7])
  .ret)))
def r242 : List Mo := [.mv (tm 2)]
theorem c242_eq : compF Tryz.prog 242 = some c242 := by kernel_rfl
theorem r242_eq : compRs Tryz.prog 242 = some r242 := by kernel_rfl
/-! F243 braid/wire.Signed -/
def c243 : Cd := (.seq (.reg [sm 0 2 (.mv (.const (.slice none 0 0)))])
  (.seq (.reg [sv 0 3 0,
  sm 1 4 (.cint .u64 (tm 3)),
  sm 2 5 (.bin .shl 40 (tm 4) (.const (.int .u64 1))),
  sv 3 6 0,
  sm 4 7 (.bin .shr 2 (tm 6) (.const (.int .u64 63))),
  sm 5 8 (.cint .u64 (tm 7)),
  sm 6 9 (.bin .xor 40 (tm 5) (tm 8)),
  sc 7 10 195 [(tm 9)],
  sv 8 2 10])
  .ret))
def r243 : List Mo := [.mv (tm 2)]
theorem c243_eq : compF Tryz.prog 243 = some c243 := by kernel_rfl
theorem r243_eq : compRs Tryz.prog 243 = some r243 := by kernel_rfl
/-! F244 braid/group.all -/
def l244_0 : Cd := (.seq (.reg [sm 0 8 (.bin .lss 3 (tm 7) (tm 6))])
  (.seq (.cond (tm 8) .skip (.exit 0))
  (.seq (.block 1 (.seq (.reg [sm 0 9 (.ia (.sl 1) (tm 5) (tm 7)),
  sm 1 10 (.ld1 (tm 9)),
  sv 2 4 10])
  (.seq (.reg [sv 0 11 4,
  sc 1 12 199 [(tm 11)],
  sm 2 13 (.un .not (tm 12))])
  (.cond (tm 13) (.seq (.reg [sm 0 2 (.mv (.const (.bool false)))])
  .ret) .skip))))
  (.reg [sm 0 14 (.bin .add 3 (tm 7) (.const (.int .i64 1))),
  sv 1 7 14]))))
def c244 : Cd := (.seq (.reg [sm 0 2 (.mv (.const (.bool false)))])
  (.seq (.seq (.reg [sv 0 5 0,
  sm 1 6 (.len (.sl 1) (tm 5)),
  sm 2 7 (.mv (.const (.int .i64 0)))])
  (.block 0 (.loop l244_0)))
  (.seq (.reg [sm 0 2 (.mv (.const (.bool true)))])
  .ret)))
def r244 : List Mo := [.mv (tm 2)]
theorem c244_eq : compF Tryz.prog 244 = some c244 := by kernel_rfl
theorem r244_eq : compRs Tryz.prog 244 = some r244 := by kernel_rfl
/-! F245 braid/group.mul -/
def l245_0 : Cd := (.seq (.reg [sm 0 11 (.bin .lss 3 (tm 10) (tm 9))])
  (.seq (.cond (tm 11) .skip (.exit 0))
  (.seq (.block 1 (.seq (.reg [sm 0 12 (.ia (.sl 1) (tm 8) (tm 10)),
  sm 1 13 (.ld1 (tm 12)),
  sv 2 7 13])
  (.reg [sv 0 14 5,
  sv 1 15 7,
  sm 2 16 (.cint .u64 (tm 15)),
  sm 3 17 (.bin .mul 40 (tm 14) (tm 16)),
  sv 4 18 0,
  sm 5 19 (.bin .rem 40 (tm 17) (tm 18)),
  sv 6 5 19])))
  (.reg [sm 0 20 (.bin .add 3 (tm 10) (.const (.int .i64 1))),
  sv 1 10 20]))))
def c245 : Cd := (.seq (.reg [sm 0 4 (.mv (.const (.int .u32 0)))])
  (.seq (.reg [sm 0 5 (.mv (.const (.int .u64 1)))])
  (.seq (.seq (.reg [sv 0 8 1,
  sm 1 9 (.len (.sl 1) (tm 8)),
  sm 2 10 (.mv (.const (.int .i64 0)))])
  (.block 0 (.loop l245_0)))
  (.seq (.reg [sv 0 21 5,
  sm 1 22 (.cint .u32 (tm 21)),
  sv 2 4 22])
  .ret))))
def r245 : List Mo := [.mv (tm 4)]
theorem c245_eq : compF Tryz.prog 245 = some c245 := by kernel_rfl
theorem r245_eq : compRs Tryz.prog 245 = some r245 := by kernel_rfl
/-! F246 braid/sign.hash -/
def l246_0 : Cd := (.seq (.reg [sm 0 24 (.bin .lss 3 (tm 23) (tm 22))])
  (.seq (.cond (tm 24) .skip (.exit 0))
  (.seq (.block 1 (.seq (.reg [sm 0 25 (.ia (.sl 1) (tm 21) (tm 23)),
  sm 1 26 (.ld1 (tm 25)),
  sv 2 10 26])
  (.reg [sv 0 27 8,
  sv 1 28 10,
  sm 2 29 (.bin .shr 76 (tm 28) (.const (.int .u64 24))),
  sm 3 30 (.cint .u8 (tm 29)),
  sv 4 31 10,
  sm 5 32 (.bin .shr 76 (tm 31) (.const (.int .u64 16))),
  sm 6 33 (.cint .u8 (tm 32)),
  sv 7 34 10,
  sm 8 35 (.bin .shr 76 (tm 34) (.const (.int .u64 8))),
  sm 9 36 (.cint .u8 (tm 35)),
  sv 10 37 10,
  sm 11 38 (.cint .u8 (tm 37)),
  sm 12 39 (.bsl 1 [.int .u8 0] 4 [(0, (tm 30)), (1, (tm 33)), (2, (tm 36)), (3, (tm 38))]),
  sm 13 40 (.app 1 1 (tm 27) (tm 39)),
  sv 14 8 40])))
  (.reg [sm 0 41 (.bin .add 3 (tm 23) (.const (.int .i64 1))),
  sv 1 23 41]))))
def l246_1 : Cd := (.seq (.reg [sm 0 52 (.bin .lss 3 (tm 51) (tm 50))])
  (.seq (.cond (tm 52) .skip (.exit 2))
  (.seq (.block 3 (.seq (.reg [sm 0 53 (.ia (.sl 1) (tm 49) (tm 51)),
  sm 1 54 (.ld1 (tm 53)),
  sv 2 15 54])
  (.reg [sv 0 55 13,
  sm 1 56 (.bin .shl 40 (tm 55) (.const (.int .u64 8))),
  sv 2 57 15,
  sm 3 58 (.cint .u64 (tm 57)),
  sm 4 59 (.bin .or 40 (tm 56) (tm 58)),
  sv 5 13 59])))
  (.reg [sm 0 60 (.bin .add 3 (tm 51) (.const (.int .i64 1))),
  sv 1 51 60]))))
def c246 : Cd := (.seq (.reg [sm 0 6 (.mv (.const (.int .u64 0))),
  sm 1 7 (.mv (.const (.int .i64 0)))])
  (.seq (.seq (.reg [sv 0 16 1,
  sm 1 17 (.len (.sl 1) (tm 16)),
  sm 2 18 (.bin .gtr 3 (tm 17) (.const (.int .i64 9991)))])
  (.cond (tm 18) (.seq (.reg [sm 0 6 (.mv (.const (.int .u64 0))),
  sm 1 7 (.mv (.const (.int .i64 4)))])
  .ret) .skip))
  (.seq (.reg [sv 0 19 0,
  sm 1 20 (.bsl 1 [.int .u8 0] 1 [(0, (tm 19))]),
  sv 2 8 20])
  (.seq (.seq (.reg [sv 0 21 2,
  sm 1 22 (.len (.sl 1) (tm 21)),
  sm 2 23 (.mv (.const (.int .i64 0)))])
  (.block 0 (.loop l246_0)))
  (.seq (.reg [sv 0 43 8,
  sv 1 44 1,
  sm 2 45 (.bsl 1 [.nilS] 2 [(0, (tm 43)), (1, (tm 44))]),
  sc 3 46 196 [(tm 45)],
  sv 4 42 46,
  sm 5 47 (.ext (tm 42) 0),
  sm 6 48 (.ext (tm 42) 1),
  sm 7 11 (.alloc (rep 32 (.int .u8 0))),
  se 8 (.st 32 (tm 11) (tm 47)),
  sv 9 12 48])
  (.seq (.reg [sm 0 13 (.mv (.const (.int .u64 0)))])
  (.seq (.seq (.reg [sm 0 49 (.slice (.arr 32 1) (tm 11) none (some (.const (.int .i64 8))) none),
  sm 1 50 (.len (.sl 1) (tm 49)),
  sm 2 51 (.mv (.const (.int .i64 0)))])
  (.block 2 (.loop l246_1)))
  (.seq (.reg [sv 0 61 13,
  sv 1 62 12,
  sv 2 6 61,
  sv 3 7 62])
  .ret))))))))
def r246 : List Mo := [.mv (tm 6), .mv (tm 7)]
theorem c246_eq : compF Tryz.prog 246 = some c246 := by kernel_rfl
theorem r246_eq : compRs Tryz.prog 246 = some r246 := by kernel_rfl
/-! F251 strings.indexFunc -/
def l251_0 : Cd := (.seq (.reg [sm 0 11 (.nxtS (tm 10)),
  sm 1 12 (.ext (tm 11) 0)])
  (.seq (.cond (tm 12) .skip (.exit 0))
  (.block 1 (.seq (.reg [sm 0 13 (.ext (tm 11) 1),
  sm 1 14 (.ext (tm 11) 2),
  sv 2 7 13,
  sv 3 8 14])
  (.seq (.reg [sv 0 15 1,
  sv 1 16 8,
  ⟨2, (some 17), none, .callV (tm 15) [(tm 16)], [], false⟩,
  sv 3 18 2,
  sm 4 19 (.bin .eql 4 (tm 17) (tm 18))])
  (.cond (tm 19) (.seq (.reg [sv 0 20 7,
  sv 1 6 20])
  .ret) .skip))))))
def c251 : Cd := (.seq (.reg [sm 0 6 (.mv (.const (.int .i64 0)))])
  (.seq (.seq (.reg [sv 0 9 0,
  sm 1 10 (.rngS (tm 9))])
  (.block 0 (.loop l251_0)))
  (.seq (.reg [sm 0 6 (.mv (.const (.int .i64 (-1))))])
  .ret)))
def r251 : List Mo := [.mv (tm 6)]
theorem c251_eq : compF Tryz.prog 251 = some c251 := by kernel_rfl
theorem r251_eq : compRs Tryz.prog 251 = some r251 := by kernel_rfl
/-! F257 slices.IndexFunc[[][]byte,[]byte] -/
def l257_0 : Cd := (.seq (.reg [sm 0 9 (.bin .lss 3 (tm 8) (tm 7))])
  (.seq (.cond (tm 9) .skip (.exit 0))
  (.seq (.block 1 (.seq (.reg [sv 0 10 8,
  sv 1 5 10])
  (.seq (.reg [sv 0 11 1,
  sv 1 12 0,
  sv 2 13 5,
  sm 3 14 (.ia (.sl 1) (tm 12) (tm 13)),
  sm 4 15 (.ld1 (tm 14)),
  ⟨5, (some 16), none, .callV (tm 11) [(tm 15)], [], false⟩])
  (.cond (tm 16) (.seq (.reg [sv 0 17 5,
  sv 1 4 17])
  .ret) .skip))))
  (.reg [sm 0 18 (.bin .add 3 (tm 8) (.const (.int .i64 1))),
  sv 1 8 18]))))
def c257 : Cd := (.seq (.reg [sm 0 4 (.mv (.const (.int .i64 0)))])
  (.seq (.seq (.reg [sv 0 6 0,
  sm 1 7 (.len (.sl 1) (tm 6)),
  sm 2 8 (.mv (.const (.int .i64 0)))])
  (.block 0 (.loop l257_0)))
  (.seq (.reg [sm 0 4 (.mv (.const (.int .i64 (-1))))])
  .ret)))
def r257 : List Mo := [.mv (tm 4)]
theorem c257_eq : compF Tryz.prog 257 = some c257 := by kernel_rfl
theorem r257_eq : compRs Tryz.prog 257 = some r257 := by kernel_rfl
/-! F258 braid/digest.grind -/
def l258_0 : Cd := (.seq (.reg [sm 0 53 (.bin .lss 3 (tm 52) (.const (.int .i64 64)))])
  (.seq (.cond (tm 53) .skip (.exit 0))
  (.seq (.block 1 (.seq (.reg [sv 0 54 52,
  sv 1 13 54])
  (.seq (.dreg [sv 0 55 12,
  sv 1 56 9,
  sv 4 59 9,
  sv 5 60 10,
  sm 6 61 (.bin .and 76 (tm 59) (tm 60)),
  sv 7 62 9,
  sm 8 63 (.un .xor (tm 62)),
  sv 9 64 11,
  sm 10 65 (.bin .and 76 (tm 63) (tm 64)),
  sm 11 66 (.bin .xor 76 (tm 61) (tm 65)),
  sv 13 68 13,
  sm 14 69 (.ia (.arr 64 1) (.global 1) (tm 68)),
  ⟨15, (some 70), none, .mo (.ld1 (tm 69)), [], true⟩,
  sv 17 72 13,
  sm 18 73 (.ia (.arr 64 1) (tm 4) (tm 72)),
  ⟨19, (some 74), none, .mo (.ld1 (tm 73)), [], true⟩,
  ⟨2, (some 57), none, .callF 266 [(tm 56), (.const (.int .i64 6)), (.const (.int .i64 11)), (.const (.int .i64 25))], [19, 15], false⟩,
  sm 3 58 (.bin .add 76 (tm 55) (tm 57)),
  sm 12 67 (.bin .add 76 (tm 58) (tm 66)),
  sm 16 71 (.bin .add 76 (tm 67) (tm 70)),
  sm 20 75 (.bin .add 76 (tm 71) (tm 74)),
  sv 21 14 75])
  (.seq (.reg [sv 0 76 5,
  sc 1 77 266 [(tm 76), (.const (.int .i64 2)), (.const (.int .i64 13)), (.const (.int .i64 22))],
  sv 2 78 5,
  sv 3 79 6,
  sm 4 80 (.bin .and 76 (tm 78) (tm 79)),
  sv 5 81 5,
  sv 6 82 7,
  sm 7 83 (.bin .and 76 (tm 81) (tm 82)),
  sm 8 84 (.bin .xor 76 (tm 80) (tm 83)),
  sv 9 85 6,
  sv 10 86 7,
  sm 11 87 (.bin .and 76 (tm 85) (tm 86)),
  sm 12 88 (.bin .xor 76 (tm 84) (tm 87)),
  sm 13 89 (.bin .add 76 (tm 77) (tm 88)),
  sv 14 15 89])
  (.reg [sv 0 90 14,
  sv 1 91 15,
  sm 2 92 (.bin .add 76 (tm 90) (tm 91)),
  sv 3 93 5,
  sv 4 94 6,
  sv 5 95 7,
  sv 6 96 8,
  sv 7 97 14,
  sm 8 98 (.bin .add 76 (tm 96) (tm 97)),
  sv 9 99 9,
  sv 10 100 10,
  sv 11 101 11,
  sv 12 5 92,
  sv 13 6 93,
  sv 14 7 94,
  sv 15 8 95,
  sv 16 9 98,
  sv 17 10 99,
  sv 18 11 100,
  sv 19 12 101])))))
  (.reg [sm 0 102 (.bin .add 3 (tm 52) (.const (.int .i64 1))),
  sv 1 52 102]))))
def l258_1 : Cd := (.seq (.reg [sm 0 113 (.bin .lss 3 (tm 112) (.const (.int .i64 8)))])
  (.seq (.cond (tm 113) .skip (.exit 2))
  (.seq (.block 3 (.seq (.reg [sv 0 114 112,
  sm 1 115 (.ix1 8 1 (tm 111) (tm 112)),
  sv 2 16 114,
  sv 3 17 115])
  (.reg [sv 0 116 0,
  sv 1 117 16,
  sm 2 118 (.nilc (tm 116)),
  sm 3 119 (.ia (.arr 8 1) (tm 118) (tm 117)),
  sm 4 120 (.ld1 (tm 119)),
  sv 5 121 17,
  sm 6 122 (.bin .add 76 (tm 120) (tm 121)),
  sm 7 123 (.nilc (tm 116)),
  sm 8 124 (.ia (.arr 8 1) (tm 123) (tm 117)),
  se 9 (.st 1 (tm 124) (tm 122))])))
  (.reg [sm 0 125 (.bin .add 3 (tm 112) (.const (.int .i64 1))),
  sv 1 112 125]))))
def c258 : Cd := (.seq (.reg [sv 0 18 1,
  sc 1 19 265 [(tm 18)],
  sm 2 4 (.alloc (rep 64 (.int .u32 0))),
  se 3 (.st 64 (tm 4) (tm 19))])
  (.seq (.reg [sv 0 20 0,
  sm 1 21 (.nilc (tm 20)),
  sm 2 22 (.ia (.arr 8 1) (tm 21) (.const (.int .i64 0))),
  sm 3 23 (.ld1 (tm 22)),
  sv 4 24 0,
  sm 5 25 (.nilc (tm 24)),
  sm 6 26 (.ia (.arr 8 1) (tm 25) (.const (.int .i64 1))),
  sm 7 27 (.ld1 (tm 26)),
  sv 8 28 0,
  sm 9 29 (.nilc (tm 28)),
  sm 10 30 (.ia (.arr 8 1) (tm 29) (.const (.int .i64 2))),
  sm 11 31 (.ld1 (tm 30)),
  sv 12 32 0,
  sm 13 33 (.nilc (tm 32)),
  sm 14 34 (.ia (.arr 8 1) (tm 33) (.const (.int .i64 3))),
  sm 15 35 (.ld1 (tm 34)),
  sv 16 36 0,
  sm 17 37 (.nilc (tm 36)),
  sm 18 38 (.ia (.arr 8 1) (tm 37) (.const (.int .i64 4))),
  sm 19 39 (.ld1 (tm 38)),
  sv 20 40 0,
  sm 21 41 (.nilc (tm 40)),
  sm 22 42 (.ia (.arr 8 1) (tm 41) (.const (.int .i64 5))),
  sm 23 43 (.ld1 (tm 42)),
  sv 24 44 0,
  sm 25 45 (.nilc (tm 44)),
  sm 26 46 (.ia (.arr 8 1) (tm 45) (.const (.int .i64 6))),
  sm 27 47 (.ld1 (tm 46)),
  sv 28 48 0,
  sm 29 49 (.nilc (tm 48)),
  sm 30 50 (.ia (.arr 8 1) (tm 49) (.const (.int .i64 7))),
  sm 31 51 (.ld1 (tm 50)),
  sv 32 5 23,
  sv 33 6 27,
  sv 34 7 31,
  sv 35 8 35,
  sv 36 9 39,
  sv 37 10 43,
  sv 38 11 47,
  sv 39 12 51])
  (.seq (.seq (.reg [sm 0 52 (.mv (.const (.int .i64 0)))])
  (.block 0 (.loop l258_0)))
  (.seq (.reg [sv 0 103 5,
  sv 1 104 6,
  sv 2 105 7,
  sv 3 106 8,
  sv 4 107 9,
  sv 5 108 10,
  sv 6 109 11,
  sv 7 110 12,
  sm 8 111 (.bld [.int .u32 0, .int .u32 0, .int .u32 0, .int .u32 0, .int .u32 0, .int .u32 0, .int .u32 0, .int .u32 0] [(0, 1, (tm 103)), (1, 1, (tm 104)), (2, 1, (tm 105)), (3, 1, (tm 106)), (4, 1, (tm 107)), (5, 1, (tm 108)), (6, 1, (tm 109)), (7, 1, (tm 110))]),
  sm 9 112 (.mv (.const (.int .i64 0)))])
  (.block 2 (.loop l258_1))))))
def r258 : List Mo := []
theorem c258_eq : compF Tryz.prog 258 = some c258 := by kernel_rfl
theorem r258_eq : compRs Tryz.prog 258 = some r258 := by kernel_rfl
/-! F259 slices.Clone[[]byte,byte] -/
def c259 : Cd := (.seq (.reg [sm 0 2 (.mv (.const (.slice none 0 0)))])
  (.seq (.seq (.reg [sv 0 3 0,
  sm 1 4 (.bin .eql 136 (tm 3) (.const (.slice none 0 0)))])
  (.cond (tm 4) (.seq (.reg [sm 0 2 (.mv (.const (.slice none 0 0)))])
  .ret) .skip))
  (.seq (.reg [sm 0 5 (.bsl 1 [.int .u8 0] 0 []),
  sv 1 6 0,
  sm 2 7 (.app 1 1 (tm 5) (tm 6)),
  sv 3 2 7])
  .ret)))
def r259 : List Mo := [.mv (tm 2)]
theorem c259_eq : compF Tryz.prog 259 = some c259 := by kernel_rfl
theorem r259_eq : compRs Tryz.prog 259 = some r259 := by kernel_rfl
/-! F260 braid/group.pow$1 -/
def c260 : Cd := (.reg [sm 0 1 (.ld1 (tm 0)),
  sm 1 2 (.ld1 (tm 0)),
  sm 2 3 (.bsl 1 [.int .u32 0] 2 [(0, (tm 1)), (1, (tm 2))]),
  sc 3 4 245 [(.const (.int .u64 1000000007)), (tm 3)],
  se 4 (.st 1 (tm 0) (tm 4))])
def r260 : List Mo := []
theorem c260_eq : compF Tryz.prog 260 = some c260 := by kernel_rfl
theorem r260_eq : compRs Tryz.prog 260 = some r260 := by kernel_rfl
/-! F261 braid/wire.rising$1 -/
def c261 : Cd := (.seq (.reg [sm 0 3 (.box (tm 0)),
  sm 1 4 (.mv (.const (.bool false)))])
  (.seq (.reg [sm 0 5 (.ld1 (tm 1)),
  sm 1 6 (.bin .add 3 (tm 5) (.const (.int .i64 1))),
  se 2 (.st 1 (tm 1) (tm 6))])
  (.seq (.reg [sm 0 7 (.ld1 (tm 1)),
  sm 1 8 (.ld1 (tm 2)),
  sm 2 9 (.len (.sl 32) (tm 8)),
  sm 3 10 (.bin .lss 3 (tm 7) (tm 9)),
  sv 4 11 10,
  sg 5 12 11 true (.ld1 (tm 2)),
  sg 6 13 11 true (.ld1 (tm 1)),
  sg 7 14 11 true (.bin .sub 3 (tm 13) (.const (.int .i64 1))),
  sg 8 15 11 true (.ia (.sl 32) (tm 12) (tm 14)),
  sg 9 16 11 true (.ldA 32 (tm 15)),
  sg 10 17 11 true (.ld1 (tm 2)),
  sg 11 18 11 true (.ld1 (tm 1)),
  sg 12 19 11 true (.ia (.sl 32) (tm 17) (tm 18)),
  sg 13 20 11 true (.ldA 32 (tm 19)),
  ⟨14, (some 21), (some ((some 11), true)), .callF 149 [(tm 16), (tm 20)], [], false⟩,
  sg 15 22 11 true (.bin .geq 3 (tm 21) (.const (.int .i64 0))),
  sm 16 23 (.pick (tm 11) (tm 22) (.const (.bool false))),
  sv 17 4 23])
  .ret)))
def r261 : List Mo := [.mv (tm 4)]
theorem c261_eq : compF Tryz.prog 261 = some c261 := by kernel_rfl
theorem r261_eq : compRs Tryz.prog 261 = some r261 := by kernel_rfl
/-! F265 braid/digest.schedule -/
def l265_0 : Cd := (.seq (.reg [sm 0 14 (.bin .lss 3 (tm 13) (tm 12))])
  (.seq (.cond (tm 14) .skip (.exit 0))
  (.seq (.block 1 (.seq (.reg [sv 0 15 13,
  sm 1 16 (.ia (.sl 1) (tm 11) (tm 13)),
  sm 2 17 (.ld1 (tm 16)),
  sv 3 3 15,
  sv 4 4 17])
  (.reg [sv 0 18 3,
  sm 1 19 (.bin .quo 3 (tm 18) (.const (.int .i64 4))),
  sv 2 20 3,
  sm 3 21 (.bin .quo 3 (tm 20) (.const (.int .i64 4))),
  sm 4 22 (.ia (.arr 64 1) (tm 2) (tm 21)),
  sm 5 23 (.ld1 (tm 22)),
  sm 6 24 (.bin .shl 76 (tm 23) (.const (.int .u64 8))),
  sv 7 25 4,
  sm 8 26 (.cint .u32 (tm 25)),
  sm 9 27 (.bin .or 76 (tm 24) (tm 26)),
  sm 10 28 (.ia (.arr 64 1) (tm 2) (tm 19)),
  se 11 (.st 1 (tm 28) (tm 27))])))
  (.reg [sm 0 29 (.bin .add 3 (tm 13) (.const (.int .i64 1))),
  sv 1 13 29]))))
def l265_1 : Cd := (.seq (.seq (.reg [sv 0 30 5,
  sm 1 31 (.bin .lss 3 (tm 30) (.const (.int .i64 64)))])
  (.cond (tm 31) .skip (.exit 2)))
  (.seq (.block 3 (.seq (.reg [sv 0 34 5,
  sm 1 35 (.bin .sub 3 (tm 34) (.const (.int .i64 15))),
  sm 2 36 (.ia (.arr 64 1) (tm 2) (tm 35)),
  sm 3 37 (.ld1 (tm 36)),
  sv 4 38 5,
  sm 5 39 (.bin .sub 3 (tm 38) (.const (.int .i64 2))),
  sm 6 40 (.ia (.arr 64 1) (tm 2) (tm 39)),
  sm 7 41 (.ld1 (tm 40)),
  sv 8 6 37,
  sv 9 7 41])
  (.seq (.reg [sv 0 42 6,
  sc 1 43 267 [(tm 42), (.const (.int .i64 (-7)))],
  sv 2 44 6,
  sc 3 45 267 [(tm 44), (.const (.int .i64 (-18)))],
  sm 4 46 (.bin .xor 76 (tm 43) (tm 45)),
  sv 5 47 6,
  sm 6 48 (.bin .shr 76 (tm 47) (.const (.int .u64 3))),
  sm 7 49 (.bin .xor 76 (tm 46) (tm 48)),
  sv 8 8 49])
  (.seq (.reg [sv 0 50 7,
  sc 1 51 267 [(tm 50), (.const (.int .i64 (-17)))],
  sv 2 52 7,
  sc 3 53 267 [(tm 52), (.const (.int .i64 (-19)))],
  sm 4 54 (.bin .xor 76 (tm 51) (tm 53)),
  sv 5 55 7,
  sm 6 56 (.bin .shr 76 (tm 55) (.const (.int .u64 10))),
  sm 7 57 (.bin .xor 76 (tm 54) (tm 56)),
  sv 8 9 57])
  (.reg [sv 0 58 5,
  sv 1 59 5,
  sm 2 60 (.bin .sub 3 (tm 59) (.const (.int .i64 16))),
  sm 3 61 (.ia (.arr 64 1) (tm 2) (tm 60)),
  sm 4 62 (.ld1 (tm 61)),
  sv 5 63 5,
  sm 6 64 (.bin .sub 3 (tm 63) (.const (.int .i64 7))),
  sm 7 65 (.ia (.arr 64 1) (tm 2) (tm 64)),
  sm 8 66 (.ld1 (tm 65)),
  sm 9 67 (.bin .add 76 (tm 62) (tm 66)),
  sv 10 68 8,
  sm 11 69 (.bin .add 76 (tm 67) (tm 68)),
  sv 12 70 9,
  sm 13 71 (.bin .add 76 (tm 69) (tm 70)),
  sm 14 72 (.ia (.arr 64 1) (tm 2) (tm 58)),
  se 15 (.st 1 (tm 72) (tm 71))])))))
  (.reg [sv 0 32 5,
  sm 1 33 (.bin .add 3 (tm 32) (.const (.int .i64 1))),
  sv 2 5 33])))
def c265 : Cd := (.seq (.reg [sm 0 2 (.alloc (rep 64 (.int .u32 0)))])
  (.seq (.seq (.reg [sv 0 10 0,
  sm 1 11 (.slice (.sl 1) (tm 10) none (some (.const (.int .i64 64))) none),
  sm 2 12 (.len (.sl 1) (tm 11)),
  sm 3 13 (.mv (.const (.int .i64 0)))])
  (.block 0 (.loop l265_0)))
  (.seq (.seq (.reg [sm 0 5 (.mv (.const (.int .i64 16)))])
  (.block 2 (.loop l265_1)))
  (.seq (.reg [sm 0 73 (.ldA 64 (tm 2)),
  se 1 (.st 64 (tm 2) (tm 73))])
  .ret))))
def r265 : List Mo := [.ldA 64 (tm 2)]
theorem c265_eq : compF Tryz.prog 265 = some c265 := by kernel_rfl
theorem r265_eq : compRs Tryz.prog 265 = some r265 := by kernel_rfl
/-! F266 braid/digest.mix -/
def c266 : Cd := (.seq (.reg [sm 0 8 (.mv (.const (.int .u32 0)))])
  (.seq (.reg [sv 0 9 0,
  sv 1 10 1,
  sm 2 11 (.un .neg (tm 10)),
  sc 3 12 267 [(tm 9), (tm 11)],
  sv 4 13 0,
  sv 5 14 2,
  sm 6 15 (.un .neg (tm 14)),
  sc 7 16 267 [(tm 13), (tm 15)],
  sm 8 17 (.bin .xor 76 (tm 12) (tm 16)),
  sv 9 18 0,
  sv 10 19 3,
  sm 11 20 (.un .neg (tm 19)),
  sc 12 21 267 [(tm 18), (tm 20)],
  sm 13 22 (.bin .xor 76 (tm 17) (tm 21)),
  sv 14 8 22])
  .ret))
def r266 : List Mo := [.mv (tm 8)]
theorem c266_eq : compF Tryz.prog 266 = some c266 := by kernel_rfl
theorem r266_eq : compRs Tryz.prog 266 = some r266 := by kernel_rfl
/-! F267 math/bits.RotateLeft32 -/
def c267 : Cd := (.seq (.reg [sm 0 4 (.mv (.const (.int .u32 0)))])
  (.seq (.reg [sv 0 6 1,
  sm 1 7 (.cint .u64 (tm 6)),
  sm 2 8 (.bin .and 194 (tm 7) (.const (.int .u64 31))),
  sv 3 5 8])
  (.seq (.reg [sv 0 9 0,
  sv 1 10 5,
  sm 2 11 (.bin .shl 76 (tm 9) (tm 10)),
  sv 3 12 0,
  sv 4 13 5,
  sm 5 14 (.bin .sub 194 (.const (.int .u64 32)) (tm 13)),
  sm 6 15 (.bin .shr 76 (tm 12) (tm 14)),
  sm 7 16 (.bin .or 76 (tm 11) (tm 15)),
  sv 8 4 16])
  .ret)))
def r267 : List Mo := [.mv (tm 4)]
theorem c267_eq : compF Tryz.prog 267 = some c267 := by kernel_rfl
theorem r267_eq : compRs Tryz.prog 267 = some r267 := by kernel_rfl
def tblT : Tr (Cd × List Mo) := (.node (.node (.node (.node (.node (.node (.node (.node .nil (some (c127, r127)) .nil) none .nil) (some (c31, r31)) (.node .nil (some (c95, r95)) (.node .nil (some (c223, r223)) .nil))) none (.node (.node (.node .nil (some (c143, r143)) .nil) none .nil) none (.node (.node .nil (some (c175, r175)) .nil) none (.node .nil (some (c239, r239)) .nil)))) none (.node (.node (.node (.node .nil (some (c135, r135)) .nil) (some (c71, r71)) (.node .nil (some (c199, r199)) .nil)) (some (c39, r39)) (.node (.node .nil (some (c167, r167)) .nil) none .nil)) none (.node (.node (.node .nil (some (c151, r151)) .nil) (some (c87, r87)) .nil) none (.node .nil (some (c119, r119)) .nil)))) none (.node (.node (.node (.node (.node (.node .nil (some (c259, r259)) .nil) (some (c131, r131)) .nil) none (.node .nil (some (c195, r195)) .nil)) none (.node .nil (some (c99, r99)) (.node .nil (some (c227, r227)) .nil))) (some (c19, r19)) (.node (.node (.node .nil (some (c147, r147)) .nil) (some (c83, r83)) .nil) (some (c51, r51)) (.node (.node .nil (some (c179, r179)) .nil) (some (c115, r115)) (.node .nil (some (c243, r243)) .nil)))) none (.node (.node (.node (.node (.node .nil (some (c267, r267)) .nil) none .nil) (some (c75, r75)) (.node .nil (some (c203, r203)) .nil)) (some (c43, r43)) (.node (.node .nil (some (c171, r171)) .nil) (some (c107, r107)) (.node .nil (some (c235, r235)) .nil))) none (.node (.node (.node .nil (some (c155, r155)) .nil) (some (c91, r91)) (.node .nil (some (c219, r219)) .nil)) (some (c59, r59)) (.node .nil (some (c123, r123)) (.node .nil (some (c251, r251)) .nil)))))) none (.node (.node (.node (.node (.node (.node (.node .nil (some (c257, r257)) .nil) (some (c129, r129)) .nil) none .nil) (some (c33, r33)) (.node .nil (some (c97, r97)) (.node .nil (some (c225, r225)) .nil))) none (.node (.node (.node .nil (some (c145, r145)) .nil) (some (c81, r81)) (.node .nil (some (c209, r209)) .nil)) none (.node (.node .nil (some (c177, r177)) .nil) none (.node .nil (some (c241, r241)) .nil)))) (some (c9, r9)) (.node (.node (.node (.node (.node .nil (some (c265, r265)) .nil) (some (c137, r137)) .nil) (some (c73, r73)) (.node .nil (some (c201, r201)) .nil)) (some (c41, r41)) (.node (.node .nil (some (c169, r169)) .nil) (some (c105, r105)) .nil)) (some (c25, r25)) (.node (.node (.node .nil (some (c153, r153)) .nil) (some (c89, r89)) .nil) none (.node .nil (some (c121, r121)) .nil)))) none (.node (.node (.node (.node (.node (.node .nil (some (c261, r261)) .nil) (some (c133, r133)) .nil) (some (c69, r69)) (.node .nil (some (c197, r197)) .nil)) (some (c37, r37)) (.node (.node .nil (some (c165, r165)) .nil) none .nil)) none (.node (.node (.node .nil (some (c149, r149)) .nil) (some (c85, r85)) .nil) (some (c53, r53)) (.node .nil (some (c117, r117)) (.node .nil (some (c245, r245)) .nil)))) (some (c13, r13)) (.node (.node (.node (.node .nil (some (c141, r141)) .nil) (some (c77, r77)) (.node .nil (some (c205, r205)) .nil)) (some (c45, r45)) (.node (.node .nil (some (c173, r173)) .nil) none (.node .nil (some (c237, r237)) .nil))) (some (c29, r29)) (.node (.node (.node .nil (some (c157, r157)) .nil) (some (c93, r93)) .nil) (some (c61, r61)) (.node (.node .nil (some (c189, r189)) .nil) (some (c125, r125)) .nil)))))) none (.node (.node (.node (.node (.node (.node (.node .nil (some (c128, r128)) .nil) none .nil) (some (c32, r32)) (.node .nil (some (c96, r96)) (.node .nil (some (c224, r224)) .nil))) none (.node (.node (.node .nil (some (c144, r144)) .nil) (some (c80, r80)) .nil) none (.node (.node .nil (some (c176, r176)) .nil) none (.node .nil (some (c240, r240)) .nil)))) none (.node (.node (.node (.node .nil (some (c136, r136)) .nil) none (.node .nil (some (c200, r200)) .nil)) (some (c40, r40)) (.node (.node .nil (some (c168, r168)) .nil) (some (c104, r104)) .nil)) (some (c24, r24)) (.node (.node .nil (some (c88, r88)) .nil) none (.node .nil (some (c120, r120)) .nil)))) none (.node (.node (.node (.node (.node (.node .nil (some (c260, r260)) .nil) (some (c132, r132)) .nil) (some (c68, r68)) (.node .nil (some (c196, r196)) .nil)) (some (c36, r36)) (.node (.node .nil (some (c164, r164)) .nil) none .nil)) (some (c20, r20)) (.node (.node (.node .nil (some (c148, r148)) .nil) (some (c84, r84)) .nil) (some (c52, r52)) (.node (.node .nil (some (c180, r180)) .nil) (some (c116, r116)) (.node .nil (some (c244, r244)) .nil)))) (some (c12, r12)) (.node (.node (.node (.node .nil (some (c140, r140)) .nil) (some (c76, r76)) (.node .nil (some (c204, r204)) .nil)) (some (c44, r44)) (.node (.node .nil (some (c172, r172)) .nil) (some (c108, r108)) (.node .nil (some (c236, r236)) .nil))) none (.node (.node (.node .nil (some (c156, r156)) .nil) (some (c92, r92)) .nil) (some (c60, r60)) (.node .nil (some (c124, r124)) .nil))))) none (.node (.node (.node (.node (.node (.node (.node .nil (some (c258, r258)) .nil) (some (c130, r130)) .nil) none (.node .nil (some (c194, r194)) .nil)) none (.node .nil (some (c98, r98)) (.node .nil (some (c226, r226)) .nil))) none (.node (.node (.node .nil (some (c146, r146)) .nil) (some (c82, r82)) (.node .nil (some (c210, r210)) .nil)) none (.node (.node .nil (some (c178, r178)) .nil) (some (c114, r114)) (.node .nil (some (c242, r242)) .nil)))) none (.node (.node (.node (.node (.node .nil (some (c266, r266)) .nil) none .nil) (some (c74, r74)) (.node .nil (some (c202, r202)) .nil)) (some (c42, r42)) (.node (.node .nil (some (c170, r170)) .nil) (some (c106, r106)) .nil)) none (.node (.node (.node .nil (some (c154, r154)) .nil) (some (c90, r90)) (.node .nil (some (c218, r218)) .nil)) (some (c58, r58)) (.node .nil (some (c122, r122)) .nil)))) (some (c6, r6)) (.node (.node (.node (.node (.node .nil (some (c134, r134)) .nil) (some (c70, r70)) (.node .nil (some (c198, r198)) .nil)) none (.node (.node .nil (some (c166, r166)) .nil) none .nil)) none (.node (.node (.node .nil (some (c150, r150)) .nil) (some (c86, r86)) .nil) none (.node .nil (some (c118, r118)) (.node .nil (some (c246, r246)) .nil)))) none (.node (.node (.node (.node .nil (some (c142, r142)) .nil) (some (c78, r78)) (.node .nil (some (c206, r206)) .nil)) none (.node (.node .nil (some (c174, r174)) .nil) (some (c110, r110)) (.node .nil (some (c238, r238)) .nil))) none (.node (.node (.node .nil (some (c158, r158)) .nil) (some (c94, r94)) .nil) none (.node (.node .nil (some (c190, r190)) .nil) (some (c126, r126)) .nil)))))))
theorem tbl_all : AllT (TblP Tryz.prog) tblT := (allT_none (allT_none (allT_none (allT_none (allT_none (allT_some ⟨c31_eq, r31_eq⟩ (allT_none (allT_some ⟨c127_eq, r127_eq⟩ allT_nil allT_nil) allT_nil) (allT_some ⟨c95_eq, r95_eq⟩ allT_nil (allT_some ⟨c223_eq, r223_eq⟩ allT_nil allT_nil))) (allT_none (allT_none (allT_some ⟨c143_eq, r143_eq⟩ allT_nil allT_nil) allT_nil) (allT_none (allT_some ⟨c175_eq, r175_eq⟩ allT_nil allT_nil) (allT_some ⟨c239_eq, r239_eq⟩ allT_nil allT_nil)))) (allT_none (allT_some ⟨c39_eq, r39_eq⟩ (allT_some ⟨c71_eq, r71_eq⟩ (allT_some ⟨c135_eq, r135_eq⟩ allT_nil allT_nil) (allT_some ⟨c199_eq, r199_eq⟩ allT_nil allT_nil)) (allT_none (allT_some ⟨c167_eq, r167_eq⟩ allT_nil allT_nil) allT_nil)) (allT_none (allT_some ⟨c87_eq, r87_eq⟩ (allT_some ⟨c151_eq, r151_eq⟩ allT_nil allT_nil) allT_nil) (allT_some ⟨c119_eq, r119_eq⟩ allT_nil allT_nil)))) (allT_none (allT_some ⟨c19_eq, r19_eq⟩ (allT_none (allT_none (allT_some ⟨c131_eq, r131_eq⟩ (allT_some ⟨c259_eq, r259_eq⟩ allT_nil allT_nil) allT_nil) (allT_some ⟨c195_eq, r195_eq⟩ allT_nil allT_nil)) (allT_some ⟨c99_eq, r99_eq⟩ allT_nil (allT_some ⟨c227_eq, r227_eq⟩ allT_nil allT_nil))) (allT_some ⟨c51_eq, r51_eq⟩ (allT_some ⟨c83_eq, r83_eq⟩ (allT_some ⟨c147_eq, r147_eq⟩ allT_nil allT_nil) allT_nil) (allT_some ⟨c115_eq, r115_eq⟩ (allT_some ⟨c179_eq, r179_eq⟩ allT_nil allT_nil) (allT_some ⟨c243_eq, r243_eq⟩ allT_nil allT_nil)))) (allT_none (allT_some ⟨c43_eq, r43_eq⟩ (allT_some ⟨c75_eq, r75_eq⟩ (allT_none (allT_some ⟨c267_eq, r267_eq⟩ allT_nil allT_nil) allT_nil) (allT_some ⟨c203_eq, r203_eq⟩ allT_nil allT_nil)) (allT_some ⟨c107_eq, r107_eq⟩ (allT_some ⟨c171_eq, r171_eq⟩ allT_nil allT_nil) (allT_some ⟨c235_eq, r235_eq⟩ allT_nil allT_nil))) (allT_some ⟨c59_eq, r59_eq⟩ (allT_some ⟨c91_eq, r91_eq⟩ (allT_some ⟨c155_eq, r155_eq⟩ allT_nil allT_nil) (allT_some ⟨c219_eq, r219_eq⟩ allT_nil allT_nil)) (allT_some ⟨c123_eq, r123_eq⟩ allT_nil (allT_some ⟨c251_eq, r251_eq⟩ allT_nil allT_nil)))))) (allT_none (allT_some ⟨c9_eq, r9_eq⟩ (allT_none (allT_some ⟨c33_eq, r33_eq⟩ (allT_none (allT_some ⟨c129_eq, r129_eq⟩ (allT_some ⟨c257_eq, r257_eq⟩ allT_nil allT_nil) allT_nil) allT_nil) (allT_some ⟨c97_eq, r97_eq⟩ allT_nil (allT_some ⟨c225_eq, r225_eq⟩ allT_nil allT_nil))) (allT_none (allT_some ⟨c81_eq, r81_eq⟩ (allT_some ⟨c145_eq, r145_eq⟩ allT_nil allT_nil) (allT_some ⟨c209_eq, r209_eq⟩ allT_nil allT_nil)) (allT_none (allT_some ⟨c177_eq, r177_eq⟩ allT_nil allT_nil) (allT_some ⟨c241_eq, r241_eq⟩ allT_nil allT_nil)))) (allT_some ⟨c25_eq, r25_eq⟩ (allT_some ⟨c41_eq, r41_eq⟩ (allT_some ⟨c73_eq, r73_eq⟩ (allT_some ⟨c137_eq, r137_eq⟩ (allT_some ⟨c265_eq, r265_eq⟩ allT_nil allT_nil) allT_nil) (allT_some ⟨c201_eq, r201_eq⟩ allT_nil allT_nil)) (allT_some ⟨c105_eq, r105_eq⟩ (allT_some ⟨c169_eq, r169_eq⟩ allT_nil allT_nil) allT_nil)) (allT_none (allT_some ⟨c89_eq, r89_eq⟩ (allT_some ⟨c153_eq, r153_eq⟩ allT_nil allT_nil) allT_nil) (allT_some ⟨c121_eq, r121_eq⟩ allT_nil allT_nil)))) (allT_some ⟨c13_eq, r13_eq⟩ (allT_none (allT_some ⟨c37_eq, r37_eq⟩ (allT_some ⟨c69_eq, r69_eq⟩ (allT_some ⟨c133_eq, r133_eq⟩ (allT_some ⟨c261_eq, r261_eq⟩ allT_nil allT_nil) allT_nil) (allT_some ⟨c197_eq, r197_eq⟩ allT_nil allT_nil)) (allT_none (allT_some ⟨c165_eq, r165_eq⟩ allT_nil allT_nil) allT_nil)) (allT_some ⟨c53_eq, r53_eq⟩ (allT_some ⟨c85_eq, r85_eq⟩ (allT_some ⟨c149_eq, r149_eq⟩ allT_nil allT_nil) allT_nil) (allT_some ⟨c117_eq, r117_eq⟩ allT_nil (allT_some ⟨c245_eq, r245_eq⟩ allT_nil allT_nil)))) (allT_some ⟨c29_eq, r29_eq⟩ (allT_some ⟨c45_eq, r45_eq⟩ (allT_some ⟨c77_eq, r77_eq⟩ (allT_some ⟨c141_eq, r141_eq⟩ allT_nil allT_nil) (allT_some ⟨c205_eq, r205_eq⟩ allT_nil allT_nil)) (allT_none (allT_some ⟨c173_eq, r173_eq⟩ allT_nil allT_nil) (allT_some ⟨c237_eq, r237_eq⟩ allT_nil allT_nil))) (allT_some ⟨c61_eq, r61_eq⟩ (allT_some ⟨c93_eq, r93_eq⟩ (allT_some ⟨c157_eq, r157_eq⟩ allT_nil allT_nil) allT_nil) (allT_some ⟨c125_eq, r125_eq⟩ (allT_some ⟨c189_eq, r189_eq⟩ allT_nil allT_nil) allT_nil)))))) (allT_none (allT_none (allT_none (allT_none (allT_some ⟨c32_eq, r32_eq⟩ (allT_none (allT_some ⟨c128_eq, r128_eq⟩ allT_nil allT_nil) allT_nil) (allT_some ⟨c96_eq, r96_eq⟩ allT_nil (allT_some ⟨c224_eq, r224_eq⟩ allT_nil allT_nil))) (allT_none (allT_some ⟨c80_eq, r80_eq⟩ (allT_some ⟨c144_eq, r144_eq⟩ allT_nil allT_nil) allT_nil) (allT_none (allT_some ⟨c176_eq, r176_eq⟩ allT_nil allT_nil) (allT_some ⟨c240_eq, r240_eq⟩ allT_nil allT_nil)))) (allT_some ⟨c24_eq, r24_eq⟩ (allT_some ⟨c40_eq, r40_eq⟩ (allT_none (allT_some ⟨c136_eq, r136_eq⟩ allT_nil allT_nil) (allT_some ⟨c200_eq, r200_eq⟩ allT_nil allT_nil)) (allT_some ⟨c104_eq, r104_eq⟩ (allT_some ⟨c168_eq, r168_eq⟩ allT_nil allT_nil) allT_nil)) (allT_none (allT_some ⟨c88_eq, r88_eq⟩ allT_nil allT_nil) (allT_some ⟨c120_eq, r120_eq⟩ allT_nil allT_nil)))) (allT_some ⟨c12_eq, r12_eq⟩ (allT_some ⟨c20_eq, r20_eq⟩ (allT_some ⟨c36_eq, r36_eq⟩ (allT_some ⟨c68_eq, r68_eq⟩ (allT_some ⟨c132_eq, r132_eq⟩ (allT_some ⟨c260_eq, r260_eq⟩ allT_nil allT_nil) allT_nil) (allT_some ⟨c196_eq, r196_eq⟩ allT_nil allT_nil)) (allT_none (allT_some ⟨c164_eq, r164_eq⟩ allT_nil allT_nil) allT_nil)) (allT_some ⟨c52_eq, r52_eq⟩ (allT_some ⟨c84_eq, r84_eq⟩ (allT_some ⟨c148_eq, r148_eq⟩ allT_nil allT_nil) allT_nil) (allT_some ⟨c116_eq, r116_eq⟩ (allT_some ⟨c180_eq, r180_eq⟩ allT_nil allT_nil) (allT_some ⟨c244_eq, r244_eq⟩ allT_nil allT_nil)))) (allT_none (allT_some ⟨c44_eq, r44_eq⟩ (allT_some ⟨c76_eq, r76_eq⟩ (allT_some ⟨c140_eq, r140_eq⟩ allT_nil allT_nil) (allT_some ⟨c204_eq, r204_eq⟩ allT_nil allT_nil)) (allT_some ⟨c108_eq, r108_eq⟩ (allT_some ⟨c172_eq, r172_eq⟩ allT_nil allT_nil) (allT_some ⟨c236_eq, r236_eq⟩ allT_nil allT_nil))) (allT_some ⟨c60_eq, r60_eq⟩ (allT_some ⟨c92_eq, r92_eq⟩ (allT_some ⟨c156_eq, r156_eq⟩ allT_nil allT_nil) allT_nil) (allT_some ⟨c124_eq, r124_eq⟩ allT_nil allT_nil))))) (allT_some ⟨c6_eq, r6_eq⟩ (allT_none (allT_none (allT_none (allT_none (allT_some ⟨c130_eq, r130_eq⟩ (allT_some ⟨c258_eq, r258_eq⟩ allT_nil allT_nil) allT_nil) (allT_some ⟨c194_eq, r194_eq⟩ allT_nil allT_nil)) (allT_some ⟨c98_eq, r98_eq⟩ allT_nil (allT_some ⟨c226_eq, r226_eq⟩ allT_nil allT_nil))) (allT_none (allT_some ⟨c82_eq, r82_eq⟩ (allT_some ⟨c146_eq, r146_eq⟩ allT_nil allT_nil) (allT_some ⟨c210_eq, r210_eq⟩ allT_nil allT_nil)) (allT_some ⟨c114_eq, r114_eq⟩ (allT_some ⟨c178_eq, r178_eq⟩ allT_nil allT_nil) (allT_some ⟨c242_eq, r242_eq⟩ allT_nil allT_nil)))) (allT_none (allT_some ⟨c42_eq, r42_eq⟩ (allT_some ⟨c74_eq, r74_eq⟩ (allT_none (allT_some ⟨c266_eq, r266_eq⟩ allT_nil allT_nil) allT_nil) (allT_some ⟨c202_eq, r202_eq⟩ allT_nil allT_nil)) (allT_some ⟨c106_eq, r106_eq⟩ (allT_some ⟨c170_eq, r170_eq⟩ allT_nil allT_nil) allT_nil)) (allT_some ⟨c58_eq, r58_eq⟩ (allT_some ⟨c90_eq, r90_eq⟩ (allT_some ⟨c154_eq, r154_eq⟩ allT_nil allT_nil) (allT_some ⟨c218_eq, r218_eq⟩ allT_nil allT_nil)) (allT_some ⟨c122_eq, r122_eq⟩ allT_nil allT_nil)))) (allT_none (allT_none (allT_none (allT_some ⟨c70_eq, r70_eq⟩ (allT_some ⟨c134_eq, r134_eq⟩ allT_nil allT_nil) (allT_some ⟨c198_eq, r198_eq⟩ allT_nil allT_nil)) (allT_none (allT_some ⟨c166_eq, r166_eq⟩ allT_nil allT_nil) allT_nil)) (allT_none (allT_some ⟨c86_eq, r86_eq⟩ (allT_some ⟨c150_eq, r150_eq⟩ allT_nil allT_nil) allT_nil) (allT_some ⟨c118_eq, r118_eq⟩ allT_nil (allT_some ⟨c246_eq, r246_eq⟩ allT_nil allT_nil)))) (allT_none (allT_none (allT_some ⟨c78_eq, r78_eq⟩ (allT_some ⟨c142_eq, r142_eq⟩ allT_nil allT_nil) (allT_some ⟨c206_eq, r206_eq⟩ allT_nil allT_nil)) (allT_some ⟨c110_eq, r110_eq⟩ (allT_some ⟨c174_eq, r174_eq⟩ allT_nil allT_nil) (allT_some ⟨c238_eq, r238_eq⟩ allT_nil allT_nil))) (allT_none (allT_some ⟨c94_eq, r94_eq⟩ (allT_some ⟨c158_eq, r158_eq⟩ allT_nil allT_nil) allT_nil) (allT_some ⟨c126_eq, r126_eq⟩ (allT_some ⟨c190_eq, r190_eq⟩ allT_nil allT_nil) allT_nil)))))))
theorem tbl_ok : TblOk Tryz.prog (fun f => tblT.get f) := tblOk_of tbl_all
end Go.CM
