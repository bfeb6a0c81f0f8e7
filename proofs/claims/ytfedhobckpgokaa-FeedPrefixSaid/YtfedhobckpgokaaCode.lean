/-
  The code of the functions, without types, as the canonical machine reads it (printed by program).
-/
import Derived.Test.YtfedhobckpgokaaRows
import Derived.Test.YtfedhobckpgokaaCnA
import Derived.ProofKit
namespace Go.CM
open Go Go.Proofs
set_option maxRecDepth 100000
/-! F3 braid/braidlaw20.FeedPrefix -/
def l3_0 : Cd := (.seq (.seq (.reg [⟨0, (some 102), none, .mo (.mv (.tmp 21)), [], false⟩,
  ⟨1, (some 103), none, .mo (.mv (.tmp 3)), [], false⟩,
  ⟨2, (some 104), none, .mo (.len (.sl 1) (.tmp 103)), [], false⟩,
  ⟨3, (some 105), none, .mo (.bin .lss 3 (.tmp 102) (.tmp 104)), [], false⟩])
  (.cond (.tmp 105) .skip (.exit 0)))
  (.seq (.block 1 (.seq (.seq (.reg [⟨0, (some 108), none, .mo (.ldA 3 (.tmp 14)), [], false⟩,
  ⟨1, (some 109), none, .callF 13 [(.tmp 108)], [], false⟩,
  ⟨2, (some 110), none, .mo (.bin .neq 3 (.tmp 109) (.const (.int .i64 0))), [], false⟩])
  (.cond (.tmp 110) (.seq (.reg [⟨0, (some 8), none, .mo (.mv (.const (.bool false))), [], false⟩])
  .ret) .skip))
  (.seq (.seq (.reg [⟨0, (some 111), none, .mo (.mv (.tmp 3)), [], false⟩,
  ⟨1, (some 112), none, .mo (.mv (.tmp 21)), [], false⟩,
  ⟨2, (some 113), none, .mo (.ia (.sl 1) (.tmp 111) (.tmp 112)), [], false⟩,
  ⟨3, (some 114), none, .mo (.ld1 (.tmp 113)), [], false⟩])
  (.cond (.tmp 114) (.seq (.dreg [⟨0, (some 116), none, .mo (.ldA 3 (.tmp 14)), [], true⟩,
  ⟨1, (some 117), none, .mo (.mv (.tmp 17)), [], false⟩,
  ⟨2, (some 118), none, .mo (.mv (.tmp 17)), [], false⟩,
  ⟨3, (some 119), none, .mo (.bin .add 3 (.tmp 118) (.const (.int .i64 1))), [], false⟩,
  ⟨9, (some 22), none, .mo (.alloc [.int .i64 0, .int .i64 0, .nilS]), [], true⟩,
  ⟨4, (some 120), none, .callF 11 [(.tmp 117), (.tmp 119)], [9, 0], false⟩,
  ⟨5, (some 121), none, .callF 10 [(.tmp 116), (.tmp 120)], [9], false⟩,
  ⟨6, (some 115), none, .mo (.mv (.tmp 121)), [], false⟩,
  ⟨7, (some 122), none, .mo (.ext (.tmp 115) 0), [], false⟩,
  ⟨8, (some 123), none, .mo (.ext (.tmp 115) 1), [], false⟩,
  ⟨10, none, none, .mo (.st 3 (.tmp 22) (.tmp 122)), [], false⟩,
  ⟨11, (some 23), none, .mo (.mv (.tmp 123)), [], false⟩])
  (.seq (.seq (.reg [⟨0, (some 124), none, .mo (.mv (.tmp 23)), [], false⟩,
  ⟨1, (some 125), none, .mo (.bin .neq 27 (.tmp 124) (.const (.int .i64 0))), [], false⟩])
  (.cond (.tmp 125) (.seq (.reg [⟨0, (some 8), none, .mo (.mv (.const (.bool false))), [], false⟩])
  .ret) .skip))
  (.seq (.seq (.reg [⟨0, (some 126), none, .mo (.mv (.tmp 20)), [], false⟩,
  ⟨1, (some 127), none, .mo (.un .not (.tmp 126)), [], false⟩,
  ⟨2, (some 128), none, .mo (.mv (.tmp 127)), [], false⟩,
  ⟨3, (some 129), (some ((some 128), true)), .mo (.mv (.tmp 19)), [], false⟩,
  ⟨4, (some 130), (some ((some 128), true)), .mo (.bin .lss 3 (.tmp 129) (.const (.int .i64 0))), [], false⟩,
  ⟨5, (some 131), none, .mo (.pick (.tmp 128) (.tmp 130) (.const (.bool false))), [], false⟩,
  ⟨6, (some 132), none, .mo (.mv (.tmp 131)), [], false⟩,
  ⟨7, (some 133), (some ((some 132), true)), .mo (.mv (.tmp 17)), [], false⟩,
  ⟨8, (some 134), (some ((some 132), true)), .mo (.mv (.tmp 1)), [], false⟩,
  ⟨9, (some 135), (some ((some 132), true)), .mo (.mv (.tmp 2)), [], false⟩,
  ⟨10, (some 136), (some ((some 132), true)), .mo (.bin .add 3 (.tmp 134) (.tmp 135)), [], false⟩,
  ⟨11, (some 137), (some ((some 132), true)), .mo (.bin .geq 3 (.tmp 133) (.tmp 136)), [], false⟩,
  ⟨12, (some 138), none, .mo (.pick (.tmp 132) (.tmp 137) (.const (.bool false))), [], false⟩,
  ⟨13, (some 139), none, .mo (.mv (.tmp 138)), [], false⟩,
  ⟨14, (some 140), (some ((some 139), true)), .mo (.mv (.tmp 17)), [], false⟩,
  ⟨15, (some 141), (some ((some 139), true)), .mo (.mv (.tmp 18)), [], false⟩,
  ⟨16, (some 142), (some ((some 139), true)), .mo (.bin .sub 3 (.tmp 140) (.tmp 141)), [], false⟩,
  ⟨17, (some 143), (some ((some 139), true)), .mo (.mv (.tmp 0)), [], false⟩,
  ⟨18, (some 144), (some ((some 139), true)), .mo (.bin .geq 3 (.tmp 142) (.tmp 143)), [], false⟩,
  ⟨19, (some 145), none, .mo (.pick (.tmp 139) (.tmp 144) (.const (.bool false))), [], false⟩])
  (.cond (.tmp 145) (.reg [⟨0, (some 146), none, .mo (.mv (.tmp 17)), [], false⟩,
  ⟨1, (some 19), none, .mo (.mv (.tmp 146)), [], false⟩]) .skip))
  (.seq (.reg [⟨0, (some 147), none, .mo (.ldA 3 (.tmp 22)), [], false⟩,
  ⟨1, (some 148), none, .mo (.mv (.tmp 17)), [], false⟩,
  ⟨2, (some 149), none, .mo (.bin .add 3 (.tmp 148) (.const (.int .i64 1))), [], false⟩,
  ⟨3, none, none, .mo (.st 3 (.tmp 14) (.tmp 147)), [], false⟩,
  ⟨4, (some 17), none, .mo (.mv (.tmp 149)), [], false⟩])
  (.exit 1))))) .skip))
  (.seq (.reg [⟨0, (some 151), none, .mo (.ldA 3 (.tmp 14)), [], false⟩,
  ⟨1, (some 152), none, .callF 14 [(.tmp 151), (.const (.int .i64 0))], [], false⟩,
  ⟨2, (some 150), none, .mo (.mv (.tmp 152)), [], false⟩,
  ⟨3, (some 153), none, .mo (.ext (.tmp 150) 0), [], false⟩,
  ⟨4, (some 154), none, .mo (.ext (.tmp 150) 1), [], false⟩,
  ⟨5, (some 155), none, .mo (.ext (.tmp 150) 2), [], false⟩,
  ⟨6, (some 156), none, .mo (.ext (.tmp 150) 3), [], false⟩,
  ⟨7, (some 157), none, .mo (.ext (.tmp 150) 4), [], false⟩,
  ⟨8, (some 24), none, .mo (.alloc [.int .i64 0, .int .i64 0, .nilS]), [], false⟩,
  ⟨9, (some 27), none, .mo (.alloc [.int .u8 0, .int .u8 0, .int .u8 0, .int .u8 0, .int .u8 0, .int .u8 0, .int .u8 0, .int .u8 0, .int .u8 0, .int .u8 0, .int .u8 0, .int .u8 0, .int .u8 0, .int .u8 0, .int .u8 0, .int .u8 0, .int .u8 0, .int .u8 0, .int .u8 0, .int .u8 0, .int .u8 0, .int .u8 0, .int .u8 0, .int .u8 0, .int .u8 0, .int .u8 0, .int .u8 0, .int .u8 0, .int .u8 0, .int .u8 0, .int .u8 0, .int .u8 0]), [], false⟩,
  ⟨10, none, none, .mo (.st 3 (.tmp 24) (.tmp 153)), [], false⟩,
  ⟨11, (some 25), none, .mo (.mv (.tmp 154)), [], false⟩,
  ⟨12, (some 26), none, .mo (.mv (.tmp 155)), [], false⟩,
  ⟨13, none, none, .mo (.st 32 (.tmp 27) (.tmp 156)), [], false⟩,
  ⟨14, (some 28), none, .mo (.mv (.tmp 157)), [], false⟩])
  (.seq (.reg [⟨0, (some 158), none, .mo (.mv (.tmp 17)), [], false⟩,
  ⟨1, (some 29), none, .mo (.mv (.tmp 158)), [], false⟩])
  (.seq (.seq (.reg [⟨0, (some 159), none, .mo (.mv (.tmp 19)), [], false⟩,
  ⟨1, (some 160), none, .mo (.bin .geq 3 (.tmp 159) (.const (.int .i64 0))), [], false⟩])
  (.cond (.tmp 160) (.reg [⟨0, (some 161), none, .mo (.mv (.tmp 19)), [], false⟩,
  ⟨1, (some 29), none, .mo (.mv (.tmp 161)), [], false⟩]) .skip))
  (.block 2 (.seq (.reg [⟨0, (some 165), none, .mo (.mv (.tmp 20)), [], false⟩,
  ⟨1, (some 164), none, .mo (.mv (.tmp 165)), [], false⟩])
  (.cond (.tmp 164) (.seq (.reg [⟨0, (some 166), none, .mo (.mv (.tmp 28)), [], false⟩,
  ⟨1, (some 167), none, .mo (.bin .neq 27 (.tmp 166) (.const (.int .i64 34))), [], false⟩])
  (.cond (.tmp 167) (.seq (.reg [⟨0, (some 8), none, .mo (.mv (.const (.bool false))), [], false⟩])
  .ret) .skip)) (.seq (.reg [⟨0, (some 169), none, .mo (.mv (.tmp 18)), [], false⟩,
  ⟨1, (some 170), none, .mo (.mv (.tmp 29)), [], false⟩,
  ⟨2, (some 171), none, .mo (.bin .lss 3 (.tmp 169) (.tmp 170)), [], false⟩,
  ⟨3, (some 168), none, .mo (.mv (.tmp 171)), [], false⟩])
  (.cond (.tmp 168) (.seq (.seq (.dreg [⟨0, (some 172), none, .mo (.mv (.tmp 28)), [], false⟩,
  ⟨1, (some 173), none, .mo (.bin .neq 27 (.tmp 172) (.const (.int .i64 0))), [], false⟩,
  ⟨2, (some 174), none, .mo (.mv (.tmp 173)), [], false⟩,
  ⟨3, (some 175), (some ((some 174), false)), .mo (.mv (.tmp 25)), [], false⟩,
  ⟨4, (some 176), (some ((some 174), false)), .mo (.bin .neq 5 (.tmp 175) (.const (.int .u8 1))), [], false⟩,
  ⟨5, (some 177), none, .mo (.pick (.tmp 174) (.const (.bool true)) (.tmp 176)), [], false⟩,
  ⟨6, (some 178), none, .mo (.mv (.tmp 177)), [], false⟩,
  ⟨7, (some 179), (some ((some 178), false)), .mo (.mv (.tmp 26)), [], false⟩,
  ⟨8, (some 180), (some ((some 178), false)), .mo (.mv (.tmp 18)), [], false⟩,
  ⟨9, (some 181), (some ((some 178), false)), .mo (.bin .neq 3 (.tmp 179) (.tmp 180)), [], false⟩,
  ⟨10, (some 182), none, .mo (.pick (.tmp 178) (.const (.bool true)) (.tmp 181)), [], false⟩,
  ⟨11, (some 183), none, .mo (.mv (.tmp 182)), [], false⟩,
  ⟨12, (some 184), (some ((some 183), false)), .mo (.ldA 32 (.tmp 27)), [], true⟩,
  ⟨13, (some 185), (some ((some 183), false)), .mo (.mv (.tmp 18)), [], false⟩,
  ⟨14, (some 186), (some ((some 183), false)), .callF 15 [(.tmp 185)], [12], false⟩,
  ⟨15, (some 187), (some ((some 183), false)), .mo (.bin .neq 37 (.tmp 184) (.tmp 186)), [], false⟩,
  ⟨16, (some 188), none, .mo (.pick (.tmp 183) (.const (.bool true)) (.tmp 187)), [], false⟩])
  (.cond (.tmp 188) (.seq (.reg [⟨0, (some 8), none, .mo (.mv (.const (.bool false))), [], false⟩])
  .ret) .skip))
  (.reg [⟨0, (some 189), none, .mo (.ldA 3 (.tmp 24)), [], false⟩,
  ⟨1, (some 190), none, .mo (.mv (.tmp 18)), [], false⟩,
  ⟨2, (some 191), none, .mo (.bin .add 3 (.tmp 190) (.const (.int .i64 1))), [], false⟩,
  ⟨3, none, none, .mo (.st 3 (.tmp 14) (.tmp 189)), [], false⟩,
  ⟨4, (some 18), none, .mo (.mv (.tmp 191)), [], false⟩])) (.seq (.reg [⟨0, (some 193), none, .mo (.mv (.tmp 19)), [], false⟩,
  ⟨1, (some 194), none, .mo (.bin .geq 3 (.tmp 193) (.const (.int .i64 0))), [], false⟩,
  ⟨2, (some 192), none, .mo (.mv (.tmp 194)), [], false⟩])
  (.cond (.tmp 192) (.seq (.seq (.reg [⟨0, (some 195), none, .mo (.mv (.tmp 28)), [], false⟩,
  ⟨1, (some 196), none, .mo (.bin .neq 27 (.tmp 195) (.const (.int .i64 0))), [], false⟩,
  ⟨2, (some 197), none, .mo (.mv (.tmp 196)), [], false⟩,
  ⟨3, (some 198), (some ((some 197), false)), .mo (.mv (.tmp 25)), [], false⟩,
  ⟨4, (some 199), (some ((some 197), false)), .mo (.bin .neq 5 (.tmp 198) (.const (.int .u8 2))), [], false⟩,
  ⟨5, (some 200), none, .mo (.pick (.tmp 197) (.const (.bool true)) (.tmp 199)), [], false⟩,
  ⟨6, (some 201), none, .mo (.mv (.tmp 200)), [], false⟩,
  ⟨7, (some 202), (some ((some 201), false)), .mo (.mv (.tmp 26)), [], false⟩,
  ⟨8, (some 203), (some ((some 201), false)), .mo (.mv (.tmp 19)), [], false⟩,
  ⟨9, (some 204), (some ((some 201), false)), .mo (.bin .neq 3 (.tmp 202) (.tmp 203)), [], false⟩,
  ⟨10, (some 205), none, .mo (.pick (.tmp 201) (.const (.bool true)) (.tmp 204)), [], false⟩])
  (.cond (.tmp 205) (.seq (.reg [⟨0, (some 8), none, .mo (.mv (.const (.bool false))), [], false⟩])
  .ret) .skip))
  (.reg [⟨0, (some 206), none, .mo (.ldA 3 (.tmp 24)), [], false⟩,
  ⟨1, none, none, .mo (.st 3 (.tmp 14) (.tmp 206)), [], false⟩,
  ⟨2, (some 20), none, .mo (.mv (.const (.bool true))), [], false⟩])) (.seq (.reg [⟨0, (some 162), none, .mo (.mv (.tmp 28)), [], false⟩,
  ⟨1, (some 163), none, .mo (.bin .neq 27 (.tmp 162) (.const (.int .i64 38))), [], false⟩])
  (.cond (.tmp 163) (.seq (.reg [⟨0, (some 8), none, .mo (.mv (.const (.bool false))), [], false⟩])
  .ret) .skip)))))))))))))))
  (.reg [⟨0, (some 106), none, .mo (.mv (.tmp 21)), [], false⟩,
  ⟨1, (some 107), none, .mo (.bin .add 3 (.tmp 106) (.const (.int .i64 1))), [], false⟩,
  ⟨2, (some 21), none, .mo (.mv (.tmp 107)), [], false⟩])))
def c3 : Cd := (.seq (.reg [⟨0, (some 8), none, .mo (.mv (.const (.bool false))), [], false⟩])
  (.seq (.reg [⟨0, (some 30), none, .callF 8 [], [], false⟩,
  ⟨1, (some 9), none, .mo (.mv (.tmp 30)), [], false⟩])
  (.seq (.seq (.reg [⟨0, (some 31), none, .mo (.mv (.tmp 0)), [], false⟩,
  ⟨1, (some 32), none, .mo (.bin .lss 3 (.tmp 31) (.const (.int .i64 1))), [], false⟩,
  ⟨2, (some 33), none, .mo (.mv (.tmp 32)), [], false⟩,
  ⟨3, (some 34), (some ((some 33), false)), .mo (.mv (.tmp 0)), [], false⟩,
  ⟨4, (some 35), (some ((some 33), false)), .mo (.bin .gtr 3 (.tmp 34) (.const (.int .i64 8))), [], false⟩,
  ⟨5, (some 36), none, .mo (.pick (.tmp 33) (.const (.bool true)) (.tmp 35)), [], false⟩,
  ⟨6, (some 37), none, .mo (.mv (.tmp 36)), [], false⟩,
  ⟨7, (some 38), (some ((some 37), false)), .mo (.mv (.tmp 1)), [], false⟩,
  ⟨8, (some 39), (some ((some 37), false)), .mo (.bin .lss 3 (.tmp 38) (.const (.int .i64 0))), [], false⟩,
  ⟨9, (some 40), none, .mo (.pick (.tmp 37) (.const (.bool true)) (.tmp 39)), [], false⟩,
  ⟨10, (some 41), none, .mo (.mv (.tmp 40)), [], false⟩,
  ⟨11, (some 42), (some ((some 41), false)), .mo (.mv (.tmp 1)), [], false⟩,
  ⟨12, (some 43), (some ((some 41), false)), .mo (.bin .gtr 3 (.tmp 42) (.const (.int .i64 20))), [], false⟩,
  ⟨13, (some 44), none, .mo (.pick (.tmp 41) (.const (.bool true)) (.tmp 43)), [], false⟩,
  ⟨14, (some 45), none, .mo (.mv (.tmp 44)), [], false⟩,
  ⟨15, (some 46), (some ((some 45), false)), .mo (.mv (.tmp 2)), [], false⟩,
  ⟨16, (some 47), (some ((some 45), false)), .mo (.bin .lss 3 (.tmp 46) (.const (.int .i64 0))), [], false⟩,
  ⟨17, (some 48), none, .mo (.pick (.tmp 45) (.const (.bool true)) (.tmp 47)), [], false⟩,
  ⟨18, (some 49), none, .mo (.mv (.tmp 48)), [], false⟩,
  ⟨19, (some 50), (some ((some 49), false)), .mo (.mv (.tmp 2)), [], false⟩,
  ⟨20, (some 51), (some ((some 49), false)), .mo (.bin .gtr 3 (.tmp 50) (.const (.int .i64 20))), [], false⟩,
  ⟨21, (some 52), none, .mo (.pick (.tmp 49) (.const (.bool true)) (.tmp 51)), [], false⟩,
  ⟨22, (some 53), none, .mo (.mv (.tmp 52)), [], false⟩,
  ⟨23, (some 54), (some ((some 53), false)), .mo (.mv (.tmp 3)), [], false⟩,
  ⟨24, (some 55), (some ((some 53), false)), .mo (.len (.sl 1) (.tmp 54)), [], false⟩,
  ⟨25, (some 56), (some ((some 53), false)), .mo (.bin .gtr 3 (.tmp 55) (.const (.int .i64 60))), [], false⟩,
  ⟨26, (some 57), none, .mo (.pick (.tmp 53) (.const (.bool true)) (.tmp 56)), [], false⟩,
  ⟨27, (some 58), none, .mo (.mv (.tmp 57)), [], false⟩,
  ⟨28, (some 59), (some ((some 58), false)), .mo (.mv (.tmp 9)), [], false⟩,
  ⟨29, (some 60), (some ((some 58), false)), .mo (.un .not (.tmp 59)), [], false⟩,
  ⟨30, (some 61), none, .mo (.pick (.tmp 58) (.const (.bool true)) (.tmp 60)), [], false⟩])
  (.cond (.tmp 61) (.seq (.reg [⟨0, (some 62), none, .mo (.mv (.tmp 9)), [], false⟩,
  ⟨1, (some 8), none, .mo (.mv (.tmp 62)), [], false⟩])
  .ret) .skip))
  (.seq (.reg [⟨0, (some 64), none, .mo (.mv (.tmp 0)), [], false⟩,
  ⟨1, (some 65), none, .callF 9 [(.tmp 64)], [], false⟩,
  ⟨2, (some 63), none, .mo (.mv (.tmp 65)), [], false⟩,
  ⟨3, (some 66), none, .mo (.ext (.tmp 63) 0), [], false⟩,
  ⟨4, (some 67), none, .mo (.ext (.tmp 63) 1), [], false⟩,
  ⟨5, (some 10), none, .mo (.alloc [.int .i64 0, .int .i64 0, .nilS]), [], false⟩,
  ⟨6, none, none, .mo (.st 3 (.tmp 10) (.tmp 66)), [], false⟩,
  ⟨7, (some 11), none, .mo (.mv (.tmp 67)), [], false⟩])
  (.seq (.dreg [⟨0, (some 69), none, .mo (.ldA 3 (.tmp 10)), [], true⟩,
  ⟨1, (some 70), none, .mo (.mv (.tmp 1)), [], false⟩,
  ⟨7, (some 12), none, .mo (.alloc [.int .i64 0, .int .i64 0, .nilS]), [], true⟩,
  ⟨2, (some 71), none, .callF 11 [(.const (.int .i64 0)), (.tmp 70)], [7, 0], false⟩,
  ⟨3, (some 72), none, .callF 10 [(.tmp 69), (.tmp 71)], [7], false⟩,
  ⟨4, (some 68), none, .mo (.mv (.tmp 72)), [], false⟩,
  ⟨5, (some 73), none, .mo (.ext (.tmp 68) 0), [], false⟩,
  ⟨6, (some 74), none, .mo (.ext (.tmp 68) 1), [], false⟩,
  ⟨8, none, none, .mo (.st 3 (.tmp 12) (.tmp 73)), [], false⟩,
  ⟨9, (some 13), none, .mo (.mv (.tmp 74)), [], false⟩])
  (.seq (.reg [⟨0, (some 76), none, .mo (.ldA 3 (.tmp 12)), [], false⟩,
  ⟨1, (some 77), none, .mo (.mv (.tmp 1)), [], false⟩,
  ⟨2, (some 78), none, .mo (.mv (.tmp 2)), [], false⟩,
  ⟨3, (some 79), none, .mo (.bin .add 3 (.tmp 77) (.tmp 78)), [], false⟩,
  ⟨4, (some 80), none, .callF 12 [(.tmp 76), (.tmp 79)], [], false⟩,
  ⟨5, (some 75), none, .mo (.mv (.tmp 80)), [], false⟩,
  ⟨6, (some 81), none, .mo (.ext (.tmp 75) 0), [], false⟩,
  ⟨7, (some 82), none, .mo (.ext (.tmp 75) 1), [], false⟩,
  ⟨8, (some 83), none, .mo (.ext (.tmp 75) 2), [], false⟩,
  ⟨9, (some 14), none, .mo (.alloc [.int .i64 0, .int .i64 0, .nilS]), [], false⟩,
  ⟨10, none, none, .mo (.st 3 (.tmp 14) (.tmp 81)), [], false⟩,
  ⟨11, (some 15), none, .mo (.mv (.tmp 82)), [], false⟩,
  ⟨12, (some 16), none, .mo (.mv (.tmp 83)), [], false⟩])
  (.seq (.seq (.reg [⟨0, (some 84), none, .mo (.mv (.tmp 11)), [], false⟩,
  ⟨1, (some 85), none, .mo (.bin .neq 27 (.tmp 84) (.const (.int .i64 0))), [], false⟩,
  ⟨2, (some 86), none, .mo (.mv (.tmp 85)), [], false⟩,
  ⟨3, (some 87), (some ((some 86), false)), .mo (.mv (.tmp 13)), [], false⟩,
  ⟨4, (some 88), (some ((some 86), false)), .mo (.bin .neq 27 (.tmp 87) (.const (.int .i64 0))), [], false⟩,
  ⟨5, (some 89), none, .mo (.pick (.tmp 86) (.const (.bool true)) (.tmp 88)), [], false⟩,
  ⟨6, (some 90), none, .mo (.mv (.tmp 89)), [], false⟩,
  ⟨7, (some 91), (some ((some 90), false)), .mo (.mv (.tmp 16)), [], false⟩,
  ⟨8, (some 92), (some ((some 90), false)), .mo (.bin .neq 27 (.tmp 91) (.const (.int .i64 0))), [], false⟩,
  ⟨9, (some 93), none, .mo (.pick (.tmp 90) (.const (.bool true)) (.tmp 92)), [], false⟩,
  ⟨10, (some 94), none, .mo (.mv (.tmp 93)), [], false⟩,
  ⟨11, (some 95), (some ((some 94), false)), .mo (.mv (.tmp 15)), [], false⟩,
  ⟨12, (some 96), (some ((some 94), false)), .mo (.bin .neq 3 (.tmp 95) (.const (.int .i64 0))), [], false⟩,
  ⟨13, (some 97), none, .mo (.pick (.tmp 94) (.const (.bool true)) (.tmp 96)), [], false⟩])
  (.cond (.tmp 97) (.seq (.reg [⟨0, (some 8), none, .mo (.mv (.const (.bool false))), [], false⟩])
  .ret) .skip))
  (.seq (.reg [⟨0, (some 98), none, .mo (.mv (.tmp 1)), [], false⟩,
  ⟨1, (some 99), none, .mo (.mv (.tmp 1)), [], false⟩,
  ⟨2, (some 100), none, .mo (.mv (.tmp 2)), [], false⟩,
  ⟨3, (some 101), none, .mo (.bin .add 3 (.tmp 99) (.tmp 100)), [], false⟩,
  ⟨4, (some 17), none, .mo (.mv (.tmp 98)), [], false⟩,
  ⟨5, (some 18), none, .mo (.mv (.tmp 101)), [], false⟩,
  ⟨6, (some 19), none, .mo (.mv (.const (.int .i64 (-1)))), [], false⟩,
  ⟨7, (some 20), none, .mo (.mv (.const (.bool false))), [], false⟩])
  (.seq (.seq (.reg [⟨0, (some 21), none, .mo (.mv (.const (.int .i64 0))), [], false⟩])
  (.block 0 (.loop l3_0)))
  (.seq (.reg [⟨0, (some 207), none, .mo (.mv (.tmp 9)), [], false⟩,
  ⟨1, (some 8), none, .mo (.mv (.tmp 207)), [], false⟩])
  .ret))))))))))
def r3 : List Mo := [.mv (.tmp 8)]
theorem c3_eq : compF Try.prog 3 = some c3 := by kernel_rfl
theorem r3_eq : compRs Try.prog 3 = some r3 := by kernel_rfl
/-! F4 braid/braidlaw20.FeedKeeps -/
def l4_0 : Cd := (.seq (.seq (.reg [⟨0, (some 60), none, .mo (.mv (.tmp 9)), [], false⟩,
  ⟨1, (some 61), none, .mo (.mv (.tmp 1)), [], false⟩,
  ⟨2, (some 62), none, .mo (.len (.sl 32) (.tmp 61)), [], false⟩,
  ⟨3, (some 63), none, .mo (.bin .lss 3 (.tmp 60) (.tmp 62)), [], false⟩])
  (.cond (.tmp 63) .skip (.exit 0)))
  (.seq (.block 1 (.seq (.dreg [⟨0, (some 67), none, .mo (.ldA 3 (.tmp 6)), [], false⟩,
  ⟨1, (some 68), none, .mo (.mv (.tmp 1)), [], false⟩,
  ⟨2, (some 69), none, .mo (.mv (.tmp 9)), [], false⟩,
  ⟨3, (some 70), none, .mo (.mv (.tmp 9)), [], false⟩,
  ⟨4, (some 71), none, .mo (.bin .add 3 (.tmp 70) (.const (.int .i64 1))), [], false⟩,
  ⟨5, (some 72), none, .mo (.slice (.sl 32) (.tmp 68) (some (.tmp 69)) (some (.tmp 71)) none), [], false⟩,
  ⟨10, (some 10), none, .mo (.alloc [.int .i64 0, .int .i64 0, .nilS]), [], true⟩,
  ⟨6, (some 73), none, .callF 10 [(.tmp 67), (.tmp 72)], [10], false⟩,
  ⟨7, (some 66), none, .mo (.mv (.tmp 73)), [], false⟩,
  ⟨8, (some 74), none, .mo (.ext (.tmp 66) 0), [], false⟩,
  ⟨9, (some 75), none, .mo (.ext (.tmp 66) 1), [], false⟩,
  ⟨11, none, none, .mo (.st 3 (.tmp 10) (.tmp 74)), [], false⟩,
  ⟨12, (some 11), none, .mo (.mv (.tmp 75)), [], false⟩])
  (.seq (.reg [⟨0, (some 77), none, .mo (.ldA 3 (.tmp 10)), [], false⟩,
  ⟨1, (some 78), none, .mo (.mv (.tmp 7)), [], false⟩,
  ⟨2, (some 79), none, .callF 14 [(.tmp 77), (.tmp 78)], [], false⟩,
  ⟨3, (some 76), none, .mo (.mv (.tmp 79)), [], false⟩,
  ⟨4, (some 80), none, .mo (.ext (.tmp 76) 0), [], false⟩,
  ⟨5, (some 81), none, .mo (.ext (.tmp 76) 1), [], false⟩,
  ⟨6, (some 82), none, .mo (.ext (.tmp 76) 2), [], false⟩,
  ⟨7, (some 83), none, .mo (.ext (.tmp 76) 3), [], false⟩,
  ⟨8, (some 84), none, .mo (.ext (.tmp 76) 4), [], false⟩,
  ⟨9, (some 12), none, .mo (.alloc [.int .i64 0, .int .i64 0, .nilS]), [], false⟩,
  ⟨10, (some 15), none, .mo (.alloc [.int .u8 0, .int .u8 0, .int .u8 0, .int .u8 0, .int .u8 0, .int .u8 0, .int .u8 0, .int .u8 0, .int .u8 0, .int .u8 0, .int .u8 0, .int .u8 0, .int .u8 0, .int .u8 0, .int .u8 0, .int .u8 0, .int .u8 0, .int .u8 0, .int .u8 0, .int .u8 0, .int .u8 0, .int .u8 0, .int .u8 0, .int .u8 0, .int .u8 0, .int .u8 0, .int .u8 0, .int .u8 0, .int .u8 0, .int .u8 0, .int .u8 0, .int .u8 0]), [], false⟩,
  ⟨11, none, none, .mo (.st 3 (.tmp 12) (.tmp 80)), [], false⟩,
  ⟨12, (some 13), none, .mo (.mv (.tmp 81)), [], false⟩,
  ⟨13, (some 14), none, .mo (.mv (.tmp 82)), [], false⟩,
  ⟨14, none, none, .mo (.st 32 (.tmp 15) (.tmp 83)), [], false⟩,
  ⟨15, (some 16), none, .mo (.mv (.tmp 84)), [], false⟩])
  (.seq (.seq (.reg [⟨0, (some 85), none, .mo (.mv (.tmp 11)), [], false⟩,
  ⟨1, (some 86), none, .mo (.bin .neq 27 (.tmp 85) (.const (.int .i64 0))), [], false⟩,
  ⟨2, (some 87), none, .mo (.mv (.tmp 86)), [], false⟩,
  ⟨3, (some 88), (some ((some 87), false)), .mo (.mv (.tmp 16)), [], false⟩,
  ⟨4, (some 89), (some ((some 87), false)), .mo (.bin .neq 27 (.tmp 88) (.const (.int .i64 0))), [], false⟩,
  ⟨5, (some 90), none, .mo (.pick (.tmp 87) (.const (.bool true)) (.tmp 89)), [], false⟩,
  ⟨6, (some 91), none, .mo (.mv (.tmp 90)), [], false⟩,
  ⟨7, (some 92), (some ((some 91), false)), .mo (.mv (.tmp 13)), [], false⟩,
  ⟨8, (some 93), (some ((some 91), false)), .mo (.bin .neq 5 (.tmp 92) (.const (.int .u8 1))), [], false⟩,
  ⟨9, (some 94), none, .mo (.pick (.tmp 91) (.const (.bool true)) (.tmp 93)), [], false⟩,
  ⟨10, (some 95), none, .mo (.mv (.tmp 94)), [], false⟩,
  ⟨11, (some 96), (some ((some 95), false)), .mo (.mv (.tmp 14)), [], false⟩,
  ⟨12, (some 97), (some ((some 95), false)), .mo (.fa 1 (.tmp 2)), [], false⟩,
  ⟨13, (some 98), (some ((some 95), false)), .mo (.ld1 (.tmp 97)), [], false⟩,
  ⟨14, (some 99), (some ((some 95), false)), .mo (.mv (.tmp 9)), [], false⟩,
  ⟨15, (some 100), (some ((some 95), false)), .mo (.bin .add 3 (.tmp 98) (.tmp 99)), [], false⟩,
  ⟨16, (some 101), (some ((some 95), false)), .mo (.bin .neq 3 (.tmp 96) (.tmp 100)), [], false⟩,
  ⟨17, (some 102), none, .mo (.pick (.tmp 95) (.const (.bool true)) (.tmp 101)), [], false⟩,
  ⟨18, (some 103), none, .mo (.mv (.tmp 102)), [], false⟩,
  ⟨19, (some 104), (some ((some 103), false)), .mo (.ldA 32 (.tmp 15)), [], false⟩,
  ⟨20, (some 105), (some ((some 103), false)), .mo (.mv (.tmp 1)), [], false⟩,
  ⟨21, (some 106), (some ((some 103), false)), .mo (.mv (.tmp 9)), [], false⟩,
  ⟨22, (some 107), (some ((some 103), false)), .mo (.ia (.sl 32) (.tmp 105) (.tmp 106)), [], false⟩,
  ⟨23, (some 108), (some ((some 103), false)), .mo (.ldA 32 (.tmp 107)), [], false⟩,
  ⟨24, (some 109), (some ((some 103), false)), .mo (.bin .neq 37 (.tmp 104) (.tmp 108)), [], false⟩,
  ⟨25, (some 110), none, .mo (.pick (.tmp 103) (.const (.bool true)) (.tmp 109)), [], false⟩])
  (.cond (.tmp 110) (.seq (.reg [⟨0, (some 4), none, .mo (.mv (.const (.bool false))), [], false⟩])
  .ret) .skip))
  (.seq (.reg [⟨0, (some 112), none, .mo (.ldA 3 (.tmp 12)), [], false⟩,
  ⟨1, (some 113), none, .mo (.mv (.tmp 7)), [], false⟩,
  ⟨2, (some 114), none, .callF 14 [(.tmp 112), (.tmp 113)], [], false⟩,
  ⟨3, (some 111), none, .mo (.mv (.tmp 114)), [], false⟩,
  ⟨4, (some 115), none, .mo (.ext (.tmp 111) 0), [], false⟩,
  ⟨5, (some 116), none, .mo (.ext (.tmp 111) 1), [], false⟩,
  ⟨6, (some 117), none, .mo (.ext (.tmp 111) 2), [], false⟩,
  ⟨7, (some 118), none, .mo (.ext (.tmp 111) 3), [], false⟩,
  ⟨8, (some 119), none, .mo (.ext (.tmp 111) 4), [], false⟩,
  ⟨9, (some 17), none, .mo (.alloc [.int .i64 0, .int .i64 0, .nilS]), [], false⟩,
  ⟨10, (some 20), none, .mo (.alloc [.int .u8 0, .int .u8 0, .int .u8 0, .int .u8 0, .int .u8 0, .int .u8 0, .int .u8 0, .int .u8 0, .int .u8 0, .int .u8 0, .int .u8 0, .int .u8 0, .int .u8 0, .int .u8 0, .int .u8 0, .int .u8 0, .int .u8 0, .int .u8 0, .int .u8 0, .int .u8 0, .int .u8 0, .int .u8 0, .int .u8 0, .int .u8 0, .int .u8 0, .int .u8 0, .int .u8 0, .int .u8 0, .int .u8 0, .int .u8 0, .int .u8 0, .int .u8 0]), [], false⟩,
  ⟨11, none, none, .mo (.st 3 (.tmp 17) (.tmp 115)), [], false⟩,
  ⟨12, (some 18), none, .mo (.mv (.tmp 116)), [], false⟩,
  ⟨13, (some 19), none, .mo (.mv (.tmp 117)), [], false⟩,
  ⟨14, none, none, .mo (.st 32 (.tmp 20) (.tmp 118)), [], false⟩,
  ⟨15, (some 21), none, .mo (.mv (.tmp 119)), [], false⟩])
  (.seq (.seq (.reg [⟨0, (some 120), none, .mo (.mv (.tmp 21)), [], false⟩,
  ⟨1, (some 121), none, .mo (.bin .neq 27 (.tmp 120) (.const (.int .i64 38))), [], false⟩])
  (.cond (.tmp 121) (.seq (.reg [⟨0, (some 4), none, .mo (.mv (.const (.bool false))), [], false⟩])
  .ret) .skip))
  (.reg [⟨0, (some 122), none, .mo (.ldA 3 (.tmp 12)), [], false⟩,
  ⟨1, none, none, .mo (.st 3 (.tmp 6) (.tmp 122)), [], false⟩])))))))
  (.reg [⟨0, (some 64), none, .mo (.mv (.tmp 9)), [], false⟩,
  ⟨1, (some 65), none, .mo (.bin .add 3 (.tmp 64) (.const (.int .i64 1))), [], false⟩,
  ⟨2, (some 9), none, .mo (.mv (.tmp 65)), [], false⟩])))
def c4 : Cd := (.seq (.reg [⟨0, (some 2), none, .mo (.box (.tmp 0)), [], false⟩,
  ⟨1, (some 4), none, .mo (.mv (.const (.bool false))), [], false⟩])
  (.seq (.reg [⟨0, (some 22), none, .callF 8 [], [], false⟩,
  ⟨1, (some 5), none, .mo (.mv (.tmp 22)), [], false⟩])
  (.seq (.seq (.reg [⟨0, (some 23), none, .mo (.ldA 3 (.tmp 2)), [], false⟩,
  ⟨1, (some 24), none, .callF 16 [(.tmp 23)], [], false⟩,
  ⟨2, (some 25), none, .mo (.mv (.tmp 24)), [], false⟩,
  ⟨3, (some 26), (some ((some 25), false)), .mo (.ldA 3 (.tmp 2)), [], false⟩,
  ⟨4, (some 27), (some ((some 25), false)), .callF 13 [(.tmp 26)], [], false⟩,
  ⟨5, (some 28), (some ((some 25), false)), .mo (.bin .neq 3 (.tmp 27) (.const (.int .i64 0))), [], false⟩,
  ⟨6, (some 29), none, .mo (.pick (.tmp 25) (.const (.bool true)) (.tmp 28)), [], false⟩,
  ⟨7, (some 30), none, .mo (.mv (.tmp 29)), [], false⟩,
  ⟨8, (some 31), (some ((some 30), false)), .mo (.fa 1 (.tmp 2)), [], false⟩,
  ⟨9, (some 32), (some ((some 30), false)), .mo (.ld1 (.tmp 31)), [], false⟩,
  ⟨10, (some 33), (some ((some 30), false)), .mo (.bin .gtr 3 (.tmp 32) (.const (.int .i64 1000000))), [], false⟩,
  ⟨11, (some 34), none, .mo (.pick (.tmp 30) (.const (.bool true)) (.tmp 33)), [], false⟩,
  ⟨12, (some 35), none, .mo (.mv (.tmp 34)), [], false⟩,
  ⟨13, (some 36), (some ((some 35), false)), .mo (.mv (.tmp 1)), [], false⟩,
  ⟨14, (some 37), (some ((some 35), false)), .mo (.len (.sl 32) (.tmp 36)), [], false⟩,
  ⟨15, (some 38), (some ((some 35), false)), .mo (.bin .gtr 3 (.tmp 37) (.const (.int .i64 40))), [], false⟩,
  ⟨16, (some 39), none, .mo (.pick (.tmp 35) (.const (.bool true)) (.tmp 38)), [], false⟩,
  ⟨17, (some 40), none, .mo (.mv (.tmp 39)), [], false⟩,
  ⟨18, (some 41), (some ((some 40), false)), .mo (.mv (.tmp 5)), [], false⟩,
  ⟨19, (some 42), (some ((some 40), false)), .mo (.un .not (.tmp 41)), [], false⟩,
  ⟨20, (some 43), none, .mo (.pick (.tmp 40) (.const (.bool true)) (.tmp 42)), [], false⟩])
  (.cond (.tmp 43) (.seq (.reg [⟨0, (some 44), none, .mo (.mv (.tmp 5)), [], false⟩,
  ⟨1, (some 4), none, .mo (.mv (.tmp 44)), [], false⟩])
  .ret) .skip))
  (.seq (.reg [⟨0, (some 46), none, .mo (.ldA 3 (.tmp 2)), [], false⟩,
  ⟨1, (some 47), none, .mo (.fa 1 (.tmp 2)), [], false⟩,
  ⟨2, (some 48), none, .mo (.ld1 (.tmp 47)), [], false⟩,
  ⟨3, (some 49), none, .callF 12 [(.tmp 46), (.tmp 48)], [], false⟩,
  ⟨4, (some 45), none, .mo (.mv (.tmp 49)), [], false⟩,
  ⟨5, (some 50), none, .mo (.ext (.tmp 45) 0), [], false⟩,
  ⟨6, (some 51), none, .mo (.ext (.tmp 45) 1), [], false⟩,
  ⟨7, (some 52), none, .mo (.ext (.tmp 45) 2), [], false⟩,
  ⟨8, (some 6), none, .mo (.alloc [.int .i64 0, .int .i64 0, .nilS]), [], false⟩,
  ⟨9, none, none, .mo (.st 3 (.tmp 6) (.tmp 50)), [], false⟩,
  ⟨10, (some 7), none, .mo (.mv (.tmp 51)), [], false⟩,
  ⟨11, (some 8), none, .mo (.mv (.tmp 52)), [], false⟩])
  (.seq (.seq (.reg [⟨0, (some 53), none, .mo (.mv (.tmp 8)), [], false⟩,
  ⟨1, (some 54), none, .mo (.bin .neq 27 (.tmp 53) (.const (.int .i64 0))), [], false⟩])
  (.cond (.tmp 54) (.seq (.reg [⟨0, (some 55), none, .mo (.mv (.tmp 5)), [], false⟩,
  ⟨1, (some 56), none, .mo (.mv (.tmp 55)), [], false⟩,
  ⟨2, (some 57), (some ((some 56), true)), .mo (.mv (.tmp 8)), [], false⟩,
  ⟨3, (some 58), (some ((some 56), true)), .mo (.bin .eql 27 (.tmp 57) (.const (.int .i64 18))), [], false⟩,
  ⟨4, (some 59), none, .mo (.pick (.tmp 56) (.tmp 58) (.const (.bool false))), [], false⟩,
  ⟨5, (some 4), none, .mo (.mv (.tmp 59)), [], false⟩])
  .ret) .skip))
  (.seq (.seq (.reg [⟨0, (some 9), none, .mo (.mv (.const (.int .i64 0))), [], false⟩])
  (.block 0 (.loop l4_0)))
  (.seq (.reg [⟨0, (some 123), none, .mo (.mv (.tmp 5)), [], false⟩,
  ⟨1, (some 4), none, .mo (.mv (.tmp 123)), [], false⟩])
  .ret)))))))
def r4 : List Mo := [.mv (.tmp 4)]
theorem c4_eq : compF Try.prog 4 = some c4 := by kernel_rfl
theorem r4_eq : compRs Try.prog 4 = some r4 := by kernel_rfl
/-! F5 braid/braidlaw20.FeedDoes -/
def c5 : Cd := (.seq (.reg [⟨0, (some 4), none, .mo (.box (.tmp 0)), [], false⟩,
  ⟨1, (some 8), none, .mo (.mv (.const (.bool false))), [], false⟩])
  (.seq (.seq (.reg [⟨0, (some 38), none, .mo (.ldA 3 (.tmp 4)), [], false⟩,
  ⟨1, (some 39), none, .callF 16 [(.tmp 38)], [], false⟩,
  ⟨2, (some 40), none, .mo (.mv (.tmp 39)), [], false⟩,
  ⟨3, (some 41), (some ((some 40), false)), .mo (.mv (.tmp 1)), [], false⟩,
  ⟨4, (some 42), (some ((some 40), false)), .mo (.len (.sl 32) (.tmp 41)), [], false⟩,
  ⟨5, (some 43), (some ((some 40), false)), .mo (.bin .gtr 3 (.tmp 42) (.const (.int .i64 70))), [], false⟩,
  ⟨6, (some 44), none, .mo (.pick (.tmp 40) (.const (.bool true)) (.tmp 43)), [], false⟩])
  (.cond (.tmp 44) (.seq (.reg [⟨0, (some 8), none, .mo (.mv (.const (.bool true))), [], false⟩])
  .ret) .skip))
  (.seq (.reg [⟨0, (some 45), none, .mo (.ldA 3 (.tmp 4)), [], false⟩,
  ⟨1, (some 46), none, .callF 17 [(.tmp 45)], [], false⟩,
  ⟨2, (some 9), none, .mo (.alloc [.int .i64 0, .int .i64 0, .nilS]), [], false⟩,
  ⟨3, none, none, .mo (.st 3 (.tmp 9) (.tmp 46)), [], false⟩])
  (.seq (.reg [⟨0, (some 48), none, .mo (.mv (.tmp 3)), [], false⟩,
  ⟨1, (some 49), none, .callF 9 [(.tmp 48)], [], false⟩,
  ⟨2, (some 47), none, .mo (.mv (.tmp 49)), [], false⟩,
  ⟨3, (some 50), none, .mo (.ext (.tmp 47) 0), [], false⟩,
  ⟨4, (some 51), none, .mo (.ext (.tmp 47) 1), [], false⟩,
  ⟨5, (some 10), none, .mo (.alloc [.int .i64 0, .int .i64 0, .nilS]), [], false⟩,
  ⟨6, none, none, .mo (.st 3 (.tmp 10) (.tmp 50)), [], false⟩,
  ⟨7, (some 11), none, .mo (.mv (.tmp 51)), [], false⟩])
  (.seq (.reg [⟨0, (some 53), none, .mo (.mv (.tmp 3)), [], false⟩,
  ⟨1, (some 54), none, .callF 18 [(.tmp 53)], [], false⟩,
  ⟨2, (some 52), none, .mo (.mv (.tmp 54)), [], false⟩,
  ⟨3, (some 55), none, .mo (.ext (.tmp 52) 0), [], false⟩,
  ⟨4, (some 56), none, .mo (.ext (.tmp 52) 1), [], false⟩,
  ⟨5, (some 12), none, .mo (.alloc [.int .i64 0, .int .i64 0, .nilS]), [], false⟩,
  ⟨6, none, none, .mo (.st 3 (.tmp 12) (.tmp 55)), [], false⟩,
  ⟨7, (some 13), none, .mo (.mv (.tmp 56)), [], false⟩])
  (.seq (.reg [⟨0, (some 58), none, .mo (.ldA 3 (.tmp 9)), [], false⟩,
  ⟨1, (some 59), none, .mo (.mv (.tmp 2)), [], false⟩,
  ⟨2, (some 60), none, .callF 12 [(.tmp 58), (.tmp 59)], [], false⟩,
  ⟨3, (some 57), none, .mo (.mv (.tmp 60)), [], false⟩,
  ⟨4, (some 61), none, .mo (.ext (.tmp 57) 0), [], false⟩,
  ⟨5, (some 62), none, .mo (.ext (.tmp 57) 1), [], false⟩,
  ⟨6, (some 63), none, .mo (.ext (.tmp 57) 2), [], false⟩,
  ⟨7, (some 14), none, .mo (.alloc [.int .i64 0, .int .i64 0, .nilS]), [], false⟩,
  ⟨8, none, none, .mo (.st 3 (.tmp 14) (.tmp 61)), [], false⟩,
  ⟨9, (some 15), none, .mo (.mv (.tmp 62)), [], false⟩,
  ⟨10, (some 16), none, .mo (.mv (.tmp 63)), [], false⟩])
  (.seq (.reg [⟨0, (some 65), none, .mo (.ldA 3 (.tmp 4)), [], false⟩,
  ⟨1, (some 66), none, .mo (.mv (.tmp 2)), [], false⟩,
  ⟨2, (some 67), none, .callF 19 [(.tmp 65), (.tmp 66)], [], false⟩,
  ⟨3, (some 64), none, .mo (.mv (.tmp 67)), [], false⟩,
  ⟨4, (some 68), none, .mo (.ext (.tmp 64) 0), [], false⟩,
  ⟨5, (some 69), none, .mo (.ext (.tmp 64) 1), [], false⟩,
  ⟨6, (some 70), none, .mo (.ext (.tmp 64) 2), [], false⟩,
  ⟨7, (some 17), none, .mo (.alloc [.int .i64 0, .int .i64 0, .nilS]), [], false⟩,
  ⟨8, none, none, .mo (.st 3 (.tmp 17) (.tmp 68)), [], false⟩,
  ⟨9, (some 18), none, .mo (.mv (.tmp 69)), [], false⟩,
  ⟨10, (some 19), none, .mo (.mv (.tmp 70)), [], false⟩])
  (.seq (.reg [⟨0, (some 72), none, .mo (.ldA 3 (.tmp 9)), [], false⟩,
  ⟨1, (some 73), none, .mo (.mv (.tmp 1)), [], false⟩,
  ⟨2, (some 74), none, .callF 10 [(.tmp 72), (.tmp 73)], [], false⟩,
  ⟨3, (some 71), none, .mo (.mv (.tmp 74)), [], false⟩,
  ⟨4, (some 75), none, .mo (.ext (.tmp 71) 0), [], false⟩,
  ⟨5, (some 76), none, .mo (.ext (.tmp 71) 1), [], false⟩,
  ⟨6, (some 20), none, .mo (.alloc [.int .i64 0, .int .i64 0, .nilS]), [], false⟩,
  ⟨7, none, none, .mo (.st 3 (.tmp 20) (.tmp 75)), [], false⟩,
  ⟨8, (some 21), none, .mo (.mv (.tmp 76)), [], false⟩])
  (.seq (.reg [⟨0, (some 78), none, .mo (.ldA 3 (.tmp 4)), [], false⟩,
  ⟨1, (some 79), none, .mo (.mv (.tmp 1)), [], false⟩,
  ⟨2, (some 80), none, .callF 20 [(.tmp 78), (.tmp 79)], [], false⟩,
  ⟨3, (some 77), none, .mo (.mv (.tmp 80)), [], false⟩,
  ⟨4, (some 81), none, .mo (.ext (.tmp 77) 0), [], false⟩,
  ⟨5, (some 82), none, .mo (.ext (.tmp 77) 1), [], false⟩,
  ⟨6, (some 22), none, .mo (.alloc [.int .i64 0, .int .i64 0, .nilS]), [], false⟩,
  ⟨7, none, none, .mo (.st 3 (.tmp 22) (.tmp 81)), [], false⟩,
  ⟨8, (some 23), none, .mo (.mv (.tmp 82)), [], false⟩])
  (.seq (.seq (.reg [⟨0, (some 83), none, .mo (.ldA 3 (.tmp 10)), [], false⟩,
  ⟨1, (some 84), none, .mo (.ldA 3 (.tmp 12)), [], false⟩,
  ⟨2, (some 85), none, .callF 21 [(.tmp 83), (.tmp 84)], [], false⟩,
  ⟨3, (some 86), none, .mo (.un .not (.tmp 85)), [], false⟩,
  ⟨4, (some 87), none, .mo (.mv (.tmp 86)), [], false⟩,
  ⟨5, (some 88), (some ((some 87), false)), .mo (.mv (.tmp 11)), [], false⟩,
  ⟨6, (some 89), (some ((some 87), false)), .mo (.mv (.tmp 13)), [], false⟩,
  ⟨7, (some 90), (some ((some 87), false)), .mo (.bin .neq 3 (.tmp 88) (.tmp 89)), [], false⟩,
  ⟨8, (some 91), none, .mo (.pick (.tmp 87) (.const (.bool true)) (.tmp 90)), [], false⟩,
  ⟨9, (some 92), none, .mo (.mv (.tmp 91)), [], false⟩,
  ⟨10, (some 93), (some ((some 92), false)), .mo (.ldA 3 (.tmp 14)), [], false⟩,
  ⟨11, (some 94), (some ((some 92), false)), .mo (.ldA 3 (.tmp 17)), [], false⟩,
  ⟨12, (some 95), (some ((some 92), false)), .callF 21 [(.tmp 93), (.tmp 94)], [], false⟩,
  ⟨13, (some 96), (some ((some 92), false)), .mo (.un .not (.tmp 95)), [], false⟩,
  ⟨14, (some 97), none, .mo (.pick (.tmp 92) (.const (.bool true)) (.tmp 96)), [], false⟩,
  ⟨15, (some 98), none, .mo (.mv (.tmp 97)), [], false⟩,
  ⟨16, (some 99), (some ((some 98), false)), .mo (.mv (.tmp 15)), [], false⟩,
  ⟨17, (some 100), (some ((some 98), false)), .mo (.mv (.tmp 18)), [], false⟩,
  ⟨18, (some 101), (some ((some 98), false)), .mo (.bin .neq 3 (.tmp 99) (.tmp 100)), [], false⟩,
  ⟨19, (some 102), none, .mo (.pick (.tmp 98) (.const (.bool true)) (.tmp 101)), [], false⟩,
  ⟨20, (some 103), none, .mo (.mv (.tmp 102)), [], false⟩,
  ⟨21, (some 104), (some ((some 103), false)), .mo (.mv (.tmp 16)), [], false⟩,
  ⟨22, (some 105), (some ((some 103), false)), .mo (.mv (.tmp 19)), [], false⟩,
  ⟨23, (some 106), (some ((some 103), false)), .mo (.bin .neq 3 (.tmp 104) (.tmp 105)), [], false⟩,
  ⟨24, (some 107), none, .mo (.pick (.tmp 103) (.const (.bool true)) (.tmp 106)), [], false⟩,
  ⟨25, (some 108), none, .mo (.mv (.tmp 107)), [], false⟩,
  ⟨26, (some 109), (some ((some 108), false)), .mo (.ldA 3 (.tmp 20)), [], false⟩,
  ⟨27, (some 110), (some ((some 108), false)), .mo (.ldA 3 (.tmp 22)), [], false⟩,
  ⟨28, (some 111), (some ((some 108), false)), .callF 21 [(.tmp 109), (.tmp 110)], [], false⟩,
  ⟨29, (some 112), (some ((some 108), false)), .mo (.un .not (.tmp 111)), [], false⟩,
  ⟨30, (some 113), none, .mo (.pick (.tmp 108) (.const (.bool true)) (.tmp 112)), [], false⟩,
  ⟨31, (some 114), none, .mo (.mv (.tmp 113)), [], false⟩,
  ⟨32, (some 115), (some ((some 114), false)), .mo (.mv (.tmp 21)), [], false⟩,
  ⟨33, (some 116), (some ((some 114), false)), .mo (.mv (.tmp 23)), [], false⟩,
  ⟨34, (some 117), (some ((some 114), false)), .mo (.bin .neq 3 (.tmp 115) (.tmp 116)), [], false⟩,
  ⟨35, (some 118), none, .mo (.pick (.tmp 114) (.const (.bool true)) (.tmp 117)), [], false⟩])
  (.cond (.tmp 118) (.seq (.reg [⟨0, (some 8), none, .mo (.mv (.const (.bool false))), [], false⟩])
  .ret) .skip))
  (.seq (.reg [⟨0, (some 120), none, .mo (.ldA 3 (.tmp 9)), [], false⟩,
  ⟨1, (some 121), none, .mo (.mv (.tmp 3)), [], false⟩,
  ⟨2, (some 122), none, .callF 14 [(.tmp 120), (.tmp 121)], [], false⟩,
  ⟨3, (some 119), none, .mo (.mv (.tmp 122)), [], false⟩,
  ⟨4, (some 123), none, .mo (.ext (.tmp 119) 0), [], false⟩,
  ⟨5, (some 124), none, .mo (.ext (.tmp 119) 1), [], false⟩,
  ⟨6, (some 125), none, .mo (.ext (.tmp 119) 2), [], false⟩,
  ⟨7, (some 126), none, .mo (.ext (.tmp 119) 3), [], false⟩,
  ⟨8, (some 127), none, .mo (.ext (.tmp 119) 4), [], false⟩,
  ⟨9, (some 24), none, .mo (.alloc [.int .i64 0, .int .i64 0, .nilS]), [], false⟩,
  ⟨10, (some 27), none, .mo (.alloc [.int .u8 0, .int .u8 0, .int .u8 0, .int .u8 0, .int .u8 0, .int .u8 0, .int .u8 0, .int .u8 0, .int .u8 0, .int .u8 0, .int .u8 0, .int .u8 0, .int .u8 0, .int .u8 0, .int .u8 0, .int .u8 0, .int .u8 0, .int .u8 0, .int .u8 0, .int .u8 0, .int .u8 0, .int .u8 0, .int .u8 0, .int .u8 0, .int .u8 0, .int .u8 0, .int .u8 0, .int .u8 0, .int .u8 0, .int .u8 0, .int .u8 0, .int .u8 0]), [], false⟩,
  ⟨11, none, none, .mo (.st 3 (.tmp 24) (.tmp 123)), [], false⟩,
  ⟨12, (some 25), none, .mo (.mv (.tmp 124)), [], false⟩,
  ⟨13, (some 26), none, .mo (.mv (.tmp 125)), [], false⟩,
  ⟨14, none, none, .mo (.st 32 (.tmp 27) (.tmp 126)), [], false⟩,
  ⟨15, (some 28), none, .mo (.mv (.tmp 127)), [], false⟩])
  (.seq (.reg [⟨0, (some 129), none, .mo (.ldA 3 (.tmp 4)), [], false⟩,
  ⟨1, (some 130), none, .mo (.mv (.tmp 3)), [], false⟩,
  ⟨2, (some 131), none, .callF 22 [(.tmp 129), (.tmp 130)], [], false⟩,
  ⟨3, (some 128), none, .mo (.mv (.tmp 131)), [], false⟩,
  ⟨4, (some 132), none, .mo (.ext (.tmp 128) 0), [], false⟩,
  ⟨5, (some 133), none, .mo (.ext (.tmp 128) 1), [], false⟩,
  ⟨6, (some 134), none, .mo (.ext (.tmp 128) 2), [], false⟩,
  ⟨7, (some 135), none, .mo (.ext (.tmp 128) 3), [], false⟩,
  ⟨8, (some 136), none, .mo (.ext (.tmp 128) 4), [], false⟩,
  ⟨9, (some 29), none, .mo (.alloc [.int .i64 0, .int .i64 0, .nilS]), [], false⟩,
  ⟨10, (some 32), none, .mo (.alloc [.int .u8 0, .int .u8 0, .int .u8 0, .int .u8 0, .int .u8 0, .int .u8 0, .int .u8 0, .int .u8 0, .int .u8 0, .int .u8 0, .int .u8 0, .int .u8 0, .int .u8 0, .int .u8 0, .int .u8 0, .int .u8 0, .int .u8 0, .int .u8 0, .int .u8 0, .int .u8 0, .int .u8 0, .int .u8 0, .int .u8 0, .int .u8 0, .int .u8 0, .int .u8 0, .int .u8 0, .int .u8 0, .int .u8 0, .int .u8 0, .int .u8 0, .int .u8 0]), [], false⟩,
  ⟨11, none, none, .mo (.st 3 (.tmp 29) (.tmp 132)), [], false⟩,
  ⟨12, (some 30), none, .mo (.mv (.tmp 133)), [], false⟩,
  ⟨13, (some 31), none, .mo (.mv (.tmp 134)), [], false⟩,
  ⟨14, none, none, .mo (.st 32 (.tmp 32) (.tmp 135)), [], false⟩,
  ⟨15, (some 33), none, .mo (.mv (.tmp 136)), [], false⟩])
  (.seq (.reg [⟨0, (some 138), none, .mo (.ldA 3 (.tmp 9)), [], false⟩,
  ⟨1, (some 139), none, .mo (.mv (.tmp 3)), [], false⟩,
  ⟨2, (some 140), none, .callF 23 [(.tmp 138), (.tmp 139)], [], false⟩,
  ⟨3, (some 137), none, .mo (.mv (.tmp 140)), [], false⟩,
  ⟨4, (some 141), none, .mo (.ext (.tmp 137) 0), [], false⟩,
  ⟨5, (some 142), none, .mo (.ext (.tmp 137) 1), [], false⟩,
  ⟨6, (some 34), none, .mo (.alloc [.int .i64 0, .int .i64 0, .nilS]), [], false⟩,
  ⟨7, none, none, .mo (.st 3 (.tmp 34) (.tmp 141)), [], false⟩,
  ⟨8, (some 35), none, .mo (.mv (.tmp 142)), [], false⟩])
  (.seq (.reg [⟨0, (some 144), none, .mo (.ldA 3 (.tmp 4)), [], false⟩,
  ⟨1, (some 145), none, .mo (.mv (.tmp 3)), [], false⟩,
  ⟨2, (some 146), none, .callF 24 [(.tmp 144), (.tmp 145)], [], false⟩,
  ⟨3, (some 143), none, .mo (.mv (.tmp 146)), [], false⟩,
  ⟨4, (some 147), none, .mo (.ext (.tmp 143) 0), [], false⟩,
  ⟨5, (some 148), none, .mo (.ext (.tmp 143) 1), [], false⟩,
  ⟨6, (some 36), none, .mo (.alloc [.int .i64 0, .int .i64 0, .nilS]), [], false⟩,
  ⟨7, none, none, .mo (.st 3 (.tmp 36) (.tmp 147)), [], false⟩,
  ⟨8, (some 37), none, .mo (.mv (.tmp 148)), [], false⟩])
  (.seq (.dreg [⟨0, (some 149), none, .mo (.ldA 3 (.tmp 9)), [], false⟩,
  ⟨2, (some 151), none, .mo (.ldA 3 (.tmp 4)), [], true⟩,
  ⟨1, (some 150), none, .callF 25 [(.tmp 149)], [2], false⟩,
  ⟨3, (some 152), none, .callF 13 [(.tmp 151)], [], false⟩,
  ⟨4, (some 153), none, .mo (.bin .eql 3 (.tmp 150) (.tmp 152)), [], false⟩,
  ⟨5, (some 154), none, .mo (.mv (.tmp 153)), [], false⟩,
  ⟨6, (some 155), (some ((some 154), true)), .mo (.ldA 3 (.tmp 24)), [], false⟩,
  ⟨7, (some 156), (some ((some 154), true)), .mo (.ldA 3 (.tmp 29)), [], false⟩,
  ⟨8, (some 157), (some ((some 154), true)), .callF 21 [(.tmp 155), (.tmp 156)], [], false⟩,
  ⟨9, (some 158), none, .mo (.pick (.tmp 154) (.tmp 157) (.const (.bool false))), [], false⟩,
  ⟨10, (some 159), none, .mo (.mv (.tmp 158)), [], false⟩,
  ⟨11, (some 160), (some ((some 159), true)), .mo (.mv (.tmp 25)), [], false⟩,
  ⟨12, (some 161), (some ((some 159), true)), .mo (.mv (.tmp 30)), [], false⟩,
  ⟨13, (some 162), (some ((some 159), true)), .mo (.bin .eql 5 (.tmp 160) (.tmp 161)), [], false⟩,
  ⟨14, (some 163), none, .mo (.pick (.tmp 159) (.tmp 162) (.const (.bool false))), [], false⟩,
  ⟨15, (some 164), none, .mo (.mv (.tmp 163)), [], false⟩,
  ⟨16, (some 165), (some ((some 164), true)), .mo (.mv (.tmp 26)), [], false⟩,
  ⟨17, (some 166), (some ((some 164), true)), .mo (.mv (.tmp 31)), [], false⟩,
  ⟨18, (some 167), (some ((some 164), true)), .mo (.bin .eql 3 (.tmp 165) (.tmp 166)), [], false⟩,
  ⟨19, (some 168), none, .mo (.pick (.tmp 164) (.tmp 167) (.const (.bool false))), [], false⟩,
  ⟨20, (some 169), none, .mo (.mv (.tmp 168)), [], false⟩,
  ⟨21, (some 170), (some ((some 169), true)), .mo (.ldA 32 (.tmp 27)), [], false⟩,
  ⟨22, (some 171), (some ((some 169), true)), .mo (.ldA 32 (.tmp 32)), [], false⟩,
  ⟨23, (some 172), (some ((some 169), true)), .mo (.bin .eql 37 (.tmp 170) (.tmp 171)), [], false⟩,
  ⟨24, (some 173), none, .mo (.pick (.tmp 169) (.tmp 172) (.const (.bool false))), [], false⟩,
  ⟨25, (some 174), none, .mo (.mv (.tmp 173)), [], false⟩,
  ⟨26, (some 175), (some ((some 174), true)), .mo (.mv (.tmp 28)), [], false⟩,
  ⟨27, (some 176), (some ((some 174), true)), .mo (.mv (.tmp 33)), [], false⟩,
  ⟨28, (some 177), (some ((some 174), true)), .mo (.bin .eql 3 (.tmp 175) (.tmp 176)), [], false⟩,
  ⟨29, (some 178), none, .mo (.pick (.tmp 174) (.tmp 177) (.const (.bool false))), [], false⟩,
  ⟨30, (some 179), none, .mo (.mv (.tmp 178)), [], false⟩,
  ⟨31, (some 180), (some ((some 179), true)), .mo (.ldA 3 (.tmp 34)), [], false⟩,
  ⟨32, (some 181), (some ((some 179), true)), .mo (.ldA 3 (.tmp 36)), [], false⟩,
  ⟨33, (some 182), (some ((some 179), true)), .callF 21 [(.tmp 180), (.tmp 181)], [], false⟩,
  ⟨34, (some 183), none, .mo (.pick (.tmp 179) (.tmp 182) (.const (.bool false))), [], false⟩,
  ⟨35, (some 184), none, .mo (.mv (.tmp 183)), [], false⟩,
  ⟨36, (some 185), (some ((some 184), true)), .mo (.mv (.tmp 35)), [], false⟩,
  ⟨37, (some 186), (some ((some 184), true)), .mo (.mv (.tmp 37)), [], false⟩,
  ⟨38, (some 187), (some ((some 184), true)), .mo (.bin .eql 3 (.tmp 185) (.tmp 186)), [], false⟩,
  ⟨39, (some 188), none, .mo (.pick (.tmp 184) (.tmp 187) (.const (.bool false))), [], false⟩,
  ⟨40, (some 189), none, .mo (.mv (.tmp 188)), [], false⟩,
  ⟨41, (some 190), (some ((some 189), true)), .mo (.ldA 3 (.tmp 9)), [], false⟩,
  ⟨42, (some 191), (some ((some 189), true)), .mo (.ldA 3 (.tmp 4)), [], false⟩,
  ⟨43, (some 192), (some ((some 189), true)), .callF 21 [(.tmp 190), (.tmp 191)], [], false⟩,
  ⟨44, (some 193), none, .mo (.pick (.tmp 189) (.tmp 192) (.const (.bool false))), [], false⟩,
  ⟨45, (some 8), none, .mo (.mv (.tmp 193)), [], false⟩])
  .ret)))))))))))))))
def r5 : List Mo := [.mv (.tmp 8)]
theorem c5_eq : compF Try.prog 5 = some c5 := by kernel_rfl
theorem r5_eq : compRs Try.prog 5 = some r5 := by kernel_rfl
/-! F6 braid/braidlaw20.FeedNames -/
def l6_0 : Cd := (.seq (.seq (.reg [⟨0, (some 103), none, .mo (.mv (.tmp 3)), [], false⟩,
  ⟨1, (some 104), none, .mo (.mv (.tmp 2)), [], false⟩,
  ⟨2, (some 105), none, .mo (.len (.sl 3) (.tmp 104)), [], false⟩,
  ⟨3, (some 106), none, .mo (.bin .lss 3 (.tmp 103) (.tmp 105)), [], false⟩])
  (.cond (.tmp 106) .skip (.exit 0)))
  (.seq (.block 1 (.seq (.reg [⟨0, (some 110), none, .mo (.mv (.tmp 2)), [], false⟩,
  ⟨1, (some 111), none, .mo (.mv (.tmp 3)), [], false⟩,
  ⟨2, (some 112), none, .mo (.ia (.sl 3) (.tmp 110) (.tmp 111)), [], false⟩,
  ⟨3, (some 113), none, .mo (.ldA 3 (.tmp 112)), [], false⟩,
  ⟨4, (some 114), none, .callF 12 [(.tmp 113), (.const (.int .i64 (-1)))], [], false⟩,
  ⟨5, (some 109), none, .mo (.mv (.tmp 114)), [], false⟩,
  ⟨6, (some 115), none, .mo (.ext (.tmp 109) 0), [], false⟩,
  ⟨7, (some 116), none, .mo (.ext (.tmp 109) 1), [], false⟩,
  ⟨8, (some 117), none, .mo (.ext (.tmp 109) 2), [], false⟩,
  ⟨9, (some 4), none, .mo (.alloc [.int .i64 0, .int .i64 0, .nilS]), [], false⟩,
  ⟨10, none, none, .mo (.st 3 (.tmp 4) (.tmp 115)), [], false⟩,
  ⟨11, (some 5), none, .mo (.mv (.tmp 116)), [], false⟩,
  ⟨12, (some 6), none, .mo (.mv (.tmp 117)), [], false⟩])
  (.seq (.dreg [⟨0, (some 119), none, .mo (.mv (.tmp 2)), [], false⟩,
  ⟨1, (some 120), none, .mo (.mv (.tmp 3)), [], false⟩,
  ⟨2, (some 121), none, .mo (.ia (.sl 3) (.tmp 119) (.tmp 120)), [], false⟩,
  ⟨3, (some 122), none, .mo (.ldA 3 (.tmp 121)), [], false⟩,
  ⟨4, (some 123), none, .mo (.mks 32 32 [.int .u8 0, .int .u8 0, .int .u8 0, .int .u8 0, .int .u8 0, .int .u8 0, .int .u8 0, .int .u8 0, .int .u8 0, .int .u8 0, .int .u8 0, .int .u8 0, .int .u8 0, .int .u8 0, .int .u8 0, .int .u8 0, .int .u8 0, .int .u8 0, .int .u8 0, .int .u8 0, .int .u8 0, .int .u8 0, .int .u8 0, .int .u8 0, .int .u8 0, .int .u8 0, .int .u8 0, .int .u8 0, .int .u8 0, .int .u8 0, .int .u8 0, .int .u8 0] (.const (.int .i64 61)) (.const (.int .i64 61))), [], false⟩,
  ⟨9, (some 7), none, .mo (.alloc [.int .i64 0, .int .i64 0, .nilS]), [], true⟩,
  ⟨5, (some 124), none, .callF 10 [(.tmp 122), (.tmp 123)], [9], false⟩,
  ⟨6, (some 118), none, .mo (.mv (.tmp 124)), [], false⟩,
  ⟨7, (some 125), none, .mo (.ext (.tmp 118) 0), [], false⟩,
  ⟨8, (some 126), none, .mo (.ext (.tmp 118) 1), [], false⟩,
  ⟨10, none, none, .mo (.st 3 (.tmp 7) (.tmp 125)), [], false⟩,
  ⟨11, (some 8), none, .mo (.mv (.tmp 126)), [], false⟩])
  (.seq (.reg [⟨0, (some 128), none, .mo (.mv (.tmp 2)), [], false⟩,
  ⟨1, (some 129), none, .mo (.mv (.tmp 3)), [], false⟩,
  ⟨2, (some 130), none, .mo (.ia (.sl 3) (.tmp 128) (.tmp 129)), [], false⟩,
  ⟨3, (some 131), none, .mo (.ldA 3 (.tmp 130)), [], false⟩,
  ⟨4, (some 132), none, .callF 14 [(.tmp 131), (.const (.int .i64 (-1)))], [], false⟩,
  ⟨5, (some 127), none, .mo (.mv (.tmp 132)), [], false⟩,
  ⟨6, (some 133), none, .mo (.ext (.tmp 127) 0), [], false⟩,
  ⟨7, (some 134), none, .mo (.ext (.tmp 127) 1), [], false⟩,
  ⟨8, (some 135), none, .mo (.ext (.tmp 127) 2), [], false⟩,
  ⟨9, (some 136), none, .mo (.ext (.tmp 127) 3), [], false⟩,
  ⟨10, (some 137), none, .mo (.ext (.tmp 127) 4), [], false⟩,
  ⟨11, (some 9), none, .mo (.alloc [.int .i64 0, .int .i64 0, .nilS]), [], false⟩,
  ⟨12, (some 12), none, .mo (.alloc [.int .u8 0, .int .u8 0, .int .u8 0, .int .u8 0, .int .u8 0, .int .u8 0, .int .u8 0, .int .u8 0, .int .u8 0, .int .u8 0, .int .u8 0, .int .u8 0, .int .u8 0, .int .u8 0, .int .u8 0, .int .u8 0, .int .u8 0, .int .u8 0, .int .u8 0, .int .u8 0, .int .u8 0, .int .u8 0, .int .u8 0, .int .u8 0, .int .u8 0, .int .u8 0, .int .u8 0, .int .u8 0, .int .u8 0, .int .u8 0, .int .u8 0, .int .u8 0]), [], false⟩,
  ⟨13, none, none, .mo (.st 3 (.tmp 9) (.tmp 133)), [], false⟩,
  ⟨14, (some 10), none, .mo (.mv (.tmp 134)), [], false⟩,
  ⟨15, (some 11), none, .mo (.mv (.tmp 135)), [], false⟩,
  ⟨16, none, none, .mo (.st 32 (.tmp 12) (.tmp 136)), [], false⟩,
  ⟨17, (some 13), none, .mo (.mv (.tmp 137)), [], false⟩])
  (.seq (.reg [⟨0, (some 139), none, .mo (.mv (.tmp 2)), [], false⟩,
  ⟨1, (some 140), none, .mo (.mv (.tmp 3)), [], false⟩,
  ⟨2, (some 141), none, .mo (.ia (.sl 3) (.tmp 139) (.tmp 140)), [], false⟩,
  ⟨3, (some 142), none, .mo (.ldA 3 (.tmp 141)), [], false⟩,
  ⟨4, (some 143), none, .callF 23 [(.tmp 142), (.const (.int .i64 99))], [], false⟩,
  ⟨5, (some 138), none, .mo (.mv (.tmp 143)), [], false⟩,
  ⟨6, (some 144), none, .mo (.ext (.tmp 138) 0), [], false⟩,
  ⟨7, (some 145), none, .mo (.ext (.tmp 138) 1), [], false⟩,
  ⟨8, (some 14), none, .mo (.alloc [.int .i64 0, .int .i64 0, .nilS]), [], false⟩,
  ⟨9, none, none, .mo (.st 3 (.tmp 14) (.tmp 144)), [], false⟩,
  ⟨10, (some 15), none, .mo (.mv (.tmp 145)), [], false⟩])
  (.seq (.reg [⟨0, (some 146), none, .mo (.mv (.tmp 2)), [], false⟩,
  ⟨1, (some 147), none, .mo (.mv (.tmp 3)), [], false⟩,
  ⟨2, (some 148), none, .mo (.ia (.sl 3) (.tmp 146) (.tmp 147)), [], false⟩,
  ⟨3, (some 149), none, .mo (.ldA 3 (.tmp 148)), [], false⟩,
  ⟨4, (some 150), none, .callF 25 [(.tmp 149)], [], false⟩,
  ⟨5, (some 151), none, .mo (.bin .neq 27 (.tmp 150) (.const (.int .i64 8))), [], false⟩,
  ⟨6, (some 152), none, .mo (.mv (.tmp 151)), [], false⟩,
  ⟨7, (some 153), (some ((some 152), false)), .mo (.mv (.tmp 6)), [], false⟩,
  ⟨8, (some 154), (some ((some 152), false)), .mo (.bin .neq 27 (.tmp 153) (.const (.int .i64 8))), [], false⟩,
  ⟨9, (some 155), none, .mo (.pick (.tmp 152) (.const (.bool true)) (.tmp 154)), [], false⟩,
  ⟨10, (some 156), none, .mo (.mv (.tmp 155)), [], false⟩,
  ⟨11, (some 157), (some ((some 156), false)), .mo (.mv (.tmp 8)), [], false⟩,
  ⟨12, (some 158), (some ((some 156), false)), .mo (.bin .neq 27 (.tmp 157) (.const (.int .i64 8))), [], false⟩,
  ⟨13, (some 159), none, .mo (.pick (.tmp 156) (.const (.bool true)) (.tmp 158)), [], false⟩,
  ⟨14, (some 160), none, .mo (.mv (.tmp 159)), [], false⟩,
  ⟨15, (some 161), (some ((some 160), false)), .mo (.mv (.tmp 13)), [], false⟩,
  ⟨16, (some 162), (some ((some 160), false)), .mo (.bin .neq 27 (.tmp 161) (.const (.int .i64 8))), [], false⟩,
  ⟨17, (some 163), none, .mo (.pick (.tmp 160) (.const (.bool true)) (.tmp 162)), [], false⟩,
  ⟨18, (some 164), none, .mo (.mv (.tmp 163)), [], false⟩,
  ⟨19, (some 165), (some ((some 164), false)), .mo (.mv (.tmp 15)), [], false⟩,
  ⟨20, (some 166), (some ((some 164), false)), .mo (.bin .neq 27 (.tmp 165) (.const (.int .i64 8))), [], false⟩,
  ⟨21, (some 167), none, .mo (.pick (.tmp 164) (.const (.bool true)) (.tmp 166)), [], false⟩])
  (.cond (.tmp 167) (.seq (.reg [⟨0, (some 0), none, .mo (.mv (.const (.bool false))), [], false⟩])
  .ret) .skip)))))))
  (.reg [⟨0, (some 107), none, .mo (.mv (.tmp 3)), [], false⟩,
  ⟨1, (some 108), none, .mo (.bin .add 3 (.tmp 107) (.const (.int .i64 1))), [], false⟩,
  ⟨2, (some 3), none, .mo (.mv (.tmp 108)), [], false⟩])))
def l6_1 : Cd := (.seq (.seq (.reg [⟨0, (some 180), none, .mo (.mv (.tmp 22)), [], false⟩,
  ⟨1, (some 181), none, .mo (.bin .lss 3 (.tmp 180) (.const (.int .i64 4))), [], false⟩])
  (.cond (.tmp 181) .skip (.exit 2)))
  (.seq (.block 3 (.seq (.reg [⟨0, (some 185), none, .mo (.ldA 3 (.tmp 20)), [], false⟩,
  ⟨1, (some 186), none, .mo (.mv (.tmp 22)), [], false⟩,
  ⟨2, (some 187), none, .callF 12 [(.tmp 185), (.tmp 186)], [], false⟩,
  ⟨3, (some 184), none, .mo (.mv (.tmp 187)), [], false⟩,
  ⟨4, (some 188), none, .mo (.ext (.tmp 184) 0), [], false⟩,
  ⟨5, (some 189), none, .mo (.ext (.tmp 184) 1), [], false⟩,
  ⟨6, (some 190), none, .mo (.ext (.tmp 184) 2), [], false⟩,
  ⟨7, (some 23), none, .mo (.alloc [.int .i64 0, .int .i64 0, .nilS]), [], false⟩,
  ⟨8, none, none, .mo (.st 3 (.tmp 23) (.tmp 188)), [], false⟩,
  ⟨9, (some 24), none, .mo (.mv (.tmp 189)), [], false⟩,
  ⟨10, (some 25), none, .mo (.mv (.tmp 190)), [], false⟩])
  (.seq (.seq (.reg [⟨0, (some 191), none, .mo (.mv (.tmp 25)), [], false⟩,
  ⟨1, (some 192), none, .mo (.bin .neq 27 (.tmp 191) (.const (.int .i64 0))), [], false⟩,
  ⟨2, (some 193), none, .mo (.mv (.tmp 192)), [], false⟩,
  ⟨3, (some 194), (some ((some 193), false)), .mo (.mv (.tmp 24)), [], false⟩,
  ⟨4, (some 195), (some ((some 193), false)), .mo (.mv (.tmp 22)), [], false⟩,
  ⟨5, (some 196), (some ((some 193), false)), .mo (.bin .neq 3 (.tmp 194) (.tmp 195)), [], false⟩,
  ⟨6, (some 197), none, .mo (.pick (.tmp 193) (.const (.bool true)) (.tmp 196)), [], false⟩])
  (.cond (.tmp 197) (.seq (.reg [⟨0, (some 0), none, .mo (.mv (.const (.bool false))), [], false⟩])
  .ret) .skip))
  (.reg [⟨0, (some 198), none, .mo (.ldA 3 (.tmp 23)), [], false⟩,
  ⟨1, none, none, .mo (.st 3 (.tmp 20) (.tmp 198)), [], false⟩]))))
  (.reg [⟨0, (some 182), none, .mo (.mv (.tmp 22)), [], false⟩,
  ⟨1, (some 183), none, .mo (.bin .add 3 (.tmp 182) (.const (.int .i64 1))), [], false⟩,
  ⟨2, (some 22), none, .mo (.mv (.tmp 183)), [], false⟩])))
def l6_2 : Cd := (.seq (.seq (.reg [⟨0, (some 275), none, .mo (.mv (.tmp 64)), [], false⟩,
  ⟨1, (some 276), none, .mo (.bin .lss 3 (.tmp 275) (.const (.int .i64 60))), [], false⟩])
  (.cond (.tmp 276) .skip (.exit 4)))
  (.seq (.block 5 (.reg [⟨0, (some 279), none, .mo (.fa 2 (.tmp 63)), [], false⟩,
  ⟨1, (some 280), none, .mo (.ld1 (.tmp 279)), [], false⟩,
  ⟨2, (some 281), none, .mo (.bld [.int .i64 0, .nilS, .bool false, .bool false] [(3, 1, (.const (.bool true)))]), [], false⟩,
  ⟨3, (some 282), none, .mo (.bsl 4 [.int .i64 0, .nilS, .bool false, .bool false] 1 [(0, (.tmp 281))]), [], false⟩,
  ⟨4, (some 283), none, .mo (.app 4 40 (.tmp 280) (.tmp 282)), [], false⟩,
  ⟨5, (some 284), none, .mo (.fa 2 (.tmp 63)), [], false⟩,
  ⟨6, none, none, .mo (.st 1 (.tmp 284) (.tmp 283)), [], false⟩]))
  (.reg [⟨0, (some 277), none, .mo (.mv (.tmp 64)), [], false⟩,
  ⟨1, (some 278), none, .mo (.bin .add 3 (.tmp 277) (.const (.int .i64 1))), [], false⟩,
  ⟨2, (some 64), none, .mo (.mv (.tmp 278)), [], false⟩])))
def c6 : Cd := (.seq (.reg [⟨0, (some 0), none, .mo (.mv (.const (.bool false))), [], false⟩])
  (.seq (.reg [⟨0, (some 68), none, .mo (.mks 4 40 [.int .i64 0, .nilS, .bool false, .bool false] (.const (.int .i64 5)) (.const (.int .i64 5))), [], false⟩,
  ⟨1, (some 1), none, .mo (.mv (.tmp 68)), [], false⟩])
  (.seq (.reg [⟨0, (some 69), none, .mo (.bld [.int .i64 0, .int .i64 0, .nilS] []), [], false⟩,
  ⟨1, (some 70), none, .mo (.bld [.int .i64 0, .int .i64 0, .nilS] [(0, 1, (.const (.int .i64 9)))]), [], false⟩,
  ⟨2, (some 71), none, .mo (.bld [.int .i64 0, .int .i64 0, .nilS] [(0, 1, (.const (.int .i64 1))), (1, 1, (.const (.int .i64 (-1))))]), [], false⟩,
  ⟨3, (some 72), none, .mo (.bld [.int .i64 0, .int .i64 0, .nilS] [(0, 1, (.const (.int .i64 1))), (1, 1, (.const (.int .i64 1000000001)))]), [], false⟩,
  ⟨4, (some 73), none, .mo (.mv (.tmp 1)), [], false⟩,
  ⟨5, (some 74), none, .mo (.bld [.int .i64 0, .int .i64 0, .nilS] [(0, 1, (.const (.int .i64 1))), (2, 1, (.tmp 73))]), [], false⟩,
  ⟨6, (some 75), none, .mo (.bld [.int .i64 0, .nilS, .bool false, .bool false] [(0, 1, (.const (.int .i64 (-1))))]), [], false⟩,
  ⟨7, (some 76), none, .mo (.bsl 4 [.int .i64 0, .nilS, .bool false, .bool false] 1 [(0, (.tmp 75))]), [], false⟩,
  ⟨8, (some 77), none, .mo (.bld [.int .i64 0, .int .i64 0, .nilS] [(0, 1, (.const (.int .i64 1))), (2, 1, (.tmp 76))]), [], false⟩,
  ⟨9, (some 78), none, .callF 11 [(.const (.int .i64 0)), (.const (.int .i64 2))], [], false⟩,
  ⟨10, (some 79), none, .mo (.bld [.int .i64 0, .nilS, .bool false, .bool false] [(1, 1, (.tmp 78))]), [], false⟩,
  ⟨11, (some 80), none, .mo (.bsl 4 [.int .i64 0, .nilS, .bool false, .bool false] 1 [(0, (.tmp 79))]), [], false⟩,
  ⟨12, (some 81), none, .mo (.bld [.int .i64 0, .int .i64 0, .nilS] [(0, 1, (.const (.int .i64 1))), (1, 1, (.const (.int .i64 2))), (2, 1, (.tmp 80))]), [], false⟩,
  ⟨13, (some 82), none, .mo (.bld [.int .i64 0, .nilS, .bool false, .bool false] []), [], false⟩,
  ⟨14, (some 83), none, .mo (.bsl 4 [.int .i64 0, .nilS, .bool false, .bool false] 1 [(0, (.tmp 82))]), [], false⟩,
  ⟨15, (some 84), none, .mo (.bld [.int .i64 0, .int .i64 0, .nilS] [(0, 1, (.const (.int .i64 1))), (1, 1, (.const (.int .i64 1))), (2, 1, (.tmp 83))]), [], false⟩,
  ⟨16, (some 85), none, .callF 11 [(.const (.int .i64 0)), (.const (.int .i64 2))], [], false⟩,
  ⟨17, (some 86), none, .mo (.bld [.int .i64 0, .nilS, .bool false, .bool false] [(1, 1, (.tmp 85))]), [], false⟩,
  ⟨18, (some 87), none, .mo (.bsl 4 [.int .i64 0, .nilS, .bool false, .bool false] 1 [(0, (.tmp 86))]), [], false⟩,
  ⟨19, (some 88), none, .mo (.bld [.int .i64 0, .int .i64 0, .nilS] [(0, 1, (.const (.int .i64 2))), (1, 1, (.const (.int .i64 1))), (2, 1, (.tmp 87))]), [], false⟩,
  ⟨20, (some 89), none, .mo (.bld [.int .i64 0, .nilS, .bool false, .bool false] [(3, 1, (.const (.bool true))), (2, 1, (.const (.bool true)))]), [], false⟩,
  ⟨21, (some 90), none, .mo (.bsl 4 [.int .i64 0, .nilS, .bool false, .bool false] 1 [(0, (.tmp 89))]), [], false⟩,
  ⟨22, (some 91), none, .mo (.bld [.int .i64 0, .int .i64 0, .nilS] [(0, 1, (.const (.int .i64 1))), (2, 1, (.tmp 90))]), [], false⟩,
  ⟨23, (some 92), none, .callF 11 [(.const (.int .i64 0)), (.const (.int .i64 1))], [], false⟩,
  ⟨24, (some 93), none, .mo (.bld [.int .i64 0, .nilS, .bool false, .bool false] [(3, 1, (.const (.bool true))), (1, 1, (.tmp 92))]), [], false⟩,
  ⟨25, (some 94), none, .mo (.bsl 4 [.int .i64 0, .nilS, .bool false, .bool false] 1 [(0, (.tmp 93))]), [], false⟩,
  ⟨26, (some 95), none, .mo (.bld [.int .i64 0, .int .i64 0, .nilS] [(0, 1, (.const (.int .i64 1))), (1, 1, (.const (.int .i64 1))), (2, 1, (.tmp 94))]), [], false⟩,
  ⟨27, (some 96), none, .mo (.bld [.int .i64 0, .nilS, .bool false, .bool false] [(0, 1, (.const (.int .i64 1))), (2, 1, (.const (.bool true)))]), [], false⟩,
  ⟨28, (some 97), none, .mo (.bsl 4 [.int .i64 0, .nilS, .bool false, .bool false] 1 [(0, (.tmp 96))]), [], false⟩,
  ⟨29, (some 98), none, .mo (.bld [.int .i64 0, .int .i64 0, .nilS] [(0, 1, (.const (.int .i64 1))), (2, 1, (.tmp 97))]), [], false⟩,
  ⟨30, (some 99), none, .mo (.bld [.int .i64 0, .nilS, .bool false, .bool false] [(0, 1, (.const (.int .i64 1000000001))), (3, 1, (.const (.bool true)))]), [], false⟩,
  ⟨31, (some 100), none, .mo (.bsl 4 [.int .i64 0, .nilS, .bool false, .bool false] 1 [(0, (.tmp 99))]), [], false⟩,
  ⟨32, (some 101), none, .mo (.bld [.int .i64 0, .int .i64 0, .nilS] [(0, 1, (.const (.int .i64 1))), (2, 1, (.tmp 100))]), [], false⟩,
  ⟨33, (some 102), none, .mo (.bsl 3 [.int .i64 0, .int .i64 0, .nilS] 13 [(0, (.tmp 69)), (1, (.tmp 70)), (2, (.tmp 71)), (3, (.tmp 72)), (4, (.tmp 74)), (5, (.tmp 77)), (6, (.tmp 81)), (7, (.tmp 84)), (8, (.tmp 88)), (9, (.tmp 91)), (10, (.tmp 95)), (11, (.tmp 98)), (12, (.tmp 101))]), [], false⟩,
  ⟨34, (some 2), none, .mo (.mv (.tmp 102)), [], false⟩])
  (.seq (.seq (.reg [⟨0, (some 3), none, .mo (.mv (.const (.int .i64 0))), [], false⟩])
  (.block 0 (.loop l6_0)))
  (.seq (.reg [⟨0, (some 169), none, .callF 9 [(.const (.int .i64 0))], [], false⟩,
  ⟨1, (some 168), none, .mo (.mv (.tmp 169)), [], false⟩,
  ⟨2, (some 170), none, .mo (.ext (.tmp 168) 0), [], false⟩,
  ⟨3, (some 171), none, .mo (.ext (.tmp 168) 1), [], false⟩,
  ⟨4, (some 16), none, .mo (.alloc [.int .i64 0, .int .i64 0, .nilS]), [], false⟩,
  ⟨5, none, none, .mo (.st 3 (.tmp 16) (.tmp 170)), [], false⟩,
  ⟨6, (some 17), none, .mo (.mv (.tmp 171)), [], false⟩])
  (.seq (.reg [⟨0, (some 173), none, .callF 9 [(.const (.int .i64 9))], [], false⟩,
  ⟨1, (some 172), none, .mo (.mv (.tmp 173)), [], false⟩,
  ⟨2, (some 174), none, .mo (.ext (.tmp 172) 0), [], false⟩,
  ⟨3, (some 175), none, .mo (.ext (.tmp 172) 1), [], false⟩,
  ⟨4, (some 18), none, .mo (.alloc [.int .i64 0, .int .i64 0, .nilS]), [], false⟩,
  ⟨5, none, none, .mo (.st 3 (.tmp 18) (.tmp 174)), [], false⟩,
  ⟨6, (some 19), none, .mo (.mv (.tmp 175)), [], false⟩])
  (.seq (.reg [⟨0, (some 177), none, .callF 9 [(.const (.int .i64 8))], [], false⟩,
  ⟨1, (some 176), none, .mo (.mv (.tmp 177)), [], false⟩,
  ⟨2, (some 178), none, .mo (.ext (.tmp 176) 0), [], false⟩,
  ⟨3, (some 179), none, .mo (.ext (.tmp 176) 1), [], false⟩,
  ⟨4, (some 20), none, .mo (.alloc [.int .i64 0, .int .i64 0, .nilS]), [], false⟩,
  ⟨5, none, none, .mo (.st 3 (.tmp 20) (.tmp 178)), [], false⟩,
  ⟨6, (some 21), none, .mo (.mv (.tmp 179)), [], false⟩])
  (.seq (.seq (.reg [⟨0, (some 22), none, .mo (.mv (.const (.int .i64 0))), [], false⟩])
  (.block 2 (.loop l6_1)))
  (.seq (.reg [⟨0, (some 200), none, .mo (.ldA 3 (.tmp 20)), [], false⟩,
  ⟨1, (some 201), none, .callF 12 [(.tmp 200), (.const (.int .i64 0))], [], false⟩,
  ⟨2, (some 199), none, .mo (.mv (.tmp 201)), [], false⟩,
  ⟨3, (some 202), none, .mo (.ext (.tmp 199) 0), [], false⟩,
  ⟨4, (some 203), none, .mo (.ext (.tmp 199) 1), [], false⟩,
  ⟨5, (some 204), none, .mo (.ext (.tmp 199) 2), [], false⟩,
  ⟨6, (some 26), none, .mo (.alloc [.int .i64 0, .int .i64 0, .nilS]), [], false⟩,
  ⟨7, none, none, .mo (.st 3 (.tmp 26) (.tmp 202)), [], false⟩,
  ⟨8, (some 27), none, .mo (.mv (.tmp 203)), [], false⟩,
  ⟨9, (some 28), none, .mo (.mv (.tmp 204)), [], false⟩])
  (.seq (.reg [⟨0, (some 206), none, .mo (.ldA 3 (.tmp 20)), [], false⟩,
  ⟨1, (some 207), none, .callF 12 [(.tmp 206), (.const (.int .i64 1000000001))], [], false⟩,
  ⟨2, (some 205), none, .mo (.mv (.tmp 207)), [], false⟩,
  ⟨3, (some 208), none, .mo (.ext (.tmp 205) 0), [], false⟩,
  ⟨4, (some 209), none, .mo (.ext (.tmp 205) 1), [], false⟩,
  ⟨5, (some 210), none, .mo (.ext (.tmp 205) 2), [], false⟩,
  ⟨6, (some 29), none, .mo (.alloc [.int .i64 0, .int .i64 0, .nilS]), [], false⟩,
  ⟨7, none, none, .mo (.st 3 (.tmp 29) (.tmp 208)), [], false⟩,
  ⟨8, (some 30), none, .mo (.mv (.tmp 209)), [], false⟩,
  ⟨9, (some 31), none, .mo (.mv (.tmp 210)), [], false⟩])
  (.seq (.reg [⟨0, (some 212), none, .mo (.ldA 3 (.tmp 20)), [], false⟩,
  ⟨1, (some 213), none, .callF 12 [(.tmp 212), (.const (.int .i64 (-1)))], [], false⟩,
  ⟨2, (some 211), none, .mo (.mv (.tmp 213)), [], false⟩,
  ⟨3, (some 214), none, .mo (.ext (.tmp 211) 0), [], false⟩,
  ⟨4, (some 215), none, .mo (.ext (.tmp 211) 1), [], false⟩,
  ⟨5, (some 216), none, .mo (.ext (.tmp 211) 2), [], false⟩,
  ⟨6, (some 32), none, .mo (.alloc [.int .i64 0, .int .i64 0, .nilS]), [], false⟩,
  ⟨7, none, none, .mo (.st 3 (.tmp 32) (.tmp 214)), [], false⟩,
  ⟨8, (some 33), none, .mo (.mv (.tmp 215)), [], false⟩,
  ⟨9, (some 34), none, .mo (.mv (.tmp 216)), [], false⟩])
  (.seq (.dreg [⟨0, (some 218), none, .mo (.ldA 3 (.tmp 20)), [], false⟩,
  ⟨1, (some 219), none, .mo (.mks 32 32 [.int .u8 0, .int .u8 0, .int .u8 0, .int .u8 0, .int .u8 0, .int .u8 0, .int .u8 0, .int .u8 0, .int .u8 0, .int .u8 0, .int .u8 0, .int .u8 0, .int .u8 0, .int .u8 0, .int .u8 0, .int .u8 0, .int .u8 0, .int .u8 0, .int .u8 0, .int .u8 0, .int .u8 0, .int .u8 0, .int .u8 0, .int .u8 0, .int .u8 0, .int .u8 0, .int .u8 0, .int .u8 0, .int .u8 0, .int .u8 0, .int .u8 0, .int .u8 0] (.const (.int .i64 61)) (.const (.int .i64 61))), [], false⟩,
  ⟨6, (some 35), none, .mo (.alloc [.int .i64 0, .int .i64 0, .nilS]), [], true⟩,
  ⟨2, (some 220), none, .callF 10 [(.tmp 218), (.tmp 219)], [6], false⟩,
  ⟨3, (some 217), none, .mo (.mv (.tmp 220)), [], false⟩,
  ⟨4, (some 221), none, .mo (.ext (.tmp 217) 0), [], false⟩,
  ⟨5, (some 222), none, .mo (.ext (.tmp 217) 1), [], false⟩,
  ⟨7, none, none, .mo (.st 3 (.tmp 35) (.tmp 221)), [], false⟩,
  ⟨8, (some 36), none, .mo (.mv (.tmp 222)), [], false⟩])
  (.seq (.reg [⟨0, (some 224), none, .mo (.bld [.int .i64 0, .int .i64 0, .nilS] [(0, 1, (.const (.int .i64 1))), (1, 1, (.const (.int .i64 1000000000)))]), [], false⟩,
  ⟨1, (some 225), none, .callF 11 [(.const (.int .i64 0)), (.const (.int .i64 1))], [], false⟩,
  ⟨2, (some 226), none, .callF 10 [(.tmp 224), (.tmp 225)], [], false⟩,
  ⟨3, (some 223), none, .mo (.mv (.tmp 226)), [], false⟩,
  ⟨4, (some 227), none, .mo (.ext (.tmp 223) 0), [], false⟩,
  ⟨5, (some 228), none, .mo (.ext (.tmp 223) 1), [], false⟩,
  ⟨6, (some 37), none, .mo (.alloc [.int .i64 0, .int .i64 0, .nilS]), [], false⟩,
  ⟨7, none, none, .mo (.st 3 (.tmp 37) (.tmp 227)), [], false⟩,
  ⟨8, (some 38), none, .mo (.mv (.tmp 228)), [], false⟩])
  (.seq (.reg [⟨0, (some 230), none, .mo (.bld [.int .i64 0, .int .i64 0, .nilS] [(0, 1, (.const (.int .i64 1))), (1, 1, (.const (.int .i64 1000000000)))]), [], false⟩,
  ⟨1, (some 231), none, .callF 10 [(.tmp 230), (.const (.slice none 0 0))], [], false⟩,
  ⟨2, (some 229), none, .mo (.mv (.tmp 231)), [], false⟩,
  ⟨3, (some 232), none, .mo (.ext (.tmp 229) 0), [], false⟩,
  ⟨4, (some 233), none, .mo (.ext (.tmp 229) 1), [], false⟩,
  ⟨5, (some 39), none, .mo (.alloc [.int .i64 0, .int .i64 0, .nilS]), [], false⟩,
  ⟨6, none, none, .mo (.st 3 (.tmp 39) (.tmp 232)), [], false⟩,
  ⟨7, (some 40), none, .mo (.mv (.tmp 233)), [], false⟩])
  (.seq (.reg [⟨0, (some 235), none, .mo (.ldA 3 (.tmp 20)), [], false⟩,
  ⟨1, (some 236), none, .callF 14 [(.tmp 235), (.const (.int .i64 4))], [], false⟩,
  ⟨2, (some 234), none, .mo (.mv (.tmp 236)), [], false⟩,
  ⟨3, (some 237), none, .mo (.ext (.tmp 234) 0), [], false⟩,
  ⟨4, (some 238), none, .mo (.ext (.tmp 234) 1), [], false⟩,
  ⟨5, (some 239), none, .mo (.ext (.tmp 234) 2), [], false⟩,
  ⟨6, (some 240), none, .mo (.ext (.tmp 234) 3), [], false⟩,
  ⟨7, (some 241), none, .mo (.ext (.tmp 234) 4), [], false⟩,
  ⟨8, (some 41), none, .mo (.alloc [.int .i64 0, .int .i64 0, .nilS]), [], false⟩,
  ⟨9, (some 44), none, .mo (.alloc [.int .u8 0, .int .u8 0, .int .u8 0, .int .u8 0, .int .u8 0, .int .u8 0, .int .u8 0, .int .u8 0, .int .u8 0, .int .u8 0, .int .u8 0, .int .u8 0, .int .u8 0, .int .u8 0, .int .u8 0, .int .u8 0, .int .u8 0, .int .u8 0, .int .u8 0, .int .u8 0, .int .u8 0, .int .u8 0, .int .u8 0, .int .u8 0, .int .u8 0, .int .u8 0, .int .u8 0, .int .u8 0, .int .u8 0, .int .u8 0, .int .u8 0, .int .u8 0]), [], false⟩,
  ⟨10, none, none, .mo (.st 3 (.tmp 41) (.tmp 237)), [], false⟩,
  ⟨11, (some 42), none, .mo (.mv (.tmp 238)), [], false⟩,
  ⟨12, (some 43), none, .mo (.mv (.tmp 239)), [], false⟩,
  ⟨13, none, none, .mo (.st 32 (.tmp 44) (.tmp 240)), [], false⟩,
  ⟨14, (some 45), none, .mo (.mv (.tmp 241)), [], false⟩])
  (.seq (.reg [⟨0, (some 243), none, .mo (.ldA 3 (.tmp 20)), [], false⟩,
  ⟨1, (some 244), none, .callF 14 [(.tmp 243), (.const (.int .i64 0))], [], false⟩,
  ⟨2, (some 242), none, .mo (.mv (.tmp 244)), [], false⟩,
  ⟨3, (some 245), none, .mo (.ext (.tmp 242) 0), [], false⟩,
  ⟨4, (some 246), none, .mo (.ext (.tmp 242) 1), [], false⟩,
  ⟨5, (some 247), none, .mo (.ext (.tmp 242) 2), [], false⟩,
  ⟨6, (some 248), none, .mo (.ext (.tmp 242) 3), [], false⟩,
  ⟨7, (some 249), none, .mo (.ext (.tmp 242) 4), [], false⟩,
  ⟨8, (some 46), none, .mo (.alloc [.int .i64 0, .int .i64 0, .nilS]), [], false⟩,
  ⟨9, (some 49), none, .mo (.alloc [.int .u8 0, .int .u8 0, .int .u8 0, .int .u8 0, .int .u8 0, .int .u8 0, .int .u8 0, .int .u8 0, .int .u8 0, .int .u8 0, .int .u8 0, .int .u8 0, .int .u8 0, .int .u8 0, .int .u8 0, .int .u8 0, .int .u8 0, .int .u8 0, .int .u8 0, .int .u8 0, .int .u8 0, .int .u8 0, .int .u8 0, .int .u8 0, .int .u8 0, .int .u8 0, .int .u8 0, .int .u8 0, .int .u8 0, .int .u8 0, .int .u8 0, .int .u8 0]), [], false⟩,
  ⟨10, none, none, .mo (.st 3 (.tmp 46) (.tmp 245)), [], false⟩,
  ⟨11, (some 47), none, .mo (.mv (.tmp 246)), [], false⟩,
  ⟨12, (some 48), none, .mo (.mv (.tmp 247)), [], false⟩,
  ⟨13, none, none, .mo (.st 32 (.tmp 49) (.tmp 248)), [], false⟩,
  ⟨14, (some 50), none, .mo (.mv (.tmp 249)), [], false⟩])
  (.seq (.reg [⟨0, (some 251), none, .mo (.ldA 3 (.tmp 20)), [], false⟩,
  ⟨1, (some 252), none, .callF 23 [(.tmp 251), (.const (.int .i64 2))], [], false⟩,
  ⟨2, (some 250), none, .mo (.mv (.tmp 252)), [], false⟩,
  ⟨3, (some 253), none, .mo (.ext (.tmp 250) 0), [], false⟩,
  ⟨4, (some 254), none, .mo (.ext (.tmp 250) 1), [], false⟩,
  ⟨5, (some 51), none, .mo (.alloc [.int .i64 0, .int .i64 0, .nilS]), [], false⟩,
  ⟨6, none, none, .mo (.st 3 (.tmp 51) (.tmp 253)), [], false⟩,
  ⟨7, (some 52), none, .mo (.mv (.tmp 254)), [], false⟩])
  (.seq (.reg [⟨0, (some 256), none, .mo (.ldA 3 (.tmp 51)), [], false⟩,
  ⟨1, (some 257), none, .callF 23 [(.tmp 256), (.const (.int .i64 2))], [], false⟩,
  ⟨2, (some 255), none, .mo (.mv (.tmp 257)), [], false⟩,
  ⟨3, (some 258), none, .mo (.ext (.tmp 255) 0), [], false⟩,
  ⟨4, (some 259), none, .mo (.ext (.tmp 255) 1), [], false⟩,
  ⟨5, (some 53), none, .mo (.alloc [.int .i64 0, .int .i64 0, .nilS]), [], false⟩,
  ⟨6, none, none, .mo (.st 3 (.tmp 53) (.tmp 258)), [], false⟩,
  ⟨7, (some 54), none, .mo (.mv (.tmp 259)), [], false⟩])
  (.seq (.reg [⟨0, (some 261), none, .mo (.ldA 3 (.tmp 51)), [], false⟩,
  ⟨1, (some 262), none, .callF 14 [(.tmp 261), (.const (.int .i64 2))], [], false⟩,
  ⟨2, (some 260), none, .mo (.mv (.tmp 262)), [], false⟩,
  ⟨3, (some 263), none, .mo (.ext (.tmp 260) 0), [], false⟩,
  ⟨4, (some 264), none, .mo (.ext (.tmp 260) 1), [], false⟩,
  ⟨5, (some 265), none, .mo (.ext (.tmp 260) 2), [], false⟩,
  ⟨6, (some 266), none, .mo (.ext (.tmp 260) 3), [], false⟩,
  ⟨7, (some 267), none, .mo (.ext (.tmp 260) 4), [], false⟩,
  ⟨8, (some 55), none, .mo (.alloc [.int .i64 0, .int .i64 0, .nilS]), [], false⟩,
  ⟨9, (some 58), none, .mo (.alloc [.int .u8 0, .int .u8 0, .int .u8 0, .int .u8 0, .int .u8 0, .int .u8 0, .int .u8 0, .int .u8 0, .int .u8 0, .int .u8 0, .int .u8 0, .int .u8 0, .int .u8 0, .int .u8 0, .int .u8 0, .int .u8 0, .int .u8 0, .int .u8 0, .int .u8 0, .int .u8 0, .int .u8 0, .int .u8 0, .int .u8 0, .int .u8 0, .int .u8 0, .int .u8 0, .int .u8 0, .int .u8 0, .int .u8 0, .int .u8 0, .int .u8 0, .int .u8 0]), [], false⟩,
  ⟨10, none, none, .mo (.st 3 (.tmp 55) (.tmp 263)), [], false⟩,
  ⟨11, (some 56), none, .mo (.mv (.tmp 264)), [], false⟩,
  ⟨12, (some 57), none, .mo (.mv (.tmp 265)), [], false⟩,
  ⟨13, none, none, .mo (.st 32 (.tmp 58) (.tmp 266)), [], false⟩,
  ⟨14, (some 59), none, .mo (.mv (.tmp 267)), [], false⟩])
  (.seq (.reg [⟨0, (some 269), none, .mo (.ldA 3 (.tmp 51)), [], false⟩,
  ⟨1, (some 270), none, .callF 12 [(.tmp 269), (.const (.int .i64 7))], [], false⟩,
  ⟨2, (some 268), none, .mo (.mv (.tmp 270)), [], false⟩,
  ⟨3, (some 271), none, .mo (.ext (.tmp 268) 0), [], false⟩,
  ⟨4, (some 272), none, .mo (.ext (.tmp 268) 1), [], false⟩,
  ⟨5, (some 273), none, .mo (.ext (.tmp 268) 2), [], false⟩,
  ⟨6, (some 60), none, .mo (.alloc [.int .i64 0, .int .i64 0, .nilS]), [], false⟩,
  ⟨7, none, none, .mo (.st 3 (.tmp 60) (.tmp 271)), [], false⟩,
  ⟨8, (some 61), none, .mo (.mv (.tmp 272)), [], false⟩,
  ⟨9, (some 62), none, .mo (.mv (.tmp 273)), [], false⟩])
  (.seq (.reg [⟨0, (some 274), none, .mo (.bld [.int .i64 0, .int .i64 0, .nilS] [(0, 1, (.const (.int .i64 1)))]), [], false⟩,
  ⟨1, (some 63), none, .mo (.alloc [.int .i64 0, .int .i64 0, .nilS]), [], false⟩,
  ⟨2, none, none, .mo (.st 3 (.tmp 63) (.tmp 274)), [], false⟩])
  (.seq (.seq (.reg [⟨0, (some 64), none, .mo (.mv (.const (.int .i64 0))), [], false⟩])
  (.block 4 (.loop l6_2)))
  (.seq (.reg [⟨0, (some 286), none, .mo (.ldA 3 (.tmp 63)), [], false⟩,
  ⟨1, (some 287), none, .callF 12 [(.tmp 286), (.const (.int .i64 0))], [], false⟩,
  ⟨2, (some 285), none, .mo (.mv (.tmp 287)), [], false⟩,
  ⟨3, (some 288), none, .mo (.ext (.tmp 285) 0), [], false⟩,
  ⟨4, (some 289), none, .mo (.ext (.tmp 285) 1), [], false⟩,
  ⟨5, (some 290), none, .mo (.ext (.tmp 285) 2), [], false⟩,
  ⟨6, (some 65), none, .mo (.alloc [.int .i64 0, .int .i64 0, .nilS]), [], false⟩,
  ⟨7, none, none, .mo (.st 3 (.tmp 65) (.tmp 288)), [], false⟩,
  ⟨8, (some 66), none, .mo (.mv (.tmp 289)), [], false⟩,
  ⟨9, (some 67), none, .mo (.mv (.tmp 290)), [], false⟩])
  (.seq (.reg [⟨0, (some 291), none, .mo (.mv (.const (.bool true))), [], false⟩,
  ⟨1, (some 292), (some ((some 291), true)), .callF 8 [], [], false⟩,
  ⟨2, (some 293), none, .mo (.pick (.tmp 291) (.tmp 292) (.const (.bool false))), [], false⟩,
  ⟨3, (some 294), none, .mo (.mv (.tmp 293)), [], false⟩,
  ⟨4, (some 295), (some ((some 294), true)), .mo (.mv (.tmp 17)), [], false⟩,
  ⟨5, (some 296), (some ((some 294), true)), .mo (.bin .eql 27 (.tmp 295) (.const (.int .i64 2))), [], false⟩,
  ⟨6, (some 297), none, .mo (.pick (.tmp 294) (.tmp 296) (.const (.bool false))), [], false⟩,
  ⟨7, (some 298), none, .mo (.mv (.tmp 297)), [], false⟩,
  ⟨8, (some 299), (some ((some 298), true)), .mo (.mv (.tmp 19)), [], false⟩,
  ⟨9, (some 300), (some ((some 298), true)), .mo (.bin .eql 27 (.tmp 299) (.const (.int .i64 2))), [], false⟩,
  ⟨10, (some 301), none, .mo (.pick (.tmp 298) (.tmp 300) (.const (.bool false))), [], false⟩,
  ⟨11, (some 302), none, .mo (.mv (.tmp 301)), [], false⟩,
  ⟨12, (some 303), (some ((some 302), true)), .mo (.mv (.tmp 21)), [], false⟩,
  ⟨13, (some 304), (some ((some 302), true)), .mo (.bin .eql 27 (.tmp 303) (.const (.int .i64 0))), [], false⟩,
  ⟨14, (some 305), none, .mo (.pick (.tmp 302) (.tmp 304) (.const (.bool false))), [], false⟩,
  ⟨15, (some 306), none, .mo (.mv (.tmp 305)), [], false⟩,
  ⟨16, (some 307), (some ((some 306), true)), .mo (.mv (.tmp 28)), [], false⟩,
  ⟨17, (some 308), (some ((some 306), true)), .mo (.bin .eql 27 (.tmp 307) (.const (.int .i64 18))), [], false⟩,
  ⟨18, (some 309), none, .mo (.pick (.tmp 306) (.tmp 308) (.const (.bool false))), [], false⟩,
  ⟨19, (some 310), none, .mo (.mv (.tmp 309)), [], false⟩,
  ⟨20, (some 311), (some ((some 310), true)), .mo (.mv (.tmp 31)), [], false⟩,
  ⟨21, (some 312), (some ((some 310), true)), .mo (.bin .eql 27 (.tmp 311) (.const (.int .i64 2))), [], false⟩,
  ⟨22, (some 313), none, .mo (.pick (.tmp 310) (.tmp 312) (.const (.bool false))), [], false⟩,
  ⟨23, (some 314), none, .mo (.mv (.tmp 313)), [], false⟩,
  ⟨24, (some 315), (some ((some 314), true)), .mo (.mv (.tmp 34)), [], false⟩,
  ⟨25, (some 316), (some ((some 314), true)), .mo (.bin .eql 27 (.tmp 315) (.const (.int .i64 2))), [], false⟩,
  ⟨26, (some 317), none, .mo (.pick (.tmp 314) (.tmp 316) (.const (.bool false))), [], false⟩,
  ⟨27, (some 318), none, .mo (.mv (.tmp 317)), [], false⟩,
  ⟨28, (some 319), (some ((some 318), true)), .mo (.mv (.tmp 36)), [], false⟩,
  ⟨29, (some 320), (some ((some 318), true)), .mo (.bin .eql 27 (.tmp 319) (.const (.int .i64 4))), [], false⟩,
  ⟨30, (some 321), none, .mo (.pick (.tmp 318) (.tmp 320) (.const (.bool false))), [], false⟩,
  ⟨31, (some 322), none, .mo (.mv (.tmp 321)), [], false⟩,
  ⟨32, (some 323), (some ((some 322), true)), .mo (.mv (.tmp 38)), [], false⟩,
  ⟨33, (some 324), (some ((some 322), true)), .mo (.bin .eql 27 (.tmp 323) (.const (.int .i64 4))), [], false⟩,
  ⟨34, (some 325), none, .mo (.pick (.tmp 322) (.tmp 324) (.const (.bool false))), [], false⟩,
  ⟨35, (some 326), none, .mo (.mv (.tmp 325)), [], false⟩,
  ⟨36, (some 327), (some ((some 326), true)), .mo (.mv (.tmp 40)), [], false⟩,
  ⟨37, (some 328), (some ((some 326), true)), .mo (.bin .eql 27 (.tmp 327) (.const (.int .i64 0))), [], false⟩,
  ⟨38, (some 329), none, .mo (.pick (.tmp 326) (.tmp 328) (.const (.bool false))), [], false⟩,
  ⟨39, (some 330), none, .mo (.mv (.tmp 329)), [], false⟩,
  ⟨40, (some 331), (some ((some 330), true)), .mo (.mv (.tmp 45)), [], false⟩,
  ⟨41, (some 332), (some ((some 330), true)), .mo (.bin .eql 27 (.tmp 331) (.const (.int .i64 2))), [], false⟩,
  ⟨42, (some 333), none, .mo (.pick (.tmp 330) (.tmp 332) (.const (.bool false))), [], false⟩,
  ⟨43, (some 334), none, .mo (.mv (.tmp 333)), [], false⟩,
  ⟨44, (some 335), (some ((some 334), true)), .mo (.mv (.tmp 50)), [], false⟩,
  ⟨45, (some 336), (some ((some 334), true)), .mo (.bin .eql 27 (.tmp 335) (.const (.int .i64 38))), [], false⟩,
  ⟨46, (some 337), none, .mo (.pick (.tmp 334) (.tmp 336) (.const (.bool false))), [], false⟩,
  ⟨47, (some 338), none, .mo (.mv (.tmp 337)), [], false⟩,
  ⟨48, (some 339), (some ((some 338), true)), .mo (.mv (.tmp 52)), [], false⟩,
  ⟨49, (some 340), (some ((some 338), true)), .mo (.bin .eql 27 (.tmp 339) (.const (.int .i64 0))), [], false⟩,
  ⟨50, (some 341), none, .mo (.pick (.tmp 338) (.tmp 340) (.const (.bool false))), [], false⟩,
  ⟨51, (some 342), none, .mo (.mv (.tmp 341)), [], false⟩,
  ⟨52, (some 343), (some ((some 342), true)), .mo (.mv (.tmp 54)), [], false⟩,
  ⟨53, (some 344), (some ((some 342), true)), .mo (.bin .eql 27 (.tmp 343) (.const (.int .i64 34))), [], false⟩,
  ⟨54, (some 345), none, .mo (.pick (.tmp 342) (.tmp 344) (.const (.bool false))), [], false⟩,
  ⟨55, (some 346), none, .mo (.mv (.tmp 345)), [], false⟩,
  ⟨56, (some 347), (some ((some 346), true)), .mo (.mv (.tmp 59)), [], false⟩,
  ⟨57, (some 348), (some ((some 346), true)), .mo (.bin .eql 27 (.tmp 347) (.const (.int .i64 34))), [], false⟩,
  ⟨58, (some 349), none, .mo (.pick (.tmp 346) (.tmp 348) (.const (.bool false))), [], false⟩,
  ⟨59, (some 350), none, .mo (.mv (.tmp 349)), [], false⟩,
  ⟨60, (some 351), (some ((some 350), true)), .mo (.mv (.tmp 62)), [], false⟩,
  ⟨61, (some 352), (some ((some 350), true)), .mo (.bin .eql 27 (.tmp 351) (.const (.int .i64 0))), [], false⟩,
  ⟨62, (some 353), none, .mo (.pick (.tmp 350) (.tmp 352) (.const (.bool false))), [], false⟩,
  ⟨63, (some 354), none, .mo (.mv (.tmp 353)), [], false⟩,
  ⟨64, (some 355), (some ((some 354), true)), .mo (.mv (.tmp 61)), [], false⟩,
  ⟨65, (some 356), (some ((some 354), true)), .mo (.bin .eql 3 (.tmp 355) (.const (.int .i64 4))), [], false⟩,
  ⟨66, (some 357), none, .mo (.pick (.tmp 354) (.tmp 356) (.const (.bool false))), [], false⟩,
  ⟨67, (some 358), none, .mo (.mv (.tmp 357)), [], false⟩,
  ⟨68, (some 359), (some ((some 358), true)), .mo (.fa 2 (.tmp 60)), [], false⟩,
  ⟨69, (some 360), (some ((some 358), true)), .mo (.ld1 (.tmp 359)), [], false⟩,
  ⟨70, (some 361), (some ((some 358), true)), .mo (.len (.sl 4) (.tmp 360)), [], false⟩,
  ⟨71, (some 362), (some ((some 358), true)), .mo (.bin .eql 3 (.tmp 361) (.const (.int .i64 5))), [], false⟩,
  ⟨72, (some 363), none, .mo (.pick (.tmp 358) (.tmp 362) (.const (.bool false))), [], false⟩,
  ⟨73, (some 364), none, .mo (.mv (.tmp 363)), [], false⟩,
  ⟨74, (some 365), (some ((some 364), true)), .mo (.mv (.tmp 67)), [], false⟩,
  ⟨75, (some 366), (some ((some 364), true)), .mo (.bin .eql 27 (.tmp 365) (.const (.int .i64 18))), [], false⟩,
  ⟨76, (some 367), none, .mo (.pick (.tmp 364) (.tmp 366) (.const (.bool false))), [], false⟩,
  ⟨77, (some 0), none, .mo (.mv (.tmp 367)), [], false⟩])
  .ret))))))))))))))))))))))))
def r6 : List Mo := [.mv (.tmp 0)]
theorem c6_eq : compF Try.prog 6 = some c6 := by kernel_rfl
theorem r6_eq : compRs Try.prog 6 = some r6 := by kernel_rfl
/-! F7 braid/braidlaw20.FeedApart -/
def l7_0 : Cd := (.seq (.seq (.reg [⟨0, (some 140), none, .mo (.mv (.tmp 23)), [], false⟩,
  ⟨1, (some 141), none, .mo (.fa 2 (.tmp 4)), [], false⟩,
  ⟨2, (some 142), none, .mo (.ld1 (.tmp 141)), [], false⟩,
  ⟨3, (some 143), none, .mo (.len (.sl 4) (.tmp 142)), [], false⟩,
  ⟨4, (some 144), none, .mo (.bin .lss 3 (.tmp 140) (.tmp 143)), [], false⟩])
  (.cond (.tmp 144) .skip (.exit 0)))
  (.seq (.block 1 (.seq (.seq (.reg [⟨0, (some 147), none, .mo (.mv (.tmp 23)), [], false⟩,
  ⟨1, (some 148), none, .mo (.mv (.tmp 3)), [], false⟩,
  ⟨2, (some 149), none, .mo (.bin .eql 3 (.tmp 147) (.tmp 148)), [], false⟩])
  (.cond (.tmp 149) (.exit 1) .skip))
  (.seq (.seq (.reg [⟨0, (some 150), none, .mo (.mv (.tmp 20)), [], false⟩,
  ⟨1, (some 151), none, .mo (.bin .eql 27 (.tmp 150) (.const (.int .i64 0))), [], false⟩,
  ⟨2, (some 152), none, .mo (.mv (.tmp 151)), [], false⟩,
  ⟨3, (some 153), (some ((some 152), true)), .mo (.fa 2 (.tmp 16)), [], false⟩,
  ⟨4, (some 154), (some ((some 152), true)), .mo (.ld1 (.tmp 153)), [], false⟩,
  ⟨5, (some 155), (some ((some 152), true)), .mo (.len (.sl 4) (.tmp 154)), [], false⟩,
  ⟨6, (some 156), (some ((some 152), true)), .mo (.fa 2 (.tmp 4)), [], false⟩,
  ⟨7, (some 157), (some ((some 152), true)), .mo (.ld1 (.tmp 156)), [], false⟩,
  ⟨8, (some 158), (some ((some 152), true)), .mo (.len (.sl 4) (.tmp 157)), [], false⟩,
  ⟨9, (some 159), (some ((some 152), true)), .mo (.bin .neq 3 (.tmp 155) (.tmp 158)), [], false⟩,
  ⟨10, (some 160), (some ((some 152), true)), .mo (.mv (.tmp 159)), [], false⟩,
  ⟨11, (some 161), (some ((some 160), false)), .mo (.fa 2 (.tmp 16)), [], false⟩,
  ⟨12, (some 162), (some ((some 160), false)), .mo (.ld1 (.tmp 161)), [], false⟩,
  ⟨13, (some 163), (some ((some 160), false)), .mo (.mv (.tmp 23)), [], false⟩,
  ⟨14, (some 164), (some ((some 160), false)), .mo (.ia (.sl 4) (.tmp 162) (.tmp 163)), [], false⟩,
  ⟨15, (some 165), (some ((some 160), false)), .mo (.ldA 4 (.tmp 164)), [], false⟩,
  ⟨16, (some 166), (some ((some 160), false)), .mo (.fa 2 (.tmp 4)), [], false⟩,
  ⟨17, (some 167), (some ((some 160), false)), .mo (.ld1 (.tmp 166)), [], false⟩,
  ⟨18, (some 168), (some ((some 160), false)), .mo (.mv (.tmp 23)), [], false⟩,
  ⟨19, (some 169), (some ((some 160), false)), .mo (.ia (.sl 4) (.tmp 167) (.tmp 168)), [], false⟩,
  ⟨20, (some 170), (some ((some 160), false)), .mo (.ldA 4 (.tmp 169)), [], false⟩,
  ⟨21, (some 171), (some ((some 160), false)), .callF 26 [(.tmp 165), (.tmp 170)], [], false⟩,
  ⟨22, (some 172), (some ((some 160), false)), .mo (.un .not (.tmp 171)), [], false⟩,
  ⟨23, (some 173), (some ((some 152), true)), .mo (.pick (.tmp 160) (.const (.bool true)) (.tmp 172)), [], false⟩,
  ⟨24, (some 174), none, .mo (.pick (.tmp 152) (.tmp 173) (.const (.bool false))), [], false⟩])
  (.cond (.tmp 174) (.seq (.reg [⟨0, (some 8), none, .mo (.mv (.const (.bool false))), [], false⟩])
  .ret) .skip))
  (.seq (.reg [⟨0, (some 175), none, .mo (.mv (.tmp 22)), [], false⟩,
  ⟨1, (some 176), none, .mo (.bin .eql 27 (.tmp 175) (.const (.int .i64 0))), [], false⟩,
  ⟨2, (some 177), none, .mo (.mv (.tmp 176)), [], false⟩,
  ⟨3, (some 178), (some ((some 177), true)), .mo (.fa 2 (.tmp 21)), [], false⟩,
  ⟨4, (some 179), (some ((some 177), true)), .mo (.ld1 (.tmp 178)), [], false⟩,
  ⟨5, (some 180), (some ((some 177), true)), .mo (.len (.sl 4) (.tmp 179)), [], false⟩,
  ⟨6, (some 181), (some ((some 177), true)), .mo (.fa 2 (.tmp 4)), [], false⟩,
  ⟨7, (some 182), (some ((some 177), true)), .mo (.ld1 (.tmp 181)), [], false⟩,
  ⟨8, (some 183), (some ((some 177), true)), .mo (.len (.sl 4) (.tmp 182)), [], false⟩,
  ⟨9, (some 184), (some ((some 177), true)), .mo (.bin .neq 3 (.tmp 180) (.tmp 183)), [], false⟩,
  ⟨10, (some 185), (some ((some 177), true)), .mo (.mv (.tmp 184)), [], false⟩,
  ⟨11, (some 186), (some ((some 185), false)), .mo (.fa 2 (.tmp 21)), [], false⟩,
  ⟨12, (some 187), (some ((some 185), false)), .mo (.ld1 (.tmp 186)), [], false⟩,
  ⟨13, (some 188), (some ((some 185), false)), .mo (.mv (.tmp 23)), [], false⟩,
  ⟨14, (some 189), (some ((some 185), false)), .mo (.ia (.sl 4) (.tmp 187) (.tmp 188)), [], false⟩,
  ⟨15, (some 190), (some ((some 185), false)), .mo (.ldA 4 (.tmp 189)), [], false⟩,
  ⟨16, (some 191), (some ((some 185), false)), .mo (.fa 2 (.tmp 4)), [], false⟩,
  ⟨17, (some 192), (some ((some 185), false)), .mo (.ld1 (.tmp 191)), [], false⟩,
  ⟨18, (some 193), (some ((some 185), false)), .mo (.mv (.tmp 23)), [], false⟩,
  ⟨19, (some 194), (some ((some 185), false)), .mo (.ia (.sl 4) (.tmp 192) (.tmp 193)), [], false⟩,
  ⟨20, (some 195), (some ((some 185), false)), .mo (.ldA 4 (.tmp 194)), [], false⟩,
  ⟨21, (some 196), (some ((some 185), false)), .callF 26 [(.tmp 190), (.tmp 195)], [], false⟩,
  ⟨22, (some 197), (some ((some 185), false)), .mo (.un .not (.tmp 196)), [], false⟩,
  ⟨23, (some 198), (some ((some 177), true)), .mo (.pick (.tmp 185) (.const (.bool true)) (.tmp 197)), [], false⟩,
  ⟨24, (some 199), none, .mo (.pick (.tmp 177) (.tmp 198) (.const (.bool false))), [], false⟩])
  (.cond (.tmp 199) (.seq (.reg [⟨0, (some 8), none, .mo (.mv (.const (.bool false))), [], false⟩])
  .ret) .skip)))))
  (.reg [⟨0, (some 145), none, .mo (.mv (.tmp 23)), [], false⟩,
  ⟨1, (some 146), none, .mo (.bin .add 3 (.tmp 145) (.const (.int .i64 1))), [], false⟩,
  ⟨2, (some 23), none, .mo (.mv (.tmp 146)), [], false⟩])))
def c7 : Cd := (.seq (.reg [⟨0, (some 4), none, .mo (.box (.tmp 0)), [], false⟩,
  ⟨1, (some 8), none, .mo (.mv (.const (.bool false))), [], false⟩])
  (.seq (.reg [⟨0, (some 24), none, .callF 8 [], [], false⟩,
  ⟨1, (some 9), none, .mo (.mv (.tmp 24)), [], false⟩])
  (.seq (.seq (.reg [⟨0, (some 25), none, .mo (.ldA 3 (.tmp 4)), [], false⟩,
  ⟨1, (some 26), none, .callF 16 [(.tmp 25)], [], false⟩,
  ⟨2, (some 27), none, .mo (.mv (.tmp 26)), [], false⟩,
  ⟨3, (some 28), (some ((some 27), false)), .mo (.ldA 3 (.tmp 4)), [], false⟩,
  ⟨4, (some 29), (some ((some 27), false)), .callF 13 [(.tmp 28)], [], false⟩,
  ⟨5, (some 30), (some ((some 27), false)), .mo (.bin .neq 3 (.tmp 29) (.const (.int .i64 0))), [], false⟩,
  ⟨6, (some 31), none, .mo (.pick (.tmp 27) (.const (.bool true)) (.tmp 30)), [], false⟩,
  ⟨7, (some 32), none, .mo (.mv (.tmp 31)), [], false⟩,
  ⟨8, (some 33), (some ((some 32), false)), .mo (.mv (.tmp 1)), [], false⟩,
  ⟨9, (some 34), (some ((some 32), false)), .mo (.len (.sl 32) (.tmp 33)), [], false⟩,
  ⟨10, (some 35), (some ((some 32), false)), .mo (.bin .gtr 3 (.tmp 34) (.const (.int .i64 60))), [], false⟩,
  ⟨11, (some 36), none, .mo (.pick (.tmp 32) (.const (.bool true)) (.tmp 35)), [], false⟩,
  ⟨12, (some 37), none, .mo (.mv (.tmp 36)), [], false⟩,
  ⟨13, (some 38), (some ((some 37), false)), .mo (.fa 1 (.tmp 4)), [], false⟩,
  ⟨14, (some 39), (some ((some 37), false)), .mo (.ld1 (.tmp 38)), [], false⟩,
  ⟨15, (some 40), (some ((some 37), false)), .mo (.bin .gtr 3 (.tmp 39) (.const (.int .i64 1000000))), [], false⟩,
  ⟨16, (some 41), none, .mo (.pick (.tmp 37) (.const (.bool true)) (.tmp 40)), [], false⟩,
  ⟨17, (some 42), none, .mo (.mv (.tmp 41)), [], false⟩,
  ⟨18, (some 43), (some ((some 42), false)), .mo (.mv (.tmp 2)), [], false⟩,
  ⟨19, (some 44), (some ((some 42), false)), .mo (.bin .lss 3 (.tmp 43) (.const (.int .i64 0))), [], false⟩,
  ⟨20, (some 45), none, .mo (.pick (.tmp 42) (.const (.bool true)) (.tmp 44)), [], false⟩,
  ⟨21, (some 46), none, .mo (.mv (.tmp 45)), [], false⟩,
  ⟨22, (some 47), (some ((some 46), false)), .mo (.mv (.tmp 2)), [], false⟩,
  ⟨23, (some 48), (some ((some 46), false)), .mo (.mv (.tmp 1)), [], false⟩,
  ⟨24, (some 49), (some ((some 46), false)), .mo (.len (.sl 32) (.tmp 48)), [], false⟩,
  ⟨25, (some 50), (some ((some 46), false)), .mo (.bin .gtr 3 (.tmp 47) (.tmp 49)), [], false⟩,
  ⟨26, (some 51), none, .mo (.pick (.tmp 46) (.const (.bool true)) (.tmp 50)), [], false⟩,
  ⟨27, (some 52), none, .mo (.mv (.tmp 51)), [], false⟩,
  ⟨28, (some 53), (some ((some 52), false)), .mo (.mv (.tmp 3)), [], false⟩,
  ⟨29, (some 54), (some ((some 52), false)), .mo (.bin .lss 3 (.tmp 53) (.const (.int .i64 0))), [], false⟩,
  ⟨30, (some 55), none, .mo (.pick (.tmp 52) (.const (.bool true)) (.tmp 54)), [], false⟩,
  ⟨31, (some 56), none, .mo (.mv (.tmp 55)), [], false⟩,
  ⟨32, (some 57), (some ((some 56), false)), .mo (.mv (.tmp 3)), [], false⟩,
  ⟨33, (some 58), (some ((some 56), false)), .mo (.fa 2 (.tmp 4)), [], false⟩,
  ⟨34, (some 59), (some ((some 56), false)), .mo (.ld1 (.tmp 58)), [], false⟩,
  ⟨35, (some 60), (some ((some 56), false)), .mo (.len (.sl 4) (.tmp 59)), [], false⟩,
  ⟨36, (some 61), (some ((some 56), false)), .mo (.bin .geq 3 (.tmp 57) (.tmp 60)), [], false⟩,
  ⟨37, (some 62), none, .mo (.pick (.tmp 56) (.const (.bool true)) (.tmp 61)), [], false⟩,
  ⟨38, (some 63), none, .mo (.mv (.tmp 62)), [], false⟩,
  ⟨39, (some 64), (some ((some 63), false)), .mo (.mv (.tmp 9)), [], false⟩,
  ⟨40, (some 65), (some ((some 63), false)), .mo (.un .not (.tmp 64)), [], false⟩,
  ⟨41, (some 66), none, .mo (.pick (.tmp 63) (.const (.bool true)) (.tmp 65)), [], false⟩])
  (.cond (.tmp 66) (.seq (.reg [⟨0, (some 67), none, .mo (.mv (.tmp 9)), [], false⟩,
  ⟨1, (some 8), none, .mo (.mv (.tmp 67)), [], false⟩])
  .ret) .skip))
  (.seq (.reg [⟨0, (some 69), none, .mo (.ldA 3 (.tmp 4)), [], false⟩,
  ⟨1, (some 70), none, .mo (.mv (.tmp 1)), [], false⟩,
  ⟨2, (some 71), none, .callF 10 [(.tmp 69), (.tmp 70)], [], false⟩,
  ⟨3, (some 68), none, .mo (.mv (.tmp 71)), [], false⟩,
  ⟨4, (some 72), none, .mo (.ext (.tmp 68) 0), [], false⟩,
  ⟨5, (some 73), none, .mo (.ext (.tmp 68) 1), [], false⟩,
  ⟨6, (some 10), none, .mo (.alloc [.int .i64 0, .int .i64 0, .nilS]), [], false⟩,
  ⟨7, none, none, .mo (.st 3 (.tmp 10) (.tmp 72)), [], false⟩,
  ⟨8, (some 11), none, .mo (.mv (.tmp 73)), [], false⟩])
  (.seq (.dreg [⟨0, (some 75), none, .mo (.ldA 3 (.tmp 4)), [], false⟩,
  ⟨1, (some 76), none, .mo (.mv (.tmp 1)), [], false⟩,
  ⟨2, (some 77), none, .mo (.mv (.tmp 2)), [], false⟩,
  ⟨3, (some 78), none, .mo (.slice (.sl 32) (.tmp 76) none (some (.tmp 77)) none), [], false⟩,
  ⟨8, (some 12), none, .mo (.alloc [.int .i64 0, .int .i64 0, .nilS]), [], true⟩,
  ⟨4, (some 79), none, .callF 10 [(.tmp 75), (.tmp 78)], [8], false⟩,
  ⟨5, (some 74), none, .mo (.mv (.tmp 79)), [], false⟩,
  ⟨6, (some 80), none, .mo (.ext (.tmp 74) 0), [], false⟩,
  ⟨7, (some 81), none, .mo (.ext (.tmp 74) 1), [], false⟩,
  ⟨9, none, none, .mo (.st 3 (.tmp 12) (.tmp 80)), [], false⟩,
  ⟨10, (some 13), none, .mo (.mv (.tmp 81)), [], false⟩])
  (.seq (.dreg [⟨0, (some 83), none, .mo (.ldA 3 (.tmp 12)), [], false⟩,
  ⟨1, (some 84), none, .mo (.mv (.tmp 1)), [], false⟩,
  ⟨2, (some 85), none, .mo (.mv (.tmp 2)), [], false⟩,
  ⟨3, (some 86), none, .mo (.slice (.sl 32) (.tmp 84) (some (.tmp 85)) none none), [], false⟩,
  ⟨8, (some 14), none, .mo (.alloc [.int .i64 0, .int .i64 0, .nilS]), [], true⟩,
  ⟨4, (some 87), none, .callF 10 [(.tmp 83), (.tmp 86)], [8], false⟩,
  ⟨5, (some 82), none, .mo (.mv (.tmp 87)), [], false⟩,
  ⟨6, (some 88), none, .mo (.ext (.tmp 82) 0), [], false⟩,
  ⟨7, (some 89), none, .mo (.ext (.tmp 82) 1), [], false⟩,
  ⟨9, none, none, .mo (.st 3 (.tmp 14) (.tmp 88)), [], false⟩,
  ⟨10, (some 15), none, .mo (.mv (.tmp 89)), [], false⟩])
  (.seq (.seq (.reg [⟨0, (some 90), none, .mo (.mv (.tmp 11)), [], false⟩,
  ⟨1, (some 91), none, .mo (.bin .neq 27 (.tmp 90) (.const (.int .i64 0))), [], false⟩,
  ⟨2, (some 92), none, .mo (.mv (.tmp 91)), [], false⟩,
  ⟨3, (some 93), (some ((some 92), false)), .mo (.mv (.tmp 13)), [], false⟩,
  ⟨4, (some 94), (some ((some 92), false)), .mo (.bin .neq 27 (.tmp 93) (.const (.int .i64 0))), [], false⟩,
  ⟨5, (some 95), none, .mo (.pick (.tmp 92) (.const (.bool true)) (.tmp 94)), [], false⟩,
  ⟨6, (some 96), none, .mo (.mv (.tmp 95)), [], false⟩,
  ⟨7, (some 97), (some ((some 96), false)), .mo (.mv (.tmp 15)), [], false⟩,
  ⟨8, (some 98), (some ((some 96), false)), .mo (.bin .neq 27 (.tmp 97) (.const (.int .i64 0))), [], false⟩,
  ⟨9, (some 99), none, .mo (.pick (.tmp 96) (.const (.bool true)) (.tmp 98)), [], false⟩,
  ⟨10, (some 100), none, .mo (.mv (.tmp 99)), [], false⟩,
  ⟨11, (some 101), (some ((some 100), false)), .mo (.ldA 3 (.tmp 10)), [], false⟩,
  ⟨12, (some 102), (some ((some 100), false)), .mo (.ldA 3 (.tmp 14)), [], false⟩,
  ⟨13, (some 103), (some ((some 100), false)), .callF 21 [(.tmp 101), (.tmp 102)], [], false⟩,
  ⟨14, (some 104), (some ((some 100), false)), .mo (.un .not (.tmp 103)), [], false⟩,
  ⟨15, (some 105), none, .mo (.pick (.tmp 100) (.const (.bool true)) (.tmp 104)), [], false⟩,
  ⟨16, (some 106), none, .mo (.mv (.tmp 105)), [], false⟩,
  ⟨17, (some 107), (some ((some 106), false)), .mo (.fa 1 (.tmp 10)), [], false⟩,
  ⟨18, (some 108), (some ((some 106), false)), .mo (.ld1 (.tmp 107)), [], false⟩,
  ⟨19, (some 109), (some ((some 106), false)), .mo (.fa 1 (.tmp 4)), [], false⟩,
  ⟨20, (some 110), (some ((some 106), false)), .mo (.ld1 (.tmp 109)), [], false⟩,
  ⟨21, (some 111), (some ((some 106), false)), .mo (.mv (.tmp 1)), [], false⟩,
  ⟨22, (some 112), (some ((some 106), false)), .mo (.len (.sl 32) (.tmp 111)), [], false⟩,
  ⟨23, (some 113), (some ((some 106), false)), .mo (.bin .add 3 (.tmp 110) (.tmp 112)), [], false⟩,
  ⟨24, (some 114), (some ((some 106), false)), .mo (.bin .neq 3 (.tmp 108) (.tmp 113)), [], false⟩,
  ⟨25, (some 115), none, .mo (.pick (.tmp 106) (.const (.bool true)) (.tmp 114)), [], false⟩,
  ⟨26, (some 116), none, .mo (.mv (.tmp 115)), [], false⟩,
  ⟨27, (some 117), (some ((some 116), false)), .mo (.fa 2 (.tmp 10)), [], false⟩,
  ⟨28, (some 118), (some ((some 116), false)), .mo (.ld1 (.tmp 117)), [], false⟩,
  ⟨29, (some 119), (some ((some 116), false)), .mo (.len (.sl 4) (.tmp 118)), [], false⟩,
  ⟨30, (some 120), (some ((some 116), false)), .mo (.fa 2 (.tmp 4)), [], false⟩,
  ⟨31, (some 121), (some ((some 116), false)), .mo (.ld1 (.tmp 120)), [], false⟩,
  ⟨32, (some 122), (some ((some 116), false)), .mo (.len (.sl 4) (.tmp 121)), [], false⟩,
  ⟨33, (some 123), (some ((some 116), false)), .mo (.bin .neq 3 (.tmp 119) (.tmp 122)), [], false⟩,
  ⟨34, (some 124), none, .mo (.pick (.tmp 116) (.const (.bool true)) (.tmp 123)), [], false⟩])
  (.cond (.tmp 124) (.seq (.reg [⟨0, (some 8), none, .mo (.mv (.const (.bool false))), [], false⟩])
  .ret) .skip))
  (.seq (.reg [⟨0, (some 126), none, .mo (.ldA 3 (.tmp 4)), [], false⟩,
  ⟨1, (some 127), none, .mo (.mv (.tmp 3)), [], false⟩,
  ⟨2, (some 128), none, .callF 14 [(.tmp 126), (.tmp 127)], [], false⟩,
  ⟨3, (some 125), none, .mo (.mv (.tmp 128)), [], false⟩,
  ⟨4, (some 129), none, .mo (.ext (.tmp 125) 0), [], false⟩,
  ⟨5, (some 130), none, .mo (.ext (.tmp 125) 1), [], false⟩,
  ⟨6, (some 131), none, .mo (.ext (.tmp 125) 2), [], false⟩,
  ⟨7, (some 132), none, .mo (.ext (.tmp 125) 3), [], false⟩,
  ⟨8, (some 133), none, .mo (.ext (.tmp 125) 4), [], false⟩,
  ⟨9, (some 16), none, .mo (.alloc [.int .i64 0, .int .i64 0, .nilS]), [], false⟩,
  ⟨10, (some 19), none, .mo (.alloc [.int .u8 0, .int .u8 0, .int .u8 0, .int .u8 0, .int .u8 0, .int .u8 0, .int .u8 0, .int .u8 0, .int .u8 0, .int .u8 0, .int .u8 0, .int .u8 0, .int .u8 0, .int .u8 0, .int .u8 0, .int .u8 0, .int .u8 0, .int .u8 0, .int .u8 0, .int .u8 0, .int .u8 0, .int .u8 0, .int .u8 0, .int .u8 0, .int .u8 0, .int .u8 0, .int .u8 0, .int .u8 0, .int .u8 0, .int .u8 0, .int .u8 0, .int .u8 0]), [], false⟩,
  ⟨11, none, none, .mo (.st 3 (.tmp 16) (.tmp 129)), [], false⟩,
  ⟨12, (some 17), none, .mo (.mv (.tmp 130)), [], false⟩,
  ⟨13, (some 18), none, .mo (.mv (.tmp 131)), [], false⟩,
  ⟨14, none, none, .mo (.st 32 (.tmp 19) (.tmp 132)), [], false⟩,
  ⟨15, (some 20), none, .mo (.mv (.tmp 133)), [], false⟩])
  (.seq (.reg [⟨0, (some 135), none, .mo (.ldA 3 (.tmp 4)), [], false⟩,
  ⟨1, (some 136), none, .mo (.mv (.tmp 3)), [], false⟩,
  ⟨2, (some 137), none, .callF 23 [(.tmp 135), (.tmp 136)], [], false⟩,
  ⟨3, (some 134), none, .mo (.mv (.tmp 137)), [], false⟩,
  ⟨4, (some 138), none, .mo (.ext (.tmp 134) 0), [], false⟩,
  ⟨5, (some 139), none, .mo (.ext (.tmp 134) 1), [], false⟩,
  ⟨6, (some 21), none, .mo (.alloc [.int .i64 0, .int .i64 0, .nilS]), [], false⟩,
  ⟨7, none, none, .mo (.st 3 (.tmp 21) (.tmp 138)), [], false⟩,
  ⟨8, (some 22), none, .mo (.mv (.tmp 139)), [], false⟩])
  (.seq (.seq (.reg [⟨0, (some 23), none, .mo (.mv (.const (.int .i64 0))), [], false⟩])
  (.block 0 (.loop l7_0)))
  (.seq (.reg [⟨0, (some 200), none, .mo (.mv (.tmp 9)), [], false⟩,
  ⟨1, (some 201), none, .mo (.mv (.tmp 200)), [], false⟩,
  ⟨2, (some 202), (some ((some 201), true)), .mo (.mv (.tmp 22)), [], false⟩,
  ⟨3, (some 203), (some ((some 201), true)), .mo (.bin .eql 27 (.tmp 202) (.const (.int .i64 34))), [], false⟩,
  ⟨4, (some 204), (some ((some 201), true)), .mo (.fa 2 (.tmp 4)), [], false⟩,
  ⟨5, (some 205), (some ((some 201), true)), .mo (.ld1 (.tmp 204)), [], false⟩,
  ⟨6, (some 206), (some ((some 201), true)), .mo (.mv (.tmp 3)), [], false⟩,
  ⟨7, (some 207), (some ((some 201), true)), .mo (.ia (.sl 4) (.tmp 205) (.tmp 206)), [], false⟩,
  ⟨8, (some 208), (some ((some 201), true)), .mo (.fa 3 (.tmp 207)), [], false⟩,
  ⟨9, (some 209), (some ((some 201), true)), .mo (.ld1 (.tmp 208)), [], false⟩,
  ⟨10, (some 210), (some ((some 201), true)), .mo (.bin .eql 4 (.tmp 203) (.tmp 209)), [], false⟩,
  ⟨11, (some 211), none, .mo (.pick (.tmp 201) (.tmp 210) (.const (.bool false))), [], false⟩,
  ⟨12, (some 212), none, .mo (.mv (.tmp 211)), [], false⟩,
  ⟨13, (some 213), (some ((some 212), true)), .mo (.mv (.tmp 22)), [], false⟩,
  ⟨14, (some 214), (some ((some 212), true)), .mo (.bin .eql 27 (.tmp 213) (.const (.int .i64 0))), [], false⟩,
  ⟨15, (some 215), (some ((some 212), true)), .mo (.mv (.tmp 214)), [], false⟩,
  ⟨16, (some 216), (some ((some 215), false)), .mo (.mv (.tmp 22)), [], false⟩,
  ⟨17, (some 217), (some ((some 215), false)), .mo (.bin .eql 27 (.tmp 216) (.const (.int .i64 34))), [], false⟩,
  ⟨18, (some 218), (some ((some 212), true)), .mo (.pick (.tmp 215) (.const (.bool true)) (.tmp 217)), [], false⟩,
  ⟨19, (some 219), none, .mo (.pick (.tmp 212) (.tmp 218) (.const (.bool false))), [], false⟩,
  ⟨20, (some 8), none, .mo (.mv (.tmp 219)), [], false⟩])
  .ret)))))))))))
def r7 : List Mo := [.mv (.tmp 8)]
theorem c7_eq : compF Try.prog 7 = some c7 := by kernel_rfl
theorem r7_eq : compRs Try.prog 7 = some r7 := by kernel_rfl
/-! F8 braid/braidlaw20.alive -/
def c8 : Cd := (.seq (.reg [⟨0, (some 0), none, .mo (.mv (.const (.bool false))), [], false⟩])
  (.seq (.reg [⟨0, (some 35), none, .callF 9 [(.const (.int .i64 1))], [], false⟩,
  ⟨1, (some 34), none, .mo (.mv (.tmp 35)), [], false⟩,
  ⟨2, (some 36), none, .mo (.ext (.tmp 34) 0), [], false⟩,
  ⟨3, (some 37), none, .mo (.ext (.tmp 34) 1), [], false⟩,
  ⟨4, (some 1), none, .mo (.alloc [.int .i64 0, .int .i64 0, .nilS]), [], false⟩,
  ⟨5, none, none, .mo (.st 3 (.tmp 1) (.tmp 36)), [], false⟩,
  ⟨6, (some 2), none, .mo (.mv (.tmp 37)), [], false⟩])
  (.seq (.reg [⟨0, (some 39), none, .mo (.ldA 3 (.tmp 1)), [], false⟩,
  ⟨1, (some 40), none, .callF 12 [(.tmp 39), (.const (.int .i64 0))], [], false⟩,
  ⟨2, (some 38), none, .mo (.mv (.tmp 40)), [], false⟩,
  ⟨3, (some 41), none, .mo (.ext (.tmp 38) 0), [], false⟩,
  ⟨4, (some 42), none, .mo (.ext (.tmp 38) 1), [], false⟩,
  ⟨5, (some 43), none, .mo (.ext (.tmp 38) 2), [], false⟩,
  ⟨6, (some 3), none, .mo (.alloc [.int .i64 0, .int .i64 0, .nilS]), [], false⟩,
  ⟨7, none, none, .mo (.st 3 (.tmp 3) (.tmp 41)), [], false⟩,
  ⟨8, (some 4), none, .mo (.mv (.tmp 42)), [], false⟩,
  ⟨9, (some 5), none, .mo (.mv (.tmp 43)), [], false⟩])
  (.seq (.dreg [⟨0, (some 45), none, .mo (.ldA 3 (.tmp 3)), [], true⟩,
  ⟨6, (some 6), none, .mo (.alloc [.int .i64 0, .int .i64 0, .nilS]), [], true⟩,
  ⟨1, (some 46), none, .callF 11 [(.const (.int .i64 0)), (.const (.int .i64 2))], [6, 0], false⟩,
  ⟨2, (some 47), none, .callF 10 [(.tmp 45), (.tmp 46)], [6], false⟩,
  ⟨3, (some 44), none, .mo (.mv (.tmp 47)), [], false⟩,
  ⟨4, (some 48), none, .mo (.ext (.tmp 44) 0), [], false⟩,
  ⟨5, (some 49), none, .mo (.ext (.tmp 44) 1), [], false⟩,
  ⟨7, none, none, .mo (.st 3 (.tmp 6) (.tmp 48)), [], false⟩,
  ⟨8, (some 7), none, .mo (.mv (.tmp 49)), [], false⟩])
  (.seq (.reg [⟨0, (some 51), none, .mo (.ldA 3 (.tmp 6)), [], false⟩,
  ⟨1, (some 52), none, .callF 14 [(.tmp 51), (.const (.int .i64 0))], [], false⟩,
  ⟨2, (some 50), none, .mo (.mv (.tmp 52)), [], false⟩,
  ⟨3, (some 53), none, .mo (.ext (.tmp 50) 0), [], false⟩,
  ⟨4, (some 54), none, .mo (.ext (.tmp 50) 1), [], false⟩,
  ⟨5, (some 55), none, .mo (.ext (.tmp 50) 2), [], false⟩,
  ⟨6, (some 56), none, .mo (.ext (.tmp 50) 3), [], false⟩,
  ⟨7, (some 57), none, .mo (.ext (.tmp 50) 4), [], false⟩,
  ⟨8, (some 8), none, .mo (.alloc [.int .i64 0, .int .i64 0, .nilS]), [], false⟩,
  ⟨9, (some 11), none, .mo (.alloc [.int .u8 0, .int .u8 0, .int .u8 0, .int .u8 0, .int .u8 0, .int .u8 0, .int .u8 0, .int .u8 0, .int .u8 0, .int .u8 0, .int .u8 0, .int .u8 0, .int .u8 0, .int .u8 0, .int .u8 0, .int .u8 0, .int .u8 0, .int .u8 0, .int .u8 0, .int .u8 0, .int .u8 0, .int .u8 0, .int .u8 0, .int .u8 0, .int .u8 0, .int .u8 0, .int .u8 0, .int .u8 0, .int .u8 0, .int .u8 0, .int .u8 0, .int .u8 0]), [], false⟩,
  ⟨10, none, none, .mo (.st 3 (.tmp 8) (.tmp 53)), [], false⟩,
  ⟨11, (some 9), none, .mo (.mv (.tmp 54)), [], false⟩,
  ⟨12, (some 10), none, .mo (.mv (.tmp 55)), [], false⟩,
  ⟨13, none, none, .mo (.st 32 (.tmp 11) (.tmp 56)), [], false⟩,
  ⟨14, (some 12), none, .mo (.mv (.tmp 57)), [], false⟩])
  (.seq (.reg [⟨0, (some 59), none, .mo (.ldA 3 (.tmp 8)), [], false⟩,
  ⟨1, (some 60), none, .callF 14 [(.tmp 59), (.const (.int .i64 0))], [], false⟩,
  ⟨2, (some 58), none, .mo (.mv (.tmp 60)), [], false⟩,
  ⟨3, (some 61), none, .mo (.ext (.tmp 58) 0), [], false⟩,
  ⟨4, (some 62), none, .mo (.ext (.tmp 58) 1), [], false⟩,
  ⟨5, (some 63), none, .mo (.ext (.tmp 58) 2), [], false⟩,
  ⟨6, (some 64), none, .mo (.ext (.tmp 58) 3), [], false⟩,
  ⟨7, (some 65), none, .mo (.ext (.tmp 58) 4), [], false⟩,
  ⟨8, (some 13), none, .mo (.alloc [.int .i64 0, .int .i64 0, .nilS]), [], false⟩,
  ⟨9, (some 16), none, .mo (.alloc [.int .u8 0, .int .u8 0, .int .u8 0, .int .u8 0, .int .u8 0, .int .u8 0, .int .u8 0, .int .u8 0, .int .u8 0, .int .u8 0, .int .u8 0, .int .u8 0, .int .u8 0, .int .u8 0, .int .u8 0, .int .u8 0, .int .u8 0, .int .u8 0, .int .u8 0, .int .u8 0, .int .u8 0, .int .u8 0, .int .u8 0, .int .u8 0, .int .u8 0, .int .u8 0, .int .u8 0, .int .u8 0, .int .u8 0, .int .u8 0, .int .u8 0, .int .u8 0]), [], false⟩,
  ⟨10, none, none, .mo (.st 3 (.tmp 13) (.tmp 61)), [], false⟩,
  ⟨11, (some 14), none, .mo (.mv (.tmp 62)), [], false⟩,
  ⟨12, (some 15), none, .mo (.mv (.tmp 63)), [], false⟩,
  ⟨13, none, none, .mo (.st 32 (.tmp 16) (.tmp 64)), [], false⟩,
  ⟨14, (some 17), none, .mo (.mv (.tmp 65)), [], false⟩])
  (.seq (.reg [⟨0, (some 67), none, .mo (.ldA 3 (.tmp 13)), [], false⟩,
  ⟨1, (some 68), none, .callF 14 [(.tmp 67), (.const (.int .i64 0))], [], false⟩,
  ⟨2, (some 66), none, .mo (.mv (.tmp 68)), [], false⟩,
  ⟨3, (some 69), none, .mo (.ext (.tmp 66) 0), [], false⟩,
  ⟨4, (some 70), none, .mo (.ext (.tmp 66) 1), [], false⟩,
  ⟨5, (some 71), none, .mo (.ext (.tmp 66) 2), [], false⟩,
  ⟨6, (some 72), none, .mo (.ext (.tmp 66) 3), [], false⟩,
  ⟨7, (some 73), none, .mo (.ext (.tmp 66) 4), [], false⟩,
  ⟨8, (some 18), none, .mo (.alloc [.int .i64 0, .int .i64 0, .nilS]), [], false⟩,
  ⟨9, (some 21), none, .mo (.alloc [.int .u8 0, .int .u8 0, .int .u8 0, .int .u8 0, .int .u8 0, .int .u8 0, .int .u8 0, .int .u8 0, .int .u8 0, .int .u8 0, .int .u8 0, .int .u8 0, .int .u8 0, .int .u8 0, .int .u8 0, .int .u8 0, .int .u8 0, .int .u8 0, .int .u8 0, .int .u8 0, .int .u8 0, .int .u8 0, .int .u8 0, .int .u8 0, .int .u8 0, .int .u8 0, .int .u8 0, .int .u8 0, .int .u8 0, .int .u8 0, .int .u8 0, .int .u8 0]), [], false⟩,
  ⟨10, none, none, .mo (.st 3 (.tmp 18) (.tmp 69)), [], false⟩,
  ⟨11, (some 19), none, .mo (.mv (.tmp 70)), [], false⟩,
  ⟨12, (some 20), none, .mo (.mv (.tmp 71)), [], false⟩,
  ⟨13, none, none, .mo (.st 32 (.tmp 21) (.tmp 72)), [], false⟩,
  ⟨14, (some 22), none, .mo (.mv (.tmp 73)), [], false⟩])
  (.seq (.reg [⟨0, (some 75), none, .mo (.ldA 3 (.tmp 13)), [], false⟩,
  ⟨1, (some 76), none, .callF 12 [(.tmp 75), (.const (.int .i64 3))], [], false⟩,
  ⟨2, (some 74), none, .mo (.mv (.tmp 76)), [], false⟩,
  ⟨3, (some 77), none, .mo (.ext (.tmp 74) 0), [], false⟩,
  ⟨4, (some 78), none, .mo (.ext (.tmp 74) 1), [], false⟩,
  ⟨5, (some 79), none, .mo (.ext (.tmp 74) 2), [], false⟩,
  ⟨6, (some 23), none, .mo (.alloc [.int .i64 0, .int .i64 0, .nilS]), [], false⟩,
  ⟨7, none, none, .mo (.st 3 (.tmp 23) (.tmp 77)), [], false⟩,
  ⟨8, (some 24), none, .mo (.mv (.tmp 78)), [], false⟩,
  ⟨9, (some 25), none, .mo (.mv (.tmp 79)), [], false⟩])
  (.seq (.dreg [⟨0, (some 81), none, .mo (.ldA 3 (.tmp 23)), [], true⟩,
  ⟨6, (some 26), none, .mo (.alloc [.int .i64 0, .int .i64 0, .nilS]), [], true⟩,
  ⟨1, (some 82), none, .callF 11 [(.const (.int .i64 2)), (.const (.int .i64 4))], [6, 0], false⟩,
  ⟨2, (some 83), none, .callF 10 [(.tmp 81), (.tmp 82)], [6], false⟩,
  ⟨3, (some 80), none, .mo (.mv (.tmp 83)), [], false⟩,
  ⟨4, (some 84), none, .mo (.ext (.tmp 80) 0), [], false⟩,
  ⟨5, (some 85), none, .mo (.ext (.tmp 80) 1), [], false⟩,
  ⟨7, none, none, .mo (.st 3 (.tmp 26) (.tmp 84)), [], false⟩,
  ⟨8, (some 27), none, .mo (.mv (.tmp 85)), [], false⟩])
  (.seq (.reg [⟨0, (some 87), none, .mo (.ldA 3 (.tmp 26)), [], false⟩,
  ⟨1, (some 88), none, .callF 14 [(.tmp 87), (.const (.int .i64 1))], [], false⟩,
  ⟨2, (some 86), none, .mo (.mv (.tmp 88)), [], false⟩,
  ⟨3, (some 89), none, .mo (.ext (.tmp 86) 0), [], false⟩,
  ⟨4, (some 90), none, .mo (.ext (.tmp 86) 1), [], false⟩,
  ⟨5, (some 91), none, .mo (.ext (.tmp 86) 2), [], false⟩,
  ⟨6, (some 92), none, .mo (.ext (.tmp 86) 3), [], false⟩,
  ⟨7, (some 93), none, .mo (.ext (.tmp 86) 4), [], false⟩,
  ⟨8, (some 28), none, .mo (.alloc [.int .i64 0, .int .i64 0, .nilS]), [], false⟩,
  ⟨9, (some 31), none, .mo (.alloc [.int .u8 0, .int .u8 0, .int .u8 0, .int .u8 0, .int .u8 0, .int .u8 0, .int .u8 0, .int .u8 0, .int .u8 0, .int .u8 0, .int .u8 0, .int .u8 0, .int .u8 0, .int .u8 0, .int .u8 0, .int .u8 0, .int .u8 0, .int .u8 0, .int .u8 0, .int .u8 0, .int .u8 0, .int .u8 0, .int .u8 0, .int .u8 0, .int .u8 0, .int .u8 0, .int .u8 0, .int .u8 0, .int .u8 0, .int .u8 0, .int .u8 0, .int .u8 0]), [], false⟩,
  ⟨10, none, none, .mo (.st 3 (.tmp 28) (.tmp 89)), [], false⟩,
  ⟨11, (some 29), none, .mo (.mv (.tmp 90)), [], false⟩,
  ⟨12, (some 30), none, .mo (.mv (.tmp 91)), [], false⟩,
  ⟨13, none, none, .mo (.st 32 (.tmp 31) (.tmp 92)), [], false⟩,
  ⟨14, (some 32), none, .mo (.mv (.tmp 93)), [], false⟩])
  (.seq (.reg [⟨0, (some 94), none, .mo (.mv (.tmp 2)), [], false⟩,
  ⟨1, (some 95), none, .mo (.bin .eql 27 (.tmp 94) (.const (.int .i64 0))), [], false⟩,
  ⟨2, (some 96), none, .mo (.mv (.tmp 95)), [], false⟩,
  ⟨3, (some 97), (some ((some 96), true)), .mo (.mv (.tmp 5)), [], false⟩,
  ⟨4, (some 98), (some ((some 96), true)), .mo (.bin .eql 27 (.tmp 97) (.const (.int .i64 0))), [], false⟩,
  ⟨5, (some 99), none, .mo (.pick (.tmp 96) (.tmp 98) (.const (.bool false))), [], false⟩,
  ⟨6, (some 100), none, .mo (.mv (.tmp 99)), [], false⟩,
  ⟨7, (some 101), (some ((some 100), true)), .mo (.mv (.tmp 7)), [], false⟩,
  ⟨8, (some 102), (some ((some 100), true)), .mo (.bin .eql 27 (.tmp 101) (.const (.int .i64 0))), [], false⟩,
  ⟨9, (some 103), none, .mo (.pick (.tmp 100) (.tmp 102) (.const (.bool false))), [], false⟩,
  ⟨10, (some 104), none, .mo (.mv (.tmp 103)), [], false⟩,
  ⟨11, (some 105), (some ((some 104), true)), .mo (.mv (.tmp 12)), [], false⟩,
  ⟨12, (some 106), (some ((some 104), true)), .mo (.bin .eql 27 (.tmp 105) (.const (.int .i64 0))), [], false⟩,
  ⟨13, (some 107), none, .mo (.pick (.tmp 104) (.tmp 106) (.const (.bool false))), [], false⟩,
  ⟨14, (some 108), none, .mo (.mv (.tmp 107)), [], false⟩,
  ⟨15, (some 109), (some ((some 108), true)), .mo (.mv (.tmp 17)), [], false⟩,
  ⟨16, (some 110), (some ((some 108), true)), .mo (.bin .eql 27 (.tmp 109) (.const (.int .i64 0))), [], false⟩,
  ⟨17, (some 111), none, .mo (.pick (.tmp 108) (.tmp 110) (.const (.bool false))), [], false⟩,
  ⟨18, (some 112), none, .mo (.mv (.tmp 111)), [], false⟩,
  ⟨19, (some 113), (some ((some 112), true)), .mo (.mv (.tmp 22)), [], false⟩,
  ⟨20, (some 114), (some ((some 112), true)), .mo (.bin .eql 27 (.tmp 113) (.const (.int .i64 34))), [], false⟩,
  ⟨21, (some 115), none, .mo (.pick (.tmp 112) (.tmp 114) (.const (.bool false))), [], false⟩,
  ⟨22, (some 116), none, .mo (.mv (.tmp 115)), [], false⟩,
  ⟨23, (some 117), (some ((some 116), true)), .mo (.mv (.tmp 25)), [], false⟩,
  ⟨24, (some 118), (some ((some 116), true)), .mo (.bin .eql 27 (.tmp 117) (.const (.int .i64 0))), [], false⟩,
  ⟨25, (some 119), none, .mo (.pick (.tmp 116) (.tmp 118) (.const (.bool false))), [], false⟩,
  ⟨26, (some 120), none, .mo (.mv (.tmp 119)), [], false⟩,
  ⟨27, (some 121), (some ((some 120), true)), .mo (.mv (.tmp 27)), [], false⟩,
  ⟨28, (some 122), (some ((some 120), true)), .mo (.bin .eql 27 (.tmp 121) (.const (.int .i64 0))), [], false⟩,
  ⟨29, (some 123), none, .mo (.pick (.tmp 120) (.tmp 122) (.const (.bool false))), [], false⟩,
  ⟨30, (some 124), none, .mo (.mv (.tmp 123)), [], false⟩,
  ⟨31, (some 125), (some ((some 124), true)), .mo (.mv (.tmp 32)), [], false⟩,
  ⟨32, (some 126), (some ((some 124), true)), .mo (.bin .eql 27 (.tmp 125) (.const (.int .i64 0))), [], false⟩,
  ⟨33, (some 127), none, .mo (.pick (.tmp 124) (.tmp 126) (.const (.bool false))), [], false⟩,
  ⟨34, (some 33), none, .mo (.mv (.tmp 127)), [], false⟩])
  (.seq (.dreg [⟨0, (some 128), none, .mo (.mv (.tmp 33)), [], false⟩,
  ⟨1, (some 129), none, .mo (.mv (.tmp 128)), [], false⟩,
  ⟨2, (some 130), (some ((some 129), true)), .mo (.mv (.tmp 4)), [], false⟩,
  ⟨3, (some 131), (some ((some 129), true)), .mo (.bin .eql 3 (.tmp 130) (.const (.int .i64 0))), [], false⟩,
  ⟨4, (some 132), none, .mo (.pick (.tmp 129) (.tmp 131) (.const (.bool false))), [], false⟩,
  ⟨5, (some 133), none, .mo (.mv (.tmp 132)), [], false⟩,
  ⟨6, (some 134), (some ((some 133), true)), .mo (.mv (.tmp 9)), [], false⟩,
  ⟨7, (some 135), (some ((some 133), true)), .mo (.bin .eql 5 (.tmp 134) (.const (.int .u8 1))), [], false⟩,
  ⟨8, (some 136), none, .mo (.pick (.tmp 133) (.tmp 135) (.const (.bool false))), [], false⟩,
  ⟨9, (some 137), none, .mo (.mv (.tmp 136)), [], false⟩,
  ⟨10, (some 138), (some ((some 137), true)), .mo (.mv (.tmp 10)), [], false⟩,
  ⟨11, (some 139), (some ((some 137), true)), .mo (.bin .eql 3 (.tmp 138) (.const (.int .i64 0))), [], false⟩,
  ⟨12, (some 140), none, .mo (.pick (.tmp 137) (.tmp 139) (.const (.bool false))), [], false⟩,
  ⟨13, (some 141), none, .mo (.mv (.tmp 140)), [], false⟩,
  ⟨14, (some 142), (some ((some 141), true)), .mo (.ldA 32 (.tmp 11)), [], true⟩,
  ⟨15, (some 143), (some ((some 141), true)), .callF 15 [(.const (.int .i64 0))], [14], false⟩,
  ⟨16, (some 144), (some ((some 141), true)), .mo (.bin .eql 37 (.tmp 142) (.tmp 143)), [], false⟩,
  ⟨17, (some 145), none, .mo (.pick (.tmp 141) (.tmp 144) (.const (.bool false))), [], false⟩,
  ⟨18, (some 146), none, .mo (.mv (.tmp 145)), [], false⟩,
  ⟨19, (some 147), (some ((some 146), true)), .mo (.mv (.tmp 14)), [], false⟩,
  ⟨20, (some 148), (some ((some 146), true)), .mo (.bin .eql 5 (.tmp 147) (.const (.int .u8 2))), [], false⟩,
  ⟨21, (some 149), none, .mo (.pick (.tmp 146) (.tmp 148) (.const (.bool false))), [], false⟩,
  ⟨22, (some 150), none, .mo (.mv (.tmp 149)), [], false⟩,
  ⟨23, (some 151), (some ((some 150), true)), .mo (.mv (.tmp 15)), [], false⟩,
  ⟨24, (some 152), (some ((some 150), true)), .mo (.bin .eql 3 (.tmp 151) (.const (.int .i64 1))), [], false⟩,
  ⟨25, (some 153), none, .mo (.pick (.tmp 150) (.tmp 152) (.const (.bool false))), [], false⟩,
  ⟨26, (some 154), none, .mo (.mv (.tmp 153)), [], false⟩,
  ⟨27, (some 155), (some ((some 154), true)), .mo (.ldA 32 (.tmp 16)), [], false⟩,
  ⟨28, (some 156), (some ((some 154), true)), .mo (.bld [.int .u8 0, .int .u8 0, .int .u8 0, .int .u8 0, .int .u8 0, .int .u8 0, .int .u8 0, .int .u8 0, .int .u8 0, .int .u8 0, .int .u8 0, .int .u8 0, .int .u8 0, .int .u8 0, .int .u8 0, .int .u8 0, .int .u8 0, .int .u8 0, .int .u8 0, .int .u8 0, .int .u8 0, .int .u8 0, .int .u8 0, .int .u8 0, .int .u8 0, .int .u8 0, .int .u8 0, .int .u8 0, .int .u8 0, .int .u8 0, .int .u8 0, .int .u8 0] []), [], false⟩,
  ⟨29, (some 157), (some ((some 154), true)), .mo (.bin .eql 37 (.tmp 155) (.tmp 156)), [], false⟩,
  ⟨30, (some 158), none, .mo (.pick (.tmp 154) (.tmp 157) (.const (.bool false))), [], false⟩,
  ⟨31, (some 159), none, .mo (.mv (.tmp 158)), [], false⟩,
  ⟨32, (some 160), (some ((some 159), true)), .mo (.mv (.tmp 24)), [], false⟩,
  ⟨33, (some 161), (some ((some 159), true)), .mo (.bin .eql 3 (.tmp 160) (.const (.int .i64 1))), [], false⟩,
  ⟨34, (some 162), none, .mo (.pick (.tmp 159) (.tmp 161) (.const (.bool false))), [], false⟩,
  ⟨35, (some 163), none, .mo (.mv (.tmp 162)), [], false⟩,
  ⟨36, (some 164), (some ((some 163), true)), .mo (.mv (.tmp 29)), [], false⟩,
  ⟨37, (some 165), (some ((some 163), true)), .mo (.bin .eql 5 (.tmp 164) (.const (.int .u8 1))), [], false⟩,
  ⟨38, (some 166), none, .mo (.pick (.tmp 163) (.tmp 165) (.const (.bool false))), [], false⟩,
  ⟨39, (some 167), none, .mo (.mv (.tmp 166)), [], false⟩,
  ⟨40, (some 168), (some ((some 167), true)), .mo (.mv (.tmp 30)), [], false⟩,
  ⟨41, (some 169), (some ((some 167), true)), .mo (.bin .eql 3 (.tmp 168) (.const (.int .i64 3))), [], false⟩,
  ⟨42, (some 170), none, .mo (.pick (.tmp 167) (.tmp 169) (.const (.bool false))), [], false⟩,
  ⟨43, (some 171), none, .mo (.mv (.tmp 170)), [], false⟩,
  ⟨44, (some 172), (some ((some 171), true)), .mo (.ldA 32 (.tmp 31)), [], true⟩,
  ⟨45, (some 173), (some ((some 171), true)), .callF 15 [(.const (.int .i64 3))], [44], false⟩,
  ⟨46, (some 174), (some ((some 171), true)), .mo (.bin .eql 37 (.tmp 172) (.tmp 173)), [], false⟩,
  ⟨47, (some 175), none, .mo (.pick (.tmp 171) (.tmp 174) (.const (.bool false))), [], false⟩,
  ⟨48, (some 0), none, .mo (.mv (.tmp 175)), [], false⟩])
  .ret))))))))))))
def r8 : List Mo := [.mv (.tmp 0)]
theorem c8_eq : compF Try.prog 8 = some c8 := by kernel_rfl
theorem r8_eq : compRs Try.prog 8 = some r8 := by kernel_rfl
/-! F9 braid/feed.New -/
def c9 : Cd := (.seq (.reg [⟨0, (some 2), none, .mo (.alloc [.int .i64 0, .int .i64 0, .nilS]), [], false⟩,
  ⟨1, (some 3), none, .mo (.mv (.const (.int .i64 0))), [], false⟩])
  (.seq (.seq (.reg [⟨0, (some 4), none, .mo (.mv (.tmp 0)), [], false⟩,
  ⟨1, (some 5), none, .mo (.bin .lss 3 (.tmp 4) (.const (.int .i64 1))), [], false⟩,
  ⟨2, (some 6), none, .mo (.mv (.tmp 5)), [], false⟩,
  ⟨3, (some 7), (some ((some 6), false)), .mo (.mv (.tmp 0)), [], false⟩,
  ⟨4, (some 8), (some ((some 6), false)), .mo (.bin .gtr 3 (.tmp 7) (.const (.int .i64 8))), [], false⟩,
  ⟨5, (some 9), none, .mo (.pick (.tmp 6) (.const (.bool true)) (.tmp 8)), [], false⟩])
  (.cond (.tmp 9) (.seq (.reg [⟨0, (some 10), none, .mo (.bld [.int .i64 0, .int .i64 0, .nilS] []), [], false⟩,
  ⟨1, none, none, .mo (.st 3 (.tmp 2) (.tmp 10)), [], false⟩,
  ⟨2, (some 3), none, .mo (.mv (.const (.int .i64 2))), [], false⟩])
  .ret) .skip))
  (.seq (.reg [⟨0, (some 11), none, .mo (.mv (.tmp 0)), [], false⟩,
  ⟨1, (some 12), none, .mo (.bld [.int .i64 0, .int .i64 0, .nilS] [(0, 1, (.tmp 11))]), [], false⟩,
  ⟨2, none, none, .mo (.st 3 (.tmp 2) (.tmp 12)), [], false⟩,
  ⟨3, (some 3), none, .mo (.mv (.const (.int .i64 0))), [], false⟩])
  .ret)))
def r9 : List Mo := [.ldA 3 (.tmp 2), .mv (.tmp 3)]
theorem c9_eq : compF Try.prog 9 = some c9 := by kernel_rfl
theorem r9_eq : compRs Try.prog 9 = some r9 := by kernel_rfl
/-! F10 braid/feed.Publish -/
def l10_0 : Cd := (.seq (.reg [⟨0, (some 42), none, .mo (.bin .lss 3 (.tmp 41) (.tmp 40)), [], false⟩])
  (.seq (.cond (.tmp 42) .skip (.exit 2))
  (.seq (.block 3 (.seq (.reg [⟨0, (some 43), none, .mo (.mv (.tmp 41)), [], false⟩,
  ⟨1, (some 10), none, .mo (.mv (.tmp 43)), [], false⟩])
  (.seq (.reg [⟨0, (some 44), none, .mo (.fa 2 (.tmp 7)), [], false⟩,
  ⟨1, (some 45), none, .mo (.ld1 (.tmp 44)), [], false⟩,
  ⟨2, (some 46), none, .mo (.mv (.tmp 10)), [], false⟩,
  ⟨3, (some 47), none, .mo (.ia (.sl 4) (.tmp 45) (.tmp 46)), [], false⟩,
  ⟨4, (some 11), none, .mo (.mv (.tmp 47)), [], false⟩])
  (.block 4 (.seq (.reg [⟨0, (some 59), none, .mo (.mv (.tmp 11)), [], false⟩,
  ⟨1, (some 60), none, .mo (.nilc (.tmp 59)), [], false⟩,
  ⟨2, (some 61), none, .mo (.fa 3 (.tmp 60)), [], false⟩,
  ⟨3, (some 62), none, .mo (.ld1 (.tmp 61)), [], false⟩,
  ⟨4, (some 63), none, .mo (.mv (.tmp 62)), [], false⟩,
  ⟨5, (some 64), (some ((some 63), false)), .mo (.mv (.tmp 11)), [], false⟩,
  ⟨6, (some 65), (some ((some 63), false)), .mo (.nilc (.tmp 64)), [], false⟩,
  ⟨7, (some 66), (some ((some 63), false)), .mo (.fa 2 (.tmp 65)), [], false⟩,
  ⟨8, (some 67), (some ((some 63), false)), .mo (.ld1 (.tmp 66)), [], false⟩,
  ⟨9, (some 68), none, .mo (.pick (.tmp 63) (.const (.bool true)) (.tmp 67)), [], false⟩,
  ⟨10, (some 69), none, .mo (.mv (.tmp 68)), [], false⟩,
  ⟨11, (some 70), (some ((some 69), false)), .mo (.mv (.tmp 11)), [], false⟩,
  ⟨12, (some 71), (some ((some 69), false)), .mo (.nilc (.tmp 70)), [], false⟩,
  ⟨13, (some 72), (some ((some 69), false)), .mo (.fa 0 (.tmp 71)), [], false⟩,
  ⟨14, (some 73), (some ((some 69), false)), .mo (.ld1 (.tmp 72)), [], false⟩,
  ⟨15, (some 74), (some ((some 69), false)), .mo (.fa 1 (.tmp 7)), [], false⟩,
  ⟨16, (some 75), (some ((some 69), false)), .mo (.ld1 (.tmp 74)), [], false⟩,
  ⟨17, (some 76), (some ((some 69), false)), .mo (.bin .gtr 3 (.tmp 73) (.tmp 75)), [], false⟩,
  ⟨18, (some 77), none, .mo (.pick (.tmp 69) (.const (.bool true)) (.tmp 76)), [], false⟩,
  ⟨19, (some 58), none, .mo (.mv (.tmp 77)), [], false⟩])
  (.cond (.tmp 58) (.exit 3) (.seq (.reg [⟨0, (some 79), none, .mo (.mv (.tmp 11)), [], false⟩,
  ⟨1, (some 80), none, .mo (.nilc (.tmp 79)), [], false⟩,
  ⟨2, (some 81), none, .mo (.fa 1 (.tmp 80)), [], false⟩,
  ⟨3, (some 82), none, .mo (.ld1 (.tmp 81)), [], false⟩,
  ⟨4, (some 83), none, .mo (.len (.sl 32) (.tmp 82)), [], false⟩,
  ⟨5, (some 84), none, .mo (.fa 0 (.tmp 7)), [], false⟩,
  ⟨6, (some 85), none, .mo (.ld1 (.tmp 84)), [], false⟩,
  ⟨7, (some 86), none, .mo (.bin .eql 3 (.tmp 83) (.tmp 85)), [], false⟩,
  ⟨8, (some 78), none, .mo (.mv (.tmp 86)), [], false⟩])
  (.cond (.tmp 78) (.reg [⟨0, (some 87), none, .mo (.mv (.tmp 11)), [], false⟩,
  ⟨1, (some 88), none, .mo (.nilc (.tmp 87)), [], false⟩,
  ⟨2, (some 89), none, .mo (.fa 2 (.tmp 88)), [], false⟩,
  ⟨3, none, none, .mo (.st 1 (.tmp 89) (.const (.bool true))), [], false⟩]) (.reg [⟨0, (some 48), none, .mo (.mv (.tmp 11)), [], false⟩,
  ⟨1, (some 49), none, .mo (.mv (.tmp 11)), [], false⟩,
  ⟨2, (some 50), none, .mo (.nilc (.tmp 49)), [], false⟩,
  ⟨3, (some 51), none, .mo (.fa 1 (.tmp 50)), [], false⟩,
  ⟨4, (some 52), none, .mo (.ld1 (.tmp 51)), [], false⟩,
  ⟨5, (some 53), none, .mo (.ldA 32 (.tmp 9)), [], false⟩,
  ⟨6, (some 54), none, .mo (.bsl 32 [.int .u8 0, .int .u8 0, .int .u8 0, .int .u8 0, .int .u8 0, .int .u8 0, .int .u8 0, .int .u8 0, .int .u8 0, .int .u8 0, .int .u8 0, .int .u8 0, .int .u8 0, .int .u8 0, .int .u8 0, .int .u8 0, .int .u8 0, .int .u8 0, .int .u8 0, .int .u8 0, .int .u8 0, .int .u8 0, .int .u8 0, .int .u8 0, .int .u8 0, .int .u8 0, .int .u8 0, .int .u8 0, .int .u8 0, .int .u8 0, .int .u8 0, .int .u8 0] 1 [(0, (.tmp 53))]), [], false⟩,
  ⟨7, (some 55), none, .mo (.app 32 32 (.tmp 52) (.tmp 54)), [], false⟩,
  ⟨8, (some 56), none, .mo (.nilc (.tmp 48)), [], false⟩,
  ⟨9, (some 57), none, .mo (.fa 1 (.tmp 56)), [], false⟩,
  ⟨10, none, none, .mo (.st 1 (.tmp 57) (.tmp 55)), [], false⟩])))))))))
  (.reg [⟨0, (some 90), none, .mo (.bin .add 3 (.tmp 41) (.const (.int .i64 1))), [], false⟩,
  ⟨1, (some 41), none, .mo (.mv (.tmp 90)), [], false⟩]))))
def l10_1 : Cd := (.seq (.reg [⟨0, (some 35), none, .mo (.bin .lss 3 (.tmp 34) (.tmp 33)), [], false⟩])
  (.seq (.cond (.tmp 35) .skip (.exit 0))
  (.seq (.block 1 (.seq (.reg [⟨0, (some 36), none, .mo (.ia (.sl 32) (.tmp 32) (.tmp 34)), [], false⟩,
  ⟨1, (some 37), none, .mo (.ldA 32 (.tmp 36)), [], false⟩,
  ⟨2, (some 9), none, .mo (.alloc [.int .u8 0, .int .u8 0, .int .u8 0, .int .u8 0, .int .u8 0, .int .u8 0, .int .u8 0, .int .u8 0, .int .u8 0, .int .u8 0, .int .u8 0, .int .u8 0, .int .u8 0, .int .u8 0, .int .u8 0, .int .u8 0, .int .u8 0, .int .u8 0, .int .u8 0, .int .u8 0, .int .u8 0, .int .u8 0, .int .u8 0, .int .u8 0, .int .u8 0, .int .u8 0, .int .u8 0, .int .u8 0, .int .u8 0, .int .u8 0, .int .u8 0, .int .u8 0]), [], false⟩,
  ⟨3, none, none, .mo (.st 32 (.tmp 9) (.tmp 37)), [], false⟩])
  (.seq (.seq (.reg [⟨0, (some 38), none, .mo (.fa 2 (.tmp 7)), [], false⟩,
  ⟨1, (some 39), none, .mo (.ld1 (.tmp 38)), [], false⟩,
  ⟨2, (some 40), none, .mo (.len (.sl 4) (.tmp 39)), [], false⟩,
  ⟨3, (some 41), none, .mo (.mv (.const (.int .i64 0))), [], false⟩])
  (.block 2 (.loop l10_0)))
  (.reg [⟨0, (some 91), none, .mo (.fa 1 (.tmp 7)), [], false⟩,
  ⟨1, (some 92), none, .mo (.ld1 (.tmp 91)), [], false⟩,
  ⟨2, (some 93), none, .mo (.bin .add 3 (.tmp 92) (.const (.int .i64 1))), [], false⟩,
  ⟨3, (some 94), none, .mo (.fa 1 (.tmp 7)), [], false⟩,
  ⟨4, none, none, .mo (.st 1 (.tmp 94) (.tmp 93)), [], false⟩]))))
  (.reg [⟨0, (some 95), none, .mo (.bin .add 3 (.tmp 34) (.const (.int .i64 1))), [], false⟩,
  ⟨1, (some 34), none, .mo (.mv (.tmp 95)), [], false⟩]))))
def c10 : Cd := (.seq (.reg [⟨0, (some 2), none, .mo (.box (.tmp 0)), [], false⟩,
  ⟨1, (some 4), none, .mo (.alloc [.int .i64 0, .int .i64 0, .nilS]), [], false⟩,
  ⟨2, (some 5), none, .mo (.mv (.const (.int .i64 0))), [], false⟩])
  (.seq (.seq (.reg [⟨0, (some 12), none, .mo (.ldA 3 (.tmp 2)), [], false⟩,
  ⟨1, (some 13), none, .callF 25 [(.tmp 12)], [], false⟩,
  ⟨2, (some 6), none, .mo (.mv (.tmp 13)), [], false⟩])
  (.seq (.reg [⟨0, (some 14), none, .mo (.mv (.tmp 6)), [], false⟩,
  ⟨1, (some 15), none, .mo (.bin .neq 27 (.tmp 14) (.const (.int .i64 0))), [], false⟩])
  (.cond (.tmp 15) (.seq (.reg [⟨0, (some 16), none, .mo (.bld [.int .i64 0, .int .i64 0, .nilS] []), [], false⟩,
  ⟨1, (some 17), none, .mo (.mv (.tmp 6)), [], false⟩,
  ⟨2, none, none, .mo (.st 3 (.tmp 4) (.tmp 16)), [], false⟩,
  ⟨3, (some 5), none, .mo (.mv (.tmp 17)), [], false⟩])
  .ret) .skip)))
  (.seq (.seq (.reg [⟨0, (some 18), none, .mo (.mv (.tmp 1)), [], false⟩,
  ⟨1, (some 19), none, .mo (.len (.sl 32) (.tmp 18)), [], false⟩,
  ⟨2, (some 20), none, .mo (.bin .gtr 3 (.tmp 19) (.const (.int .i64 60))), [], false⟩,
  ⟨3, (some 21), none, .mo (.mv (.tmp 20)), [], false⟩,
  ⟨4, (some 22), (some ((some 21), false)), .mo (.fa 1 (.tmp 2)), [], false⟩,
  ⟨5, (some 23), (some ((some 21), false)), .mo (.ld1 (.tmp 22)), [], false⟩,
  ⟨6, (some 24), (some ((some 21), false)), .mo (.mv (.tmp 1)), [], false⟩,
  ⟨7, (some 25), (some ((some 21), false)), .mo (.len (.sl 32) (.tmp 24)), [], false⟩,
  ⟨8, (some 26), (some ((some 21), false)), .mo (.bin .sub 3 (.const (.int .i64 1000000000)) (.tmp 25)), [], false⟩,
  ⟨9, (some 27), (some ((some 21), false)), .mo (.bin .gtr 3 (.tmp 23) (.tmp 26)), [], false⟩,
  ⟨10, (some 28), none, .mo (.pick (.tmp 21) (.const (.bool true)) (.tmp 27)), [], false⟩])
  (.cond (.tmp 28) (.seq (.reg [⟨0, (some 29), none, .mo (.bld [.int .i64 0, .int .i64 0, .nilS] []), [], false⟩,
  ⟨1, none, none, .mo (.st 3 (.tmp 4) (.tmp 29)), [], false⟩,
  ⟨2, (some 5), none, .mo (.mv (.const (.int .i64 4))), [], false⟩])
  .ret) .skip))
  (.seq (.reg [⟨0, (some 30), none, .mo (.ldA 3 (.tmp 2)), [], false⟩,
  ⟨1, (some 31), none, .callF 27 [(.tmp 30)], [], false⟩,
  ⟨2, (some 7), none, .mo (.alloc [.int .i64 0, .int .i64 0, .nilS]), [], false⟩,
  ⟨3, none, none, .mo (.st 3 (.tmp 7) (.tmp 31)), [], false⟩])
  (.seq (.seq (.reg [⟨0, (some 32), none, .mo (.mv (.tmp 1)), [], false⟩,
  ⟨1, (some 33), none, .mo (.len (.sl 32) (.tmp 32)), [], false⟩,
  ⟨2, (some 34), none, .mo (.mv (.const (.int .i64 0))), [], false⟩])
  (.block 0 (.loop l10_1)))
  (.seq (.reg [⟨0, (some 96), none, .mo (.ldA 3 (.tmp 7)), [], false⟩,
  ⟨1, none, none, .mo (.st 3 (.tmp 4) (.tmp 96)), [], false⟩,
  ⟨2, (some 5), none, .mo (.mv (.const (.int .i64 0))), [], false⟩])
  .ret))))))
def r10 : List Mo := [.ldA 3 (.tmp 4), .mv (.tmp 5)]
theorem c10_eq : compF Try.prog 10 = some c10 := by kernel_rfl
theorem r10_eq : compRs Try.prog 10 = some r10 := by kernel_rfl
/-! F11 braid/braidlaw20.ids -/
def l11_0 : Cd := (.seq (.seq (.reg [⟨0, (some 8), none, .mo (.mv (.tmp 6)), [], false⟩,
  ⟨1, (some 9), none, .mo (.mv (.tmp 1)), [], false⟩,
  ⟨2, (some 10), none, .mo (.bin .lss 3 (.tmp 8) (.tmp 9)), [], false⟩])
  (.cond (.tmp 10) .skip (.exit 0)))
  (.seq (.block 1 (.reg [⟨0, (some 13), none, .mo (.mv (.tmp 5)), [], false⟩,
  ⟨1, (some 14), none, .mo (.mv (.tmp 6)), [], false⟩,
  ⟨2, (some 15), none, .callF 15 [(.tmp 14)], [], false⟩,
  ⟨3, (some 16), none, .mo (.bsl 32 [.int .u8 0, .int .u8 0, .int .u8 0, .int .u8 0, .int .u8 0, .int .u8 0, .int .u8 0, .int .u8 0, .int .u8 0, .int .u8 0, .int .u8 0, .int .u8 0, .int .u8 0, .int .u8 0, .int .u8 0, .int .u8 0, .int .u8 0, .int .u8 0, .int .u8 0, .int .u8 0, .int .u8 0, .int .u8 0, .int .u8 0, .int .u8 0, .int .u8 0, .int .u8 0, .int .u8 0, .int .u8 0, .int .u8 0, .int .u8 0, .int .u8 0, .int .u8 0] 1 [(0, (.tmp 15))]), [], false⟩,
  ⟨4, (some 17), none, .mo (.app 32 32 (.tmp 13) (.tmp 16)), [], false⟩,
  ⟨5, (some 5), none, .mo (.mv (.tmp 17)), [], false⟩]))
  (.reg [⟨0, (some 11), none, .mo (.mv (.tmp 6)), [], false⟩,
  ⟨1, (some 12), none, .mo (.bin .add 3 (.tmp 11) (.const (.int .i64 1))), [], false⟩,
  ⟨2, (some 6), none, .mo (.mv (.tmp 12)), [], false⟩])))
def c11 : Cd := (.seq (.reg [⟨0, (some 4), none, .mo (.mv (.const (.slice none 0 0))), [], false⟩])
  (.seq (.reg [⟨0, (some 5), none, .mo (.mv (.const (.slice none 0 0))), [], false⟩])
  (.seq (.seq (.reg [⟨0, (some 7), none, .mo (.mv (.tmp 0)), [], false⟩,
  ⟨1, (some 6), none, .mo (.mv (.tmp 7)), [], false⟩])
  (.block 0 (.loop l11_0)))
  (.seq (.reg [⟨0, (some 18), none, .mo (.mv (.tmp 5)), [], false⟩,
  ⟨1, (some 4), none, .mo (.mv (.tmp 18)), [], false⟩])
  .ret))))
def r11 : List Mo := [.mv (.tmp 4)]
theorem c11_eq : compF Try.prog 11 = some c11 := by kernel_rfl
theorem r11_eq : compRs Try.prog 11 = some r11 := by kernel_rfl
/-! F12 braid/feed.Subscribe -/
def c12 : Cd := (.seq (.reg [⟨0, (some 2), none, .mo (.box (.tmp 0)), [], false⟩,
  ⟨1, (some 4), none, .mo (.alloc [.int .i64 0, .int .i64 0, .nilS]), [], false⟩,
  ⟨2, (some 5), none, .mo (.mv (.const (.int .i64 0))), [], false⟩,
  ⟨3, (some 6), none, .mo (.mv (.const (.int .i64 0))), [], false⟩])
  (.seq (.seq (.reg [⟨0, (some 9), none, .mo (.ldA 3 (.tmp 2)), [], false⟩,
  ⟨1, (some 10), none, .callF 25 [(.tmp 9)], [], false⟩,
  ⟨2, (some 7), none, .mo (.mv (.tmp 10)), [], false⟩])
  (.seq (.reg [⟨0, (some 11), none, .mo (.mv (.tmp 7)), [], false⟩,
  ⟨1, (some 12), none, .mo (.bin .neq 27 (.tmp 11) (.const (.int .i64 0))), [], false⟩])
  (.cond (.tmp 12) (.seq (.reg [⟨0, (some 13), none, .mo (.bld [.int .i64 0, .int .i64 0, .nilS] []), [], false⟩,
  ⟨1, (some 14), none, .mo (.mv (.tmp 7)), [], false⟩,
  ⟨2, none, none, .mo (.st 3 (.tmp 4) (.tmp 13)), [], false⟩,
  ⟨3, (some 5), none, .mo (.mv (.const (.int .i64 0))), [], false⟩,
  ⟨4, (some 6), none, .mo (.mv (.tmp 14)), [], false⟩])
  .ret) .skip)))
  (.seq (.seq (.reg [⟨0, (some 15), none, .mo (.mv (.tmp 1)), [], false⟩,
  ⟨1, (some 16), none, .mo (.fa 1 (.tmp 2)), [], false⟩,
  ⟨2, (some 17), none, .mo (.ld1 (.tmp 16)), [], false⟩,
  ⟨3, (some 18), none, .mo (.bin .lss 3 (.tmp 15) (.tmp 17)), [], false⟩,
  ⟨4, (some 19), none, .mo (.mv (.tmp 18)), [], false⟩,
  ⟨5, (some 20), (some ((some 19), false)), .mo (.mv (.tmp 1)), [], false⟩,
  ⟨6, (some 21), (some ((some 19), false)), .mo (.bin .gtr 3 (.tmp 20) (.const (.int .i64 1000000000))), [], false⟩,
  ⟨7, (some 22), none, .mo (.pick (.tmp 19) (.const (.bool true)) (.tmp 21)), [], false⟩])
  (.cond (.tmp 22) (.seq (.reg [⟨0, (some 23), none, .mo (.bld [.int .i64 0, .int .i64 0, .nilS] []), [], false⟩,
  ⟨1, none, none, .mo (.st 3 (.tmp 4) (.tmp 23)), [], false⟩,
  ⟨2, (some 5), none, .mo (.mv (.const (.int .i64 0))), [], false⟩,
  ⟨3, (some 6), none, .mo (.mv (.const (.int .i64 2))), [], false⟩])
  .ret) .skip))
  (.seq (.seq (.reg [⟨0, (some 24), none, .mo (.fa 2 (.tmp 2)), [], false⟩,
  ⟨1, (some 25), none, .mo (.ld1 (.tmp 24)), [], false⟩,
  ⟨2, (some 26), none, .mo (.len (.sl 4) (.tmp 25)), [], false⟩,
  ⟨3, (some 27), none, .mo (.bin .eql 3 (.tmp 26) (.const (.int .i64 60))), [], false⟩,
  ⟨4, (some 28), none, .mo (.mv (.tmp 27)), [], false⟩,
  ⟨5, (some 29), (some ((some 28), false)), .mo (.ldA 3 (.tmp 2)), [], false⟩,
  ⟨6, (some 30), (some ((some 28), false)), .callF 28 [(.tmp 29)], [], false⟩,
  ⟨7, (some 31), (some ((some 28), false)), .mo (.bin .eql 3 (.tmp 30) (.const (.int .i64 4))), [], false⟩,
  ⟨8, (some 32), none, .mo (.pick (.tmp 28) (.const (.bool true)) (.tmp 31)), [], false⟩])
  (.cond (.tmp 32) (.seq (.reg [⟨0, (some 33), none, .mo (.bld [.int .i64 0, .int .i64 0, .nilS] []), [], false⟩,
  ⟨1, none, none, .mo (.st 3 (.tmp 4) (.tmp 33)), [], false⟩,
  ⟨2, (some 5), none, .mo (.mv (.const (.int .i64 0))), [], false⟩,
  ⟨3, (some 6), none, .mo (.mv (.const (.int .i64 18))), [], false⟩])
  .ret) .skip))
  (.seq (.reg [⟨0, (some 34), none, .mo (.ldA 3 (.tmp 2)), [], false⟩,
  ⟨1, (some 35), none, .callF 27 [(.tmp 34)], [], false⟩,
  ⟨2, (some 8), none, .mo (.alloc [.int .i64 0, .int .i64 0, .nilS]), [], false⟩,
  ⟨3, none, none, .mo (.st 3 (.tmp 8) (.tmp 35)), [], false⟩])
  (.seq (.reg [⟨0, (some 36), none, .mo (.fa 2 (.tmp 8)), [], false⟩,
  ⟨1, (some 37), none, .mo (.ld1 (.tmp 36)), [], false⟩,
  ⟨2, (some 38), none, .mo (.mv (.tmp 1)), [], false⟩,
  ⟨3, (some 39), none, .mo (.bld [.int .i64 0, .nilS, .bool false, .bool false] [(0, 1, (.tmp 38))]), [], false⟩,
  ⟨4, (some 40), none, .mo (.bsl 4 [.int .i64 0, .nilS, .bool false, .bool false] 1 [(0, (.tmp 39))]), [], false⟩,
  ⟨5, (some 41), none, .mo (.app 4 40 (.tmp 37) (.tmp 40)), [], false⟩,
  ⟨6, (some 42), none, .mo (.fa 2 (.tmp 8)), [], false⟩,
  ⟨7, none, none, .mo (.st 1 (.tmp 42) (.tmp 41)), [], false⟩])
  (.seq (.dreg [⟨0, (some 43), none, .mo (.ldA 3 (.tmp 8)), [], false⟩,
  ⟨1, (some 44), none, .mo (.fa 2 (.tmp 2)), [], false⟩,
  ⟨2, (some 45), none, .mo (.ld1 (.tmp 44)), [], true⟩,
  ⟨3, (some 46), none, .mo (.len (.sl 4) (.tmp 45)), [], false⟩,
  ⟨4, none, none, .mo (.st 3 (.tmp 4) (.tmp 43)), [2], false⟩,
  ⟨5, (some 5), none, .mo (.mv (.tmp 46)), [], false⟩,
  ⟨6, (some 6), none, .mo (.mv (.const (.int .i64 0))), [], false⟩])
  .ret)))))))
def r12 : List Mo := [.ldA 3 (.tmp 4), .mv (.tmp 5), .mv (.tmp 6)]
theorem c12_eq : compF Try.prog 12 = some c12 := by kernel_rfl
theorem r12_eq : compRs Try.prog 12 = some r12 := by kernel_rfl
/-! F13 braid/braidref20.Check -/
def l13_0 : Cd := (.seq (.seq (.reg [⟨0, (some 35), none, .mo (.mv (.tmp 3)), [], false⟩,
  ⟨1, (some 36), none, .mo (.fa 2 (.tmp 1)), [], false⟩,
  ⟨2, (some 37), none, .mo (.ld1 (.tmp 36)), [], false⟩,
  ⟨3, (some 38), none, .mo (.len (.sl 4) (.tmp 37)), [], false⟩,
  ⟨4, (some 39), none, .mo (.bin .lss 3 (.tmp 35) (.tmp 38)), [], false⟩])
  (.cond (.tmp 39) .skip (.exit 0)))
  (.seq (.block 1 (.seq (.reg [⟨0, (some 42), none, .mo (.fa 2 (.tmp 1)), [], false⟩,
  ⟨1, (some 43), none, .mo (.ld1 (.tmp 42)), [], false⟩,
  ⟨2, (some 44), none, .mo (.mv (.tmp 3)), [], false⟩,
  ⟨3, (some 45), none, .mo (.ia (.sl 4) (.tmp 43) (.tmp 44)), [], false⟩,
  ⟨4, (some 46), none, .mo (.ldA 4 (.tmp 45)), [], false⟩,
  ⟨5, (some 4), none, .mo (.alloc [.int .i64 0, .nilS, .bool false, .bool false]), [], false⟩,
  ⟨6, none, none, .mo (.st 4 (.tmp 4) (.tmp 46)), [], false⟩])
  (.seq (.seq (.reg [⟨0, (some 47), none, .mo (.fa 0 (.tmp 4)), [], false⟩,
  ⟨1, (some 48), none, .mo (.ld1 (.tmp 47)), [], false⟩,
  ⟨2, (some 49), none, .mo (.bin .lss 3 (.tmp 48) (.const (.int .i64 0))), [], false⟩,
  ⟨3, (some 50), none, .mo (.mv (.tmp 49)), [], false⟩,
  ⟨4, (some 51), (some ((some 50), false)), .mo (.fa 0 (.tmp 4)), [], false⟩,
  ⟨5, (some 52), (some ((some 50), false)), .mo (.ld1 (.tmp 51)), [], false⟩,
  ⟨6, (some 53), (some ((some 50), false)), .mo (.bin .gtr 3 (.tmp 52) (.const (.int .i64 1000000000))), [], false⟩,
  ⟨7, (some 54), none, .mo (.pick (.tmp 50) (.const (.bool true)) (.tmp 53)), [], false⟩,
  ⟨8, (some 55), none, .mo (.mv (.tmp 54)), [], false⟩,
  ⟨9, (some 56), (some ((some 55), false)), .mo (.fa 1 (.tmp 4)), [], false⟩,
  ⟨10, (some 57), (some ((some 55), false)), .mo (.ld1 (.tmp 56)), [], false⟩,
  ⟨11, (some 58), (some ((some 55), false)), .mo (.len (.sl 32) (.tmp 57)), [], false⟩,
  ⟨12, (some 59), (some ((some 55), false)), .mo (.fa 0 (.tmp 1)), [], false⟩,
  ⟨13, (some 60), (some ((some 55), false)), .mo (.ld1 (.tmp 59)), [], false⟩,
  ⟨14, (some 61), (some ((some 55), false)), .mo (.bin .gtr 3 (.tmp 58) (.tmp 60)), [], false⟩,
  ⟨15, (some 62), none, .mo (.pick (.tmp 55) (.const (.bool true)) (.tmp 61)), [], false⟩])
  (.cond (.tmp 62) (.seq (.reg [⟨0, (some 2), none, .mo (.mv (.const (.int .i64 8))), [], false⟩])
  .ret) .skip))
  (.seq (.reg [⟨0, (some 63), none, .mo (.fa 0 (.tmp 4)), [], false⟩,
  ⟨1, (some 64), none, .mo (.ld1 (.tmp 63)), [], false⟩,
  ⟨2, (some 65), none, .mo (.fa 1 (.tmp 4)), [], false⟩,
  ⟨3, (some 66), none, .mo (.ld1 (.tmp 65)), [], false⟩,
  ⟨4, (some 67), none, .mo (.len (.sl 32) (.tmp 66)), [], false⟩,
  ⟨5, (some 68), none, .mo (.bin .add 3 (.tmp 64) (.tmp 67)), [], false⟩,
  ⟨6, (some 5), none, .mo (.mv (.tmp 68)), [], false⟩])
  (.seq (.reg [⟨0, (some 69), none, .mo (.fa 3 (.tmp 4)), [], false⟩,
  ⟨1, (some 70), none, .mo (.ld1 (.tmp 69)), [], false⟩])
  (.cond (.tmp 70) (.seq (.reg [⟨0, (some 71), none, .mo (.fa 1 (.tmp 4)), [], false⟩,
  ⟨1, (some 72), none, .mo (.ld1 (.tmp 71)), [], false⟩,
  ⟨2, (some 73), none, .mo (.len (.sl 32) (.tmp 72)), [], false⟩,
  ⟨3, (some 74), none, .mo (.bin .gtr 3 (.tmp 73) (.const (.int .i64 0))), [], false⟩,
  ⟨4, (some 75), none, .mo (.mv (.tmp 74)), [], false⟩,
  ⟨5, (some 76), (some ((some 75), false)), .mo (.fa 2 (.tmp 4)), [], false⟩,
  ⟨6, (some 77), (some ((some 75), false)), .mo (.ld1 (.tmp 76)), [], false⟩,
  ⟨7, (some 78), none, .mo (.pick (.tmp 75) (.const (.bool true)) (.tmp 77)), [], false⟩])
  (.cond (.tmp 78) (.seq (.reg [⟨0, (some 2), none, .mo (.mv (.const (.int .i64 8))), [], false⟩])
  .ret) .skip)) (.seq (.reg [⟨0, (some 79), none, .mo (.fa 2 (.tmp 4)), [], false⟩,
  ⟨1, (some 80), none, .mo (.ld1 (.tmp 79)), [], false⟩])
  (.cond (.tmp 80) (.seq (.reg [⟨0, (some 81), none, .mo (.mv (.tmp 5)), [], false⟩,
  ⟨1, (some 82), none, .mo (.fa 1 (.tmp 1)), [], false⟩,
  ⟨2, (some 83), none, .mo (.ld1 (.tmp 82)), [], false⟩,
  ⟨3, (some 84), none, .mo (.bin .gtr 3 (.tmp 81) (.tmp 83)), [], false⟩])
  (.cond (.tmp 84) (.seq (.reg [⟨0, (some 2), none, .mo (.mv (.const (.int .i64 8))), [], false⟩])
  .ret) .skip)) (.seq (.reg [⟨0, (some 85), none, .mo (.mv (.tmp 5)), [], false⟩,
  ⟨1, (some 86), none, .mo (.fa 1 (.tmp 1)), [], false⟩,
  ⟨2, (some 87), none, .mo (.ld1 (.tmp 86)), [], false⟩,
  ⟨3, (some 88), none, .mo (.bin .neq 3 (.tmp 85) (.tmp 87)), [], false⟩,
  ⟨4, (some 89), none, .mo (.mv (.tmp 88)), [], false⟩,
  ⟨5, (some 90), (some ((some 89), true)), .mo (.fa 1 (.tmp 4)), [], false⟩,
  ⟨6, (some 91), (some ((some 89), true)), .mo (.ld1 (.tmp 90)), [], false⟩,
  ⟨7, (some 92), (some ((some 89), true)), .mo (.len (.sl 32) (.tmp 91)), [], false⟩,
  ⟨8, (some 93), (some ((some 89), true)), .mo (.bin .gtr 3 (.tmp 92) (.const (.int .i64 0))), [], false⟩,
  ⟨9, (some 94), (some ((some 89), true)), .mo (.mv (.tmp 93)), [], false⟩,
  ⟨10, (some 95), (some ((some 94), false)), .mo (.fa 0 (.tmp 4)), [], false⟩,
  ⟨11, (some 96), (some ((some 94), false)), .mo (.ld1 (.tmp 95)), [], false⟩,
  ⟨12, (some 97), (some ((some 94), false)), .mo (.fa 1 (.tmp 1)), [], false⟩,
  ⟨13, (some 98), (some ((some 94), false)), .mo (.ld1 (.tmp 97)), [], false⟩,
  ⟨14, (some 99), (some ((some 94), false)), .mo (.bin .lss 3 (.tmp 96) (.tmp 98)), [], false⟩,
  ⟨15, (some 100), (some ((some 89), true)), .mo (.pick (.tmp 94) (.const (.bool true)) (.tmp 99)), [], false⟩,
  ⟨16, (some 101), none, .mo (.pick (.tmp 89) (.tmp 100) (.const (.bool false))), [], false⟩])
  (.cond (.tmp 101) (.seq (.reg [⟨0, (some 2), none, .mo (.mv (.const (.int .i64 8))), [], false⟩])
  .ret) .skip))))))))))
  (.reg [⟨0, (some 40), none, .mo (.mv (.tmp 3)), [], false⟩,
  ⟨1, (some 41), none, .mo (.bin .add 3 (.tmp 40) (.const (.int .i64 1))), [], false⟩,
  ⟨2, (some 3), none, .mo (.mv (.tmp 41)), [], false⟩])))
def c13 : Cd := (.seq (.reg [⟨0, (some 1), none, .mo (.box (.tmp 0)), [], false⟩,
  ⟨1, (some 2), none, .mo (.mv (.const (.int .i64 0))), [], false⟩])
  (.seq (.seq (.reg [⟨0, (some 6), none, .mo (.fa 0 (.tmp 1)), [], false⟩,
  ⟨1, (some 7), none, .mo (.ld1 (.tmp 6)), [], false⟩,
  ⟨2, (some 8), none, .mo (.bin .lss 3 (.tmp 7) (.const (.int .i64 1))), [], false⟩,
  ⟨3, (some 9), none, .mo (.mv (.tmp 8)), [], false⟩,
  ⟨4, (some 10), (some ((some 9), false)), .mo (.fa 0 (.tmp 1)), [], false⟩,
  ⟨5, (some 11), (some ((some 9), false)), .mo (.ld1 (.tmp 10)), [], false⟩,
  ⟨6, (some 12), (some ((some 9), false)), .mo (.bin .gtr 3 (.tmp 11) (.const (.int .i64 8))), [], false⟩,
  ⟨7, (some 13), none, .mo (.pick (.tmp 9) (.const (.bool true)) (.tmp 12)), [], false⟩,
  ⟨8, (some 14), none, .mo (.mv (.tmp 13)), [], false⟩,
  ⟨9, (some 15), (some ((some 14), false)), .mo (.fa 1 (.tmp 1)), [], false⟩,
  ⟨10, (some 16), (some ((some 14), false)), .mo (.ld1 (.tmp 15)), [], false⟩,
  ⟨11, (some 17), (some ((some 14), false)), .mo (.bin .lss 3 (.tmp 16) (.const (.int .i64 0))), [], false⟩,
  ⟨12, (some 18), none, .mo (.pick (.tmp 14) (.const (.bool true)) (.tmp 17)), [], false⟩,
  ⟨13, (some 19), none, .mo (.mv (.tmp 18)), [], false⟩,
  ⟨14, (some 20), (some ((some 19), false)), .mo (.fa 1 (.tmp 1)), [], false⟩,
  ⟨15, (some 21), (some ((some 19), false)), .mo (.ld1 (.tmp 20)), [], false⟩,
  ⟨16, (some 22), (some ((some 19), false)), .mo (.bin .gtr 3 (.tmp 21) (.const (.int .i64 1000000000))), [], false⟩,
  ⟨17, (some 23), none, .mo (.pick (.tmp 19) (.const (.bool true)) (.tmp 22)), [], false⟩,
  ⟨18, (some 24), none, .mo (.mv (.tmp 23)), [], false⟩,
  ⟨19, (some 25), (some ((some 24), false)), .mo (.fa 2 (.tmp 1)), [], false⟩,
  ⟨20, (some 26), (some ((some 24), false)), .mo (.ld1 (.tmp 25)), [], false⟩,
  ⟨21, (some 27), (some ((some 24), false)), .mo (.len (.sl 4) (.tmp 26)), [], false⟩,
  ⟨22, (some 28), (some ((some 24), false)), .mo (.bin .gtr 3 (.tmp 27) (.const (.int .i64 60))), [], false⟩,
  ⟨23, (some 29), none, .mo (.pick (.tmp 24) (.const (.bool true)) (.tmp 28)), [], false⟩,
  ⟨24, (some 30), none, .mo (.mv (.tmp 29)), [], false⟩,
  ⟨25, (some 31), (some ((some 30), false)), .mo (.ldA 3 (.tmp 1)), [], false⟩,
  ⟨26, (some 32), (some ((some 30), false)), .callF 29 [(.tmp 31)], [], false⟩,
  ⟨27, (some 33), (some ((some 30), false)), .mo (.bin .gtr 3 (.tmp 32) (.const (.int .i64 4))), [], false⟩,
  ⟨28, (some 34), none, .mo (.pick (.tmp 30) (.const (.bool true)) (.tmp 33)), [], false⟩])
  (.cond (.tmp 34) (.seq (.reg [⟨0, (some 2), none, .mo (.mv (.const (.int .i64 8))), [], false⟩])
  .ret) .skip))
  (.seq (.seq (.reg [⟨0, (some 3), none, .mo (.mv (.const (.int .i64 0))), [], false⟩])
  (.block 0 (.loop l13_0)))
  (.seq (.reg [⟨0, (some 2), none, .mo (.mv (.const (.int .i64 0))), [], false⟩])
  .ret))))
def r13 : List Mo := [.mv (.tmp 2)]
theorem c13_eq : compF Try.prog 13 = some c13 := by kernel_rfl
theorem r13_eq : compRs Try.prog 13 = some r13 := by kernel_rfl
/-! F14 braid/feed.Take -/
def c14 : Cd := (.seq (.reg [⟨0, (some 2), none, .mo (.box (.tmp 0)), [], false⟩,
  ⟨1, (some 4), none, .mo (.alloc [.int .i64 0, .int .i64 0, .nilS]), [], false⟩,
  ⟨2, (some 5), none, .mo (.mv (.const (.int .u8 0))), [], false⟩,
  ⟨3, (some 6), none, .mo (.mv (.const (.int .i64 0))), [], false⟩,
  ⟨4, (some 7), none, .mo (.alloc [.int .u8 0, .int .u8 0, .int .u8 0, .int .u8 0, .int .u8 0, .int .u8 0, .int .u8 0, .int .u8 0, .int .u8 0, .int .u8 0, .int .u8 0, .int .u8 0, .int .u8 0, .int .u8 0, .int .u8 0, .int .u8 0, .int .u8 0, .int .u8 0, .int .u8 0, .int .u8 0, .int .u8 0, .int .u8 0, .int .u8 0, .int .u8 0, .int .u8 0, .int .u8 0, .int .u8 0, .int .u8 0, .int .u8 0, .int .u8 0, .int .u8 0, .int .u8 0]), [], false⟩,
  ⟨5, (some 8), none, .mo (.mv (.const (.int .i64 0))), [], false⟩])
  (.seq (.seq (.reg [⟨0, (some 11), none, .mo (.ldA 3 (.tmp 2)), [], false⟩,
  ⟨1, (some 12), none, .mo (.mv (.tmp 1)), [], false⟩,
  ⟨2, (some 13), none, .callF 30 [(.tmp 11), (.tmp 12)], [], false⟩,
  ⟨3, (some 9), none, .mo (.mv (.tmp 13)), [], false⟩])
  (.seq (.reg [⟨0, (some 14), none, .mo (.mv (.tmp 9)), [], false⟩,
  ⟨1, (some 15), none, .mo (.bin .neq 27 (.tmp 14) (.const (.int .i64 0))), [], false⟩])
  (.cond (.tmp 15) (.seq (.reg [⟨0, (some 16), none, .mo (.bld [.int .i64 0, .int .i64 0, .nilS] []), [], false⟩,
  ⟨1, (some 17), none, .mo (.bld [.int .u8 0, .int .u8 0, .int .u8 0, .int .u8 0, .int .u8 0, .int .u8 0, .int .u8 0, .int .u8 0, .int .u8 0, .int .u8 0, .int .u8 0, .int .u8 0, .int .u8 0, .int .u8 0, .int .u8 0, .int .u8 0, .int .u8 0, .int .u8 0, .int .u8 0, .int .u8 0, .int .u8 0, .int .u8 0, .int .u8 0, .int .u8 0, .int .u8 0, .int .u8 0, .int .u8 0, .int .u8 0, .int .u8 0, .int .u8 0, .int .u8 0, .int .u8 0] []), [], false⟩,
  ⟨2, (some 18), none, .mo (.mv (.tmp 9)), [], false⟩,
  ⟨3, none, none, .mo (.st 3 (.tmp 4) (.tmp 16)), [], false⟩,
  ⟨4, (some 5), none, .mo (.mv (.const (.int .u8 0))), [], false⟩,
  ⟨5, (some 6), none, .mo (.mv (.const (.int .i64 0))), [], false⟩,
  ⟨6, none, none, .mo (.st 32 (.tmp 7) (.tmp 17)), [], false⟩,
  ⟨7, (some 8), none, .mo (.mv (.tmp 18)), [], false⟩])
  .ret) .skip)))
  (.seq (.reg [⟨0, (some 19), none, .mo (.ldA 3 (.tmp 2)), [], false⟩,
  ⟨1, (some 20), none, .callF 27 [(.tmp 19)], [], false⟩,
  ⟨2, none, none, .mo (.st 3 (.tmp 4) (.tmp 20)), [], false⟩])
  (.seq (.reg [⟨0, (some 21), none, .mo (.fa 2 (.tmp 4)), [], false⟩,
  ⟨1, (some 22), none, .mo (.ld1 (.tmp 21)), [], false⟩,
  ⟨2, (some 23), none, .mo (.mv (.tmp 1)), [], false⟩,
  ⟨3, (some 24), none, .mo (.ia (.sl 4) (.tmp 22) (.tmp 23)), [], false⟩,
  ⟨4, (some 10), none, .mo (.mv (.tmp 24)), [], false⟩])
  (.seq (.reg [⟨0, (some 25), none, .mo (.mv (.tmp 10)), [], false⟩,
  ⟨1, (some 26), none, .mo (.nilc (.tmp 25)), [], false⟩,
  ⟨2, (some 27), none, .mo (.fa 0 (.tmp 26)), [], false⟩,
  ⟨3, (some 28), none, .mo (.ld1 (.tmp 27)), [], false⟩,
  ⟨4, (some 6), none, .mo (.mv (.tmp 28)), [], false⟩])
  (.seq (.block 0 (.seq (.reg [⟨0, (some 30), none, .mo (.mv (.tmp 10)), [], false⟩,
  ⟨1, (some 31), none, .mo (.nilc (.tmp 30)), [], false⟩,
  ⟨2, (some 32), none, .mo (.fa 1 (.tmp 31)), [], false⟩,
  ⟨3, (some 33), none, .mo (.ld1 (.tmp 32)), [], false⟩,
  ⟨4, (some 34), none, .mo (.len (.sl 32) (.tmp 33)), [], false⟩,
  ⟨5, (some 35), none, .mo (.bin .gtr 3 (.tmp 34) (.const (.int .i64 0))), [], false⟩,
  ⟨6, (some 29), none, .mo (.mv (.tmp 35)), [], false⟩])
  (.cond (.tmp 29) (.seq (.reg [⟨0, (some 36), none, .mo (.mv (.tmp 10)), [], false⟩,
  ⟨1, (some 37), none, .mo (.nilc (.tmp 36)), [], false⟩,
  ⟨2, (some 38), none, .mo (.fa 1 (.tmp 37)), [], false⟩,
  ⟨3, (some 39), none, .mo (.ld1 (.tmp 38)), [], false⟩,
  ⟨4, (some 40), none, .mo (.ia (.sl 32) (.tmp 39) (.const (.int .i64 0))), [], false⟩,
  ⟨5, (some 41), none, .mo (.ldA 32 (.tmp 40)), [], false⟩,
  ⟨6, none, none, .mo (.st 32 (.tmp 7) (.tmp 41)), [], false⟩])
  (.seq (.reg [⟨0, (some 42), none, .mo (.mv (.tmp 10)), [], false⟩,
  ⟨1, (some 43), none, .mo (.mv (.tmp 10)), [], false⟩,
  ⟨2, (some 44), none, .mo (.nilc (.tmp 43)), [], false⟩,
  ⟨3, (some 45), none, .mo (.fa 1 (.tmp 44)), [], false⟩,
  ⟨4, (some 46), none, .mo (.ld1 (.tmp 45)), [], false⟩,
  ⟨5, (some 47), none, .mo (.slice (.sl 32) (.tmp 46) (some (.const (.int .i64 1))) none none), [], false⟩,
  ⟨6, (some 48), none, .mo (.nilc (.tmp 42)), [], false⟩,
  ⟨7, (some 49), none, .mo (.fa 1 (.tmp 48)), [], false⟩,
  ⟨8, none, none, .mo (.st 1 (.tmp 49) (.tmp 47)), [], false⟩])
  (.seq (.reg [⟨0, (some 50), none, .mo (.mv (.tmp 10)), [], false⟩,
  ⟨1, (some 51), none, .mo (.nilc (.tmp 50)), [], false⟩,
  ⟨2, (some 52), none, .mo (.fa 0 (.tmp 51)), [], false⟩,
  ⟨3, (some 53), none, .mo (.ld1 (.tmp 52)), [], false⟩,
  ⟨4, (some 54), none, .mo (.bin .add 3 (.tmp 53) (.const (.int .i64 1))), [], false⟩,
  ⟨5, (some 55), none, .mo (.nilc (.tmp 50)), [], false⟩,
  ⟨6, (some 56), none, .mo (.fa 0 (.tmp 55)), [], false⟩,
  ⟨7, none, none, .mo (.st 1 (.tmp 56) (.tmp 54)), [], false⟩])
  (.seq (.dreg [⟨0, (some 57), none, .mo (.ldA 3 (.tmp 4)), [], false⟩,
  ⟨1, (some 58), none, .mo (.mv (.tmp 6)), [], false⟩,
  ⟨2, (some 59), none, .mo (.ldA 32 (.tmp 7)), [], true⟩,
  ⟨3, none, none, .mo (.st 3 (.tmp 4) (.tmp 57)), [2], false⟩,
  ⟨4, (some 5), none, .mo (.mv (.const (.int .u8 1))), [], false⟩,
  ⟨5, (some 6), none, .mo (.mv (.tmp 58)), [], false⟩,
  ⟨6, none, none, .mo (.st 32 (.tmp 7) (.tmp 59)), [], false⟩,
  ⟨7, (some 8), none, .mo (.mv (.const (.int .i64 0))), [], false⟩])
  .ret)))) (.seq (.reg [⟨0, (some 61), none, .mo (.mv (.tmp 10)), [], false⟩,
  ⟨1, (some 62), none, .mo (.nilc (.tmp 61)), [], false⟩,
  ⟨2, (some 63), none, .mo (.fa 2 (.tmp 62)), [], false⟩,
  ⟨3, (some 64), none, .mo (.ld1 (.tmp 63)), [], false⟩,
  ⟨4, (some 60), none, .mo (.mv (.tmp 64)), [], false⟩])
  (.cond (.tmp 60) (.seq (.reg [⟨0, (some 65), none, .mo (.mv (.tmp 10)), [], false⟩,
  ⟨1, (some 66), none, .mo (.mv (.tmp 10)), [], false⟩,
  ⟨2, (some 67), none, .mo (.nilc (.tmp 65)), [], false⟩,
  ⟨3, (some 68), none, .mo (.fa 2 (.tmp 67)), [], false⟩,
  ⟨4, none, none, .mo (.st 1 (.tmp 68) (.const (.bool false))), [], false⟩,
  ⟨5, (some 69), none, .mo (.nilc (.tmp 66)), [], false⟩,
  ⟨6, (some 70), none, .mo (.fa 3 (.tmp 69)), [], false⟩,
  ⟨7, none, none, .mo (.st 1 (.tmp 70) (.const (.bool true))), [], false⟩])
  (.seq (.dreg [⟨0, (some 71), none, .mo (.ldA 3 (.tmp 4)), [], false⟩,
  ⟨1, (some 72), none, .mo (.mv (.tmp 6)), [], false⟩,
  ⟨2, (some 73), none, .mo (.ldA 32 (.tmp 7)), [], true⟩,
  ⟨3, none, none, .mo (.st 3 (.tmp 4) (.tmp 71)), [2], false⟩,
  ⟨4, (some 5), none, .mo (.mv (.const (.int .u8 2))), [], false⟩,
  ⟨5, (some 6), none, .mo (.mv (.tmp 72)), [], false⟩,
  ⟨6, none, none, .mo (.st 32 (.tmp 7) (.tmp 73)), [], false⟩,
  ⟨7, (some 8), none, .mo (.mv (.const (.int .i64 0))), [], false⟩])
  .ret)) .skip)))))
  (.seq (.reg [⟨0, (some 74), none, .mo (.bld [.int .i64 0, .int .i64 0, .nilS] []), [], false⟩,
  ⟨1, (some 75), none, .mo (.bld [.int .u8 0, .int .u8 0, .int .u8 0, .int .u8 0, .int .u8 0, .int .u8 0, .int .u8 0, .int .u8 0, .int .u8 0, .int .u8 0, .int .u8 0, .int .u8 0, .int .u8 0, .int .u8 0, .int .u8 0, .int .u8 0, .int .u8 0, .int .u8 0, .int .u8 0, .int .u8 0, .int .u8 0, .int .u8 0, .int .u8 0, .int .u8 0, .int .u8 0, .int .u8 0, .int .u8 0, .int .u8 0, .int .u8 0, .int .u8 0, .int .u8 0, .int .u8 0] []), [], false⟩,
  ⟨2, none, none, .mo (.st 3 (.tmp 4) (.tmp 74)), [], false⟩,
  ⟨3, (some 5), none, .mo (.mv (.const (.int .u8 0))), [], false⟩,
  ⟨4, (some 6), none, .mo (.mv (.const (.int .i64 0))), [], false⟩,
  ⟨5, none, none, .mo (.st 32 (.tmp 7) (.tmp 75)), [], false⟩,
  ⟨6, (some 8), none, .mo (.mv (.const (.int .i64 38))), [], false⟩])
  .ret)))))))
def r14 : List Mo := [.ldA 3 (.tmp 4), .mv (.tmp 5), .mv (.tmp 6), .ldA 32 (.tmp 7), .mv (.tmp 8)]
theorem c14_eq : compF Try.prog 14 = some c14 := by kernel_rfl
theorem r14_eq : compRs Try.prog 14 = some r14 := by kernel_rfl
/-! F15 braid/braidlaw20.id -/
def c15 : Cd := (.seq (.reg [⟨0, (some 2), none, .mo (.alloc [.int .u8 0, .int .u8 0, .int .u8 0, .int .u8 0, .int .u8 0, .int .u8 0, .int .u8 0, .int .u8 0, .int .u8 0, .int .u8 0, .int .u8 0, .int .u8 0, .int .u8 0, .int .u8 0, .int .u8 0, .int .u8 0, .int .u8 0, .int .u8 0, .int .u8 0, .int .u8 0, .int .u8 0, .int .u8 0, .int .u8 0, .int .u8 0, .int .u8 0, .int .u8 0, .int .u8 0, .int .u8 0, .int .u8 0, .int .u8 0, .int .u8 0, .int .u8 0]), [], false⟩])
  (.seq (.reg [⟨0, (some 3), none, .mo (.mv (.tmp 0)), [], false⟩,
  ⟨1, (some 4), none, .mo (.cint .u8 (.tmp 3)), [], false⟩,
  ⟨2, (some 5), none, .mo (.mv (.tmp 0)), [], false⟩,
  ⟨3, (some 6), none, .mo (.bin .quo 3 (.tmp 5) (.const (.int .i64 256))), [], false⟩,
  ⟨4, (some 7), none, .mo (.cint .u8 (.tmp 6)), [], false⟩,
  ⟨5, (some 8), none, .mo (.bld [.int .u8 0, .int .u8 0, .int .u8 0, .int .u8 0, .int .u8 0, .int .u8 0, .int .u8 0, .int .u8 0, .int .u8 0, .int .u8 0, .int .u8 0, .int .u8 0, .int .u8 0, .int .u8 0, .int .u8 0, .int .u8 0, .int .u8 0, .int .u8 0, .int .u8 0, .int .u8 0, .int .u8 0, .int .u8 0, .int .u8 0, .int .u8 0, .int .u8 0, .int .u8 0, .int .u8 0, .int .u8 0, .int .u8 0, .int .u8 0, .int .u8 0, .int .u8 0] [(0, 1, (.tmp 4)), (1, 1, (.tmp 7)), (2, 1, (.const (.int .u8 1)))]), [], false⟩,
  ⟨6, none, none, .mo (.st 32 (.tmp 2) (.tmp 8)), [], false⟩])
  .ret))
def r15 : List Mo := [.ldA 32 (.tmp 2)]
theorem c15_eq : compF Try.prog 15 = some c15 := by kernel_rfl
theorem r15_eq : compRs Try.prog 15 = some r15 := by kernel_rfl
/-! F16 braid/braidref20.Great -/
def l16_0 : Cd := (.seq (.seq (.reg [⟨0, (some 4), none, .mo (.mv (.tmp 3)), [], false⟩,
  ⟨1, (some 5), none, .mo (.fa 2 (.tmp 1)), [], false⟩,
  ⟨2, (some 6), none, .mo (.ld1 (.tmp 5)), [], false⟩,
  ⟨3, (some 7), none, .mo (.len (.sl 4) (.tmp 6)), [], false⟩,
  ⟨4, (some 8), none, .mo (.bin .lss 3 (.tmp 4) (.tmp 7)), [], false⟩,
  ⟨5, (some 9), none, .mo (.mv (.tmp 8)), [], false⟩,
  ⟨6, (some 10), (some ((some 9), true)), .mo (.mv (.tmp 3)), [], false⟩,
  ⟨7, (some 11), (some ((some 9), true)), .mo (.bin .lss 3 (.tmp 10) (.const (.int .i64 101))), [], false⟩,
  ⟨8, (some 12), none, .mo (.pick (.tmp 9) (.tmp 11) (.const (.bool false))), [], false⟩])
  (.cond (.tmp 12) .skip (.exit 0)))
  (.seq (.block 1 (.seq (.reg [⟨0, (some 15), none, .mo (.fa 2 (.tmp 1)), [], false⟩,
  ⟨1, (some 16), none, .mo (.ld1 (.tmp 15)), [], false⟩,
  ⟨2, (some 17), none, .mo (.mv (.tmp 3)), [], false⟩,
  ⟨3, (some 18), none, .mo (.ia (.sl 4) (.tmp 16) (.tmp 17)), [], false⟩,
  ⟨4, (some 19), none, .mo (.fa 1 (.tmp 18)), [], false⟩,
  ⟨5, (some 20), none, .mo (.ld1 (.tmp 19)), [], false⟩,
  ⟨6, (some 21), none, .mo (.len (.sl 32) (.tmp 20)), [], false⟩,
  ⟨7, (some 22), none, .mo (.bin .gtr 3 (.tmp 21) (.const (.int .i64 100))), [], false⟩])
  (.cond (.tmp 22) (.seq (.reg [⟨0, (some 2), none, .mo (.mv (.const (.bool true))), [], false⟩])
  .ret) .skip)))
  (.reg [⟨0, (some 13), none, .mo (.mv (.tmp 3)), [], false⟩,
  ⟨1, (some 14), none, .mo (.bin .add 3 (.tmp 13) (.const (.int .i64 1))), [], false⟩,
  ⟨2, (some 3), none, .mo (.mv (.tmp 14)), [], false⟩])))
def c16 : Cd := (.seq (.reg [⟨0, (some 1), none, .mo (.box (.tmp 0)), [], false⟩,
  ⟨1, (some 2), none, .mo (.mv (.const (.bool false))), [], false⟩])
  (.seq (.seq (.reg [⟨0, (some 3), none, .mo (.mv (.const (.int .i64 0))), [], false⟩])
  (.block 0 (.loop l16_0)))
  (.seq (.reg [⟨0, (some 23), none, .mo (.fa 2 (.tmp 1)), [], false⟩,
  ⟨1, (some 24), none, .mo (.ld1 (.tmp 23)), [], false⟩,
  ⟨2, (some 25), none, .mo (.len (.sl 4) (.tmp 24)), [], false⟩,
  ⟨3, (some 26), none, .mo (.bin .gtr 3 (.tmp 25) (.const (.int .i64 100))), [], false⟩,
  ⟨4, (some 2), none, .mo (.mv (.tmp 26)), [], false⟩])
  .ret)))
def r16 : List Mo := [.mv (.tmp 2)]
theorem c16_eq : compF Try.prog 16 = some c16 := by kernel_rfl
theorem r16_eq : compRs Try.prog 16 = some r16 := by kernel_rfl
/-! F17 braid/braidref20.Twin -/
def l17_0 : Cd := (.seq (.seq (.reg [⟨0, (some 6), none, .mo (.mv (.tmp 4)), [], false⟩,
  ⟨1, (some 7), none, .mo (.fa 2 (.tmp 1)), [], false⟩,
  ⟨2, (some 8), none, .mo (.ld1 (.tmp 7)), [], false⟩,
  ⟨3, (some 9), none, .mo (.len (.sl 4) (.tmp 8)), [], false⟩,
  ⟨4, (some 10), none, .mo (.bin .lss 3 (.tmp 6) (.tmp 9)), [], false⟩])
  (.cond (.tmp 10) .skip (.exit 0)))
  (.seq (.block 1 (.seq (.reg [⟨0, (some 13), none, .mo (.fa 2 (.tmp 1)), [], false⟩,
  ⟨1, (some 14), none, .mo (.ld1 (.tmp 13)), [], false⟩,
  ⟨2, (some 15), none, .mo (.mv (.tmp 4)), [], false⟩,
  ⟨3, (some 16), none, .mo (.ia (.sl 4) (.tmp 14) (.tmp 15)), [], false⟩,
  ⟨4, (some 17), none, .mo (.ldA 4 (.tmp 16)), [], false⟩,
  ⟨5, (some 5), none, .mo (.alloc [.int .i64 0, .nilS, .bool false, .bool false]), [], false⟩,
  ⟨6, none, none, .mo (.st 4 (.tmp 5) (.tmp 17)), [], false⟩])
  (.seq (.reg [⟨0, (some 18), none, .mo (.bsl 32 [.int .u8 0, .int .u8 0, .int .u8 0, .int .u8 0, .int .u8 0, .int .u8 0, .int .u8 0, .int .u8 0, .int .u8 0, .int .u8 0, .int .u8 0, .int .u8 0, .int .u8 0, .int .u8 0, .int .u8 0, .int .u8 0, .int .u8 0, .int .u8 0, .int .u8 0, .int .u8 0, .int .u8 0, .int .u8 0, .int .u8 0, .int .u8 0, .int .u8 0, .int .u8 0, .int .u8 0, .int .u8 0, .int .u8 0, .int .u8 0, .int .u8 0, .int .u8 0] 0 []), [], false⟩,
  ⟨1, (some 19), none, .mo (.fa 1 (.tmp 5)), [], false⟩,
  ⟨2, (some 20), none, .mo (.ld1 (.tmp 19)), [], false⟩,
  ⟨3, (some 21), none, .mo (.app 32 32 (.tmp 18) (.tmp 20)), [], false⟩,
  ⟨4, (some 22), none, .mo (.fa 1 (.tmp 5)), [], false⟩,
  ⟨5, none, none, .mo (.st 1 (.tmp 22) (.tmp 21)), [], false⟩])
  (.reg [⟨0, (some 23), none, .mo (.mv (.tmp 3)), [], false⟩,
  ⟨1, (some 24), none, .mo (.ldA 4 (.tmp 5)), [], false⟩,
  ⟨2, (some 25), none, .mo (.bsl 4 [.int .i64 0, .nilS, .bool false, .bool false] 1 [(0, (.tmp 24))]), [], false⟩,
  ⟨3, (some 26), none, .mo (.app 4 40 (.tmp 23) (.tmp 25)), [], false⟩,
  ⟨4, (some 3), none, .mo (.mv (.tmp 26)), [], false⟩]))))
  (.reg [⟨0, (some 11), none, .mo (.mv (.tmp 4)), [], false⟩,
  ⟨1, (some 12), none, .mo (.bin .add 3 (.tmp 11) (.const (.int .i64 1))), [], false⟩,
  ⟨2, (some 4), none, .mo (.mv (.tmp 12)), [], false⟩])))
def c17 : Cd := (.seq (.reg [⟨0, (some 1), none, .mo (.box (.tmp 0)), [], false⟩,
  ⟨1, (some 2), none, .mo (.alloc [.int .i64 0, .int .i64 0, .nilS]), [], false⟩])
  (.seq (.reg [⟨0, (some 3), none, .mo (.mv (.const (.slice none 0 0))), [], false⟩])
  (.seq (.seq (.reg [⟨0, (some 4), none, .mo (.mv (.const (.int .i64 0))), [], false⟩])
  (.block 0 (.loop l17_0)))
  (.seq (.reg [⟨0, (some 27), none, .mo (.mv (.tmp 3)), [], false⟩,
  ⟨1, (some 28), none, .mo (.fa 2 (.tmp 1)), [], false⟩,
  ⟨2, none, none, .mo (.st 1 (.tmp 28) (.tmp 27)), [], false⟩])
  (.seq (.reg [⟨0, (some 29), none, .mo (.ldA 3 (.tmp 1)), [], false⟩,
  ⟨1, none, none, .mo (.st 3 (.tmp 2) (.tmp 29)), [], false⟩])
  .ret)))))
def r17 : List Mo := [.ldA 3 (.tmp 2)]
theorem c17_eq : compF Try.prog 17 = some c17 := by kernel_rfl
theorem r17_eq : compRs Try.prog 17 = some r17 := by kernel_rfl
/-! F18 braid/braidref20.New -/
def c18 : Cd := (.seq (.reg [⟨0, (some 2), none, .mo (.alloc [.int .i64 0, .int .i64 0, .nilS]), [], false⟩,
  ⟨1, (some 3), none, .mo (.mv (.const (.int .i64 0))), [], false⟩])
  (.seq (.seq (.reg [⟨0, (some 4), none, .mo (.mv (.tmp 0)), [], false⟩,
  ⟨1, (some 5), none, .mo (.bin .lss 3 (.tmp 4) (.const (.int .i64 1))), [], false⟩,
  ⟨2, (some 6), none, .mo (.mv (.tmp 5)), [], false⟩,
  ⟨3, (some 7), (some ((some 6), false)), .mo (.mv (.tmp 0)), [], false⟩,
  ⟨4, (some 8), (some ((some 6), false)), .mo (.bin .gtr 3 (.tmp 7) (.const (.int .i64 8))), [], false⟩,
  ⟨5, (some 9), none, .mo (.pick (.tmp 6) (.const (.bool true)) (.tmp 8)), [], false⟩])
  (.cond (.tmp 9) (.seq (.reg [⟨0, (some 10), none, .mo (.bld [.int .i64 0, .int .i64 0, .nilS] []), [], false⟩,
  ⟨1, none, none, .mo (.st 3 (.tmp 2) (.tmp 10)), [], false⟩,
  ⟨2, (some 3), none, .mo (.mv (.const (.int .i64 2))), [], false⟩])
  .ret) .skip))
  (.seq (.reg [⟨0, (some 11), none, .mo (.mv (.tmp 0)), [], false⟩,
  ⟨1, (some 12), none, .mo (.bld [.int .i64 0, .int .i64 0, .nilS] [(0, 1, (.tmp 11))]), [], false⟩,
  ⟨2, none, none, .mo (.st 3 (.tmp 2) (.tmp 12)), [], false⟩,
  ⟨3, (some 3), none, .mo (.mv (.const (.int .i64 0))), [], false⟩])
  .ret)))
def r18 : List Mo := [.ldA 3 (.tmp 2), .mv (.tmp 3)]
theorem c18_eq : compF Try.prog 18 = some c18 := by kernel_rfl
theorem r18_eq : compRs Try.prog 18 = some r18 := by kernel_rfl
/-! F19 braid/braidref20.Subscribe -/
def c19 : Cd := (.seq (.reg [⟨0, (some 2), none, .mo (.box (.tmp 0)), [], false⟩,
  ⟨1, (some 4), none, .mo (.alloc [.int .i64 0, .int .i64 0, .nilS]), [], false⟩,
  ⟨2, (some 5), none, .mo (.mv (.const (.int .i64 0))), [], false⟩,
  ⟨3, (some 6), none, .mo (.mv (.const (.int .i64 0))), [], false⟩])
  (.seq (.seq (.reg [⟨0, (some 8), none, .mo (.ldA 3 (.tmp 2)), [], false⟩,
  ⟨1, (some 9), none, .callF 13 [(.tmp 8)], [], false⟩,
  ⟨2, (some 10), none, .mo (.bin .neq 3 (.tmp 9) (.const (.int .i64 0))), [], false⟩])
  (.cond (.tmp 10) (.seq (.reg [⟨0, (some 11), none, .mo (.bld [.int .i64 0, .int .i64 0, .nilS] []), [], false⟩,
  ⟨1, (some 12), none, .mo (.ldA 3 (.tmp 2)), [], false⟩,
  ⟨2, (some 13), none, .callF 13 [(.tmp 12)], [], false⟩,
  ⟨3, none, none, .mo (.st 3 (.tmp 4) (.tmp 11)), [], false⟩,
  ⟨4, (some 5), none, .mo (.mv (.const (.int .i64 0))), [], false⟩,
  ⟨5, (some 6), none, .mo (.mv (.tmp 13)), [], false⟩])
  .ret) .skip))
  (.seq (.seq (.reg [⟨0, (some 14), none, .mo (.mv (.tmp 1)), [], false⟩,
  ⟨1, (some 15), none, .mo (.fa 1 (.tmp 2)), [], false⟩,
  ⟨2, (some 16), none, .mo (.ld1 (.tmp 15)), [], false⟩,
  ⟨3, (some 17), none, .mo (.bin .lss 3 (.tmp 14) (.tmp 16)), [], false⟩,
  ⟨4, (some 18), none, .mo (.mv (.tmp 17)), [], false⟩,
  ⟨5, (some 19), (some ((some 18), false)), .mo (.mv (.tmp 1)), [], false⟩,
  ⟨6, (some 20), (some ((some 18), false)), .mo (.bin .gtr 3 (.tmp 19) (.const (.int .i64 1000000000))), [], false⟩,
  ⟨7, (some 21), none, .mo (.pick (.tmp 18) (.const (.bool true)) (.tmp 20)), [], false⟩])
  (.cond (.tmp 21) (.seq (.reg [⟨0, (some 22), none, .mo (.bld [.int .i64 0, .int .i64 0, .nilS] []), [], false⟩,
  ⟨1, none, none, .mo (.st 3 (.tmp 4) (.tmp 22)), [], false⟩,
  ⟨2, (some 5), none, .mo (.mv (.const (.int .i64 0))), [], false⟩,
  ⟨3, (some 6), none, .mo (.mv (.const (.int .i64 2))), [], false⟩])
  .ret) .skip))
  (.seq (.seq (.reg [⟨0, (some 23), none, .mo (.fa 2 (.tmp 2)), [], false⟩,
  ⟨1, (some 24), none, .mo (.ld1 (.tmp 23)), [], false⟩,
  ⟨2, (some 25), none, .mo (.len (.sl 4) (.tmp 24)), [], false⟩,
  ⟨3, (some 26), none, .mo (.bin .eql 3 (.tmp 25) (.const (.int .i64 60))), [], false⟩,
  ⟨4, (some 27), none, .mo (.mv (.tmp 26)), [], false⟩,
  ⟨5, (some 28), (some ((some 27), false)), .mo (.ldA 3 (.tmp 2)), [], false⟩,
  ⟨6, (some 29), (some ((some 27), false)), .callF 29 [(.tmp 28)], [], false⟩,
  ⟨7, (some 30), (some ((some 27), false)), .mo (.bin .eql 3 (.tmp 29) (.const (.int .i64 4))), [], false⟩,
  ⟨8, (some 31), none, .mo (.pick (.tmp 27) (.const (.bool true)) (.tmp 30)), [], false⟩])
  (.cond (.tmp 31) (.seq (.reg [⟨0, (some 32), none, .mo (.bld [.int .i64 0, .int .i64 0, .nilS] []), [], false⟩,
  ⟨1, none, none, .mo (.st 3 (.tmp 4) (.tmp 32)), [], false⟩,
  ⟨2, (some 5), none, .mo (.mv (.const (.int .i64 0))), [], false⟩,
  ⟨3, (some 6), none, .mo (.mv (.const (.int .i64 18))), [], false⟩])
  .ret) .skip))
  (.seq (.reg [⟨0, (some 33), none, .mo (.ldA 3 (.tmp 2)), [], false⟩,
  ⟨1, (some 34), none, .callF 17 [(.tmp 33)], [], false⟩,
  ⟨2, (some 7), none, .mo (.alloc [.int .i64 0, .int .i64 0, .nilS]), [], false⟩,
  ⟨3, none, none, .mo (.st 3 (.tmp 7) (.tmp 34)), [], false⟩])
  (.seq (.reg [⟨0, (some 35), none, .mo (.fa 2 (.tmp 7)), [], false⟩,
  ⟨1, (some 36), none, .mo (.ld1 (.tmp 35)), [], false⟩,
  ⟨2, (some 37), none, .mo (.mv (.tmp 1)), [], false⟩,
  ⟨3, (some 38), none, .mo (.bld [.int .i64 0, .nilS, .bool false, .bool false] [(0, 1, (.tmp 37))]), [], false⟩,
  ⟨4, (some 39), none, .mo (.bsl 4 [.int .i64 0, .nilS, .bool false, .bool false] 1 [(0, (.tmp 38))]), [], false⟩,
  ⟨5, (some 40), none, .mo (.app 4 40 (.tmp 36) (.tmp 39)), [], false⟩,
  ⟨6, (some 41), none, .mo (.fa 2 (.tmp 7)), [], false⟩,
  ⟨7, none, none, .mo (.st 1 (.tmp 41) (.tmp 40)), [], false⟩])
  (.seq (.dreg [⟨0, (some 42), none, .mo (.ldA 3 (.tmp 7)), [], false⟩,
  ⟨1, (some 43), none, .mo (.fa 2 (.tmp 2)), [], false⟩,
  ⟨2, (some 44), none, .mo (.ld1 (.tmp 43)), [], true⟩,
  ⟨3, (some 45), none, .mo (.len (.sl 4) (.tmp 44)), [], false⟩,
  ⟨4, none, none, .mo (.st 3 (.tmp 4) (.tmp 42)), [2], false⟩,
  ⟨5, (some 5), none, .mo (.mv (.tmp 45)), [], false⟩,
  ⟨6, (some 6), none, .mo (.mv (.const (.int .i64 0))), [], false⟩])
  .ret)))))))
def r19 : List Mo := [.ldA 3 (.tmp 4), .mv (.tmp 5), .mv (.tmp 6)]
theorem c19_eq : compF Try.prog 19 = some c19 := by kernel_rfl
theorem r19_eq : compRs Try.prog 19 = some r19 := by kernel_rfl
/-! F20 braid/braidref20.Publish -/
def l20_0 : Cd := (.seq (.seq (.reg [⟨0, (some 36), none, .mo (.mv (.tmp 8)), [], false⟩,
  ⟨1, (some 37), none, .mo (.fa 2 (.tmp 6)), [], false⟩,
  ⟨2, (some 38), none, .mo (.ld1 (.tmp 37)), [], false⟩,
  ⟨3, (some 39), none, .mo (.len (.sl 4) (.tmp 38)), [], false⟩,
  ⟨4, (some 40), none, .mo (.bin .lss 3 (.tmp 36) (.tmp 39)), [], false⟩])
  (.cond (.tmp 40) .skip (.exit 2)))
  (.seq (.block 3 (.seq (.reg [⟨0, (some 43), none, .mo (.fa 2 (.tmp 6)), [], false⟩,
  ⟨1, (some 44), none, .mo (.ld1 (.tmp 43)), [], false⟩,
  ⟨2, (some 45), none, .mo (.mv (.tmp 8)), [], false⟩,
  ⟨3, (some 46), none, .mo (.ia (.sl 4) (.tmp 44) (.tmp 45)), [], false⟩,
  ⟨4, (some 47), none, .mo (.ldA 4 (.tmp 46)), [], false⟩,
  ⟨5, (some 9), none, .mo (.alloc [.int .i64 0, .nilS, .bool false, .bool false]), [], false⟩,
  ⟨6, none, none, .mo (.st 4 (.tmp 9) (.tmp 47)), [], false⟩])
  (.seq (.seq (.reg [⟨0, (some 48), none, .mo (.fa 3 (.tmp 9)), [], false⟩,
  ⟨1, (some 49), none, .mo (.ld1 (.tmp 48)), [], false⟩,
  ⟨2, (some 50), none, .mo (.mv (.tmp 49)), [], false⟩,
  ⟨3, (some 51), (some ((some 50), false)), .mo (.fa 2 (.tmp 9)), [], false⟩,
  ⟨4, (some 52), (some ((some 50), false)), .mo (.ld1 (.tmp 51)), [], false⟩,
  ⟨5, (some 53), none, .mo (.pick (.tmp 50) (.const (.bool true)) (.tmp 52)), [], false⟩,
  ⟨6, (some 54), none, .mo (.mv (.tmp 53)), [], false⟩,
  ⟨7, (some 55), (some ((some 54), false)), .mo (.fa 0 (.tmp 9)), [], false⟩,
  ⟨8, (some 56), (some ((some 54), false)), .mo (.ld1 (.tmp 55)), [], false⟩,
  ⟨9, (some 57), (some ((some 54), false)), .mo (.fa 1 (.tmp 6)), [], false⟩,
  ⟨10, (some 58), (some ((some 54), false)), .mo (.ld1 (.tmp 57)), [], false⟩,
  ⟨11, (some 59), (some ((some 54), false)), .mo (.bin .gtr 3 (.tmp 56) (.tmp 58)), [], false⟩,
  ⟨12, (some 60), none, .mo (.pick (.tmp 54) (.const (.bool true)) (.tmp 59)), [], false⟩])
  (.cond (.tmp 60) (.exit 3) .skip))
  (.seq (.seq (.reg [⟨0, (some 61), none, .mo (.fa 1 (.tmp 9)), [], false⟩,
  ⟨1, (some 62), none, .mo (.ld1 (.tmp 61)), [], false⟩,
  ⟨2, (some 63), none, .mo (.len (.sl 32) (.tmp 62)), [], false⟩,
  ⟨3, (some 64), none, .mo (.fa 0 (.tmp 6)), [], false⟩,
  ⟨4, (some 65), none, .mo (.ld1 (.tmp 64)), [], false⟩,
  ⟨5, (some 66), none, .mo (.bin .eql 3 (.tmp 63) (.tmp 65)), [], false⟩])
  (.cond (.tmp 66) (.reg [⟨0, (some 67), none, .mo (.fa 2 (.tmp 9)), [], false⟩,
  ⟨1, none, none, .mo (.st 1 (.tmp 67) (.const (.bool true))), [], false⟩]) (.reg [⟨0, (some 68), none, .mo (.fa 1 (.tmp 9)), [], false⟩,
  ⟨1, (some 69), none, .mo (.ld1 (.tmp 68)), [], false⟩,
  ⟨2, (some 70), none, .mo (.mv (.tmp 1)), [], false⟩,
  ⟨3, (some 71), none, .mo (.mv (.tmp 7)), [], false⟩,
  ⟨4, (some 72), none, .mo (.ia (.sl 32) (.tmp 70) (.tmp 71)), [], false⟩,
  ⟨5, (some 73), none, .mo (.ldA 32 (.tmp 72)), [], false⟩,
  ⟨6, (some 74), none, .mo (.bsl 32 [.int .u8 0, .int .u8 0, .int .u8 0, .int .u8 0, .int .u8 0, .int .u8 0, .int .u8 0, .int .u8 0, .int .u8 0, .int .u8 0, .int .u8 0, .int .u8 0, .int .u8 0, .int .u8 0, .int .u8 0, .int .u8 0, .int .u8 0, .int .u8 0, .int .u8 0, .int .u8 0, .int .u8 0, .int .u8 0, .int .u8 0, .int .u8 0, .int .u8 0, .int .u8 0, .int .u8 0, .int .u8 0, .int .u8 0, .int .u8 0, .int .u8 0, .int .u8 0] 1 [(0, (.tmp 73))]), [], false⟩,
  ⟨7, (some 75), none, .mo (.app 32 32 (.tmp 69) (.tmp 74)), [], false⟩,
  ⟨8, (some 76), none, .mo (.fa 1 (.tmp 9)), [], false⟩,
  ⟨9, none, none, .mo (.st 1 (.tmp 76) (.tmp 75)), [], false⟩])))
  (.reg [⟨0, (some 77), none, .mo (.fa 2 (.tmp 6)), [], false⟩,
  ⟨1, (some 78), none, .mo (.ld1 (.tmp 77)), [], false⟩,
  ⟨2, (some 79), none, .mo (.mv (.tmp 8)), [], false⟩,
  ⟨3, (some 80), none, .mo (.ldA 4 (.tmp 9)), [], false⟩,
  ⟨4, (some 81), none, .mo (.ia (.sl 4) (.tmp 78) (.tmp 79)), [], false⟩,
  ⟨5, none, none, .mo (.st 4 (.tmp 81) (.tmp 80)), [], false⟩])))))
  (.reg [⟨0, (some 41), none, .mo (.mv (.tmp 8)), [], false⟩,
  ⟨1, (some 42), none, .mo (.bin .add 3 (.tmp 41) (.const (.int .i64 1))), [], false⟩,
  ⟨2, (some 8), none, .mo (.mv (.tmp 42)), [], false⟩])))
def l20_1 : Cd := (.seq (.seq (.reg [⟨0, (some 30), none, .mo (.mv (.tmp 7)), [], false⟩,
  ⟨1, (some 31), none, .mo (.mv (.tmp 1)), [], false⟩,
  ⟨2, (some 32), none, .mo (.len (.sl 32) (.tmp 31)), [], false⟩,
  ⟨3, (some 33), none, .mo (.bin .lss 3 (.tmp 30) (.tmp 32)), [], false⟩])
  (.cond (.tmp 33) .skip (.exit 0)))
  (.seq (.block 1 (.seq (.seq (.reg [⟨0, (some 8), none, .mo (.mv (.const (.int .i64 0))), [], false⟩])
  (.block 2 (.loop l20_0)))
  (.reg [⟨0, (some 82), none, .mo (.fa 1 (.tmp 6)), [], false⟩,
  ⟨1, (some 83), none, .mo (.ld1 (.tmp 82)), [], false⟩,
  ⟨2, (some 84), none, .mo (.bin .add 3 (.tmp 83) (.const (.int .i64 1))), [], false⟩,
  ⟨3, (some 85), none, .mo (.fa 1 (.tmp 6)), [], false⟩,
  ⟨4, none, none, .mo (.st 1 (.tmp 85) (.tmp 84)), [], false⟩])))
  (.reg [⟨0, (some 34), none, .mo (.mv (.tmp 7)), [], false⟩,
  ⟨1, (some 35), none, .mo (.bin .add 3 (.tmp 34) (.const (.int .i64 1))), [], false⟩,
  ⟨2, (some 7), none, .mo (.mv (.tmp 35)), [], false⟩])))
def c20 : Cd := (.seq (.reg [⟨0, (some 2), none, .mo (.box (.tmp 0)), [], false⟩,
  ⟨1, (some 4), none, .mo (.alloc [.int .i64 0, .int .i64 0, .nilS]), [], false⟩,
  ⟨2, (some 5), none, .mo (.mv (.const (.int .i64 0))), [], false⟩])
  (.seq (.seq (.reg [⟨0, (some 10), none, .mo (.ldA 3 (.tmp 2)), [], false⟩,
  ⟨1, (some 11), none, .callF 13 [(.tmp 10)], [], false⟩,
  ⟨2, (some 12), none, .mo (.bin .neq 3 (.tmp 11) (.const (.int .i64 0))), [], false⟩])
  (.cond (.tmp 12) (.seq (.reg [⟨0, (some 13), none, .mo (.bld [.int .i64 0, .int .i64 0, .nilS] []), [], false⟩,
  ⟨1, (some 14), none, .mo (.ldA 3 (.tmp 2)), [], false⟩,
  ⟨2, (some 15), none, .callF 13 [(.tmp 14)], [], false⟩,
  ⟨3, none, none, .mo (.st 3 (.tmp 4) (.tmp 13)), [], false⟩,
  ⟨4, (some 5), none, .mo (.mv (.tmp 15)), [], false⟩])
  .ret) .skip))
  (.seq (.seq (.reg [⟨0, (some 16), none, .mo (.mv (.tmp 1)), [], false⟩,
  ⟨1, (some 17), none, .mo (.len (.sl 32) (.tmp 16)), [], false⟩,
  ⟨2, (some 18), none, .mo (.bin .gtr 3 (.tmp 17) (.const (.int .i64 60))), [], false⟩,
  ⟨3, (some 19), none, .mo (.mv (.tmp 18)), [], false⟩,
  ⟨4, (some 20), (some ((some 19), false)), .mo (.fa 1 (.tmp 2)), [], false⟩,
  ⟨5, (some 21), (some ((some 19), false)), .mo (.ld1 (.tmp 20)), [], false⟩,
  ⟨6, (some 22), (some ((some 19), false)), .mo (.mv (.tmp 1)), [], false⟩,
  ⟨7, (some 23), (some ((some 19), false)), .mo (.len (.sl 32) (.tmp 22)), [], false⟩,
  ⟨8, (some 24), (some ((some 19), false)), .mo (.bin .add 3 (.tmp 21) (.tmp 23)), [], false⟩,
  ⟨9, (some 25), (some ((some 19), false)), .mo (.bin .gtr 3 (.tmp 24) (.const (.int .i64 1000000000))), [], false⟩,
  ⟨10, (some 26), none, .mo (.pick (.tmp 19) (.const (.bool true)) (.tmp 25)), [], false⟩])
  (.cond (.tmp 26) (.seq (.reg [⟨0, (some 27), none, .mo (.bld [.int .i64 0, .int .i64 0, .nilS] []), [], false⟩,
  ⟨1, none, none, .mo (.st 3 (.tmp 4) (.tmp 27)), [], false⟩,
  ⟨2, (some 5), none, .mo (.mv (.const (.int .i64 4))), [], false⟩])
  .ret) .skip))
  (.seq (.reg [⟨0, (some 28), none, .mo (.ldA 3 (.tmp 2)), [], false⟩,
  ⟨1, (some 29), none, .callF 17 [(.tmp 28)], [], false⟩,
  ⟨2, (some 6), none, .mo (.alloc [.int .i64 0, .int .i64 0, .nilS]), [], false⟩,
  ⟨3, none, none, .mo (.st 3 (.tmp 6) (.tmp 29)), [], false⟩])
  (.seq (.seq (.reg [⟨0, (some 7), none, .mo (.mv (.const (.int .i64 0))), [], false⟩])
  (.block 0 (.loop l20_1)))
  (.seq (.reg [⟨0, (some 86), none, .mo (.ldA 3 (.tmp 6)), [], false⟩,
  ⟨1, none, none, .mo (.st 3 (.tmp 4) (.tmp 86)), [], false⟩,
  ⟨2, (some 5), none, .mo (.mv (.const (.int .i64 0))), [], false⟩])
  .ret))))))
def r20 : List Mo := [.ldA 3 (.tmp 4), .mv (.tmp 5)]
theorem c20_eq : compF Try.prog 20 = some c20 := by kernel_rfl
theorem r20_eq : compRs Try.prog 20 = some r20 := by kernel_rfl
/-! F21 braid/braidref20.Same -/
def l21_0 : Cd := (.seq (.seq (.reg [⟨0, (some 27), none, .mo (.mv (.tmp 5)), [], false⟩,
  ⟨1, (some 28), none, .mo (.fa 2 (.tmp 2)), [], false⟩,
  ⟨2, (some 29), none, .mo (.ld1 (.tmp 28)), [], false⟩,
  ⟨3, (some 30), none, .mo (.len (.sl 4) (.tmp 29)), [], false⟩,
  ⟨4, (some 31), none, .mo (.bin .lss 3 (.tmp 27) (.tmp 30)), [], false⟩])
  (.cond (.tmp 31) .skip (.exit 0)))
  (.seq (.block 1 (.seq (.reg [⟨0, (some 34), none, .mo (.fa 2 (.tmp 2)), [], false⟩,
  ⟨1, (some 35), none, .mo (.ld1 (.tmp 34)), [], false⟩,
  ⟨2, (some 36), none, .mo (.mv (.tmp 5)), [], false⟩,
  ⟨3, (some 37), none, .mo (.ia (.sl 4) (.tmp 35) (.tmp 36)), [], false⟩,
  ⟨4, (some 38), none, .mo (.ldA 4 (.tmp 37)), [], false⟩,
  ⟨5, (some 39), none, .mo (.fa 2 (.tmp 3)), [], false⟩,
  ⟨6, (some 40), none, .mo (.ld1 (.tmp 39)), [], false⟩,
  ⟨7, (some 41), none, .mo (.mv (.tmp 5)), [], false⟩,
  ⟨8, (some 42), none, .mo (.ia (.sl 4) (.tmp 40) (.tmp 41)), [], false⟩,
  ⟨9, (some 43), none, .mo (.ldA 4 (.tmp 42)), [], false⟩,
  ⟨10, (some 44), none, .callF 26 [(.tmp 38), (.tmp 43)], [], false⟩,
  ⟨11, (some 45), none, .mo (.un .not (.tmp 44)), [], false⟩])
  (.cond (.tmp 45) (.seq (.reg [⟨0, (some 4), none, .mo (.mv (.const (.bool false))), [], false⟩])
  .ret) .skip)))
  (.reg [⟨0, (some 32), none, .mo (.mv (.tmp 5)), [], false⟩,
  ⟨1, (some 33), none, .mo (.bin .add 3 (.tmp 32) (.const (.int .i64 1))), [], false⟩,
  ⟨2, (some 5), none, .mo (.mv (.tmp 33)), [], false⟩])))
def c21 : Cd := (.seq (.reg [⟨0, (some 2), none, .mo (.box (.tmp 0)), [], false⟩,
  ⟨1, (some 3), none, .mo (.box (.tmp 1)), [], false⟩,
  ⟨2, (some 4), none, .mo (.mv (.const (.bool false))), [], false⟩])
  (.seq (.seq (.reg [⟨0, (some 6), none, .mo (.fa 0 (.tmp 2)), [], false⟩,
  ⟨1, (some 7), none, .mo (.ld1 (.tmp 6)), [], false⟩,
  ⟨2, (some 8), none, .mo (.fa 0 (.tmp 3)), [], false⟩,
  ⟨3, (some 9), none, .mo (.ld1 (.tmp 8)), [], false⟩,
  ⟨4, (some 10), none, .mo (.bin .neq 3 (.tmp 7) (.tmp 9)), [], false⟩,
  ⟨5, (some 11), none, .mo (.mv (.tmp 10)), [], false⟩,
  ⟨6, (some 12), (some ((some 11), false)), .mo (.fa 1 (.tmp 2)), [], false⟩,
  ⟨7, (some 13), (some ((some 11), false)), .mo (.ld1 (.tmp 12)), [], false⟩,
  ⟨8, (some 14), (some ((some 11), false)), .mo (.fa 1 (.tmp 3)), [], false⟩,
  ⟨9, (some 15), (some ((some 11), false)), .mo (.ld1 (.tmp 14)), [], false⟩,
  ⟨10, (some 16), (some ((some 11), false)), .mo (.bin .neq 3 (.tmp 13) (.tmp 15)), [], false⟩,
  ⟨11, (some 17), none, .mo (.pick (.tmp 11) (.const (.bool true)) (.tmp 16)), [], false⟩,
  ⟨12, (some 18), none, .mo (.mv (.tmp 17)), [], false⟩,
  ⟨13, (some 19), (some ((some 18), false)), .mo (.fa 2 (.tmp 2)), [], false⟩,
  ⟨14, (some 20), (some ((some 18), false)), .mo (.ld1 (.tmp 19)), [], false⟩,
  ⟨15, (some 21), (some ((some 18), false)), .mo (.len (.sl 4) (.tmp 20)), [], false⟩,
  ⟨16, (some 22), (some ((some 18), false)), .mo (.fa 2 (.tmp 3)), [], false⟩,
  ⟨17, (some 23), (some ((some 18), false)), .mo (.ld1 (.tmp 22)), [], false⟩,
  ⟨18, (some 24), (some ((some 18), false)), .mo (.len (.sl 4) (.tmp 23)), [], false⟩,
  ⟨19, (some 25), (some ((some 18), false)), .mo (.bin .neq 3 (.tmp 21) (.tmp 24)), [], false⟩,
  ⟨20, (some 26), none, .mo (.pick (.tmp 18) (.const (.bool true)) (.tmp 25)), [], false⟩])
  (.cond (.tmp 26) (.seq (.reg [⟨0, (some 4), none, .mo (.mv (.const (.bool false))), [], false⟩])
  .ret) .skip))
  (.seq (.seq (.reg [⟨0, (some 5), none, .mo (.mv (.const (.int .i64 0))), [], false⟩])
  (.block 0 (.loop l21_0)))
  (.seq (.reg [⟨0, (some 4), none, .mo (.mv (.const (.bool true))), [], false⟩])
  .ret))))
def r21 : List Mo := [.mv (.tmp 4)]
theorem c21_eq : compF Try.prog 21 = some c21 := by kernel_rfl
theorem r21_eq : compRs Try.prog 21 = some r21 := by kernel_rfl
/-! F22 braid/braidref20.Take -/
def c22 : Cd := (.seq (.reg [⟨0, (some 2), none, .mo (.box (.tmp 0)), [], false⟩,
  ⟨1, (some 4), none, .mo (.alloc [.int .i64 0, .int .i64 0, .nilS]), [], false⟩,
  ⟨2, (some 5), none, .mo (.mv (.const (.int .u8 0))), [], false⟩,
  ⟨3, (some 6), none, .mo (.mv (.const (.int .i64 0))), [], false⟩,
  ⟨4, (some 7), none, .mo (.alloc [.int .u8 0, .int .u8 0, .int .u8 0, .int .u8 0, .int .u8 0, .int .u8 0, .int .u8 0, .int .u8 0, .int .u8 0, .int .u8 0, .int .u8 0, .int .u8 0, .int .u8 0, .int .u8 0, .int .u8 0, .int .u8 0, .int .u8 0, .int .u8 0, .int .u8 0, .int .u8 0, .int .u8 0, .int .u8 0, .int .u8 0, .int .u8 0, .int .u8 0, .int .u8 0, .int .u8 0, .int .u8 0, .int .u8 0, .int .u8 0, .int .u8 0, .int .u8 0]), [], false⟩,
  ⟨5, (some 8), none, .mo (.mv (.const (.int .i64 0))), [], false⟩])
  (.seq (.seq (.reg [⟨0, (some 11), none, .mo (.ldA 3 (.tmp 2)), [], false⟩,
  ⟨1, (some 12), none, .mo (.mv (.tmp 1)), [], false⟩,
  ⟨2, (some 13), none, .callF 31 [(.tmp 11), (.tmp 12)], [], false⟩,
  ⟨3, (some 14), none, .mo (.bin .neq 3 (.tmp 13) (.const (.int .i64 0))), [], false⟩])
  (.cond (.tmp 14) (.seq (.reg [⟨0, (some 15), none, .mo (.bld [.int .i64 0, .int .i64 0, .nilS] []), [], false⟩,
  ⟨1, (some 16), none, .mo (.bld [.int .u8 0, .int .u8 0, .int .u8 0, .int .u8 0, .int .u8 0, .int .u8 0, .int .u8 0, .int .u8 0, .int .u8 0, .int .u8 0, .int .u8 0, .int .u8 0, .int .u8 0, .int .u8 0, .int .u8 0, .int .u8 0, .int .u8 0, .int .u8 0, .int .u8 0, .int .u8 0, .int .u8 0, .int .u8 0, .int .u8 0, .int .u8 0, .int .u8 0, .int .u8 0, .int .u8 0, .int .u8 0, .int .u8 0, .int .u8 0, .int .u8 0, .int .u8 0] []), [], false⟩,
  ⟨2, (some 17), none, .mo (.ldA 3 (.tmp 2)), [], false⟩,
  ⟨3, (some 18), none, .mo (.mv (.tmp 1)), [], false⟩,
  ⟨4, (some 19), none, .callF 31 [(.tmp 17), (.tmp 18)], [], false⟩,
  ⟨5, none, none, .mo (.st 3 (.tmp 4) (.tmp 15)), [], false⟩,
  ⟨6, (some 5), none, .mo (.mv (.const (.int .u8 0))), [], false⟩,
  ⟨7, (some 6), none, .mo (.mv (.const (.int .i64 0))), [], false⟩,
  ⟨8, none, none, .mo (.st 32 (.tmp 7) (.tmp 16)), [], false⟩,
  ⟨9, (some 8), none, .mo (.mv (.tmp 19)), [], false⟩])
  .ret) .skip))
  (.seq (.reg [⟨0, (some 20), none, .mo (.ldA 3 (.tmp 2)), [], false⟩,
  ⟨1, (some 21), none, .callF 17 [(.tmp 20)], [], false⟩,
  ⟨2, (some 9), none, .mo (.alloc [.int .i64 0, .int .i64 0, .nilS]), [], false⟩,
  ⟨3, none, none, .mo (.st 3 (.tmp 9) (.tmp 21)), [], false⟩])
  (.seq (.reg [⟨0, (some 22), none, .mo (.fa 2 (.tmp 2)), [], false⟩,
  ⟨1, (some 23), none, .mo (.ld1 (.tmp 22)), [], false⟩,
  ⟨2, (some 24), none, .mo (.mv (.tmp 1)), [], false⟩,
  ⟨3, (some 25), none, .mo (.ia (.sl 4) (.tmp 23) (.tmp 24)), [], false⟩,
  ⟨4, (some 26), none, .mo (.ldA 4 (.tmp 25)), [], false⟩,
  ⟨5, (some 10), none, .mo (.alloc [.int .i64 0, .nilS, .bool false, .bool false]), [], false⟩,
  ⟨6, none, none, .mo (.st 4 (.tmp 10) (.tmp 26)), [], false⟩])
  (.seq (.seq (.reg [⟨0, (some 27), none, .mo (.fa 1 (.tmp 10)), [], false⟩,
  ⟨1, (some 28), none, .mo (.ld1 (.tmp 27)), [], false⟩,
  ⟨2, (some 29), none, .mo (.len (.sl 32) (.tmp 28)), [], false⟩,
  ⟨3, (some 30), none, .mo (.bin .gtr 3 (.tmp 29) (.const (.int .i64 0))), [], false⟩])
  (.cond (.tmp 30) (.seq (.reg [⟨0, (some 31), none, .mo (.fa 2 (.tmp 9)), [], false⟩,
  ⟨1, (some 32), none, .mo (.ld1 (.tmp 31)), [], false⟩,
  ⟨2, (some 33), none, .mo (.mv (.tmp 1)), [], false⟩,
  ⟨3, (some 34), none, .mo (.fa 2 (.tmp 9)), [], false⟩,
  ⟨4, (some 35), none, .mo (.ld1 (.tmp 34)), [], false⟩,
  ⟨5, (some 36), none, .mo (.mv (.tmp 1)), [], false⟩,
  ⟨6, (some 37), none, .mo (.ia (.sl 4) (.tmp 35) (.tmp 36)), [], false⟩,
  ⟨7, (some 38), none, .mo (.fa 1 (.tmp 37)), [], false⟩,
  ⟨8, (some 39), none, .mo (.ld1 (.tmp 38)), [], false⟩,
  ⟨9, (some 40), none, .mo (.slice (.sl 32) (.tmp 39) (some (.const (.int .i64 1))) none none), [], false⟩,
  ⟨10, (some 41), none, .mo (.ia (.sl 4) (.tmp 32) (.tmp 33)), [], false⟩,
  ⟨11, (some 42), none, .mo (.fa 1 (.tmp 41)), [], false⟩,
  ⟨12, none, none, .mo (.st 1 (.tmp 42) (.tmp 40)), [], false⟩])
  (.seq (.reg [⟨0, (some 43), none, .mo (.fa 2 (.tmp 9)), [], false⟩,
  ⟨1, (some 44), none, .mo (.ld1 (.tmp 43)), [], false⟩,
  ⟨2, (some 45), none, .mo (.mv (.tmp 1)), [], false⟩,
  ⟨3, (some 46), none, .mo (.ia (.sl 4) (.tmp 44) (.tmp 45)), [], false⟩,
  ⟨4, (some 47), none, .mo (.fa 0 (.tmp 46)), [], false⟩,
  ⟨5, (some 48), none, .mo (.ld1 (.tmp 47)), [], false⟩,
  ⟨6, (some 49), none, .mo (.bin .add 3 (.tmp 48) (.const (.int .i64 1))), [], false⟩,
  ⟨7, (some 50), none, .mo (.ia (.sl 4) (.tmp 44) (.tmp 45)), [], false⟩,
  ⟨8, (some 51), none, .mo (.fa 0 (.tmp 50)), [], false⟩,
  ⟨9, none, none, .mo (.st 1 (.tmp 51) (.tmp 49)), [], false⟩])
  (.seq (.dreg [⟨0, (some 52), none, .mo (.ldA 3 (.tmp 9)), [], false⟩,
  ⟨1, (some 53), none, .mo (.fa 0 (.tmp 10)), [], false⟩,
  ⟨2, (some 54), none, .mo (.ld1 (.tmp 53)), [], true⟩,
  ⟨3, (some 55), none, .mo (.fa 1 (.tmp 10)), [], false⟩,
  ⟨4, (some 56), none, .mo (.ld1 (.tmp 55)), [], true⟩,
  ⟨5, (some 57), none, .mo (.ia (.sl 32) (.tmp 56) (.const (.int .i64 0))), [], false⟩,
  ⟨6, (some 58), none, .mo (.ldA 32 (.tmp 57)), [], true⟩,
  ⟨7, none, none, .mo (.st 3 (.tmp 4) (.tmp 52)), [6, 4, 2], false⟩,
  ⟨8, (some 5), none, .mo (.mv (.const (.int .u8 1))), [], false⟩,
  ⟨9, (some 6), none, .mo (.mv (.tmp 54)), [], false⟩,
  ⟨10, none, none, .mo (.st 32 (.tmp 7) (.tmp 58)), [], false⟩,
  ⟨11, (some 8), none, .mo (.mv (.const (.int .i64 0))), [], false⟩])
  .ret))) .skip))
  (.seq (.seq (.reg [⟨0, (some 59), none, .mo (.fa 2 (.tmp 10)), [], false⟩,
  ⟨1, (some 60), none, .mo (.ld1 (.tmp 59)), [], false⟩,
  ⟨2, (some 61), none, .mo (.un .not (.tmp 60)), [], false⟩])
  (.cond (.tmp 61) (.seq (.reg [⟨0, (some 62), none, .mo (.bld [.int .i64 0, .int .i64 0, .nilS] []), [], false⟩,
  ⟨1, (some 63), none, .mo (.bld [.int .u8 0, .int .u8 0, .int .u8 0, .int .u8 0, .int .u8 0, .int .u8 0, .int .u8 0, .int .u8 0, .int .u8 0, .int .u8 0, .int .u8 0, .int .u8 0, .int .u8 0, .int .u8 0, .int .u8 0, .int .u8 0, .int .u8 0, .int .u8 0, .int .u8 0, .int .u8 0, .int .u8 0, .int .u8 0, .int .u8 0, .int .u8 0, .int .u8 0, .int .u8 0, .int .u8 0, .int .u8 0, .int .u8 0, .int .u8 0, .int .u8 0, .int .u8 0] []), [], false⟩,
  ⟨2, none, none, .mo (.st 3 (.tmp 4) (.tmp 62)), [], false⟩,
  ⟨3, (some 5), none, .mo (.mv (.const (.int .u8 0))), [], false⟩,
  ⟨4, (some 6), none, .mo (.mv (.const (.int .i64 0))), [], false⟩,
  ⟨5, none, none, .mo (.st 32 (.tmp 7) (.tmp 63)), [], false⟩,
  ⟨6, (some 8), none, .mo (.mv (.const (.int .i64 38))), [], false⟩])
  .ret) .skip))
  (.seq (.reg [⟨0, (some 64), none, .mo (.fa 2 (.tmp 9)), [], false⟩,
  ⟨1, (some 65), none, .mo (.ld1 (.tmp 64)), [], false⟩,
  ⟨2, (some 66), none, .mo (.mv (.tmp 1)), [], false⟩,
  ⟨3, (some 67), none, .mo (.ia (.sl 4) (.tmp 65) (.tmp 66)), [], false⟩,
  ⟨4, (some 68), none, .mo (.fa 2 (.tmp 67)), [], false⟩,
  ⟨5, none, none, .mo (.st 1 (.tmp 68) (.const (.bool false))), [], false⟩])
  (.seq (.reg [⟨0, (some 69), none, .mo (.fa 2 (.tmp 9)), [], false⟩,
  ⟨1, (some 70), none, .mo (.ld1 (.tmp 69)), [], false⟩,
  ⟨2, (some 71), none, .mo (.mv (.tmp 1)), [], false⟩,
  ⟨3, (some 72), none, .mo (.ia (.sl 4) (.tmp 70) (.tmp 71)), [], false⟩,
  ⟨4, (some 73), none, .mo (.fa 3 (.tmp 72)), [], false⟩,
  ⟨5, none, none, .mo (.st 1 (.tmp 73) (.const (.bool true))), [], false⟩])
  (.seq (.dreg [⟨0, (some 74), none, .mo (.ldA 3 (.tmp 9)), [], false⟩,
  ⟨1, (some 75), none, .mo (.fa 0 (.tmp 10)), [], false⟩,
  ⟨2, (some 76), none, .mo (.ld1 (.tmp 75)), [], true⟩,
  ⟨3, (some 77), none, .mo (.bld [.int .u8 0, .int .u8 0, .int .u8 0, .int .u8 0, .int .u8 0, .int .u8 0, .int .u8 0, .int .u8 0, .int .u8 0, .int .u8 0, .int .u8 0, .int .u8 0, .int .u8 0, .int .u8 0, .int .u8 0, .int .u8 0, .int .u8 0, .int .u8 0, .int .u8 0, .int .u8 0, .int .u8 0, .int .u8 0, .int .u8 0, .int .u8 0, .int .u8 0, .int .u8 0, .int .u8 0, .int .u8 0, .int .u8 0, .int .u8 0, .int .u8 0, .int .u8 0] []), [], false⟩,
  ⟨4, none, none, .mo (.st 3 (.tmp 4) (.tmp 74)), [2], false⟩,
  ⟨5, (some 5), none, .mo (.mv (.const (.int .u8 2))), [], false⟩,
  ⟨6, (some 6), none, .mo (.mv (.tmp 76)), [], false⟩,
  ⟨7, none, none, .mo (.st 32 (.tmp 7) (.tmp 77)), [], false⟩,
  ⟨8, (some 8), none, .mo (.mv (.const (.int .i64 0))), [], false⟩])
  .ret)))))))))
def r22 : List Mo := [.ldA 3 (.tmp 4), .mv (.tmp 5), .mv (.tmp 6), .ldA 32 (.tmp 7), .mv (.tmp 8)]
theorem c22_eq : compF Try.prog 22 = some c22 := by kernel_rfl
theorem r22_eq : compRs Try.prog 22 = some r22 := by kernel_rfl
/-! F23 braid/feed.End -/
def c23 : Cd := (.seq (.reg [⟨0, (some 2), none, .mo (.box (.tmp 0)), [], false⟩,
  ⟨1, (some 4), none, .mo (.alloc [.int .i64 0, .int .i64 0, .nilS]), [], false⟩,
  ⟨2, (some 5), none, .mo (.mv (.const (.int .i64 0))), [], false⟩])
  (.seq (.seq (.reg [⟨0, (some 8), none, .mo (.ldA 3 (.tmp 2)), [], false⟩,
  ⟨1, (some 9), none, .mo (.mv (.tmp 1)), [], false⟩,
  ⟨2, (some 10), none, .callF 30 [(.tmp 8), (.tmp 9)], [], false⟩,
  ⟨3, (some 6), none, .mo (.mv (.tmp 10)), [], false⟩])
  (.seq (.reg [⟨0, (some 11), none, .mo (.mv (.tmp 6)), [], false⟩,
  ⟨1, (some 12), none, .mo (.bin .neq 27 (.tmp 11) (.const (.int .i64 0))), [], false⟩])
  (.cond (.tmp 12) (.seq (.reg [⟨0, (some 13), none, .mo (.bld [.int .i64 0, .int .i64 0, .nilS] []), [], false⟩,
  ⟨1, (some 14), none, .mo (.mv (.tmp 6)), [], false⟩,
  ⟨2, none, none, .mo (.st 3 (.tmp 4) (.tmp 13)), [], false⟩,
  ⟨3, (some 5), none, .mo (.mv (.tmp 14)), [], false⟩])
  .ret) .skip)))
  (.seq (.reg [⟨0, (some 15), none, .mo (.ldA 3 (.tmp 2)), [], false⟩,
  ⟨1, (some 16), none, .callF 27 [(.tmp 15)], [], false⟩,
  ⟨2, (some 7), none, .mo (.alloc [.int .i64 0, .int .i64 0, .nilS]), [], false⟩,
  ⟨3, none, none, .mo (.st 3 (.tmp 7) (.tmp 16)), [], false⟩])
  (.seq (.dreg [⟨0, (some 17), none, .mo (.fa 2 (.tmp 7)), [], false⟩,
  ⟨1, (some 18), none, .mo (.ld1 (.tmp 17)), [], false⟩,
  ⟨2, (some 19), none, .mo (.mv (.tmp 1)), [], false⟩,
  ⟨3, (some 20), none, .mo (.fa 2 (.tmp 7)), [], false⟩,
  ⟨4, (some 21), none, .mo (.ld1 (.tmp 20)), [], true⟩,
  ⟨5, (some 22), none, .mo (.mv (.tmp 1)), [], false⟩,
  ⟨6, (some 23), none, .mo (.fa 2 (.tmp 7)), [], false⟩,
  ⟨7, (some 24), none, .mo (.ld1 (.tmp 23)), [], true⟩,
  ⟨8, (some 25), none, .mo (.mv (.tmp 1)), [], false⟩,
  ⟨9, (some 26), none, .mo (.ia (.sl 4) (.tmp 18) (.tmp 19)), [], false⟩,
  ⟨10, (some 27), none, .mo (.fa 1 (.tmp 26)), [], false⟩,
  ⟨11, none, none, .mo (.st 1 (.tmp 27) (.const (.slice none 0 0))), [7, 4], false⟩,
  ⟨12, (some 28), none, .mo (.ia (.sl 4) (.tmp 21) (.tmp 22)), [], false⟩,
  ⟨13, (some 29), none, .mo (.fa 2 (.tmp 28)), [], false⟩,
  ⟨14, none, none, .mo (.st 1 (.tmp 29) (.const (.bool false))), [7], false⟩,
  ⟨15, (some 30), none, .mo (.ia (.sl 4) (.tmp 24) (.tmp 25)), [], false⟩,
  ⟨16, (some 31), none, .mo (.fa 3 (.tmp 30)), [], false⟩,
  ⟨17, none, none, .mo (.st 1 (.tmp 31) (.const (.bool true))), [], false⟩])
  (.seq (.reg [⟨0, (some 32), none, .mo (.ldA 3 (.tmp 7)), [], false⟩,
  ⟨1, none, none, .mo (.st 3 (.tmp 4) (.tmp 32)), [], false⟩,
  ⟨2, (some 5), none, .mo (.mv (.const (.int .i64 0))), [], false⟩])
  .ret)))))
def r23 : List Mo := [.ldA 3 (.tmp 4), .mv (.tmp 5)]
theorem c23_eq : compF Try.prog 23 = some c23 := by kernel_rfl
theorem r23_eq : compRs Try.prog 23 = some r23 := by kernel_rfl
/-! F24 braid/braidref20.End -/
def c24 : Cd := (.seq (.reg [⟨0, (some 2), none, .mo (.box (.tmp 0)), [], false⟩,
  ⟨1, (some 4), none, .mo (.alloc [.int .i64 0, .int .i64 0, .nilS]), [], false⟩,
  ⟨2, (some 5), none, .mo (.mv (.const (.int .i64 0))), [], false⟩])
  (.seq (.seq (.reg [⟨0, (some 7), none, .mo (.ldA 3 (.tmp 2)), [], false⟩,
  ⟨1, (some 8), none, .mo (.mv (.tmp 1)), [], false⟩,
  ⟨2, (some 9), none, .callF 31 [(.tmp 7), (.tmp 8)], [], false⟩,
  ⟨3, (some 10), none, .mo (.bin .neq 3 (.tmp 9) (.const (.int .i64 0))), [], false⟩])
  (.cond (.tmp 10) (.seq (.reg [⟨0, (some 11), none, .mo (.bld [.int .i64 0, .int .i64 0, .nilS] []), [], false⟩,
  ⟨1, (some 12), none, .mo (.ldA 3 (.tmp 2)), [], false⟩,
  ⟨2, (some 13), none, .mo (.mv (.tmp 1)), [], false⟩,
  ⟨3, (some 14), none, .callF 31 [(.tmp 12), (.tmp 13)], [], false⟩,
  ⟨4, none, none, .mo (.st 3 (.tmp 4) (.tmp 11)), [], false⟩,
  ⟨5, (some 5), none, .mo (.mv (.tmp 14)), [], false⟩])
  .ret) .skip))
  (.seq (.reg [⟨0, (some 15), none, .mo (.ldA 3 (.tmp 2)), [], false⟩,
  ⟨1, (some 16), none, .callF 17 [(.tmp 15)], [], false⟩,
  ⟨2, (some 6), none, .mo (.alloc [.int .i64 0, .int .i64 0, .nilS]), [], false⟩,
  ⟨3, none, none, .mo (.st 3 (.tmp 6) (.tmp 16)), [], false⟩])
  (.seq (.reg [⟨0, (some 17), none, .mo (.fa 2 (.tmp 6)), [], false⟩,
  ⟨1, (some 18), none, .mo (.ld1 (.tmp 17)), [], false⟩,
  ⟨2, (some 19), none, .mo (.mv (.tmp 1)), [], false⟩,
  ⟨3, (some 20), none, .mo (.fa 2 (.tmp 2)), [], false⟩,
  ⟨4, (some 21), none, .mo (.ld1 (.tmp 20)), [], false⟩,
  ⟨5, (some 22), none, .mo (.mv (.tmp 1)), [], false⟩,
  ⟨6, (some 23), none, .mo (.ia (.sl 4) (.tmp 21) (.tmp 22)), [], false⟩,
  ⟨7, (some 24), none, .mo (.fa 0 (.tmp 23)), [], false⟩,
  ⟨8, (some 25), none, .mo (.ld1 (.tmp 24)), [], false⟩,
  ⟨9, (some 26), none, .mo (.bld [.int .i64 0, .nilS, .bool false, .bool false] [(0, 1, (.tmp 25)), (3, 1, (.const (.bool true)))]), [], false⟩,
  ⟨10, (some 27), none, .mo (.ia (.sl 4) (.tmp 18) (.tmp 19)), [], false⟩,
  ⟨11, none, none, .mo (.st 4 (.tmp 27) (.tmp 26)), [], false⟩])
  (.seq (.reg [⟨0, (some 28), none, .mo (.ldA 3 (.tmp 6)), [], false⟩,
  ⟨1, none, none, .mo (.st 3 (.tmp 4) (.tmp 28)), [], false⟩,
  ⟨2, (some 5), none, .mo (.mv (.const (.int .i64 0))), [], false⟩])
  .ret)))))
def r24 : List Mo := [.ldA 3 (.tmp 4), .mv (.tmp 5)]
theorem c24_eq : compF Try.prog 24 = some c24 := by kernel_rfl
theorem r24_eq : compRs Try.prog 24 = some r24 := by kernel_rfl
/-! F25 braid/feed.Check -/
def l25_0 : Cd := (.seq (.reg [⟨0, (some 38), none, .mo (.bin .lss 3 (.tmp 37) (.tmp 36)), [], false⟩])
  (.seq (.cond (.tmp 38) .skip (.exit 0))
  (.seq (.block 1 (.seq (.reg [⟨0, (some 39), none, .mo (.ia (.sl 4) (.tmp 35) (.tmp 37)), [], false⟩,
  ⟨1, (some 40), none, .mo (.ldA 4 (.tmp 39)), [], false⟩,
  ⟨2, (some 4), none, .mo (.alloc [.int .i64 0, .nilS, .bool false, .bool false]), [], false⟩,
  ⟨3, none, none, .mo (.st 4 (.tmp 4) (.tmp 40)), [], false⟩])
  (.seq (.reg [⟨0, (some 41), none, .mo (.ldA 3 (.tmp 1)), [], false⟩,
  ⟨1, (some 42), none, .mo (.ldA 4 (.tmp 4)), [], false⟩,
  ⟨2, (some 43), none, .callF 32 [(.tmp 41), (.tmp 42)], [], false⟩,
  ⟨3, (some 44), none, .mo (.un .not (.tmp 43)), [], false⟩])
  (.cond (.tmp 44) (.seq (.reg [⟨0, (some 2), none, .mo (.mv (.const (.int .i64 8))), [], false⟩])
  .ret) .skip))))
  (.reg [⟨0, (some 45), none, .mo (.bin .add 3 (.tmp 37) (.const (.int .i64 1))), [], false⟩,
  ⟨1, (some 37), none, .mo (.mv (.tmp 45)), [], false⟩]))))
def c25 : Cd := (.seq (.reg [⟨0, (some 1), none, .mo (.box (.tmp 0)), [], false⟩,
  ⟨1, (some 2), none, .mo (.mv (.const (.int .i64 0))), [], false⟩])
  (.seq (.seq (.reg [⟨0, (some 5), none, .mo (.fa 0 (.tmp 1)), [], false⟩,
  ⟨1, (some 6), none, .mo (.ld1 (.tmp 5)), [], false⟩,
  ⟨2, (some 7), none, .mo (.bin .lss 3 (.tmp 6) (.const (.int .i64 1))), [], false⟩,
  ⟨3, (some 8), none, .mo (.mv (.tmp 7)), [], false⟩,
  ⟨4, (some 9), (some ((some 8), false)), .mo (.fa 0 (.tmp 1)), [], false⟩,
  ⟨5, (some 10), (some ((some 8), false)), .mo (.ld1 (.tmp 9)), [], false⟩,
  ⟨6, (some 11), (some ((some 8), false)), .mo (.bin .gtr 3 (.tmp 10) (.const (.int .i64 8))), [], false⟩,
  ⟨7, (some 12), none, .mo (.pick (.tmp 8) (.const (.bool true)) (.tmp 11)), [], false⟩,
  ⟨8, (some 13), none, .mo (.mv (.tmp 12)), [], false⟩,
  ⟨9, (some 14), (some ((some 13), false)), .mo (.fa 1 (.tmp 1)), [], false⟩,
  ⟨10, (some 15), (some ((some 13), false)), .mo (.ld1 (.tmp 14)), [], false⟩,
  ⟨11, (some 16), (some ((some 13), false)), .mo (.bin .lss 3 (.tmp 15) (.const (.int .i64 0))), [], false⟩,
  ⟨12, (some 17), none, .mo (.pick (.tmp 13) (.const (.bool true)) (.tmp 16)), [], false⟩,
  ⟨13, (some 18), none, .mo (.mv (.tmp 17)), [], false⟩,
  ⟨14, (some 19), (some ((some 18), false)), .mo (.fa 1 (.tmp 1)), [], false⟩,
  ⟨15, (some 20), (some ((some 18), false)), .mo (.ld1 (.tmp 19)), [], false⟩,
  ⟨16, (some 21), (some ((some 18), false)), .mo (.bin .gtr 3 (.tmp 20) (.const (.int .i64 1000000000))), [], false⟩,
  ⟨17, (some 22), none, .mo (.pick (.tmp 18) (.const (.bool true)) (.tmp 21)), [], false⟩,
  ⟨18, (some 23), none, .mo (.mv (.tmp 22)), [], false⟩,
  ⟨19, (some 24), (some ((some 23), false)), .mo (.fa 2 (.tmp 1)), [], false⟩,
  ⟨20, (some 25), (some ((some 23), false)), .mo (.ld1 (.tmp 24)), [], false⟩,
  ⟨21, (some 26), (some ((some 23), false)), .mo (.len (.sl 4) (.tmp 25)), [], false⟩,
  ⟨22, (some 27), (some ((some 23), false)), .mo (.bin .gtr 3 (.tmp 26) (.const (.int .i64 60))), [], false⟩,
  ⟨23, (some 28), none, .mo (.pick (.tmp 23) (.const (.bool true)) (.tmp 27)), [], false⟩,
  ⟨24, (some 29), none, .mo (.mv (.tmp 28)), [], false⟩,
  ⟨25, (some 30), (some ((some 29), false)), .mo (.ldA 3 (.tmp 1)), [], false⟩,
  ⟨26, (some 31), (some ((some 29), false)), .callF 28 [(.tmp 30)], [], false⟩,
  ⟨27, (some 32), (some ((some 29), false)), .mo (.bin .gtr 3 (.tmp 31) (.const (.int .i64 4))), [], false⟩,
  ⟨28, (some 33), none, .mo (.pick (.tmp 29) (.const (.bool true)) (.tmp 32)), [], false⟩])
  (.cond (.tmp 33) (.seq (.reg [⟨0, (some 2), none, .mo (.mv (.const (.int .i64 8))), [], false⟩])
  .ret) .skip))
  (.seq (.seq (.reg [⟨0, (some 34), none, .mo (.fa 2 (.tmp 1)), [], false⟩,
  ⟨1, (some 35), none, .mo (.ld1 (.tmp 34)), [], false⟩,
  ⟨2, (some 36), none, .mo (.len (.sl 4) (.tmp 35)), [], false⟩,
  ⟨3, (some 37), none, .mo (.mv (.const (.int .i64 0))), [], false⟩])
  (.block 0 (.loop l25_0)))
  (.seq (.reg [⟨0, (some 2), none, .mo (.mv (.const (.int .i64 0))), [], false⟩])
  .ret))))
def r25 : List Mo := [.mv (.tmp 2)]
theorem c25_eq : compF Try.prog 25 = some c25 := by kernel_rfl
theorem r25_eq : compRs Try.prog 25 = some r25 := by kernel_rfl
/-! F26 braid/braidref20.SameQueue -/
def c26 : Cd := (.seq (.reg [⟨0, (some 2), none, .mo (.box (.tmp 0)), [], false⟩,
  ⟨1, (some 3), none, .mo (.box (.tmp 1)), [], false⟩,
  ⟨2, (some 4), none, .mo (.mv (.const (.bool false))), [], false⟩])
  (.seq (.reg [⟨0, (some 5), none, .mo (.fa 0 (.tmp 2)), [], false⟩,
  ⟨1, (some 6), none, .mo (.ld1 (.tmp 5)), [], false⟩,
  ⟨2, (some 7), none, .mo (.fa 0 (.tmp 3)), [], false⟩,
  ⟨3, (some 8), none, .mo (.ld1 (.tmp 7)), [], false⟩,
  ⟨4, (some 9), none, .mo (.bin .eql 3 (.tmp 6) (.tmp 8)), [], false⟩,
  ⟨5, (some 10), none, .mo (.mv (.tmp 9)), [], false⟩,
  ⟨6, (some 11), (some ((some 10), true)), .mo (.fa 2 (.tmp 2)), [], false⟩,
  ⟨7, (some 12), (some ((some 10), true)), .mo (.ld1 (.tmp 11)), [], false⟩,
  ⟨8, (some 13), (some ((some 10), true)), .mo (.fa 2 (.tmp 3)), [], false⟩,
  ⟨9, (some 14), (some ((some 10), true)), .mo (.ld1 (.tmp 13)), [], false⟩,
  ⟨10, (some 15), (some ((some 10), true)), .mo (.bin .eql 4 (.tmp 12) (.tmp 14)), [], false⟩,
  ⟨11, (some 16), none, .mo (.pick (.tmp 10) (.tmp 15) (.const (.bool false))), [], false⟩,
  ⟨12, (some 17), none, .mo (.mv (.tmp 16)), [], false⟩,
  ⟨13, (some 18), (some ((some 17), true)), .mo (.fa 3 (.tmp 2)), [], false⟩,
  ⟨14, (some 19), (some ((some 17), true)), .mo (.ld1 (.tmp 18)), [], false⟩,
  ⟨15, (some 20), (some ((some 17), true)), .mo (.fa 3 (.tmp 3)), [], false⟩,
  ⟨16, (some 21), (some ((some 17), true)), .mo (.ld1 (.tmp 20)), [], false⟩,
  ⟨17, (some 22), (some ((some 17), true)), .mo (.bin .eql 4 (.tmp 19) (.tmp 21)), [], false⟩,
  ⟨18, (some 23), none, .mo (.pick (.tmp 17) (.tmp 22) (.const (.bool false))), [], false⟩,
  ⟨19, (some 24), none, .mo (.mv (.tmp 23)), [], false⟩,
  ⟨20, (some 25), (some ((some 24), true)), .mo (.fa 1 (.tmp 2)), [], false⟩,
  ⟨21, (some 26), (some ((some 24), true)), .mo (.ld1 (.tmp 25)), [], false⟩,
  ⟨22, (some 27), (some ((some 24), true)), .mo (.fa 1 (.tmp 3)), [], false⟩,
  ⟨23, (some 28), (some ((some 24), true)), .mo (.ld1 (.tmp 27)), [], false⟩,
  ⟨24, (some 29), (some ((some 24), true)), .callF 33 [(.tmp 26), (.tmp 28)], [], false⟩,
  ⟨25, (some 30), none, .mo (.pick (.tmp 24) (.tmp 29) (.const (.bool false))), [], false⟩,
  ⟨26, (some 4), none, .mo (.mv (.tmp 30)), [], false⟩])
  .ret))
def r26 : List Mo := [.mv (.tmp 4)]
theorem c26_eq : compF Try.prog 26 = some c26 := by kernel_rfl
theorem r26_eq : compRs Try.prog 26 = some r26 := by kernel_rfl
/-! F27 braid/feed.twin -/
def l27_0 : Cd := (.seq (.reg [⟨0, (some 12), none, .mo (.bin .lss 3 (.tmp 11) (.tmp 10)), [], false⟩])
  (.seq (.cond (.tmp 12) .skip (.exit 0))
  (.seq (.block 1 (.seq (.reg [⟨0, (some 13), none, .mo (.mv (.tmp 11)), [], false⟩,
  ⟨1, (some 3), none, .mo (.mv (.tmp 13)), [], false⟩])
  (.dreg [⟨0, (some 14), none, .mo (.fa 2 (.tmp 1)), [], false⟩,
  ⟨1, (some 15), none, .mo (.ld1 (.tmp 14)), [], true⟩,
  ⟨2, (some 16), none, .mo (.mv (.tmp 3)), [], false⟩,
  ⟨3, (some 17), none, .mo (.fa 2 (.tmp 1)), [], false⟩,
  ⟨4, (some 18), none, .mo (.ld1 (.tmp 17)), [], false⟩,
  ⟨5, (some 19), none, .mo (.mv (.tmp 3)), [], false⟩,
  ⟨6, (some 20), none, .mo (.ia (.sl 4) (.tmp 18) (.tmp 19)), [], false⟩,
  ⟨7, (some 21), none, .mo (.fa 1 (.tmp 20)), [], false⟩,
  ⟨8, (some 22), none, .mo (.ld1 (.tmp 21)), [], false⟩,
  ⟨9, (some 23), none, .callF 35 [(.tmp 22)], [1], false⟩,
  ⟨10, (some 24), none, .mo (.ia (.sl 4) (.tmp 15) (.tmp 16)), [], false⟩,
  ⟨11, (some 25), none, .mo (.fa 1 (.tmp 24)), [], false⟩,
  ⟨12, none, none, .mo (.st 1 (.tmp 25) (.tmp 23)), [], false⟩])))
  (.reg [⟨0, (some 26), none, .mo (.bin .add 3 (.tmp 11) (.const (.int .i64 1))), [], false⟩,
  ⟨1, (some 11), none, .mo (.mv (.tmp 26)), [], false⟩]))))
def c27 : Cd := (.seq (.reg [⟨0, (some 1), none, .mo (.box (.tmp 0)), [], false⟩,
  ⟨1, (some 2), none, .mo (.alloc [.int .i64 0, .int .i64 0, .nilS]), [], false⟩])
  (.seq (.reg [⟨0, (some 4), none, .mo (.fa 2 (.tmp 1)), [], false⟩,
  ⟨1, (some 5), none, .mo (.ld1 (.tmp 4)), [], false⟩,
  ⟨2, (some 6), none, .callF 34 [(.tmp 5)], [], false⟩,
  ⟨3, (some 7), none, .mo (.fa 2 (.tmp 1)), [], false⟩,
  ⟨4, none, none, .mo (.st 1 (.tmp 7) (.tmp 6)), [], false⟩])
  (.seq (.seq (.reg [⟨0, (some 8), none, .mo (.fa 2 (.tmp 1)), [], false⟩,
  ⟨1, (some 9), none, .mo (.ld1 (.tmp 8)), [], false⟩,
  ⟨2, (some 10), none, .mo (.len (.sl 4) (.tmp 9)), [], false⟩,
  ⟨3, (some 11), none, .mo (.mv (.const (.int .i64 0))), [], false⟩])
  (.block 0 (.loop l27_0)))
  (.seq (.reg [⟨0, (some 27), none, .mo (.ldA 3 (.tmp 1)), [], false⟩,
  ⟨1, none, none, .mo (.st 3 (.tmp 2) (.tmp 27)), [], false⟩])
  .ret))))
def r27 : List Mo := [.ldA 3 (.tmp 2)]
theorem c27_eq : compF Try.prog 27 = some c27 := by kernel_rfl
theorem r27_eq : compRs Try.prog 27 = some r27 := by kernel_rfl
/-! F28 braid/feed.live -/
def l28_0 : Cd := (.seq (.reg [⟨0, (some 10), none, .mo (.bin .lss 3 (.tmp 9) (.tmp 8)), [], false⟩])
  (.seq (.cond (.tmp 10) .skip (.exit 0))
  (.seq (.block 1 (.seq (.reg [⟨0, (some 11), none, .mo (.ia (.sl 4) (.tmp 7) (.tmp 9)), [], false⟩,
  ⟨1, (some 12), none, .mo (.ldA 4 (.tmp 11)), [], false⟩,
  ⟨2, (some 5), none, .mo (.alloc [.int .i64 0, .nilS, .bool false, .bool false]), [], false⟩,
  ⟨3, none, none, .mo (.st 4 (.tmp 5) (.tmp 12)), [], false⟩])
  (.seq (.reg [⟨0, (some 13), none, .mo (.fa 3 (.tmp 5)), [], false⟩,
  ⟨1, (some 14), none, .mo (.ld1 (.tmp 13)), [], false⟩,
  ⟨2, (some 15), none, .mo (.un .not (.tmp 14)), [], false⟩])
  (.cond (.tmp 15) (.reg [⟨0, (some 16), none, .mo (.mv (.tmp 3)), [], false⟩,
  ⟨1, (some 17), none, .mo (.bin .add 3 (.tmp 16) (.const (.int .i64 1))), [], false⟩,
  ⟨2, (some 3), none, .mo (.mv (.tmp 17)), [], false⟩]) .skip))))
  (.reg [⟨0, (some 18), none, .mo (.bin .add 3 (.tmp 9) (.const (.int .i64 1))), [], false⟩,
  ⟨1, (some 9), none, .mo (.mv (.tmp 18)), [], false⟩]))))
def c28 : Cd := (.seq (.reg [⟨0, (some 1), none, .mo (.box (.tmp 0)), [], false⟩,
  ⟨1, (some 2), none, .mo (.mv (.const (.int .i64 0))), [], false⟩])
  (.seq (.reg [⟨0, (some 3), none, .mo (.mv (.const (.int .i64 0))), [], false⟩])
  (.seq (.seq (.reg [⟨0, (some 6), none, .mo (.fa 2 (.tmp 1)), [], false⟩,
  ⟨1, (some 7), none, .mo (.ld1 (.tmp 6)), [], false⟩,
  ⟨2, (some 8), none, .mo (.len (.sl 4) (.tmp 7)), [], false⟩,
  ⟨3, (some 9), none, .mo (.mv (.const (.int .i64 0))), [], false⟩])
  (.block 0 (.loop l28_0)))
  (.seq (.reg [⟨0, (some 19), none, .mo (.mv (.tmp 3)), [], false⟩,
  ⟨1, (some 2), none, .mo (.mv (.tmp 19)), [], false⟩])
  .ret))))
def r28 : List Mo := [.mv (.tmp 2)]
theorem c28_eq : compF Try.prog 28 = some c28 := by kernel_rfl
theorem r28_eq : compRs Try.prog 28 = some r28 := by kernel_rfl
/-! F29 braid/braidref20.Live -/
def l29_0 : Cd := (.seq (.seq (.reg [⟨0, (some 5), none, .mo (.mv (.tmp 4)), [], false⟩,
  ⟨1, (some 6), none, .mo (.fa 2 (.tmp 1)), [], false⟩,
  ⟨2, (some 7), none, .mo (.ld1 (.tmp 6)), [], false⟩,
  ⟨3, (some 8), none, .mo (.len (.sl 4) (.tmp 7)), [], false⟩,
  ⟨4, (some 9), none, .mo (.bin .lss 3 (.tmp 5) (.tmp 8)), [], false⟩])
  (.cond (.tmp 9) .skip (.exit 0)))
  (.seq (.block 1 (.seq (.reg [⟨0, (some 12), none, .mo (.fa 2 (.tmp 1)), [], false⟩,
  ⟨1, (some 13), none, .mo (.ld1 (.tmp 12)), [], false⟩,
  ⟨2, (some 14), none, .mo (.mv (.tmp 4)), [], false⟩,
  ⟨3, (some 15), none, .mo (.ia (.sl 4) (.tmp 13) (.tmp 14)), [], false⟩,
  ⟨4, (some 16), none, .mo (.fa 3 (.tmp 15)), [], false⟩,
  ⟨5, (some 17), none, .mo (.ld1 (.tmp 16)), [], false⟩,
  ⟨6, (some 18), none, .mo (.un .not (.tmp 17)), [], false⟩])
  (.cond (.tmp 18) (.reg [⟨0, (some 19), none, .mo (.mv (.tmp 3)), [], false⟩,
  ⟨1, (some 20), none, .mo (.bin .add 3 (.tmp 19) (.const (.int .i64 1))), [], false⟩,
  ⟨2, (some 3), none, .mo (.mv (.tmp 20)), [], false⟩]) .skip)))
  (.reg [⟨0, (some 10), none, .mo (.mv (.tmp 4)), [], false⟩,
  ⟨1, (some 11), none, .mo (.bin .add 3 (.tmp 10) (.const (.int .i64 1))), [], false⟩,
  ⟨2, (some 4), none, .mo (.mv (.tmp 11)), [], false⟩])))
def c29 : Cd := (.seq (.reg [⟨0, (some 1), none, .mo (.box (.tmp 0)), [], false⟩,
  ⟨1, (some 2), none, .mo (.mv (.const (.int .i64 0))), [], false⟩])
  (.seq (.reg [⟨0, (some 3), none, .mo (.mv (.const (.int .i64 0))), [], false⟩])
  (.seq (.seq (.reg [⟨0, (some 4), none, .mo (.mv (.const (.int .i64 0))), [], false⟩])
  (.block 0 (.loop l29_0)))
  (.seq (.reg [⟨0, (some 21), none, .mo (.mv (.tmp 3)), [], false⟩,
  ⟨1, (some 2), none, .mo (.mv (.tmp 21)), [], false⟩])
  .ret))))
def r29 : List Mo := [.mv (.tmp 2)]
theorem c29_eq : compF Try.prog 29 = some c29 := by kernel_rfl
theorem r29_eq : compRs Try.prog 29 = some r29 := by kernel_rfl
/-! F30 braid/feed.check -/
def c30 : Cd := (.seq (.reg [⟨0, (some 2), none, .mo (.box (.tmp 0)), [], false⟩,
  ⟨1, (some 4), none, .mo (.mv (.const (.int .i64 0))), [], false⟩])
  (.seq (.seq (.reg [⟨0, (some 6), none, .mo (.ldA 3 (.tmp 2)), [], false⟩,
  ⟨1, (some 7), none, .callF 25 [(.tmp 6)], [], false⟩,
  ⟨2, (some 5), none, .mo (.mv (.tmp 7)), [], false⟩])
  (.seq (.reg [⟨0, (some 8), none, .mo (.mv (.tmp 5)), [], false⟩,
  ⟨1, (some 9), none, .mo (.bin .neq 27 (.tmp 8) (.const (.int .i64 0))), [], false⟩])
  (.cond (.tmp 9) (.seq (.reg [⟨0, (some 10), none, .mo (.mv (.tmp 5)), [], false⟩,
  ⟨1, (some 4), none, .mo (.mv (.tmp 10)), [], false⟩])
  .ret) .skip)))
  (.seq (.seq (.reg [⟨0, (some 11), none, .mo (.mv (.tmp 1)), [], false⟩,
  ⟨1, (some 12), none, .mo (.bin .lss 3 (.tmp 11) (.const (.int .i64 0))), [], false⟩,
  ⟨2, (some 13), none, .mo (.mv (.tmp 12)), [], false⟩,
  ⟨3, (some 14), (some ((some 13), false)), .mo (.mv (.tmp 1)), [], false⟩,
  ⟨4, (some 15), (some ((some 13), false)), .mo (.fa 2 (.tmp 2)), [], false⟩,
  ⟨5, (some 16), (some ((some 13), false)), .mo (.ld1 (.tmp 15)), [], false⟩,
  ⟨6, (some 17), (some ((some 13), false)), .mo (.len (.sl 4) (.tmp 16)), [], false⟩,
  ⟨7, (some 18), (some ((some 13), false)), .mo (.bin .geq 3 (.tmp 14) (.tmp 17)), [], false⟩,
  ⟨8, (some 19), none, .mo (.pick (.tmp 13) (.const (.bool true)) (.tmp 18)), [], false⟩])
  (.cond (.tmp 19) (.seq (.reg [⟨0, (some 4), none, .mo (.mv (.const (.int .i64 2))), [], false⟩])
  .ret) .skip))
  (.seq (.seq (.reg [⟨0, (some 20), none, .mo (.fa 2 (.tmp 2)), [], false⟩,
  ⟨1, (some 21), none, .mo (.ld1 (.tmp 20)), [], false⟩,
  ⟨2, (some 22), none, .mo (.mv (.tmp 1)), [], false⟩,
  ⟨3, (some 23), none, .mo (.ia (.sl 4) (.tmp 21) (.tmp 22)), [], false⟩,
  ⟨4, (some 24), none, .mo (.fa 3 (.tmp 23)), [], false⟩,
  ⟨5, (some 25), none, .mo (.ld1 (.tmp 24)), [], false⟩])
  (.cond (.tmp 25) (.seq (.reg [⟨0, (some 4), none, .mo (.mv (.const (.int .i64 34))), [], false⟩])
  .ret) .skip))
  (.seq (.reg [⟨0, (some 4), none, .mo (.mv (.const (.int .i64 0))), [], false⟩])
  .ret)))))
def r30 : List Mo := [.mv (.tmp 4)]
theorem c30_eq : compF Try.prog 30 = some c30 := by kernel_rfl
theorem r30_eq : compRs Try.prog 30 = some r30 := by kernel_rfl
/-! F31 braid/braidref20.Number -/
def c31 : Cd := (.seq (.reg [⟨0, (some 2), none, .mo (.box (.tmp 0)), [], false⟩,
  ⟨1, (some 4), none, .mo (.mv (.const (.int .i64 0))), [], false⟩])
  (.seq (.seq (.reg [⟨0, (some 5), none, .mo (.ldA 3 (.tmp 2)), [], false⟩,
  ⟨1, (some 6), none, .callF 13 [(.tmp 5)], [], false⟩,
  ⟨2, (some 7), none, .mo (.bin .neq 3 (.tmp 6) (.const (.int .i64 0))), [], false⟩])
  (.cond (.tmp 7) (.seq (.reg [⟨0, (some 8), none, .mo (.ldA 3 (.tmp 2)), [], false⟩,
  ⟨1, (some 9), none, .callF 13 [(.tmp 8)], [], false⟩,
  ⟨2, (some 4), none, .mo (.mv (.tmp 9)), [], false⟩])
  .ret) .skip))
  (.seq (.seq (.reg [⟨0, (some 10), none, .mo (.mv (.tmp 1)), [], false⟩,
  ⟨1, (some 11), none, .mo (.bin .lss 3 (.tmp 10) (.const (.int .i64 0))), [], false⟩,
  ⟨2, (some 12), none, .mo (.mv (.tmp 11)), [], false⟩,
  ⟨3, (some 13), (some ((some 12), false)), .mo (.mv (.tmp 1)), [], false⟩,
  ⟨4, (some 14), (some ((some 12), false)), .mo (.fa 2 (.tmp 2)), [], false⟩,
  ⟨5, (some 15), (some ((some 12), false)), .mo (.ld1 (.tmp 14)), [], false⟩,
  ⟨6, (some 16), (some ((some 12), false)), .mo (.len (.sl 4) (.tmp 15)), [], false⟩,
  ⟨7, (some 17), (some ((some 12), false)), .mo (.bin .geq 3 (.tmp 13) (.tmp 16)), [], false⟩,
  ⟨8, (some 18), none, .mo (.pick (.tmp 12) (.const (.bool true)) (.tmp 17)), [], false⟩])
  (.cond (.tmp 18) (.seq (.reg [⟨0, (some 4), none, .mo (.mv (.const (.int .i64 2))), [], false⟩])
  .ret) .skip))
  (.seq (.seq (.reg [⟨0, (some 19), none, .mo (.fa 2 (.tmp 2)), [], false⟩,
  ⟨1, (some 20), none, .mo (.ld1 (.tmp 19)), [], false⟩,
  ⟨2, (some 21), none, .mo (.mv (.tmp 1)), [], false⟩,
  ⟨3, (some 22), none, .mo (.ia (.sl 4) (.tmp 20) (.tmp 21)), [], false⟩,
  ⟨4, (some 23), none, .mo (.fa 3 (.tmp 22)), [], false⟩,
  ⟨5, (some 24), none, .mo (.ld1 (.tmp 23)), [], false⟩])
  (.cond (.tmp 24) (.seq (.reg [⟨0, (some 4), none, .mo (.mv (.const (.int .i64 34))), [], false⟩])
  .ret) .skip))
  (.seq (.reg [⟨0, (some 4), none, .mo (.mv (.const (.int .i64 0))), [], false⟩])
  .ret)))))
def r31 : List Mo := [.mv (.tmp 4)]
theorem c31_eq : compF Try.prog 31 = some c31 := by kernel_rfl
theorem r31_eq : compRs Try.prog 31 = some r31 := by kernel_rfl
/-! F32 braid/feed.queue -/
def c32 : Cd := (.seq (.reg [⟨0, (some 2), none, .mo (.box (.tmp 0)), [], false⟩,
  ⟨1, (some 3), none, .mo (.box (.tmp 1)), [], false⟩,
  ⟨2, (some 4), none, .mo (.mv (.const (.bool false))), [], false⟩])
  (.seq (.reg [⟨0, (some 6), none, .mo (.fa 1 (.tmp 3)), [], false⟩,
  ⟨1, (some 7), none, .mo (.ld1 (.tmp 6)), [], false⟩,
  ⟨2, (some 8), none, .mo (.len (.sl 32) (.tmp 7)), [], false⟩,
  ⟨3, (some 5), none, .mo (.mv (.tmp 8)), [], false⟩])
  (.seq (.seq (.reg [⟨0, (some 9), none, .mo (.fa 0 (.tmp 3)), [], false⟩,
  ⟨1, (some 10), none, .mo (.ld1 (.tmp 9)), [], false⟩,
  ⟨2, (some 11), none, .mo (.bin .lss 3 (.tmp 10) (.const (.int .i64 0))), [], false⟩,
  ⟨3, (some 12), none, .mo (.mv (.tmp 11)), [], false⟩,
  ⟨4, (some 13), (some ((some 12), false)), .mo (.fa 0 (.tmp 3)), [], false⟩,
  ⟨5, (some 14), (some ((some 12), false)), .mo (.ld1 (.tmp 13)), [], false⟩,
  ⟨6, (some 15), (some ((some 12), false)), .mo (.bin .gtr 3 (.tmp 14) (.const (.int .i64 1000000000))), [], false⟩,
  ⟨7, (some 16), none, .mo (.pick (.tmp 12) (.const (.bool true)) (.tmp 15)), [], false⟩,
  ⟨8, (some 17), none, .mo (.mv (.tmp 16)), [], false⟩,
  ⟨9, (some 18), (some ((some 17), false)), .mo (.mv (.tmp 5)), [], false⟩,
  ⟨10, (some 19), (some ((some 17), false)), .mo (.fa 0 (.tmp 2)), [], false⟩,
  ⟨11, (some 20), (some ((some 17), false)), .mo (.ld1 (.tmp 19)), [], false⟩,
  ⟨12, (some 21), (some ((some 17), false)), .mo (.bin .gtr 3 (.tmp 18) (.tmp 20)), [], false⟩,
  ⟨13, (some 22), none, .mo (.pick (.tmp 17) (.const (.bool true)) (.tmp 21)), [], false⟩])
  (.cond (.tmp 22) (.seq (.reg [⟨0, (some 4), none, .mo (.mv (.const (.bool false))), [], false⟩])
  .ret) .skip))
  (.seq (.block 0 (.seq (.reg [⟨0, (some 24), none, .mo (.fa 3 (.tmp 3)), [], false⟩,
  ⟨1, (some 25), none, .mo (.ld1 (.tmp 24)), [], false⟩,
  ⟨2, (some 23), none, .mo (.mv (.tmp 25)), [], false⟩])
  (.cond (.tmp 23) (.seq (.reg [⟨0, (some 26), none, .mo (.mv (.tmp 5)), [], false⟩,
  ⟨1, (some 27), none, .mo (.bin .eql 3 (.tmp 26) (.const (.int .i64 0))), [], false⟩,
  ⟨2, (some 28), none, .mo (.mv (.tmp 27)), [], false⟩,
  ⟨3, (some 29), (some ((some 28), true)), .mo (.fa 2 (.tmp 3)), [], false⟩,
  ⟨4, (some 30), (some ((some 28), true)), .mo (.ld1 (.tmp 29)), [], false⟩,
  ⟨5, (some 31), (some ((some 28), true)), .mo (.un .not (.tmp 30)), [], false⟩,
  ⟨6, (some 32), none, .mo (.pick (.tmp 28) (.tmp 31) (.const (.bool false))), [], false⟩,
  ⟨7, (some 4), none, .mo (.mv (.tmp 32)), [], false⟩])
  .ret) (.seq (.reg [⟨0, (some 34), none, .mo (.fa 2 (.tmp 3)), [], false⟩,
  ⟨1, (some 35), none, .mo (.ld1 (.tmp 34)), [], false⟩,
  ⟨2, (some 33), none, .mo (.mv (.tmp 35)), [], false⟩])
  (.cond (.tmp 33) (.seq (.reg [⟨0, (some 36), none, .mo (.fa 0 (.tmp 3)), [], false⟩,
  ⟨1, (some 37), none, .mo (.ld1 (.tmp 36)), [], false⟩,
  ⟨2, (some 38), none, .mo (.mv (.tmp 5)), [], false⟩,
  ⟨3, (some 39), none, .mo (.bin .add 3 (.tmp 37) (.tmp 38)), [], false⟩,
  ⟨4, (some 40), none, .mo (.fa 1 (.tmp 2)), [], false⟩,
  ⟨5, (some 41), none, .mo (.ld1 (.tmp 40)), [], false⟩,
  ⟨6, (some 42), none, .mo (.bin .leq 3 (.tmp 39) (.tmp 41)), [], false⟩,
  ⟨7, (some 4), none, .mo (.mv (.tmp 42)), [], false⟩])
  .ret) .skip)))))
  (.seq (.reg [⟨0, (some 43), none, .mo (.fa 0 (.tmp 3)), [], false⟩,
  ⟨1, (some 44), none, .mo (.ld1 (.tmp 43)), [], false⟩,
  ⟨2, (some 45), none, .mo (.mv (.tmp 5)), [], false⟩,
  ⟨3, (some 46), none, .mo (.bin .add 3 (.tmp 44) (.tmp 45)), [], false⟩,
  ⟨4, (some 47), none, .mo (.fa 1 (.tmp 2)), [], false⟩,
  ⟨5, (some 48), none, .mo (.ld1 (.tmp 47)), [], false⟩,
  ⟨6, (some 49), none, .mo (.bin .eql 3 (.tmp 46) (.tmp 48)), [], false⟩,
  ⟨7, (some 50), none, .mo (.mv (.tmp 49)), [], false⟩,
  ⟨8, (some 51), (some ((some 50), false)), .mo (.mv (.tmp 5)), [], false⟩,
  ⟨9, (some 52), (some ((some 50), false)), .mo (.bin .eql 3 (.tmp 51) (.const (.int .i64 0))), [], false⟩,
  ⟨10, (some 53), (some ((some 50), false)), .mo (.mv (.tmp 52)), [], false⟩,
  ⟨11, (some 54), (some ((some 53), true)), .mo (.fa 0 (.tmp 3)), [], false⟩,
  ⟨12, (some 55), (some ((some 53), true)), .mo (.ld1 (.tmp 54)), [], false⟩,
  ⟨13, (some 56), (some ((some 53), true)), .mo (.fa 1 (.tmp 2)), [], false⟩,
  ⟨14, (some 57), (some ((some 53), true)), .mo (.ld1 (.tmp 56)), [], false⟩,
  ⟨15, (some 58), (some ((some 53), true)), .mo (.bin .gtr 3 (.tmp 55) (.tmp 57)), [], false⟩,
  ⟨16, (some 59), (some ((some 50), false)), .mo (.pick (.tmp 53) (.tmp 58) (.const (.bool false))), [], false⟩,
  ⟨17, (some 60), none, .mo (.pick (.tmp 50) (.const (.bool true)) (.tmp 59)), [], false⟩,
  ⟨18, (some 4), none, .mo (.mv (.tmp 60)), [], false⟩])
  .ret)))))
def r32 : List Mo := [.mv (.tmp 4)]
theorem c32_eq : compF Try.prog 32 = some c32 := by kernel_rfl
theorem r32_eq : compRs Try.prog 32 = some r32 := by kernel_rfl
/-! F33 braid/braidref20.SameIDs -/
def l33_0 : Cd := (.seq (.seq (.reg [⟨0, (some 11), none, .mo (.mv (.tmp 5)), [], false⟩,
  ⟨1, (some 12), none, .mo (.mv (.tmp 0)), [], false⟩,
  ⟨2, (some 13), none, .mo (.len (.sl 32) (.tmp 12)), [], false⟩,
  ⟨3, (some 14), none, .mo (.bin .lss 3 (.tmp 11) (.tmp 13)), [], false⟩])
  (.cond (.tmp 14) .skip (.exit 0)))
  (.seq (.block 1 (.seq (.reg [⟨0, (some 17), none, .mo (.mv (.tmp 0)), [], false⟩,
  ⟨1, (some 18), none, .mo (.mv (.tmp 5)), [], false⟩,
  ⟨2, (some 19), none, .mo (.ia (.sl 32) (.tmp 17) (.tmp 18)), [], false⟩,
  ⟨3, (some 20), none, .mo (.ldA 32 (.tmp 19)), [], false⟩,
  ⟨4, (some 21), none, .mo (.mv (.tmp 1)), [], false⟩,
  ⟨5, (some 22), none, .mo (.mv (.tmp 5)), [], false⟩,
  ⟨6, (some 23), none, .mo (.ia (.sl 32) (.tmp 21) (.tmp 22)), [], false⟩,
  ⟨7, (some 24), none, .mo (.ldA 32 (.tmp 23)), [], false⟩,
  ⟨8, (some 25), none, .mo (.bin .neq 37 (.tmp 20) (.tmp 24)), [], false⟩])
  (.cond (.tmp 25) (.seq (.reg [⟨0, (some 4), none, .mo (.mv (.const (.bool false))), [], false⟩])
  .ret) .skip)))
  (.reg [⟨0, (some 15), none, .mo (.mv (.tmp 5)), [], false⟩,
  ⟨1, (some 16), none, .mo (.bin .add 3 (.tmp 15) (.const (.int .i64 1))), [], false⟩,
  ⟨2, (some 5), none, .mo (.mv (.tmp 16)), [], false⟩])))
def c33 : Cd := (.seq (.reg [⟨0, (some 4), none, .mo (.mv (.const (.bool false))), [], false⟩])
  (.seq (.seq (.reg [⟨0, (some 6), none, .mo (.mv (.tmp 0)), [], false⟩,
  ⟨1, (some 7), none, .mo (.len (.sl 32) (.tmp 6)), [], false⟩,
  ⟨2, (some 8), none, .mo (.mv (.tmp 1)), [], false⟩,
  ⟨3, (some 9), none, .mo (.len (.sl 32) (.tmp 8)), [], false⟩,
  ⟨4, (some 10), none, .mo (.bin .neq 3 (.tmp 7) (.tmp 9)), [], false⟩])
  (.cond (.tmp 10) (.seq (.reg [⟨0, (some 4), none, .mo (.mv (.const (.bool false))), [], false⟩])
  .ret) .skip))
  (.seq (.seq (.reg [⟨0, (some 5), none, .mo (.mv (.const (.int .i64 0))), [], false⟩])
  (.block 0 (.loop l33_0)))
  (.seq (.reg [⟨0, (some 4), none, .mo (.mv (.const (.bool true))), [], false⟩])
  .ret))))
def r33 : List Mo := [.mv (.tmp 4)]
theorem c33_eq : compF Try.prog 33 = some c33 := by kernel_rfl
theorem r33_eq : compRs Try.prog 33 = some r33 := by kernel_rfl
/-! F34 slices.Clone[[]braid/api.Queue,braid/api.Queue] -/
def c34 : Cd := (.seq (.reg [⟨0, (some 2), none, .mo (.mv (.const (.slice none 0 0))), [], false⟩])
  (.seq (.seq (.reg [⟨0, (some 3), none, .mo (.mv (.tmp 0)), [], false⟩,
  ⟨1, (some 4), none, .mo (.bin .eql 24 (.tmp 3) (.const (.slice none 0 0))), [], false⟩])
  (.cond (.tmp 4) (.seq (.reg [⟨0, (some 2), none, .mo (.mv (.const (.slice none 0 0))), [], false⟩])
  .ret) .skip))
  (.seq (.reg [⟨0, (some 5), none, .mo (.bsl 4 [.int .i64 0, .nilS, .bool false, .bool false] 0 []), [], false⟩,
  ⟨1, (some 6), none, .mo (.mv (.tmp 0)), [], false⟩,
  ⟨2, (some 7), none, .mo (.app 4 40 (.tmp 5) (.tmp 6)), [], false⟩,
  ⟨3, (some 2), none, .mo (.mv (.tmp 7)), [], false⟩])
  .ret)))
def r34 : List Mo := [.mv (.tmp 2)]
theorem c34_eq : compF Try.prog 34 = some c34 := by kernel_rfl
theorem r34_eq : compRs Try.prog 34 = some r34 := by kernel_rfl
/-! F35 slices.Clone[[]braid/api.ID,braid/api.ID] -/
def c35 : Cd := (.seq (.reg [⟨0, (some 2), none, .mo (.mv (.const (.slice none 0 0))), [], false⟩])
  (.seq (.seq (.reg [⟨0, (some 3), none, .mo (.mv (.tmp 0)), [], false⟩,
  ⟨1, (some 4), none, .mo (.bin .eql 31 (.tmp 3) (.const (.slice none 0 0))), [], false⟩])
  (.cond (.tmp 4) (.seq (.reg [⟨0, (some 2), none, .mo (.mv (.const (.slice none 0 0))), [], false⟩])
  .ret) .skip))
  (.seq (.reg [⟨0, (some 5), none, .mo (.bsl 32 [.int .u8 0, .int .u8 0, .int .u8 0, .int .u8 0, .int .u8 0, .int .u8 0, .int .u8 0, .int .u8 0, .int .u8 0, .int .u8 0, .int .u8 0, .int .u8 0, .int .u8 0, .int .u8 0, .int .u8 0, .int .u8 0, .int .u8 0, .int .u8 0, .int .u8 0, .int .u8 0, .int .u8 0, .int .u8 0, .int .u8 0, .int .u8 0, .int .u8 0, .int .u8 0, .int .u8 0, .int .u8 0, .int .u8 0, .int .u8 0, .int .u8 0, .int .u8 0] 0 []), [], false⟩,
  ⟨1, (some 6), none, .mo (.mv (.tmp 0)), [], false⟩,
  ⟨2, (some 7), none, .mo (.app 32 32 (.tmp 5) (.tmp 6)), [], false⟩,
  ⟨3, (some 2), none, .mo (.mv (.tmp 7)), [], false⟩])
  .ret)))
def r35 : List Mo := [.mv (.tmp 2)]
theorem c35_eq : compF Try.prog 35 = some c35 := by kernel_rfl
theorem r35_eq : compRs Try.prog 35 = some r35 := by kernel_rfl
end Go.CM
