/-
  The code of the functions, without types, as the canonical machine reads it (printed by program).
-/
import Derived.Test.YtboebmmklamaeaaGreatDoorVg
import Derived.Test.YtboebmmklamaeaaGreatDoorRows
import Derived.ProofKit
set_option linter.unusedVariables false
set_option linter.unusedSimpArgs false
set_option linter.unnecessarySimpa false
namespace Go.cn
open Go Go.Proofs
set_option maxRecDepth 100000
def kf:aS:=(.seq (.ak [ad 0 4 (.box (U 0)),
 ad 1 5 (.box (U 1)),
 ad 2 8 (.aq (.const (.bool false)))])
 (.seq (.seq (.ak [ad 0 22 (.aW 1 (U 4)),
 sc 1 23 9 [(U 22)],
 af 2 24 23,
 aF 3 25 24 false (.aW 11 (U 5)),
 ⟨4,(some 26),(some ((some 24),false)),.cR 10 [(U 25)],[],false⟩,
 ad 5 27 (.pick (U 24) (.const (.bool true)) (U 26)),
 af 6 28 27,
 aF 7 29 28 false (.aq (U 2)),
 aF 8 30 28 false (.len (.ao 32) (U 29)),
 aF 9 31 28 false (.bin .gtr 3 (U 30) (.const (.int .i64 70))),
 ad 10 32 (.pick (U 28) (.const (.bool true)) (U 31)),
 af 11 33 32,
 aF 12 34 33 false (.aq (U 3)),
 aF 13 35 33 false (.len .str (U 34)),
 aF 14 36 33 false (.bin .gtr 3 (U 35) (.const (.int .i64 100))),
 ad 15 37 (.pick (U 33) (.const (.bool true)) (U 36))])
 (.cond (U 37) (.seq (.ak [ad 0 8 (.aq (.const (.bool true)))])
 .ret) .skip))
 (.seq (.ak [ad 0 38 (.cQ 33 ([.str []]++rep 32 (.int .u8 0)) 0 []),
 ad 1 39 (.aO 0 (U 4)),
 ad 2 40 (.ld1 (U 39)),
 ad 3 41 (.app 33 48 (U 38) (U 40)),
 ad 4 42 (.eh [.aX] [(0,1,(U 41))]),
 ad 5 9 (.alloc [.aX]),
 bG 6 (.st 1 (U 9) (U 42))])
 (.seq (.ak [ad 0 44 (.aW 1 (U 9)),
 ad 1 45 (.aW 11 (U 5)),
 af 2 46 2,
 sc 3 47 11 [(U 44),(U 45),(U 46)],
 af 4 43 47,
 ad 5 48 (.ext (U 43) 0),
 ad 6 49 (.ext (U 43) 1),
 ad 7 10 (.alloc [.aX]),
 bG 8 (.st 1 (U 10) (U 48)),
 af 9 11 49])
 (.seq (.ak [ad 0 51 (.aW 1 (U 4)),
 ad 1 52 (.aW 11 (U 5)),
 af 2 53 2,
 sc 3 54 12 [(U 51),(U 52),(U 53)],
 af 4 50 54,
 ad 5 55 (.ext (U 50) 0),
 ad 6 56 (.ext (U 50) 1),
 ad 7 12 (.alloc [.aX]),
 bG 8 (.st 1 (U 12) (U 55)),
 af 9 13 56])
 (.seq (.ak [ad 0 58 (.aW 1 (U 9)),
 af 1 59 3,
 sc 2 60 13 [(U 58),(U 59)],
 af 3 57 60,
 ad 4 61 (.ext (U 57) 0),
 ad 5 62 (.ext (U 57) 1),
 af 6 14 61,
 af 7 15 62])
 (.seq (.ak [ad 0 64 (.aW 1 (U 4)),
 af 1 65 3,
 sc 2 66 14 [(U 64),(U 65)],
 af 3 63 66,
 ad 4 67 (.ext (U 63) 0),
 ad 5 68 (.ext (U 63) 1),
 af 6 16 67,
 af 7 17 68])
 (.seq (.ak [ad 0 70 (.aW 1 (U 9)),
 sc 1 71 15 [(U 70)],
 af 2 69 71,
 ad 3 72 (.ext (U 69) 0),
 ad 4 73 (.ext (U 69) 1),
 af 5 18 72,
 af 6 19 73])
 (.seq (.ak [ad 0 75 (.aW 1 (U 4)),
 sc 1 76 16 [(U 75)],
 af 2 74 76,
 ad 3 77 (.ext (U 74) 0),
 ad 4 78 (.ext (U 74) 1),
 af 5 20 77,
 af 6 21 78])
 (.seq (.gJ [sc 0 79 17 [],
 ad 1 80 (.w8 0 (U 79)),
 ad 2 81 (.len (.ao 33) (U 80)),
 ad 3 82 (.bin .eql 3 (U 81) (.const (.int .i64 0))),
 af 4 83 82,
 aF 5 84 83 true (.aW 1 (U 9)),
 ⟨7,(some 86),(some ((some 83),true)),.cG (.aW 1 (U 4)),[],true⟩,
 ⟨6,(some 85),(some ((some 83),true)),.cR 18 [(U 84)],[7],false⟩,
 ⟨8,(some 87),(some ((some 83),true)),.cR 19 [(U 86)],[],false⟩,
 aF 9 88 83 true (.bin .eql 3 (U 85) (U 87)),
 ad 10 89 (.pick (U 83) (U 88) (.const (.bool false))),
 af 11 90 89,
 aF 12 91 90 true (.aW 1 (U 10)),
 aF 13 92 90 true (.aW 1 (U 12)),
 ⟨14,(some 93),(some ((some 90),true)),.cR 20 [(U 91),(U 92)],[],false⟩,
 ad 15 94 (.pick (U 90) (U 93) (.const (.bool false))),
 af 16 95 94,
 aF 17 96 95 true (.aq (U 11)),
 aF 18 97 95 true (.aq (U 13)),
 aF 19 98 95 true (.bin .eql 3 (U 96) (U 97)),
 ad 20 99 (.pick (U 95) (U 98) (.const (.bool false))),
 af 21 100 99,
 aF 22 101 100 true (.aq (U 14)),
 aF 23 102 100 true (.aq (U 16)),
 aF 24 103 100 true (.bin .eql 4 (U 101) (U 102)),
 ad 25 104 (.pick (U 100) (U 103) (.const (.bool false))),
 af 26 105 104,
 aF 27 106 105 true (.aq (U 15)),
 aF 28 107 105 true (.aq (U 17)),
 aF 29 108 105 true (.bin .eql 3 (U 106) (U 107)),
 ad 30 109 (.pick (U 105) (U 108) (.const (.bool false))),
 af 31 110 109,
 aF 32 111 110 true (.aq (U 18)),
 aF 33 112 110 true (.aq (U 20)),
 ⟨34,(some 113),(some ((some 110),true)),.cR 21 [(U 111),(U 112)],[],false⟩,
 ad 35 114 (.pick (U 110) (U 113) (.const (.bool false))),
 af 36 115 114,
 aF 37 116 115 true (.aq (U 19)),
 aF 38 117 115 true (.aq (U 21)),
 aF 39 118 115 true (.bin .eql 3 (U 116) (U 117)),
 ad 40 119 (.pick (U 115) (U 118) (.const (.bool false))),
 af 41 120 119,
 aF 42 121 120 true (.aW 1 (U 9)),
 aF 43 122 120 true (.aW 1 (U 4)),
 ⟨44,(some 123),(some ((some 120),true)),.cR 20 [(U 121),(U 122)],[],false⟩,
 ad 45 124 (.pick (U 120) (U 123) (.const (.bool false))),
 af 46 8 124])
 .ret))))))))))
def ri:List a6:=[.aq (U 8)]
theorem afh:bq Tryz.prog 3=some kf:=by kernel_rfl
theorem anq:br Tryz.prog 3=some ri:=by kernel_rfl
def alx:aS:=(.seq (.seq (.ak [af 0 77 11,
 ad 1 78 (.aO 0 (U 3)),
 ad 2 79 (.ld1 (U 78)),
 ad 3 80 (.len (.ao 33) (U 79)),
 ad 4 81 (.bin .lss 3 (U 77) (U 80))])
 (.cond (U 81) .skip (.exit 0)))
 (.seq (.block 1 (.seq (.ak [ad 0 84 (.aO 3 (U 4)),
 ad 1 85 (.aO 0 (U 84)),
 ad 2 86 (.ld1 (U 85)),
 ad 3 87 (.bin .eql 5 (U 86) (.const (.int .u8 3))),
 af 4 88 87,
 aF 5 89 88 true (.aO 0 (U 3)),
 aF 6 90 88 true (.ld1 (U 89)),
 aF 7 91 88 true (.aq (U 11)),
 aF 8 92 88 true (.bm (.ao 33) (U 90) (U 91)),
 aF 9 93 88 true (.aO 0 (U 92)),
 aF 10 94 88 true (.ld1 (U 93)),
 aF 11 95 88 true (.aO 3 (U 4)),
 aF 12 96 88 true (.aO 1 (U 95)),
 aF 13 97 88 true (.ld1 (U 96)),
 aF 14 98 88 true (.bin .eql 9 (U 94) (U 97)),
 ad 15 99 (.pick (U 88) (U 98) (.const (.bool false))),
 af 16 100 99,
 aF 17 101 100 true (.aq (U 2)),
 aF 18 102 100 true (.aO 0 (U 3)),
 aF 19 103 100 true (.ld1 (U 102)),
 aF 20 104 100 true (.aq (U 11)),
 aF 21 105 100 true (.bm (.ao 33) (U 103) (U 104)),
 aF 22 106 100 true (.aO 1 (U 105)),
 aF 23 107 100 true (.aW 32 (U 106)),
 ⟨24,(some 108),(some ((some 100),true)),.cR 30 [(U 101),(U 107)],[],false⟩,
 ad 25 109 (.pick (U 100) (U 108) (.const (.bool false))),
 af 26 12 109])
 (.seq (.ak [ad 0 110 (.aO 0 (U 8)),
 ad 1 111 (.ld1 (U 110)),
 ad 2 112 (.aO 0 (U 3)),
 ad 3 113 (.ld1 (U 112)),
 af 4 114 11,
 ad 5 115 (.bm (.ao 33) (U 113) (U 114)),
 ad 6 116 (.aW 33 (U 115)),
 af 8 118 12,
 sc 7 117 33 [(U 111),(U 116)],
 ad 9 119 (.bin .eql 4 (U 117) (U 118))])
 (.cond (U 119) (.seq (.ak [ad 0 6 (.aq (.const (.bool false)))])
 .ret) .skip))))
 (.ak [af 0 82 11,
 ad 1 83 (.bin .add 3 (U 82) (.const (.int .i64 1))),
 af 2 11 83])))
def aly:aS:=(.seq (.seq (.ak [af 0 120 14,
 ad 1 121 (.aO 0 (U 8)),
 ad 2 122 (.ld1 (U 121)),
 ad 3 123 (.len (.ao 33) (U 122)),
 ad 4 124 (.bin .lss 3 (U 120) (U 123))])
 (.cond (U 124) .skip (.exit 2)))
 (.seq (.block 3 (.seq (.ak [ad 0 127 (.aO 0 (U 3)),
 ad 1 128 (.ld1 (U 127)),
 ad 2 129 (.aO 0 (U 8)),
 ad 3 130 (.ld1 (U 129)),
 af 4 131 14,
 ad 5 132 (.bm (.ao 33) (U 130) (U 131)),
 ad 6 133 (.aW 33 (U 132)),
 sc 7 134 33 [(U 128),(U 133)],
 ad 8 135 (.un .not (U 134))])
 (.cond (U 135) (.seq (.ak [af 0 136 13,
 ad 1 137 (.bin .add 3 (U 136) (.const (.int .i64 1))),
 af 2 13 137])
 (.seq (.ak [ad 0 138 (.aO 3 (U 4)),
 ad 1 139 (.aO 0 (U 138)),
 ad 2 140 (.ld1 (U 139)),
 ad 3 141 (.bin .neq 5 (U 140) (.const (.int .u8 2))),
 af 4 142 141,
 aF 5 143 142 false (.aO 0 (U 8)),
 aF 6 144 142 false (.ld1 (U 143)),
 aF 7 145 142 false (.aq (U 14)),
 aF 8 146 142 false (.bm (.ao 33) (U 144) (U 145)),
 aF 9 147 142 false (.aW 33 (U 146)),
 aF 10 148 142 false (.aO 3 (U 4)),
 aF 11 149 142 false (.aO 1 (U 148)),
 aF 12 150 142 false (.ld1 (U 149)),
 aF 13 151 142 false (.aW 32 (U 10)),
 aF 14 152 142 false (.eh ([.str []]++rep 32 (.int .u8 0)) [(0,1,(U 150)),(1,32,(U 151))]),
 aF 15 153 142 false (.bin .neq 77 (U 147) (U 152)),
 ad 16 154 (.pick (U 142) (.const (.bool true)) (U 153))])
 (.cond (U 154) (.seq (.ak [ad 0 6 (.aq (.const (.bool false)))])
 .ret) .skip))) .skip)))
 (.ak [af 0 125 14,
 ad 1 126 (.bin .add 3 (U 125) (.const (.int .i64 1))),
 af 2 14 126])))
def zi:aS:=(.seq (.ak [ad 0 3 (.box (U 0)),
 ad 1 4 (.box (U 1)),
 ad 2 6 (.aq (.const (.bool false)))])
 (.seq (.ak [sc 0 15 27 [],
 af 1 7 15])
 (.seq (.seq (.ak [ad 0 16 (.aW 1 (U 3)),
 sc 1 17 9 [(U 16)],
 af 2 18 17,
 aF 3 19 18 false (.aW 1 (U 3)),
 ⟨4,(some 20),(some ((some 18),false)),.cR 19 [(U 19)],[],false⟩,
 aF 5 21 18 false (.bin .neq 3 (U 20) (.const (.int .i64 0))),
 ad 6 22 (.pick (U 18) (.const (.bool true)) (U 21)),
 af 7 23 22,
 aF 8 24 23 false (.aW 11 (U 4)),
 ⟨9,(some 25),(some ((some 23),false)),.cR 10 [(U 24)],[],false⟩,
 ad 10 26 (.pick (U 23) (.const (.bool true)) (U 25)),
 af 11 27 26,
 aF 12 28 27 false (.aW 11 (U 4)),
 ⟨13,(some 29),(some ((some 27),false)),.cR 31 [(U 28)],[],false⟩,
 aF 14 30 27 false (.bin .neq 3 (U 29) (.const (.int .i64 0))),
 ad 15 31 (.pick (U 27) (.const (.bool true)) (U 30)),
 af 16 32 31,
 aF 17 33 32 false (.aq (U 2)),
 aF 18 34 32 false (.len (.ao 32) (U 33)),
 aF 19 35 32 false (.bin .gtr 3 (U 34) (.const (.int .i64 60))),
 ad 20 36 (.pick (U 32) (.const (.bool true)) (U 35)),
 af 21 37 36,
 aF 22 38 37 false (.aq (U 7)),
 aF 23 39 37 false (.un .not (U 38)),
 ad 24 40 (.pick (U 37) (.const (.bool true)) (U 39))])
 (.cond (U 40) (.seq (.ak [af 0 41 7,
 af 1 6 41])
 .ret) .skip))
 (.seq (.ak [ad 0 43 (.aW 1 (U 3)),
 ad 1 44 (.aW 11 (U 4)),
 af 2 45 2,
 sc 3 46 11 [(U 43),(U 44),(U 45)],
 af 4 42 46,
 ad 5 47 (.ext (U 42) 0),
 ad 6 48 (.ext (U 42) 1),
 ad 7 8 (.alloc [.aX]),
 bG 8 (.st 1 (U 8) (U 47)),
 af 9 9 48])
 (.seq (.ak [ad 0 49 (.aW 11 (U 4)),
 sc 1 50 32 [(U 49)],
 ad 2 10 (.alloc (rep 32 (.int .u8 0))),
 bG 3 (.st 32 (U 10) (U 50))])
 (.seq (.seq (.ak [af 0 51 9,
 ad 1 52 (.bin .neq 38 (U 51) (.const (.int .i64 0)))])
 (.cond (U 52) (.seq (.ak [af 0 53 7,
 af 1 54 53,
 aF 2 55 54 true (.aO 3 (U 4)),
 aF 3 56 54 true (.aO 0 (U 55)),
 aF 4 57 54 true (.ld1 (U 56)),
 aF 5 58 54 true (.bin .eql 5 (U 57) (.const (.int .u8 2))),
 ad 6 59 (.pick (U 54) (U 58) (.const (.bool false))),
 af 7 60 59,
 aF 8 61 60 true (.aq (U 9)),
 aF 9 62 60 true (.bin .eql 38 (U 61) (.const (.int .i64 14))),
 aF 10 63 60 true (.aq (U 62)),
 aF 11 64 63 false (.aq (U 9)),
 aF 12 65 63 false (.bin .eql 38 (U 64) (.const (.int .i64 18))),
 aF 13 66 63 false (.aq (U 65)),
 aF 14 67 66 true (.aO 0 (U 3)),
 aF 15 68 66 true (.ld1 (U 67)),
 aF 16 69 66 true (.len (.ao 33) (U 68)),
 aF 17 70 66 true (.bin .eql 3 (U 69) (.const (.int .i64 60))),
 aF 18 71 63 false (.pick (U 66) (U 70) (.const (.bool false))),
 aF 19 72 60 true (.pick (U 63) (.const (.bool true)) (U 71)),
 ad 20 73 (.pick (U 60) (U 72) (.const (.bool false))),
 af 21 6 73])
 .ret) .skip))
 (.seq (.seq (.ak [ad 0 74 (.aW 1 (U 8)),
 sc 1 75 19 [(U 74)],
 ad 2 76 (.bin .neq 3 (U 75) (.const (.int .i64 0)))])
 (.cond (U 76) (.seq (.ak [ad 0 6 (.aq (.const (.bool false)))])
 .ret) .skip))
 (.seq (.seq (.ak [ad 0 11 (.aq (.const (.int .i64 0)))])
 (.block 0 (.loop alx)))
 (.seq (.ak [ad 0 13 (.aq (.const (.int .i64 0)))])
 (.seq (.seq (.ak [ad 0 14 (.aq (.const (.int .i64 0)))])
 (.block 2 (.loop aly)))
 (.seq (.ak [af 0 155 7,
 af 1 156 155,
 aF 2 157 156 true (.aq (U 13)),
 aF 3 158 156 true (.bin .eql 3 (U 157) (.const (.int .i64 1))),
 aF 4 159 156 true (.aO 3 (U 4)),
 aF 5 160 156 true (.aO 0 (U 159)),
 aF 6 161 156 true (.ld1 (U 160)),
 aF 7 162 156 true (.bin .eql 5 (U 161) (.const (.int .u8 2))),
 aF 8 163 156 true (.bin .eql 4 (U 158) (U 162)),
 ad 9 164 (.pick (U 156) (U 163) (.const (.bool false))),
 af 10 6 164])
 .ret)))))))))))
def uz:List a6:=[.aq (U 6)]
theorem afp:bq Tryz.prog 6=some zi:=by kernel_rfl
theorem anz:br Tryz.prog 6=some uz:=by kernel_rfl
def XJ:aS:=(.seq (.seq (.ak [af 0 35 10,
 af 1 36 8,
 ad 2 37 (.len (.ao 32) (U 36)),
 ad 3 38 (.bin .lss 3 (U 35) (U 37))])
 (.cond (U 38) .skip (.exit 0)))
 (.seq (.block 1 (.seq (.gJ [⟨0,(some 42),none,.cG (.aW 1 (U 9)),[],true⟩,
 ad 1 43 (.aW 2 (U 2)),
 af 2 44 8,
 af 3 45 10,
 ad 4 46 (.bm (.ao 32) (U 44) (U 45)),
 ad 5 47 (.aW 32 (U 46)),
 ⟨7,(some 49),none,.cG (.aW 2 (U 2)),[],true⟩,
 af 8 50 8,
 af 9 51 10,
 ad 10 52 (.bm (.ao 32) (U 50) (U 51)),
 ⟨11,(some 53),none,.cG (.aW 32 (U 52)),[],true⟩,
 ⟨17,(some 11),none,.cG (.alloc [.aX]),[],true⟩,
 ⟨6,(some 48),none,.cR 35 [(U 43),(U 47)],[17,11,7,0],false⟩,
 ⟨12,(some 54),none,.cR 29 [(U 49),(U 53)],[17,0],false⟩,
 ⟨13,(some 55),none,.cR 11 [(U 42),(U 48),(U 54)],[17],false⟩,
 af 14 41 55,
 ad 15 56 (.ext (U 41) 0),
 ad 16 57 (.ext (U 41) 1),
 bG 18 (.st 1 (U 11) (U 56)),
 af 19 12 57])
 (.seq (.seq (.ak [af 0 58 12,
 ad 1 59 (.bin .neq 38 (U 58) (.const (.int .i64 0))),
 af 2 60 59,
 aF 3 61 60 false (.aW 1 (U 11)),
 ⟨4,(some 62),(some ((some 60),false)),.cR 19 [(U 61)],[],false⟩,
 aF 5 63 60 false (.bin .neq 3 (U 62) (.const (.int .i64 0))),
 ad 6 64 (.pick (U 60) (.const (.bool true)) (U 63))])
 (.cond (U 64) (.seq (.ak [ad 0 4 (.aq (.const (.bool false)))])
 .ret) .skip))
 (.ak [ad 0 65 (.aW 1 (U 11)),
 bG 1 (.st 1 (U 9) (U 65))]))))
 (.ak [af 0 39 10,
 ad 1 40 (.bin .add 3 (U 39) (.const (.int .i64 1))),
 af 2 10 40])))
def rO:aS:=(.seq (.ak [ad 0 2 (.box (U 0)),
 ad 1 4 (.aq (.const (.bool false)))])
 (.seq (.ak [sc 0 13 27 [],
 af 1 5 13])
 (.seq (.seq (.ak [ad 0 14 (.aW 2 (U 2)),
 sc 1 15 22 [(U 14)],
 af 2 16 15,
 aF 3 17 16 false (.aW 2 (U 2)),
 ⟨4,(some 18),(some ((some 16),false)),.cR 28 [(U 17)],[],false⟩,
 aF 5 19 16 false (.bin .neq 3 (U 18) (.const (.int .i64 0))),
 ad 6 20 (.pick (U 16) (.const (.bool true)) (U 19)),
 af 7 21 20,
 aF 8 22 21 false (.aq (U 5)),
 aF 9 23 21 false (.un .not (U 22)),
 ad 10 24 (.pick (U 21) (.const (.bool true)) (U 23))])
 (.cond (U 24) (.seq (.ak [af 0 25 5,
 af 1 4 25])
 .ret) .skip))
 (.seq (.ak [ad 0 27 (.aW 2 (U 2)),
 sc 1 28 24 [(U 27)],
 af 2 26 28,
 ad 3 29 (.ext (U 26) 0),
 ad 4 30 (.ext (U 26) 1),
 ad 5 6 (.alloc [.aX]),
 bG 6 (.st 1 (U 6) (U 29)),
 af 7 7 30])
 (.seq (.ak [ad 0 31 (.aW 2 (U 2)),
 af 1 32 1,
 sc 2 33 34 [(U 31),(U 32)],
 af 3 8 33])
 (.seq (.ak [sc 0 34 17 [],
 ad 1 9 (.alloc [.aX]),
 bG 2 (.st 1 (U 9) (U 34))])
 (.seq (.seq (.ak [ad 0 10 (.aq (.const (.int .i64 0)))])
 (.block 0 (.loop XJ)))
 (.seq (.ak [af 0 66 5,
 af 1 67 66,
 aF 2 68 67 true (.aq (U 7)),
 aF 3 69 67 true (.bin .eql 38 (U 68) (.const (.int .i64 0))),
 ad 4 70 (.pick (U 67) (U 69) (.const (.bool false))),
 af 5 71 70,
 aF 6 72 71 true (.aq (U 8)),
 aF 7 73 71 true (.len (.ao 32) (U 72)),
 aF 8 74 71 true (.aO 0 (U 2)),
 aF 9 75 71 true (.ld1 (U 74)),
 aF 10 76 71 true (.len (.ao 32) (U 75)),
 aF 11 77 71 true (.bin .eql 3 (U 73) (U 76)),
 ad 12 78 (.pick (U 71) (U 77) (.const (.bool false))),
 af 13 79 78,
 aF 14 80 79 true (.aW 1 (U 9)),
 aF 15 81 79 true (.aW 1 (U 6)),
 ⟨16,(some 82),(some ((some 79),true)),.cR 20 [(U 80),(U 81)],[],false⟩,
 ad 17 83 (.pick (U 79) (U 82) (.const (.bool false))),
 af 18 4 83])
 .ret))))))))
def oT:List a6:=[.aq (U 4)]
theorem Su:bq Tryz.prog 7=some rO:=by kernel_rfl
theorem abo:br Tryz.prog 7=some oT:=by kernel_rfl
def alC:aS:=(.seq (.seq (.ak [af 0 4 3,
 ad 1 5 (.aO 0 (U 1)),
 ad 2 6 (.ld1 (U 5)),
 ad 3 7 (.len (.ao 33) (U 6)),
 ad 4 8 (.bin .lss 3 (U 4) (U 7)),
 af 5 9 8,
 aF 6 10 9 true (.aq (U 3)),
 aF 7 11 9 true (.bin .leq 3 (U 10) (.const (.int .i64 100))),
 ad 8 12 (.pick (U 9) (U 11) (.const (.bool false)))])
 (.cond (U 12) .skip (.exit 0)))
 (.seq (.block 1 (.seq (.ak [ad 0 15 (.aO 0 (U 1)),
 ad 1 16 (.ld1 (U 15)),
 af 2 17 3,
 ad 3 18 (.bm (.ao 33) (U 16) (U 17)),
 ad 4 19 (.aO 0 (U 18)),
 ad 5 20 (.ld1 (U 19)),
 ad 6 21 (.len .str (U 20)),
 ad 7 22 (.bin .gtr 3 (U 21) (.const (.int .i64 100)))])
 (.cond (U 22) (.seq (.ak [ad 0 2 (.aq (.const (.bool true)))])
 .ret) .skip)))
 (.ak [af 0 13 3,
 ad 1 14 (.bin .add 3 (U 13) (.const (.int .i64 1))),
 af 2 3 14])))
def B5:aS:=(.seq (.ak [ad 0 1 (.box (U 0)),
 ad 1 2 (.aq (.const (.bool false)))])
 (.seq (.seq (.ak [ad 0 3 (.aq (.const (.int .i64 0)))])
 (.block 0 (.loop alC)))
 (.seq (.ak [ad 0 23 (.aO 0 (U 1)),
 ad 1 24 (.ld1 (U 23)),
 ad 2 25 (.len (.ao 33) (U 24)),
 ad 3 26 (.bin .gtr 3 (U 25) (.const (.int .i64 100))),
 af 4 2 26])
 .ret)))
def abz:List a6:=[.aq (U 2)]
theorem afv:bq Tryz.prog 9=some B5:=by kernel_rfl
theorem anF:br Tryz.prog 9=some abz:=by kernel_rfl
def Qb:aS:=(.seq (.ak [ad 0 1 (.box (U 0)),
 ad 1 2 (.aq (.const (.bool false)))])
 (.seq (.ak [ad 0 3 (.aO 1 (U 1)),
 ad 1 4 (.ld1 (U 3)),
 ad 2 5 (.len (.ao 32) (U 4)),
 ad 3 6 (.bin .gtr 3 (U 5) (.const (.int .i64 40))),
 af 4 7 6,
 aF 5 8 7 false (.aO 3 (U 1)),
 aF 6 9 7 false (.aO 1 (U 8)),
 aF 7 10 7 false (.ld1 (U 9)),
 aF 8 11 7 false (.len .str (U 10)),
 aF 9 12 7 false (.bin .gtr 3 (U 11) (.const (.int .i64 100))),
 ad 10 13 (.pick (U 7) (.const (.bool true)) (U 12)),
 af 11 14 13,
 aF 12 15 14 false (.aO 3 (U 1)),
 aF 13 16 14 false (.aO 2 (U 15)),
 aF 14 17 14 false (.aO 3 (U 16)),
 aF 15 18 14 false (.ld1 (U 17)),
 aF 16 19 14 false (.len .str (U 18)),
 aF 17 20 14 false (.bin .gtr 3 (U 19) (.const (.int .i64 100))),
 ad 18 21 (.pick (U 14) (.const (.bool true)) (U 20)),
 af 19 2 21])
 .ret))
def Y3:List a6:=[.aq (U 2)]
theorem ae5:bq Tryz.prog 10=some Qb:=by kernel_rfl
theorem anf:br Tryz.prog 10=some Y3:=by kernel_rfl
def FM:aS:=(.seq (.ak [ad 0 3 (.box (U 0)),
 ad 1 4 (.box (U 1)),
 ad 2 5 (.box (U 2)),
 ad 3 6 (.alloc [.aX]),
 ad 4 7 (.aq (.const (.int .i64 0)))])
 (.seq (.seq (.ak [ad 0 15 (.aW 1 (U 3)),
 sc 1 16 18 [(U 15)],
 af 2 8 16])
 (.seq (.ak [af 0 17 8,
 ad 1 18 (.bin .neq 38 (U 17) (.const (.int .i64 0)))])
 (.cond (U 18) (.seq (.ak [ad 0 19 (.eh [.aX] []),
 af 1 20 8,
 bG 2 (.st 1 (U 6) (U 19)),
 af 3 7 20])
 .ret) .skip)))
 (.seq (.ak [ad 0 22 (.aW 11 (U 4)),
 sc 1 23 38 [(U 22)],
 af 2 21 23,
 ad 3 24 (.ext (U 21) 0),
 ad 4 25 (.ext (U 21) 1),
 ad 5 9 (.alloc (rep 32 (.int .u8 0))),
 bG 6 (.st 32 (U 9) (U 24)),
 af 7 10 25])
 (.seq (.seq (.ak [af 0 26 10,
 ad 1 27 (.bin .neq 38 (U 26) (.const (.int .i64 0)))])
 (.cond (U 27) (.seq (.ak [ad 0 28 (.eh [.aX] []),
 bG 1 (.st 1 (U 6) (U 28)),
 ad 2 7 (.aq (.const (.int .i64 8)))])
 .ret) .skip))
 (.seq (.seq (.ak [ad 0 29 (.ld1 (U 5)),
 ad 1 30 (.len (.ao 32) (U 29)),
 ad 2 31 (.bin .gtr 3 (U 30) (.const (.int .i64 60)))])
 (.cond (U 31) (.seq (.ak [ad 0 32 (.eh [.aX] []),
 bG 1 (.st 1 (U 6) (U 32)),
 ad 2 7 (.aq (.const (.int .i64 4)))])
 .ret) .skip))
 (.seq (.ak [ad 0 33 (.aO 0 (U 3)),
 ad 1 34 (.ld1 (U 33)),
 sc 2 35 39 [(U 34)],
 ad 3 36 (.eh [.aX] [(0,1,(U 35))]),
 ad 4 11 (.alloc [.aX]),
 bG 5 (.st 1 (U 11) (U 36))])
 (.seq (.seq (.ak [ad 0 37 (.aO 3 (U 4)),
 ad 1 38 (.aO 0 (U 37)),
 ad 2 39 (.ld1 (U 38))])
 (.block 0 (.seq (.ak [ad 0 41 (.bin .eql 5 (U 39) (.const (.int .u8 2))),
 af 1 40 41])
 (.cond (U 40) (.seq (.ak [ad 0 42 (.aO 3 (U 4)),
 ad 1 43 (.aO 1 (U 42)),
 ad 2 44 (.ld1 (U 43)),
 ad 3 45 (.aW 32 (U 9)),
 ad 4 46 (.eh ([.str []]++rep 32 (.int .u8 0)) [(0,1,(U 44)),(1,32,(U 45))]),
 ad 5 12 (.alloc ([.str []]++rep 32 (.int .u8 0))),
 bG 6 (.st 33 (U 12) (U 46))])
 (.seq (.ak [ad 0 48 (.aO 0 (U 11)),
 ad 1 49 (.ld1 (U 48)),
 ad 2 50 (.aW 33 (U 12)),
 sc 3 51 40 [(U 49),(U 50),(.func 41)],
 af 4 47 51,
 ad 5 52 (.ext (U 47) 0),
 ad 6 53 (.ext (U 47) 1),
 af 7 13 52,
 af 8 14 53])
 (.seq (.seq (.ak [af 0 54 14])
 (.cond (U 54) (.seq (.ak [ad 0 55 (.eh [.aX] []),
 bG 1 (.st 1 (U 6) (U 55)),
 ad 2 7 (.aq (.const (.int .i64 14)))])
 .ret) .skip))
 (.seq (.seq (.ak [ad 0 56 (.aO 0 (U 11)),
 ad 1 57 (.ld1 (U 56)),
 ad 2 58 (.len (.ao 33) (U 57)),
 ad 3 59 (.bin .eql 3 (U 58) (.const (.int .i64 60)))])
 (.cond (U 59) (.seq (.ak [ad 0 60 (.eh [.aX] []),
 bG 1 (.st 1 (U 6) (U 60)),
 ad 2 7 (.aq (.const (.int .i64 18)))])
 .ret) .skip))
 (.ak [ad 0 61 (.aO 0 (U 11)),
 ad 1 62 (.ld1 (U 61)),
 af 2 63 13,
 ad 3 64 (.aW 33 (U 12)),
 ad 4 65 (.cQ 33 ([.str []]++rep 32 (.int .u8 0)) 1 [(0,(U 64))]),
 sc 5 66 42 [(U 62),(U 63),(U 65)],
 ad 6 67 (.aO 0 (U 11)),
 bG 7 (.st 1 (U 67) (U 66))]))))) (.seq (.ak [ad 0 69 (.bin .eql 5 (U 39) (.const (.int .u8 3))),
 af 1 68 69])
 (.cond (U 68) (.ak [ad 0 70 (.aO 0 (U 11)),
 ad 1 71 (.ld1 (U 70)),
 ad 2 72 (.pM 44 [] [(U 4),(U 5)]),
 sc 3 73 43 [(U 71),(U 72)],
 ad 4 74 (.aO 0 (U 11)),
 bG 5 (.st 1 (U 74) (U 73))]) .skip))))))
 (.seq (.ak [ad 0 75 (.aW 1 (U 11)),
 bG 1 (.st 1 (U 6) (U 75)),
 ad 2 7 (.aq (.const (.int .i64 0)))])
 .ret))))))))
def LV:List a6:=[.aW 1 (U 6),.aq (U 7)]
theorem Qt:bq Tryz.prog 11=some FM:=by kernel_rfl
theorem Zl:br Tryz.prog 11=some LV:=by kernel_rfl
def Gw:aS:=(.seq (.ak [ad 0 0 (.alloc [.aX])])
 (.seq (.ak [ad 0 1 (.eh [.aX] []),
 bG 1 (.st 1 (U 0) (U 1))])
 .ret))
def ys:List a6:=[.aW 1 (U 0)]
theorem Rf:bq Tryz.prog 17=some Gw:=by kernel_rfl
theorem Z6:br Tryz.prog 17=some ys:=by kernel_rfl
def Xe:aS:=(.seq (.ak [ad 0 13 (.bin .lss 3 (U 12) (U 11))])
 (.seq (.cond (U 13) .skip (.exit 0))
 (.seq (.block 1 (.seq (.ak [af 0 14 12,
 ad 1 15 (.bm (.ao 33) (U 10) (U 12)),
 ad 2 16 (.aW 33 (U 15)),
 ad 3 4 (.alloc ([.str []]++rep 32 (.int .u8 0))),
 af 4 3 14,
 bG 5 (.st 33 (U 4) (U 16))])
 (.seq (.ak [ad 0 17 (.aO 0 (U 4)),
 ad 1 18 (.ld1 (U 17)),
 ad 2 19 (.eh [.int .u8 0,.str [],.int .u8 0,.int .i64 0,.int .u64 0,.str []] [(0,1,(.const (.int .u8 2))),(1,1,(U 18))]),
 sc 3 20 50 [(U 19)],
 ad 4 21 (.bin .neq 38 (U 20) (.const (.int .i64 0))),
 af 5 22 21,
 aF 6 23 22 false (.aq (U 3)),
 aF 7 24 22 false (.bin .gtr 3 (U 23) (.const (.int .i64 0))),
 aF 8 25 22 false (.aq (U 24)),
 aF 9 26 25 true (.aO 0 (U 1)),
 aF 10 27 25 true (.ld1 (U 26)),
 aF 11 28 25 true (.aq (U 3)),
 aF 12 29 25 true (.bin .sub 3 (U 28) (.const (.int .i64 1))),
 aF 13 30 25 true (.bm (.ao 33) (U 27) (U 29)),
 aF 14 31 25 true (.aW 33 (U 30)),
 aF 15 32 25 true (.aW 33 (U 4)),
 ⟨16,(some 33),(some ((some 25),true)),.cR 41 [(U 31),(U 32)],[],false⟩,
 aF 17 34 25 true (.bin .geq 3 (U 33) (.const (.int .i64 0))),
 aF 18 35 22 false (.pick (U 25) (U 34) (.const (.bool false))),
 ad 19 36 (.pick (U 22) (.const (.bool true)) (U 35))])
 (.cond (U 36) (.seq (.ak [ad 0 2 (.aq (.const (.int .i64 8)))])
 .ret) .skip))))
 (.ak [ad 0 37 (.bin .add 3 (U 12) (.const (.int .i64 1))),
 af 1 12 37]))))
def GF:aS:=(.seq (.ak [ad 0 1 (.box (U 0)),
 ad 1 2 (.aq (.const (.int .i64 0)))])
 (.seq (.seq (.ak [ad 0 5 (.aO 0 (U 1)),
 ad 1 6 (.ld1 (U 5)),
 ad 2 7 (.len (.ao 33) (U 6)),
 ad 3 8 (.bin .gtr 3 (U 7) (.const (.int .i64 60)))])
 (.cond (U 8) (.seq (.ak [ad 0 2 (.aq (.const (.int .i64 4)))])
 .ret) .skip))
 (.seq (.seq (.ak [ad 0 9 (.aO 0 (U 1)),
 ad 1 10 (.ld1 (U 9)),
 ad 2 11 (.len (.ao 33) (U 10)),
 ad 3 12 (.aq (.const (.int .i64 0)))])
 (.block 0 (.loop Xe)))
 (.seq (.ak [ad 0 2 (.aq (.const (.int .i64 0)))])
 .ret))))
def yt:List a6:=[.aq (U 2)]
theorem Rq:bq Tryz.prog 18=some GF:=by kernel_rfl
theorem aaj:br Tryz.prog 18=some yt:=by kernel_rfl
def Xl:aS:=(.seq (.seq (.ak [af 0 8 3,
 ad 1 9 (.aO 0 (U 1)),
 ad 2 10 (.ld1 (U 9)),
 ad 3 11 (.len (.ao 33) (U 10)),
 ad 4 12 (.bin .lss 3 (U 8) (U 11))])
 (.cond (U 12) .skip (.exit 0)))
 (.seq (.block 1 (.seq (.ak [ad 0 15 (.aO 0 (U 1)),
 ad 1 16 (.ld1 (U 15)),
 af 2 17 3,
 ad 3 18 (.bm (.ao 33) (U 16) (U 17)),
 ad 4 19 (.aO 0 (U 18)),
 ad 5 20 (.ld1 (U 19)),
 sc 6 21 51 [(U 20)],
 ad 7 22 (.un .not (U 21)),
 af 8 23 22,
 aF 9 24 23 false (.aq (U 3)),
 aF 10 25 23 false (.bin .gtr 3 (U 24) (.const (.int .i64 0))),
 aF 11 26 23 false (.aq (U 25)),
 aF 12 27 26 true (.aO 0 (U 1)),
 aF 13 28 26 true (.ld1 (U 27)),
 aF 14 29 26 true (.aq (U 3)),
 aF 15 30 26 true (.bin .sub 3 (U 29) (.const (.int .i64 1))),
 aF 16 31 26 true (.bm (.ao 33) (U 28) (U 30)),
 aF 17 32 26 true (.aW 33 (U 31)),
 aF 18 33 26 true (.aO 0 (U 1)),
 aF 19 34 26 true (.ld1 (U 33)),
 aF 20 35 26 true (.aq (U 3)),
 aF 21 36 26 true (.bm (.ao 33) (U 34) (U 35)),
 aF 22 37 26 true (.aW 33 (U 36)),
 ⟨23,(some 38),(some ((some 26),true)),.cR 52 [(U 32),(U 37)],[],false⟩,
 aF 24 39 26 true (.un .not (U 38)),
 aF 25 40 23 false (.pick (U 26) (U 39) (.const (.bool false))),
 ad 26 41 (.pick (U 23) (.const (.bool true)) (U 40))])
 (.cond (U 41) (.seq (.ak [ad 0 2 (.aq (.const (.int .i64 8)))])
 .ret) .skip)))
 (.ak [af 0 13 3,
 ad 1 14 (.bin .add 3 (U 13) (.const (.int .i64 1))),
 af 2 3 14])))
def GR:aS:=(.seq (.ak [ad 0 1 (.box (U 0)),
 ad 1 2 (.aq (.const (.int .i64 0)))])
 (.seq (.seq (.ak [ad 0 4 (.aO 0 (U 1)),
 ad 1 5 (.ld1 (U 4)),
 ad 2 6 (.len (.ao 33) (U 5)),
 ad 3 7 (.bin .gtr 3 (U 6) (.const (.int .i64 60)))])
 (.cond (U 7) (.seq (.ak [ad 0 2 (.aq (.const (.int .i64 4)))])
 .ret) .skip))
 (.seq (.seq (.ak [ad 0 3 (.aq (.const (.int .i64 0)))])
 (.block 0 (.loop Xl)))
 (.seq (.ak [ad 0 2 (.aq (.const (.int .i64 0)))])
 .ret))))
def yu:List a6:=[.aq (U 2)]
theorem RA:bq Tryz.prog 19=some GR:=by kernel_rfl
theorem aat:br Tryz.prog 19=some yu:=by kernel_rfl
def Xn:aS:=(.seq (.seq (.ak [af 0 13 5,
 ad 1 14 (.aO 0 (U 2)),
 ad 2 15 (.ld1 (U 14)),
 ad 3 16 (.len (.ao 33) (U 15)),
 ad 4 17 (.bin .lss 3 (U 13) (U 16))])
 (.cond (U 17) .skip (.exit 0)))
 (.seq (.block 1 (.seq (.ak [ad 0 20 (.aO 0 (U 2)),
 ad 1 21 (.ld1 (U 20)),
 af 2 22 5,
 ad 3 23 (.bm (.ao 33) (U 21) (U 22)),
 ad 4 24 (.aW 33 (U 23)),
 ad 5 25 (.aO 0 (U 3)),
 ad 6 26 (.ld1 (U 25)),
 af 7 27 5,
 ad 8 28 (.bm (.ao 33) (U 26) (U 27)),
 ad 9 29 (.aW 33 (U 28)),
 ad 10 30 (.bin .neq 77 (U 24) (U 29))])
 (.cond (U 30) (.seq (.ak [ad 0 4 (.aq (.const (.bool false)))])
 .ret) .skip)))
 (.ak [af 0 18 5,
 ad 1 19 (.bin .add 3 (U 18) (.const (.int .i64 1))),
 af 2 5 19])))
def G5:aS:=(.seq (.ak [ad 0 2 (.box (U 0)),
 ad 1 3 (.box (U 1)),
 ad 2 4 (.aq (.const (.bool false)))])
 (.seq (.seq (.ak [ad 0 6 (.aO 0 (U 2)),
 ad 1 7 (.ld1 (U 6)),
 ad 2 8 (.len (.ao 33) (U 7)),
 ad 3 9 (.aO 0 (U 3)),
 ad 4 10 (.ld1 (U 9)),
 ad 5 11 (.len (.ao 33) (U 10)),
 ad 6 12 (.bin .neq 3 (U 8) (U 11))])
 (.cond (U 12) (.seq (.ak [ad 0 4 (.aq (.const (.bool false)))])
 .ret) .skip))
 (.seq (.seq (.ak [ad 0 5 (.aq (.const (.int .i64 0)))])
 (.block 0 (.loop Xn)))
 (.seq (.ak [ad 0 4 (.aq (.const (.bool true)))])
 .ret))))
def M2:List a6:=[.aq (U 4)]
theorem RF:bq Tryz.prog 20=some G5:=by kernel_rfl
theorem aay:br Tryz.prog 20=some M2:=by kernel_rfl
def Xo:aS:=(.seq (.seq (.ak [af 0 4 3,
 ad 1 5 (.aO 1 (U 1)),
 ad 2 6 (.ld1 (U 5)),
 ad 3 7 (.len (.ao 11) (U 6)),
 ad 4 8 (.bin .lss 3 (U 4) (U 7)),
 af 5 9 8,
 aF 6 10 9 true (.aq (U 3)),
 aF 7 11 9 true (.bin .leq 3 (U 10) (.const (.int .i64 70))),
 ad 8 12 (.pick (U 9) (U 11) (.const (.bool false)))])
 (.cond (U 12) .skip (.exit 0)))
 (.seq (.block 1 (.seq (.ak [ad 0 15 (.aO 1 (U 1)),
 ad 1 16 (.ld1 (U 15)),
 af 2 17 3,
 ad 3 18 (.bm (.ao 11) (U 16) (U 17)),
 ad 4 19 (.aW 11 (U 18)),
 sc 5 20 53 [(U 19)]])
 (.cond (U 20) (.seq (.ak [ad 0 2 (.aq (.const (.bool true)))])
 .ret) .skip)))
 (.ak [af 0 13 3,
 ad 1 14 (.bin .add 3 (U 13) (.const (.int .i64 1))),
 af 2 3 14])))
def Ha:aS:=(.seq (.ak [ad 0 1 (.box (U 0)),
 ad 1 2 (.aq (.const (.bool false)))])
 (.seq (.seq (.ak [ad 0 3 (.aq (.const (.int .i64 0)))])
 (.block 0 (.loop Xo)))
 (.seq (.ak [ad 0 21 (.aO 1 (U 1)),
 ad 1 22 (.ld1 (U 21)),
 ad 2 23 (.len (.ao 11) (U 22)),
 ad 3 24 (.bin .gtr 3 (U 23) (.const (.int .i64 16))),
 af 4 25 24,
 aF 5 26 25 true (.aO 1 (U 1)),
 aF 6 27 25 true (.ld1 (U 26)),
 aF 7 28 25 true (.len (.ao 11) (U 27)),
 aF 8 29 25 true (.bin .leq 3 (U 28) (.const (.int .i64 60))),
 ad 9 30 (.pick (U 25) (U 29) (.const (.bool false))),
 af 10 31 30,
 aF 11 32 31 false (.aO 1 (U 1)),
 aF 12 33 31 false (.ld1 (U 32)),
 aF 13 34 31 false (.len (.ao 11) (U 33)),
 aF 14 35 31 false (.bin .gtr 3 (U 34) (.const (.int .i64 70))),
 ad 15 36 (.pick (U 31) (.const (.bool true)) (U 35)),
 af 16 37 36,
 aF 17 38 37 false (.aO 0 (U 1)),
 aF 18 39 37 false (.ld1 (U 38)),
 aF 19 40 37 false (.len (.ao 32) (U 39)),
 aF 20 41 37 false (.bin .gtr 3 (U 40) (.const (.int .i64 70))),
 ad 21 42 (.pick (U 37) (.const (.bool true)) (U 41)),
 af 22 2 42])
 .ret)))
def M7:List a6:=[.aq (U 2)]
theorem RG:bq Tryz.prog 22=some Ha:=by kernel_rfl
theorem aaz:br Tryz.prog 22=some M7:=by kernel_rfl
def alp:aS:=(.seq (.seq (.ak [af 0 10 4,
 ad 1 11 (.aO 1 (U 1)),
 ad 2 12 (.ld1 (U 11)),
 ad 3 13 (.len (.ao 11) (U 12)),
 ad 4 14 (.bin .lss 3 (U 10) (U 13))])
 (.cond (U 14) .skip (.exit 0)))
 (.seq (.block 1 (.gJ [ad 0 17 (.aO 1 (U 3)),
 ⟨1,(some 18),none,.cG (.ld1 (U 17)),[],true⟩,
 ad 2 19 (.aO 1 (U 1)),
 ad 3 20 (.ld1 (U 19)),
 af 4 21 4,
 ad 5 22 (.bm (.ao 11) (U 20) (U 21)),
 ad 6 23 (.aW 11 (U 22)),
 ⟨7,(some 24),none,.cR 54 [(U 23)],[1],false⟩,
 ad 8 25 (.cQ 11 [.int .u32 0,.aX,.int .u64 0,.int .u8 0,.str [],.int .u8 0,.int .i64 0,.int .u64 0,.str [],.int .u32 0,.int .u32 0] 1 [(0,(U 24))]),
 ad 9 26 (.app 11 112 (U 18) (U 25)),
 ad 10 27 (.aO 1 (U 3)),
 bG 11 (.st 1 (U 27) (U 26))]))
 (.ak [af 0 15 4,
 ad 1 16 (.bin .add 3 (U 15) (.const (.int .i64 1))),
 af 2 4 16])))
def RH:aS:=(.seq (.ak [ad 0 1 (.box (U 0)),
 ad 1 2 (.alloc [.aX,.aX])])
 (.seq (.ak [ad 0 5 (.cQ 32 (rep 32 (.int .u8 0)) 0 []),
 ad 1 6 (.aO 0 (U 1)),
 ad 2 7 (.ld1 (U 6)),
 ad 3 8 (.app 32 32 (U 5) (U 7)),
 ad 4 9 (.eh [.aX,.aX] [(0,1,(U 8))]),
 ad 5 3 (.alloc [.aX,.aX]),
 bG 6 (.st 2 (U 3) (U 9))])
 (.seq (.seq (.ak [ad 0 4 (.aq (.const (.int .i64 0)))])
 (.block 0 (.loop alp)))
 (.seq (.ak [ad 0 28 (.aW 2 (U 3)),
 bG 1 (.st 2 (U 2) (U 28))])
 .ret))))
def aaA:List a6:=[.aW 2 (U 2)]
theorem afd:bq Tryz.prog 23=some RH:=by kernel_rfl
theorem anm:br Tryz.prog 23=some aaA:=by kernel_rfl
def Xp:aS:=(.seq (.ak [ad 0 48 (.bin .lss 3 (U 47) (U 46))])
 (.seq (.cond (U 48) .skip (.exit 2))
 (.seq (.block 3 (.seq (.ak [ad 0 49 (.bm (.ao 32) (U 45) (U 47)),
 ad 1 50 (.aW 32 (U 49)),
 ad 2 11 (.alloc (rep 32 (.int .u8 0))),
 bG 3 (.st 32 (U 11) (U 50))])
 (.ak [af 0 51 5,
 ad 1 52 (.aO 3 (U 7)),
 ad 2 53 (.aO 1 (U 52)),
 ad 3 54 (.ld1 (U 53)),
 ad 4 55 (.aW 32 (U 11)),
 ad 5 56 (.eh ([.str []]++rep 32 (.int .u8 0)) [(0,1,(U 54)),(1,32,(U 55))]),
 bG 6 (.q4 77 (U 51) (U 56) (.const (.bool true)))])))
 (.ak [ad 0 57 (.bin .add 3 (U 47) (.const (.int .i64 1))),
 af 1 47 57]))))
def Xq:aS:=(.seq (.ak [ad 0 27 (.bin .lss 3 (U 26) (U 25))])
 (.seq (.cond (U 27) .skip (.exit 0))
 (.seq (.block 1 (.seq (.ak [af 0 28 26,
 ad 1 29 (.bm (.ao 11) (U 24) (U 26)),
 ad 2 30 (.aW 11 (U 29)),
 ad 3 7 (.alloc [.int .u32 0,.aX,.int .u64 0,.int .u8 0,.str [],.int .u8 0,.int .i64 0,.int .u64 0,.str [],.int .u32 0,.int .u32 0]),
 af 4 6 28,
 bG 5 (.st 11 (U 7) (U 30))])
 (.seq (.seq (.ak [ad 0 31 (.aO 3 (U 7)),
 ad 1 32 (.aO 0 (U 31)),
 ad 2 33 (.ld1 (U 32)),
 ad 3 34 (.bin .neq 5 (U 33) (.const (.int .u8 3)))])
 (.cond (U 34) (.exit 1) .skip))
 (.seq (.ak [ad 0 36 (.aW 2 (U 1)),
 ad 1 37 (.aO 0 (U 1)),
 ad 2 38 (.ld1 (U 37)),
 af 3 39 6,
 ad 4 40 (.bm (.ao 32) (U 38) (U 39)),
 ad 5 41 (.aW 32 (U 40)),
 sc 6 42 56 [(U 36),(U 41)],
 af 7 35 42,
 ad 8 43 (.ext (U 35) 0),
 ad 9 44 (.ext (U 35) 1),
 af 10 8 43,
 af 11 9 44])
 (.seq (.ak [af 0 45 8,
 ad 1 46 (.len (.ao 32) (U 45)),
 ad 2 47 (.aq (.const (.int .i64 0)))])
 (.block 2 (.loop Xp)))))))
 (.ak [ad 0 58 (.bin .add 3 (U 26) (.const (.int .i64 1))),
 af 1 26 58]))))
def Xr:aS:=(.seq (.ak [ad 0 63 (.bin .lss 3 (U 62) (U 61))])
 (.seq (.cond (U 63) .skip (.exit 4))
 (.seq (.block 5 (.seq (.ak [af 0 64 62,
 ad 1 65 (.bm (.ao 11) (U 60) (U 62)),
 ad 2 66 (.aW 11 (U 65)),
 ad 3 14 (.alloc [.int .u32 0,.aX,.int .u64 0,.int .u8 0,.str [],.int .u8 0,.int .i64 0,.int .u64 0,.str [],.int .u32 0,.int .u32 0]),
 af 4 13 64,
 bG 5 (.st 11 (U 14) (U 66))])
 (.seq (.ak [ad 0 67 (.aO 3 (U 14)),
 ad 1 68 (.aO 1 (U 67)),
 ad 2 69 (.ld1 (U 68)),
 ad 3 70 (.aO 0 (U 1)),
 ad 4 71 (.ld1 (U 70)),
 af 5 72 13,
 ad 6 73 (.bm (.ao 32) (U 71) (U 72)),
 ad 7 74 (.aW 32 (U 73)),
 ad 8 75 (.eh ([.str []]++rep 32 (.int .u8 0)) [(0,1,(U 69)),(1,32,(U 74))]),
 ad 9 15 (.alloc ([.str []]++rep 32 (.int .u8 0))),
 bG 10 (.st 33 (U 15) (U 75))])
 (.seq (.ak [ad 0 76 (.aO 3 (U 14)),
 ad 1 77 (.aO 0 (U 76)),
 ad 2 78 (.ld1 (U 77)),
 ad 3 79 (.bin .eql 5 (U 78) (.const (.int .u8 2))),
 af 4 80 79,
 aF 5 81 80 true (.aq (U 5)),
 aF 6 82 80 true (.aW 33 (U 15)),
 aF 7 83 80 true (.sH 77 (.bool false) false (U 81) (U 82)),
 aF 8 84 80 true (.un .not (U 83)),
 ad 9 85 (.pick (U 80) (U 84) (.const (.bool false)))])
 (.cond (U 85) (.ak [ad 0 86 (.aO 0 (U 12)),
 ad 1 87 (.ld1 (U 86)),
 ad 2 88 (.aW 33 (U 15)),
 ad 3 89 (.cQ 33 ([.str []]++rep 32 (.int .u8 0)) 1 [(0,(U 88))]),
 ad 4 90 (.app 33 48 (U 87) (U 89)),
 ad 5 91 (.aO 0 (U 12)),
 bG 6 (.st 1 (U 91) (U 90))]) .skip)))))
 (.ak [ad 0 92 (.bin .add 3 (U 62) (.const (.int .i64 1))),
 af 1 62 92]))))
def Hb:aS:=(.seq (.ak [ad 0 1 (.box (U 0)),
 ad 1 2 (.alloc [.aX]),
 ad 2 3 (.aq (.const (.int .i64 0)))])
 (.seq (.seq (.ak [ad 0 16 (.aW 2 (U 1)),
 sc 1 17 55 [(U 16)],
 af 2 4 17])
 (.seq (.ak [af 0 18 4,
 ad 1 19 (.bin .neq 38 (U 18) (.const (.int .i64 0)))])
 (.cond (U 19) (.seq (.ak [ad 0 20 (.eh [.aX] []),
 af 1 21 4,
 bG 2 (.st 1 (U 2) (U 20)),
 af 3 3 21])
 .ret) .skip)))
 (.seq (.ak [ad 0 22 (.pN none),
 af 1 5 22])
 (.seq (.seq (.ak [ad 0 23 (.aO 1 (U 1)),
 ad 1 24 (.ld1 (U 23)),
 ad 2 25 (.len (.ao 11) (U 24)),
 ad 3 26 (.aq (.const (.int .i64 0)))])
 (.block 0 (.loop Xq)))
 (.seq (.ak [ad 0 12 (.alloc [.aX])])
 (.seq (.seq (.ak [ad 0 59 (.aO 1 (U 1)),
 ad 1 60 (.ld1 (U 59)),
 ad 2 61 (.len (.ao 11) (U 60)),
 ad 3 62 (.aq (.const (.int .i64 0)))])
 (.block 4 (.loop Xr)))
 (.seq (.ak [ad 0 93 (.aO 0 (U 12)),
 ad 1 94 (.ld1 (U 93)),
 sc 2 95 57 [(U 94),(.func 41)]])
 (.seq (.ak [ad 0 96 (.aW 1 (U 12)),
 bG 1 (.st 1 (U 2) (U 96)),
 ad 2 3 (.aq (.const (.int .i64 0)))])
 .ret))))))))
def uy:List a6:=[.aW 1 (U 2),.aq (U 3)]
theorem RI:bq Tryz.prog 24=some Hb:=by kernel_rfl
theorem aaB:br Tryz.prog 24=some uy:=by kernel_rfl
def RJ:aS:=(.seq (.ak [ad 0 0 (.aq (.const (.bool false)))])
 (.seq (.ak [sc 0 12 36 [(.const (.int .u8 2)),(.const (.int .u64 1)),(.const (.slice none 0 0))],
 ad 1 1 (.alloc [.int .u32 0,.aX,.int .u64 0,.int .u8 0,.str [],.int .u8 0,.int .i64 0,.int .u64 0,.str [],.int .u32 0,.int .u32 0]),
 bG 2 (.st 11 (U 1) (U 12))])
 (.seq (.ak [ad 0 13 (.aW 11 (U 1)),
 sc 1 14 32 [(U 13)],
 ad 2 15 (.cQ 32 (rep 32 (.int .u8 0)) 1 [(0,(U 14))]),
 sc 3 16 36 [(.const (.int .u8 3)),(.const (.int .u64 2)),(U 15)],
 ad 4 2 (.alloc [.int .u32 0,.aX,.int .u64 0,.int .u8 0,.str [],.int .u8 0,.int .i64 0,.int .u64 0,.str [],.int .u32 0,.int .u32 0]),
 bG 5 (.st 11 (U 2) (U 16))])
 (.seq (.ak [sc 0 17 36 [(.const (.int .u8 2)),(.const (.int .u64 3)),(.const (.slice none 0 0))],
 ad 1 3 (.alloc [.int .u32 0,.aX,.int .u64 0,.int .u8 0,.str [],.int .u8 0,.int .i64 0,.int .u64 0,.str [],.int .u32 0,.int .u32 0]),
 bG 2 (.st 11 (U 3) (U 17))])
 (.seq (.ak [ad 0 19 (.aW 11 (U 1)),
 ad 1 20 (.aW 11 (U 2)),
 ad 2 21 (.aW 11 (U 3)),
 ad 3 22 (.cQ 11 [.int .u32 0,.aX,.int .u64 0,.int .u8 0,.str [],.int .u8 0,.int .i64 0,.int .u64 0,.str [],.int .u32 0,.int .u32 0] 3 [(0,(U 19)),(1,(U 20)),(2,(U 21))]),
 sc 4 23 60 [(U 22)],
 af 5 18 23,
 ad 6 24 (.ext (U 18) 0),
 ad 7 25 (.ext (U 18) 1),
 ad 8 4 (.alloc [.aX,.aX]),
 bG 9 (.st 2 (U 4) (U 24)),
 af 10 5 25])
 (.seq (.ak [ad 0 27 (.aW 11 (U 1)),
 ad 1 28 (.aW 11 (U 2)),
 ad 2 29 (.cQ 11 [.int .u32 0,.aX,.int .u64 0,.int .u8 0,.str [],.int .u8 0,.int .i64 0,.int .u64 0,.str [],.int .u32 0,.int .u32 0] 2 [(0,(U 27)),(1,(U 28))]),
 sc 3 30 60 [(U 29)],
 af 4 26 30,
 ad 5 31 (.ext (U 26) 0),
 ad 6 32 (.ext (U 26) 1),
 ad 7 6 (.alloc [.aX,.aX]),
 bG 8 (.st 2 (U 6) (U 31)),
 af 9 7 32])
 (.seq (.ak [ad 0 34 (.aW 2 (U 4)),
 sc 1 35 24 [(U 34)],
 af 2 33 35,
 ad 3 36 (.ext (U 33) 0),
 ad 4 37 (.ext (U 33) 1),
 ad 5 8 (.alloc [.aX]),
 bG 6 (.st 1 (U 8) (U 36)),
 af 7 9 37])
 (.seq (.ak [ad 0 39 (.aW 2 (U 6)),
 sc 1 40 24 [(U 39)],
 af 2 38 40,
 ad 3 41 (.ext (U 38) 0),
 ad 4 42 (.ext (U 38) 1),
 ad 5 10 (.alloc [.aX]),
 bG 6 (.st 1 (U 10) (U 41)),
 af 7 11 42])
 (.seq (.gJ [af 0 43 5,
 ad 1 44 (.bin .eql 3 (U 43) (.const (.int .i64 0))),
 af 2 45 44,
 aF 3 46 45 true (.aq (U 7)),
 aF 4 47 45 true (.bin .eql 3 (U 46) (.const (.int .i64 0))),
 ad 5 48 (.pick (U 45) (U 47) (.const (.bool false))),
 af 6 49 48,
 aF 7 50 49 true (.aq (U 9)),
 aF 8 51 49 true (.bin .eql 38 (U 50) (.const (.int .i64 0))),
 ad 9 52 (.pick (U 49) (U 51) (.const (.bool false))),
 af 10 53 52,
 aF 11 54 53 true (.aq (U 11)),
 aF 12 55 53 true (.bin .eql 38 (U 54) (.const (.int .i64 0))),
 ad 13 56 (.pick (U 53) (U 55) (.const (.bool false))),
 af 14 57 56,
 ⟨15,(some 58),(some ((some 57),true)),.cG (.aW 1 (U 8)),[],true⟩,
 aF 16 59 57 true (.aW 11 (U 3)),
 ⟨17,(some 60),(some ((some 57),true)),.cR 32 [(U 59)],[15],false⟩,
 aF 18 61 57 true (.eh ([.str []]++rep 32 (.int .u8 0)) [(0,1,(.const (.string ⟨#[107]⟩))),(1,32,(U 60))]),
 aF 19 62 57 true (.cQ 33 ([.str []]++rep 32 (.int .u8 0)) 1 [(0,(U 61))]),
 aF 20 63 57 true (.eh [.aX] [(0,1,(U 62))]),
 ⟨21,(some 64),(some ((some 57),true)),.cR 20 [(U 58),(U 63)],[],false⟩,
 ad 22 65 (.pick (U 57) (U 64) (.const (.bool false))),
 af 23 66 65,
 aF 24 67 66 true (.aO 0 (U 10)),
 aF 25 68 66 true (.ld1 (U 67)),
 aF 26 69 66 true (.len (.ao 33) (U 68)),
 aF 27 70 66 true (.bin .eql 3 (U 69) (.const (.int .i64 0))),
 ad 28 71 (.pick (U 66) (U 70) (.const (.bool false))),
 af 29 0 71])
 .ret)))))))))
def aaC:List a6:=[.aq (U 0)]
theorem afe:bq Tryz.prog 27=some RJ:=by kernel_rfl
theorem ann:br Tryz.prog 27=some aaC:=by kernel_rfl
def Xs:aS:=(.seq (.seq (.ak [af 0 15 3,
 ad 1 16 (.aO 1 (U 1)),
 ad 2 17 (.ld1 (U 16)),
 ad 3 18 (.len (.ao 11) (U 17)),
 ad 4 19 (.bin .lss 3 (U 15) (U 18))])
 (.cond (U 19) .skip (.exit 0)))
 (.seq (.block 1 (.seq (.gJ [ad 0 22 (.aO 1 (U 1)),
 ad 1 23 (.ld1 (U 22)),
 af 2 24 3,
 ad 3 25 (.bm (.ao 11) (U 23) (U 24)),
 ad 4 26 (.aW 11 (U 25)),
 sc 5 27 61 [(U 26)],
 ad 6 28 (.bin .neq 3 (U 27) (.const (.int .i64 0))),
 af 7 29 28,
 aF 8 30 29 false (.aO 1 (U 1)),
 aF 9 31 29 false (.ld1 (U 30)),
 aF 10 32 29 false (.aq (U 3)),
 aF 11 33 29 false (.bm (.ao 11) (U 31) (U 32)),
 aF 12 34 29 false (.aW 11 (U 33)),
 aF 14 36 29 false (.aO 0 (U 1)),
 ⟨15,(some 37),(some ((some 29),false)),.cG (.ld1 (U 36)),[],true⟩,
 aF 16 38 29 false (.aq (U 3)),
 aF 17 39 29 false (.bm (.ao 32) (U 37) (U 38)),
 ⟨18,(some 40),(some ((some 29),false)),.cG (.aW 32 (U 39)),[],true⟩,
 ⟨13,(some 35),(some ((some 29),false)),.cR 32 [(U 34)],[18,15],false⟩,
 aF 19 41 29 false (.bin .neq 71 (U 35) (U 40)),
 ad 20 42 (.pick (U 29) (.const (.bool true)) (U 41))])
 (.cond (U 42) (.seq (.ak [ad 0 2 (.aq (.const (.int .i64 8)))])
 .ret) .skip)))
 (.ak [af 0 20 3,
 ad 1 21 (.bin .add 3 (U 20) (.const (.int .i64 1))),
 af 2 3 21])))
def Hc:aS:=(.seq (.ak [ad 0 1 (.box (U 0)),
 ad 1 2 (.aq (.const (.int .i64 0)))])
 (.seq (.seq (.ak [ad 0 4 (.aO 1 (U 1)),
 ad 1 5 (.ld1 (U 4)),
 ad 2 6 (.len (.ao 11) (U 5)),
 ad 3 7 (.bin .gtr 3 (U 6) (.const (.int .i64 60)))])
 (.cond (U 7) (.seq (.ak [ad 0 2 (.aq (.const (.int .i64 4)))])
 .ret) .skip))
 (.seq (.seq (.ak [ad 0 8 (.aO 0 (U 1)),
 ad 1 9 (.ld1 (U 8)),
 ad 2 10 (.len (.ao 32) (U 9)),
 ad 3 11 (.aO 1 (U 1)),
 ad 4 12 (.ld1 (U 11)),
 ad 5 13 (.len (.ao 11) (U 12)),
 ad 6 14 (.bin .neq 3 (U 10) (U 13))])
 (.cond (U 14) (.seq (.ak [ad 0 2 (.aq (.const (.int .i64 8)))])
 .ret) .skip))
 (.seq (.seq (.ak [ad 0 3 (.aq (.const (.int .i64 0)))])
 (.block 0 (.loop Xs)))
 (.seq (.ak [ad 0 43 (.aW 2 (U 1)),
 sc 1 44 62 [(U 43)],
 af 2 2 44])
 .ret)))))
def M8:List a6:=[.aq (U 2)]
theorem RK:bq Tryz.prog 28=some Hc:=by kernel_rfl
theorem aaD:br Tryz.prog 28=some M8:=by kernel_rfl
def Xt:aS:=(.seq (.seq (.ak [af 0 21 8,
 ad 1 22 (.aO 1 (U 7)),
 ad 2 23 (.ld1 (U 22)),
 ad 3 24 (.len (.ao 32) (U 23)),
 ad 4 25 (.bin .lss 3 (U 21) (U 24))])
 (.cond (U 25) .skip (.exit 2)))
 (.seq (.block 3 (.seq (.ak [af 0 28 5,
 ad 1 29 (.aO 1 (U 7)),
 ad 2 30 (.ld1 (U 29)),
 af 3 31 8,
 ad 4 32 (.bm (.ao 32) (U 30) (U 31)),
 ad 5 33 (.aW 32 (U 32)),
 sc 6 34 30 [(U 28),(U 33)],
 ad 7 35 (.un .not (U 34))])
 (.cond (U 35) (.seq (.ak [af 0 36 5,
 ad 1 37 (.aO 1 (U 7)),
 ad 2 38 (.ld1 (U 37)),
 af 3 39 8,
 ad 4 40 (.bm (.ao 32) (U 38) (U 39)),
 ad 5 41 (.aW 32 (U 40)),
 ad 6 42 (.cQ 32 (rep 32 (.int .u8 0)) 1 [(0,(U 41))]),
 ad 7 43 (.app 32 32 (U 36) (U 42)),
 af 8 5 43])
 (.ak [af 0 44 6,
 ad 1 45 (.aO 1 (U 7)),
 ad 2 46 (.ld1 (U 45)),
 af 3 47 8,
 ad 4 48 (.bm (.ao 32) (U 46) (U 47)),
 ad 5 49 (.aW 32 (U 48)),
 ad 6 50 (.cQ 32 (rep 32 (.int .u8 0)) 1 [(0,(U 49))]),
 ad 7 51 (.app 32 32 (U 44) (U 50)),
 af 8 6 51])) .skip)))
 (.ak [af 0 26 8,
 ad 1 27 (.bin .add 3 (U 26) (.const (.int .i64 1))),
 af 2 8 27])))
def Xu:aS:=(.seq (.seq (.ak [af 0 11 6,
 ad 1 12 (.len (.ao 32) (U 11)),
 ad 2 13 (.bin .gtr 3 (U 12) (.const (.int .i64 0)))])
 (.cond (U 13) .skip (.exit 0)))
 (.block 1 (.seq (.gJ [ad 0 14 (.aW 2 (U 2)),
 af 1 15 6,
 ad 2 16 (.bm (.ao 32) (U 15) (.const (.int .i64 0))),
 ad 3 17 (.aW 32 (U 16)),
 ⟨5,(some 7),none,.cG (.alloc [.int .u32 0,.aX,.int .u64 0,.int .u8 0,.str [],.int .u8 0,.int .i64 0,.int .u64 0,.str [],.int .u32 0,.int .u32 0]),[],true⟩,
 ⟨4,(some 18),none,.cR 35 [(U 14),(U 17)],[5],false⟩,
 bG 6 (.st 11 (U 7) (U 18))])
 (.seq (.ak [af 0 19 6,
 ad 1 20 (.slice (.ao 32) (U 19) (some (.const (.int .i64 1))) none none),
 af 2 6 20])
 (.seq (.ak [ad 0 8 (.aq (.const (.int .i64 0)))])
 (.block 2 (.loop Xt)))))))
def Hd:aS:=(.seq (.ak [ad 0 2 (.box (U 0)),
 ad 1 3 (.box (U 1)),
 ad 2 4 (.aq (.const (.slice none 0 0)))])
 (.seq (.ak [ad 0 5 (.aq (.const (.slice none 0 0)))])
 (.seq (.ak [ad 0 9 (.aW 32 (U 3)),
 ad 1 10 (.cQ 32 (rep 32 (.int .u8 0)) 1 [(0,(U 9))]),
 af 2 6 10])
 (.seq (.block 0 (.loop Xu))
 (.seq (.ak [af 0 52 5,
 af 1 4 52])
 .ret)))))
def M9:List a6:=[.aq (U 4)]
theorem RL:bq Tryz.prog 29=some Hd:=by kernel_rfl
theorem aaE:br Tryz.prog 29=some M9:=by kernel_rfl
def Xv:aS:=(.seq (.seq (.ak [af 0 6 5,
 af 1 7 0,
 ad 2 8 (.len (.ao 32) (U 7)),
 ad 3 9 (.bin .lss 3 (U 6) (U 8))])
 (.cond (U 9) .skip (.exit 0)))
 (.seq (.block 1 (.seq (.ak [af 0 12 0,
 af 1 13 5,
 ad 2 14 (.bm (.ao 32) (U 12) (U 13)),
 ad 3 15 (.aW 32 (U 14)),
 ad 4 16 (.aW 32 (U 3)),
 ad 5 17 (.bin .eql 71 (U 15) (U 16))])
 (.cond (U 17) (.seq (.ak [ad 0 4 (.aq (.const (.bool true)))])
 .ret) .skip)))
 (.ak [af 0 10 5,
 ad 1 11 (.bin .add 3 (U 10) (.const (.int .i64 1))),
 af 2 5 11])))
def He:aS:=(.seq (.ak [ad 0 3 (.box (U 1)),
 ad 1 4 (.aq (.const (.bool false)))])
 (.seq (.seq (.ak [ad 0 5 (.aq (.const (.int .i64 0)))])
 (.block 0 (.loop Xv)))
 (.seq (.ak [ad 0 4 (.aq (.const (.bool false)))])
 .ret)))
def Na:List a6:=[.aq (U 4)]
theorem RM:bq Tryz.prog 30=some He:=by kernel_rfl
theorem aaF:br Tryz.prog 30=some Na:=by kernel_rfl
def Hf:aS:=(.seq (.ak [ad 0 1 (.box (U 0)),
 ad 1 2 (.aq (.const (.int .i64 0)))])
 (.seq (.seq (.ak [ad 0 3 (.aO 1 (U 1)),
 ad 1 4 (.ld1 (U 3)),
 ad 2 5 (.len (.ao 32) (U 4)),
 ad 3 6 (.bin .gtr 3 (U 5) (.const (.int .i64 4)))])
 (.cond (U 6) (.seq (.ak [ad 0 2 (.aq (.const (.int .i64 4)))])
 .ret) .skip))
 (.seq (.seq (.ak [ad 0 7 (.aO 1 (U 1)),
 ad 1 8 (.ld1 (U 7)),
 sc 2 9 63 [(U 8)],
 ad 3 10 (.un .not (U 9))])
 (.cond (U 10) (.seq (.ak [ad 0 2 (.aq (.const (.int .i64 32)))])
 .ret) .skip))
 (.seq (.seq (.ak [ad 0 11 (.aO 0 (U 1)),
 ad 1 12 (.ld1 (U 11)),
 sc 2 13 64 [(U 12)],
 ad 3 14 (.un .not (U 13)),
 af 4 15 14,
 aF 5 16 15 false (.aO 2 (U 1)),
 aF 6 17 15 false (.ld1 (U 16)),
 aF 7 18 15 false (.bin .gtr 27 (U 17) (.const (.int .u64 1000000000000))),
 ad 8 19 (.pick (U 15) (.const (.bool true)) (U 18)),
 af 9 20 19,
 aF 10 21 20 false (.aO 3 (U 1)),
 aF 11 22 20 false (.aW 6 (U 21)),
 ⟨12,(some 23),(some ((some 20),false)),.cR 65 [(U 22)],[],false⟩,
 aF 13 24 20 false (.bin .neq 3 (U 23) (.const (.int .i64 0))),
 ad 14 25 (.pick (U 20) (.const (.bool true)) (U 24)),
 af 15 26 25,
 aF 16 27 26 false (.aO 9 (U 1)),
 aF 17 28 26 false (.aO 0 (U 27)),
 aF 18 29 26 false (.ld1 (U 28)),
 ⟨19,(some 30),(some ((some 26),false)),.cR 66 [(U 29)],[],false⟩,
 aF 20 31 26 false (.un .not (U 30)),
 ad 21 32 (.pick (U 26) (.const (.bool true)) (U 31)),
 af 22 33 32,
 aF 23 34 33 false (.aO 9 (U 1)),
 aF 24 35 33 false (.aO 1 (U 34)),
 aF 25 36 33 false (.ld1 (U 35)),
 ⟨26,(some 37),(some ((some 33),false)),.cR 66 [(U 36)],[],false⟩,
 aF 27 38 33 false (.un .not (U 37)),
 ad 28 39 (.pick (U 33) (.const (.bool true)) (U 38))])
 (.cond (U 39) (.seq (.ak [ad 0 2 (.aq (.const (.int .i64 8)))])
 .ret) .skip))
 (.seq (.ak [ad 0 2 (.aq (.const (.int .i64 0)))])
 .ret)))))
def Nb:List a6:=[.aq (U 2)]
theorem RN:bq Tryz.prog 31=some Hf:=by kernel_rfl
theorem aaG:br Tryz.prog 31=some Nb:=by kernel_rfl
def Hg:aS:=(.seq (.ak [ad 0 1 (.box (U 0)),
 ad 1 2 (.alloc (rep 32 (.int .u8 0)))])
 (.seq (.ak [ad 0 3 (.aW 11 (U 1)),
 sc 1 4 68 [(U 3)],
 sc 2 5 67 [(U 4)],
 bG 3 (.st 32 (U 2) (U 5))])
 .ret))
def Nc:List a6:=[.aW 32 (U 2)]
theorem RO:bq Tryz.prog 32=some Hg:=by kernel_rfl
theorem aaH:br Tryz.prog 32=some Nc:=by kernel_rfl
def alq:aS:=(.seq (.seq (.ak [af 0 6 5,
 af 1 7 0,
 ad 2 8 (.len (.ao 33) (U 7)),
 ad 3 9 (.bin .lss 3 (U 6) (U 8))])
 (.cond (U 9) .skip (.exit 0)))
 (.seq (.block 1 (.seq (.ak [af 0 12 0,
 af 1 13 5,
 ad 2 14 (.bm (.ao 33) (U 12) (U 13)),
 ad 3 15 (.aW 33 (U 14)),
 ad 4 16 (.aW 33 (U 3)),
 ad 5 17 (.bin .eql 77 (U 15) (U 16))])
 (.cond (U 17) (.seq (.ak [ad 0 4 (.aq (.const (.bool true)))])
 .ret) .skip)))
 (.ak [af 0 10 5,
 ad 1 11 (.bin .add 3 (U 10) (.const (.int .i64 1))),
 af 2 5 11])))
def RP:aS:=(.seq (.ak [ad 0 3 (.box (U 1)),
 ad 1 4 (.aq (.const (.bool false)))])
 (.seq (.seq (.ak [ad 0 5 (.aq (.const (.int .i64 0)))])
 (.block 0 (.loop alq)))
 (.seq (.ak [ad 0 4 (.aq (.const (.bool false)))])
 .ret)))
def aaI:List a6:=[.aq (U 4)]
theorem aff:bq Tryz.prog 33=some RP:=by kernel_rfl
theorem ano:br Tryz.prog 33=some aaI:=by kernel_rfl
def Xw:aS:=(.seq (.seq (.ak [af 0 15 7,
 ad 1 16 (.aO 0 (U 2)),
 ad 2 17 (.ld1 (U 16)),
 ad 3 18 (.len (.ao 32) (U 17)),
 ad 4 19 (.bin .lss 3 (U 15) (U 18))])
 (.cond (U 19) .skip (.exit 2)))
 (.seq (.block 3 (.seq (.ak [af 0 22 5,
 ad 1 23 (.aO 0 (U 2)),
 ad 2 24 (.ld1 (U 23)),
 af 3 25 7,
 ad 4 26 (.bm (.ao 32) (U 24) (U 25)),
 ad 5 27 (.aW 32 (U 26)),
 sc 6 28 30 [(U 22),(U 27)],
 ad 7 29 (.un .not (U 28)),
 af 8 30 29,
 aF 9 31 30 true (.aq (U 5)),
 aF 10 32 30 true (.aO 1 (U 2)),
 aF 11 33 30 true (.ld1 (U 32)),
 aF 12 34 30 true (.aq (U 7)),
 aF 13 35 30 true (.bm (.ao 11) (U 33) (U 34)),
 aF 14 36 30 true (.aO 1 (U 35)),
 aF 15 37 30 true (.ld1 (U 36)),
 ⟨16,(some 38),(some ((some 30),true)),.cR 69 [(U 31),(U 37)],[],false⟩,
 ad 17 39 (.pick (U 30) (U 38) (.const (.bool false)))])
 (.cond (U 39) (.ak [af 0 40 6,
 ad 1 41 (.aO 0 (U 2)),
 ad 2 42 (.ld1 (U 41)),
 af 3 43 7,
 ad 4 44 (.bm (.ao 32) (U 42) (U 43)),
 ad 5 45 (.aW 32 (U 44)),
 ad 6 46 (.cQ 32 (rep 32 (.int .u8 0)) 1 [(0,(U 45))]),
 ad 7 47 (.app 32 32 (U 40) (U 46)),
 af 8 6 47]) .skip)))
 (.ak [af 0 20 7,
 ad 1 21 (.bin .add 3 (U 20) (.const (.int .i64 1))),
 af 2 7 21])))
def Xx:aS:=(.seq (.seq (.ak [af 0 9 5,
 ad 1 10 (.len (.ao 32) (U 9)),
 ad 2 11 (.aO 0 (U 2)),
 ad 3 12 (.ld1 (U 11)),
 ad 4 13 (.len (.ao 32) (U 12)),
 ad 5 14 (.bin .lss 3 (U 10) (U 13))])
 (.cond (U 14) .skip (.exit 0)))
 (.block 1 (.seq (.ak [ad 0 6 (.aq (.const (.slice none 0 0)))])
 (.seq (.seq (.ak [ad 0 7 (.aq (.const (.int .i64 0)))])
 (.block 2 (.loop Xw)))
 (.seq (.seq (.ak [af 0 48 6,
 ad 1 49 (.len (.ao 32) (U 48)),
 ad 2 50 (.bin .eql 3 (U 49) (.const (.int .i64 0)))])
 (.cond (U 50) (.exit 0) .skip))
 (.seq (.ak [ad 0 8 (.aq (.const (.int .i64 0)))])
 (.seq (.seq (.ak [af 0 51 5,
 ad 1 52 (.len (.ao 32) (U 51)),
 af 2 53 1,
 ad 3 54 (.len (.ao 1) (U 53)),
 ad 4 55 (.bin .lss 3 (U 52) (U 54)),
 af 5 56 55,
 aF 6 57 56 true (.aq (U 1)),
 aF 7 58 56 true (.aq (U 5)),
 aF 8 59 56 true (.len (.ao 32) (U 58)),
 aF 9 60 56 true (.bm (.ao 1) (U 57) (U 59)),
 aF 10 61 56 true (.ld1 (U 60)),
 aF 11 62 56 true (.bin .gtr 3 (U 61) (.const (.int .i64 0))),
 ad 12 63 (.pick (U 56) (U 62) (.const (.bool false)))])
 (.cond (U 63) (.ak [af 0 64 1,
 af 1 65 5,
 ad 2 66 (.len (.ao 32) (U 65)),
 ad 3 67 (.bm (.ao 1) (U 64) (U 66)),
 ad 4 68 (.ld1 (U 67)),
 af 5 69 6,
 ad 6 70 (.len (.ao 32) (U 69)),
 ad 7 71 (.bin .rem 3 (U 68) (U 70)),
 af 8 8 71]) .skip))
 (.ak [af 0 72 5,
 af 1 73 6,
 af 2 74 8,
 ad 3 75 (.bm (.ao 32) (U 73) (U 74)),
 ad 4 76 (.aW 32 (U 75)),
 ad 5 77 (.cQ 32 (rep 32 (.int .u8 0)) 1 [(0,(U 76))]),
 ad 6 78 (.app 32 32 (U 72) (U 77)),
 af 7 5 78]))))))))
def Hh:aS:=(.seq (.ak [ad 0 2 (.box (U 0)),
 ad 1 4 (.aq (.const (.slice none 0 0)))])
 (.seq (.ak [ad 0 5 (.aq (.const (.slice none 0 0)))])
 (.seq (.block 0 (.loop Xx))
 (.seq (.ak [af 0 79 5,
 af 1 4 79])
 .ret))))
def Nd:List a6:=[.aq (U 4)]
theorem RQ:bq Tryz.prog 34=some Hh:=by kernel_rfl
theorem aaJ:br Tryz.prog 34=some Nd:=by kernel_rfl
def Hi:aS:=(.seq (.ak [ad 0 2 (.box (U 0)),
 ad 1 3 (.box (U 1)),
 ad 2 4 (.alloc [.int .u32 0,.aX,.int .u64 0,.int .u8 0,.str [],.int .u8 0,.int .i64 0,.int .u64 0,.str [],.int .u32 0,.int .u32 0])])
 (.seq (.ak [ad 0 6 (.aO 0 (U 2)),
 ad 1 7 (.ld1 (U 6)),
 ad 2 8 (.aW 32 (U 3)),
 sc 3 9 70 [(U 7),(U 8)],
 af 4 5 9])
 (.seq (.seq (.ak [af 0 10 5,
 ad 1 11 (.bin .lss 3 (U 10) (.const (.int .i64 0))),
 af 2 12 11,
 aF 3 13 12 false (.aq (U 5)),
 aF 4 14 12 false (.aO 1 (U 2)),
 aF 5 15 12 false (.ld1 (U 14)),
 aF 6 16 12 false (.len (.ao 11) (U 15)),
 aF 7 17 12 false (.bin .geq 3 (U 13) (U 16)),
 ad 8 18 (.pick (U 12) (.const (.bool true)) (U 17))])
 (.cond (U 18) (.seq (.ak [ad 0 19 (.eh [.int .u32 0,.aX,.int .u64 0,.int .u8 0,.str [],.int .u8 0,.int .i64 0,.int .u64 0,.str [],.int .u32 0,.int .u32 0] []),
 bG 1 (.st 11 (U 4) (U 19))])
 .ret) .skip))
 (.seq (.ak [ad 0 20 (.aO 1 (U 2)),
 ad 1 21 (.ld1 (U 20)),
 af 2 22 5,
 ad 3 23 (.bm (.ao 11) (U 21) (U 22)),
 ad 4 24 (.aW 11 (U 23)),
 bG 5 (.st 11 (U 4) (U 24))])
 .ret))))
def Nf:List a6:=[.aW 11 (U 4)]
theorem RR:bq Tryz.prog 35=some Hi:=by kernel_rfl
theorem aaK:br Tryz.prog 35=some Nf:=by kernel_rfl
def RS:aS:=(.seq (.ak [ad 0 6 (.alloc [.int .u32 0,.aX,.int .u64 0,.int .u8 0,.str [],.int .u8 0,.int .i64 0,.int .u64 0,.str [],.int .u32 0,.int .u32 0])])
 (.seq (.ak [af 0 10 2,
 af 1 11 1,
 af 2 12 0,
 ad 3 13 (.eh [.int .u8 0,.str [],.int .u8 0,.int .i64 0,.int .u64 0,.str []] [(0,1,(U 12)),(1,1,(.const (.string ⟨#[107]⟩)))]),
 ad 4 14 (.eh [.int .u32 0,.aX,.int .u64 0,.int .u8 0,.str [],.int .u8 0,.int .i64 0,.int .u64 0,.str [],.int .u32 0,.int .u32 0] [(1,1,(U 10)),(2,1,(U 11)),(3,6,(U 13))]),
 sc 5 15 71 [(.const (.int .u32 5)),(U 14)],
 af 6 9 15,
 ad 7 16 (.ext (U 9) 0),
 ad 8 17 (.ext (U 9) 1),
 ad 9 7 (.alloc [.int .u32 0,.aX,.int .u64 0,.int .u8 0,.str [],.int .u8 0,.int .i64 0,.int .u64 0,.str [],.int .u32 0,.int .u32 0]),
 bG 10 (.st 11 (U 7) (U 16)),
 af 11 8 17])
 (.seq (.ak [ad 0 18 (.aW 11 (U 7)),
 bG 1 (.st 11 (U 6) (U 18))])
 .ret)))
def aaL:List a6:=[.aW 11 (U 6)]
theorem afg:bq Tryz.prog 36=some RS:=by kernel_rfl
theorem anp:br Tryz.prog 36=some aaL:=by kernel_rfl
def Hj:aS:=(.seq (.ak [ad 0 1 (.box (U 0)),
 ad 1 2 (.alloc (rep 32 (.int .u8 0))),
 ad 2 3 (.aq (.const (.int .i64 0)))])
 (.seq (.ak [ad 0 7 (.aW 11 (U 1)),
 sc 1 8 72 [(U 7)],
 af 2 6 8,
 ad 3 9 (.ext (U 6) 0),
 ad 4 10 (.ext (U 6) 1),
 af 5 4 9,
 af 6 5 10])
 (.seq (.seq (.ak [af 0 11 5,
 ad 1 12 (.bin .neq 38 (U 11) (.const (.int .i64 0)))])
 (.cond (U 12) (.seq (.ak [ad 0 13 (.eh (rep 32 (.int .u8 0)) []),
 af 1 14 5,
 bG 2 (.st 32 (U 2) (U 13)),
 af 3 3 14])
 .ret) .skip))
 (.seq (.ak [af 0 15 4,
 sc 1 16 73 [(U 15)],
 ad 2 17 (.ext (U 16) 0),
 ad 3 18 (.ext (U 16) 1),
 bG 4 (.st 32 (U 2) (U 17)),
 af 5 3 18])
 .ret))))
def Ng:List a6:=[.aW 32 (U 2),.aq (U 3)]
theorem RT:bq Tryz.prog 38=some Hj:=by kernel_rfl
theorem aaM:br Tryz.prog 38=some Ng:=by kernel_rfl
def Hk:aS:=(.seq (.ak [ad 0 2 (.aq (.const (.slice none 0 0)))])
 (.seq (.seq (.ak [af 0 3 0,
 ad 1 4 (.bin .eql 22 (U 3) (.const (.slice none 0 0)))])
 (.cond (U 4) (.seq (.ak [ad 0 2 (.aq (.const (.slice none 0 0)))])
 .ret) .skip))
 (.seq (.ak [ad 0 5 (.cQ 33 ([.str []]++rep 32 (.int .u8 0)) 0 []),
 af 1 6 0,
 ad 2 7 (.app 33 48 (U 5) (U 6)),
 af 3 2 7])
 .ret)))
def Nh:List a6:=[.aq (U 2)]
theorem RU:bq Tryz.prog 39=some Hk:=by kernel_rfl
theorem aaN:br Tryz.prog 39=some Nh:=by kernel_rfl
def Xy:aS:=(.seq (.seq (.ak [af 0 15 9,
 af 1 16 10,
 ad 2 17 (.bin .lss 3 (U 15) (U 16))])
 (.cond (U 17) .skip (.exit 0)))
 (.block 1 (.seq (.ak [af 0 18 9,
 af 1 19 10,
 ad 2 20 (.bin .add 3 (U 18) (U 19)),
 ad 3 21 (.cB .u64 (U 20)),
 ad 4 22 (.bin .shr 125 (U 21) (.const (.int .u64 1))),
 ad 5 23 (.cB .i64 (U 22)),
 af 6 11 23])
 (.seq (.ak [af 0 24 2,
 af 1 25 0,
 af 2 26 11,
 ad 3 27 (.bm (.ao 33) (U 25) (U 26)),
 ad 4 28 (.aW 33 (U 27)),
 ad 5 29 (.aW 33 (U 4)),
 ⟨6,(some 30),none,.gW (U 24) [(U 28),(U 29)],[],false⟩,
 ad 7 31 (.bin .lss 3 (U 30) (.const (.int .i64 0)))])
 (.cond (U 31) (.ak [af 0 32 11,
 ad 1 33 (.bin .add 3 (U 32) (.const (.int .i64 1))),
 af 2 9 33]) (.ak [af 0 34 11,
 af 1 10 34]))))))
def Hl:aS:=(.seq (.ak [ad 0 4 (.box (U 1)),
 ad 1 6 (.aq (.const (.int .i64 0))),
 ad 2 7 (.aq (.const (.bool false)))])
 (.seq (.ak [af 0 12 0,
 ad 1 13 (.len (.ao 33) (U 12)),
 af 2 8 13])
 (.seq (.ak [af 0 14 8,
 ad 1 9 (.aq (.const (.int .i64 0))),
 af 2 10 14])
 (.seq (.block 0 (.loop Xy))
 (.seq (.ak [af 0 35 9,
 af 1 36 9,
 af 2 37 8,
 ad 3 38 (.bin .lss 3 (U 36) (U 37)),
 af 4 39 38,
 aF 5 40 39 true (.aq (U 2)),
 aF 6 41 39 true (.aq (U 0)),
 aF 7 42 39 true (.aq (U 9)),
 aF 8 43 39 true (.bm (.ao 33) (U 41) (U 42)),
 aF 9 44 39 true (.aW 33 (U 43)),
 aF 10 45 39 true (.aW 33 (U 4)),
 ⟨11,(some 46),(some ((some 39),true)),.gW (U 40) [(U 44),(U 45)],[],false⟩,
 aF 12 47 39 true (.bin .eql 3 (U 46) (.const (.int .i64 0))),
 ad 13 48 (.pick (U 39) (U 47) (.const (.bool false))),
 af 14 6 35,
 af 15 7 48])
 .ret)))))
def Nj:List a6:=[.aq (U 6),.aq (U 7)]
theorem RV:bq Tryz.prog 40=some Hl:=by kernel_rfl
theorem aaO:br Tryz.prog 40=some Nj:=by kernel_rfl
def Hm:aS:=(.seq (.ak [ad 0 2 (.box (U 0)),
 ad 1 3 (.box (U 1)),
 ad 2 4 (.aq (.const (.int .i64 0)))])
 (.seq (.ak [ad 0 5 (.aO 0 (U 2)),
 ad 1 6 (.ld1 (U 5)),
 ad 2 7 (.aO 0 (U 3)),
 ad 3 8 (.ld1 (U 7)),
 ad 5 10 (.aO 1 (U 2)),
 ad 6 11 (.slice (.arr 32 1) (U 10) none none none),
 ad 7 12 (.aO 1 (U 3)),
 ad 8 13 (.slice (.arr 32 1) (U 12) none none none),
 sc 4 9 75 [(U 6),(U 8)],
 sc 9 14 76 [(U 11),(U 13)],
 ad 10 15 (.cQ 1 [.int .i64 0] 2 [(0,(U 9)),(1,(U 14))]),
 sc 11 16 74 [(U 15)],
 af 12 4 16])
 .ret))
def Nk:List a6:=[.aq (U 4)]
theorem RW:bq Tryz.prog 41=some Hm:=by kernel_rfl
theorem aaP:br Tryz.prog 41=some Nk:=by kernel_rfl
def Xz:aS:=(.seq (.seq (.ak [af 0 16 6,
 af 1 17 0,
 ad 2 18 (.len (.ao 33) (U 17)),
 ad 3 19 (.bin .lss 3 (U 16) (U 18))])
 (.cond (U 19) .skip (.exit 0)))
 (.seq (.block 1 (.seq (.ak [af 0 22 0,
 af 1 23 6,
 ad 2 24 (.bm (.ao 33) (U 22) (U 23)),
 ad 3 25 (.aW 33 (U 24)),
 ad 4 7 (.alloc ([.str []]++rep 32 (.int .u8 0))),
 bG 5 (.st 33 (U 7) (U 25))])
 (.seq (.ak [af 0 26 1,
 ad 1 27 (.aW 33 (U 7)),
 ⟨2,(some 28),none,.gW (U 26) [(U 27)],[],false⟩,
 ad 3 29 (.un .not (U 28))])
 (.cond (U 29) (.seq (.ak [af 0 30 0,
 af 1 31 5,
 ad 2 32 (.aW 33 (U 7)),
 ad 3 33 (.bm (.ao 33) (U 30) (U 31)),
 bG 4 (.st 33 (U 33) (U 32))])
 (.ak [af 0 34 5,
 ad 1 35 (.bin .add 3 (U 34) (.const (.int .i64 1))),
 af 2 5 35])) .skip))))
 (.ak [af 0 20 6,
 ad 1 21 (.bin .add 3 (U 20) (.const (.int .i64 1))),
 af 2 6 21])))
def Hn:aS:=(.seq (.ak [ad 0 4 (.aq (.const (.slice none 0 0)))])
 (.seq (.ak [af 0 8 0,
 af 1 9 1,
 sc 2 10 79 [(U 8),(U 9)],
 af 3 5 10])
 (.seq (.seq (.ak [af 0 11 5,
 ad 1 12 (.bin .eql 3 (U 11) (.const (.int .i64 (-1))))])
 (.cond (U 12) (.seq (.ak [af 0 13 0,
 af 1 4 13])
 .ret) .skip))
 (.seq (.seq (.ak [af 0 14 5,
 ad 1 15 (.bin .add 3 (U 14) (.const (.int .i64 1))),
 af 2 6 15])
 (.block 0 (.loop Xz)))
 (.seq (.ak [af 0 36 0,
 af 1 37 5,
 ad 2 38 (.slice (.ao 33) (U 36) (some (U 37)) none none),
 bG 3 (.qn ([.str []]++rep 32 (.int .u8 0)) (U 38))])
 (.seq (.ak [af 0 39 0,
 af 1 40 5,
 ad 2 41 (.slice (.ao 33) (U 39) none (some (U 40)) none),
 af 3 4 41])
 .ret))))))
def Nl:List a6:=[.aq (U 4)]
theorem RX:bq Tryz.prog 43=some Hn:=by kernel_rfl
theorem aaQ:br Tryz.prog 43=some Nl:=by kernel_rfl
def Ho:aS:=(.seq (.ak [ad 0 3 (.box (U 0)),
 ad 1 4 (.aq (.const (.bool false)))])
 (.seq (.ak [ad 0 5 (.aO 0 (U 3)),
 ad 1 6 (.ld1 (U 5)),
 ad 2 7 (.aO 3 (U 1)),
 ad 3 8 (.aO 1 (U 7)),
 ad 4 9 (.ld1 (U 8)),
 ad 5 10 (.bin .eql 9 (U 6) (U 9)),
 af 6 11 10,
 aF 7 12 11 true (.ld1 (U 2)),
 aF 8 13 11 true (.aO 1 (U 3)),
 aF 9 14 11 true (.aW 32 (U 13)),
 ⟨10,(some 15),(some ((some 11),true)),.cR 45 [(U 12),(U 14)],[],false⟩,
 ad 11 16 (.pick (U 11) (U 15) (.const (.bool false))),
 af 12 4 16])
 .ret))
def Nn:List a6:=[.aq (U 4)]
theorem RY:bq Tryz.prog 44=some Ho:=by kernel_rfl
theorem aaR:br Tryz.prog 44=some Nn:=by kernel_rfl
def Hp:aS:=(.seq (.ak [ad 0 3 (.box (U 1)),
 ad 1 4 (.aq (.const (.bool false)))])
 (.seq (.ak [af 0 5 0,
 ad 1 6 (.aW 32 (U 3)),
 sc 2 7 80 [(U 5),(U 6)],
 ad 3 8 (.bin .geq 3 (U 7) (.const (.int .i64 0))),
 af 4 4 8])
 .ret))
def No:List a6:=[.aq (U 4)]
theorem RZ:bq Tryz.prog 45=some Hp:=by kernel_rfl
theorem aaS:br Tryz.prog 45=some No:=by kernel_rfl
def alr:aS:=(.seq (.seq (.ak [af 0 16 6,
 ad 1 17 (.bin .gtr 3 (U 16) (.const (.int .i64 0))),
 af 2 18 17,
 aF 3 19 18 true (.aq (U 5)),
 aF 4 20 18 true (.aq (U 6)),
 aF 5 21 18 true (.bm (.ao 33) (U 19) (U 20)),
 aF 6 22 18 true (.aW 33 (U 21)),
 aF 7 23 18 true (.aq (U 5)),
 aF 8 24 18 true (.aq (U 6)),
 aF 9 25 18 true (.bin .sub 3 (U 24) (.const (.int .i64 1))),
 aF 10 26 18 true (.bm (.ao 33) (U 23) (U 25)),
 aF 11 27 18 true (.aW 33 (U 26)),
 ⟨12,(some 28),(some ((some 18),true)),.cR 52 [(U 22),(U 27)],[],false⟩,
 ad 13 29 (.pick (U 18) (U 28) (.const (.bool false)))])
 (.cond (U 29) .skip (.exit 0)))
 (.seq (.block 1 (.ak [af 0 32 5,
 af 1 33 6,
 af 2 34 5,
 af 3 35 6,
 ad 4 36 (.bin .sub 3 (U 35) (.const (.int .i64 1))),
 af 5 37 5,
 af 6 38 6,
 ad 7 39 (.bin .sub 3 (U 38) (.const (.int .i64 1))),
 ad 8 40 (.bm (.ao 33) (U 37) (U 39)),
 ad 9 41 (.aW 33 (U 40)),
 af 10 42 5,
 af 11 43 6,
 ad 12 44 (.bm (.ao 33) (U 42) (U 43)),
 ad 13 45 (.aW 33 (U 44)),
 ad 14 46 (.bm (.ao 33) (U 32) (U 33)),
 bG 15 (.st 33 (U 46) (U 41)),
 ad 16 47 (.bm (.ao 33) (U 34) (U 36)),
 bG 17 (.st 33 (U 47) (U 45))]))
 (.ak [af 0 30 6,
 ad 1 31 (.bin .sub 3 (U 30) (.const (.int .i64 1))),
 af 2 6 31])))
def R0:aS:=(.seq (.ak [ad 0 3 (.box (U 1)),
 ad 1 4 (.aq (.const (.slice none 0 0)))])
 (.seq (.gJ [ad 0 7 (.cQ 33 ([.str []]++rep 32 (.int .u8 0)) 0 []),
 af 1 8 0,
 ⟨3,(some 10),none,.cG (.aW 33 (U 3)),[],true⟩,
 ⟨4,(some 11),none,.cG (.cQ 33 ([.str []]++rep 32 (.int .u8 0)) 1 [(0,(U 10))]),[],true⟩,
 ⟨2,(some 9),none,.cG (.app 33 48 (U 7) (U 8)),[4,3],false⟩,
 ad 5 12 (.app 33 48 (U 9) (U 11)),
 af 6 5 12])
 (.seq (.seq (.ak [af 0 13 5,
 ad 1 14 (.len (.ao 33) (U 13)),
 ad 2 15 (.bin .sub 3 (U 14) (.const (.int .i64 1))),
 af 3 6 15])
 (.block 0 (.loop alr)))
 (.seq (.ak [af 0 48 5,
 af 1 4 48])
 .ret))))
def aaT:List a6:=[.aq (U 4)]
theorem afi:bq Tryz.prog 46=some R0:=by kernel_rfl
theorem anr:br Tryz.prog 46=some aaT:=by kernel_rfl
def R1:aS:=(.seq (.ak [ad 0 4 (.aq (.const (.bool false)))])
 (.seq (.ak [af 0 5 0,
 af 1 6 1,
 sc 2 7 81 [(U 5),(U 6)],
 ad 3 8 (.bin .geq 3 (U 7) (.const (.int .i64 0))),
 af 4 4 8])
 .ret))
def aaU:List a6:=[.aq (U 4)]
theorem afj:bq Tryz.prog 47=some R1:=by kernel_rfl
theorem ans:br Tryz.prog 47=some aaU:=by kernel_rfl
def als:aS:=(.seq (.seq (.ak [af 0 6 5,
 af 1 7 0,
 ad 2 8 (.len (.ao 33) (U 7)),
 ad 3 9 (.bin .lss 3 (U 6) (U 8))])
 (.cond (U 9) .skip (.exit 0)))
 (.seq (.block 1 (.seq (.ak [af 0 12 0,
 af 1 13 5,
 ad 2 14 (.bm (.ao 33) (U 12) (U 13)),
 ad 3 15 (.aO 0 (U 14)),
 ad 4 16 (.ld1 (U 15)),
 af 5 17 1,
 ad 6 18 (.bin .eql 9 (U 16) (U 17))])
 (.cond (U 18) (.seq (.ak [ad 0 4 (.aq (.const (.bool true)))])
 .ret) .skip)))
 (.ak [af 0 10 5,
 ad 1 11 (.bin .add 3 (U 10) (.const (.int .i64 1))),
 af 2 5 11])))
def R2:aS:=(.seq (.ak [ad 0 4 (.aq (.const (.bool false)))])
 (.seq (.seq (.ak [ad 0 5 (.aq (.const (.int .i64 0)))])
 (.block 0 (.loop als)))
 (.seq (.ak [ad 0 4 (.aq (.const (.bool false)))])
 .ret)))
def aaV:List a6:=[.aq (U 4)]
theorem afk:bq Tryz.prog 48=some R2:=by kernel_rfl
theorem ant:br Tryz.prog 48=some aaV:=by kernel_rfl
def Hq:aS:=(.seq (.ak [ad 0 1 (.box (U 0)),
 ad 1 2 (.aq (.const (.int .i64 0)))])
 (.seq (.ak [ad 0 3 (.aq (.const (.bool false)))])
 (.seq (.seq (.ak [ad 0 4 (.aO 0 (U 1)),
 ad 1 5 (.ld1 (U 4))])
 (.block 0 (.seq (.ak [ad 0 7 (.bin .eql 5 (U 5) (.const (.int .u8 1))),
 af 1 6 7])
 (.cond (U 6) (.ak [ad 0 8 (.aW 6 (U 1)),
 ad 1 9 (.eh [.int .u8 0,.str [],.int .u8 0,.int .i64 0,.int .u64 0,.str []] [(0,1,(.const (.int .u8 1)))]),
 ad 2 10 (.bin .eql 31 (U 8) (U 9)),
 af 3 3 10]) (.seq (.seq (.ak [ad 0 12 (.bin .eql 5 (U 5) (.const (.int .u8 2))),
 af 1 11 12])
 (.cond (U 11) .skip (.ak [ad 0 13 (.bin .eql 5 (U 5) (.const (.int .u8 3))),
 af 1 11 13])))
 (.cond (U 11) (.ak [ad 0 14 (.aO 1 (U 1)),
 ad 1 15 (.ld1 (U 14)),
 sc 2 16 82 [(U 15)],
 af 3 17 16,
 aF 4 18 17 true (.aO 2 (U 1)),
 aF 5 19 17 true (.aW 4 (U 18)),
 aF 6 20 17 true (.eh [.int .u8 0,.int .i64 0,.int .u64 0,.str []] []),
 aF 7 21 17 true (.bin .eql 29 (U 19) (U 20)),
 ad 8 22 (.pick (U 17) (U 21) (.const (.bool false))),
 af 9 3 22]) (.seq (.ak [ad 0 24 (.bin .eql 5 (U 5) (.const (.int .u8 4))),
 af 1 23 24])
 (.cond (U 23) (.ak [ad 0 25 (.aO 1 (U 1)),
 ad 1 26 (.ld1 (U 25)),
 sc 2 27 82 [(U 26)],
 af 3 28 27,
 aF 4 29 28 true (.aO 2 (U 1)),
 aF 5 30 28 true (.aW 4 (U 29)),
 ⟨6,(some 31),(some ((some 28),true)),.cR 83 [(U 30)],[],false⟩,
 aF 7 32 28 true (.bin .eql 38 (U 31) (.const (.int .i64 0))),
 ad 8 33 (.pick (U 28) (U 32) (.const (.bool false))),
 af 9 3 33]) .skip))))))))
 (.seq (.seq (.ak [af 0 34 3,
 ad 1 35 (.un .not (U 34))])
 (.cond (U 35) (.seq (.ak [ad 0 2 (.aq (.const (.int .i64 8)))])
 .ret) .skip))
 (.seq (.ak [ad 0 2 (.aq (.const (.int .i64 0)))])
 .ret)))))
def Np:List a6:=[.aq (U 2)]
theorem R3:bq Tryz.prog 50=some Hq:=by kernel_rfl
theorem aaW:br Tryz.prog 50=some Np:=by kernel_rfl
def XA:aS:=(.seq (.seq (.ak [af 0 12 3,
 af 1 13 0,
 ad 2 14 (.len .str (U 13)),
 ad 3 15 (.bin .lss 3 (U 12) (U 14))])
 (.cond (U 15) .skip (.exit 0)))
 (.seq (.block 1 (.seq (.ak [af 0 18 0,
 af 1 19 3,
 ad 2 20 (.pC (U 18) (U 19)),
 ad 3 21 (.bin .lss 5 (U 20) (.const (.int .u8 33))),
 af 4 22 21,
 aF 5 23 22 false (.aq (U 0)),
 aF 6 24 22 false (.aq (U 3)),
 aF 7 25 22 false (.pC (U 23) (U 24)),
 aF 8 26 22 false (.bin .gtr 5 (U 25) (.const (.int .u8 126))),
 ad 9 27 (.pick (U 22) (.const (.bool true)) (U 26))])
 (.cond (U 27) (.seq (.ak [ad 0 2 (.aq (.const (.bool false)))])
 .ret) .skip)))
 (.ak [af 0 16 3,
 ad 1 17 (.bin .add 3 (U 16) (.const (.int .i64 1))),
 af 2 3 17])))
def Hr:aS:=(.seq (.ak [ad 0 2 (.aq (.const (.bool false)))])
 (.seq (.seq (.ak [af 0 4 0,
 ad 1 5 (.len .str (U 4)),
 ad 2 6 (.bin .lss 3 (U 5) (.const (.int .i64 1))),
 af 3 7 6,
 aF 4 8 7 false (.aq (U 0)),
 aF 5 9 7 false (.len .str (U 8)),
 aF 6 10 7 false (.bin .gtr 3 (U 9) (.const (.int .i64 20))),
 ad 7 11 (.pick (U 7) (.const (.bool true)) (U 10))])
 (.cond (U 11) (.seq (.ak [ad 0 2 (.aq (.const (.bool false)))])
 .ret) .skip))
 (.seq (.seq (.ak [ad 0 3 (.aq (.const (.int .i64 0)))])
 (.block 0 (.loop XA)))
 (.seq (.ak [ad 0 2 (.aq (.const (.bool true)))])
 .ret))))
def Nq:List a6:=[.aq (U 2)]
theorem R4:bq Tryz.prog 51=some Hr:=by kernel_rfl
theorem aaX:br Tryz.prog 51=some Nq:=by kernel_rfl
def Hs:aS:=(.seq (.ak [ad 0 2 (.box (U 0)),
 ad 1 3 (.box (U 1)),
 ad 2 4 (.aq (.const (.bool false)))])
 (.seq (.seq (.ak [ad 0 5 (.aO 0 (U 2)),
 ad 1 6 (.ld1 (U 5)),
 ad 2 7 (.aO 0 (U 3)),
 ad 3 8 (.ld1 (U 7)),
 ad 4 9 (.bin .neq 9 (U 6) (U 8))])
 (.cond (U 9) (.seq (.ak [ad 0 10 (.aO 0 (U 2)),
 ad 1 11 (.ld1 (U 10)),
 ad 2 12 (.aO 0 (U 3)),
 ad 3 13 (.ld1 (U 12)),
 ad 4 14 (.bin .lss 9 (U 11) (U 13)),
 af 5 4 14])
 .ret) .skip))
 (.seq (.ak [ad 0 15 (.aO 1 (U 2)),
 ad 1 16 (.aW 32 (U 15)),
 ad 2 17 (.aO 1 (U 3)),
 ad 3 18 (.aW 32 (U 17)),
 sc 4 19 84 [(U 16),(U 18)],
 ad 5 20 (.bin .lss 3 (U 19) (.const (.int .i64 0))),
 af 6 4 20])
 .ret)))
def Nr:List a6:=[.aq (U 4)]
theorem R5:bq Tryz.prog 52=some Hs:=by kernel_rfl
theorem aaY:br Tryz.prog 52=some Nr:=by kernel_rfl
def Ht:aS:=(.seq (.ak [ad 0 1 (.box (U 0)),
 ad 1 2 (.aq (.const (.bool false)))])
 (.seq (.ak [ad 0 3 (.aO 1 (U 1)),
 ad 1 4 (.ld1 (U 3)),
 ad 2 5 (.len (.ao 32) (U 4)),
 ad 3 6 (.bin .gtr 3 (U 5) (.const (.int .i64 20))),
 af 4 7 6,
 aF 5 8 7 false (.aO 3 (U 1)),
 aF 6 9 7 false (.aO 1 (U 8)),
 aF 7 10 7 false (.ld1 (U 9)),
 aF 8 11 7 false (.len .str (U 10)),
 aF 9 12 7 false (.bin .gtr 3 (U 11) (.const (.int .i64 100))),
 ad 10 13 (.pick (U 7) (.const (.bool true)) (U 12)),
 af 11 14 13,
 aF 12 15 14 false (.aO 3 (U 1)),
 aF 13 16 14 false (.aO 2 (U 15)),
 aF 14 17 14 false (.aO 3 (U 16)),
 aF 15 18 14 false (.ld1 (U 17)),
 aF 16 19 14 false (.len .str (U 18)),
 aF 17 20 14 false (.bin .gtr 3 (U 19) (.const (.int .i64 100))),
 ad 18 21 (.pick (U 14) (.const (.bool true)) (U 20)),
 af 19 2 21])
 .ret))
def Ns:List a6:=[.aq (U 2)]
theorem R6:bq Tryz.prog 53=some Ht:=by kernel_rfl
theorem aaZ:br Tryz.prog 53=some Ns:=by kernel_rfl
def R7:aS:=(.seq (.ak [ad 0 1 (.box (U 0)),
 ad 1 2 (.alloc [.int .u32 0,.aX,.int .u64 0,.int .u8 0,.str [],.int .u8 0,.int .i64 0,.int .u64 0,.str [],.int .u32 0,.int .u32 0])])
 (.seq (.ak [ad 0 3 (.cQ 32 (rep 32 (.int .u8 0)) 0 []),
 ad 1 4 (.aO 1 (U 1)),
 ad 2 5 (.ld1 (U 4)),
 ad 3 6 (.app 32 32 (U 3) (U 5)),
 ad 4 7 (.aO 1 (U 1)),
 bG 5 (.st 1 (U 7) (U 6))])
 (.seq (.ak [ad 0 8 (.aW 11 (U 1)),
 bG 1 (.st 11 (U 2) (U 8))])
 .ret)))
def aa0:List a6:=[.aW 11 (U 2)]
theorem afl:bq Tryz.prog 54=some R7:=by kernel_rfl
theorem anu:br Tryz.prog 54=some aa0:=by kernel_rfl
def XB:aS:=(.seq (.ak [ad 0 22 (.bin .lss 3 (U 21) (U 20))])
 (.seq (.cond (U 22) .skip (.exit 0))
 (.seq (.block 1 (.seq (.ak [af 0 23 21,
 ad 1 24 (.bm (.ao 11) (U 19) (U 21)),
 ad 2 25 (.aW 11 (U 24)),
 ad 3 4 (.alloc [.int .u32 0,.aX,.int .u64 0,.int .u8 0,.str [],.int .u8 0,.int .i64 0,.int .u64 0,.str [],.int .u32 0,.int .u32 0]),
 af 4 3 23,
 bG 5 (.st 11 (U 4) (U 25))])
 (.seq (.ak [ad 0 27 (.aW 11 (U 4)),
 sc 1 28 38 [(U 27)],
 af 2 26 28,
 ad 3 29 (.ext (U 26) 0),
 ad 4 30 (.ext (U 26) 1),
 ad 5 5 (.alloc (rep 32 (.int .u8 0))),
 bG 6 (.st 32 (U 5) (U 29)),
 af 7 6 30])
 (.seq (.ak [af 0 31 6,
 ad 1 32 (.bin .neq 38 (U 31) (.const (.int .i64 0))),
 af 2 33 32,
 aF 3 34 33 false (.aW 32 (U 5)),
 aF 4 35 33 false (.aO 0 (U 1)),
 aF 5 36 33 false (.ld1 (U 35)),
 aF 6 37 33 false (.aq (U 3)),
 aF 7 38 33 false (.bm (.ao 32) (U 36) (U 37)),
 aF 8 39 33 false (.aW 32 (U 38)),
 aF 9 40 33 false (.bin .neq 71 (U 34) (U 39)),
 ad 10 41 (.pick (U 33) (.const (.bool true)) (U 40)),
 af 11 42 41,
 aF 12 43 42 false (.aW 11 (U 4)),
 ⟨13,(some 44),(some ((some 42),false)),.cR 85 [(U 43)],[],false⟩,
 aF 14 45 42 false (.bin .neq 38 (U 44) (.const (.int .i64 0))),
 ad 15 46 (.pick (U 42) (.const (.bool true)) (U 45))])
 (.cond (U 46) (.seq (.ak [ad 0 2 (.aq (.const (.int .i64 8)))])
 .ret) .skip)))))
 (.ak [ad 0 47 (.bin .add 3 (U 21) (.const (.int .i64 1))),
 af 1 21 47]))))
def Hu:aS:=(.seq (.ak [ad 0 1 (.box (U 0)),
 ad 1 2 (.aq (.const (.int .i64 0)))])
 (.seq (.seq (.ak [ad 0 7 (.aO 1 (U 1)),
 ad 1 8 (.ld1 (U 7)),
 ad 2 9 (.len (.ao 11) (U 8)),
 ad 3 10 (.bin .gtr 3 (U 9) (.const (.int .i64 60)))])
 (.cond (U 10) (.seq (.ak [ad 0 2 (.aq (.const (.int .i64 4)))])
 .ret) .skip))
 (.seq (.seq (.ak [ad 0 11 (.aO 0 (U 1)),
 ad 1 12 (.ld1 (U 11)),
 ad 2 13 (.len (.ao 32) (U 12)),
 ad 3 14 (.aO 1 (U 1)),
 ad 4 15 (.ld1 (U 14)),
 ad 5 16 (.len (.ao 11) (U 15)),
 ad 6 17 (.bin .neq 3 (U 13) (U 16))])
 (.cond (U 17) (.seq (.ak [ad 0 2 (.aq (.const (.int .i64 8)))])
 .ret) .skip))
 (.seq (.seq (.ak [ad 0 18 (.aO 1 (U 1)),
 ad 1 19 (.ld1 (U 18)),
 ad 2 20 (.len (.ao 11) (U 19)),
 ad 3 21 (.aq (.const (.int .i64 0)))])
 (.block 0 (.loop XB)))
 (.seq (.ak [ad 0 48 (.aW 2 (U 1)),
 sc 1 49 86 [(U 48)],
 af 2 2 49])
 .ret)))))
def Nt:List a6:=[.aq (U 2)]
theorem R8:bq Tryz.prog 55=some Hu:=by kernel_rfl
theorem aa1:br Tryz.prog 55=some Nt:=by kernel_rfl
def Hv:aS:=(.seq (.ak [ad 0 2 (.box (U 0)),
 ad 1 3 (.box (U 1)),
 ad 2 4 (.aq (.const (.slice none 0 0))),
 ad 3 5 (.aq (.const (.int .i64 0)))])
 (.seq (.ak [ad 0 9 (.aW 2 (U 2)),
 ad 1 10 (.aW 32 (U 3)),
 sc 2 11 87 [(U 9),(U 10)],
 af 3 8 11,
 ad 4 12 (.ext (U 8) 0),
 ad 5 13 (.ext (U 8) 1),
 af 6 6 12,
 af 7 7 13])
 (.seq (.seq (.ak [af 0 14 7,
 ad 1 15 (.bin .neq 38 (U 14) (.const (.int .i64 0)))])
 (.cond (U 15) (.seq (.ak [af 0 16 7,
 ad 1 4 (.aq (.const (.slice none 0 0))),
 af 2 5 16])
 .ret) .skip))
 (.seq (.gJ [⟨0,(some 17),none,.cG (.aW 2 (U 2)),[],true⟩,
 ad 1 18 (.aW 2 (U 2)),
 ad 2 19 (.aO 1 (U 2)),
 ad 3 20 (.ld1 (U 19)),
 af 4 21 6,
 ad 5 22 (.bm (.ao 11) (U 20) (U 21)),
 ad 6 23 (.aO 1 (U 22)),
 ad 7 24 (.ld1 (U 23)),
 ⟨8,(some 25),none,.cR 89 [(U 18),(U 24)],[0],false⟩,
 sc 9 26 88 [(U 17),(U 25)],
 af 10 4 26,
 ad 11 5 (.aq (.const (.int .i64 0)))])
 .ret))))
def Nu:List a6:=[.aq (U 4),.aq (U 5)]
theorem R9:bq Tryz.prog 56=some Hv:=by kernel_rfl
theorem aa2:br Tryz.prog 56=some Nu:=by kernel_rfl
def Sa:aS:=(.seq (.ak [af 0 5 0,
 ad 1 6 (.len (.ao 33) (U 5)),
 af 2 4 6])
 (.ak [af 0 7 0,
 af 1 8 4,
 af 2 9 4,
 ad 3 10 (.cB .u64 (U 9)),
 sc 4 11 91 [(U 10)],
 af 5 12 1,
 sc 6 13 90 [(U 7),(.const (.int .i64 0)),(U 8),(U 11),(U 12)]]))
def aa3:List a6:=[]
theorem afm:bq Tryz.prog 57=some Sa:=by kernel_rfl
theorem anv:br Tryz.prog 57=some aa3:=by kernel_rfl
def alt:aS:=(.seq (.seq (.ak [af 0 11 5,
 af 1 12 0,
 ad 2 13 (.len (.ao 32) (U 12)),
 ad 3 14 (.bin .lss 3 (U 11) (U 13))])
 (.cond (U 14) .skip (.exit 0)))
 (.seq (.block 1 (.seq (.ak [af 0 17 0,
 af 1 18 5,
 ad 2 19 (.bm (.ao 32) (U 17) (U 18)),
 ad 3 20 (.aW 32 (U 19)),
 af 4 21 1,
 af 5 22 5,
 ad 6 23 (.bm (.ao 32) (U 21) (U 22)),
 ad 7 24 (.aW 32 (U 23)),
 ad 8 25 (.bin .neq 71 (U 20) (U 24))])
 (.cond (U 25) (.seq (.ak [ad 0 4 (.aq (.const (.bool false)))])
 .ret) .skip)))
 (.ak [af 0 15 5,
 ad 1 16 (.bin .add 3 (U 15) (.const (.int .i64 1))),
 af 2 5 16])))
def Sb:aS:=(.seq (.ak [ad 0 4 (.aq (.const (.bool false)))])
 (.seq (.seq (.ak [af 0 6 0,
 ad 1 7 (.len (.ao 32) (U 6)),
 af 2 8 1,
 ad 3 9 (.len (.ao 32) (U 8)),
 ad 4 10 (.bin .neq 3 (U 7) (U 9))])
 (.cond (U 10) (.seq (.ak [ad 0 4 (.aq (.const (.bool false)))])
 .ret) .skip))
 (.seq (.seq (.ak [ad 0 5 (.aq (.const (.int .i64 0)))])
 (.block 0 (.loop alt)))
 (.seq (.ak [ad 0 4 (.aq (.const (.bool true)))])
 .ret))))
def aa4:List a6:=[.aq (U 4)]
theorem afn:bq Tryz.prog 58=some Sb:=by kernel_rfl
theorem anw:br Tryz.prog 58=some aa4:=by kernel_rfl
def alv:aS:=(.seq (.seq (.ak [af 0 12 4,
 af 1 13 0,
 ad 2 14 (.len (.ao 11) (U 13)),
 ad 3 15 (.bin .lss 3 (U 12) (U 14))])
 (.cond (U 15) .skip (.exit 0)))
 (.seq (.block 1 (.seq (.ak [af 0 18 0,
 af 1 19 4,
 ad 2 20 (.bm (.ao 11) (U 18) (U 19)),
 ad 3 21 (.aW 11 (U 20)),
 sc 4 22 61 [(U 21)],
 ad 5 23 (.bin .neq 3 (U 22) (.const (.int .i64 0)))])
 (.cond (U 23) (.seq (.ak [ad 0 24 (.eh [.aX,.aX] []),
 af 1 25 0,
 af 2 26 4,
 ad 3 27 (.bm (.ao 11) (U 25) (U 26)),
 ad 4 28 (.aW 11 (U 27)),
 sc 5 29 61 [(U 28)],
 bG 6 (.st 2 (U 2) (U 24)),
 af 7 3 29])
 .ret) .skip)))
 (.ak [af 0 16 4,
 ad 1 17 (.bin .add 3 (U 16) (.const (.int .i64 1))),
 af 2 4 17])))
def alw:aS:=(.seq (.seq (.ak [af 0 30 6,
 af 1 31 0,
 ad 2 32 (.len (.ao 11) (U 31)),
 ad 3 33 (.bin .lss 3 (U 30) (U 32))])
 (.cond (U 33) .skip (.exit 2)))
 (.seq (.block 3 (.seq (.ak [af 0 36 0,
 af 1 37 6,
 ad 2 38 (.bm (.ao 11) (U 36) (U 37)),
 ad 3 39 (.aW 11 (U 38)),
 sc 4 40 32 [(U 39)],
 ad 5 7 (.alloc (rep 32 (.int .u8 0))),
 bG 6 (.st 32 (U 7) (U 40))])
 (.seq (.seq (.ak [ad 0 41 (.aO 0 (U 5)),
 ad 1 42 (.ld1 (U 41)),
 ad 2 43 (.aW 32 (U 7)),
 sc 3 44 70 [(U 42),(U 43)],
 ad 4 45 (.bin .geq 3 (U 44) (.const (.int .i64 0)))])
 (.cond (U 45) (.seq (.ak [ad 0 46 (.eh [.aX,.aX] []),
 bG 1 (.st 2 (U 2) (U 46)),
 ad 2 3 (.aq (.const (.int .i64 14)))])
 .ret) .skip))
 (.ak [ad 0 47 (.aW 2 (U 5)),
 ad 1 48 (.aW 32 (U 7)),
 af 2 49 0,
 af 3 50 6,
 ad 4 51 (.bm (.ao 11) (U 49) (U 50)),
 ad 5 52 (.aW 11 (U 51)),
 sc 6 53 92 [(U 47),(U 48),(U 52)],
 bG 7 (.st 2 (U 5) (U 53))]))))
 (.ak [af 0 34 6,
 ad 1 35 (.bin .add 3 (U 34) (.const (.int .i64 1))),
 af 2 6 35])))
def Sc:aS:=(.seq (.ak [ad 0 2 (.alloc [.aX,.aX]),
 ad 1 3 (.aq (.const (.int .i64 0)))])
 (.seq (.seq (.ak [af 0 8 0,
 ad 1 9 (.len (.ao 11) (U 8)),
 ad 2 10 (.bin .gtr 3 (U 9) (.const (.int .i64 60)))])
 (.cond (U 10) (.seq (.ak [ad 0 11 (.eh [.aX,.aX] []),
 bG 1 (.st 2 (U 2) (U 11)),
 ad 2 3 (.aq (.const (.int .i64 4)))])
 .ret) .skip))
 (.seq (.seq (.ak [ad 0 4 (.aq (.const (.int .i64 0)))])
 (.block 0 (.loop alv)))
 (.seq (.ak [ad 0 5 (.alloc [.aX,.aX])])
 (.seq (.seq (.ak [ad 0 6 (.aq (.const (.int .i64 0)))])
 (.block 2 (.loop alw)))
 (.seq (.seq (.ak [ad 0 54 (.aW 2 (U 5)),
 sc 1 55 62 [(U 54)],
 ad 2 56 (.bin .neq 3 (U 55) (.const (.int .i64 0)))])
 (.cond (U 56) (.seq (.ak [ad 0 57 (.eh [.aX,.aX] []),
 ad 1 58 (.aW 2 (U 5)),
 sc 2 59 62 [(U 58)],
 bG 3 (.st 2 (U 2) (U 57)),
 af 4 3 59])
 .ret) .skip))
 (.seq (.ak [ad 0 60 (.aW 2 (U 5)),
 bG 1 (.st 2 (U 2) (U 60)),
 ad 2 3 (.aq (.const (.int .i64 0)))])
 .ret)))))))
def aa5:List a6:=[.aW 2 (U 2),.aq (U 3)]
theorem afo:bq Tryz.prog 60=some Sc:=by kernel_rfl
theorem anx:br Tryz.prog 60=some aa5:=by kernel_rfl
def Hw:aS:=(.seq (.ak [ad 0 1 (.box (U 0)),
 ad 1 2 (.aq (.const (.int .i64 0)))])
 (.seq (.seq (.ak [ad 0 3 (.aW 11 (U 1)),
 sc 1 4 31 [(U 3)],
 ad 2 5 (.bin .neq 3 (U 4) (.const (.int .i64 0)))])
 (.cond (U 5) (.seq (.ak [ad 0 6 (.aW 11 (U 1)),
 sc 1 7 31 [(U 6)],
 af 2 2 7])
 .ret) .skip))
 (.seq (.seq (.ak [ad 0 8 (.aW 11 (U 1)),
 sc 1 9 93 [(U 8)],
 ad 2 10 (.un .not (U 9))])
 (.cond (U 10) (.seq (.ak [ad 0 2 (.aq (.const (.int .i64 22)))])
 .ret) .skip))
 (.seq (.ak [ad 0 2 (.aq (.const (.int .i64 0)))])
 .ret))))
def Nv:List a6:=[.aq (U 2)]
theorem Sd:bq Tryz.prog 61=some Hw:=by kernel_rfl
theorem aa6:br Tryz.prog 61=some Nv:=by kernel_rfl
def XC:aS:=(.seq (.seq (.ak [af 0 8 3,
 ad 1 9 (.aO 1 (U 1)),
 ad 2 10 (.ld1 (U 9)),
 ad 3 11 (.len (.ao 11) (U 10)),
 ad 4 12 (.bin .lss 3 (U 8) (U 11))])
 (.cond (U 12) .skip (.exit 0)))
 (.seq (.block 1 (.seq (.ak [ad 0 15 (.aO 0 (U 1)),
 ad 1 16 (.ld1 (U 15)),
 ad 2 17 (.aO 1 (U 1)),
 ad 3 18 (.ld1 (U 17)),
 af 4 19 3,
 ad 5 20 (.bm (.ao 11) (U 18) (U 19)),
 ad 6 21 (.aO 1 (U 20)),
 ad 7 22 (.ld1 (U 21)),
 sc 8 23 69 [(U 16),(U 22)],
 ad 9 24 (.un .not (U 23))])
 (.cond (U 24) (.seq (.ak [ad 0 2 (.aq (.const (.int .i64 40)))])
 .ret) .skip)))
 (.ak [af 0 13 3,
 ad 1 14 (.bin .add 3 (U 13) (.const (.int .i64 1))),
 af 2 3 14])))
def Hy:aS:=(.seq (.ak [ad 0 1 (.box (U 0)),
 ad 1 2 (.aq (.const (.int .i64 0)))])
 (.seq (.seq (.ak [ad 0 4 (.aO 0 (U 1)),
 ad 1 5 (.ld1 (U 4)),
 sc 2 6 63 [(U 5)],
 ad 3 7 (.un .not (U 6))])
 (.cond (U 7) (.seq (.ak [ad 0 2 (.aq (.const (.int .i64 32)))])
 .ret) .skip))
 (.seq (.seq (.ak [ad 0 3 (.aq (.const (.int .i64 0)))])
 (.block 0 (.loop XC)))
 (.seq (.seq (.gJ [ad 0 25 (.aW 2 (U 1)),
 ad 3 28 (.aO 1 (U 1)),
 ⟨4,(some 29),none,.cG (.ld1 (U 28)),[],true⟩,
 ad 5 30 (.len (.ao 11) (U 29)),
 ⟨1,(some 26),none,.cR 94 [(U 25)],[4],false⟩,
 ad 2 27 (.len (.ao 1) (U 26)),
 ad 6 31 (.bin .lss 3 (U 27) (U 30))])
 (.cond (U 31) (.seq (.ak [ad 0 2 (.aq (.const (.int .i64 36)))])
 .ret) .skip))
 (.seq (.ak [ad 0 2 (.aq (.const (.int .i64 0)))])
 .ret)))))
def Nw:List a6:=[.aq (U 2)]
theorem Se:bq Tryz.prog 62=some Hy:=by kernel_rfl
theorem aa7:br Tryz.prog 62=some Nw:=by kernel_rfl
def XD:aS:=(.seq (.seq (.ak [af 0 4 3,
 af 1 5 0,
 ad 2 6 (.len (.ao 32) (U 5)),
 ad 3 7 (.bin .lss 3 (U 4) (U 6))])
 (.cond (U 7) .skip (.exit 0)))
 (.seq (.block 1 (.seq (.ak [af 0 10 0,
 af 1 11 3,
 ad 2 12 (.bin .sub 3 (U 11) (.const (.int .i64 1))),
 ad 3 13 (.bm (.ao 32) (U 10) (U 12)),
 ad 4 14 (.aW 32 (U 13)),
 af 5 15 0,
 af 6 16 3,
 ad 7 17 (.bm (.ao 32) (U 15) (U 16)),
 ad 8 18 (.aW 32 (U 17)),
 sc 9 19 84 [(U 14),(U 18)],
 ad 10 20 (.bin .geq 3 (U 19) (.const (.int .i64 0)))])
 (.cond (U 20) (.seq (.ak [ad 0 2 (.aq (.const (.bool false)))])
 .ret) .skip)))
 (.ak [af 0 8 3,
 ad 1 9 (.bin .add 3 (U 8) (.const (.int .i64 1))),
 af 2 3 9])))
def Hz:aS:=(.seq (.ak [ad 0 2 (.aq (.const (.bool false)))])
 (.seq (.seq (.ak [ad 0 3 (.aq (.const (.int .i64 1)))])
 (.block 0 (.loop XD)))
 (.seq (.ak [ad 0 2 (.aq (.const (.bool true)))])
 .ret)))
def Nx:List a6:=[.aq (U 2)]
theorem Sf:bq Tryz.prog 63=some Hz:=by kernel_rfl
theorem aa8:br Tryz.prog 63=some Nx:=by kernel_rfl
def HA:aS:=(.seq (.ak [ad 0 2 (.aq (.const (.bool false)))])
 (.seq (.ak [af 0 3 0,
 ad 1 4 (.bin .geq 25 (U 3) (.const (.int .u32 1))),
 af 2 5 4,
 aF 3 6 5 true (.aq (U 0)),
 aF 4 7 5 true (.bin .lss 25 (U 6) (.const (.int .u32 1000000007))),
 ad 5 8 (.pick (U 5) (U 7) (.const (.bool false))),
 af 6 9 8,
 aF 7 10 9 true (.aq (U 0)),
 aF 8 11 9 true (.cB .u64 (U 10)),
 ⟨9,(some 12),(some ((some 9),true)),.cR 95 [(U 11),(.const (.int .u64 500000003)),(.const (.int .u64 1000000007))],[],false⟩,
 aF 10 13 9 true (.bin .eql 27 (U 12) (.const (.int .u64 1))),
 ad 11 14 (.pick (U 9) (U 13) (.const (.bool false))),
 af 12 2 14])
 .ret))
def Ny:List a6:=[.aq (U 2)]
theorem Sg:bq Tryz.prog 64=some HA:=by kernel_rfl
theorem aa9:br Tryz.prog 64=some Ny:=by kernel_rfl
def HB:aS:=(.seq (.ak [ad 0 1 (.box (U 0)),
 ad 1 2 (.aq (.const (.int .i64 0)))])
 (.seq (.ak [ad 0 4 (.aO 2 (U 1)),
 ad 1 5 (.aW 4 (U 4)),
 ad 2 6 (.eh [.int .u8 0,.int .i64 0,.int .u64 0,.str []] []),
 ad 3 7 (.bin .eql 29 (U 5) (U 6)),
 af 4 3 7])
 (.seq (.seq (.ak [ad 0 8 (.aO 0 (U 1)),
 ad 1 9 (.ld1 (U 8))])
 (.block 0 (.seq (.ak [ad 0 11 (.bin .eql 5 (U 9) (.const (.int .u8 1))),
 af 1 10 11])
 (.cond (U 10) (.seq (.ak [ad 0 12 (.aO 1 (U 1)),
 ad 1 13 (.ld1 (U 12)),
 ad 2 14 (.bin .eql 9 (U 13) (.const (.string ⟨#[]⟩))),
 af 3 15 14,
 aF 4 16 15 true (.aq (U 3)),
 ad 5 17 (.pick (U 15) (U 16) (.const (.bool false)))])
 (.cond (U 17) (.seq (.ak [ad 0 2 (.aq (.const (.int .i64 0)))])
 .ret) .skip)) (.seq (.seq (.ak [ad 0 19 (.bin .eql 5 (U 9) (.const (.int .u8 2))),
 af 1 18 19])
 (.cond (U 18) .skip (.ak [ad 0 20 (.bin .eql 5 (U 9) (.const (.int .u8 3))),
 af 1 18 20])))
 (.cond (U 18) (.seq (.ak [ad 0 21 (.aO 1 (U 1)),
 ad 1 22 (.ld1 (U 21)),
 sc 2 23 51 [(U 22)],
 af 3 24 23,
 aF 4 25 24 true (.aq (U 3)),
 ad 5 26 (.pick (U 24) (U 25) (.const (.bool false)))])
 (.cond (U 26) (.seq (.ak [ad 0 2 (.aq (.const (.int .i64 0)))])
 .ret) .skip)) (.seq (.ak [ad 0 28 (.bin .eql 5 (U 9) (.const (.int .u8 4))),
 af 1 27 28])
 (.cond (U 27) (.seq (.ak [ad 0 29 (.aO 1 (U 1)),
 ad 1 30 (.ld1 (U 29)),
 sc 2 31 51 [(U 30)],
 af 3 32 31,
 aF 4 33 32 true (.aO 2 (U 1)),
 aF 5 34 32 true (.aW 4 (U 33)),
 ⟨6,(some 35),(some ((some 32),true)),.cR 96 [(U 34)],[],false⟩,
 aF 7 36 32 true (.bin .eql 3 (U 35) (.const (.int .i64 0))),
 ad 8 37 (.pick (U 32) (U 36) (.const (.bool false)))])
 (.cond (U 37) (.seq (.ak [ad 0 2 (.aq (.const (.int .i64 0)))])
 .ret) .skip)) .skip))))))))
 (.seq (.ak [ad 0 2 (.aq (.const (.int .i64 8)))])
 .ret))))
def Nz:List a6:=[.aq (U 2)]
theorem Sh:bq Tryz.prog 65=some HB:=by kernel_rfl
theorem abb:br Tryz.prog 65=some Nz:=by kernel_rfl
def HC:aS:=(.seq (.ak [ad 0 2 (.aq (.const (.bool false)))])
 (.seq (.ak [af 0 3 0,
 ad 1 4 (.cB .u64 (U 3)),
 ad 2 5 (.bin .lss 27 (U 4) (.const (.int .u64 500000003))),
 af 3 2 5])
 .ret))
def NA:List a6:=[.aq (U 2)]
theorem Si:bq Tryz.prog 66=some HC:=by kernel_rfl
theorem abd:br Tryz.prog 66=some NA:=by kernel_rfl
def HD:aS:=(.seq (.ak [ad 0 2 (.alloc (rep 32 (.int .u8 0)))])
 (.seq (.ak [sc 0 3 99 [],
 ad 1 4 (.cQ 1 [.int .u8 0] 0 []),
 af 2 5 0,
 ad 3 6 (.app 1 1 (U 4) (U 5)),
 af 4 7 0,
 ad 5 8 (.len (.ao 1) (U 7)),
 sc 6 9 100 [(U 8)],
 ad 7 10 (.app 1 1 (U 6) (U 9)),
 sc 8 11 98 [(U 3),(U 10)],
 sc 9 12 97 [(U 11)],
 bG 10 (.st 32 (U 2) (U 12))])
 .ret))
def NB:List a6:=[.aW 32 (U 2)]
theorem Sj:bq Tryz.prog 67=some HD:=by kernel_rfl
theorem abe:br Tryz.prog 67=some NB:=by kernel_rfl
def HE:aS:=(.seq (.ak [ad 0 1 (.box (U 0)),
 ad 1 2 (.aq (.const (.slice none 0 0)))])
 (.seq (.gJ [ad 0 3 (.aW 11 (U 1)),
 ad 2 5 (.aO 9 (U 1)),
 ad 3 6 (.aO 0 (U 5)),
 ⟨4,(some 7),none,.cG (.ld1 (U 6)),[],true⟩,
 ⟨5,(some 8),none,.cG (.cB .u64 (U 7)),[],true⟩,
 ad 8 11 (.aO 9 (U 1)),
 ad 9 12 (.aO 1 (U 11)),
 ⟨10,(some 13),none,.cG (.ld1 (U 12)),[],true⟩,
 ⟨11,(some 14),none,.cG (.cB .u64 (U 13)),[],true⟩,
 ⟨1,(some 4),none,.cR 101 [(U 3)],[11,10,5,4],false⟩,
 ⟨6,(some 9),none,.cR 102 [(U 8)],[11,10],false⟩,
 ⟨7,(some 10),none,.cG (.app 1 1 (U 4) (U 9)),[11,10],false⟩,
 sc 12 15 102 [(U 14)],
 ad 13 16 (.app 1 1 (U 10) (U 15)),
 af 14 2 16])
 .ret))
def NC:List a6:=[.aq (U 2)]
theorem Sk:bq Tryz.prog 68=some HE:=by kernel_rfl
theorem abf:br Tryz.prog 68=some NC:=by kernel_rfl
def XE:aS:=(.seq (.seq (.ak [af 0 6 5,
 af 1 7 1,
 ad 2 8 (.len (.ao 32) (U 7)),
 ad 3 9 (.bin .lss 3 (U 6) (U 8))])
 (.cond (U 9) .skip (.exit 0)))
 (.seq (.block 1 (.seq (.ak [af 0 12 0,
 af 1 13 1,
 af 2 14 5,
 ad 3 15 (.bm (.ao 32) (U 13) (U 14)),
 ad 4 16 (.aW 32 (U 15)),
 sc 5 17 70 [(U 12),(U 16)],
 ad 6 18 (.bin .lss 3 (U 17) (.const (.int .i64 0)))])
 (.cond (U 18) (.seq (.ak [ad 0 4 (.aq (.const (.bool false)))])
 .ret) .skip)))
 (.ak [af 0 10 5,
 ad 1 11 (.bin .add 3 (U 10) (.const (.int .i64 1))),
 af 2 5 11])))
def HF:aS:=(.seq (.ak [ad 0 4 (.aq (.const (.bool false)))])
 (.seq (.seq (.ak [ad 0 5 (.aq (.const (.int .i64 0)))])
 (.block 0 (.loop XE)))
 (.seq (.ak [ad 0 4 (.aq (.const (.bool true)))])
 .ret)))
def ND:List a6:=[.aq (U 4)]
theorem Sl:bq Tryz.prog 69=some HF:=by kernel_rfl
theorem abg:br Tryz.prog 69=some ND:=by kernel_rfl
def XG:aS:=(.seq (.seq (.ak [af 0 6 5,
 af 1 7 0,
 ad 2 8 (.len (.ao 32) (U 7)),
 ad 3 9 (.bin .lss 3 (U 6) (U 8))])
 (.cond (U 9) .skip (.exit 0)))
 (.seq (.block 1 (.seq (.ak [af 0 12 0,
 af 1 13 5,
 ad 2 14 (.bm (.ao 32) (U 12) (U 13)),
 ad 3 15 (.aW 32 (U 14)),
 ad 4 16 (.aW 32 (U 3)),
 ad 5 17 (.bin .eql 71 (U 15) (U 16))])
 (.cond (U 17) (.seq (.ak [af 0 18 5,
 af 1 4 18])
 .ret) .skip)))
 (.ak [af 0 10 5,
 ad 1 11 (.bin .add 3 (U 10) (.const (.int .i64 1))),
 af 2 5 11])))
def HG:aS:=(.seq (.ak [ad 0 3 (.box (U 1)),
 ad 1 4 (.aq (.const (.int .i64 0)))])
 (.seq (.seq (.ak [ad 0 5 (.aq (.const (.int .i64 0)))])
 (.block 0 (.loop XG)))
 (.seq (.ak [ad 0 4 (.aq (.const (.int .i64 (-1))))])
 .ret)))
def NE:List a6:=[.aq (U 4)]
theorem Sm:bq Tryz.prog 70=some HG:=by kernel_rfl
theorem abh:br Tryz.prog 70=some NE:=by kernel_rfl
def Sn:aS:=(.seq (.ak [ad 0 3 (.box (U 1)),
 ad 1 4 (.alloc [.int .u32 0,.aX,.int .u64 0,.int .u8 0,.str [],.int .u8 0,.int .i64 0,.int .u64 0,.str [],.int .u32 0,.int .u32 0]),
 ad 2 5 (.aq (.const (.int .i64 0)))])
 (.seq (.seq (.ak [af 0 7 0,
 sc 1 8 103 [(U 7)],
 ad 2 9 (.bin .neq 3 (U 8) (.const (.int .i64 0)))])
 (.cond (U 9) (.seq (.ak [ad 0 10 (.eh [.int .u32 0,.aX,.int .u64 0,.int .u8 0,.str [],.int .u8 0,.int .i64 0,.int .u64 0,.str [],.int .u32 0,.int .u32 0] []),
 af 1 11 0,
 sc 2 12 103 [(U 11)],
 bG 3 (.st 11 (U 4) (U 10)),
 af 4 5 12])
 .ret) .skip))
 (.seq (.ak [ad 0 13 (.aW 11 (U 3)),
 sc 1 14 104 [(U 13)],
 sc 2 15 54 [(U 14)],
 ad 3 6 (.alloc [.int .u32 0,.aX,.int .u64 0,.int .u8 0,.str [],.int .u8 0,.int .i64 0,.int .u64 0,.str [],.int .u32 0,.int .u32 0]),
 bG 4 (.st 11 (U 6) (U 15))])
 (.seq (.ak [af 0 16 0,
 sc 1 17 105 [(U 16)],
 ad 2 18 (.aO 0 (U 6)),
 bG 3 (.st 1 (U 18) (U 17))])
 (.seq (.seq (.ak [ad 0 19 (.aW 11 (U 6)),
 sc 1 20 31 [(U 19)],
 ad 2 21 (.bin .neq 3 (U 20) (.const (.int .i64 0)))])
 (.cond (U 21) (.seq (.ak [ad 0 22 (.eh [.int .u32 0,.aX,.int .u64 0,.int .u8 0,.str [],.int .u8 0,.int .i64 0,.int .u64 0,.str [],.int .u32 0,.int .u32 0] []),
 ad 1 23 (.aW 11 (U 6)),
 sc 2 24 31 [(U 23)],
 bG 3 (.st 11 (U 4) (U 22)),
 af 4 5 24])
 .ret) .skip))
 (.seq (.ak [af 0 25 0,
 ad 1 26 (.aW 11 (U 6)),
 sc 2 27 101 [(U 26)],
 sc 3 28 106 [(U 25),(U 27)],
 ad 4 29 (.aO 9 (U 6)),
 bG 5 (.st 2 (U 29) (U 28))])
 (.seq (.ak [ad 0 30 (.aW 11 (U 6)),
 bG 1 (.st 11 (U 4) (U 30)),
 ad 2 5 (.aq (.const (.int .i64 0)))])
 .ret)))))))
def abi:List a6:=[.aW 11 (U 4),.aq (U 5)]
theorem afq:bq Tryz.prog 71=some Sn:=by kernel_rfl
theorem anA:br Tryz.prog 71=some abi:=by kernel_rfl
def B4:aS:=(.seq (.ak [ad 0 1 (.box (U 0)),
 ad 1 2 (.aq (.const (.slice none 0 0))),
 ad 2 3 (.aq (.const (.int .i64 0)))])
 (.seq (.seq (.ak [ad 0 7 (.aW 11 (U 1)),
 sc 1 8 107 [(U 7)],
 af 2 4 8])
 (.seq (.ak [af 0 9 4,
 ad 1 10 (.bin .neq 38 (U 9) (.const (.int .i64 0)))])
 (.cond (U 10) (.seq (.ak [af 0 11 4,
 ad 1 2 (.aq (.const (.slice none 0 0))),
 af 2 3 11])
 .ret) .skip)))
 (.seq (.ak [ad 0 13 (.aW 11 (U 1)),
 sc 1 14 108 [(U 13)],
 af 2 12 14,
 ad 3 15 (.ext (U 12) 0),
 ad 4 16 (.ext (U 12) 1),
 af 5 5 15,
 af 6 6 16])
 (.seq (.gJ [af 0 17 5,
 ad 1 18 (.aO 9 (U 1)),
 ad 2 19 (.aO 0 (U 18)),
 ad 3 20 (.ld1 (U 19)),
 ad 4 21 (.cB .u64 (U 20)),
 ad 6 23 (.aO 9 (U 1)),
 ad 7 24 (.aO 1 (U 23)),
 ⟨8,(some 25),none,.cG (.ld1 (U 24)),[],true⟩,
 ⟨9,(some 26),none,.cG (.cB .u64 (U 25)),[],true⟩,
 ⟨5,(some 22),none,.cR 110 [(U 21)],[9,8],false⟩,
 sc 10 27 110 [(U 26)],
 ad 11 28 (.cQ 1 [.aX] 3 [(0,(U 17)),(1,(U 22)),(2,(U 27))]),
 sc 12 29 109 [(U 28)],
 af 13 2 29,
 ad 14 3 (.aq (.const (.int .i64 0)))])
 .ret))))
def El:List a6:=[.aq (U 2),.aq (U 3)]
theorem HH:bq Tryz.prog 72=some B4:=by kernel_rfl
theorem NF:br Tryz.prog 72=some El:=by kernel_rfl
def HI:aS:=(.seq (.ak [ad 0 2 (.alloc (rep 32 (.int .u8 0))),
 ad 1 3 (.aq (.const (.int .i64 0)))])
 (.seq (.ak [af 0 4 0,
 ad 1 5 (.cQ 1 [.aX] 1 [(0,(U 4))]),
 sc 2 6 111 [(U 5)],
 ad 3 7 (.ext (U 6) 0),
 ad 4 8 (.ext (U 6) 1),
 bG 5 (.st 32 (U 2) (U 7)),
 af 6 3 8])
 .ret))
def NG:List a6:=[.aW 32 (U 2),.aq (U 3)]
theorem Sp:bq Tryz.prog 73=some HI:=by kernel_rfl
theorem abj:br Tryz.prog 73=some NG:=by kernel_rfl
def XH:aS:=(.seq (.ak [ad 0 9 (.bin .lss 3 (U 8) (U 7))])
 (.seq (.cond (U 9) .skip (.exit 0))
 (.seq (.block 1 (.seq (.ak [ad 0 10 (.bm (.ao 1) (U 6) (U 8)),
 ad 1 11 (.ld1 (U 10)),
 af 2 5 11])
 (.seq (.ak [af 0 12 5,
 af 1 13 3,
 ad 2 14 (.bin .neq 3 (U 12) (U 13))])
 (.cond (U 14) (.seq (.ak [af 0 15 5,
 af 1 2 15])
 .ret) .skip))))
 (.ak [ad 0 16 (.bin .add 3 (U 8) (.const (.int .i64 1))),
 af 1 8 16]))))
def HJ:aS:=(.seq (.ak [ad 0 2 (.aq (.const (.int .i64 0)))])
 (.seq (.ak [ad 0 3 (.aq (.const (.int .i64 0)))])
 (.seq (.seq (.ak [af 0 6 0,
 ad 1 7 (.len (.ao 1) (U 6)),
 ad 2 8 (.aq (.const (.int .i64 0)))])
 (.block 0 (.loop XH)))
 (.seq (.ak [af 0 17 3,
 af 1 2 17])
 .ret))))
def NH:List a6:=[.aq (U 2)]
theorem Sq:bq Tryz.prog 74=some HJ:=by kernel_rfl
theorem abk:br Tryz.prog 74=some NH:=by kernel_rfl
def HK:aS:=(.seq (.ak [ad 0 4 (.aq (.const (.int .i64 0)))])
 (.seq (.ak [af 0 7 0,
 sc 1 8 112 [(U 7)],
 af 2 5 8])
 (.seq (.ak [af 0 9 1,
 sc 1 10 112 [(U 9)],
 af 2 6 10])
 (.seq (.seq (.ak [af 0 11 5])
 (.cond (U 11) (.seq (.seq (.ak [af 0 12 6])
 (.cond (U 12) (.seq (.ak [ad 0 4 (.aq (.const (.int .i64 0)))])
 .ret) .skip))
 (.seq (.ak [ad 0 4 (.aq (.const (.int .i64 (-1))))])
 .ret)) .skip))
 (.seq (.seq (.ak [af 0 13 6])
 (.cond (U 13) (.seq (.ak [ad 0 4 (.aq (.const (.int .i64 1)))])
 .ret) .skip))
 (.seq (.seq (.ak [af 0 14 0,
 af 1 15 1,
 ad 2 16 (.bin .lss 9 (U 14) (U 15))])
 (.cond (U 16) (.seq (.ak [ad 0 4 (.aq (.const (.int .i64 (-1))))])
 .ret) .skip))
 (.seq (.seq (.ak [af 0 17 0,
 af 1 18 1,
 ad 2 19 (.bin .gtr 9 (U 17) (U 18))])
 (.cond (U 19) (.seq (.ak [ad 0 4 (.aq (.const (.int .i64 1)))])
 .ret) .skip))
 (.seq (.ak [ad 0 4 (.aq (.const (.int .i64 0)))])
 .ret))))))))
def NI:List a6:=[.aq (U 4)]
theorem Sr:bq Tryz.prog 75=some HK:=by kernel_rfl
theorem abl:br Tryz.prog 75=some NI:=by kernel_rfl
def HL:aS:=(.seq (.ak [ad 0 4 (.aq (.const (.int .i64 0)))])
 (.seq (.ak [af 0 5 0,
 af 1 6 1,
 ad 2 7 (.cN 113 (.func 113) (U 5) (U 6)),
 af 3 4 7])
 .ret))
def NJ:List a6:=[.aq (U 4)]
theorem Ss:bq Tryz.prog 76=some HL:=by kernel_rfl
theorem abm:br Tryz.prog 76=some NJ:=by kernel_rfl
def XI:aS:=(.seq (.ak [ad 0 9 (.bin .lss 3 (U 8) (U 7))])
 (.seq (.cond (U 9) .skip (.exit 0))
 (.seq (.block 1 (.seq (.ak [af 0 10 8,
 af 1 5 10])
 (.seq (.ak [af 0 11 1,
 af 1 12 0,
 af 2 13 5,
 ad 3 14 (.bm (.ao 33) (U 12) (U 13)),
 ad 4 15 (.aW 33 (U 14)),
 ⟨5,(some 16),none,.gW (U 11) [(U 15)],[],false⟩])
 (.cond (U 16) (.seq (.ak [af 0 17 5,
 af 1 4 17])
 .ret) .skip))))
 (.ak [ad 0 18 (.bin .add 3 (U 8) (.const (.int .i64 1))),
 af 1 8 18]))))
def HM:aS:=(.seq (.ak [ad 0 4 (.aq (.const (.int .i64 0)))])
 (.seq (.seq (.ak [af 0 6 0,
 ad 1 7 (.len (.ao 33) (U 6)),
 ad 2 8 (.aq (.const (.int .i64 0)))])
 (.block 0 (.loop XI)))
 (.seq (.ak [ad 0 4 (.aq (.const (.int .i64 (-1))))])
 .ret)))
def NK:List a6:=[.aq (U 4)]
theorem St:bq Tryz.prog 79=some HM:=by kernel_rfl
theorem abn:br Tryz.prog 79=some NK:=by kernel_rfl
def XK:aS:=(.seq (.ak [ad 0 9 (.bin .lss 3 (U 8) (U 7))])
 (.seq (.cond (U 9) .skip (.exit 0))
 (.seq (.block 1 (.seq (.ak [af 0 10 8,
 af 1 5 10])
 (.seq (.ak [ad 0 11 (.aW 32 (U 3)),
 af 1 12 0,
 af 2 13 5,
 ad 3 14 (.bm (.ao 32) (U 12) (U 13)),
 ad 4 15 (.aW 32 (U 14)),
 ad 5 16 (.bin .eql 71 (U 11) (U 15))])
 (.cond (U 16) (.seq (.ak [af 0 17 5,
 af 1 4 17])
 .ret) .skip))))
 (.ak [ad 0 18 (.bin .add 3 (U 8) (.const (.int .i64 1))),
 af 1 8 18]))))
def HN:aS:=(.seq (.ak [ad 0 3 (.box (U 1)),
 ad 1 4 (.aq (.const (.int .i64 0)))])
 (.seq (.seq (.ak [af 0 6 0,
 ad 1 7 (.len (.ao 32) (U 6)),
 ad 2 8 (.aq (.const (.int .i64 0)))])
 (.block 0 (.loop XK)))
 (.seq (.ak [ad 0 4 (.aq (.const (.int .i64 (-1))))])
 .ret)))
def NL:List a6:=[.aq (U 4)]
theorem Sv:bq Tryz.prog 80=some HN:=by kernel_rfl
theorem abp:br Tryz.prog 80=some NL:=by kernel_rfl
def alz:aS:=(.seq (.ak [ad 0 9 (.bin .lss 3 (U 8) (U 7))])
 (.seq (.cond (U 9) .skip (.exit 0))
 (.seq (.block 1 (.seq (.ak [af 0 10 8,
 af 1 5 10])
 (.seq (.ak [af 0 11 1,
 af 1 12 0,
 af 2 13 5,
 ad 3 14 (.bm (.ao 1) (U 12) (U 13)),
 ad 4 15 (.ld1 (U 14)),
 ad 5 16 (.bin .eql 9 (U 11) (U 15))])
 (.cond (U 16) (.seq (.ak [af 0 17 5,
 af 1 4 17])
 .ret) .skip))))
 (.ak [ad 0 18 (.bin .add 3 (U 8) (.const (.int .i64 1))),
 af 1 8 18]))))
def Sw:aS:=(.seq (.ak [ad 0 4 (.aq (.const (.int .i64 0)))])
 (.seq (.seq (.ak [af 0 6 0,
 ad 1 7 (.len (.ao 1) (U 6)),
 ad 2 8 (.aq (.const (.int .i64 0)))])
 (.block 0 (.loop alz)))
 (.seq (.ak [ad 0 4 (.aq (.const (.int .i64 (-1))))])
 .ret)))
def abq:List a6:=[.aq (U 4)]
theorem afr:bq Tryz.prog 81=some Sw:=by kernel_rfl
theorem anB:br Tryz.prog 81=some abq:=by kernel_rfl
def HO:aS:=(.seq (.ak [ad 0 2 (.aq (.const (.bool false)))])
 (.seq (.ak [af 0 3 0,
 ad 1 4 (.len .str (U 3)),
 ad 2 5 (.bin .geq 3 (U 4) (.const (.int .i64 1))),
 af 3 6 5,
 aF 4 7 6 true (.aq (U 0)),
 aF 5 8 6 true (.len .str (U 7)),
 aF 6 9 6 true (.bin .leq 3 (U 8) (.const (.int .i64 20))),
 ad 7 10 (.pick (U 6) (U 9) (.const (.bool false))),
 af 8 11 10,
 aF 9 12 11 true (.aq (U 0)),
 ⟨10,(some 13),(some ((some 11),true)),.cR 115 [(U 12),(.func 116)],[],false⟩,
 aF 11 14 11 true (.bin .lss 3 (U 13) (.const (.int .i64 0))),
 ad 12 15 (.pick (U 11) (U 14) (.const (.bool false))),
 af 13 2 15])
 .ret))
def NM:List a6:=[.aq (U 2)]
theorem Sx:bq Tryz.prog 82=some HO:=by kernel_rfl
theorem abr:br Tryz.prog 82=some NM:=by kernel_rfl
def HP:aS:=(.seq (.ak [ad 0 1 (.box (U 0)),
 ad 1 2 (.aq (.const (.int .i64 0)))])
 (.seq (.ak [ad 0 3 (.alloc [.int .u8 0,.int .i64 0,.int .u64 0,.str []])])
 (.seq (.seq (.ak [ad 0 4 (.aO 0 (U 1)),
 ad 1 5 (.ld1 (U 4))])
 (.block 0 (.seq (.ak [ad 0 7 (.bin .eql 5 (U 5) (.const (.int .u8 1))),
 af 1 6 7])
 (.cond (U 6) (.ak [ad 0 8 (.aO 1 (U 1)),
 ad 1 9 (.ld1 (U 8)),
 sc 2 10 117 [(U 9)],
 bG 3 (.st 4 (U 3) (U 10))]) (.seq (.ak [ad 0 12 (.bin .eql 5 (U 5) (.const (.int .u8 2))),
 af 1 11 12])
 (.cond (U 11) (.ak [ad 0 13 (.aO 2 (U 1)),
 ad 1 14 (.ld1 (U 13)),
 sc 2 15 118 [(U 14)],
 bG 3 (.st 4 (U 3) (U 15))]) (.seq (.ak [ad 0 17 (.bin .eql 5 (U 5) (.const (.int .u8 3))),
 af 1 16 17])
 (.cond (U 16) (.ak [ad 0 19 (.aO 3 (U 1)),
 ad 1 20 (.ld1 (U 19)),
 sc 2 21 119 [(U 20)],
 af 3 18 21,
 ad 4 22 (.ext (U 18) 0),
 ad 5 23 (.ext (U 18) 1),
 bG 6 (.st 4 (U 3) (U 22))]) .skip))))))))
 (.seq (.seq (.ak [ad 0 24 (.aW 4 (U 1)),
 ad 1 25 (.aW 4 (U 3)),
 ad 2 26 (.bin .neq 29 (U 24) (U 25)),
 af 3 27 26,
 aF 4 28 27 false (.aO 0 (U 1)),
 aF 5 29 27 false (.ld1 (U 28)),
 aF 6 30 27 false (.bin .eql 5 (U 29) (.const (.int .u8 0))),
 ad 7 31 (.pick (U 27) (.const (.bool true)) (U 30))])
 (.cond (U 31) (.seq (.ak [ad 0 2 (.aq (.const (.int .i64 8)))])
 .ret) .skip))
 (.seq (.ak [ad 0 2 (.aq (.const (.int .i64 0)))])
 .ret)))))
def NN:List a6:=[.aq (U 2)]
theorem Sy:bq Tryz.prog 83=some HP:=by kernel_rfl
theorem abs:br Tryz.prog 83=some NN:=by kernel_rfl
def XL:aS:=(.seq (.seq (.ak [af 0 6 5,
 ad 1 7 (.bin .lss 3 (U 6) (.const (.int .i64 32)))])
 (.cond (U 7) .skip (.exit 0)))
 (.seq (.block 1 (.seq (.seq (.ak [af 0 10 5,
 ad 1 11 (.bm (.arr 32 1) (U 2) (U 10)),
 ad 2 12 (.ld1 (U 11)),
 af 3 13 5,
 ad 4 14 (.bm (.arr 32 1) (U 3) (U 13)),
 ad 5 15 (.ld1 (U 14)),
 ad 6 16 (.bin .lss 5 (U 12) (U 15))])
 (.cond (U 16) (.seq (.ak [ad 0 4 (.aq (.const (.int .i64 (-1))))])
 .ret) .skip))
 (.seq (.ak [af 0 17 5,
 ad 1 18 (.bm (.arr 32 1) (U 2) (U 17)),
 ad 2 19 (.ld1 (U 18)),
 af 3 20 5,
 ad 4 21 (.bm (.arr 32 1) (U 3) (U 20)),
 ad 5 22 (.ld1 (U 21)),
 ad 6 23 (.bin .gtr 5 (U 19) (U 22))])
 (.cond (U 23) (.seq (.ak [ad 0 4 (.aq (.const (.int .i64 1)))])
 .ret) .skip))))
 (.ak [af 0 8 5,
 ad 1 9 (.bin .add 3 (U 8) (.const (.int .i64 1))),
 af 2 5 9])))
def HQ:aS:=(.seq (.ak [ad 0 2 (.box (U 0)),
 ad 1 3 (.box (U 1)),
 ad 2 4 (.aq (.const (.int .i64 0)))])
 (.seq (.seq (.ak [ad 0 5 (.aq (.const (.int .i64 0)))])
 (.block 0 (.loop XL)))
 (.seq (.ak [ad 0 4 (.aq (.const (.int .i64 0)))])
 .ret)))
def NP:List a6:=[.aq (U 4)]
theorem Sz:bq Tryz.prog 84=some HQ:=by kernel_rfl
theorem abt:br Tryz.prog 84=some NP:=by kernel_rfl
def HR:aS:=(.seq (.ak [ad 0 1 (.box (U 0)),
 ad 1 2 (.aq (.const (.int .i64 0)))])
 (.seq (.seq (.ak [ad 0 6 (.aW 11 (U 1)),
 sc 1 7 107 [(U 6)],
 af 2 3 7])
 (.seq (.ak [af 0 8 3,
 ad 1 9 (.bin .neq 38 (U 8) (.const (.int .i64 0)))])
 (.cond (U 9) (.seq (.ak [af 0 10 3,
 af 1 2 10])
 .ret) .skip)))
 (.seq (.ak [ad 0 12 (.aW 11 (U 1)),
 sc 1 13 108 [(U 12)],
 af 2 11 13,
 ad 3 14 (.ext (U 11) 0),
 ad 4 15 (.ext (U 11) 1),
 af 5 4 14,
 af 6 5 15])
 (.seq (.ak [ad 0 16 (.aO 0 (U 1)),
 ad 1 17 (.ld1 (U 16)),
 af 2 18 4,
 ad 3 19 (.aO 9 (U 1)),
 ad 4 20 (.aW 2 (U 19)),
 sc 5 21 120 [(U 17),(U 18),(U 20)],
 af 6 2 21])
 .ret))))
def NQ:List a6:=[.aq (U 2)]
theorem SA:bq Tryz.prog 85=some HR:=by kernel_rfl
theorem abu:br Tryz.prog 85=some NQ:=by kernel_rfl
def XM:aS:=(.seq (.seq (.ak [af 0 16 3,
 ad 1 17 (.aO 0 (U 1)),
 ad 2 18 (.ld1 (U 17)),
 ad 3 19 (.len (.ao 32) (U 18)),
 ad 4 20 (.bin .lss 3 (U 16) (U 19))])
 (.cond (U 20) .skip (.exit 0)))
 (.seq (.block 1 (.seq (.ak [ad 0 23 (.aO 0 (U 1)),
 ad 1 24 (.ld1 (U 23)),
 af 2 25 3,
 ad 3 26 (.bin .sub 3 (U 25) (.const (.int .i64 1))),
 ad 4 27 (.bm (.ao 32) (U 24) (U 26)),
 ad 5 28 (.aW 32 (U 27)),
 ad 6 29 (.aO 0 (U 1)),
 ad 7 30 (.ld1 (U 29)),
 af 8 31 3,
 ad 9 32 (.bm (.ao 32) (U 30) (U 31)),
 ad 10 33 (.aW 32 (U 32)),
 sc 11 34 121 [(U 28),(U 33)],
 ad 12 35 (.bin .geq 3 (U 34) (.const (.int .i64 0)))])
 (.cond (U 35) (.seq (.ak [ad 0 2 (.aq (.const (.int .i64 32)))])
 .ret) .skip)))
 (.ak [af 0 21 3,
 ad 1 22 (.bin .add 3 (U 21) (.const (.int .i64 1))),
 af 2 3 22])))
def XN:aS:=(.seq (.ak [ad 0 56 (.bin .lss 3 (U 55) (U 54))])
 (.seq (.cond (U 56) .skip (.exit 4))
 (.seq (.block 5 (.seq (.ak [ad 0 57 (.bm (.ao 32) (U 53) (U 55)),
 ad 1 58 (.aW 32 (U 57)),
 ad 2 10 (.alloc (rep 32 (.int .u8 0))),
 bG 3 (.st 32 (U 10) (U 58))])
 (.seq (.ak [ad 0 60 (.aW 2 (U 1)),
 ad 1 61 (.aW 32 (U 10)),
 sc 2 62 122 [(U 60),(U 61)],
 af 3 59 62,
 ad 4 63 (.ext (U 59) 0),
 ad 5 64 (.ext (U 59) 1),
 af 6 11 63,
 af 7 12 64])
 (.seq (.seq (.ak [af 0 65 12,
 ad 1 66 (.un .not (U 65))])
 (.cond (U 66) (.seq (.ak [ad 0 2 (.aq (.const (.int .i64 40)))])
 .ret) .skip))
 (.ak [af 0 67 5,
 af 1 68 11,
 af 2 69 5,
 af 3 70 11,
 ad 4 71 (.bm (.ao 1) (U 69) (U 70)),
 ad 5 72 (.ld1 (U 71)),
 af 6 73 7,
 ad 7 74 (.cQ 1 [.int .i64 0] 1 [(0,(U 73))]),
 ad 8 75 (.app 1 8 (U 72) (U 74)),
 ad 9 76 (.bm (.ao 1) (U 67) (U 68)),
 bG 10 (.st 1 (U 76) (U 75))])))))
 (.ak [ad 0 77 (.bin .add 3 (U 55) (.const (.int .i64 1))),
 af 1 55 77]))))
def XO:aS:=(.seq (.ak [ad 0 48 (.bin .lss 3 (U 47) (U 46))])
 (.seq (.cond (U 48) .skip (.exit 2))
 (.seq (.block 3 (.seq (.ak [af 0 49 47,
 ad 1 50 (.bm (.ao 11) (U 45) (U 47)),
 ad 2 51 (.aW 11 (U 50)),
 ad 3 8 (.alloc [.int .u32 0,.aX,.int .u64 0,.int .u8 0,.str [],.int .u8 0,.int .i64 0,.int .u64 0,.str [],.int .u32 0,.int .u32 0]),
 af 4 7 49,
 bG 5 (.st 11 (U 8) (U 51))])
 (.seq (.seq (.ak [ad 0 52 (.aO 1 (U 8)),
 ad 1 53 (.ld1 (U 52)),
 ad 2 54 (.len (.ao 32) (U 53)),
 ad 3 55 (.aq (.const (.int .i64 0)))])
 (.block 4 (.loop XN)))
 (.seq (.ak [af 0 78 4,
 af 1 79 7,
 ad 2 80 (.aO 1 (U 8)),
 ad 3 81 (.ld1 (U 80)),
 ad 4 82 (.len (.ao 32) (U 81)),
 ad 5 83 (.bm (.ao 1) (U 78) (U 79)),
 bG 6 (.st 1 (U 83) (U 82))])
 (.seq (.ak [af 0 84 4,
 af 1 85 7,
 ad 2 86 (.bm (.ao 1) (U 84) (U 85)),
 ad 3 87 (.ld1 (U 86)),
 ad 4 88 (.bin .eql 3 (U 87) (.const (.int .i64 0)))])
 (.cond (U 88) (.ak [af 0 89 6,
 af 1 90 7,
 ad 2 91 (.cQ 1 [.int .i64 0] 1 [(0,(U 90))]),
 ad 3 92 (.app 1 8 (U 89) (U 91)),
 af 4 6 92]) .skip))))))
 (.ak [ad 0 93 (.bin .add 3 (U 47) (.const (.int .i64 1))),
 af 1 47 93]))))
def XP:aS:=(.seq (.ak [ad 0 109 (.bin .lss 3 (U 108) (U 107))])
 (.seq (.cond (U 109) .skip (.exit 8))
 (.seq (.block 9 (.seq (.ak [ad 0 110 (.bm (.ao 1) (U 106) (U 108)),
 ad 1 111 (.ld1 (U 110)),
 af 2 15 111])
 (.seq (.ak [af 0 112 4,
 af 1 113 15,
 ad 2 114 (.bm (.ao 1) (U 112) (U 113)),
 ad 3 115 (.ld1 (U 114)),
 ad 4 116 (.bin .sub 3 (U 115) (.const (.int .i64 1))),
 ad 5 117 (.bm (.ao 1) (U 112) (U 113)),
 bG 6 (.st 1 (U 117) (U 116))])
 (.seq (.ak [af 0 118 4,
 af 1 119 15,
 ad 2 120 (.bm (.ao 1) (U 118) (U 119)),
 ad 3 121 (.ld1 (U 120)),
 ad 4 122 (.bin .eql 3 (U 121) (.const (.int .i64 0)))])
 (.cond (U 122) (.ak [af 0 123 6,
 af 1 124 15,
 ad 2 125 (.cQ 1 [.int .i64 0] 1 [(0,(U 124))]),
 ad 3 126 (.app 1 8 (U 123) (U 125)),
 af 4 6 126]) .skip)))))
 (.ak [ad 0 127 (.bin .add 3 (U 108) (.const (.int .i64 1))),
 af 1 108 127]))))
def XQ:aS:=(.seq (.seq (.ak [af 0 94 13,
 af 1 95 6,
 ad 2 96 (.len (.ao 1) (U 95)),
 ad 3 97 (.bin .lss 3 (U 94) (U 96))])
 (.cond (U 97) .skip (.exit 6)))
 (.seq (.block 7 (.seq (.ak [af 0 100 5,
 af 1 101 6,
 af 2 102 13,
 ad 3 103 (.bm (.ao 1) (U 101) (U 102)),
 ad 4 104 (.ld1 (U 103)),
 ad 5 105 (.bm (.ao 1) (U 100) (U 104)),
 ad 6 106 (.ld1 (U 105)),
 ad 7 107 (.len (.ao 1) (U 106)),
 ad 8 108 (.aq (.const (.int .i64 0)))])
 (.block 8 (.loop XP))))
 (.ak [af 0 98 13,
 ad 1 99 (.bin .add 3 (U 98) (.const (.int .i64 1))),
 af 2 13 99])))
def HS:aS:=(.seq (.ak [ad 0 1 (.box (U 0)),
 ad 1 2 (.aq (.const (.int .i64 0)))])
 (.seq (.seq (.ak [ad 0 3 (.aq (.const (.int .i64 1)))])
 (.block 0 (.loop XM)))
 (.seq (.ak [ad 0 36 (.aO 1 (U 1)),
 ad 1 37 (.ld1 (U 36)),
 ad 2 38 (.len (.ao 11) (U 37)),
 ad 3 39 (.lB 1 8 [.int .i64 0] (U 38) (U 38)),
 af 4 4 39])
 (.seq (.ak [ad 0 40 (.aO 1 (U 1)),
 ad 1 41 (.ld1 (U 40)),
 ad 2 42 (.len (.ao 11) (U 41)),
 ad 3 43 (.lB 1 24 [.aX] (U 42) (U 42)),
 af 4 5 43])
 (.seq (.ak [ad 0 6 (.aq (.const (.slice none 0 0)))])
 (.seq (.seq (.ak [ad 0 44 (.aO 1 (U 1)),
 ad 1 45 (.ld1 (U 44)),
 ad 2 46 (.len (.ao 11) (U 45)),
 ad 3 47 (.aq (.const (.int .i64 0)))])
 (.block 2 (.loop XO)))
 (.seq (.ak [ad 0 13 (.aq (.const (.int .i64 0)))])
 (.seq (.block 6 (.loop XQ))
 (.seq (.seq (.ak [af 0 128 13,
 ad 1 129 (.aO 1 (U 1)),
 ad 2 130 (.ld1 (U 129)),
 ad 3 131 (.len (.ao 11) (U 130)),
 ad 4 132 (.bin .lss 3 (U 128) (U 131))])
 (.cond (U 132) (.seq (.ak [ad 0 2 (.aq (.const (.int .i64 36)))])
 .ret) .skip))
 (.seq (.ak [ad 0 2 (.aq (.const (.int .i64 0)))])
 .ret))))))))))
def NR:List a6:=[.aq (U 2)]
theorem SB:bq Tryz.prog 86=some HS:=by kernel_rfl
theorem abv:br Tryz.prog 86=some NR:=by kernel_rfl
def HT:aS:=(.seq (.ak [ad 0 2 (.box (U 0)),
 ad 1 3 (.box (U 1)),
 ad 2 4 (.aq (.const (.int .i64 0))),
 ad 3 5 (.aq (.const (.int .i64 0)))])
 (.seq (.seq (.ak [ad 0 9 (.aW 2 (U 2)),
 sc 1 10 55 [(U 9)],
 af 2 6 10])
 (.seq (.ak [af 0 11 6,
 ad 1 12 (.bin .neq 38 (U 11) (.const (.int .i64 0)))])
 (.cond (U 12) (.seq (.ak [af 0 13 6,
 ad 1 4 (.aq (.const (.int .i64 0))),
 af 2 5 13])
 .ret) .skip)))
 (.seq (.ak [ad 0 15 (.aO 0 (U 2)),
 ad 1 16 (.ld1 (U 15)),
 ad 2 17 (.aW 32 (U 3)),
 sc 3 18 123 [(U 16),(U 17),(.func 121)],
 af 4 14 18,
 ad 5 19 (.ext (U 14) 0),
 ad 6 20 (.ext (U 14) 1),
 af 7 7 19,
 af 8 8 20])
 (.seq (.seq (.ak [af 0 21 8,
 ad 1 22 (.un .not (U 21))])
 (.cond (U 22) (.seq (.ak [ad 0 4 (.aq (.const (.int .i64 0))),
 ad 1 5 (.aq (.const (.int .i64 6)))])
 .ret) .skip))
 (.seq (.ak [af 0 23 7,
 af 1 4 23,
 ad 2 5 (.aq (.const (.int .i64 0)))])
 .ret)))))
def NS:List a6:=[.aq (U 4),.aq (U 5)]
theorem SC:bq Tryz.prog 87=some HT:=by kernel_rfl
theorem abw:br Tryz.prog 87=some NS:=by kernel_rfl
def XR:aS:=(.seq (.ak [ad 0 10 (.bin .lss 3 (U 9) (U 8))])
 (.seq (.cond (U 10) .skip (.exit 0))
 (.seq (.block 1 (.seq (.ak [af 0 11 9,
 af 1 6 11])
 (.seq (.ak [af 0 12 1,
 af 1 13 6,
 ad 2 14 (.bm (.ao 1) (U 12) (U 13)),
 ad 3 15 (.ld1 (U 14))])
 (.cond (U 15) (.ak [af 0 16 5,
 ad 1 17 (.aO 0 (U 2)),
 ad 2 18 (.ld1 (U 17)),
 af 3 19 6,
 ad 4 20 (.bm (.ao 32) (U 18) (U 19)),
 ad 5 21 (.aW 32 (U 20)),
 ad 6 22 (.cQ 32 (rep 32 (.int .u8 0)) 1 [(0,(U 21))]),
 ad 7 23 (.app 32 32 (U 16) (U 22)),
 af 8 5 23]) .skip))))
 (.ak [ad 0 24 (.bin .add 3 (U 9) (.const (.int .i64 1))),
 af 1 9 24]))))
def HU:aS:=(.seq (.ak [ad 0 2 (.box (U 0)),
 ad 1 4 (.aq (.const (.slice none 0 0)))])
 (.seq (.ak [ad 0 5 (.aq (.const (.slice none 0 0)))])
 (.seq (.seq (.ak [af 0 7 1,
 ad 1 8 (.len (.ao 1) (U 7)),
 ad 2 9 (.aq (.const (.int .i64 0)))])
 (.block 0 (.loop XR)))
 (.seq (.ak [af 0 25 5,
 af 1 4 25])
 .ret))))
def NT:List a6:=[.aq (U 4)]
theorem SD:bq Tryz.prog 88=some HU:=by kernel_rfl
theorem abx:br Tryz.prog 88=some NT:=by kernel_rfl
def XS:aS:=(.seq (.ak [ad 0 20 (.bin .lss 3 (U 19) (U 18))])
 (.seq (.cond (U 20) .skip (.exit 0))
 (.seq (.block 1 (.seq (.ak [ad 0 21 (.bm (.ao 32) (U 17) (U 19)),
 ad 1 22 (.aW 32 (U 21)),
 ad 2 9 (.alloc (rep 32 (.int .u8 0))),
 bG 3 (.st 32 (U 9) (U 22))])
 (.ak [ad 0 23 (.ld1 (U 7)),
 ad 1 24 (.aW 32 (U 9)),
 ⟨2,(some 25),none,.gW (U 23) [(U 24)],[],false⟩])))
 (.ak [ad 0 26 (.bin .add 3 (U 19) (.const (.int .i64 1))),
 af 1 19 26]))))
def HV:aS:=(.seq (.ak [ad 0 2 (.box (U 0)),
 ad 1 4 (.aq (.const (.slice none 0 0)))])
 (.seq (.ak [ad 0 10 (.aW 2 (U 2)),
 sc 1 11 124 [(U 10)],
 ad 2 5 (.alloc [.g6]),
 bG 3 (.st 1 (U 5) (U 11))])
 (.seq (.ak [ad 0 12 (.aO 0 (U 2)),
 ad 1 13 (.ld1 (U 12)),
 ad 2 14 (.len (.ao 32) (U 13)),
 ad 3 15 (.lB 1 1 [.bool false] (U 14) (U 14)),
 ad 4 6 (.alloc [.aX]),
 bG 5 (.st 1 (U 6) (U 15))])
 (.seq (.ak [ad 0 7 (.alloc [.ie])])
 (.seq (.ak [ad 0 16 (.pM 125 [] [(U 5),(U 6),(U 2),(U 7)]),
 bG 1 (.st 1 (U 7) (U 16))])
 (.seq (.seq (.ak [af 0 17 1,
 ad 1 18 (.len (.ao 32) (U 17)),
 ad 2 19 (.aq (.const (.int .i64 0)))])
 (.block 0 (.loop XS)))
 (.seq (.ak [ad 0 27 (.ld1 (U 6)),
 af 1 4 27])
 .ret)))))))
def NU:List a6:=[.aq (U 4)]
theorem SE:bq Tryz.prog 89=some HV:=by kernel_rfl
theorem aby:br Tryz.prog 89=some NU:=by kernel_rfl
def alA:aS:=(.block 1 (.seq (.ak [af 0 21 2,
 af 1 22 1,
 ad 2 23 (.bin .sub 3 (U 21) (U 22)),
 af 3 12 23])
 (.seq (.seq (.ak [af 0 24 12,
 ad 1 25 (.bin .leq 3 (U 24) (.const (.int .i64 12)))])
 (.cond (U 25) (.seq (.ak [af 0 26 0,
 af 1 27 1,
 af 2 28 2,
 af 3 29 4,
 sc 4 30 126 [(U 26),(U 27),(U 28),(U 29)]])
 .ret) .skip))
 (.seq (.seq (.ak [af 0 31 3,
 ad 1 32 (.bin .eql 3 (U 31) (.const (.int .i64 0)))])
 (.cond (U 32) (.seq (.ak [af 0 33 0,
 af 1 34 1,
 af 2 35 2,
 af 3 36 4,
 sc 4 37 127 [(U 33),(U 34),(U 35),(U 36)]])
 .ret) .skip))
 (.seq (.seq (.ak [af 0 38 10,
 ad 1 39 (.un .not (U 38))])
 (.cond (U 39) (.seq (.ak [af 0 40 0,
 af 1 41 1,
 af 2 42 2,
 af 3 43 4,
 sc 4 44 128 [(U 40),(U 41),(U 42),(U 43)]])
 (.ak [af 0 45 3,
 ad 1 46 (.bin .sub 3 (U 45) (.const (.int .i64 1))),
 af 2 3 46])) .skip))
 (.seq (.ak [af 0 48 0,
 af 1 49 1,
 af 2 50 2,
 af 3 51 4,
 sc 4 52 129 [(U 48),(U 49),(U 50),(U 51)],
 af 5 47 52,
 ad 6 53 (.ext (U 47) 0),
 ad 7 54 (.ext (U 47) 1),
 af 8 13 53,
 af 9 14 54])
 (.seq (.seq (.ak [af 0 55 14,
 ad 1 56 (.bin .eql 173 (U 55) (.const (.int .i64 2)))])
 (.cond (U 56) (.seq (.ak [af 0 57 0,
 af 1 58 1,
 af 2 59 2,
 af 3 60 4,
 sc 4 61 130 [(U 57),(U 58),(U 59),(U 60)]])
 (.seq (.ak [af 0 62 2,
 ad 1 63 (.bin .sub 3 (U 62) (.const (.int .i64 1))),
 af 2 64 13,
 af 3 65 1,
 ad 4 66 (.bin .sub 3 (U 64) (U 65)),
 ad 5 67 (.bin .sub 3 (U 63) (U 66)),
 af 6 13 67])
 (.ak [ad 0 14 (.aq (.const (.int .i64 1)))]))) .skip))
 (.seq (.seq (.ak [af 0 68 10,
 af 1 69 68,
 aF 2 70 69 true (.aq (U 11)),
 ad 3 71 (.pick (U 69) (U 70) (.const (.bool false))),
 af 4 72 71,
 aF 5 73 72 true (.aq (U 14)),
 aF 6 74 72 true (.bin .eql 173 (U 73) (.const (.int .i64 1))),
 ad 7 75 (.pick (U 72) (U 74) (.const (.bool false)))])
 (.cond (U 75) (.seq (.ak [af 0 76 0,
 af 1 77 1,
 af 2 78 2,
 af 3 79 4,
 sc 4 80 131 [(U 76),(U 77),(U 78),(U 79)]])
 (.cond (U 80) .ret .skip)) .skip))
 (.seq (.seq (.ak [af 0 81 1,
 ad 1 82 (.bin .gtr 3 (U 81) (.const (.int .i64 0))),
 af 2 83 82,
 aF 3 84 83 true (.aq (U 4)),
 aF 4 85 83 true (.aq (U 0)),
 aF 5 86 83 true (.aq (U 1)),
 aF 6 87 83 true (.bin .sub 3 (U 86) (.const (.int .i64 1))),
 aF 7 88 83 true (.bm (.ao 33) (U 85) (U 87)),
 aF 8 89 83 true (.aW 33 (U 88)),
 aF 9 90 83 true (.aq (U 0)),
 aF 10 91 83 true (.aq (U 13)),
 aF 11 92 83 true (.bm (.ao 33) (U 90) (U 91)),
 aF 12 93 83 true (.aW 33 (U 92)),
 ⟨13,(some 94),(some ((some 83),true)),.gW (U 84) [(U 89),(U 93)],[],false⟩,
 aF 14 95 83 true (.bin .lss 3 (U 94) (.const (.int .i64 0))),
 aF 15 96 83 true (.un .not (U 95)),
 ad 16 97 (.pick (U 83) (U 96) (.const (.bool false)))])
 (.cond (U 97) (.seq (.ak [af 0 98 0,
 af 1 99 1,
 af 2 100 2,
 af 3 101 13,
 af 4 102 4,
 sc 5 103 132 [(U 98),(U 99),(U 100),(U 101),(U 102)],
 af 6 15 103])
 (.seq (.ak [af 0 104 15,
 af 1 1 104])
 (.exit 1))) .skip))
 (.seq (.ak [af 0 106 0,
 af 1 107 1,
 af 2 108 2,
 af 3 109 13,
 af 4 110 4,
 sc 5 111 133 [(U 106),(U 107),(U 108),(U 109),(U 110)],
 af 6 105 111,
 ad 7 112 (.ext (U 105) 0),
 ad 8 113 (.ext (U 105) 1),
 af 9 16 112,
 af 10 17 113])
 (.seq (.ak [af 0 114 17,
 af 1 11 114])
 (.seq (.ak [af 0 115 16,
 af 1 116 1,
 ad 2 117 (.bin .sub 3 (U 115) (U 116)),
 af 3 118 2,
 af 4 119 16,
 ad 5 120 (.bin .sub 3 (U 118) (U 119)),
 af 6 18 117,
 af 7 19 120])
 (.seq (.ak [af 0 121 12,
 ad 1 122 (.bin .quo 3 (U 121) (.const (.int .i64 8))),
 af 2 20 122])
 (.seq (.ak [af 0 123 18,
 af 1 124 19,
 ad 2 125 (.bin .lss 3 (U 123) (U 124))])
 (.cond (U 125) (.seq (.ak [af 0 126 18,
 af 1 127 20,
 ad 2 128 (.bin .geq 3 (U 126) (U 127)),
 af 3 10 128])
 (.seq (.ak [af 0 129 0,
 af 1 130 1,
 af 2 131 16,
 af 3 132 3,
 af 4 133 4,
 sc 5 134 90 [(U 129),(U 130),(U 131),(U 132),(U 133)]])
 (.ak [af 0 135 16,
 ad 1 136 (.bin .add 3 (U 135) (.const (.int .i64 1))),
 af 2 1 136]))) (.seq (.ak [af 0 137 19,
 af 1 138 20,
 ad 2 139 (.bin .geq 3 (U 137) (U 138)),
 af 3 10 139])
 (.seq (.ak [af 0 140 0,
 af 1 141 16,
 ad 2 142 (.bin .add 3 (U 141) (.const (.int .i64 1))),
 af 3 143 2,
 af 4 144 3,
 af 5 145 4,
 sc 6 146 90 [(U 140),(U 142),(U 143),(U 144),(U 145)]])
 (.ak [af 0 147 16,
 af 1 2 147]))))))))))))))))))
def SF:aS:=(.seq (.ak [ad 0 10 (.aq (.const (.bool true)))])
 (.seq (.ak [ad 0 11 (.aq (.const (.bool true)))])
 (.block 0 (.loop alA))))
def abA:List a6:=[]
theorem afs:bq Tryz.prog 90=some SF:=by kernel_rfl
theorem anC:br Tryz.prog 90=some abA:=by kernel_rfl
def SG:aS:=(.seq (.ak [ad 0 2 (.aq (.const (.int .i64 0)))])
 (.seq (.cond (.const (.bool false)) (.seq (.ak [af 0 3 0,
 ad 1 4 (.cB .u32 (U 3)),
 sc 2 5 134 [(U 4)],
 af 3 2 5])
 .ret) .skip)
 (.seq (.ak [af 0 6 0,
 sc 1 7 135 [(U 6)],
 af 2 2 7])
 .ret)))
def abB:List a6:=[.aq (U 2)]
theorem aft:bq Tryz.prog 91=some SG:=by kernel_rfl
theorem anD:br Tryz.prog 91=some abB:=by kernel_rfl
def alB:aS:=(.seq (.seq (.ak [af 0 10 8,
 ad 1 11 (.aO 0 (U 3)),
 ad 2 12 (.ld1 (U 11)),
 ad 3 13 (.len (.ao 32) (U 12)),
 ad 4 14 (.bin .lss 3 (U 10) (U 13)),
 af 5 15 14,
 aF 6 16 15 true (.aO 0 (U 3)),
 aF 7 17 15 true (.ld1 (U 16)),
 aF 8 18 15 true (.aq (U 8)),
 aF 9 19 15 true (.bm (.ao 32) (U 17) (U 18)),
 aF 10 20 15 true (.aW 32 (U 19)),
 aF 11 21 15 true (.aW 32 (U 4)),
 ⟨12,(some 22),(some ((some 15),true)),.cR 84 [(U 20),(U 21)],[],false⟩,
 aF 13 23 15 true (.bin .lss 3 (U 22) (.const (.int .i64 0))),
 ad 14 24 (.pick (U 15) (U 23) (.const (.bool false)))])
 (.cond (U 24) .skip (.exit 0)))
 (.block 1 (.ak [af 0 25 8,
 ad 1 26 (.bin .add 3 (U 25) (.const (.int .i64 1))),
 af 2 8 26])))
def SH:aS:=(.seq (.ak [ad 0 3 (.box (U 0)),
 ad 1 4 (.box (U 1)),
 ad 2 5 (.box (U 2)),
 ad 3 6 (.alloc [.aX,.aX])])
 (.seq (.ak [ad 0 9 (.eh [.aX,.aX] []),
 ad 1 7 (.alloc [.aX,.aX]),
 bG 2 (.st 2 (U 7) (U 9))])
 (.seq (.ak [ad 0 8 (.aq (.const (.int .i64 0)))])
 (.seq (.block 0 (.loop alB))
 (.seq (.gJ [ad 0 27 (.cQ 32 (rep 32 (.int .u8 0)) 0 []),
 ad 1 28 (.aO 0 (U 3)),
 ad 2 29 (.ld1 (U 28)),
 af 3 30 8,
 ad 4 31 (.slice (.ao 32) (U 29) none (some (U 30)) none),
 ⟨6,(some 33),none,.cG (.aW 32 (U 4)),[],true⟩,
 ⟨7,(some 34),none,.cG (.cQ 32 (rep 32 (.int .u8 0)) 1 [(0,(U 33))]),[],true⟩,
 ad 9 36 (.aO 0 (U 3)),
 ⟨10,(some 37),none,.cG (.ld1 (U 36)),[],true⟩,
 af 11 38 8,
 ad 12 39 (.slice (.ao 32) (U 37) (some (U 38)) none none),
 ⟨5,(some 32),none,.cG (.app 32 32 (U 27) (U 31)),[10,7,6],false⟩,
 ⟨8,(some 35),none,.cG (.app 32 32 (U 32) (U 34)),[10],false⟩,
 ad 13 40 (.app 32 32 (U 35) (U 39)),
 ad 14 41 (.aO 0 (U 7)),
 bG 15 (.st 1 (U 41) (U 40))])
 (.seq (.gJ [ad 0 42 (.cQ 11 [.int .u32 0,.aX,.int .u64 0,.int .u8 0,.str [],.int .u8 0,.int .i64 0,.int .u64 0,.str [],.int .u32 0,.int .u32 0] 0 []),
 ad 1 43 (.aO 1 (U 3)),
 ad 2 44 (.ld1 (U 43)),
 af 3 45 8,
 ad 4 46 (.slice (.ao 11) (U 44) none (some (U 45)) none),
 ⟨6,(some 48),none,.cG (.aW 11 (U 5)),[],true⟩,
 ⟨7,(some 49),none,.cG (.cQ 11 [.int .u32 0,.aX,.int .u64 0,.int .u8 0,.str [],.int .u8 0,.int .i64 0,.int .u64 0,.str [],.int .u32 0,.int .u32 0] 1 [(0,(U 48))]),[],true⟩,
 ad 9 51 (.aO 1 (U 3)),
 ⟨10,(some 52),none,.cG (.ld1 (U 51)),[],true⟩,
 af 11 53 8,
 ad 12 54 (.slice (.ao 11) (U 52) (some (U 53)) none none),
 ⟨5,(some 47),none,.cG (.app 11 112 (U 42) (U 46)),[10,7,6],false⟩,
 ⟨8,(some 50),none,.cG (.app 11 112 (U 47) (U 49)),[10],false⟩,
 ad 13 55 (.app 11 112 (U 50) (U 54)),
 ad 14 56 (.aO 1 (U 7)),
 bG 15 (.st 1 (U 56) (U 55))])
 (.seq (.ak [ad 0 57 (.aW 2 (U 7)),
 sc 1 58 23 [(U 57)],
 bG 2 (.st 2 (U 6) (U 58))])
 .ret)))))))
def abC:List a6:=[.aW 2 (U 6)]
theorem afu:bq Tryz.prog 92=some SH:=by kernel_rfl
theorem anE:br Tryz.prog 92=some abC:=by kernel_rfl
def HW:aS:=(.seq (.ak [ad 0 1 (.box (U 0)),
 ad 1 2 (.aq (.const (.bool false)))])
 (.seq (.gJ [ad 0 3 (.aO 0 (U 1)),
 ⟨1,(some 4),none,.cG (.ld1 (U 3)),[],true⟩,
 ad 2 5 (.aW 11 (U 1)),
 ad 4 7 (.aO 9 (U 1)),
 ⟨5,(some 8),none,.cG (.aW 2 (U 7)),[],true⟩,
 ⟨3,(some 6),none,.cR 101 [(U 5)],[5,1],false⟩,
 sc 6 9 136 [(U 4),(U 6),(U 8)],
 af 7 2 9])
 .ret))
def NV:List a6:=[.aq (U 2)]
theorem SI:bq Tryz.prog 93=some HW:=by kernel_rfl
theorem abD:br Tryz.prog 93=some NV:=by kernel_rfl
def XT:aS:=(.seq (.seq (.ak [af 0 13 7,
 ad 1 14 (.aO 1 (U 1)),
 ad 2 15 (.ld1 (U 14)),
 ad 3 16 (.len (.ao 11) (U 15)),
 ad 4 17 (.bin .lss 3 (U 13) (U 16))])
 (.cond (U 17) .skip (.exit 2)))
 (.seq (.block 3 (.seq (.ak [af 0 20 5,
 af 1 21 7,
 ad 2 22 (.bm (.ao 1) (U 20) (U 21)),
 ad 3 23 (.ld1 (U 22)),
 ad 4 24 (.un .not (U 23)),
 af 5 25 24,
 aF 6 26 25 true (.aq (U 4)),
 aF 7 27 25 true (.aO 1 (U 1)),
 aF 8 28 25 true (.ld1 (U 27)),
 aF 9 29 25 true (.aq (U 7)),
 aF 10 30 25 true (.bm (.ao 11) (U 28) (U 29)),
 aF 11 31 25 true (.aO 1 (U 30)),
 aF 12 32 25 true (.ld1 (U 31)),
 ⟨13,(some 33),(some ((some 25),true)),.cR 69 [(U 26),(U 32)],[],false⟩,
 ad 14 34 (.pick (U 25) (U 33) (.const (.bool false)))])
 (.cond (U 34) (.seq (.gJ [af 0 35 5,
 af 1 36 7,
 af 2 37 3,
 af 3 38 7,
 ad 4 39 (.cQ 1 [.int .i64 0] 1 [(0,(U 38))]),
 af 6 41 4,
 ad 7 42 (.aO 0 (U 1)),
 ⟨8,(some 43),none,.cG (.ld1 (U 42)),[],true⟩,
 af 9 44 7,
 ad 10 45 (.bm (.ao 32) (U 43) (U 44)),
 ⟨11,(some 46),none,.cG (.aW 32 (U 45)),[],true⟩,
 ⟨12,(some 47),none,.cG (.cQ 32 (rep 32 (.int .u8 0)) 1 [(0,(U 46))]),[],true⟩,
 ⟨5,(some 40),none,.cG (.app 1 8 (U 37) (U 39)),[12,11,8],false⟩,
 ad 13 48 (.app 32 32 (U 41) (U 47)),
 af 14 3 40,
 af 15 4 48,
 ad 16 49 (.bm (.ao 1) (U 35) (U 36)),
 bG 17 (.st 1 (U 49) (.const (.bool true))),
 ad 18 6 (.aq (.const (.bool true)))])
 (.exit 2)) .skip)))
 (.ak [af 0 18 7,
 ad 1 19 (.bin .add 3 (U 18) (.const (.int .i64 1))),
 af 2 7 19])))
def KX:aS:=(.seq (.seq (.ak [af 0 12 6])
 (.cond (U 12) .skip (.exit 0)))
 (.block 1 (.seq (.ak [ad 0 6 (.aq (.const (.bool false)))])
 (.seq (.ak [ad 0 7 (.aq (.const (.int .i64 0)))])
 (.block 2 (.loop XT))))))
def HX:aS:=(.seq (.ak [ad 0 1 (.box (U 0)),
 ad 1 2 (.aq (.const (.slice none 0 0)))])
 (.seq (.ak [ad 0 3 (.aq (.const (.slice none 0 0)))])
 (.seq (.ak [ad 0 4 (.aq (.const (.slice none 0 0)))])
 (.seq (.ak [ad 0 8 (.aO 1 (U 1)),
 ad 1 9 (.ld1 (U 8)),
 ad 2 10 (.len (.ao 11) (U 9)),
 ad 3 11 (.lB 1 1 [.bool false] (U 10) (U 10)),
 af 4 5 11])
 (.seq (.seq (.ak [ad 0 6 (.aq (.const (.bool true)))])
 (.block 0 (.loop KX)))
 (.seq (.ak [af 0 50 3,
 af 1 2 50])
 .ret))))))
def NW:List a6:=[.aq (U 2)]
theorem SJ:bq Tryz.prog 94=some HX:=by kernel_rfl
theorem abE:br Tryz.prog 94=some NW:=by kernel_rfl
def XU:aS:=(.seq (.seq (.ak [af 0 8 1,
 ad 1 9 (.bin .gtr 27 (U 8) (.const (.int .u64 0)))])
 (.cond (U 9) .skip (.exit 0)))
 (.block 1 (.seq (.seq (.ak [af 0 10 1,
 ad 1 11 (.bin .rem 27 (U 10) (.const (.int .u64 2))),
 ad 2 12 (.bin .eql 27 (U 11) (.const (.int .u64 1)))])
 (.cond (U 12) (.ak [af 0 13 7,
 af 1 14 0,
 ad 2 15 (.bin .mul 27 (U 13) (U 14)),
 af 3 16 2,
 ad 4 17 (.bin .rem 27 (U 15) (U 16)),
 af 5 7 17]) .skip))
 (.seq (.ak [af 0 18 0,
 af 1 19 0,
 ad 2 20 (.bin .mul 27 (U 18) (U 19)),
 af 3 21 2,
 ad 4 22 (.bin .rem 27 (U 20) (U 21)),
 af 5 0 22])
 (.ak [af 0 23 1,
 ad 1 24 (.bin .quo 27 (U 23) (.const (.int .u64 2))),
 af 2 1 24])))))
def HY:aS:=(.seq (.ak [ad 0 6 (.aq (.const (.int .u64 0)))])
 (.seq (.ak [ad 0 7 (.aq (.const (.int .u64 1)))])
 (.seq (.block 0 (.loop XU))
 (.seq (.ak [af 0 25 7,
 af 1 6 25])
 .ret))))
def NY:List a6:=[.aq (U 6)]
theorem SK:bq Tryz.prog 95=some HY:=by kernel_rfl
theorem abF:br Tryz.prog 95=some NY:=by kernel_rfl
def HZ:aS:=(.seq (.ak [ad 0 1 (.box (U 0)),
 ad 1 2 (.aq (.const (.int .i64 0)))])
 (.seq (.seq (.ak [ad 0 3 (.aO 0 (U 1)),
 ad 1 4 (.ld1 (U 3))])
 (.block 0 (.seq (.ak [ad 0 6 (.bin .eql 5 (U 4) (.const (.int .u8 1))),
 af 1 5 6])
 (.cond (U 5) (.seq (.ak [ad 0 7 (.aO 2 (U 1)),
 ad 1 8 (.ld1 (U 7)),
 ad 2 9 (.bin .eql 27 (U 8) (.const (.int .u64 0))),
 af 3 10 9,
 aF 4 11 10 true (.aO 3 (U 1)),
 aF 5 12 10 true (.ld1 (U 11)),
 aF 6 13 10 true (.bin .eql 9 (U 12) (.const (.string ⟨#[]⟩))),
 ad 7 14 (.pick (U 10) (U 13) (.const (.bool false)))])
 (.cond (U 14) (.seq (.ak [ad 0 2 (.aq (.const (.int .i64 0)))])
 .ret) .skip)) (.seq (.ak [ad 0 16 (.bin .eql 5 (U 4) (.const (.int .u8 2))),
 af 1 15 16])
 (.cond (U 15) (.seq (.gJ [ad 0 17 (.aO 1 (U 1)),
 ad 1 18 (.ld1 (U 17)),
 ad 2 19 (.bin .eql 2 (U 18) (.const (.int .i64 0))),
 af 3 20 19,
 aF 4 21 20 true (.aO 3 (U 1)),
 aF 5 22 20 true (.ld1 (U 21)),
 aF 6 23 20 true (.bin .eql 9 (U 22) (.const (.string ⟨#[]⟩))),
 ad 7 24 (.pick (U 20) (U 23) (.const (.bool false))),
 af 8 25 24,
 aF 9 26 25 true (.aO 2 (U 1)),
 aF 10 27 25 true (.ld1 (U 26)),
 aF 12 29 25 true (.aO 2 (U 1)),
 ⟨13,(some 30),(some ((some 25),true)),.cG (.ld1 (U 29)),[],true⟩,
 ⟨11,(some 28),(some ((some 25),true)),.cR 137 [(U 27)],[13],false⟩,
 aF 14 31 25 true (.bin .eql 27 (U 28) (U 30)),
 ad 15 32 (.pick (U 25) (U 31) (.const (.bool false)))])
 (.cond (U 32) (.seq (.ak [ad 0 2 (.aq (.const (.int .i64 0)))])
 .ret) .skip)) (.seq (.ak [ad 0 34 (.bin .eql 5 (U 4) (.const (.int .u8 3))),
 af 1 33 34])
 (.cond (U 33) (.seq (.ak [ad 0 35 (.aO 1 (U 1)),
 ad 1 36 (.ld1 (U 35)),
 ad 2 37 (.bin .eql 2 (U 36) (.const (.int .i64 0))),
 af 3 38 37,
 aF 4 39 38 true (.aO 2 (U 1)),
 aF 5 40 38 true (.ld1 (U 39)),
 aF 6 41 38 true (.bin .eql 27 (U 40) (.const (.int .u64 0))),
 ad 7 42 (.pick (U 38) (U 41) (.const (.bool false))),
 af 8 43 42,
 aF 9 44 43 true (.aO 3 (U 1)),
 aF 10 45 43 true (.ld1 (U 44)),
 aF 11 46 43 true (.len .str (U 45)),
 aF 12 47 43 true (.bin .leq 3 (U 46) (.const (.int .i64 30))),
 ad 13 48 (.pick (U 43) (U 47) (.const (.bool false))),
 af 14 49 48,
 aF 15 50 49 true (.aO 3 (U 1)),
 aF 16 51 49 true (.ld1 (U 50)),
 ⟨17,(some 52),(some ((some 49),true)),.cR 138 [(U 51)],[],false⟩,
 ad 18 53 (.pick (U 49) (U 52) (.const (.bool false)))])
 (.cond (U 53) (.seq (.ak [ad 0 2 (.aq (.const (.int .i64 0)))])
 .ret) .skip)) .skip))))))))
 (.seq (.ak [ad 0 2 (.aq (.const (.int .i64 8)))])
 .ret)))
def NZ:List a6:=[.aq (U 2)]
theorem SL:bq Tryz.prog 96=some HZ:=by kernel_rfl
theorem abG:br Tryz.prog 96=some NZ:=by kernel_rfl
def XV:aS:=(.seq (.seq (.ak [af 0 5 4,
 ad 1 6 (.bin .lss 3 (U 5) (.const (.int .i64 32)))])
 (.cond (U 6) .skip (.exit 0)))
 (.seq (.block 1 (.ak [af 0 9 4,
 af 1 10 4,
 ad 2 11 (.bin .quo 3 (U 10) (.const (.int .i64 4))),
 ad 3 12 (.bm (.arr 8 1) (U 1) (U 11)),
 ad 4 13 (.ld1 (U 12)),
 af 5 14 4,
 ad 6 15 (.bin .rem 3 (U 14) (.const (.int .i64 4))),
 ad 7 16 (.bin .mul 3 (.const (.int .i64 8)) (U 15)),
 ad 8 17 (.bin .sub 3 (.const (.int .i64 24)) (U 16)),
 ad 9 18 (.bin .shr 25 (U 13) (U 17)),
 ad 10 19 (.cB .u8 (U 18)),
 ad 11 20 (.bm (.arr 32 1) (U 3) (U 9)),
 bG 12 (.st 1 (U 20) (U 19))]))
 (.ak [af 0 7 4,
 ad 1 8 (.bin .add 3 (U 7) (.const (.int .i64 1))),
 af 2 4 8])))
def H0:aS:=(.seq (.ak [ad 0 1 (.box (U 0)),
 ad 1 2 (.alloc (rep 32 (.int .u8 0)))])
 (.seq (.ak [ad 0 3 (.alloc (rep 32 (.int .u8 0)))])
 (.seq (.seq (.ak [ad 0 4 (.aq (.const (.int .i64 0)))])
 (.block 0 (.loop XV)))
 (.seq (.ak [ad 0 21 (.aW 32 (U 3)),
 bG 1 (.st 32 (U 2) (U 21))])
 .ret))))
def N0:List a6:=[.aW 32 (U 2)]
theorem SM:bq Tryz.prog 97=some H0:=by kernel_rfl
theorem abH:br Tryz.prog 97=some N0:=by kernel_rfl
def XW:aS:=(.seq (.seq (.ak [af 0 6 5,
 ad 1 7 (.bin .add 3 (U 6) (.const (.int .i64 64))),
 af 2 8 1,
 ad 3 9 (.len (.ao 1) (U 8)),
 ad 4 10 (.bin .leq 3 (U 7) (U 9))])
 (.cond (U 10) .skip (.exit 0)))
 (.seq (.block 1 (.ak [ad 0 13 (.aW 8 (U 2)),
 af 1 14 1,
 af 2 15 5,
 af 3 16 5,
 ad 4 17 (.bin .add 3 (U 16) (.const (.int .i64 64))),
 ad 5 18 (.slice (.ao 1) (U 14) (some (U 15)) (some (U 17)) none),
 sc 6 19 139 [(U 13),(U 18)],
 bG 7 (.st 8 (U 2) (U 19))]))
 (.ak [af 0 11 5,
 ad 1 12 (.bin .add 3 (U 11) (.const (.int .i64 64))),
 af 2 5 12])))
def H1:aS:=(.seq (.ak [ad 0 2 (.box (U 0)),
 ad 1 4 (.alloc [.int .u32 0,.int .u32 0,.int .u32 0,.int .u32 0,.int .u32 0,.int .u32 0,.int .u32 0,.int .u32 0])])
 (.seq (.seq (.ak [ad 0 5 (.aq (.const (.int .i64 0)))])
 (.block 0 (.loop XW)))
 (.seq (.ak [ad 0 20 (.aW 8 (U 2)),
 bG 1 (.st 8 (U 4) (U 20))])
 .ret)))
def N1:List a6:=[.aW 8 (U 4)]
theorem SN:bq Tryz.prog 98=some H1:=by kernel_rfl
theorem abI:br Tryz.prog 98=some N1:=by kernel_rfl
def H2:aS:=(.seq (.ak [ad 0 0 (.alloc [.int .u32 0,.int .u32 0,.int .u32 0,.int .u32 0,.int .u32 0,.int .u32 0,.int .u32 0,.int .u32 0])])
 (.seq (.ak [ad 0 1 (.eh [.int .u32 0,.int .u32 0,.int .u32 0,.int .u32 0,.int .u32 0,.int .u32 0,.int .u32 0,.int .u32 0] [(0,1,(.const (.int .u32 1779033703))),(1,1,(.const (.int .u32 3144134277))),(2,1,(.const (.int .u32 1013904242))),(3,1,(.const (.int .u32 2773480762))),(4,1,(.const (.int .u32 1359893119))),(5,1,(.const (.int .u32 2600822924))),(6,1,(.const (.int .u32 528734635))),(7,1,(.const (.int .u32 1541459225)))]),
 bG 1 (.st 8 (U 0) (U 1))])
 .ret))
def N2:List a6:=[.aW 8 (U 0)]
theorem SO:bq Tryz.prog 99=some H2:=by kernel_rfl
theorem abJ:br Tryz.prog 99=some N2:=by kernel_rfl
def WK:aS:=(.seq (.seq (.ak [af 0 6 0,
 af 1 7 3,
 ad 2 8 (.len (.ao 1) (U 7)),
 ad 3 9 (.bin .add 3 (U 6) (U 8)),
 ad 4 10 (.bin .add 3 (U 9) (.const (.int .i64 8))),
 ad 5 11 (.bin .rem 3 (U 10) (.const (.int .i64 64))),
 ad 6 12 (.bin .neq 3 (U 11) (.const (.int .i64 0)))])
 (.cond (U 12) .skip (.exit 0)))
 (.block 1 (.ak [af 0 13 3,
 ad 1 14 (.cQ 1 [.int .u8 0] 1 [(0,(.const (.int .u8 0)))]),
 ad 2 15 (.app 1 1 (U 13) (U 14)),
 af 3 3 15])))
def WL:aS:=(.seq (.seq (.ak [af 0 16 4,
 ad 1 17 (.bin .geq 3 (U 16) (.const (.int .i64 0)))])
 (.cond (U 17) .skip (.exit 2)))
 (.seq (.block 3 (.ak [af 0 20 3,
 af 1 21 0,
 ad 2 22 (.cB .u64 (U 21)),
 ad 3 23 (.bin .mul 27 (.const (.int .u64 8)) (U 22)),
 af 4 24 4,
 ad 5 25 (.bin .mul 3 (.const (.int .i64 8)) (U 24)),
 ad 6 26 (.bin .shr 27 (U 23) (U 25)),
 ad 7 27 (.cB .u8 (U 26)),
 ad 8 28 (.cQ 1 [.int .u8 0] 1 [(0,(U 27))]),
 ad 9 29 (.app 1 1 (U 20) (U 28)),
 af 10 3 29]))
 (.ak [af 0 18 4,
 ad 1 19 (.bin .sub 3 (U 18) (.const (.int .i64 1))),
 af 2 4 19])))
def FF:aS:=(.seq (.ak [ad 0 2 (.aq (.const (.slice none 0 0)))])
 (.seq (.ak [ad 0 5 (.cQ 1 [.int .u8 0] 1 [(0,(.const (.int .u8 128)))]),
 af 1 3 5])
 (.seq (.block 0 (.loop WK))
 (.seq (.seq (.ak [ad 0 4 (.aq (.const (.int .i64 7)))])
 (.block 2 (.loop WL)))
 (.seq (.ak [af 0 30 3,
 af 1 2 30])
 .ret)))))
def LN:List a6:=[.aq (U 2)]
theorem Qc:bq Tryz.prog 100=some FF:=by kernel_rfl
theorem Y4:br Tryz.prog 100=some LN:=by kernel_rfl
def FG:aS:=(.seq (.ak [ad 0 1 (.box (U 0)),
 ad 1 2 (.aq (.const (.slice none 0 0)))])
 (.seq (.ak [ad 0 4 (.cQ 1 [.int .u8 0] 1 [(0,(.const (.int .u8 111)))]),
 ad 1 5 (.aO 0 (U 1)),
 ad 2 6 (.ld1 (U 5)),
 ad 3 7 (.cB .u64 (U 6)),
 sc 4 8 102 [(U 7)],
 ad 5 9 (.app 1 1 (U 4) (U 8)),
 af 6 3 9])
 (.seq (.gJ [af 0 10 3,
 ad 1 11 (.aO 1 (U 1)),
 ad 2 12 (.ld1 (U 11)),
 ad 5 15 (.aO 2 (U 1)),
 ⟨6,(some 16),none,.cG (.ld1 (U 15)),[],true⟩,
 ⟨3,(some 13),none,.cR 140 [(U 12)],[6],false⟩,
 ⟨4,(some 14),none,.cG (.app 1 1 (U 10) (U 13)),[6],false⟩,
 sc 7 17 102 [(U 16)],
 ad 8 18 (.app 1 1 (U 14) (U 17)),
 af 9 3 18])
 (.seq (.ak [af 0 19 3,
 ad 1 20 (.aO 3 (U 1)),
 ad 2 21 (.aO 0 (U 20)),
 ad 3 22 (.ld1 (U 21)),
 ad 4 23 (.cQ 1 [.int .u8 0] 1 [(0,(U 22))]),
 ad 5 24 (.app 1 1 (U 19) (U 23)),
 af 6 3 24])
 (.seq (.seq (.ak [ad 0 25 (.aO 3 (U 1)),
 ad 1 26 (.aO 0 (U 25)),
 ad 2 27 (.ld1 (U 26)),
 ad 3 28 (.bin .neq 5 (U 27) (.const (.int .u8 1)))])
 (.cond (U 28) (.ak [af 0 29 3,
 ad 1 30 (.aO 3 (U 1)),
 ad 2 31 (.aO 1 (U 30)),
 ad 3 32 (.ld1 (U 31)),
 ad 4 33 (.qp (U 32)),
 sc 5 34 141 [(U 33)],
 ad 6 35 (.app 1 1 (U 29) (U 34)),
 af 7 3 35]) .skip))
 (.seq (.seq (.ak [ad 0 36 (.aO 3 (U 1)),
 ad 1 37 (.aO 0 (U 36)),
 ad 2 38 (.ld1 (U 37)),
 ad 3 39 (.bin .eql 5 (U 38) (.const (.int .u8 4)))])
 (.cond (U 39) (.ak [af 0 40 3,
 ad 1 41 (.aO 3 (U 1)),
 ad 2 42 (.aO 2 (U 41)),
 ad 3 43 (.aW 4 (U 42)),
 sc 4 44 142 [(U 43)],
 ad 5 45 (.app 1 1 (U 40) (U 44)),
 af 6 3 45]) .skip))
 (.seq (.ak [af 0 46 3,
 af 1 2 46])
 .ret)))))))
def LO:List a6:=[.aq (U 2)]
theorem Qd:bq Tryz.prog 101=some FG:=by kernel_rfl
theorem Y5:br Tryz.prog 101=some LO:=by kernel_rfl
def WM:aS:=(.seq (.seq (.ak [af 0 11 0,
 ad 1 12 (.bin .gtr 27 (U 11) (.const (.int .u64 0)))])
 (.cond (U 12) .skip (.exit 0)))
 (.block 1 (.seq (.ak [af 0 13 3,
 af 1 14 0,
 ad 2 15 (.bin .rem 27 (U 14) (.const (.int .u64 256))),
 ad 3 16 (.cB .u8 (U 15)),
 ad 4 17 (.cQ 1 [.int .u8 0] 1 [(0,(U 16))]),
 ad 5 18 (.app 1 1 (U 13) (U 17)),
 af 6 3 18])
 (.ak [af 0 19 0,
 ad 1 20 (.bin .quo 27 (U 19) (.const (.int .u64 256))),
 af 2 0 20]))))
def WN:aS:=(.seq (.seq (.ak [af 0 29 5,
 ad 1 30 (.bin .geq 3 (U 29) (.const (.int .i64 0)))])
 (.cond (U 30) .skip (.exit 2)))
 (.seq (.block 3 (.ak [af 0 33 4,
 af 1 34 3,
 af 2 35 5,
 ad 3 36 (.bm (.ao 1) (U 34) (U 35)),
 ad 4 37 (.ld1 (U 36)),
 ad 5 38 (.cQ 1 [.int .u8 0] 1 [(0,(U 37))]),
 ad 6 39 (.app 1 1 (U 33) (U 38)),
 af 7 4 39]))
 (.ak [af 0 31 5,
 ad 1 32 (.bin .sub 3 (U 31) (.const (.int .i64 1))),
 af 2 5 32])))
def FH:aS:=(.seq (.ak [ad 0 2 (.aq (.const (.slice none 0 0)))])
 (.seq (.seq (.ak [af 0 6 0,
 ad 1 7 (.bin .leq 27 (U 6) (.const (.int .u64 247)))])
 (.cond (U 7) (.seq (.ak [af 0 8 0,
 ad 1 9 (.cB .u8 (U 8)),
 ad 2 10 (.cQ 1 [.int .u8 0] 1 [(0,(U 9))]),
 af 3 2 10])
 .ret) .skip))
 (.seq (.ak [ad 0 3 (.aq (.const (.slice none 0 0)))])
 (.seq (.block 0 (.loop WM))
 (.seq (.ak [af 0 21 3,
 ad 1 22 (.len (.ao 1) (U 21)),
 ad 2 23 (.bin .add 3 (.const (.int .i64 247)) (U 22)),
 ad 3 24 (.cB .u8 (U 23)),
 ad 4 25 (.cQ 1 [.int .u8 0] 1 [(0,(U 24))]),
 af 5 4 25])
 (.seq (.seq (.ak [af 0 26 3,
 ad 1 27 (.len (.ao 1) (U 26)),
 ad 2 28 (.bin .sub 3 (U 27) (.const (.int .i64 1))),
 af 3 5 28])
 (.block 2 (.loop WN)))
 (.seq (.ak [af 0 40 4,
 af 1 2 40])
 .ret)))))))
def LP:List a6:=[.aq (U 2)]
theorem Qe:bq Tryz.prog 102=some FH:=by kernel_rfl
theorem Y6:br Tryz.prog 102=some LP:=by kernel_rfl
def Qf:aS:=(.seq (.ak [ad 0 2 (.aq (.const (.int .i64 0)))])
 (.seq (.seq (.ak [af 0 3 0,
 ad 1 4 (.bin .eql 25 (U 3) (.const (.int .u32 0))),
 af 2 5 4,
 aF 3 6 5 false (.aq (U 0)),
 aF 4 7 5 false (.cB .u64 (U 6)),
 aF 5 8 5 false (.bin .geq 27 (U 7) (.const (.int .u64 500000003))),
 ad 6 9 (.pick (U 5) (.const (.bool true)) (U 8))])
 (.cond (U 9) (.seq (.ak [ad 0 2 (.aq (.const (.int .i64 2)))])
 .ret) .skip))
 (.seq (.ak [ad 0 2 (.aq (.const (.int .i64 0)))])
 .ret)))
def Y7:List a6:=[.aq (U 2)]
theorem ae2:bq Tryz.prog 103=some Qf:=by kernel_rfl
theorem anb:br Tryz.prog 103=some Y7:=by kernel_rfl
def Qg:aS:=(.seq (.ak [ad 0 1 (.box (U 0)),
 ad 1 2 (.alloc [.int .u32 0,.aX,.int .u64 0,.int .u8 0,.str [],.int .u8 0,.int .i64 0,.int .u64 0,.str [],.int .u32 0,.int .u32 0])])
 (.seq (.ak [ad 0 3 (.eh [.int .u32 0,.int .u32 0] []),
 ad 1 4 (.aO 9 (U 1)),
 bG 2 (.st 2 (U 4) (U 3))])
 (.seq (.ak [ad 0 5 (.aW 11 (U 1)),
 bG 1 (.st 11 (U 2) (U 5))])
 .ret)))
def Y8:List a6:=[.aW 11 (U 2)]
theorem ae3:bq Tryz.prog 104=some Qg:=by kernel_rfl
theorem anc:br Tryz.prog 104=some Y8:=by kernel_rfl
def FI:aS:=(.seq (.ak [ad 0 2 (.aq (.const (.int .u32 0)))])
 (.seq (.ak [af 0 3 0,
 ad 1 4 (.cB .u64 (U 3)),
 sc 2 5 143 [(U 4)],
 af 3 2 5])
 .ret))
def LQ:List a6:=[.aq (U 2)]
theorem Qh:bq Tryz.prog 105=some FI:=by kernel_rfl
theorem Y9:br Tryz.prog 105=some LQ:=by kernel_rfl
def Qi:aS:=(.seq (.ak [ad 0 4 (.alloc [.int .u32 0,.int .u32 0])])
 (.seq (.ak [af 0 7 0,
 af 1 8 1,
 sc 2 9 144 [(U 7),(U 8)],
 af 3 5 9])
 (.seq (.ak [af 0 10 5,
 sc 1 11 105 [(U 10)],
 af 2 12 0,
 sc 3 13 105 [(U 12)],
 af 4 14 1,
 sc 5 15 145 [(U 11),(U 13),(U 14)],
 af 6 6 15])
 (.seq (.ak [af 0 16 6,
 af 1 17 5,
 af 2 18 6,
 af 3 19 0,
 sc 4 20 147 [(U 18),(U 19)],
 sc 5 21 146 [(U 17),(U 20)],
 ad 6 22 (.eh [.int .u32 0,.int .u32 0] [(0,1,(U 16)),(1,1,(U 21))]),
 bG 7 (.st 2 (U 4) (U 22))])
 .ret))))
def Za:List a6:=[.aW 2 (U 4)]
theorem ae4:bq Tryz.prog 106=some Qi:=by kernel_rfl
theorem ane:br Tryz.prog 106=some Za:=by kernel_rfl
def FJ:aS:=(.seq (.ak [ad 0 1 (.box (U 0)),
 ad 1 2 (.aq (.const (.int .i64 0)))])
 (.seq (.block 0 (.seq (.ak [ad 0 4 (.aO 1 (U 1)),
 ad 1 5 (.ld1 (U 4)),
 ad 2 6 (.len (.ao 32) (U 5)),
 ad 3 7 (.bin .gtr 3 (U 6) (.const (.int .i64 4))),
 af 4 3 7])
 (.cond (U 3) (.seq (.ak [ad 0 2 (.aq (.const (.int .i64 4)))])
 .ret) (.seq (.gJ [ad 0 9 (.aO 1 (U 1)),
 ad 1 10 (.ld1 (U 9)),
 sc 2 11 148 [(U 10),(.func 121)],
 ad 3 12 (.un .not (U 11)),
 af 4 13 12,
 aF 5 14 13 false (.aO 1 (U 1)),
 aF 6 15 13 false (.ld1 (U 14)),
 aF 10 19 13 false (.aO 1 (U 1)),
 ⟨11,(some 20),(some ((some 13),false)),.cG (.ld1 (U 19)),[],true⟩,
 aF 12 21 13 false (.len (.ao 32) (U 20)),
 ⟨7,(some 16),(some ((some 13),false)),.cR 150 [(U 15)],[11],false⟩,
 ⟨8,(some 17),(some ((some 13),false)),.cR 149 [(U 16)],[11],false⟩,
 aF 9 18 13 false (.len (.ao 32) (U 17)),
 aF 13 22 13 false (.bin .neq 3 (U 18) (U 21)),
 ad 14 23 (.pick (U 13) (.const (.bool true)) (U 22)),
 af 15 8 23])
 (.cond (U 8) (.seq (.ak [ad 0 2 (.aq (.const (.int .i64 32)))])
 .ret) (.seq (.ak [ad 0 25 (.aO 0 (U 1)),
 ad 1 26 (.ld1 (U 25)),
 sc 2 27 151 [(U 26)],
 ad 3 28 (.un .not (U 27)),
 af 4 29 28,
 aF 5 30 29 false (.aO 2 (U 1)),
 aF 6 31 29 false (.ld1 (U 30)),
 aF 7 32 29 false (.bin .gtr 27 (U 31) (.const (.int .u64 1000000000000))),
 ad 8 33 (.pick (U 29) (.const (.bool true)) (U 32)),
 af 9 34 33,
 aF 10 35 34 false (.aO 9 (U 1)),
 aF 11 36 34 false (.aO 0 (U 35)),
 aF 12 37 34 false (.ld1 (U 36)),
 aF 13 38 34 false (.aO 9 (U 1)),
 aF 14 39 34 false (.aO 1 (U 38)),
 aF 15 40 34 false (.ld1 (U 39)),
 aF 16 41 34 false (.max (U 37) (U 40)),
 aF 17 42 34 false (.bin .geq 25 (U 41) (.const (.int .u32 500000003))),
 ad 18 43 (.pick (U 34) (.const (.bool true)) (U 42)),
 af 19 24 43])
 (.cond (U 24) (.seq (.ak [ad 0 2 (.aq (.const (.int .i64 8)))])
 .ret) .skip)))))))
 (.seq (.ak [ad 0 44 (.aO 3 (U 1)),
 ad 1 45 (.aW 6 (U 44)),
 sc 2 46 50 [(U 45)],
 af 3 2 46])
 .ret)))
def LR:List a6:=[.aq (U 2)]
theorem Qj:bq Tryz.prog 107=some FJ:=by kernel_rfl
theorem Zb:br Tryz.prog 107=some LR:=by kernel_rfl
def FK:aS:=(.seq (.ak [ad 0 1 (.box (U 0)),
 ad 1 2 (.aq (.const (.slice none 0 0))),
 ad 2 3 (.aq (.const (.int .i64 0)))])
 (.seq (.ak [ad 0 12 (.eh [.int .u32 0,.int .u32 0] []),
 ad 1 13 (.aO 9 (U 1)),
 bG 2 (.st 2 (U 13) (U 12))])
 (.seq (.seq (.ak [ad 0 14 (.aW 11 (U 1)),
 sc 1 15 107 [(U 14)],
 af 2 4 15])
 (.seq (.ak [af 0 16 4,
 ad 1 17 (.bin .neq 38 (U 16) (.const (.int .i64 0)))])
 (.cond (U 17) (.seq (.ak [af 0 18 4,
 ad 1 2 (.aq (.const (.slice none 0 0))),
 af 2 3 18])
 .ret) .skip)))
 (.seq (.ak [ad 0 20 (.aO 1 (U 1)),
 ad 1 21 (.ld1 (U 20)),
 sc 2 22 152 [(U 21)],
 af 3 19 22,
 ad 4 23 (.ext (U 19) 0),
 ad 5 24 (.ext (U 19) 1),
 af 6 5 23,
 af 7 6 24])
 (.seq (.gJ [⟨0,(some 25),none,.cG (.cQ 1 [.int .u8 0] 1 [(0,(.const (.int .u8 111)))]),[],true⟩,
 ad 1 26 (.aO 0 (U 1)),
 ad 2 27 (.ld1 (U 26)),
 ad 3 28 (.cB .u64 (U 27)),
 af 5 30 5,
 ad 6 31 (.aO 2 (U 1)),
 ⟨7,(some 32),none,.cG (.ld1 (U 31)),[],true⟩,
 ad 9 34 (.aO 3 (U 1)),
 ad 10 35 (.aO 0 (U 34)),
 ⟨11,(some 36),none,.cG (.ld1 (U 35)),[],true⟩,
 ⟨12,(some 37),none,.cG (.cQ 1 [.int .u8 0] 1 [(0,(U 36))]),[],true⟩,
 ⟨4,(some 29),none,.cR 110 [(U 28)],[12,11,7,0],false⟩,
 ⟨8,(some 33),none,.cR 110 [(U 32)],[12,11,0],false⟩,
 ad 13 38 (.cQ 1 [.aX] 5 [(0,(U 25)),(1,(U 29)),(2,(U 30)),(3,(U 33)),(4,(U 37))]),
 sc 14 39 109 [(U 38)],
 af 15 7 39])
 (.seq (.seq (.ak [ad 0 40 (.aO 3 (U 1)),
 ad 1 41 (.aO 0 (U 40)),
 ad 2 42 (.ld1 (U 41)),
 ad 3 43 (.bin .eql 5 (U 42) (.const (.int .u8 1)))])
 (.cond (U 43) (.seq (.ak [af 0 44 7,
 af 1 2 44,
 ad 2 3 (.aq (.const (.int .i64 0)))])
 .ret) .skip))
 (.seq (.ak [ad 0 46 (.aO 3 (U 1)),
 ad 1 47 (.aO 1 (U 46)),
 ad 2 48 (.ld1 (U 47)),
 ad 3 49 (.qp (U 48)),
 sc 4 50 153 [(U 49)],
 af 5 45 50,
 ad 6 51 (.ext (U 45) 0),
 ad 7 52 (.ext (U 45) 1),
 af 8 8 51,
 af 9 9 52])
 (.seq (.ak [af 0 53 7,
 af 1 54 8,
 ad 2 55 (.app 1 1 (U 53) (U 54)),
 af 3 7 55])
 (.seq (.seq (.ak [ad 0 56 (.aO 3 (U 1)),
 ad 1 57 (.aO 0 (U 56)),
 ad 2 58 (.ld1 (U 57)),
 ad 3 59 (.bin .eql 5 (U 58) (.const (.int .u8 4)))])
 (.cond (U 59) (.seq (.ak [ad 0 61 (.aO 3 (U 1)),
 ad 1 62 (.aO 2 (U 61)),
 ad 2 63 (.aW 4 (U 62)),
 sc 3 64 154 [(U 63)],
 af 4 60 64,
 ad 5 65 (.ext (U 60) 0),
 ad 6 66 (.ext (U 60) 1),
 af 7 10 65,
 af 8 11 66])
 (.ak [af 0 67 7,
 af 1 68 10,
 ad 2 69 (.app 1 1 (U 67) (U 68)),
 af 3 7 69])) .skip))
 (.seq (.ak [af 0 70 7,
 af 1 2 70,
 ad 2 3 (.aq (.const (.int .i64 0)))])
 .ret))))))))))
def LS:List a6:=[.aq (U 2),.aq (U 3)]
theorem Qk:bq Tryz.prog 108=some FK:=by kernel_rfl
theorem Zc:br Tryz.prog 108=some LS:=by kernel_rfl
def KT:aS:=(.seq (.ak [ad 0 12 (.bin .lss 3 (U 11) (U 10))])
 (.seq (.cond (U 12) .skip (.exit 0))
 (.seq (.block 1 (.seq (.ak [ad 0 13 (.bm (.ao 1) (U 9) (U 11)),
 ad 1 14 (.ld1 (U 13)),
 af 2 5 14])
 (.seq (.ak [af 0 15 3,
 af 1 16 5,
 ad 2 17 (.len (.ao 1) (U 16)),
 ad 3 18 (.bin .add 3 (U 15) (U 17)),
 af 4 3 18])
 (.seq (.ak [af 0 19 3,
 ad 1 20 (.bin .lss 3 (U 19) (.const (.int .i64 0)))])
 (.cond (U 20) (.ak [ad 0 21 (.sK 9 (.const (.string ⟨#[108,101,110,32,111,117,116,32,111,102,32,114,97,110,103,101]⟩))),
 bG 1 (.stop)]) .skip)))))
 (.ak [ad 0 22 (.bin .add 3 (U 11) (.const (.int .i64 1))),
 af 1 11 22]))))
def KU:aS:=(.seq (.ak [ad 0 28 (.bin .lss 3 (U 27) (U 26))])
 (.seq (.cond (U 28) .skip (.exit 2))
 (.seq (.block 3 (.seq (.ak [ad 0 29 (.bm (.ao 1) (U 25) (U 27)),
 ad 1 30 (.ld1 (U 29)),
 af 2 8 30])
 (.ak [af 0 31 6,
 af 1 32 8,
 ad 2 33 (.app 1 1 (U 31) (U 32)),
 af 3 6 33])))
 (.ak [ad 0 34 (.bin .add 3 (U 27) (.const (.int .i64 1))),
 af 1 27 34]))))
def B2:aS:=(.seq (.ak [ad 0 2 (.aq (.const (.slice none 0 0)))])
 (.seq (.ak [ad 0 3 (.aq (.const (.int .i64 0)))])
 (.seq (.seq (.ak [af 0 9 0,
 ad 1 10 (.len (.ao 1) (U 9)),
 ad 2 11 (.aq (.const (.int .i64 0)))])
 (.block 0 (.loop KT)))
 (.seq (.ak [af 0 23 3,
 sc 1 24 155 [(.const (.slice none 0 0)),(U 23)],
 af 2 6 24])
 (.seq (.seq (.ak [af 0 25 0,
 ad 1 26 (.len (.ao 1) (U 25)),
 ad 2 27 (.aq (.const (.int .i64 0)))])
 (.block 2 (.loop KU)))
 (.seq (.ak [af 0 35 6,
 af 1 2 35])
 .ret))))))
def Ei:List a6:=[.aq (U 2)]
theorem FL:bq Tryz.prog 109=some B2:=by kernel_rfl
theorem LU:br Tryz.prog 109=some Ei:=by kernel_rfl
def WO:aS:=(.seq (.ak [ad 0 25 (.bin .lss 3 (U 24) (U 23))])
 (.seq (.cond (U 25) .skip (.exit 0))
 (.seq (.block 1 (.seq (.ak [af 0 26 24,
 af 1 5 26])
 (.ak [af 0 27 4,
 af 1 28 3,
 af 2 29 5,
 ad 3 30 (.bin .sub 3 (U 28) (U 29)),
 af 4 31 0,
 af 5 32 5,
 ad 6 33 (.bin .mul 3 (.const (.int .i64 8)) (U 32)),
 ad 7 34 (.bin .shr 27 (U 31) (U 33)),
 ad 8 35 (.cB .u8 (U 34)),
 ad 9 36 (.bm (.ao 1) (U 27) (U 30)),
 bG 10 (.st 1 (U 36) (U 35))])))
 (.ak [ad 0 37 (.bin .add 3 (U 24) (.const (.int .i64 1))),
 af 1 24 37]))))
def FN:aS:=(.seq (.ak [ad 0 2 (.aq (.const (.slice none 0 0)))])
 (.seq (.seq (.ak [af 0 6 0,
 ad 1 7 (.bin .leq 27 (U 6) (.const (.int .u64 247)))])
 (.cond (U 7) (.seq (.ak [af 0 8 0,
 ad 1 9 (.cB .u8 (U 8)),
 ad 2 10 (.cQ 1 [.int .u8 0] 1 [(0,(U 9))]),
 af 3 2 10])
 .ret) .skip))
 (.seq (.ak [af 0 11 0,
 sc 1 12 135 [(U 11)],
 ad 2 13 (.bin .add 3 (U 12) (.const (.int .i64 7))),
 ad 3 14 (.bin .quo 3 (U 13) (.const (.int .i64 8))),
 af 4 3 14])
 (.seq (.ak [af 0 15 3,
 ad 1 16 (.bin .add 3 (U 15) (.const (.int .i64 1))),
 ad 2 17 (.lB 1 1 [.int .u8 0] (U 16) (U 16)),
 af 3 4 17])
 (.seq (.ak [af 0 18 4,
 af 1 19 3,
 ad 2 20 (.bin .add 3 (.const (.int .i64 247)) (U 19)),
 ad 3 21 (.cB .u8 (U 20)),
 ad 4 22 (.bm (.ao 1) (U 18) (.const (.int .i64 0))),
 bG 5 (.st 1 (U 22) (U 21))])
 (.seq (.seq (.ak [af 0 23 3,
 ad 1 24 (.aq (.const (.int .i64 0)))])
 (.block 0 (.loop WO)))
 (.seq (.ak [af 0 38 4,
 af 1 2 38])
 .ret)))))))
def LW:List a6:=[.aq (U 2)]
theorem Ql:bq Tryz.prog 110=some FN:=by kernel_rfl
theorem Zd:br Tryz.prog 110=some LW:=by kernel_rfl
def WP:aS:=(.seq (.ak [ad 0 19 (.bin .lss 3 (U 18) (U 17))])
 (.seq (.cond (U 19) .skip (.exit 0))
 (.seq (.block 1 (.seq (.ak [ad 0 20 (.bm (.ao 1) (U 16) (U 18)),
 ad 1 21 (.ld1 (U 20)),
 af 2 6 21])
 (.ak [ad 0 22 (.aW 10 (U 4)),
 af 1 23 6,
 sc 2 24 159 [(U 22),(U 23)],
 bG 3 (.st 10 (U 4) (U 24))])))
 (.ak [ad 0 25 (.bin .add 3 (U 18) (.const (.int .i64 1))),
 af 1 18 25]))))
def FO:aS:=(.seq (.ak [ad 0 2 (.alloc (rep 32 (.int .u8 0))),
 ad 1 3 (.aq (.const (.int .i64 0)))])
 (.seq (.seq (.ak [af 0 7 0,
 ad 1 8 (.len (.ao 1) (U 7)),
 ad 2 9 (.bin .gtr 3 (U 8) (.const (.int .i64 20))),
 af 3 10 9,
 aF 4 11 10 false (.aq (U 0)),
 ⟨5,(some 12),(some ((some 10),false)),.cR 156 [(U 11),(.func 157)],[],false⟩,
 ad 6 13 (.pick (U 10) (.const (.bool true)) (U 12))])
 (.cond (U 13) (.seq (.ak [ad 0 14 (.eh (rep 32 (.int .u8 0)) []),
 bG 1 (.st 32 (U 2) (U 14)),
 ad 2 3 (.aq (.const (.int .i64 4)))])
 .ret) .skip))
 (.seq (.ak [sc 0 15 158 [],
 ad 1 4 (.alloc [.int .u32 0,.int .u32 0,.int .u32 0,.int .u32 0,.int .u32 0,.int .u32 0,.int .u32 0,.int .u32 0,.aX,.int .i64 0]),
 bG 2 (.st 10 (U 4) (U 15))])
 (.seq (.seq (.ak [af 0 16 0,
 ad 1 17 (.len (.ao 1) (U 16)),
 ad 2 18 (.aq (.const (.int .i64 0)))])
 (.block 0 (.loop WP)))
 (.seq (.ak [ad 0 26 (.aW 10 (U 4)),
 sc 1 27 160 [(U 26)],
 bG 2 (.st 32 (U 2) (U 27)),
 ad 3 3 (.aq (.const (.int .i64 0)))])
 .ret)))))
def LX:List a6:=[.aW 32 (U 2),.aq (U 3)]
theorem Qm:bq Tryz.prog 111=some FO:=by kernel_rfl
theorem Ze:br Tryz.prog 111=some LX:=by kernel_rfl
def FP:aS:=(.seq (.ak [ad 0 2 (.aq (.const (.bool false)))])
 (.seq (.ak [af 0 3 0,
 af 1 4 0,
 ad 2 5 (.bin .neq 9 (U 3) (U 4)),
 af 3 2 5])
 .ret))
def LY:List a6:=[.aq (U 2)]
theorem Qn:bq Tryz.prog 112=some FP:=by kernel_rfl
theorem Zf:br Tryz.prog 112=some LY:=by kernel_rfl
def FQ:aS:=(.seq (.ak [ad 0 4 (.aq (.const (.int .i64 0)))])
 (.seq (.ak [af 0 5 0,
 af 1 6 1,
 sc 2 7 162 [(U 5),(U 6),(.const (.bool true))],
 af 3 4 7])
 .ret))
def LZ:List a6:=[.aq (U 4)]
theorem Qo:bq Tryz.prog 115=some FQ:=by kernel_rfl
theorem Zg:br Tryz.prog 115=some LZ:=by kernel_rfl
def FR:aS:=(.seq (.ak [ad 0 2 (.aq (.const (.bool false)))])
 (.seq (.ak [af 0 3 0,
 ad 1 4 (.bin .lss 21 (U 3) (.const (.int .i32 33))),
 af 2 5 4,
 aF 3 6 5 false (.aq (U 0)),
 aF 4 7 5 false (.bin .gtr 21 (U 6) (.const (.int .i32 126))),
 ad 5 8 (.pick (U 5) (.const (.bool true)) (U 7)),
 af 6 2 8])
 .ret))
def L0:List a6:=[.aq (U 2)]
theorem Qp:bq Tryz.prog 116=some FR:=by kernel_rfl
theorem Zh:br Tryz.prog 116=some L0:=by kernel_rfl
def FS:aS:=(.seq (.ak [ad 0 2 (.alloc [.int .u8 0,.int .i64 0,.int .u64 0,.str []])])
 (.seq (.ak [af 0 3 0,
 ad 1 4 (.eh [.int .u8 0,.int .i64 0,.int .u64 0,.str []] [(0,1,(.const (.int .u8 1))),(1,1,(U 3))]),
 bG 2 (.st 4 (U 2) (U 4))])
 .ret))
def L1:List a6:=[.aW 4 (U 2)]
theorem Qq:bq Tryz.prog 117=some FS:=by kernel_rfl
theorem Zi:br Tryz.prog 117=some L1:=by kernel_rfl
def FT:aS:=(.seq (.ak [ad 0 2 (.alloc [.int .u8 0,.int .i64 0,.int .u64 0,.str []])])
 (.seq (.ak [af 0 3 0,
 sc 1 4 163 [(U 3)],
 ad 2 5 (.eh [.int .u8 0,.int .i64 0,.int .u64 0,.str []] [(0,1,(.const (.int .u8 2))),(2,1,(U 4))]),
 bG 3 (.st 4 (U 2) (U 5))])
 .ret))
def L2:List a6:=[.aW 4 (U 2)]
theorem Qr:bq Tryz.prog 118=some FT:=by kernel_rfl
theorem Zj:br Tryz.prog 118=some L2:=by kernel_rfl
def FU:aS:=(.seq (.ak [ad 0 2 (.alloc [.int .u8 0,.int .i64 0,.int .u64 0,.str []]),
 ad 1 3 (.aq (.const (.int .i64 0)))])
 (.seq (.seq (.ak [af 0 4 0,
 ad 1 5 (.len .str (U 4)),
 ad 2 6 (.bin .gtr 3 (U 5) (.const (.int .i64 30)))])
 (.cond (U 6) (.seq (.ak [ad 0 7 (.eh [.int .u8 0,.int .i64 0,.int .u64 0,.str []] []),
 bG 1 (.st 4 (U 2) (U 7)),
 ad 2 3 (.aq (.const (.int .i64 4)))])
 .ret) .skip))
 (.seq (.seq (.ak [af 0 8 0,
 sc 1 9 115 [(U 8),(.func 164)],
 ad 2 10 (.bin .geq 3 (U 9) (.const (.int .i64 0)))])
 (.cond (U 10) (.seq (.ak [ad 0 11 (.eh [.int .u8 0,.int .i64 0,.int .u64 0,.str []] []),
 bG 1 (.st 4 (U 2) (U 11)),
 ad 2 3 (.aq (.const (.int .i64 8)))])
 .ret) .skip))
 (.seq (.ak [af 0 12 0,
 ad 1 13 (.eh [.int .u8 0,.int .i64 0,.int .u64 0,.str []] [(0,1,(.const (.int .u8 3))),(3,1,(U 12))]),
 bG 2 (.st 4 (U 2) (U 13)),
 ad 3 3 (.aq (.const (.int .i64 0)))])
 .ret))))
def L3:List a6:=[.aW 4 (U 2),.aq (U 3)]
theorem Qs:bq Tryz.prog 119=some FU:=by kernel_rfl
theorem Zk:br Tryz.prog 119=some L3:=by kernel_rfl
def FV:aS:=(.seq (.ak [ad 0 5 (.box (U 2)),
 ad 1 6 (.aq (.const (.int .i64 0)))])
 (.seq (.seq (.ak [af 0 13 0,
 sc 1 14 151 [(U 13)],
 ad 2 15 (.un .not (U 14))])
 (.cond (U 15) (.seq (.ak [ad 0 6 (.aq (.const (.int .i64 2)))])
 .ret) .skip))
 (.seq (.seq (.ak [af 0 16 1,
 ad 1 17 (.len (.ao 1) (U 16)),
 ad 2 18 (.bin .gtr 3 (U 17) (.const (.int .i64 9991)))])
 (.cond (U 18) (.seq (.ak [ad 0 6 (.aq (.const (.int .i64 4)))])
 .ret) .skip))
 (.seq (.seq (.ak [ad 0 19 (.aO 0 (U 5)),
 ad 1 20 (.ld1 (U 19)),
 ad 2 21 (.aO 1 (U 5)),
 ad 3 22 (.ld1 (U 21)),
 ad 4 23 (.max (U 20) (U 22)),
 ad 5 24 (.bin .geq 25 (U 23) (.const (.int .u32 500000003)))])
 (.cond (U 24) (.seq (.ak [ad 0 6 (.aq (.const (.int .i64 22)))])
 .ret) .skip))
 (.seq (.ak [af 0 26 0,
 ad 1 27 (.aO 0 (U 5)),
 ad 2 28 (.ld1 (U 27)),
 ad 3 29 (.cB .u64 (U 28)),
 ad 4 30 (.bin .sub 27 (.const (.int .u64 500000003)) (U 29)),
 sc 5 31 165 [(U 26),(U 30)],
 af 6 25 31,
 ad 7 32 (.ext (U 25) 0),
 ad 8 33 (.ext (U 25) 1),
 af 9 7 32,
 af 10 8 33])
 (.seq (.ak [ad 0 35 (.aO 1 (U 5)),
 ad 1 36 (.ld1 (U 35)),
 ad 2 37 (.cB .u64 (U 36)),
 sc 3 38 167 [(U 37)],
 af 4 39 7,
 sc 5 40 166 [(U 38),(U 39)],
 af 6 34 40,
 ad 7 41 (.ext (U 34) 0),
 ad 8 42 (.ext (U 34) 1),
 af 9 9 41,
 af 10 10 42])
 (.seq (.seq (.ak [af 0 44 9,
 af 1 45 0,
 af 2 46 1,
 sc 3 47 168 [(U 44),(U 45),(U 46)],
 af 4 43 47,
 ad 5 48 (.ext (U 43) 0),
 ad 6 49 (.ext (U 43) 1),
 af 7 11 48,
 af 8 12 49])
 (.seq (.ak [af 0 50 12,
 ad 1 51 (.bin .neq 38 (U 50) (.const (.int .i64 0))),
 af 2 52 51,
 aF 3 53 52 false (.aq (U 11)),
 aF 4 54 52 false (.aO 0 (U 5)),
 aF 5 55 52 false (.ld1 (U 54)),
 aF 6 56 52 false (.bin .neq 25 (U 53) (U 55)),
 ad 7 57 (.pick (U 52) (.const (.bool true)) (U 56))])
 (.cond (U 57) (.seq (.ak [ad 0 6 (.aq (.const (.int .i64 22)))])
 .ret) .skip)))
 (.seq (.ak [ad 0 6 (.aq (.const (.int .i64 0)))])
 .ret))))))))
def L4:List a6:=[.aq (U 6)]
theorem Qu:bq Tryz.prog 120=some FV:=by kernel_rfl
theorem Zm:br Tryz.prog 120=some L4:=by kernel_rfl
def FW:aS:=(.seq (.ak [ad 0 2 (.box (U 0)),
 ad 1 3 (.box (U 1)),
 ad 2 4 (.aq (.const (.int .i64 0)))])
 (.seq (.ak [ad 0 5 (.slice (.arr 32 1) (U 2) none none none),
 ad 1 6 (.slice (.arr 32 1) (U 3) none none none),
 sc 2 7 76 [(U 5),(U 6)],
 af 3 4 7])
 .ret))
def L5:List a6:=[.aq (U 4)]
theorem Qv:bq Tryz.prog 121=some FW:=by kernel_rfl
theorem Zn:br Tryz.prog 121=some L5:=by kernel_rfl
def FX:aS:=(.seq (.ak [ad 0 2 (.box (U 0)),
 ad 1 3 (.box (U 1)),
 ad 2 4 (.aq (.const (.int .i64 0))),
 ad 3 5 (.aq (.const (.bool false)))])
 (.seq (.ak [ad 0 6 (.aO 0 (U 2)),
 ad 1 7 (.ld1 (U 6)),
 ad 2 8 (.aW 32 (U 3)),
 sc 3 9 123 [(U 7),(U 8),(.func 121)],
 ad 4 10 (.ext (U 9) 0),
 ad 5 11 (.ext (U 9) 1),
 af 6 4 10,
 af 7 5 11])
 .ret))
def L6:List a6:=[.aq (U 4),.aq (U 5)]
theorem Qw:bq Tryz.prog 122=some FX:=by kernel_rfl
theorem Zo:br Tryz.prog 122=some L6:=by kernel_rfl
def WQ:aS:=(.seq (.seq (.ak [af 0 15 9,
 af 1 16 10,
 ad 2 17 (.bin .lss 3 (U 15) (U 16))])
 (.cond (U 17) .skip (.exit 0)))
 (.block 1 (.seq (.ak [af 0 18 9,
 af 1 19 10,
 ad 2 20 (.bin .add 3 (U 18) (U 19)),
 ad 3 21 (.cB .u64 (U 20)),
 ad 4 22 (.bin .shr 125 (U 21) (.const (.int .u64 1))),
 ad 5 23 (.cB .i64 (U 22)),
 af 6 11 23])
 (.seq (.ak [af 0 24 2,
 af 1 25 0,
 af 2 26 11,
 ad 3 27 (.bm (.ao 32) (U 25) (U 26)),
 ad 4 28 (.aW 32 (U 27)),
 ad 5 29 (.aW 32 (U 4)),
 ⟨6,(some 30),none,.gW (U 24) [(U 28),(U 29)],[],false⟩,
 ad 7 31 (.bin .lss 3 (U 30) (.const (.int .i64 0)))])
 (.cond (U 31) (.ak [af 0 32 11,
 ad 1 33 (.bin .add 3 (U 32) (.const (.int .i64 1))),
 af 2 9 33]) (.ak [af 0 34 11,
 af 1 10 34]))))))
def FY:aS:=(.seq (.ak [ad 0 4 (.box (U 1)),
 ad 1 6 (.aq (.const (.int .i64 0))),
 ad 2 7 (.aq (.const (.bool false)))])
 (.seq (.ak [af 0 12 0,
 ad 1 13 (.len (.ao 32) (U 12)),
 af 2 8 13])
 (.seq (.ak [af 0 14 8,
 ad 1 9 (.aq (.const (.int .i64 0))),
 af 2 10 14])
 (.seq (.block 0 (.loop WQ))
 (.seq (.ak [af 0 35 9,
 af 1 36 9,
 af 2 37 8,
 ad 3 38 (.bin .lss 3 (U 36) (U 37)),
 af 4 39 38,
 aF 5 40 39 true (.aq (U 2)),
 aF 6 41 39 true (.aq (U 0)),
 aF 7 42 39 true (.aq (U 9)),
 aF 8 43 39 true (.bm (.ao 32) (U 41) (U 42)),
 aF 9 44 39 true (.aW 32 (U 43)),
 aF 10 45 39 true (.aW 32 (U 4)),
 ⟨11,(some 46),(some ((some 39),true)),.gW (U 40) [(U 44),(U 45)],[],false⟩,
 aF 12 47 39 true (.bin .eql 3 (U 46) (.const (.int .i64 0))),
 ad 13 48 (.pick (U 39) (U 47) (.const (.bool false))),
 af 14 6 35,
 af 15 7 48])
 .ret)))))
def L7:List a6:=[.aq (U 6),.aq (U 7)]
theorem Qx:bq Tryz.prog 123=some FY:=by kernel_rfl
theorem Zp:br Tryz.prog 123=some L7:=by kernel_rfl
def WR:aS:=(.seq (.ak [ad 0 14 (.bin .lss 3 (U 13) (U 12))])
 (.seq (.cond (U 14) .skip (.exit 0))
 (.seq (.block 1 (.seq (.ak [af 0 15 13,
 ad 1 16 (.bm (.ao 32) (U 11) (U 13)),
 ad 2 17 (.aW 32 (U 16)),
 ad 3 5 (.alloc (rep 32 (.int .u8 0))),
 af 4 4 15,
 bG 5 (.st 32 (U 5) (U 17))])
 (.ak [af 0 18 3,
 ad 1 19 (.aW 32 (U 5)),
 af 2 20 4,
 bG 3 (.q4 71 (U 18) (U 19) (U 20))])))
 (.ak [ad 0 21 (.bin .add 3 (U 13) (.const (.int .i64 1))),
 af 1 13 21]))))
def FZ:aS:=(.seq (.ak [ad 0 1 (.box (U 0)),
 ad 1 2 (.aq (.const (.map none)))])
 (.seq (.ak [ad 0 6 (.aO 0 (U 1)),
 ad 1 7 (.ld1 (U 6)),
 ad 2 8 (.len (.ao 32) (U 7)),
 ad 3 9 (.pN (some (U 8))),
 af 4 3 9])
 (.seq (.seq (.ak [ad 0 10 (.aO 0 (U 1)),
 ad 1 11 (.ld1 (U 10)),
 ad 2 12 (.len (.ao 32) (U 11)),
 ad 3 13 (.aq (.const (.int .i64 0)))])
 (.block 0 (.loop WR)))
 (.seq (.ak [af 0 22 3,
 af 1 2 22])
 .ret))))
def L8:List a6:=[.aq (U 2)]
theorem Qy:bq Tryz.prog 124=some FZ:=by kernel_rfl
theorem Zq:br Tryz.prog 124=some L8:=by kernel_rfl
def WS:aS:=(.seq (.ak [ad 0 27 (.bin .lss 3 (U 26) (U 25))])
 (.seq (.cond (U 27) .skip (.exit 0))
 (.seq (.block 1 (.seq (.ak [ad 0 28 (.bm (.ao 32) (U 24) (U 26)),
 ad 1 29 (.aW 32 (U 28)),
 ad 2 8 (.alloc (rep 32 (.int .u8 0))),
 bG 3 (.st 32 (U 8) (U 29))])
 (.ak [ad 0 30 (.ld1 (U 4)),
 ad 1 31 (.aW 32 (U 8)),
 ⟨2,(some 32),none,.gW (U 30) [(U 31)],[],false⟩])))
 (.ak [ad 0 33 (.bin .add 3 (U 26) (.const (.int .i64 1))),
 af 1 26 33]))))
def F0:aS:=(.seq (.ak [ad 0 5 (.box (U 0))])
 (.seq (.ak [ad 0 9 (.ld1 (U 1)),
 ad 1 10 (.aW 32 (U 5)),
 ad 2 11 (.sH 71 (.int .i64 0) false (U 9) (U 10)),
 af 3 6 11])
 (.seq (.seq (.ak [ad 0 12 (.ld1 (U 2)),
 af 1 13 6,
 ad 2 14 (.bm (.ao 1) (U 12) (U 13)),
 ad 3 15 (.ld1 (U 14))])
 (.cond (U 15) .ret .skip))
 (.seq (.ak [ad 0 16 (.ld1 (U 2)),
 af 1 17 6,
 ad 2 18 (.bm (.ao 1) (U 16) (U 17)),
 bG 3 (.st 1 (U 18) (.const (.bool true)))])
 (.seq (.ak [ad 0 19 (.aO 1 (U 3)),
 ad 1 20 (.ld1 (U 19)),
 af 2 21 6,
 ad 3 22 (.bm (.ao 11) (U 20) (U 21)),
 ad 4 23 (.aO 1 (U 22)),
 ad 5 24 (.ld1 (U 23)),
 ad 6 25 (.len (.ao 32) (U 24)),
 ad 7 26 (.aq (.const (.int .i64 0)))])
 (.block 0 (.loop WS)))))))
def L9:List a6:=[]
theorem Qz:bq Tryz.prog 125=some F0:=by kernel_rfl
theorem Zr:br Tryz.prog 125=some L9:=by kernel_rfl
def aln:aS:=(.seq (.seq (.ak [af 0 18 9,
 af 1 19 1,
 ad 2 20 (.bin .gtr 3 (U 18) (U 19)),
 af 3 21 20,
 aF 4 22 21 true (.aq (U 3)),
 aF 5 23 21 true (.aq (U 0)),
 aF 6 24 21 true (.aq (U 9)),
 aF 7 25 21 true (.bm (.ao 33) (U 23) (U 24)),
 aF 8 26 21 true (.aW 33 (U 25)),
 aF 9 27 21 true (.aq (U 0)),
 aF 10 28 21 true (.aq (U 9)),
 aF 11 29 21 true (.bin .sub 3 (U 28) (.const (.int .i64 1))),
 aF 12 30 21 true (.bm (.ao 33) (U 27) (U 29)),
 aF 13 31 21 true (.aW 33 (U 30)),
 ⟨14,(some 32),(some ((some 21),true)),.gW (U 22) [(U 26),(U 31)],[],false⟩,
 aF 15 33 21 true (.bin .lss 3 (U 32) (.const (.int .i64 0))),
 ad 16 34 (.pick (U 21) (U 33) (.const (.bool false)))])
 (.cond (U 34) .skip (.exit 2)))
 (.seq (.block 3 (.ak [af 0 37 0,
 af 1 38 9,
 af 2 39 0,
 af 3 40 9,
 ad 4 41 (.bin .sub 3 (U 40) (.const (.int .i64 1))),
 af 5 42 0,
 af 6 43 9,
 ad 7 44 (.bin .sub 3 (U 43) (.const (.int .i64 1))),
 ad 8 45 (.bm (.ao 33) (U 42) (U 44)),
 ad 9 46 (.aW 33 (U 45)),
 af 10 47 0,
 af 11 48 9,
 ad 12 49 (.bm (.ao 33) (U 47) (U 48)),
 ad 13 50 (.aW 33 (U 49)),
 ad 14 51 (.bm (.ao 33) (U 37) (U 38)),
 bG 15 (.st 33 (U 51) (U 46)),
 ad 16 52 (.bm (.ao 33) (U 39) (U 41)),
 bG 17 (.st 33 (U 52) (U 50))]))
 (.ak [af 0 35 9,
 ad 1 36 (.bin .sub 3 (U 35) (.const (.int .i64 1))),
 af 2 9 36])))
def alo:aS:=(.seq (.seq (.ak [af 0 12 8,
 af 1 13 2,
 ad 2 14 (.bin .lss 3 (U 12) (U 13))])
 (.cond (U 14) .skip (.exit 0)))
 (.seq (.block 1 (.seq (.ak [af 0 17 8,
 af 1 9 17])
 (.block 2 (.loop aln))))
 (.ak [af 0 15 8,
 ad 1 16 (.bin .add 3 (U 15) (.const (.int .i64 1))),
 af 2 8 16])))
def QA:aS:=(.seq (.ak [af 0 10 1,
 ad 1 11 (.bin .add 3 (U 10) (.const (.int .i64 1))),
 af 2 8 11])
 (.block 0 (.loop alo)))
def Zs:List a6:=[]
theorem ae6:bq Tryz.prog 126=some QA:=by kernel_rfl
theorem ang:br Tryz.prog 126=some Zs:=by kernel_rfl
def QB:aS:=(.seq (.ak [ad 0 2 (.aq (.const (.int .i64 0)))])
 (.seq (.seq (.ak [af 0 3 0,
 ad 1 4 (.bin .geq 25 (U 3) (.const (.int .u32 65536)))])
 (.cond (U 4) (.seq (.ak [af 0 5 0,
 ad 1 6 (.bin .shr 25 (U 5) (.const (.int .u64 16))),
 af 2 0 6])
 (.ak [ad 0 2 (.aq (.const (.int .i64 16)))])) .skip))
 (.seq (.seq (.ak [af 0 7 0,
 ad 1 8 (.bin .geq 25 (U 7) (.const (.int .u32 256)))])
 (.cond (U 8) (.seq (.ak [af 0 9 0,
 ad 1 10 (.bin .shr 25 (U 9) (.const (.int .u64 8))),
 af 2 0 10])
 (.ak [af 0 11 2,
 ad 1 12 (.bin .add 3 (U 11) (.const (.int .i64 8))),
 af 2 2 12])) .skip))
 (.seq (.ak [af 0 13 2,
 af 1 14 0,
 ad 2 15 (.cB .u8 (U 14)),
 ad 3 16 (.pC (.const (.string ⟨#[0,1,2,2,3,3,3,3,4,4,4,4,4,4,4,4,5,5,5,5,5,5,5,5,5,5,5,5,5,5,5,5,6,6,6,6,6,6,6,6,6,6,6,6,6,6,6,6,6,6,6,6,6,6,6,6,6,6,6,6,6,6,6,6,7,7,7,7,7,7,7,7,7,7,7,7,7,7,7,7,7,7,7,7,7,7,7,7,7,7,7,7,7,7,7,7,7,7,7,7,7,7,7,7,7,7,7,7,7,7,7,7,7,7,7,7,7,7,7,7,7,7,7,7,7,7,7,7,8,8,8,8,8,8,8,8,8,8,8,8,8,8,8,8,8,8,8,8,8,8,8,8,8,8,8,8,8,8,8,8,8,8,8,8,8,8,8,8,8,8,8,8,8,8,8,8,8,8,8,8,8,8,8,8,8,8,8,8,8,8,8,8,8,8,8,8,8,8,8,8,8,8,8,8,8,8,8,8,8,8,8,8,8,8,8,8,8,8,8,8,8,8,8,8,8,8,8,8,8,8,8,8,8,8,8,8,8,8,8,8,8,8,8,8,8,8,8,8,8,8,8,8,8,8,8,8]⟩)) (U 15)),
 ad 4 17 (.cB .i64 (U 16)),
 ad 5 18 (.bin .add 3 (U 13) (U 17)),
 af 6 2 18])
 .ret))))
def Zt:List a6:=[.aq (U 2)]
theorem ae7:bq Tryz.prog 134=some QB:=by kernel_rfl
theorem anh:br Tryz.prog 134=some Zt:=by kernel_rfl
def F1:aS:=(.seq (.ak [ad 0 2 (.aq (.const (.int .i64 0)))])
 (.seq (.seq (.ak [af 0 3 0,
 ad 1 4 (.bin .geq 27 (U 3) (.const (.int .u64 4294967296)))])
 (.cond (U 4) (.seq (.ak [af 0 5 0,
 ad 1 6 (.bin .shr 27 (U 5) (.const (.int .u64 32))),
 af 2 0 6])
 (.ak [ad 0 2 (.aq (.const (.int .i64 32)))])) .skip))
 (.seq (.seq (.ak [af 0 7 0,
 ad 1 8 (.bin .geq 27 (U 7) (.const (.int .u64 65536)))])
 (.cond (U 8) (.seq (.ak [af 0 9 0,
 ad 1 10 (.bin .shr 27 (U 9) (.const (.int .u64 16))),
 af 2 0 10])
 (.ak [af 0 11 2,
 ad 1 12 (.bin .add 3 (U 11) (.const (.int .i64 16))),
 af 2 2 12])) .skip))
 (.seq (.seq (.ak [af 0 13 0,
 ad 1 14 (.bin .geq 27 (U 13) (.const (.int .u64 256)))])
 (.cond (U 14) (.seq (.ak [af 0 15 0,
 ad 1 16 (.bin .shr 27 (U 15) (.const (.int .u64 8))),
 af 2 0 16])
 (.ak [af 0 17 2,
 ad 1 18 (.bin .add 3 (U 17) (.const (.int .i64 8))),
 af 2 2 18])) .skip))
 (.seq (.ak [af 0 19 2,
 af 1 20 0,
 ad 2 21 (.cB .u8 (U 20)),
 ad 3 22 (.pC (.const (.string ⟨#[0,1,2,2,3,3,3,3,4,4,4,4,4,4,4,4,5,5,5,5,5,5,5,5,5,5,5,5,5,5,5,5,6,6,6,6,6,6,6,6,6,6,6,6,6,6,6,6,6,6,6,6,6,6,6,6,6,6,6,6,6,6,6,6,7,7,7,7,7,7,7,7,7,7,7,7,7,7,7,7,7,7,7,7,7,7,7,7,7,7,7,7,7,7,7,7,7,7,7,7,7,7,7,7,7,7,7,7,7,7,7,7,7,7,7,7,7,7,7,7,7,7,7,7,7,7,7,7,8,8,8,8,8,8,8,8,8,8,8,8,8,8,8,8,8,8,8,8,8,8,8,8,8,8,8,8,8,8,8,8,8,8,8,8,8,8,8,8,8,8,8,8,8,8,8,8,8,8,8,8,8,8,8,8,8,8,8,8,8,8,8,8,8,8,8,8,8,8,8,8,8,8,8,8,8,8,8,8,8,8,8,8,8,8,8,8,8,8,8,8,8,8,8,8,8,8,8,8,8,8,8,8,8,8,8,8,8,8,8,8,8,8,8,8,8,8,8,8,8,8,8,8,8,8,8,8]⟩)) (U 21)),
 ad 4 23 (.cB .i64 (U 22)),
 ad 5 24 (.bin .add 3 (U 19) (U 23)),
 af 6 2 24])
 .ret)))))
def Ma:List a6:=[.aq (U 2)]
theorem QC:bq Tryz.prog 135=some F1:=by kernel_rfl
theorem Zu:br Tryz.prog 135=some Ma:=by kernel_rfl
def F2:aS:=(.seq (.ak [ad 0 5 (.box (U 2)),
 ad 1 6 (.aq (.const (.bool false)))])
 (.seq (.seq (.ak [ad 0 9 (.aO 0 (U 5)),
 ad 1 10 (.ld1 (U 9)),
 sc 2 11 66 [(U 10)],
 ad 3 12 (.un .not (U 11)),
 af 4 13 12,
 aF 5 14 13 false (.aO 1 (U 5)),
 aF 6 15 13 false (.ld1 (U 14)),
 ⟨7,(some 16),(some ((some 13),false)),.cR 66 [(U 15)],[],false⟩,
 aF 8 17 13 false (.un .not (U 16)),
 ad 9 18 (.pick (U 13) (.const (.bool true)) (U 17))])
 (.cond (U 18) (.seq (.ak [ad 0 6 (.aq (.const (.bool false)))])
 .ret) .skip))
 (.seq (.ak [af 0 20 0,
 ad 1 21 (.aO 0 (U 5)),
 ad 2 22 (.ld1 (U 21)),
 ad 3 23 (.cB .u64 (U 22)),
 sc 4 24 175 [(U 20),(U 23)],
 sc 5 25 174 [(U 24)],
 af 6 19 25,
 ad 7 26 (.ext (U 19) 0),
 ad 8 27 (.ext (U 19) 1),
 af 9 7 26,
 af 10 8 27])
 (.seq (.gJ [ad 0 28 (.aO 1 (U 5)),
 ad 1 29 (.ld1 (U 28)),
 af 3 31 7,
 af 5 33 0,
 af 6 34 1,
 ad 8 36 (.aO 0 (U 5)),
 ⟨9,(some 37),none,.cG (.ld1 (U 36)),[],true⟩,
 ⟨2,(some 30),none,.cR 105 [(U 29)],[9],false⟩,
 ⟨4,(some 32),none,.cR 176 [(U 30),(U 31)],[9],false⟩,
 ⟨7,(some 35),none,.cR 145 [(U 32),(U 33),(U 34)],[9],false⟩,
 ad 10 38 (.bin .eql 25 (U 35) (U 37)),
 af 11 6 38])
 .ret))))
def Mb:List a6:=[.aq (U 6)]
theorem QD:bq Tryz.prog 136=some F2:=by kernel_rfl
theorem Zv:br Tryz.prog 136=some Mb:=by kernel_rfl
def F3:aS:=(.seq (.ak [ad 0 2 (.aq (.const (.int .u64 0)))])
 (.seq (.seq (.ak [af 0 3 0,
 sc 1 4 177 [(U 3)],
 ad 2 5 (.bin .eql 5 (U 4) (.const (.int .u8 5)))])
 (.cond (U 5) (.seq (.ak [ad 0 2 (.aq (.const (.int .u64 9221120237041090560)))])
 .ret) .skip))
 (.seq (.ak [af 0 6 0,
 af 1 2 6])
 .ret)))
def Mc:List a6:=[.aq (U 2)]
theorem QE:bq Tryz.prog 137=some F3:=by kernel_rfl
theorem Zw:br Tryz.prog 137=some Mc:=by kernel_rfl
def WT:aS:=(.seq (.seq (.ak [af 0 4 3,
 af 1 5 0,
 ad 2 6 (.len .str (U 5)),
 ad 3 7 (.bin .lss 3 (U 4) (U 6))])
 (.cond (U 7) .skip (.exit 0)))
 (.seq (.block 1 (.seq (.ak [af 0 10 0,
 af 1 11 3,
 ad 2 12 (.pC (U 10) (U 11)),
 ad 3 13 (.bin .lss 5 (U 12) (.const (.int .u8 32))),
 af 4 14 13,
 aF 5 15 14 false (.aq (U 0)),
 aF 6 16 14 false (.aq (U 3)),
 aF 7 17 14 false (.pC (U 15) (U 16)),
 aF 8 18 14 false (.bin .gtr 5 (U 17) (.const (.int .u8 126))),
 ad 9 19 (.pick (U 14) (.const (.bool true)) (U 18))])
 (.cond (U 19) (.seq (.ak [ad 0 2 (.aq (.const (.bool false)))])
 .ret) .skip)))
 (.ak [af 0 8 3,
 ad 1 9 (.bin .add 3 (U 8) (.const (.int .i64 1))),
 af 2 3 9])))
def F4:aS:=(.seq (.ak [ad 0 2 (.aq (.const (.bool false)))])
 (.seq (.seq (.ak [ad 0 3 (.aq (.const (.int .i64 0)))])
 (.block 0 (.loop WT)))
 (.seq (.ak [ad 0 2 (.aq (.const (.bool true)))])
 .ret)))
def Md:List a6:=[.aq (U 2)]
theorem QF:bq Tryz.prog 138=some F4:=by kernel_rfl
theorem Zx:br Tryz.prog 138=some Md:=by kernel_rfl
def WU:aS:=(.seq (.seq (.ak [af 0 22 6,
 ad 1 23 (.bin .lss 3 (U 22) (.const (.int .i64 16)))])
 (.cond (U 23) .skip (.exit 0)))
 (.seq (.block 1 (.ak [af 0 26 5,
 af 1 27 1,
 af 2 28 6,
 ad 3 29 (.bin .mul 3 (.const (.int .i64 4)) (U 28)),
 ad 4 30 (.bm (.ao 1) (U 27) (U 29)),
 ad 5 31 (.ld1 (U 30)),
 ad 6 32 (.cB .u32 (U 31)),
 ad 7 33 (.bin .mul 25 (U 32) (.const (.int .u32 256))),
 af 8 34 1,
 af 9 35 6,
 ad 10 36 (.bin .mul 3 (.const (.int .i64 4)) (U 35)),
 ad 11 37 (.bin .add 3 (U 36) (.const (.int .i64 1))),
 ad 12 38 (.bm (.ao 1) (U 34) (U 37)),
 ad 13 39 (.ld1 (U 38)),
 ad 14 40 (.cB .u32 (U 39)),
 ad 15 41 (.bin .add 25 (U 33) (U 40)),
 ad 16 42 (.bin .mul 25 (U 41) (.const (.int .u32 256))),
 af 17 43 1,
 af 18 44 6,
 ad 19 45 (.bin .mul 3 (.const (.int .i64 4)) (U 44)),
 ad 20 46 (.bin .add 3 (U 45) (.const (.int .i64 2))),
 ad 21 47 (.bm (.ao 1) (U 43) (U 46)),
 ad 22 48 (.ld1 (U 47)),
 ad 23 49 (.cB .u32 (U 48)),
 ad 24 50 (.bin .add 25 (U 42) (U 49)),
 ad 25 51 (.bin .mul 25 (U 50) (.const (.int .u32 256))),
 af 26 52 1,
 af 27 53 6,
 ad 28 54 (.bin .mul 3 (.const (.int .i64 4)) (U 53)),
 ad 29 55 (.bin .add 3 (U 54) (.const (.int .i64 3))),
 ad 30 56 (.bm (.ao 1) (U 52) (U 55)),
 ad 31 57 (.ld1 (U 56)),
 ad 32 58 (.cB .u32 (U 57)),
 ad 33 59 (.bin .add 25 (U 51) (U 58)),
 ad 34 60 (.cQ 1 [.int .u32 0] 1 [(0,(U 59))]),
 ad 35 61 (.app 1 4 (U 26) (U 60)),
 af 36 5 61]))
 (.ak [af 0 24 6,
 ad 1 25 (.bin .add 3 (U 24) (.const (.int .i64 1))),
 af 2 6 25])))
def WV:aS:=(.seq (.seq (.ak [af 0 62 7,
 ad 1 63 (.bin .lss 3 (U 62) (.const (.int .i64 64)))])
 (.cond (U 63) .skip (.exit 2)))
 (.seq (.block 3 (.seq (.ak [af 0 66 5,
 af 1 67 7,
 ad 2 68 (.bin .sub 3 (U 67) (.const (.int .i64 15))),
 ad 3 69 (.bm (.ao 1) (U 66) (U 68)),
 ad 4 70 (.ld1 (U 69)),
 af 5 71 5,
 af 6 72 7,
 ad 7 73 (.bin .sub 3 (U 72) (.const (.int .i64 2))),
 ad 8 74 (.bm (.ao 1) (U 71) (U 73)),
 ad 9 75 (.ld1 (U 74)),
 af 10 8 70,
 af 11 9 75])
 (.gJ [af 0 76 5,
 af 1 77 5,
 af 2 78 7,
 ad 3 79 (.bin .sub 3 (U 78) (.const (.int .i64 16))),
 ad 4 80 (.bm (.ao 1) (U 77) (U 79)),
 ⟨5,(some 81),none,.cG (.ld1 (U 80)),[],true⟩,
 af 6 82 5,
 af 7 83 7,
 ad 8 84 (.bin .sub 3 (U 83) (.const (.int .i64 7))),
 ad 9 85 (.bm (.ao 1) (U 82) (U 84)),
 ⟨10,(some 86),none,.cG (.ld1 (U 85)),[],true⟩,
 ad 11 87 (.bin .add 25 (U 81) (U 86)),
 af 12 88 8,
 af 14 90 8,
 af 17 93 8,
 ad 18 94 (.bin .shr 25 (U 93) (.const (.int .u64 3))),
 af 21 97 9,
 af 23 99 9,
 af 26 102 9,
 ad 27 103 (.bin .shr 25 (U 102) (.const (.int .u64 10))),
 ⟨13,(some 89),none,.cR 178 [(U 88),(.const (.int .i64 7))],[10,5],false⟩,
 ⟨15,(some 91),none,.cR 178 [(U 90),(.const (.int .i64 18))],[10,5],false⟩,
 ad 16 92 (.bin .xor 25 (U 89) (U 91)),
 ad 19 95 (.bin .xor 25 (U 92) (U 94)),
 ad 20 96 (.bin .add 25 (U 87) (U 95)),
 ⟨22,(some 98),none,.cR 178 [(U 97),(.const (.int .i64 17))],[10,5],false⟩,
 ⟨24,(some 100),none,.cR 178 [(U 99),(.const (.int .i64 19))],[10,5],false⟩,
 ad 25 101 (.bin .xor 25 (U 98) (U 100)),
 ad 28 104 (.bin .xor 25 (U 101) (U 103)),
 ad 29 105 (.bin .add 25 (U 96) (U 104)),
 ad 30 106 (.cQ 1 [.int .u32 0] 1 [(0,(U 105))]),
 ad 31 107 (.app 1 4 (U 76) (U 106)),
 af 32 5 107])))
 (.ak [af 0 64 7,
 ad 1 65 (.bin .add 3 (U 64) (.const (.int .i64 1))),
 af 2 7 65])))
def WW:aS:=(.seq (.seq (.ak [af 0 110 12,
 ad 1 111 (.bin .lss 3 (U 110) (.const (.int .i64 64)))])
 (.cond (U 111) .skip (.exit 4)))
 (.seq (.block 5 (.seq (.ak [ad 0 114 (.bm (.arr 8 1) (U 11) (.const (.int .i64 0))),
 ad 1 115 (.ld1 (U 114)),
 ad 2 116 (.bm (.arr 8 1) (U 11) (.const (.int .i64 1))),
 ad 3 117 (.ld1 (U 116)),
 ad 4 118 (.bm (.arr 8 1) (U 11) (.const (.int .i64 2))),
 ad 5 119 (.ld1 (U 118)),
 ad 6 120 (.bm (.arr 8 1) (U 11) (.const (.int .i64 4))),
 ad 7 121 (.ld1 (U 120)),
 ad 8 122 (.bm (.arr 8 1) (U 11) (.const (.int .i64 5))),
 ad 9 123 (.ld1 (U 122)),
 ad 10 124 (.bm (.arr 8 1) (U 11) (.const (.int .i64 6))),
 ad 11 125 (.ld1 (U 124)),
 af 12 13 115,
 af 13 14 117,
 af 14 15 119,
 af 15 16 121,
 af 16 17 123,
 af 17 18 125])
 (.seq (.gJ [ad 0 126 (.bm (.arr 8 1) (U 11) (.const (.int .i64 7))),
 ⟨1,(some 127),none,.cG (.ld1 (U 126)),[],true⟩,
 af 2 128 16,
 af 4 130 16,
 af 7 133 16,
 af 11 137 16,
 af 12 138 17,
 ad 13 139 (.bin .and 25 (U 137) (U 138)),
 af 14 140 16,
 ad 15 141 (.un .xor (U 140)),
 af 16 142 18,
 ad 17 143 (.bin .and 25 (U 141) (U 142)),
 ad 18 144 (.bin .xor 25 (U 139) (U 143)),
 af 20 146 10,
 af 21 147 12,
 ad 22 148 (.bm (.ao 1) (U 146) (U 147)),
 ⟨23,(some 149),none,.cG (.ld1 (U 148)),[],true⟩,
 af 25 151 5,
 af 26 152 12,
 ad 27 153 (.bm (.ao 1) (U 151) (U 152)),
 ⟨28,(some 154),none,.cG (.ld1 (U 153)),[],true⟩,
 ⟨3,(some 129),none,.cR 178 [(U 128),(.const (.int .i64 6))],[28,23,1],false⟩,
 ⟨5,(some 131),none,.cR 178 [(U 130),(.const (.int .i64 11))],[28,23,1],false⟩,
 ad 6 132 (.bin .xor 25 (U 129) (U 131)),
 ⟨8,(some 134),none,.cR 178 [(U 133),(.const (.int .i64 25))],[28,23,1],false⟩,
 ad 9 135 (.bin .xor 25 (U 132) (U 134)),
 ad 10 136 (.bin .add 25 (U 127) (U 135)),
 ad 19 145 (.bin .add 25 (U 136) (U 144)),
 ad 24 150 (.bin .add 25 (U 145) (U 149)),
 ad 29 155 (.bin .add 25 (U 150) (U 154)),
 af 30 19 155])
 (.seq (.ak [af 0 156 13,
 sc 1 157 178 [(U 156),(.const (.int .i64 2))],
 af 2 158 13,
 sc 3 159 178 [(U 158),(.const (.int .i64 13))],
 ad 4 160 (.bin .xor 25 (U 157) (U 159)),
 af 5 161 13,
 sc 6 162 178 [(U 161),(.const (.int .i64 22))],
 ad 7 163 (.bin .xor 25 (U 160) (U 162)),
 af 8 164 13,
 af 9 165 14,
 ad 10 166 (.bin .and 25 (U 164) (U 165)),
 af 11 167 13,
 af 12 168 15,
 ad 13 169 (.bin .and 25 (U 167) (U 168)),
 ad 14 170 (.bin .xor 25 (U 166) (U 169)),
 af 15 171 14,
 af 16 172 15,
 ad 17 173 (.bin .and 25 (U 171) (U 172)),
 ad 18 174 (.bin .xor 25 (U 170) (U 173)),
 ad 19 175 (.bin .add 25 (U 163) (U 174)),
 af 20 20 175])
 (.ak [af 0 176 19,
 af 1 177 20,
 ad 2 178 (.bin .add 25 (U 176) (U 177)),
 af 3 179 13,
 af 4 180 14,
 af 5 181 15,
 ad 6 182 (.bm (.arr 8 1) (U 11) (.const (.int .i64 3))),
 ad 7 183 (.ld1 (U 182)),
 af 8 184 19,
 ad 9 185 (.bin .add 25 (U 183) (U 184)),
 af 10 186 16,
 af 11 187 17,
 af 12 188 18,
 ad 13 189 (.eh [.int .u32 0,.int .u32 0,.int .u32 0,.int .u32 0,.int .u32 0,.int .u32 0,.int .u32 0,.int .u32 0] [(0,1,(U 178)),(1,1,(U 179)),(2,1,(U 180)),(3,1,(U 181)),(4,1,(U 185)),(5,1,(U 186)),(6,1,(U 187)),(7,1,(U 188))]),
 bG 14 (.st 8 (U 11) (U 189))])))))
 (.ak [af 0 112 12,
 ad 1 113 (.bin .add 3 (U 112) (.const (.int .i64 1))),
 af 2 12 113])))
def WX:aS:=(.seq (.seq (.ak [af 0 190 21,
 ad 1 191 (.bin .lss 3 (U 190) (.const (.int .i64 8)))])
 (.cond (U 191) .skip (.exit 6)))
 (.seq (.block 7 (.ak [af 0 194 21,
 ad 1 195 (.bm (.arr 8 1) (U 2) (U 194)),
 ad 2 196 (.ld1 (U 195)),
 af 3 197 21,
 ad 4 198 (.bm (.arr 8 1) (U 11) (U 197)),
 ad 5 199 (.ld1 (U 198)),
 ad 6 200 (.bin .add 25 (U 196) (U 199)),
 ad 7 201 (.bm (.arr 8 1) (U 2) (U 194)),
 bG 8 (.st 1 (U 201) (U 200))]))
 (.ak [af 0 192 21,
 ad 1 193 (.bin .add 3 (U 192) (.const (.int .i64 1))),
 af 2 21 193])))
def F5:aS:=(.seq (.ak [ad 0 2 (.box (U 0)),
 ad 1 4 (.alloc [.int .u32 0,.int .u32 0,.int .u32 0,.int .u32 0,.int .u32 0,.int .u32 0,.int .u32 0,.int .u32 0])])
 (.seq (.ak [ad 0 5 (.aq (.const (.slice none 0 0)))])
 (.seq (.seq (.ak [ad 0 6 (.aq (.const (.int .i64 0)))])
 (.block 0 (.loop WU)))
 (.seq (.seq (.ak [ad 0 7 (.aq (.const (.int .i64 16)))])
 (.block 2 (.loop WV)))
 (.seq (.ak [sc 0 108 179 [],
 af 1 10 108])
 (.seq (.ak [ad 0 109 (.aW 8 (U 2)),
 ad 1 11 (.alloc [.int .u32 0,.int .u32 0,.int .u32 0,.int .u32 0,.int .u32 0,.int .u32 0,.int .u32 0,.int .u32 0]),
 bG 2 (.st 8 (U 11) (U 109))])
 (.seq (.seq (.ak [ad 0 12 (.aq (.const (.int .i64 0)))])
 (.block 4 (.loop WW)))
 (.seq (.seq (.ak [ad 0 21 (.aq (.const (.int .i64 0)))])
 (.block 6 (.loop WX)))
 (.seq (.ak [ad 0 202 (.aW 8 (U 2)),
 bG 1 (.st 8 (U 4) (U 202))])
 .ret)))))))))
def Me:List a6:=[.aW 8 (U 4)]
theorem QG:bq Tryz.prog 139=some F5:=by kernel_rfl
theorem Zy:br Tryz.prog 139=some Me:=by kernel_rfl
def WY:aS:=(.seq (.seq (.ak [af 0 9 4,
 af 1 10 0,
 ad 2 11 (.len (.ao 32) (U 10)),
 ad 3 12 (.bin .lss 3 (U 9) (U 11))])
 (.cond (U 12) .skip (.exit 0)))
 (.seq (.block 1 (.ak [af 0 15 3,
 af 1 16 0,
 af 2 17 4,
 ad 3 18 (.bm (.ao 32) (U 16) (U 17)),
 ad 4 19 (.slice (.arr 32 1) (U 18) none none none),
 ad 5 20 (.app 1 1 (U 15) (U 19)),
 af 6 3 20]))
 (.ak [af 0 13 4,
 ad 1 14 (.bin .add 3 (U 13) (.const (.int .i64 1))),
 af 2 4 14])))
def F6:aS:=(.seq (.ak [ad 0 2 (.aq (.const (.slice none 0 0)))])
 (.seq (.ak [af 0 5 0,
 ad 1 6 (.len (.ao 32) (U 5)),
 ad 2 7 (.cB .u64 (U 6)),
 sc 3 8 102 [(U 7)],
 af 4 3 8])
 (.seq (.seq (.ak [ad 0 4 (.aq (.const (.int .i64 0)))])
 (.block 0 (.loop WY)))
 (.seq (.ak [af 0 21 3,
 af 1 2 21])
 .ret))))
def Mf:List a6:=[.aq (U 2)]
theorem QH:bq Tryz.prog 140=some F6:=by kernel_rfl
theorem Zz:br Tryz.prog 140=some Mf:=by kernel_rfl
def F7:aS:=(.seq (.ak [ad 0 2 (.aq (.const (.slice none 0 0)))])
 (.seq (.ak [af 0 3 0,
 ad 1 4 (.len (.ao 1) (U 3)),
 ad 2 5 (.cB .u64 (U 4)),
 sc 3 6 102 [(U 5)],
 af 4 7 0,
 ad 5 8 (.app 1 1 (U 6) (U 7)),
 af 6 2 8])
 .ret))
def Mg:List a6:=[.aq (U 2)]
theorem QI:bq Tryz.prog 141=some F7:=by kernel_rfl
theorem ZA:br Tryz.prog 141=some Mg:=by kernel_rfl
def WZ:aS:=(.seq (.seq (.ak [af 0 19 4,
 ad 1 20 (.bin .geq 3 (U 19) (.const (.int .i64 0)))])
 (.cond (U 20) .skip (.exit 1)))
 (.seq (.block 2 (.ak [af 0 23 3,
 ad 1 24 (.aO 2 (U 1)),
 ad 2 25 (.ld1 (U 24)),
 af 3 26 4,
 ad 4 27 (.bin .mul 3 (.const (.int .i64 8)) (U 26)),
 ad 5 28 (.bin .shr 27 (U 25) (U 27)),
 ad 6 29 (.cB .u8 (U 28)),
 ad 7 30 (.cQ 1 [.int .u8 0] 1 [(0,(U 29))]),
 ad 8 31 (.app 1 1 (U 23) (U 30)),
 af 9 3 31]))
 (.ak [af 0 21 4,
 ad 1 22 (.bin .sub 3 (U 21) (.const (.int .i64 1))),
 af 2 4 22])))
def F8:aS:=(.seq (.ak [ad 0 1 (.box (U 0)),
 ad 1 2 (.aq (.const (.slice none 0 0)))])
 (.seq (.ak [ad 0 5 (.aO 0 (U 1)),
 ad 1 6 (.ld1 (U 5)),
 ad 2 7 (.cQ 1 [.int .u8 0] 1 [(0,(U 6))]),
 af 3 3 7])
 (.seq (.seq (.ak [ad 0 8 (.aO 0 (U 1)),
 ad 1 9 (.ld1 (U 8))])
 (.block 0 (.seq (.ak [ad 0 11 (.bin .eql 5 (U 9) (.const (.int .u8 1))),
 af 1 10 11])
 (.cond (U 10) (.seq (.ak [af 0 12 3,
 ad 1 13 (.aO 1 (U 1)),
 ad 2 14 (.ld1 (U 13)),
 sc 3 15 180 [(U 14)],
 ad 4 16 (.app 1 1 (U 12) (U 15)),
 af 5 2 16])
 .ret) (.seq (.ak [ad 0 18 (.bin .eql 5 (U 9) (.const (.int .u8 2))),
 af 1 17 18])
 (.cond (U 17) (.seq (.seq (.ak [ad 0 4 (.aq (.const (.int .i64 7)))])
 (.block 1 (.loop WZ)))
 (.seq (.ak [af 0 32 3,
 af 1 2 32])
 .ret)) .skip))))))
 (.seq (.ak [af 0 33 3,
 ad 1 34 (.aO 3 (U 1)),
 ad 2 35 (.ld1 (U 34)),
 ad 3 36 (.qp (U 35)),
 sc 4 37 141 [(U 36)],
 ad 5 38 (.app 1 1 (U 33) (U 37)),
 af 6 2 38])
 .ret))))
def Mh:List a6:=[.aq (U 2)]
theorem QJ:bq Tryz.prog 142=some F8:=by kernel_rfl
theorem ZB:br Tryz.prog 142=some Mh:=by kernel_rfl
def F9:aS:=(.seq (.ak [ad 0 2 (.aq (.const (.int .u32 0)))])
 (.seq (.ak [af 0 3 0,
 sc 1 4 175 [(.const (.int .u32 4)),(U 3)],
 af 2 2 4])
 .ret))
def Mi:List a6:=[.aq (U 2)]
theorem QK:bq Tryz.prog 143=some F9:=by kernel_rfl
theorem ZC:br Tryz.prog 143=some Mi:=by kernel_rfl
def QL:aS:=(.seq (.ak [ad 0 4 (.aq (.const (.int .u32 0)))])
 (.seq (.ak [ad 0 6 (.cQ 1 [.int .u8 0] 1 [(0,(.const (.int .u8 110)))]),
 af 1 7 0,
 sc 2 8 181 [(U 7)],
 ad 3 9 (.app 1 1 (U 6) (U 8)),
 af 4 5 9])
 (.seq (.ak [af 0 10 5,
 af 1 11 1,
 ad 2 12 (.app 1 1 (U 10) (U 11)),
 sc 3 13 182 [(U 12)],
 ad 4 14 (.bin .rem 27 (U 13) (.const (.int .u64 500000002))),
 ad 5 15 (.cB .u32 (U 14)),
 ad 6 16 (.bin .add 25 (U 15) (.const (.int .u32 1))),
 af 7 4 16])
 .ret)))
def ZD:List a6:=[.aq (U 4)]
theorem ae8:bq Tryz.prog 144=some QL:=by kernel_rfl
theorem ani:br Tryz.prog 144=some ZD:=by kernel_rfl
def Ga:aS:=(.seq (.ak [ad 0 6 (.aq (.const (.int .u32 0)))])
 (.seq (.ak [ad 0 8 (.cQ 1 [.int .u8 0] 1 [(0,(.const (.int .u8 99)))]),
 af 1 9 0,
 sc 2 10 181 [(U 9)],
 ad 3 11 (.app 1 1 (U 8) (U 10)),
 af 4 12 1,
 sc 5 13 181 [(U 12)],
 ad 6 14 (.app 1 1 (U 11) (U 13)),
 af 7 7 14])
 (.seq (.ak [af 0 15 7,
 af 1 16 2,
 ad 2 17 (.app 1 1 (U 15) (U 16)),
 sc 3 18 182 [(U 17)],
 ad 4 19 (.bin .rem 27 (U 18) (.const (.int .u64 500000003))),
 ad 5 20 (.cB .u32 (U 19)),
 af 6 6 20])
 .ret)))
def Mj:List a6:=[.aq (U 6)]
theorem QM:bq Tryz.prog 145=some Ga:=by kernel_rfl
theorem ZE:br Tryz.prog 145=some Mj:=by kernel_rfl
def QN:aS:=(.seq (.ak [ad 0 4 (.aq (.const (.int .u32 0)))])
 (.seq (.ak [af 0 5 0,
 ad 1 6 (.cB .u64 (U 5)),
 af 2 7 1,
 ad 3 8 (.cB .u64 (U 7)),
 ad 4 9 (.bin .add 27 (U 6) (U 8)),
 ad 5 10 (.bin .rem 27 (U 9) (.const (.int .u64 500000003))),
 ad 6 11 (.cB .u32 (U 10)),
 af 7 4 11])
 .ret))
def ZF:List a6:=[.aq (U 4)]
theorem ae9:bq Tryz.prog 146=some QN:=by kernel_rfl
theorem anj:br Tryz.prog 146=some ZF:=by kernel_rfl
def QO:aS:=(.seq (.ak [ad 0 4 (.aq (.const (.int .u32 0)))])
 (.seq (.ak [af 0 5 0,
 ad 1 6 (.cB .u64 (U 5)),
 af 2 7 1,
 ad 3 8 (.cB .u64 (U 7)),
 ad 4 9 (.bin .mul 27 (U 6) (U 8)),
 ad 5 10 (.bin .rem 27 (U 9) (.const (.int .u64 500000003))),
 ad 6 11 (.cB .u32 (U 10)),
 af 7 4 11])
 .ret))
def ZG:List a6:=[.aq (U 4)]
theorem afa:bq Tryz.prog 147=some QO:=by kernel_rfl
theorem ank:br Tryz.prog 147=some ZG:=by kernel_rfl
def W0:aS:=(.seq (.seq (.ak [af 0 9 5,
 ad 1 10 (.bin .gtr 3 (U 9) (.const (.int .i64 0)))])
 (.cond (U 10) .skip (.exit 0)))
 (.seq (.block 1 (.seq (.ak [af 0 13 1,
 af 1 14 0,
 af 2 15 5,
 ad 3 16 (.bm (.ao 32) (U 14) (U 15)),
 ad 4 17 (.aW 32 (U 16)),
 af 5 18 0,
 af 6 19 5,
 ad 7 20 (.bin .sub 3 (U 19) (.const (.int .i64 1))),
 ad 8 21 (.bm (.ao 32) (U 18) (U 20)),
 ad 9 22 (.aW 32 (U 21)),
 ⟨10,(some 23),none,.gW (U 13) [(U 17),(U 22)],[],false⟩,
 ad 11 24 (.bin .lss 3 (U 23) (.const (.int .i64 0)))])
 (.cond (U 24) (.seq (.ak [ad 0 4 (.aq (.const (.bool false)))])
 .ret) .skip)))
 (.ak [af 0 11 5,
 ad 1 12 (.bin .sub 3 (U 11) (.const (.int .i64 1))),
 af 2 5 12])))
def Gb:aS:=(.seq (.ak [ad 0 4 (.aq (.const (.bool false)))])
 (.seq (.seq (.ak [af 0 6 0,
 ad 1 7 (.len (.ao 32) (U 6)),
 ad 2 8 (.bin .sub 3 (U 7) (.const (.int .i64 1))),
 af 3 5 8])
 (.block 0 (.loop W0)))
 (.seq (.ak [ad 0 4 (.aq (.const (.bool true)))])
 .ret)))
def Mk:List a6:=[.aq (U 4)]
theorem QP:bq Tryz.prog 148=some Gb:=by kernel_rfl
theorem ZH:br Tryz.prog 148=some Mk:=by kernel_rfl
def W1:aS:=(.seq (.seq (.ak [af 0 29 5,
 af 1 30 4,
 ad 2 31 (.len (.ao 32) (U 30)),
 ad 3 32 (.bin .lss 3 (U 29) (U 31))])
 (.cond (U 32) .skip (.exit 2)))
 (.seq (.block 3 (.seq (.ak [af 0 35 4,
 af 1 36 5,
 ad 2 37 (.bm (.ao 32) (U 35) (U 36)),
 ad 3 38 (.aW 32 (U 37)),
 af 4 39 4,
 af 5 40 5,
 ad 6 41 (.bin .sub 3 (U 40) (.const (.int .i64 1))),
 ad 7 42 (.bm (.ao 32) (U 39) (U 41)),
 ad 8 43 (.aW 32 (U 42)),
 ad 9 44 (.bin .neq 71 (U 38) (U 43))])
 (.cond (U 44) (.seq (.ak [af 0 45 0,
 af 1 46 3,
 af 2 47 4,
 af 3 48 5,
 ad 4 49 (.bm (.ao 32) (U 47) (U 48)),
 ad 5 50 (.aW 32 (U 49)),
 ad 6 51 (.bm (.ao 32) (U 45) (U 46)),
 bG 7 (.st 32 (U 51) (U 50))])
 (.ak [af 0 52 3,
 ad 1 53 (.bin .add 3 (U 52) (.const (.int .i64 1))),
 af 2 3 53])) .skip)))
 (.ak [af 0 33 5,
 ad 1 34 (.bin .add 3 (U 33) (.const (.int .i64 1))),
 af 2 5 34])))
def W2:aS:=(.seq (.seq (.ak [af 0 10 3,
 af 1 11 0,
 ad 2 12 (.len (.ao 32) (U 11)),
 ad 3 13 (.bin .lss 3 (U 10) (U 12))])
 (.cond (U 13) .skip (.exit 0)))
 (.seq (.block 1 (.seq (.ak [af 0 16 0,
 af 1 17 3,
 ad 2 18 (.bm (.ao 32) (U 16) (U 17)),
 ad 3 19 (.aW 32 (U 18)),
 af 4 20 0,
 af 5 21 3,
 ad 6 22 (.bin .sub 3 (U 21) (.const (.int .i64 1))),
 ad 7 23 (.bm (.ao 32) (U 20) (U 22)),
 ad 8 24 (.aW 32 (U 23)),
 ad 9 25 (.bin .eql 71 (U 19) (U 24))])
 (.cond (U 25) (.seq (.ak [af 0 26 0,
 af 1 27 3,
 ad 2 28 (.slice (.ao 32) (U 26) (some (U 27)) none none),
 af 3 4 28])
 (.seq (.seq (.ak [ad 0 5 (.aq (.const (.int .i64 1)))])
 (.block 2 (.loop W1)))
 (.seq (.ak [af 0 54 0,
 af 1 55 3,
 ad 2 56 (.slice (.ao 32) (U 54) (some (U 55)) none none),
 bG 3 (.qn (rep 32 (.int .u8 0)) (U 56))])
 (.seq (.ak [af 0 57 0,
 af 1 58 3,
 ad 2 59 (.slice (.ao 32) (U 57) none (some (U 58)) none),
 af 3 2 59])
 .ret)))) .skip)))
 (.ak [af 0 14 3,
 ad 1 15 (.bin .add 3 (U 14) (.const (.int .i64 1))),
 af 2 3 15])))
def Gc:aS:=(.seq (.ak [ad 0 2 (.aq (.const (.slice none 0 0)))])
 (.seq (.seq (.ak [af 0 6 0,
 ad 1 7 (.len (.ao 32) (U 6)),
 ad 2 8 (.bin .lss 3 (U 7) (.const (.int .i64 2)))])
 (.cond (U 8) (.seq (.ak [af 0 9 0,
 af 1 2 9])
 .ret) .skip))
 (.seq (.seq (.ak [ad 0 3 (.aq (.const (.int .i64 1)))])
 (.block 0 (.loop W2)))
 (.seq (.ak [af 0 60 0,
 af 1 2 60])
 .ret))))
def Ml:List a6:=[.aq (U 2)]
theorem QQ:bq Tryz.prog 149=some Gc:=by kernel_rfl
theorem ZI:br Tryz.prog 149=some Ml:=by kernel_rfl
def Gd:aS:=(.seq (.ak [ad 0 2 (.aq (.const (.slice none 0 0)))])
 (.seq (.seq (.ak [af 0 3 0,
 ad 1 4 (.bin .eql 26 (U 3) (.const (.slice none 0 0)))])
 (.cond (U 4) (.seq (.ak [ad 0 2 (.aq (.const (.slice none 0 0)))])
 .ret) .skip))
 (.seq (.ak [ad 0 5 (.cQ 32 (rep 32 (.int .u8 0)) 0 []),
 af 1 6 0,
 ad 2 7 (.app 32 32 (U 5) (U 6)),
 af 3 2 7])
 .ret)))
def Mm:List a6:=[.aq (U 2)]
theorem QR:bq Tryz.prog 150=some Gd:=by kernel_rfl
theorem ZJ:br Tryz.prog 150=some Mm:=by kernel_rfl
def Ge:aS:=(.seq (.ak [ad 0 2 (.aq (.const (.bool false)))])
 (.seq (.ak [af 0 3 0,
 ad 1 4 (.bin .gtr 25 (U 3) (.const (.int .u32 0))),
 af 2 5 4,
 aF 3 6 5 true (.aq (U 0)),
 aF 4 7 5 true (.bin .lss 25 (U 6) (.const (.int .u32 1000000007))),
 ad 5 8 (.pick (U 5) (U 7) (.const (.bool false))),
 af 6 9 8,
 aF 7 10 9 true (.aq (U 0)),
 ⟨8,(some 11),(some ((some 9),true)),.cR 183 [(U 10),(.const (.int .u64 500000003))],[],false⟩,
 aF 9 12 9 true (.bin .eql 25 (U 11) (.const (.int .u32 1))),
 ad 10 13 (.pick (U 9) (U 12) (.const (.bool false))),
 af 11 2 13])
 .ret))
def Mn:List a6:=[.aq (U 2)]
theorem QS:bq Tryz.prog 151=some Ge:=by kernel_rfl
theorem ZK:br Tryz.prog 151=some Mn:=by kernel_rfl
def W3:aS:=(.seq (.ak [ad 0 20 (.bin .lss 3 (U 19) (U 18))])
 (.seq (.cond (U 20) .skip (.exit 0))
 (.seq (.block 1 (.seq (.ak [ad 0 21 (.bm (.ao 32) (U 17) (U 19)),
 ad 1 22 (.aW 32 (U 21)),
 ad 2 6 (.alloc (rep 32 (.int .u8 0))),
 bG 3 (.st 32 (U 6) (U 22))])
 (.ak [af 0 23 4,
 ad 1 24 (.slice (.arr 32 1) (U 6) none none none),
 ad 2 25 (.app 1 1 (U 23) (U 24)),
 af 3 4 25])))
 (.ak [ad 0 26 (.bin .add 3 (U 19) (.const (.int .i64 1))),
 af 1 19 26]))))
def Gf:aS:=(.seq (.ak [ad 0 2 (.aq (.const (.slice none 0 0))),
 ad 1 3 (.aq (.const (.int .i64 0)))])
 (.seq (.seq (.ak [af 0 7 0,
 ad 1 8 (.len (.ao 32) (U 7)),
 ad 2 9 (.bin .gtr 3 (U 8) (.const (.int .i64 60)))])
 (.cond (U 9) (.seq (.ak [ad 0 2 (.aq (.const (.slice none 0 0))),
 ad 1 3 (.aq (.const (.int .i64 4)))])
 .ret) .skip))
 (.seq (.seq (.ak [af 0 10 0,
 sc 1 11 184 [(U 10)],
 ad 2 12 (.un .not (U 11))])
 (.cond (U 12) (.seq (.ak [ad 0 2 (.aq (.const (.slice none 0 0))),
 ad 1 3 (.aq (.const (.int .i64 32)))])
 .ret) .skip))
 (.seq (.ak [af 0 13 0,
 ad 1 14 (.len (.ao 32) (U 13)),
 ad 2 15 (.cB .u64 (U 14)),
 sc 3 16 110 [(U 15)],
 af 4 4 16])
 (.seq (.seq (.ak [af 0 17 0,
 ad 1 18 (.len (.ao 32) (U 17)),
 ad 2 19 (.aq (.const (.int .i64 0)))])
 (.block 0 (.loop W3)))
 (.seq (.ak [af 0 27 4,
 af 1 2 27,
 ad 2 3 (.aq (.const (.int .i64 0)))])
 .ret))))))
def Mo:List a6:=[.aq (U 2),.aq (U 3)]
theorem QT:bq Tryz.prog 152=some Gf:=by kernel_rfl
theorem ZL:br Tryz.prog 152=some Mo:=by kernel_rfl
def Gg:aS:=(.seq (.ak [ad 0 2 (.aq (.const (.slice none 0 0))),
 ad 1 3 (.aq (.const (.int .i64 0)))])
 (.seq (.seq (.ak [af 0 4 0,
 ad 1 5 (.len (.ao 1) (U 4)),
 ad 2 6 (.bin .gtr 3 (U 5) (.const (.int .i64 10000)))])
 (.cond (U 6) (.seq (.ak [ad 0 2 (.aq (.const (.slice none 0 0))),
 ad 1 3 (.aq (.const (.int .i64 4)))])
 .ret) .skip))
 (.seq (.ak [af 0 7 0,
 ad 1 8 (.len (.ao 1) (U 7)),
 ad 2 9 (.cB .u64 (U 8)),
 sc 3 10 110 [(U 9)],
 af 4 11 0,
 ad 5 12 (.app 1 1 (U 10) (U 11)),
 af 6 2 12,
 ad 7 3 (.aq (.const (.int .i64 0)))])
 .ret)))
def Mp:List a6:=[.aq (U 2),.aq (U 3)]
theorem QU:bq Tryz.prog 153=some Gg:=by kernel_rfl
theorem ZM:br Tryz.prog 153=some Mp:=by kernel_rfl
def W4:aS:=(.seq (.seq (.ak [af 0 28 6,
 ad 1 29 (.bin .geq 3 (U 28) (.const (.int .i64 0)))])
 (.cond (U 29) .skip (.exit 1)))
 (.seq (.block 2 (.ak [af 0 32 5,
 ad 1 33 (.aO 2 (U 1)),
 ad 2 34 (.ld1 (U 33)),
 af 3 35 6,
 ad 4 36 (.bin .shr 27 (U 34) (U 35)),
 ad 5 37 (.cB .u8 (U 36)),
 ad 6 38 (.cQ 1 [.int .u8 0] 1 [(0,(U 37))]),
 ad 7 39 (.app 1 1 (U 32) (U 38)),
 af 8 5 39]))
 (.ak [af 0 30 6,
 ad 1 31 (.bin .sub 3 (U 30) (.const (.int .i64 8))),
 af 2 6 31])))
def Gh:aS:=(.seq (.ak [ad 0 1 (.box (U 0)),
 ad 1 2 (.aq (.const (.slice none 0 0))),
 ad 2 3 (.aq (.const (.int .i64 0)))])
 (.seq (.seq (.ak [ad 0 9 (.aW 4 (U 1)),
 sc 1 10 83 [(U 9)],
 af 2 4 10])
 (.seq (.ak [af 0 11 4,
 ad 1 12 (.bin .neq 38 (U 11) (.const (.int .i64 0)))])
 (.cond (U 12) (.seq (.ak [af 0 13 4,
 ad 1 2 (.aq (.const (.slice none 0 0))),
 af 2 3 13])
 .ret) .skip)))
 (.seq (.ak [ad 0 14 (.aO 0 (U 1)),
 ad 1 15 (.ld1 (U 14)),
 ad 2 16 (.cQ 1 [.int .u8 0] 1 [(0,(U 15))]),
 af 3 5 16])
 (.seq (.seq (.ak [ad 0 17 (.aO 0 (U 1)),
 ad 1 18 (.ld1 (U 17))])
 (.block 0 (.seq (.ak [ad 0 20 (.bin .eql 5 (U 18) (.const (.int .u8 1))),
 af 1 19 20])
 (.cond (U 19) (.ak [af 0 21 5,
 ad 1 22 (.aO 1 (U 1)),
 ad 2 23 (.ld1 (U 22)),
 sc 3 24 185 [(U 23)],
 ad 4 25 (.app 1 1 (U 21) (U 24)),
 af 5 5 25]) (.seq (.ak [ad 0 27 (.bin .eql 5 (U 18) (.const (.int .u8 2))),
 af 1 26 27])
 (.cond (U 26) (.seq (.ak [ad 0 6 (.aq (.const (.int .i64 56)))])
 (.block 1 (.loop W4))) (.seq (.ak [ad 0 41 (.bin .eql 5 (U 18) (.const (.int .u8 3))),
 af 1 40 41])
 (.cond (U 40) (.seq (.ak [ad 0 43 (.aO 3 (U 1)),
 ad 1 44 (.ld1 (U 43)),
 ad 2 45 (.qp (U 44)),
 sc 3 46 153 [(U 45)],
 af 4 42 46,
 ad 5 47 (.ext (U 42) 0),
 ad 6 48 (.ext (U 42) 1),
 af 7 7 47,
 af 8 8 48])
 (.ak [af 0 49 5,
 af 1 50 7,
 ad 2 51 (.app 1 1 (U 49) (U 50)),
 af 3 5 51])) .skip))))))))
 (.seq (.ak [af 0 52 5,
 af 1 2 52,
 ad 2 3 (.aq (.const (.int .i64 0)))])
 .ret)))))
def Mq:List a6:=[.aq (U 2),.aq (U 3)]
theorem QV:bq Tryz.prog 154=some Gh:=by kernel_rfl
theorem ZN:br Tryz.prog 154=some Mq:=by kernel_rfl
def B3:aS:=(.seq (.ak [ad 0 4 (.aq (.const (.slice none 0 0)))])
 (.seq (.seq (.ak [af 0 5 1,
 ad 1 6 (.bin .lss 3 (U 5) (.const (.int .i64 0)))])
 (.cond (U 6) (.ak [ad 0 7 (.sK 9 (.const (.string ⟨#[99,97,110,110,111,116,32,98,101,32,110,101,103,97,116,105,118,101]⟩))),
 bG 1 (.stop)]) .skip))
 (.seq (.seq (.ak [af 0 8 1,
 af 1 9 0,
 ad 2 10 (.cap (.ao 1) (U 9)),
 af 3 11 0,
 ad 4 12 (.len (.ao 1) (U 11)),
 ad 5 13 (.bin .sub 3 (U 10) (U 12)),
 ad 6 14 (.bin .sub 3 (U 8) (U 13)),
 af 7 1 14])
 (.seq (.ak [af 0 15 1,
 ad 1 16 (.bin .gtr 3 (U 15) (.const (.int .i64 0)))])
 (.cond (U 16) (.ak [af 0 17 0,
 af 1 18 0,
 ad 2 19 (.cap (.ao 1) (U 18)),
 ad 3 20 (.slice (.ao 1) (U 17) none (some (U 19)) none),
 af 4 21 1,
 ad 5 22 (.qg 1 1 [.int .u8 0] (U 20) (U 21)),
 af 6 23 0,
 ad 7 24 (.len (.ao 1) (U 23)),
 ad 8 25 (.slice (.ao 1) (U 22) none (some (U 24)) none),
 af 9 0 25]) .skip)))
 (.seq (.ak [af 0 26 0,
 af 1 4 26])
 .ret))))
def Ej:List a6:=[.aq (U 4)]
theorem Gi:bq Tryz.prog 155=some B3:=by kernel_rfl
theorem Mr:br Tryz.prog 155=some Ej:=by kernel_rfl
def Gj:aS:=(.seq (.ak [ad 0 4 (.aq (.const (.bool false)))])
 (.seq (.ak [af 0 5 0,
 af 1 6 1,
 sc 2 7 186 [(U 5),(U 6)],
 ad 3 8 (.bin .geq 3 (U 7) (.const (.int .i64 0))),
 af 4 4 8])
 .ret))
def Ms:List a6:=[.aq (U 4)]
theorem QW:bq Tryz.prog 156=some Gj:=by kernel_rfl
theorem ZO:br Tryz.prog 156=some Ms:=by kernel_rfl
def Gk:aS:=(.seq (.ak [ad 0 2 (.aq (.const (.bool false)))])
 (.seq (.ak [af 0 3 0,
 ad 1 4 (.len (.ao 1) (U 3)),
 ad 2 5 (.bin .gtr 3 (U 4) (.const (.int .i64 10000))),
 af 3 2 5])
 .ret))
def Mt:List a6:=[.aq (U 2)]
theorem QX:bq Tryz.prog 157=some Gk:=by kernel_rfl
theorem ZP:br Tryz.prog 157=some Mt:=by kernel_rfl
def Gl:aS:=(.seq (.ak [ad 0 0 (.alloc [.int .u32 0,.int .u32 0,.int .u32 0,.int .u32 0,.int .u32 0,.int .u32 0,.int .u32 0,.int .u32 0,.aX,.int .i64 0])])
 (.seq (.ak [ad 0 1 (.eh [.int .u32 0,.int .u32 0,.int .u32 0,.int .u32 0,.int .u32 0,.int .u32 0,.int .u32 0,.int .u32 0] [(0,1,(.const (.int .u32 1779033703))),(1,1,(.const (.int .u32 3144134277))),(2,1,(.const (.int .u32 1013904242))),(3,1,(.const (.int .u32 2773480762))),(4,1,(.const (.int .u32 1359893119))),(5,1,(.const (.int .u32 2600822924))),(6,1,(.const (.int .u32 528734635))),(7,1,(.const (.int .u32 1541459225)))]),
 ad 1 2 (.eh [.int .u32 0,.int .u32 0,.int .u32 0,.int .u32 0,.int .u32 0,.int .u32 0,.int .u32 0,.int .u32 0,.aX,.int .i64 0] [(0,8,(U 1))]),
 bG 2 (.st 10 (U 0) (U 2))])
 .ret))
def Mu:List a6:=[.aW 10 (U 0)]
theorem QY:bq Tryz.prog 158=some Gl:=by kernel_rfl
theorem ZQ:br Tryz.prog 158=some Mu:=by kernel_rfl
def W5:aS:=(.seq (.seq (.ak [af 0 11 5,
 ad 1 12 (.len (.ao 1) (U 11)),
 ad 2 13 (.bin .geq 3 (U 12) (.const (.int .i64 64)))])
 (.cond (U 13) .skip (.exit 0)))
 (.block 1 (.seq (.ak [ad 0 14 (.aO 0 (U 2)),
 af 1 15 5,
 sc 2 16 187 [(U 14),(U 15)]])
 (.ak [af 0 17 5,
 ad 1 18 (.slice (.ao 1) (U 17) (some (.const (.int .i64 64))) none none),
 af 2 5 18]))))
def Gm:aS:=(.seq (.ak [ad 0 2 (.box (U 0)),
 ad 1 4 (.alloc [.int .u32 0,.int .u32 0,.int .u32 0,.int .u32 0,.int .u32 0,.int .u32 0,.int .u32 0,.int .u32 0,.aX,.int .i64 0])])
 (.seq (.ak [ad 0 6 (.aO 8 (U 2)),
 ad 1 7 (.ld1 (U 6)),
 af 2 8 1,
 ad 3 9 (.cQ 1 [.aX] 2 [(0,(U 7)),(1,(U 8))]),
 sc 4 10 109 [(U 9)],
 af 5 5 10])
 (.seq (.block 0 (.loop W5))
 (.seq (.gJ [ad 0 19 (.aO 9 (U 2)),
 ⟨1,(some 20),none,.cG (.ld1 (U 19)),[],true⟩,
 af 2 21 1,
 ad 3 22 (.len (.ao 1) (U 21)),
 ad 4 23 (.bin .add 3 (U 20) (U 22)),
 af 5 24 5,
 ⟨6,(some 25),none,.cR 188 [(U 24)],[1],false⟩,
 ad 7 26 (.aO 9 (U 2)),
 bG 8 (.st 1 (U 26) (U 23)),
 ad 9 27 (.aO 8 (U 2)),
 bG 10 (.st 1 (U 27) (U 25))])
 (.seq (.ak [ad 0 28 (.aW 10 (U 2)),
 bG 1 (.st 10 (U 4) (U 28))])
 .ret)))))
def Mv:List a6:=[.aW 10 (U 4)]
theorem QZ:bq Tryz.prog 159=some Gm:=by kernel_rfl
theorem ZR:br Tryz.prog 159=some Mv:=by kernel_rfl
def W6:aS:=(.seq (.seq (.ak [af 0 19 5,
 ad 1 20 (.bin .geq 3 (U 19) (.const (.int .i64 0)))])
 (.cond (U 20) .skip (.exit 0)))
 (.seq (.block 1 (.ak [af 0 23 4,
 af 1 24 3,
 af 2 25 5,
 ad 3 26 (.bin .shr 27 (U 24) (U 25)),
 ad 4 27 (.cB .u8 (U 26)),
 ad 5 28 (.cQ 1 [.int .u8 0] 1 [(0,(U 27))]),
 ad 6 29 (.app 1 1 (U 23) (U 28)),
 af 7 4 29]))
 (.ak [af 0 21 5,
 ad 1 22 (.bin .sub 3 (U 21) (.const (.int .i64 8))),
 af 2 5 22])))
def W7:aS:=(.seq (.ak [ad 0 35 (.bin .lss 3 (U 34) (.const (.int .i64 8)))])
 (.seq (.cond (U 35) .skip (.exit 2))
 (.seq (.block 3 (.seq (.ak [af 0 36 34,
 ad 1 37 (.v1 8 1 (U 33) (U 34)),
 af 2 6 36,
 af 3 7 37])
 (.ak [af 0 38 6,
 ad 1 39 (.bin .mul 3 (.const (.int .i64 4)) (U 38)),
 af 2 40 6,
 ad 3 41 (.bin .mul 3 (.const (.int .i64 4)) (U 40)),
 ad 4 42 (.bin .add 3 (U 41) (.const (.int .i64 1))),
 af 5 43 6,
 ad 6 44 (.bin .mul 3 (.const (.int .i64 4)) (U 43)),
 ad 7 45 (.bin .add 3 (U 44) (.const (.int .i64 2))),
 af 8 46 6,
 ad 9 47 (.bin .mul 3 (.const (.int .i64 4)) (U 46)),
 ad 10 48 (.bin .add 3 (U 47) (.const (.int .i64 3))),
 af 11 49 7,
 ad 12 50 (.bin .shr 25 (U 49) (.const (.int .u64 24))),
 ad 13 51 (.cB .u8 (U 50)),
 af 14 52 7,
 ad 15 53 (.bin .shr 25 (U 52) (.const (.int .u64 16))),
 ad 16 54 (.cB .u8 (U 53)),
 af 17 55 7,
 ad 18 56 (.bin .shr 25 (U 55) (.const (.int .u64 8))),
 ad 19 57 (.cB .u8 (U 56)),
 af 20 58 7,
 ad 21 59 (.cB .u8 (U 58)),
 ad 22 60 (.bm (.arr 32 1) (U 2) (U 39)),
 bG 23 (.st 1 (U 60) (U 51)),
 ad 24 61 (.bm (.arr 32 1) (U 2) (U 42)),
 bG 25 (.st 1 (U 61) (U 54)),
 ad 26 62 (.bm (.arr 32 1) (U 2) (U 45)),
 bG 27 (.st 1 (U 62) (U 57)),
 ad 28 63 (.bm (.arr 32 1) (U 2) (U 48)),
 bG 29 (.st 1 (U 63) (U 59))])))
 (.ak [ad 0 64 (.bin .add 3 (U 34) (.const (.int .i64 1))),
 af 1 34 64]))))
def Gn:aS:=(.seq (.ak [ad 0 1 (.box (U 0)),
 ad 1 2 (.alloc (rep 32 (.int .u8 0)))])
 (.seq (.ak [ad 0 8 (.aO 9 (U 1)),
 ad 1 9 (.ld1 (U 8)),
 ad 2 10 (.cB .u64 (U 9)),
 ad 3 11 (.bin .mul 27 (U 10) (.const (.int .u64 8))),
 af 4 3 11])
 (.seq (.ak [ad 0 12 (.cQ 1 [.int .u8 0] 1 [(0,(.const (.int .u8 128)))]),
 ad 1 13 (.aO 9 (U 1)),
 ad 2 14 (.ld1 (U 13)),
 ad 3 15 (.bin .rem 3 (U 14) (.const (.int .i64 64))),
 ad 4 16 (.bin .sub 3 (.const (.int .i64 119)) (U 15)),
 ad 5 17 (.bin .rem 3 (U 16) (.const (.int .i64 64))),
 ad 6 18 (.qg 1 1 [.int .u8 0] (U 12) (U 17)),
 af 7 4 18])
 (.seq (.seq (.ak [ad 0 5 (.aq (.const (.int .i64 56)))])
 (.block 0 (.loop W6)))
 (.seq (.seq (.ak [ad 0 30 (.aW 10 (U 1)),
 af 1 31 4,
 sc 2 32 159 [(U 30),(U 31)],
 ad 3 33 (.w9 8 0 (U 32)),
 ad 4 34 (.aq (.const (.int .i64 0)))])
 (.block 2 (.loop W7)))
 (.seq (.ak [ad 0 65 (.aW 32 (U 2)),
 bG 1 (.st 32 (U 2) (U 65))])
 .ret))))))
def Mw:List a6:=[.aW 32 (U 2)]
theorem Q0:bq Tryz.prog 160=some Gn:=by kernel_rfl
theorem ZS:br Tryz.prog 160=some Mw:=by kernel_rfl
def W8:aS:=(.seq (.ak [ad 0 11 (.sN (U 10)),
 ad 1 12 (.ext (U 11) 0)])
 (.seq (.cond (U 12) .skip (.exit 0))
 (.block 1 (.seq (.ak [ad 0 13 (.ext (U 11) 1),
 ad 1 14 (.ext (U 11) 2),
 af 2 7 13,
 af 3 8 14])
 (.seq (.ak [af 0 15 1,
 af 1 16 8,
 ⟨2,(some 17),none,.gW (U 15) [(U 16)],[],false⟩,
 af 3 18 2,
 ad 4 19 (.bin .eql 4 (U 17) (U 18))])
 (.cond (U 19) (.seq (.ak [af 0 20 7,
 af 1 6 20])
 .ret) .skip))))))
def Gp:aS:=(.seq (.ak [ad 0 6 (.aq (.const (.int .i64 0)))])
 (.seq (.seq (.ak [af 0 9 0,
 ad 1 10 (.sW (U 9))])
 (.block 0 (.loop W8)))
 (.seq (.ak [ad 0 6 (.aq (.const (.int .i64 (-1))))])
 .ret)))
def Mx:List a6:=[.aq (U 6)]
theorem Q1:bq Tryz.prog 162=some Gp:=by kernel_rfl
theorem ZT:br Tryz.prog 162=some Mx:=by kernel_rfl
def Gq:aS:=(.seq (.ak [ad 0 2 (.aq (.const (.int .u64 0)))])
 (.seq (.seq (.ak [af 0 3 0,
 sc 1 4 189 [(U 3)],
 ad 2 5 (.bin .eql 5 (U 4) (.const (.int .u8 5)))])
 (.cond (U 5) (.seq (.ak [ad 0 2 (.aq (.const (.int .u64 9221120237041090560)))])
 .ret) .skip))
 (.seq (.ak [af 0 6 0,
 af 1 2 6])
 .ret)))
def My:List a6:=[.aq (U 2)]
theorem Q2:bq Tryz.prog 163=some Gq:=by kernel_rfl
theorem ZU:br Tryz.prog 163=some My:=by kernel_rfl
def Gr:aS:=(.seq (.ak [ad 0 2 (.aq (.const (.bool false)))])
 (.seq (.ak [af 0 3 0,
 ad 1 4 (.bin .lss 21 (U 3) (.const (.int .i32 32))),
 af 2 5 4,
 aF 3 6 5 false (.aq (U 0)),
 aF 4 7 5 false (.bin .gtr 21 (U 6) (.const (.int .i32 126))),
 ad 5 8 (.pick (U 5) (.const (.bool true)) (U 7)),
 af 6 2 8])
 .ret))
def Mz:List a6:=[.aq (U 2)]
theorem Q3:bq Tryz.prog 164=some Gr:=by kernel_rfl
theorem ZV:br Tryz.prog 164=some Mz:=by kernel_rfl
def Gs:aS:=(.seq (.ak [ad 0 4 (.aq (.const (.int .u32 0))),
 ad 1 5 (.aq (.const (.int .i64 0)))])
 (.seq (.seq (.ak [af 0 6 0,
 ad 1 7 (.cQ 1 [.int .u32 0] 1 [(0,(U 6))]),
 sc 2 8 190 [(U 7)],
 ad 3 9 (.un .not (U 8))])
 (.cond (U 9) (.seq (.ak [ad 0 4 (.aq (.const (.int .u32 0))),
 ad 1 5 (.aq (.const (.int .i64 2)))])
 .ret) .skip))
 (.seq (.ak [af 0 10 0,
 af 1 11 1,
 sc 2 12 183 [(U 10),(U 11)],
 af 3 4 12,
 ad 4 5 (.aq (.const (.int .i64 0)))])
 .ret)))
def MA:List a6:=[.aq (U 4),.aq (U 5)]
theorem Q4:bq Tryz.prog 165=some Gs:=by kernel_rfl
theorem ZW:br Tryz.prog 165=some MA:=by kernel_rfl
def Gt:aS:=(.seq (.ak [ad 0 4 (.aq (.const (.int .u32 0))),
 ad 1 5 (.aq (.const (.int .i64 0)))])
 (.seq (.seq (.ak [af 0 6 0,
 af 1 7 1,
 ad 2 8 (.cQ 1 [.int .u32 0] 2 [(0,(U 6)),(1,(U 7))]),
 sc 3 9 190 [(U 8)],
 ad 4 10 (.un .not (U 9))])
 (.cond (U 10) (.seq (.ak [ad 0 4 (.aq (.const (.int .u32 0))),
 ad 1 5 (.aq (.const (.int .i64 2)))])
 .ret) .skip))
 (.seq (.ak [af 0 11 0,
 af 1 12 1,
 ad 2 13 (.cQ 1 [.int .u32 0] 2 [(0,(U 11)),(1,(U 12))]),
 sc 3 14 191 [(.const (.int .u64 1000000007)),(U 13)],
 af 4 4 14,
 ad 5 5 (.aq (.const (.int .i64 0)))])
 .ret)))
def MB:List a6:=[.aq (U 4),.aq (U 5)]
theorem Q5:bq Tryz.prog 166=some Gt:=by kernel_rfl
theorem ZX:br Tryz.prog 166=some MB:=by kernel_rfl
def Gu:aS:=(.seq (.ak [ad 0 2 (.aq (.const (.int .u32 0)))])
 (.seq (.ak [af 0 3 0,
 sc 1 4 183 [(.const (.int .u32 4)),(U 3)],
 af 2 2 4])
 .ret))
def MC:List a6:=[.aq (U 2)]
theorem Q6:bq Tryz.prog 167=some Gu:=by kernel_rfl
theorem ZY:br Tryz.prog 167=some MC:=by kernel_rfl
def Gv:aS:=(.seq (.ak [ad 0 6 (.aq (.const (.int .u32 0))),
 ad 1 7 (.aq (.const (.int .i64 0)))])
 (.seq (.ak [af 0 11 2,
 af 1 12 0,
 af 2 13 1,
 ad 3 14 (.cQ 1 [.int .u32 0] 2 [(0,(U 12)),(1,(U 13))]),
 sc 4 15 192 [(.const (.int .u8 99)),(U 11),(U 14)],
 af 5 10 15,
 ad 6 16 (.ext (U 10) 0),
 ad 7 17 (.ext (U 10) 1),
 af 8 8 16,
 af 9 9 17])
 (.seq (.seq (.ak [af 0 18 9,
 ad 1 19 (.bin .neq 38 (U 18) (.const (.int .i64 0)))])
 (.cond (U 19) (.seq (.ak [af 0 20 9,
 ad 1 6 (.aq (.const (.int .u32 0))),
 af 2 7 20])
 .ret) .skip))
 (.seq (.ak [af 0 21 8,
 ad 1 22 (.bin .rem 27 (U 21) (.const (.int .u64 500000003))),
 ad 2 23 (.cB .u32 (U 22)),
 af 3 6 23,
 ad 4 7 (.aq (.const (.int .i64 0)))])
 .ret))))
def MD:List a6:=[.aq (U 6),.aq (U 7)]
theorem Q7:bq Tryz.prog 168=some Gv:=by kernel_rfl
theorem ZZ:br Tryz.prog 168=some MD:=by kernel_rfl
def Gx:aS:=(.seq (.ak [ad 0 2 (.aq (.const (.int .u32 0))),
 ad 1 3 (.aq (.const (.int .i64 0)))])
 (.seq (.seq (.ak [af 0 4 0,
 sc 1 5 64 [(U 4)],
 ad 2 6 (.un .not (U 5))])
 (.cond (U 6) (.seq (.ak [ad 0 2 (.aq (.const (.int .u32 0))),
 ad 1 3 (.aq (.const (.int .i64 2)))])
 .ret) .skip))
 (.seq (.ak [af 0 7 0,
 sc 1 8 175 [(U 7),(.const (.int .u64 500000002))],
 af 2 2 8,
 ad 3 3 (.aq (.const (.int .i64 0)))])
 .ret)))
def ME:List a6:=[.aq (U 2),.aq (U 3)]
theorem Q8:bq Tryz.prog 174=some Gx:=by kernel_rfl
theorem Z0:br Tryz.prog 174=some ME:=by kernel_rfl
def Gy:aS:=(.seq (.ak [ad 0 4 (.aq (.const (.int .u32 0)))])
 (.seq (.ak [af 0 5 0,
 ad 1 6 (.cB .u64 (U 5)),
 af 2 7 1,
 sc 3 8 95 [(U 6),(U 7),(.const (.int .u64 1000000007))],
 ad 4 9 (.cB .u32 (U 8)),
 af 5 4 9])
 .ret))
def MF:List a6:=[.aq (U 4)]
theorem Q9:bq Tryz.prog 175=some Gy:=by kernel_rfl
theorem Z1:br Tryz.prog 175=some MF:=by kernel_rfl
def Gz:aS:=(.seq (.ak [ad 0 4 (.aq (.const (.int .u32 0)))])
 (.seq (.ak [af 0 5 0,
 ad 1 6 (.cB .u64 (U 5)),
 af 2 7 1,
 ad 3 8 (.cB .u64 (U 7)),
 ad 4 9 (.bin .mul 27 (U 6) (U 8)),
 ad 5 10 (.bin .rem 27 (U 9) (.const (.int .u64 1000000007))),
 ad 6 11 (.cB .u32 (U 10)),
 af 7 4 11])
 .ret))
def MG:List a6:=[.aq (U 4)]
theorem Ra:bq Tryz.prog 176=some Gz:=by kernel_rfl
theorem Z2:br Tryz.prog 176=some MG:=by kernel_rfl
def GC:aS:=(.seq (.ak [ad 0 2 (.aq (.const (.int .u8 0)))])
 (.seq (.ak [af 0 5 0,
 sc 1 6 194 [(U 5)],
 af 2 7 0,
 sc 3 8 195 [(U 7)],
 af 4 3 6,
 af 5 4 8])
 (.seq (.seq (.ak [af 0 9 3,
 ad 1 10 (.bin .eql 3 (U 9) (.const (.int .i64 0))),
 af 2 11 10,
 aF 3 12 11 true (.aq (U 4)),
 aF 4 13 11 true (.bin .eql 27 (U 12) (.const (.int .u64 0))),
 ad 5 14 (.pick (U 11) (U 13) (.const (.bool false)))])
 (.cond (U 14) (.seq (.ak [ad 0 2 (.aq (.const (.int .u8 1)))])
 .ret) .skip))
 (.seq (.seq (.ak [af 0 15 3,
 ad 1 16 (.bin .eql 3 (U 15) (.const (.int .i64 0)))])
 (.cond (U 16) (.seq (.ak [ad 0 2 (.aq (.const (.int .u8 2)))])
 .ret) .skip))
 (.seq (.seq (.ak [af 0 17 3,
 ad 1 18 (.bin .lss 3 (U 17) (.const (.int .i64 2047)))])
 (.cond (U 18) (.seq (.ak [ad 0 2 (.aq (.const (.int .u8 3)))])
 .ret) .skip))
 (.seq (.seq (.ak [af 0 19 4,
 ad 1 20 (.bin .eql 27 (U 19) (.const (.int .u64 0)))])
 (.cond (U 20) (.seq (.ak [ad 0 2 (.aq (.const (.int .u8 4)))])
 .ret) .skip))
 (.seq (.ak [ad 0 2 (.aq (.const (.int .u8 5)))])
 .ret)))))))
def MH:List a6:=[.aq (U 2)]
theorem Rb:bq Tryz.prog 177=some GC:=by kernel_rfl
theorem Z3:br Tryz.prog 177=some MH:=by kernel_rfl
def GD:aS:=(.seq (.ak [ad 0 4 (.aq (.const (.int .u32 0)))])
 (.seq (.ak [af 0 5 0,
 af 1 6 1,
 ad 2 7 (.bin .shr 25 (U 5) (U 6)),
 af 3 8 0,
 af 4 9 1,
 ad 5 10 (.bin .sub 3 (.const (.int .i64 32)) (U 9)),
 ad 6 11 (.bin .shl 25 (U 8) (U 10)),
 ad 7 12 (.bin .or 25 (U 7) (U 11)),
 af 8 4 12])
 .ret))
def MI:List a6:=[.aq (U 4)]
theorem Rc:bq Tryz.prog 178=some GD:=by kernel_rfl
theorem Z4:br Tryz.prog 178=some MI:=by kernel_rfl
def Re:aS:=(.seq (.ak [ad 0 0 (.aq (.const (.slice none 0 0)))])
 (.seq (.ak [ad 0 1 (.cQ 1 [.int .u32 0] 64 [(0,(.const (.int .u32 1116352408))),(1,(.const (.int .u32 1899447441))),(2,(.const (.int .u32 3049323471))),(3,(.const (.int .u32 3921009573))),(4,(.const (.int .u32 961987163))),(5,(.const (.int .u32 1508970993))),(6,(.const (.int .u32 2453635748))),(7,(.const (.int .u32 2870763221))),(8,(.const (.int .u32 3624381080))),(9,(.const (.int .u32 310598401))),(10,(.const (.int .u32 607225278))),(11,(.const (.int .u32 1426881987))),(12,(.const (.int .u32 1925078388))),(13,(.const (.int .u32 2162078206))),(14,(.const (.int .u32 2614888103))),(15,(.const (.int .u32 3248222580))),(16,(.const (.int .u32 3835390401))),(17,(.const (.int .u32 4022224774))),(18,(.const (.int .u32 264347078))),(19,(.const (.int .u32 604807628))),(20,(.const (.int .u32 770255983))),(21,(.const (.int .u32 1249150122))),(22,(.const (.int .u32 1555081692))),(23,(.const (.int .u32 1996064986))),(24,(.const (.int .u32 2554220882))),(25,(.const (.int .u32 2821834349))),(26,(.const (.int .u32 2952996808))),(27,(.const (.int .u32 3210313671))),(28,(.const (.int .u32 3336571891))),(29,(.const (.int .u32 3584528711))),(30,(.const (.int .u32 113926993))),(31,(.const (.int .u32 338241895))),(32,(.const (.int .u32 666307205))),(33,(.const (.int .u32 773529912))),(34,(.const (.int .u32 1294757372))),(35,(.const (.int .u32 1396182291))),(36,(.const (.int .u32 1695183700))),(37,(.const (.int .u32 1986661051))),(38,(.const (.int .u32 2177026350))),(39,(.const (.int .u32 2456956037))),(40,(.const (.int .u32 2730485921))),(41,(.const (.int .u32 2820302411))),(42,(.const (.int .u32 3259730800))),(43,(.const (.int .u32 3345764771))),(44,(.const (.int .u32 3516065817))),(45,(.const (.int .u32 3600352804))),(46,(.const (.int .u32 4094571909))),(47,(.const (.int .u32 275423344))),(48,(.const (.int .u32 430227734))),(49,(.const (.int .u32 506948616))),(50,(.const (.int .u32 659060556))),(51,(.const (.int .u32 883997877))),(52,(.const (.int .u32 958139571))),(53,(.const (.int .u32 1322822218))),(54,(.const (.int .u32 1537002063))),(55,(.const (.int .u32 1747873779))),(56,(.const (.int .u32 1955562222))),(57,(.const (.int .u32 2024104815))),(58,(.const (.int .u32 2227730452))),(59,(.const (.int .u32 2361852424))),(60,(.const (.int .u32 2428436474))),(61,(.const (.int .u32 2756734187))),(62,(.const (.int .u32 3204031479))),(63,(.const (.int .u32 3329325298)))]),
 af 1 0 1])
 .ret))
def Z5:List a6:=[.aq (U 0)]
theorem afc:bq Tryz.prog 179=some Re:=by kernel_rfl
theorem anl:br Tryz.prog 179=some Z5:=by kernel_rfl
def GG:aS:=(.seq (.ak [ad 0 2 (.aq (.const (.slice none 0 0)))])
 (.seq (.seq (.ak [af 0 3 0,
 ad 1 4 (.bin .geq 2 (U 3) (.const (.int .i64 0)))])
 (.cond (U 4) (.seq (.ak [af 0 5 0,
 ad 1 6 (.cB .u64 (U 5)),
 ad 2 7 (.bin .mul 27 (.const (.int .u64 2)) (U 6)),
 sc 3 8 102 [(U 7)],
 af 4 2 8])
 .ret) .skip))
 (.seq (.ak [af 0 9 0,
 ad 1 10 (.bin .add 2 (U 9) (.const (.int .i64 1))),
 ad 2 11 (.un .neg (U 10)),
 ad 3 12 (.cB .u64 (U 11)),
 ad 4 13 (.bin .mul 27 (.const (.int .u64 2)) (U 12)),
 ad 5 14 (.bin .add 27 (U 13) (.const (.int .u64 1))),
 sc 6 15 102 [(U 14)],
 af 7 2 15])
 .ret)))
def MJ:List a6:=[.aq (U 2)]
theorem Rg:bq Tryz.prog 180=some GG:=by kernel_rfl
theorem Z7:br Tryz.prog 180=some MJ:=by kernel_rfl
def GH:aS:=(.seq (.ak [ad 0 2 (.aq (.const (.slice none 0 0)))])
 (.seq (.ak [af 0 3 0,
 ad 1 4 (.bin .quo 25 (U 3) (.const (.int .u32 16777216))),
 ad 2 5 (.cB .u8 (U 4)),
 af 3 6 0,
 ad 4 7 (.bin .quo 25 (U 6) (.const (.int .u32 65536))),
 ad 5 8 (.bin .rem 25 (U 7) (.const (.int .u32 256))),
 ad 6 9 (.cB .u8 (U 8)),
 af 7 10 0,
 ad 8 11 (.bin .quo 25 (U 10) (.const (.int .u32 256))),
 ad 9 12 (.bin .rem 25 (U 11) (.const (.int .u32 256))),
 ad 10 13 (.cB .u8 (U 12)),
 af 11 14 0,
 ad 12 15 (.bin .rem 25 (U 14) (.const (.int .u32 256))),
 ad 13 16 (.cB .u8 (U 15)),
 ad 14 17 (.cQ 1 [.int .u8 0] 4 [(0,(U 5)),(1,(U 9)),(2,(U 13)),(3,(U 16))]),
 af 15 2 17])
 .ret))
def MK:List a6:=[.aq (U 2)]
theorem Rh:bq Tryz.prog 181=some GH:=by kernel_rfl
theorem Z8:br Tryz.prog 181=some MK:=by kernel_rfl
def W9:aS:=(.seq (.seq (.ak [af 0 8 5,
 ad 1 9 (.bin .lss 3 (U 8) (.const (.int .i64 8)))])
 (.cond (U 9) .skip (.exit 0)))
 (.seq (.block 1 (.ak [af 0 12 4,
 ad 1 13 (.bin .mul 27 (.const (.int .u64 256)) (U 12)),
 af 2 14 5,
 ad 3 15 (.bm (.arr 32 1) (U 3) (U 14)),
 ad 4 16 (.ld1 (U 15)),
 ad 5 17 (.cB .u64 (U 16)),
 ad 6 18 (.bin .add 27 (U 13) (U 17)),
 af 7 4 18]))
 (.ak [af 0 10 5,
 ad 1 11 (.bin .add 3 (U 10) (.const (.int .i64 1))),
 af 2 5 11])))
def GI:aS:=(.seq (.ak [ad 0 2 (.aq (.const (.int .u64 0)))])
 (.seq (.ak [af 0 6 0,
 sc 1 7 67 [(U 6)],
 ad 2 3 (.alloc (rep 32 (.int .u8 0))),
 bG 3 (.st 32 (U 3) (U 7))])
 (.seq (.ak [ad 0 4 (.aq (.const (.int .u64 0)))])
 (.seq (.seq (.ak [ad 0 5 (.aq (.const (.int .i64 0)))])
 (.block 0 (.loop W9)))
 (.seq (.ak [af 0 19 4,
 af 1 2 19])
 .ret)))))
def ML:List a6:=[.aq (U 2)]
theorem Ri:bq Tryz.prog 182=some GI:=by kernel_rfl
theorem Z9:br Tryz.prog 182=some ML:=by kernel_rfl
def Xa:aS:=(.seq (.ak [ad 0 10 (.bin .lss 3 (U 9) (.const (.int .i64 64)))])
 (.seq (.cond (U 10) .skip (.exit 0))
 (.seq (.block 1 (.seq (.ak [af 0 11 9,
 af 1 7 11])
 (.seq (.ak [af 0 12 6,
 ⟨1,(some 13),none,.gW (U 12) [],[],false⟩])
 (.seq (.ak [af 0 14 1,
 af 1 15 7,
 ad 2 16 (.bin .sub 3 (.const (.int .i64 63)) (U 15)),
 ad 3 17 (.bin .shr 27 (U 14) (U 16)),
 ad 4 18 (.bin .and 27 (U 17) (.const (.int .u64 1))),
 ad 5 19 (.bin .eql 27 (U 18) (.const (.int .u64 1)))])
 (.cond (U 19) (.ak [ad 0 20 (.ld1 (U 5)),
 af 1 21 0,
 ad 2 22 (.cQ 1 [.int .u32 0] 2 [(0,(U 20)),(1,(U 21))]),
 sc 3 23 191 [(.const (.int .u64 1000000007)),(U 22)],
 bG 4 (.st 1 (U 5) (U 23))]) .skip)))))
 (.ak [ad 0 24 (.bin .add 3 (U 9) (.const (.int .i64 1))),
 af 1 9 24]))))
def GJ:aS:=(.seq (.ak [ad 0 4 (.aq (.const (.int .u32 0)))])
 (.seq (.ak [ad 0 5 (.alloc [.int .u32 0]),
 bG 1 (.st 1 (U 5) (.const (.int .u32 1)))])
 (.seq (.ak [ad 0 8 (.pM 196 [] [(U 5)]),
 af 1 6 8])
 (.seq (.seq (.ak [ad 0 9 (.aq (.const (.int .i64 0)))])
 (.block 0 (.loop Xa)))
 (.seq (.ak [ad 0 25 (.ld1 (U 5)),
 af 1 4 25])
 .ret)))))
def MM:List a6:=[.aq (U 4)]
theorem Rj:bq Tryz.prog 183=some GJ:=by kernel_rfl
theorem aac:br Tryz.prog 183=some MM:=by kernel_rfl
def GK:aS:=(.seq (.ak [ad 0 1 (.box (U 0)),
 ad 1 2 (.aq (.const (.bool false)))])
 (.seq (.ak [ad 0 3 (.alloc [.int .i64 0]),
 bG 1 (.st 1 (U 3) (.const (.int .i64 0)))])
 (.seq (.ak [ad 0 4 (.ld1 (U 1)),
 ad 1 5 (.pM 198 [] [(U 3),(U 1)]),
 sc 2 6 197 [(U 4),(U 5)],
 ad 3 7 (.un .not (U 6)),
 af 4 2 7])
 .ret)))
def MN:List a6:=[.aq (U 2)]
theorem Rk:bq Tryz.prog 184=some GK:=by kernel_rfl
theorem aad:br Tryz.prog 184=some MN:=by kernel_rfl
def GL:aS:=(.seq (.ak [ad 0 2 (.aq (.const (.slice none 0 0)))])
 (.seq (.ak [af 0 3 0,
 ad 1 4 (.cB .u64 (U 3)),
 ad 2 5 (.bin .shl 27 (U 4) (.const (.int .u64 1))),
 af 3 6 0,
 ad 4 7 (.bin .shr 2 (U 6) (.const (.int .u64 63))),
 ad 5 8 (.cB .u64 (U 7)),
 ad 6 9 (.bin .xor 27 (U 5) (U 8)),
 sc 7 10 110 [(U 9)],
 af 8 2 10])
 .ret))
def MO:List a6:=[.aq (U 2)]
theorem Rl:bq Tryz.prog 185=some GL:=by kernel_rfl
theorem aae:br Tryz.prog 185=some MO:=by kernel_rfl
def Xb:aS:=(.seq (.ak [ad 0 9 (.bin .lss 3 (U 8) (U 7))])
 (.seq (.cond (U 9) .skip (.exit 0))
 (.seq (.block 1 (.seq (.ak [af 0 10 8,
 af 1 5 10])
 (.seq (.ak [af 0 11 1,
 af 1 12 0,
 af 2 13 5,
 ad 3 14 (.bm (.ao 1) (U 12) (U 13)),
 ad 4 15 (.ld1 (U 14)),
 ⟨5,(some 16),none,.gW (U 11) [(U 15)],[],false⟩])
 (.cond (U 16) (.seq (.ak [af 0 17 5,
 af 1 4 17])
 .ret) .skip))))
 (.ak [ad 0 18 (.bin .add 3 (U 8) (.const (.int .i64 1))),
 af 1 8 18]))))
def GM:aS:=(.seq (.ak [ad 0 4 (.aq (.const (.int .i64 0)))])
 (.seq (.seq (.ak [af 0 6 0,
 ad 1 7 (.len (.ao 1) (U 6)),
 ad 2 8 (.aq (.const (.int .i64 0)))])
 (.block 0 (.loop Xb)))
 (.seq (.ak [ad 0 4 (.aq (.const (.int .i64 (-1))))])
 .ret)))
def MP:List a6:=[.aq (U 4)]
theorem Rm:bq Tryz.prog 186=some GM:=by kernel_rfl
theorem aaf:br Tryz.prog 186=some MP:=by kernel_rfl
def Xc:aS:=(.seq (.ak [ad 0 53 (.bin .lss 3 (U 52) (.const (.int .i64 64)))])
 (.seq (.cond (U 53) .skip (.exit 0))
 (.seq (.block 1 (.seq (.ak [af 0 54 52,
 af 1 13 54])
 (.seq (.gJ [af 0 55 12,
 af 1 56 9,
 af 4 59 9,
 af 5 60 10,
 ad 6 61 (.bin .and 25 (U 59) (U 60)),
 af 7 62 9,
 ad 8 63 (.un .xor (U 62)),
 af 9 64 11,
 ad 10 65 (.bin .and 25 (U 63) (U 64)),
 ad 11 66 (.bin .xor 25 (U 61) (U 65)),
 af 13 68 13,
 ad 14 69 (.bm (.arr 64 1) (.global 1) (U 68)),
 ⟨15,(some 70),none,.cG (.ld1 (U 69)),[],true⟩,
 af 17 72 13,
 ad 18 73 (.bm (.arr 64 1) (U 4) (U 72)),
 ⟨19,(some 74),none,.cG (.ld1 (U 73)),[],true⟩,
 ⟨2,(some 57),none,.cR 200 [(U 56),(.const (.int .i64 6)),(.const (.int .i64 11)),(.const (.int .i64 25))],[19,15],false⟩,
 ad 3 58 (.bin .add 25 (U 55) (U 57)),
 ad 12 67 (.bin .add 25 (U 58) (U 66)),
 ad 16 71 (.bin .add 25 (U 67) (U 70)),
 ad 20 75 (.bin .add 25 (U 71) (U 74)),
 af 21 14 75])
 (.seq (.ak [af 0 76 5,
 sc 1 77 200 [(U 76),(.const (.int .i64 2)),(.const (.int .i64 13)),(.const (.int .i64 22))],
 af 2 78 5,
 af 3 79 6,
 ad 4 80 (.bin .and 25 (U 78) (U 79)),
 af 5 81 5,
 af 6 82 7,
 ad 7 83 (.bin .and 25 (U 81) (U 82)),
 ad 8 84 (.bin .xor 25 (U 80) (U 83)),
 af 9 85 6,
 af 10 86 7,
 ad 11 87 (.bin .and 25 (U 85) (U 86)),
 ad 12 88 (.bin .xor 25 (U 84) (U 87)),
 ad 13 89 (.bin .add 25 (U 77) (U 88)),
 af 14 15 89])
 (.ak [af 0 90 14,
 af 1 91 15,
 ad 2 92 (.bin .add 25 (U 90) (U 91)),
 af 3 93 5,
 af 4 94 6,
 af 5 95 7,
 af 6 96 8,
 af 7 97 14,
 ad 8 98 (.bin .add 25 (U 96) (U 97)),
 af 9 99 9,
 af 10 100 10,
 af 11 101 11,
 af 12 5 92,
 af 13 6 93,
 af 14 7 94,
 af 15 8 95,
 af 16 9 98,
 af 17 10 99,
 af 18 11 100,
 af 19 12 101])))))
 (.ak [ad 0 102 (.bin .add 3 (U 52) (.const (.int .i64 1))),
 af 1 52 102]))))
def Xd:aS:=(.seq (.ak [ad 0 113 (.bin .lss 3 (U 112) (.const (.int .i64 8)))])
 (.seq (.cond (U 113) .skip (.exit 2))
 (.seq (.block 3 (.seq (.ak [af 0 114 112,
 ad 1 115 (.v1 8 1 (U 111) (U 112)),
 af 2 16 114,
 af 3 17 115])
 (.ak [af 0 116 0,
 af 1 117 16,
 ad 2 118 (.mg (U 116)),
 ad 3 119 (.bm (.arr 8 1) (U 118) (U 117)),
 ad 4 120 (.ld1 (U 119)),
 af 5 121 17,
 ad 6 122 (.bin .add 25 (U 120) (U 121)),
 ad 7 123 (.mg (U 116)),
 ad 8 124 (.bm (.arr 8 1) (U 123) (U 117)),
 bG 9 (.st 1 (U 124) (U 122))])))
 (.ak [ad 0 125 (.bin .add 3 (U 112) (.const (.int .i64 1))),
 af 1 112 125]))))
def GN:aS:=(.seq (.ak [af 0 18 1,
 sc 1 19 199 [(U 18)],
 ad 2 4 (.alloc (rep 64 (.int .u32 0))),
 bG 3 (.st 64 (U 4) (U 19))])
 (.seq (.ak [af 0 20 0,
 ad 1 21 (.mg (U 20)),
 ad 2 22 (.bm (.arr 8 1) (U 21) (.const (.int .i64 0))),
 ad 3 23 (.ld1 (U 22)),
 af 4 24 0,
 ad 5 25 (.mg (U 24)),
 ad 6 26 (.bm (.arr 8 1) (U 25) (.const (.int .i64 1))),
 ad 7 27 (.ld1 (U 26)),
 af 8 28 0,
 ad 9 29 (.mg (U 28)),
 ad 10 30 (.bm (.arr 8 1) (U 29) (.const (.int .i64 2))),
 ad 11 31 (.ld1 (U 30)),
 af 12 32 0,
 ad 13 33 (.mg (U 32)),
 ad 14 34 (.bm (.arr 8 1) (U 33) (.const (.int .i64 3))),
 ad 15 35 (.ld1 (U 34)),
 af 16 36 0,
 ad 17 37 (.mg (U 36)),
 ad 18 38 (.bm (.arr 8 1) (U 37) (.const (.int .i64 4))),
 ad 19 39 (.ld1 (U 38)),
 af 20 40 0,
 ad 21 41 (.mg (U 40)),
 ad 22 42 (.bm (.arr 8 1) (U 41) (.const (.int .i64 5))),
 ad 23 43 (.ld1 (U 42)),
 af 24 44 0,
 ad 25 45 (.mg (U 44)),
 ad 26 46 (.bm (.arr 8 1) (U 45) (.const (.int .i64 6))),
 ad 27 47 (.ld1 (U 46)),
 af 28 48 0,
 ad 29 49 (.mg (U 48)),
 ad 30 50 (.bm (.arr 8 1) (U 49) (.const (.int .i64 7))),
 ad 31 51 (.ld1 (U 50)),
 af 32 5 23,
 af 33 6 27,
 af 34 7 31,
 af 35 8 35,
 af 36 9 39,
 af 37 10 43,
 af 38 11 47,
 af 39 12 51])
 (.seq (.seq (.ak [ad 0 52 (.aq (.const (.int .i64 0)))])
 (.block 0 (.loop Xc)))
 (.seq (.ak [af 0 103 5,
 af 1 104 6,
 af 2 105 7,
 af 3 106 8,
 af 4 107 9,
 af 5 108 10,
 af 6 109 11,
 af 7 110 12,
 ad 8 111 (.eh [.int .u32 0,.int .u32 0,.int .u32 0,.int .u32 0,.int .u32 0,.int .u32 0,.int .u32 0,.int .u32 0] [(0,1,(U 103)),(1,1,(U 104)),(2,1,(U 105)),(3,1,(U 106)),(4,1,(U 107)),(5,1,(U 108)),(6,1,(U 109)),(7,1,(U 110))]),
 ad 9 112 (.aq (.const (.int .i64 0)))])
 (.block 2 (.loop Xd))))))
def MQ:List a6:=[]
theorem Rn:bq Tryz.prog 187=some GN:=by kernel_rfl
theorem aag:br Tryz.prog 187=some MQ:=by kernel_rfl
def GO:aS:=(.seq (.ak [ad 0 2 (.aq (.const (.slice none 0 0)))])
 (.seq (.seq (.ak [af 0 3 0,
 ad 1 4 (.bin .eql 117 (U 3) (.const (.slice none 0 0)))])
 (.cond (U 4) (.seq (.ak [ad 0 2 (.aq (.const (.slice none 0 0)))])
 .ret) .skip))
 (.seq (.ak [ad 0 5 (.cQ 1 [.int .u8 0] 0 []),
 af 1 6 0,
 ad 2 7 (.app 1 1 (U 5) (U 6)),
 af 3 2 7])
 .ret)))
def MR:List a6:=[.aq (U 2)]
theorem Ro:bq Tryz.prog 188=some GO:=by kernel_rfl
theorem aah:br Tryz.prog 188=some MR:=by kernel_rfl
def GQ:aS:=(.seq (.ak [ad 0 2 (.aq (.const (.int .u8 0)))])
 (.seq (.ak [af 0 6 0,
 sc 1 7 201 [(U 6)],
 af 2 5 7,
 ad 3 8 (.ext (U 5) 0),
 ad 4 9 (.ext (U 5) 1),
 af 5 3 8,
 af 6 4 9])
 (.seq (.block 0 (.seq (.ak [af 0 11 3,
 ad 1 12 (.bin .eql 3 (U 11) (.const (.int .i64 2047))),
 af 2 13 12,
 aF 3 14 13 true (.aq (U 4)),
 aF 4 15 13 true (.bin .neq 27 (U 14) (.const (.int .u64 0))),
 ad 5 16 (.pick (U 13) (U 15) (.const (.bool false))),
 af 6 10 16])
 (.cond (U 10) (.seq (.ak [ad 0 2 (.aq (.const (.int .u8 5)))])
 .ret) (.seq (.ak [af 0 18 3,
 ad 1 19 (.bin .eql 3 (U 18) (.const (.int .i64 2047))),
 af 2 17 19])
 (.cond (U 17) (.seq (.ak [ad 0 2 (.aq (.const (.int .u8 4)))])
 .ret) (.seq (.ak [af 0 21 3,
 ad 1 22 (.bin .neq 3 (U 21) (.const (.int .i64 0))),
 af 2 20 22])
 (.cond (U 20) (.seq (.ak [ad 0 2 (.aq (.const (.int .u8 3)))])
 .ret) (.seq (.ak [af 0 24 4,
 ad 1 25 (.bin .neq 27 (U 24) (.const (.int .u64 0))),
 af 2 23 25])
 (.cond (U 23) (.seq (.ak [ad 0 2 (.aq (.const (.int .u8 2)))])
 .ret) .skip)))))))))
 (.seq (.ak [ad 0 2 (.aq (.const (.int .u8 1)))])
 .ret))))
def MS:List a6:=[.aq (U 2)]
theorem Rp:bq Tryz.prog 189=some GQ:=by kernel_rfl
theorem aai:br Tryz.prog 189=some MS:=by kernel_rfl
def Xf:aS:=(.seq (.ak [ad 0 8 (.bin .lss 3 (U 7) (U 6))])
 (.seq (.cond (U 8) .skip (.exit 0))
 (.seq (.block 1 (.seq (.ak [ad 0 9 (.bm (.ao 1) (U 5) (U 7)),
 ad 1 10 (.ld1 (U 9)),
 af 2 4 10])
 (.seq (.ak [af 0 11 4,
 sc 1 12 151 [(U 11)],
 ad 2 13 (.un .not (U 12))])
 (.cond (U 13) (.seq (.ak [ad 0 2 (.aq (.const (.bool false)))])
 .ret) .skip))))
 (.ak [ad 0 14 (.bin .add 3 (U 7) (.const (.int .i64 1))),
 af 1 7 14]))))
def GU:aS:=(.seq (.ak [ad 0 2 (.aq (.const (.bool false)))])
 (.seq (.seq (.ak [af 0 5 0,
 ad 1 6 (.len (.ao 1) (U 5)),
 ad 2 7 (.aq (.const (.int .i64 0)))])
 (.block 0 (.loop Xf)))
 (.seq (.ak [ad 0 2 (.aq (.const (.bool true)))])
 .ret)))
def MT:List a6:=[.aq (U 2)]
theorem Rr:bq Tryz.prog 190=some GU:=by kernel_rfl
theorem aak:br Tryz.prog 190=some MT:=by kernel_rfl
def Xg:aS:=(.seq (.ak [ad 0 11 (.bin .lss 3 (U 10) (U 9))])
 (.seq (.cond (U 11) .skip (.exit 0))
 (.seq (.block 1 (.seq (.ak [ad 0 12 (.bm (.ao 1) (U 8) (U 10)),
 ad 1 13 (.ld1 (U 12)),
 af 2 7 13])
 (.ak [af 0 14 5,
 af 1 15 7,
 ad 2 16 (.cB .u64 (U 15)),
 ad 3 17 (.bin .mul 27 (U 14) (U 16)),
 af 4 18 0,
 ad 5 19 (.bin .rem 27 (U 17) (U 18)),
 af 6 5 19])))
 (.ak [ad 0 20 (.bin .add 3 (U 10) (.const (.int .i64 1))),
 af 1 10 20]))))
def GV:aS:=(.seq (.ak [ad 0 4 (.aq (.const (.int .u32 0)))])
 (.seq (.ak [ad 0 5 (.aq (.const (.int .u64 1)))])
 (.seq (.seq (.ak [af 0 8 1,
 ad 1 9 (.len (.ao 1) (U 8)),
 ad 2 10 (.aq (.const (.int .i64 0)))])
 (.block 0 (.loop Xg)))
 (.seq (.ak [af 0 21 5,
 ad 1 22 (.cB .u32 (U 21)),
 af 2 4 22])
 .ret))))
def MU:List a6:=[.aq (U 4)]
theorem Rs:bq Tryz.prog 191=some GV:=by kernel_rfl
theorem aal:br Tryz.prog 191=some MU:=by kernel_rfl
def Xh:aS:=(.seq (.ak [ad 0 24 (.bin .lss 3 (U 23) (U 22))])
 (.seq (.cond (U 24) .skip (.exit 0))
 (.seq (.block 1 (.seq (.ak [ad 0 25 (.bm (.ao 1) (U 21) (U 23)),
 ad 1 26 (.ld1 (U 25)),
 af 2 10 26])
 (.ak [af 0 27 8,
 af 1 28 10,
 ad 2 29 (.bin .shr 25 (U 28) (.const (.int .u64 24))),
 ad 3 30 (.cB .u8 (U 29)),
 af 4 31 10,
 ad 5 32 (.bin .shr 25 (U 31) (.const (.int .u64 16))),
 ad 6 33 (.cB .u8 (U 32)),
 af 7 34 10,
 ad 8 35 (.bin .shr 25 (U 34) (.const (.int .u64 8))),
 ad 9 36 (.cB .u8 (U 35)),
 af 10 37 10,
 ad 11 38 (.cB .u8 (U 37)),
 ad 12 39 (.cQ 1 [.int .u8 0] 4 [(0,(U 30)),(1,(U 33)),(2,(U 36)),(3,(U 38))]),
 ad 13 40 (.app 1 1 (U 27) (U 39)),
 af 14 8 40])))
 (.ak [ad 0 41 (.bin .add 3 (U 23) (.const (.int .i64 1))),
 af 1 23 41]))))
def Xi:aS:=(.seq (.ak [ad 0 52 (.bin .lss 3 (U 51) (U 50))])
 (.seq (.cond (U 52) .skip (.exit 2))
 (.seq (.block 3 (.seq (.ak [ad 0 53 (.bm (.ao 1) (U 49) (U 51)),
 ad 1 54 (.ld1 (U 53)),
 af 2 15 54])
 (.ak [af 0 55 13,
 ad 1 56 (.bin .shl 27 (U 55) (.const (.int .u64 8))),
 af 2 57 15,
 ad 3 58 (.cB .u64 (U 57)),
 ad 4 59 (.bin .or 27 (U 56) (U 58)),
 af 5 13 59])))
 (.ak [ad 0 60 (.bin .add 3 (U 51) (.const (.int .i64 1))),
 af 1 51 60]))))
def GX:aS:=(.seq (.ak [ad 0 6 (.aq (.const (.int .u64 0))),
 ad 1 7 (.aq (.const (.int .i64 0)))])
 (.seq (.seq (.ak [af 0 16 1,
 ad 1 17 (.len (.ao 1) (U 16)),
 ad 2 18 (.bin .gtr 3 (U 17) (.const (.int .i64 9991)))])
 (.cond (U 18) (.seq (.ak [ad 0 6 (.aq (.const (.int .u64 0))),
 ad 1 7 (.aq (.const (.int .i64 4)))])
 .ret) .skip))
 (.seq (.ak [af 0 19 0,
 ad 1 20 (.cQ 1 [.int .u8 0] 1 [(0,(U 19))]),
 af 2 8 20])
 (.seq (.seq (.ak [af 0 21 2,
 ad 1 22 (.len (.ao 1) (U 21)),
 ad 2 23 (.aq (.const (.int .i64 0)))])
 (.block 0 (.loop Xh)))
 (.seq (.ak [af 0 43 8,
 af 1 44 1,
 ad 2 45 (.cQ 1 [.aX] 2 [(0,(U 43)),(1,(U 44))]),
 sc 3 46 111 [(U 45)],
 af 4 42 46,
 ad 5 47 (.ext (U 42) 0),
 ad 6 48 (.ext (U 42) 1),
 ad 7 11 (.alloc (rep 32 (.int .u8 0))),
 bG 8 (.st 32 (U 11) (U 47)),
 af 9 12 48])
 (.seq (.ak [ad 0 13 (.aq (.const (.int .u64 0)))])
 (.seq (.seq (.ak [ad 0 49 (.slice (.arr 32 1) (U 11) none (some (.const (.int .i64 8))) none),
 ad 1 50 (.len (.ao 1) (U 49)),
 ad 2 51 (.aq (.const (.int .i64 0)))])
 (.block 2 (.loop Xi)))
 (.seq (.ak [af 0 61 13,
 af 1 62 12,
 af 2 6 61,
 af 3 7 62])
 .ret))))))))
def MV:List a6:=[.aq (U 6),.aq (U 7)]
theorem Rt:bq Tryz.prog 192=some GX:=by kernel_rfl
theorem aam:br Tryz.prog 192=some MV:=by kernel_rfl
def GY:aS:=(.seq (.ak [ad 0 2 (.aq (.const (.int .i64 0)))])
 (.seq (.ak [af 0 3 0,
 ad 1 4 (.bin .rem 27 (U 3) (.const (.int .u64 9223372036854775808))),
 ad 2 5 (.bin .quo 27 (U 4) (.const (.int .u64 4503599627370496))),
 ad 3 6 (.cB .i64 (U 5)),
 af 4 2 6])
 .ret))
def MW:List a6:=[.aq (U 2)]
theorem Ru:bq Tryz.prog 194=some GY:=by kernel_rfl
theorem aan:br Tryz.prog 194=some MW:=by kernel_rfl
def GZ:aS:=(.seq (.ak [ad 0 2 (.aq (.const (.int .u64 0)))])
 (.seq (.ak [af 0 3 0,
 ad 1 4 (.bin .rem 27 (U 3) (.const (.int .u64 4503599627370496))),
 af 2 2 4])
 .ret))
def MX:List a6:=[.aq (U 2)]
theorem Rv:bq Tryz.prog 195=some GZ:=by kernel_rfl
theorem aao:br Tryz.prog 195=some MX:=by kernel_rfl
def G0:aS:=(.ak [ad 0 1 (.ld1 (U 0)),
 ad 1 2 (.ld1 (U 0)),
 ad 2 3 (.cQ 1 [.int .u32 0] 2 [(0,(U 1)),(1,(U 2))]),
 sc 3 4 191 [(.const (.int .u64 1000000007)),(U 3)],
 bG 4 (.st 1 (U 0) (U 4))])
def MY:List a6:=[]
theorem Rw:bq Tryz.prog 196=some G0:=by kernel_rfl
theorem aap:br Tryz.prog 196=some MY:=by kernel_rfl
def G1:aS:=(.seq (.ak [ad 0 4 (.aq (.const (.bool false)))])
 (.seq (.ak [af 0 5 0,
 af 1 6 1,
 sc 2 7 202 [(U 5),(U 6)],
 ad 3 8 (.bin .geq 3 (U 7) (.const (.int .i64 0))),
 af 4 4 8])
 .ret))
def MZ:List a6:=[.aq (U 4)]
theorem Rx:bq Tryz.prog 197=some G1:=by kernel_rfl
theorem aaq:br Tryz.prog 197=some MZ:=by kernel_rfl
def G2:aS:=(.seq (.ak [ad 0 3 (.box (U 0)),
 ad 1 4 (.aq (.const (.bool false)))])
 (.seq (.ak [ad 0 5 (.ld1 (U 1)),
 ad 1 6 (.bin .add 3 (U 5) (.const (.int .i64 1))),
 bG 2 (.st 1 (U 1) (U 6))])
 (.seq (.ak [ad 0 7 (.ld1 (U 1)),
 ad 1 8 (.ld1 (U 2)),
 ad 2 9 (.len (.ao 32) (U 8)),
 ad 3 10 (.bin .lss 3 (U 7) (U 9)),
 af 4 11 10,
 aF 5 12 11 true (.ld1 (U 2)),
 aF 6 13 11 true (.ld1 (U 1)),
 aF 7 14 11 true (.bin .sub 3 (U 13) (.const (.int .i64 1))),
 aF 8 15 11 true (.bm (.ao 32) (U 12) (U 14)),
 aF 9 16 11 true (.aW 32 (U 15)),
 aF 10 17 11 true (.ld1 (U 2)),
 aF 11 18 11 true (.ld1 (U 1)),
 aF 12 19 11 true (.bm (.ao 32) (U 17) (U 18)),
 aF 13 20 11 true (.aW 32 (U 19)),
 ⟨14,(some 21),(some ((some 11),true)),.cR 121 [(U 16),(U 20)],[],false⟩,
 aF 15 22 11 true (.bin .geq 3 (U 21) (.const (.int .i64 0))),
 ad 16 23 (.pick (U 11) (U 22) (.const (.bool false))),
 af 17 4 23])
 .ret)))
def M0:List a6:=[.aq (U 4)]
theorem Ry:bq Tryz.prog 198=some G2:=by kernel_rfl
theorem aar:br Tryz.prog 198=some M0:=by kernel_rfl
def Xj:aS:=(.seq (.ak [ad 0 14 (.bin .lss 3 (U 13) (U 12))])
 (.seq (.cond (U 14) .skip (.exit 0))
 (.seq (.block 1 (.seq (.ak [af 0 15 13,
 ad 1 16 (.bm (.ao 1) (U 11) (U 13)),
 ad 2 17 (.ld1 (U 16)),
 af 3 3 15,
 af 4 4 17])
 (.ak [af 0 18 3,
 ad 1 19 (.bin .quo 3 (U 18) (.const (.int .i64 4))),
 af 2 20 3,
 ad 3 21 (.bin .quo 3 (U 20) (.const (.int .i64 4))),
 ad 4 22 (.bm (.arr 64 1) (U 2) (U 21)),
 ad 5 23 (.ld1 (U 22)),
 ad 6 24 (.bin .shl 25 (U 23) (.const (.int .u64 8))),
 af 7 25 4,
 ad 8 26 (.cB .u32 (U 25)),
 ad 9 27 (.bin .or 25 (U 24) (U 26)),
 ad 10 28 (.bm (.arr 64 1) (U 2) (U 19)),
 bG 11 (.st 1 (U 28) (U 27))])))
 (.ak [ad 0 29 (.bin .add 3 (U 13) (.const (.int .i64 1))),
 af 1 13 29]))))
def Xk:aS:=(.seq (.seq (.ak [af 0 30 5,
 ad 1 31 (.bin .lss 3 (U 30) (.const (.int .i64 64)))])
 (.cond (U 31) .skip (.exit 2)))
 (.seq (.block 3 (.seq (.ak [af 0 34 5,
 ad 1 35 (.bin .sub 3 (U 34) (.const (.int .i64 15))),
 ad 2 36 (.bm (.arr 64 1) (U 2) (U 35)),
 ad 3 37 (.ld1 (U 36)),
 af 4 38 5,
 ad 5 39 (.bin .sub 3 (U 38) (.const (.int .i64 2))),
 ad 6 40 (.bm (.arr 64 1) (U 2) (U 39)),
 ad 7 41 (.ld1 (U 40)),
 af 8 6 37,
 af 9 7 41])
 (.seq (.ak [af 0 42 6,
 sc 1 43 203 [(U 42),(.const (.int .i64 (-7)))],
 af 2 44 6,
 sc 3 45 203 [(U 44),(.const (.int .i64 (-18)))],
 ad 4 46 (.bin .xor 25 (U 43) (U 45)),
 af 5 47 6,
 ad 6 48 (.bin .shr 25 (U 47) (.const (.int .u64 3))),
 ad 7 49 (.bin .xor 25 (U 46) (U 48)),
 af 8 8 49])
 (.seq (.ak [af 0 50 7,
 sc 1 51 203 [(U 50),(.const (.int .i64 (-17)))],
 af 2 52 7,
 sc 3 53 203 [(U 52),(.const (.int .i64 (-19)))],
 ad 4 54 (.bin .xor 25 (U 51) (U 53)),
 af 5 55 7,
 ad 6 56 (.bin .shr 25 (U 55) (.const (.int .u64 10))),
 ad 7 57 (.bin .xor 25 (U 54) (U 56)),
 af 8 9 57])
 (.ak [af 0 58 5,
 af 1 59 5,
 ad 2 60 (.bin .sub 3 (U 59) (.const (.int .i64 16))),
 ad 3 61 (.bm (.arr 64 1) (U 2) (U 60)),
 ad 4 62 (.ld1 (U 61)),
 af 5 63 5,
 ad 6 64 (.bin .sub 3 (U 63) (.const (.int .i64 7))),
 ad 7 65 (.bm (.arr 64 1) (U 2) (U 64)),
 ad 8 66 (.ld1 (U 65)),
 ad 9 67 (.bin .add 25 (U 62) (U 66)),
 af 10 68 8,
 ad 11 69 (.bin .add 25 (U 67) (U 68)),
 af 12 70 9,
 ad 13 71 (.bin .add 25 (U 69) (U 70)),
 ad 14 72 (.bm (.arr 64 1) (U 2) (U 58)),
 bG 15 (.st 1 (U 72) (U 71))])))))
 (.ak [af 0 32 5,
 ad 1 33 (.bin .add 3 (U 32) (.const (.int .i64 1))),
 af 2 5 33])))
def G3:aS:=(.seq (.ak [ad 0 2 (.alloc (rep 64 (.int .u32 0)))])
 (.seq (.seq (.ak [af 0 10 0,
 ad 1 11 (.slice (.ao 1) (U 10) none (some (.const (.int .i64 64))) none),
 ad 2 12 (.len (.ao 1) (U 11)),
 ad 3 13 (.aq (.const (.int .i64 0)))])
 (.block 0 (.loop Xj)))
 (.seq (.seq (.ak [ad 0 5 (.aq (.const (.int .i64 16)))])
 (.block 2 (.loop Xk)))
 (.seq (.ak [ad 0 73 (.aW 64 (U 2)),
 bG 1 (.st 64 (U 2) (U 73))])
 .ret))))
def M1:List a6:=[.aW 64 (U 2)]
theorem Rz:bq Tryz.prog 199=some G3:=by kernel_rfl
theorem aas:br Tryz.prog 199=some M1:=by kernel_rfl
def G6:aS:=(.seq (.ak [ad 0 8 (.aq (.const (.int .u32 0)))])
 (.seq (.ak [af 0 9 0,
 af 1 10 1,
 ad 2 11 (.un .neg (U 10)),
 sc 3 12 203 [(U 9),(U 11)],
 af 4 13 0,
 af 5 14 2,
 ad 6 15 (.un .neg (U 14)),
 sc 7 16 203 [(U 13),(U 15)],
 ad 8 17 (.bin .xor 25 (U 12) (U 16)),
 af 9 18 0,
 af 10 19 3,
 ad 11 20 (.un .neg (U 19)),
 sc 12 21 203 [(U 18),(U 20)],
 ad 13 22 (.bin .xor 25 (U 17) (U 21)),
 af 14 8 22])
 .ret))
def M3:List a6:=[.aq (U 8)]
theorem RB:bq Tryz.prog 200=some G6:=by kernel_rfl
theorem aau:br Tryz.prog 200=some M3:=by kernel_rfl
def G7:aS:=(.seq (.ak [ad 0 2 (.aq (.const (.int .i64 0))),
 ad 1 3 (.aq (.const (.int .u64 0)))])
 (.seq (.ak [af 0 4 0,
 ad 1 5 (.bin .shr 27 (U 4) (.const (.int .u64 52))),
 ad 2 6 (.cB .i64 (U 5)),
 ad 3 7 (.bin .and 3 (U 6) (.const (.int .i64 2047))),
 af 4 8 0,
 ad 5 9 (.bin .and 27 (U 8) (.const (.int .u64 4503599627370495))),
 af 6 2 7,
 af 7 3 9])
 .ret))
def M4:List a6:=[.aq (U 2),.aq (U 3)]
theorem RC:bq Tryz.prog 201=some G7:=by kernel_rfl
theorem aav:br Tryz.prog 201=some M4:=by kernel_rfl
def Xm:aS:=(.seq (.ak [ad 0 9 (.bin .lss 3 (U 8) (U 7))])
 (.seq (.cond (U 9) .skip (.exit 0))
 (.seq (.block 1 (.seq (.ak [af 0 10 8,
 af 1 5 10])
 (.seq (.ak [af 0 11 1,
 af 1 12 0,
 af 2 13 5,
 ad 3 14 (.bm (.ao 32) (U 12) (U 13)),
 ad 4 15 (.aW 32 (U 14)),
 ⟨5,(some 16),none,.gW (U 11) [(U 15)],[],false⟩])
 (.cond (U 16) (.seq (.ak [af 0 17 5,
 af 1 4 17])
 .ret) .skip))))
 (.ak [ad 0 18 (.bin .add 3 (U 8) (.const (.int .i64 1))),
 af 1 8 18]))))
def G8:aS:=(.seq (.ak [ad 0 4 (.aq (.const (.int .i64 0)))])
 (.seq (.seq (.ak [af 0 6 0,
 ad 1 7 (.len (.ao 32) (U 6)),
 ad 2 8 (.aq (.const (.int .i64 0)))])
 (.block 0 (.loop Xm)))
 (.seq (.ak [ad 0 4 (.aq (.const (.int .i64 (-1))))])
 .ret)))
def M5:List a6:=[.aq (U 4)]
theorem RD:bq Tryz.prog 202=some G8:=by kernel_rfl
theorem aaw:br Tryz.prog 202=some M5:=by kernel_rfl
def G9:aS:=(.seq (.ak [ad 0 4 (.aq (.const (.int .u32 0)))])
 (.seq (.ak [af 0 6 1,
 ad 1 7 (.cB .u64 (U 6)),
 ad 2 8 (.bin .and 125 (U 7) (.const (.int .u64 31))),
 af 3 5 8])
 (.seq (.ak [af 0 9 0,
 af 1 10 5,
 ad 2 11 (.bin .shl 25 (U 9) (U 10)),
 af 3 12 0,
 af 4 13 5,
 ad 5 14 (.bin .sub 125 (.const (.int .u64 32)) (U 13)),
 ad 6 15 (.bin .shr 25 (U 12) (U 14)),
 ad 7 16 (.bin .or 25 (U 11) (U 15)),
 af 8 4 16])
 .ret)))
def M6:List a6:=[.aq (U 4)]
theorem RE:bq Tryz.prog 203=some G9:=by kernel_rfl
theorem aax:br Tryz.prog 203=some M6:=by kernel_rfl
def acT:cD (aS × List a6) :=(.node (.node (.node (.node (.node (.node (.node .nil (some (Hz,Nx)) (.node .nil (some (GV,MU)) .nil)) (some (Hf,Nb)) (.node (.node .nil (some (Gm,Mv)) .nil) (some (HY,NY)) .nil)) none (.node (.node (.node .nil (some (F9,Mi)) .nil) (some (HM,NK)) .nil) (some (R1,aaU)) (.node (.node .nil (some (Gy,MF)) .nil) (some (FO,LX)) .nil))) (some (rO,oT)) (.node (.node (.node (.node .nil (some (F1,Ma)) .nil) (some (Sn,abi)) (.node .nil (some (G3,M1)) .nil)) (some (Hk,Nh)) (.node (.node .nil (some (Gu,MC)) .nil) (some (Qf,Y7)) .nil)) (some (RH,aaA)) (.node (.node (.node .nil (some (Ge,Mn)) .nil) (some (HT,NS)) .nil) (some (Hu,Nt)) (.node (.node .nil (some (GJ,MM)) .nil) (some (FU,L3)) .nil)))) (some (kf,ri)) (.node (.node (.node (.node .nil (some (HD,NB)) (.node .nil (some (GZ,MX)) .nil)) (some (Hi,Nf)) (.node (.node .nil (some (Gq,My)) .nil) (some (H2,N2)) .nil)) (some (GR,yu)) (.node (.node (.node .nil (some (QO,ZG)) .nil) (some (HP,NN)) .nil) (some (Hr,Nq)) (.node (.node .nil (some (Re,Z5)) .nil) (some (FQ,LZ)) .nil))) (some (FM,LV)) (.node (.node (.node (.node .nil (some (F5,Me)) .nil) (some (HK,NI)) (.node .nil (some (G9,M6)) .nil)) (some (Hn,Nl)) (.node .nil (some (FJ,LR)) .nil)) (some (RJ,aaC)) (.node (.node (.node .nil (some (B3,Ej)) .nil) (some (SG,abB)) .nil) none (.node (.node .nil (some (GN,MQ)) .nil) (some (FY,L7)) .nil))))) none (.node (.node (.node (.node (.node .nil (some (HB,Nz)) .nil) (some (RP,aaI)) (.node .nil (some (H0,N0)) .nil)) (some (Gw,ys)) (.node (.node (.node .nil (some (Ga,Mj)) .nil) (some (Sw,abq)) .nil) none (.node (.node .nil (some (GC,MH)) .nil) none .nil))) (some (B5,abz)) (.node (.node (.node (.node .nil (some (F3,Mc)) .nil) (some (HI,NG)) (.node .nil (some (G7,M4)) .nil)) (some (Hm,Nk)) (.node .nil (some (FI,LQ)) .nil)) none (.node (.node (.node .nil (some (Gg,Mp)) .nil) (some (HV,NU)) .nil) (some (Sa,aa3)) (.node (.node .nil (some (GL,MO)) .nil) (some (FW,L5)) .nil)))) none (.node (.node (.node (.node .nil (some (HF,ND)) (.node .nil (some (G1,MZ)) .nil)) none (.node (.node .nil (some (Gs,MA)) .nil) (some (FG,LO)) .nil)) none (.node (.node (.node .nil (some (Gc,Ml)) .nil) (some (HR,NQ)) .nil) (some (Ht,Ns)) (.node (.node .nil (some (GH,MK)) .nil) (some (FS,L1)) .nil))) none (.node (.node (.node (.node .nil (some (F7,Mg)) .nil) none .nil) (some (Hp,No)) (.node .nil (some (B2,Ei)) .nil)) (some (Hd,M9)) (.node (.node (.node .nil (some (Gk,Mt)) .nil) (some (HW,NV)) .nil) (some (Hw,Nv)) (.node (.node .nil (some (GQ,MS)) .nil) (some (F0,L9)) .nil)))))) none (.node (.node (.node (.node (.node (.node .nil (some (HA,Ny)) (.node .nil (some (GX,MV)) .nil)) (some (Hg,Nc)) (.node (.node .nil (some (Gn,Mw)) .nil) (some (HZ,NZ)) .nil)) none (.node (.node (.node .nil (some (QL,ZD)) .nil) (some (HN,NL)) .nil) (some (R2,aaV)) (.node (.node .nil (some (Gz,MG)) .nil) (some (FP,LY)) .nil))) none (.node (.node (.node (.node .nil (some (F2,Mb)) .nil) (some (B4,El)) (.node .nil (some (G6,M3)) .nil)) (some (Hl,Nj)) (.node (.node .nil (some (Gv,MD)) .nil) (some (Qg,Y8)) .nil)) (some (Hb,uy)) (.node (.node (.node .nil (some (Gf,Mo)) .nil) (some (HU,NT)) .nil) (some (Hv,Nu)) (.node (.node .nil (some (GK,MN)) .nil) (some (FV,L4)) .nil)))) none (.node (.node (.node (.node .nil (some (HE,NC)) (.node .nil (some (G0,MY)) .nil)) (some (RS,aaL)) (.node (.node .nil (some (Gr,Mz)) .nil) (some (FF,LN)) .nil)) (some (G5,M2)) (.node (.node (.node .nil (some (Gb,Mk)) .nil) (some (HQ,NP)) .nil) (some (Hs,Nr)) (.node (.node .nil (some (GG,MJ)) .nil) (some (FR,L0)) .nil))) none (.node (.node (.node (.node .nil (some (F6,Mf)) .nil) (some (HL,NJ)) .nil) (some (Ho,Nn)) (.node .nil (some (FK,LS)) .nil)) (some (Hc,M8)) (.node (.node (.node .nil (some (Gj,Ms)) .nil) (some (SH,abC)) .nil) (some (Sc,aa5)) (.node (.node .nil (some (GO,MR)) .nil) (some (FZ,L8)) .nil))))) none (.node (.node (.node (.node (.node .nil (some (HC,NA)) (.node .nil (some (GY,MW)) .nil)) (some (Hh,Nd)) (.node (.node .nil (some (Gp,Mx)) .nil) (some (H1,N1)) .nil)) (some (GF,yt)) (.node (.node (.node .nil (some (QN,ZF)) .nil) (some (HO,NM)) .nil) (some (Hq,Np)) (.node (.node .nil (some (GD,MI)) .nil) none .nil))) (some (Qb,Y3)) (.node (.node (.node (.node .nil (some (F4,Md)) .nil) (some (HJ,NH)) (.node .nil (some (G8,M5)) .nil)) none (.node .nil (some (Qi,Za)) .nil)) none (.node (.node (.node .nil (some (Gh,Mq)) .nil) (some (SF,abA)) .nil) (some (Sb,aa4)) (.node (.node .nil (some (GM,MP)) .nil) (some (FX,L6)) .nil)))) (some (zi,uz)) (.node (.node (.node (.node (.node .nil (some (QB,Zt)) .nil) (some (HG,NE)) (.node .nil (some (G2,M0)) .nil)) (some (Hj,Ng)) (.node (.node .nil (some (Gt,MB)) .nil) (some (FH,LP)) .nil)) (some (Ha,M7)) (.node (.node (.node .nil (some (Gd,Mm)) .nil) (some (HS,NR)) .nil) (some (R7,aa0)) (.node (.node .nil (some (GI,ML)) .nil) (some (FT,L2)) .nil))) none (.node (.node (.node (.node .nil (some (F8,Mh)) .nil) none .nil) (some (R0,aaT)) (.node (.node .nil (some (Gx,ME)) .nil) (some (FN,LW)) .nil)) (some (He,Na)) (.node (.node (.node .nil (some (Gl,Mu)) .nil) (some (HX,NW)) .nil) (some (Hy,Nw)) (.node (.node .nil (some (GU,MT)) .nil) (some (QA,Zs)) .nil)))))))
theorem apG:nZ (Pn Tryz.prog) acT:=(iK (iK (bu ⟨afh,anq⟩ (bu ⟨Su,abo⟩ (iK (bu ⟨RN,aaG⟩ (bu ⟨Sf,aa8⟩ bg (bu ⟨Rs,aal⟩ bg bg)) (bu ⟨SK,abF⟩ (bu ⟨QZ,ZR⟩ bg bg) bg)) (bu ⟨afj,ans⟩ (bu ⟨St,abn⟩ (bu ⟨QK,ZC⟩ bg bg) bg) (bu ⟨Qm,Ze⟩ (bu ⟨Q9,Z1⟩ bg bg) bg))) (bu ⟨afd,anm⟩ (bu ⟨RU,aaN⟩ (bu ⟨afq,anA⟩ (bu ⟨QC,Zu⟩ bg bg) (bu ⟨Rz,aas⟩ bg bg)) (bu ⟨ae2,anb⟩ (bu ⟨Q6,ZY⟩ bg bg) bg)) (bu ⟨R8,aa1⟩ (bu ⟨SC,abw⟩ (bu ⟨QS,ZK⟩ bg bg) bg) (bu ⟨Qs,Zk⟩ (bu ⟨Rj,aac⟩ bg bg) bg)))) (bu ⟨Qt,Zl⟩ (bu ⟨RA,aat⟩ (bu ⟨RR,aaK⟩ (bu ⟨Sj,abe⟩ bg (bu ⟨Rv,aao⟩ bg bg)) (bu ⟨SO,abJ⟩ (bu ⟨Q2,ZU⟩ bg bg) bg)) (bu ⟨R4,aaX⟩ (bu ⟨Sy,abs⟩ (bu ⟨afa,ank⟩ bg bg) bg) (bu ⟨Qo,Zg⟩ (bu ⟨afc,anl⟩ bg bg) bg))) (bu ⟨afe,ann⟩ (bu ⟨RX,aaQ⟩ (bu ⟨Sr,abl⟩ (bu ⟨QG,Zy⟩ bg bg) (bu ⟨RE,aax⟩ bg bg)) (bu ⟨Qj,Zb⟩ bg bg)) (iK (bu ⟨aft,anD⟩ (bu ⟨Gi,Mr⟩ bg bg) bg) (bu ⟨Qx,Zp⟩ (bu ⟨Rn,aag⟩ bg bg) bg))))) (iK (bu ⟨afv,anF⟩ (bu ⟨Rf,Z6⟩ (bu ⟨aff,ano⟩ (bu ⟨Sh,abb⟩ bg bg) (bu ⟨SM,abH⟩ bg bg)) (iK (bu ⟨afr,anB⟩ (bu ⟨QM,ZE⟩ bg bg) bg) (iK (bu ⟨Rb,Z3⟩ bg bg) bg))) (iK (bu ⟨RW,aaP⟩ (bu ⟨Sp,abj⟩ (bu ⟨QE,Zw⟩ bg bg) (bu ⟨RC,aav⟩ bg bg)) (bu ⟨Qh,Y9⟩ bg bg)) (bu ⟨afm,anv⟩ (bu ⟨SE,aby⟩ (bu ⟨QU,ZM⟩ bg bg) bg) (bu ⟨Qv,Zn⟩ (bu ⟨Rl,aae⟩ bg bg) bg)))) (iK (iK (iK (bu ⟨Sl,abg⟩ bg (bu ⟨Rx,aaq⟩ bg bg)) (bu ⟨Qd,Y5⟩ (bu ⟨Q4,ZW⟩ bg bg) bg)) (bu ⟨R6,aaZ⟩ (bu ⟨SA,abu⟩ (bu ⟨QQ,ZI⟩ bg bg) bg) (bu ⟨Qq,Zi⟩ (bu ⟨Rh,Z8⟩ bg bg) bg))) (bu ⟨RL,aaE⟩ (bu ⟨RZ,aaS⟩ (iK (bu ⟨QI,ZA⟩ bg bg) bg) (bu ⟨FL,LU⟩ bg bg)) (bu ⟨Sd,aa6⟩ (bu ⟨SI,abD⟩ (bu ⟨QX,ZP⟩ bg bg) bg) (bu ⟨Qz,Zr⟩ (bu ⟨Rp,aai⟩ bg bg) bg)))))) (iK (iK (iK (iK (bu ⟨RO,aaH⟩ (bu ⟨Sg,aa9⟩ bg (bu ⟨Rt,aam⟩ bg bg)) (bu ⟨SL,abG⟩ (bu ⟨Q0,ZS⟩ bg bg) bg)) (bu ⟨afk,ant⟩ (bu ⟨Sv,abp⟩ (bu ⟨ae8,ani⟩ bg bg) bg) (bu ⟨Qn,Zf⟩ (bu ⟨Ra,Z2⟩ bg bg) bg))) (bu ⟨RI,aaB⟩ (bu ⟨RV,aaO⟩ (bu ⟨HH,NF⟩ (bu ⟨QD,Zv⟩ bg bg) (bu ⟨RB,aau⟩ bg bg)) (bu ⟨ae3,anc⟩ (bu ⟨Q7,ZZ⟩ bg bg) bg)) (bu ⟨R9,aa2⟩ (bu ⟨SD,abx⟩ (bu ⟨QT,ZL⟩ bg bg) bg) (bu ⟨Qu,Zm⟩ (bu ⟨Rk,aad⟩ bg bg) bg)))) (iK (bu ⟨RF,aay⟩ (bu ⟨afg,anp⟩ (bu ⟨Sk,abf⟩ bg (bu ⟨Rw,aap⟩ bg bg)) (bu ⟨Qc,Y4⟩ (bu ⟨Q3,ZV⟩ bg bg) bg)) (bu ⟨R5,aaY⟩ (bu ⟨Sz,abt⟩ (bu ⟨QP,ZH⟩ bg bg) bg) (bu ⟨Qp,Zh⟩ (bu ⟨Rg,Z7⟩ bg bg) bg))) (bu ⟨RK,aaD⟩ (bu ⟨RY,aaR⟩ (bu ⟨Ss,abm⟩ (bu ⟨QH,Zz⟩ bg bg) bg) (bu ⟨Qk,Zc⟩ bg bg)) (bu ⟨afo,anx⟩ (bu ⟨afu,anE⟩ (bu ⟨QW,ZO⟩ bg bg) bg) (bu ⟨Qy,Zq⟩ (bu ⟨Ro,aah⟩ bg bg) bg))))) (bu ⟨afp,anz⟩ (bu ⟨ae5,anf⟩ (bu ⟨Rq,aaj⟩ (bu ⟨RQ,aaJ⟩ (bu ⟨Si,abd⟩ bg (bu ⟨Ru,aan⟩ bg bg)) (bu ⟨SN,abI⟩ (bu ⟨Q1,ZT⟩ bg bg) bg)) (bu ⟨R3,aaW⟩ (bu ⟨Sx,abr⟩ (bu ⟨ae9,anj⟩ bg bg) bg) (iK (bu ⟨Rc,Z4⟩ bg bg) bg))) (iK (iK (bu ⟨Sq,abk⟩ (bu ⟨QF,Zx⟩ bg bg) (bu ⟨RD,aaw⟩ bg bg)) (bu ⟨ae4,ane⟩ bg bg)) (bu ⟨afn,anw⟩ (bu ⟨afs,anC⟩ (bu ⟨QV,ZN⟩ bg bg) bg) (bu ⟨Qw,Zo⟩ (bu ⟨Rm,aaf⟩ bg bg) bg)))) (iK (bu ⟨RG,aaz⟩ (bu ⟨RT,aaM⟩ (bu ⟨Sm,abh⟩ (bu ⟨ae7,anh⟩ bg bg) (bu ⟨Ry,aar⟩ bg bg)) (bu ⟨Qe,Y6⟩ (bu ⟨Q5,ZX⟩ bg bg) bg)) (bu ⟨afl,anu⟩ (bu ⟨SB,abv⟩ (bu ⟨QR,ZJ⟩ bg bg) bg) (bu ⟨Qr,Zj⟩ (bu ⟨Ri,Z9⟩ bg bg) bg))) (bu ⟨RM,aaF⟩ (bu ⟨afi,anr⟩ (iK (bu ⟨QJ,ZB⟩ bg bg) bg) (bu ⟨Ql,Zd⟩ (bu ⟨Q8,Z0⟩ bg bg) bg)) (bu ⟨Se,aa7⟩ (bu ⟨SJ,abE⟩ (bu ⟨QY,ZQ⟩ bg bg) bg) (bu ⟨ae6,ang⟩ (bu ⟨Rr,aak⟩ bg bg) bg)))))))
theorem uM:y0 Tryz.prog (fun f=>acT.get f) :=apF apG
end Go.cn
