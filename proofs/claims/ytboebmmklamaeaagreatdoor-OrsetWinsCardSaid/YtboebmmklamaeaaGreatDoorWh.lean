/-
  The code of the functions, without types, as the canonical machine reads it (printed by program).
-/
import Derived.Test.YtboebmmklamaeaaGreatDoorWg
import Derived.Test.YtboebmmklamaeaaGreatDoorRows
import Derived.ProofKit
set_option linter.unusedVariables false
set_option linter.unusedSimpArgs false
set_option linter.unnecessarySimpa false
namespace Go.cj
open Go Go.Proofs
set_option maxRecDepth 100000
def jn:aT:=(.seq (.ai [ad 0 4 (.box (U 0)),
 ad 1 5 (.box (U 1)),
 ad 2 8 (.ap (.const (.bool false)))])
 (.seq (.seq (.ai [ad 0 22 (.aX 1 (U 4)),
 sc 1 23 9 [(U 22)],
 af 2 24 23,
 aE 3 25 24 false (.aX 11 (U 5)),
 ⟨4,(some 26),(some ((some 24),false)),.cV 10 [(U 25)],[],false⟩,
 ad 5 27 (.pick (U 24) (.const (.bool true)) (U 26)),
 af 6 28 27,
 aE 7 29 28 false (.ap (U 2)),
 aE 8 30 28 false (.len (.ao 32) (U 29)),
 aE 9 31 28 false (.bin .gtr 3 (U 30) (.const (.int .i64 70))),
 ad 10 32 (.pick (U 28) (.const (.bool true)) (U 31)),
 af 11 33 32,
 aE 12 34 33 false (.ap (U 3)),
 aE 13 35 33 false (.len .str (U 34)),
 aE 14 36 33 false (.bin .gtr 3 (U 35) (.const (.int .i64 100))),
 ad 15 37 (.pick (U 33) (.const (.bool true)) (U 36))])
 (.cond (U 37) (.seq (.ai [ad 0 8 (.ap (.const (.bool true)))])
 .ret) .skip))
 (.seq (.ai [ad 0 38 (.cL 33 ([.str []]++rep 32 (.int .u8 0)) 0 []),
 ad 1 39 (.aN 0 (U 4)),
 ad 2 40 (.ld1 (U 39)),
 ad 3 41 (.app 33 48 (U 38) (U 40)),
 ad 4 42 (.dW [.aZ] [(0,1,(U 41))]),
 ad 5 9 (.alloc [.aZ]),
 bC 6 (.st 1 (U 9) (U 42))])
 (.seq (.ai [ad 0 44 (.aX 1 (U 9)),
 ad 1 45 (.aX 11 (U 5)),
 af 2 46 2,
 sc 3 47 11 [(U 44),(U 45),(U 46)],
 af 4 43 47,
 ad 5 48 (.ext (U 43) 0),
 ad 6 49 (.ext (U 43) 1),
 ad 7 10 (.alloc [.aZ]),
 bC 8 (.st 1 (U 10) (U 48)),
 af 9 11 49])
 (.seq (.ai [ad 0 51 (.aX 1 (U 4)),
 ad 1 52 (.aX 11 (U 5)),
 af 2 53 2,
 sc 3 54 12 [(U 51),(U 52),(U 53)],
 af 4 50 54,
 ad 5 55 (.ext (U 50) 0),
 ad 6 56 (.ext (U 50) 1),
 ad 7 12 (.alloc [.aZ]),
 bC 8 (.st 1 (U 12) (U 55)),
 af 9 13 56])
 (.seq (.ai [ad 0 58 (.aX 1 (U 9)),
 af 1 59 3,
 sc 2 60 13 [(U 58),(U 59)],
 af 3 57 60,
 ad 4 61 (.ext (U 57) 0),
 ad 5 62 (.ext (U 57) 1),
 af 6 14 61,
 af 7 15 62])
 (.seq (.ai [ad 0 64 (.aX 1 (U 4)),
 af 1 65 3,
 sc 2 66 14 [(U 64),(U 65)],
 af 3 63 66,
 ad 4 67 (.ext (U 63) 0),
 ad 5 68 (.ext (U 63) 1),
 af 6 16 67,
 af 7 17 68])
 (.seq (.ai [ad 0 70 (.aX 1 (U 9)),
 sc 1 71 15 [(U 70)],
 af 2 69 71,
 ad 3 72 (.ext (U 69) 0),
 ad 4 73 (.ext (U 69) 1),
 af 5 18 72,
 af 6 19 73])
 (.seq (.ai [ad 0 75 (.aX 1 (U 4)),
 sc 1 76 16 [(U 75)],
 af 2 74 76,
 ad 3 77 (.ext (U 74) 0),
 ad 4 78 (.ext (U 74) 1),
 af 5 20 77,
 af 6 21 78])
 (.seq (.gy [sc 0 79 17 [],
 ad 1 80 (.wE 0 (U 79)),
 ad 2 81 (.len (.ao 33) (U 80)),
 ad 3 82 (.bin .eql 3 (U 81) (.const (.int .i64 0))),
 af 4 83 82,
 aE 5 84 83 true (.aX 1 (U 9)),
 ⟨7,(some 86),(some ((some 83),true)),.cF (.aX 1 (U 4)),[],true⟩,
 ⟨6,(some 85),(some ((some 83),true)),.cV 18 [(U 84)],[7],false⟩,
 ⟨8,(some 87),(some ((some 83),true)),.cV 19 [(U 86)],[],false⟩,
 aE 9 88 83 true (.bin .eql 3 (U 85) (U 87)),
 ad 10 89 (.pick (U 83) (U 88) (.const (.bool false))),
 af 11 90 89,
 aE 12 91 90 true (.aX 1 (U 10)),
 aE 13 92 90 true (.aX 1 (U 12)),
 ⟨14,(some 93),(some ((some 90),true)),.cV 20 [(U 91),(U 92)],[],false⟩,
 ad 15 94 (.pick (U 90) (U 93) (.const (.bool false))),
 af 16 95 94,
 aE 17 96 95 true (.ap (U 11)),
 aE 18 97 95 true (.ap (U 13)),
 aE 19 98 95 true (.bin .eql 3 (U 96) (U 97)),
 ad 20 99 (.pick (U 95) (U 98) (.const (.bool false))),
 af 21 100 99,
 aE 22 101 100 true (.ap (U 14)),
 aE 23 102 100 true (.ap (U 16)),
 aE 24 103 100 true (.bin .eql 4 (U 101) (U 102)),
 ad 25 104 (.pick (U 100) (U 103) (.const (.bool false))),
 af 26 105 104,
 aE 27 106 105 true (.ap (U 15)),
 aE 28 107 105 true (.ap (U 17)),
 aE 29 108 105 true (.bin .eql 3 (U 106) (U 107)),
 ad 30 109 (.pick (U 105) (U 108) (.const (.bool false))),
 af 31 110 109,
 aE 32 111 110 true (.ap (U 18)),
 aE 33 112 110 true (.ap (U 20)),
 ⟨34,(some 113),(some ((some 110),true)),.cV 21 [(U 111),(U 112)],[],false⟩,
 ad 35 114 (.pick (U 110) (U 113) (.const (.bool false))),
 af 36 115 114,
 aE 37 116 115 true (.ap (U 19)),
 aE 38 117 115 true (.ap (U 21)),
 aE 39 118 115 true (.bin .eql 3 (U 116) (U 117)),
 ad 40 119 (.pick (U 115) (U 118) (.const (.bool false))),
 af 41 120 119,
 aE 42 121 120 true (.aX 1 (U 9)),
 aE 43 122 120 true (.aX 1 (U 4)),
 ⟨44,(some 123),(some ((some 120),true)),.cV 20 [(U 121),(U 122)],[],false⟩,
 ad 45 124 (.pick (U 120) (U 123) (.const (.bool false))),
 af 46 8 124])
 .ret))))))))))
def qQ:List a2:=[.ap (U 8)]
theorem aez:bm Tryz.prog 3=some jn:=by kernel_rfl
theorem amT:bn Tryz.prog 3=some qQ:=by kernel_rfl
def WF:aT:=(.seq (.seq (.ai [af 0 64 14,
 ad 1 65 (.aN 1 (U 2)),
 ad 2 66 (.ld1 (U 65)),
 ad 3 67 (.len (.ao 11) (U 66)),
 ad 4 68 (.bin .lss 3 (U 64) (U 67))])
 (.cond (U 68) .skip (.exit 0)))
 (.seq (.block 1 (.ai [af 0 71 13,
 ad 1 72 (.aX 2 (U 2)),
 ad 2 73 (.aN 0 (U 2)),
 ad 3 74 (.ld1 (U 73)),
 af 4 75 14,
 ad 5 76 (.bf (.ao 32) (U 74) (U 75)),
 ad 6 77 (.aX 32 (U 76)),
 sc 7 78 29 [(U 72),(U 77)],
 ad 8 79 (.cL 1 [.aZ] 1 [(0,(U 78))]),
 ad 9 80 (.app 1 24 (U 71) (U 79)),
 af 10 13 80]))
 (.ai [af 0 69 14,
 ad 1 70 (.bin .add 3 (U 69) (.const (.int .i64 1))),
 af 2 14 70])))
def WG:aT:=(.seq (.seq (.ai [af 0 107 17,
 ad 1 108 (.aN 1 (U 2)),
 ad 2 109 (.ld1 (U 108)),
 ad 3 110 (.len (.ao 11) (U 109)),
 ad 4 111 (.bin .lss 3 (U 107) (U 110))])
 (.cond (U 111) .skip (.exit 4)))
 (.seq (.block 5 (.seq (.ai [ad 0 114 (.aN 1 (U 2)),
 ad 1 115 (.ld1 (U 114)),
 af 2 116 17,
 ad 3 117 (.bf (.ao 11) (U 115) (U 116)),
 ad 4 118 (.aN 3 (U 117)),
 ad 5 119 (.aN 0 (U 118)),
 ad 6 120 (.ld1 (U 119)),
 ad 7 121 (.bin .eql 5 (U 120) (.const (.int .u8 3))),
 af 8 122 121,
 aE 9 123 122 true (.aN 1 (U 2)),
 aE 10 124 122 true (.ld1 (U 123)),
 aE 11 125 122 true (.ap (U 17)),
 aE 12 126 122 true (.bf (.ao 11) (U 124) (U 125)),
 aE 13 127 122 true (.aN 3 (U 126)),
 aE 14 128 122 true (.aN 1 (U 127)),
 aE 15 129 122 true (.ld1 (U 128)),
 aE 16 130 122 true (.ap (U 1)),
 aE 17 131 122 true (.bin .eql 9 (U 129) (U 130)),
 ad 18 132 (.pick (U 122) (U 131) (.const (.bool false))),
 af 19 133 132,
 aE 20 134 133 true (.ap (U 13)),
 aE 21 135 133 true (.ap (U 17)),
 aE 22 136 133 true (.bf (.ao 1) (U 134) (U 135)),
 aE 23 137 133 true (.ld1 (U 136)),
 aE 24 138 133 true (.aN 0 (U 2)),
 aE 25 139 133 true (.ld1 (U 138)),
 aE 26 140 133 true (.ap (U 15)),
 aE 27 141 133 true (.bf (.ao 32) (U 139) (U 140)),
 aE 28 142 133 true (.aX 32 (U 141)),
 ⟨29,(some 143),(some ((some 133),true)),.cV 30 [(U 137),(U 142)],[],false⟩,
 ad 30 144 (.pick (U 133) (U 143) (.const (.bool false)))])
 (.cond (U 144) (.ai [ad 0 16 (.ap (.const (.bool false)))]) .skip)))
 (.ai [af 0 112 17,
 ad 1 113 (.bin .add 3 (U 112) (.const (.int .i64 1))),
 af 2 17 113])))
def WH:aT:=(.seq (.seq (.ai [af 0 81 15,
 ad 1 82 (.aN 1 (U 2)),
 ad 2 83 (.ld1 (U 82)),
 ad 3 84 (.len (.ao 11) (U 83)),
 ad 4 85 (.bin .lss 3 (U 81) (U 84))])
 (.cond (U 85) .skip (.exit 2)))
 (.seq (.block 3 (.seq (.seq (.ai [ad 0 88 (.aN 1 (U 2)),
 ad 1 89 (.ld1 (U 88)),
 af 2 90 15,
 ad 3 91 (.bf (.ao 11) (U 89) (U 90)),
 ad 4 92 (.aN 3 (U 91)),
 ad 5 93 (.aN 0 (U 92)),
 ad 6 94 (.ld1 (U 93)),
 ad 7 95 (.bin .neq 5 (U 94) (.const (.int .u8 2))),
 af 8 96 95,
 aE 9 97 96 false (.aN 1 (U 2)),
 aE 10 98 96 false (.ld1 (U 97)),
 aE 11 99 96 false (.ap (U 15)),
 aE 12 100 96 false (.bf (.ao 11) (U 98) (U 99)),
 aE 13 101 96 false (.aN 3 (U 100)),
 aE 14 102 96 false (.aN 1 (U 101)),
 aE 15 103 96 false (.ld1 (U 102)),
 aE 16 104 96 false (.ap (U 1)),
 aE 17 105 96 false (.bin .neq 9 (U 103) (U 104)),
 ad 18 106 (.pick (U 96) (.const (.bool true)) (U 105))])
 (.cond (U 106) (.exit 3) .skip))
 (.seq (.ai [ad 0 16 (.ap (.const (.bool true)))])
 (.seq (.seq (.ai [ad 0 17 (.ap (.const (.int .i64 0)))])
 (.block 4 (.loop WG)))
 (.ai [af 0 145 12,
 af 1 146 145,
 aE 2 147 146 false (.ap (U 16)),
 ad 3 148 (.pick (U 146) (.const (.bool true)) (U 147)),
 af 4 12 148])))))
 (.ai [af 0 86 15,
 ad 1 87 (.bin .add 3 (U 86) (.const (.int .i64 1))),
 af 2 15 87])))
def WI:aT:=(.seq (.seq (.ai [af 0 149 19,
 af 1 150 10,
 ad 2 151 (.len (.ao 1) (U 150)),
 ad 3 152 (.bin .lss 3 (U 149) (U 151))])
 (.cond (U 152) .skip (.exit 6)))
 (.seq (.block 7 (.ai [af 0 155 18,
 af 1 156 155,
 aE 2 157 156 false (.ap (U 10)),
 aE 3 158 156 false (.ap (U 19)),
 aE 4 159 156 false (.bf (.ao 1) (U 157) (U 158)),
 aE 5 160 156 false (.ld1 (U 159)),
 aE 6 161 156 false (.ap (U 1)),
 aE 7 162 156 false (.bin .eql 9 (U 160) (U 161)),
 ad 8 163 (.pick (U 156) (.const (.bool true)) (U 162)),
 af 9 18 163]))
 (.ai [af 0 153 19,
 ad 1 154 (.bin .add 3 (U 153) (.const (.int .i64 1))),
 af 2 19 154])))
def yw:aT:=(.seq (.ai [ad 0 2 (.box (U 0)),
 ad 1 4 (.ap (.const (.bool false)))])
 (.seq (.ai [sc 0 20 27 [],
 af 1 5 20])
 (.seq (.seq (.ai [ad 0 21 (.aX 2 (U 2)),
 sc 1 22 22 [(U 21)],
 af 2 23 22,
 aE 3 24 23 false (.aX 2 (U 2)),
 ⟨4,(some 25),(some ((some 23),false)),.cV 28 [(U 24)],[],false⟩,
 aE 5 26 23 false (.bin .neq 3 (U 25) (.const (.int .i64 0))),
 ad 6 27 (.pick (U 23) (.const (.bool true)) (U 26)),
 af 7 28 27,
 aE 8 29 28 false (.ap (U 1)),
 aE 9 30 28 false (.len .str (U 29)),
 aE 10 31 28 false (.bin .gtr 3 (U 30) (.const (.int .i64 100))),
 ad 11 32 (.pick (U 28) (.const (.bool true)) (U 31)),
 af 12 33 32,
 aE 13 34 33 false (.ap (U 5)),
 aE 14 35 33 false (.un .not (U 34)),
 ad 15 36 (.pick (U 33) (.const (.bool true)) (U 35))])
 (.cond (U 36) (.seq (.ai [af 0 37 5,
 af 1 4 37])
 .ret) .skip))
 (.seq (.ai [ad 0 39 (.aX 2 (U 2)),
 sc 1 40 24 [(U 39)],
 af 2 38 40,
 ad 3 41 (.ext (U 38) 0),
 ad 4 42 (.ext (U 38) 1),
 ad 5 6 (.alloc [.aZ]),
 bC 6 (.st 1 (U 6) (U 41)),
 af 7 7 42])
 (.seq (.ai [ad 0 44 (.aX 1 (U 6)),
 af 1 45 1,
 sc 2 46 13 [(U 44),(U 45)],
 af 3 43 46,
 ad 4 47 (.ext (U 43) 0),
 ad 5 48 (.ext (U 43) 1),
 af 6 8 47,
 af 7 9 48])
 (.seq (.ai [ad 0 50 (.aX 1 (U 6)),
 sc 1 51 15 [(U 50)],
 af 2 49 51,
 ad 3 52 (.ext (U 49) 0),
 ad 4 53 (.ext (U 49) 1),
 af 5 10 52,
 af 6 11 53])
 (.seq (.seq (.ai [af 0 54 7,
 ad 1 55 (.bin .neq 38 (U 54) (.const (.int .i64 0))),
 af 2 56 55,
 aE 3 57 56 false (.ap (U 9)),
 aE 4 58 56 false (.bin .neq 38 (U 57) (.const (.int .i64 0))),
 ad 5 59 (.pick (U 56) (.const (.bool true)) (U 58)),
 af 6 60 59,
 aE 7 61 60 false (.ap (U 11)),
 aE 8 62 60 false (.bin .neq 38 (U 61) (.const (.int .i64 0))),
 ad 9 63 (.pick (U 60) (.const (.bool true)) (U 62))])
 (.cond (U 63) (.seq (.ai [ad 0 4 (.ap (.const (.bool false)))])
 .ret) .skip))
 (.seq (.ai [ad 0 12 (.ap (.const (.bool false)))])
 (.seq (.ai [ad 0 13 (.ap (.const (.slice none 0 0)))])
 (.seq (.seq (.ai [ad 0 14 (.ap (.const (.int .i64 0)))])
 (.block 0 (.loop WF)))
 (.seq (.seq (.ai [ad 0 15 (.ap (.const (.int .i64 0)))])
 (.block 2 (.loop WH)))
 (.seq (.ai [ad 0 18 (.ap (.const (.bool false)))])
 (.seq (.seq (.ai [ad 0 19 (.ap (.const (.int .i64 0)))])
 (.block 6 (.loop WI)))
 (.seq (.ai [af 0 164 5,
 af 1 165 164,
 aE 2 166 165 true (.ap (U 8)),
 aE 3 167 165 true (.ap (U 12)),
 aE 4 168 165 true (.bin .eql 4 (U 166) (U 167)),
 ad 5 169 (.pick (U 165) (U 168) (.const (.bool false))),
 af 6 170 169,
 aE 7 171 170 true (.ap (U 18)),
 aE 8 172 170 true (.ap (U 8)),
 aE 9 173 170 true (.bin .eql 4 (U 171) (U 172)),
 ad 10 174 (.pick (U 170) (U 173) (.const (.bool false))),
 af 11 4 174])
 .ret))))))))))))))
def tX:List a2:=[.ap (U 4)]
theorem Q7:bm Tryz.prog 5=some yw:=by kernel_rfl
theorem aad:bn Tryz.prog 5=some tX:=by kernel_rfl
def akU:aT:=(.seq (.seq (.ai [af 0 77 11,
 ad 1 78 (.aN 0 (U 3)),
 ad 2 79 (.ld1 (U 78)),
 ad 3 80 (.len (.ao 33) (U 79)),
 ad 4 81 (.bin .lss 3 (U 77) (U 80))])
 (.cond (U 81) .skip (.exit 0)))
 (.seq (.block 1 (.seq (.ai [ad 0 84 (.aN 3 (U 4)),
 ad 1 85 (.aN 0 (U 84)),
 ad 2 86 (.ld1 (U 85)),
 ad 3 87 (.bin .eql 5 (U 86) (.const (.int .u8 3))),
 af 4 88 87,
 aE 5 89 88 true (.aN 0 (U 3)),
 aE 6 90 88 true (.ld1 (U 89)),
 aE 7 91 88 true (.ap (U 11)),
 aE 8 92 88 true (.bf (.ao 33) (U 90) (U 91)),
 aE 9 93 88 true (.aN 0 (U 92)),
 aE 10 94 88 true (.ld1 (U 93)),
 aE 11 95 88 true (.aN 3 (U 4)),
 aE 12 96 88 true (.aN 1 (U 95)),
 aE 13 97 88 true (.ld1 (U 96)),
 aE 14 98 88 true (.bin .eql 9 (U 94) (U 97)),
 ad 15 99 (.pick (U 88) (U 98) (.const (.bool false))),
 af 16 100 99,
 aE 17 101 100 true (.ap (U 2)),
 aE 18 102 100 true (.aN 0 (U 3)),
 aE 19 103 100 true (.ld1 (U 102)),
 aE 20 104 100 true (.ap (U 11)),
 aE 21 105 100 true (.bf (.ao 33) (U 103) (U 104)),
 aE 22 106 100 true (.aN 1 (U 105)),
 aE 23 107 100 true (.aX 32 (U 106)),
 ⟨24,(some 108),(some ((some 100),true)),.cV 30 [(U 101),(U 107)],[],false⟩,
 ad 25 109 (.pick (U 100) (U 108) (.const (.bool false))),
 af 26 12 109])
 (.seq (.ai [ad 0 110 (.aN 0 (U 8)),
 ad 1 111 (.ld1 (U 110)),
 ad 2 112 (.aN 0 (U 3)),
 ad 3 113 (.ld1 (U 112)),
 af 4 114 11,
 ad 5 115 (.bf (.ao 33) (U 113) (U 114)),
 ad 6 116 (.aX 33 (U 115)),
 af 8 118 12,
 sc 7 117 33 [(U 111),(U 116)],
 ad 9 119 (.bin .eql 4 (U 117) (U 118))])
 (.cond (U 119) (.seq (.ai [ad 0 6 (.ap (.const (.bool false)))])
 .ret) .skip))))
 (.ai [af 0 82 11,
 ad 1 83 (.bin .add 3 (U 82) (.const (.int .i64 1))),
 af 2 11 83])))
def akV:aT:=(.seq (.seq (.ai [af 0 120 14,
 ad 1 121 (.aN 0 (U 8)),
 ad 2 122 (.ld1 (U 121)),
 ad 3 123 (.len (.ao 33) (U 122)),
 ad 4 124 (.bin .lss 3 (U 120) (U 123))])
 (.cond (U 124) .skip (.exit 2)))
 (.seq (.block 3 (.seq (.ai [ad 0 127 (.aN 0 (U 3)),
 ad 1 128 (.ld1 (U 127)),
 ad 2 129 (.aN 0 (U 8)),
 ad 3 130 (.ld1 (U 129)),
 af 4 131 14,
 ad 5 132 (.bf (.ao 33) (U 130) (U 131)),
 ad 6 133 (.aX 33 (U 132)),
 sc 7 134 33 [(U 128),(U 133)],
 ad 8 135 (.un .not (U 134))])
 (.cond (U 135) (.seq (.ai [af 0 136 13,
 ad 1 137 (.bin .add 3 (U 136) (.const (.int .i64 1))),
 af 2 13 137])
 (.seq (.ai [ad 0 138 (.aN 3 (U 4)),
 ad 1 139 (.aN 0 (U 138)),
 ad 2 140 (.ld1 (U 139)),
 ad 3 141 (.bin .neq 5 (U 140) (.const (.int .u8 2))),
 af 4 142 141,
 aE 5 143 142 false (.aN 0 (U 8)),
 aE 6 144 142 false (.ld1 (U 143)),
 aE 7 145 142 false (.ap (U 14)),
 aE 8 146 142 false (.bf (.ao 33) (U 144) (U 145)),
 aE 9 147 142 false (.aX 33 (U 146)),
 aE 10 148 142 false (.aN 3 (U 4)),
 aE 11 149 142 false (.aN 1 (U 148)),
 aE 12 150 142 false (.ld1 (U 149)),
 aE 13 151 142 false (.aX 32 (U 10)),
 aE 14 152 142 false (.dW ([.str []]++rep 32 (.int .u8 0)) [(0,1,(U 150)),(1,32,(U 151))]),
 aE 15 153 142 false (.bin .neq 77 (U 147) (U 152)),
 ad 16 154 (.pick (U 142) (.const (.bool true)) (U 153))])
 (.cond (U 154) (.seq (.ai [ad 0 6 (.ap (.const (.bool false)))])
 .ret) .skip))) .skip)))
 (.ai [af 0 125 14,
 ad 1 126 (.bin .add 3 (U 125) (.const (.int .i64 1))),
 af 2 14 126])))
def yx:aT:=(.seq (.ai [ad 0 3 (.box (U 0)),
 ad 1 4 (.box (U 1)),
 ad 2 6 (.ap (.const (.bool false)))])
 (.seq (.ai [sc 0 15 27 [],
 af 1 7 15])
 (.seq (.seq (.ai [ad 0 16 (.aX 1 (U 3)),
 sc 1 17 9 [(U 16)],
 af 2 18 17,
 aE 3 19 18 false (.aX 1 (U 3)),
 ⟨4,(some 20),(some ((some 18),false)),.cV 19 [(U 19)],[],false⟩,
 aE 5 21 18 false (.bin .neq 3 (U 20) (.const (.int .i64 0))),
 ad 6 22 (.pick (U 18) (.const (.bool true)) (U 21)),
 af 7 23 22,
 aE 8 24 23 false (.aX 11 (U 4)),
 ⟨9,(some 25),(some ((some 23),false)),.cV 10 [(U 24)],[],false⟩,
 ad 10 26 (.pick (U 23) (.const (.bool true)) (U 25)),
 af 11 27 26,
 aE 12 28 27 false (.aX 11 (U 4)),
 ⟨13,(some 29),(some ((some 27),false)),.cV 31 [(U 28)],[],false⟩,
 aE 14 30 27 false (.bin .neq 3 (U 29) (.const (.int .i64 0))),
 ad 15 31 (.pick (U 27) (.const (.bool true)) (U 30)),
 af 16 32 31,
 aE 17 33 32 false (.ap (U 2)),
 aE 18 34 32 false (.len (.ao 32) (U 33)),
 aE 19 35 32 false (.bin .gtr 3 (U 34) (.const (.int .i64 60))),
 ad 20 36 (.pick (U 32) (.const (.bool true)) (U 35)),
 af 21 37 36,
 aE 22 38 37 false (.ap (U 7)),
 aE 23 39 37 false (.un .not (U 38)),
 ad 24 40 (.pick (U 37) (.const (.bool true)) (U 39))])
 (.cond (U 40) (.seq (.ai [af 0 41 7,
 af 1 6 41])
 .ret) .skip))
 (.seq (.ai [ad 0 43 (.aX 1 (U 3)),
 ad 1 44 (.aX 11 (U 4)),
 af 2 45 2,
 sc 3 46 11 [(U 43),(U 44),(U 45)],
 af 4 42 46,
 ad 5 47 (.ext (U 42) 0),
 ad 6 48 (.ext (U 42) 1),
 ad 7 8 (.alloc [.aZ]),
 bC 8 (.st 1 (U 8) (U 47)),
 af 9 9 48])
 (.seq (.ai [ad 0 49 (.aX 11 (U 4)),
 sc 1 50 32 [(U 49)],
 ad 2 10 (.alloc (rep 32 (.int .u8 0))),
 bC 3 (.st 32 (U 10) (U 50))])
 (.seq (.seq (.ai [af 0 51 9,
 ad 1 52 (.bin .neq 38 (U 51) (.const (.int .i64 0)))])
 (.cond (U 52) (.seq (.ai [af 0 53 7,
 af 1 54 53,
 aE 2 55 54 true (.aN 3 (U 4)),
 aE 3 56 54 true (.aN 0 (U 55)),
 aE 4 57 54 true (.ld1 (U 56)),
 aE 5 58 54 true (.bin .eql 5 (U 57) (.const (.int .u8 2))),
 ad 6 59 (.pick (U 54) (U 58) (.const (.bool false))),
 af 7 60 59,
 aE 8 61 60 true (.ap (U 9)),
 aE 9 62 60 true (.bin .eql 38 (U 61) (.const (.int .i64 14))),
 aE 10 63 60 true (.ap (U 62)),
 aE 11 64 63 false (.ap (U 9)),
 aE 12 65 63 false (.bin .eql 38 (U 64) (.const (.int .i64 18))),
 aE 13 66 63 false (.ap (U 65)),
 aE 14 67 66 true (.aN 0 (U 3)),
 aE 15 68 66 true (.ld1 (U 67)),
 aE 16 69 66 true (.len (.ao 33) (U 68)),
 aE 17 70 66 true (.bin .eql 3 (U 69) (.const (.int .i64 60))),
 aE 18 71 63 false (.pick (U 66) (U 70) (.const (.bool false))),
 aE 19 72 60 true (.pick (U 63) (.const (.bool true)) (U 71)),
 ad 20 73 (.pick (U 60) (U 72) (.const (.bool false))),
 af 21 6 73])
 .ret) .skip))
 (.seq (.seq (.ai [ad 0 74 (.aX 1 (U 8)),
 sc 1 75 19 [(U 74)],
 ad 2 76 (.bin .neq 3 (U 75) (.const (.int .i64 0)))])
 (.cond (U 76) (.seq (.ai [ad 0 6 (.ap (.const (.bool false)))])
 .ret) .skip))
 (.seq (.seq (.ai [ad 0 11 (.ap (.const (.int .i64 0)))])
 (.block 0 (.loop akU)))
 (.seq (.ai [ad 0 13 (.ap (.const (.int .i64 0)))])
 (.seq (.seq (.ai [ad 0 14 (.ap (.const (.int .i64 0)))])
 (.block 2 (.loop akV)))
 (.seq (.ai [af 0 155 7,
 af 1 156 155,
 aE 2 157 156 true (.ap (U 13)),
 aE 3 158 156 true (.bin .eql 3 (U 157) (.const (.int .i64 1))),
 aE 4 159 156 true (.aN 3 (U 4)),
 aE 5 160 156 true (.aN 0 (U 159)),
 aE 6 161 156 true (.ld1 (U 160)),
 aE 7 162 156 true (.bin .eql 5 (U 161) (.const (.int .u8 2))),
 aE 8 163 156 true (.bin .eql 4 (U 158) (U 162)),
 ad 9 164 (.pick (U 156) (U 163) (.const (.bool false))),
 af 10 6 164])
 .ret)))))))))))
def tY:List a2:=[.ap (U 6)]
theorem aeL:bm Tryz.prog 6=some yx:=by kernel_rfl
theorem am5:bn Tryz.prog 6=some tY:=by kernel_rfl
def ak0:aT:=(.seq (.seq (.ai [af 0 4 3,
 ad 1 5 (.aN 0 (U 1)),
 ad 2 6 (.ld1 (U 5)),
 ad 3 7 (.len (.ao 33) (U 6)),
 ad 4 8 (.bin .lss 3 (U 4) (U 7)),
 af 5 9 8,
 aE 6 10 9 true (.ap (U 3)),
 aE 7 11 9 true (.bin .leq 3 (U 10) (.const (.int .i64 100))),
 ad 8 12 (.pick (U 9) (U 11) (.const (.bool false)))])
 (.cond (U 12) .skip (.exit 0)))
 (.seq (.block 1 (.seq (.ai [ad 0 15 (.aN 0 (U 1)),
 ad 1 16 (.ld1 (U 15)),
 af 2 17 3,
 ad 3 18 (.bf (.ao 33) (U 16) (U 17)),
 ad 4 19 (.aN 0 (U 18)),
 ad 5 20 (.ld1 (U 19)),
 ad 6 21 (.len .str (U 20)),
 ad 7 22 (.bin .gtr 3 (U 21) (.const (.int .i64 100)))])
 (.cond (U 22) (.seq (.ai [ad 0 2 (.ap (.const (.bool true)))])
 .ret) .skip)))
 (.ai [af 0 13 3,
 ad 1 14 (.bin .add 3 (U 13) (.const (.int .i64 1))),
 af 2 3 14])))
def Bg:aT:=(.seq (.ai [ad 0 1 (.box (U 0)),
 ad 1 2 (.ap (.const (.bool false)))])
 (.seq (.seq (.ai [ad 0 3 (.ap (.const (.int .i64 0)))])
 (.block 0 (.loop ak0)))
 (.seq (.ai [ad 0 23 (.aN 0 (U 1)),
 ad 1 24 (.ld1 (U 23)),
 ad 2 25 (.len (.ao 33) (U 24)),
 ad 3 26 (.bin .gtr 3 (U 25) (.const (.int .i64 100))),
 af 4 2 26])
 .ret)))
def aaF:List a2:=[.ap (U 2)]
theorem aeS:bm Tryz.prog 9=some Bg:=by kernel_rfl
theorem anc:bn Tryz.prog 9=some aaF:=by kernel_rfl
def O3:aT:=(.seq (.ai [ad 0 1 (.box (U 0)),
 ad 1 2 (.ap (.const (.bool false)))])
 (.seq (.ai [ad 0 3 (.aN 1 (U 1)),
 ad 1 4 (.ld1 (U 3)),
 ad 2 5 (.len (.ao 32) (U 4)),
 ad 3 6 (.bin .gtr 3 (U 5) (.const (.int .i64 40))),
 af 4 7 6,
 aE 5 8 7 false (.aN 3 (U 1)),
 aE 6 9 7 false (.aN 1 (U 8)),
 aE 7 10 7 false (.ld1 (U 9)),
 aE 8 11 7 false (.len .str (U 10)),
 aE 9 12 7 false (.bin .gtr 3 (U 11) (.const (.int .i64 100))),
 ad 10 13 (.pick (U 7) (.const (.bool true)) (U 12)),
 af 11 14 13,
 aE 12 15 14 false (.aN 3 (U 1)),
 aE 13 16 14 false (.aN 2 (U 15)),
 aE 14 17 14 false (.aN 3 (U 16)),
 aE 15 18 14 false (.ld1 (U 17)),
 aE 16 19 14 false (.len .str (U 18)),
 aE 17 20 14 false (.bin .gtr 3 (U 19) (.const (.int .i64 100))),
 ad 18 21 (.pick (U 14) (.const (.bool true)) (U 20)),
 af 19 2 21])
 .ret))
def Ya:List a2:=[.ap (U 2)]
theorem aek:bm Tryz.prog 10=some O3:=by kernel_rfl
theorem amE:bn Tryz.prog 10=some Ya:=by kernel_rfl
def Pe:aT:=(.seq (.ai [ad 0 3 (.box (U 0)),
 ad 1 4 (.box (U 1)),
 ad 2 5 (.box (U 2)),
 ad 3 6 (.alloc [.aZ]),
 ad 4 7 (.ap (.const (.int .i64 0)))])
 (.seq (.seq (.ai [ad 0 15 (.aX 1 (U 3)),
 sc 1 16 18 [(U 15)],
 af 2 8 16])
 (.seq (.ai [af 0 17 8,
 ad 1 18 (.bin .neq 38 (U 17) (.const (.int .i64 0)))])
 (.cond (U 18) (.seq (.ai [ad 0 19 (.dW [.aZ] []),
 af 1 20 8,
 bC 2 (.st 1 (U 6) (U 19)),
 af 3 7 20])
 .ret) .skip)))
 (.seq (.ai [ad 0 22 (.aX 11 (U 4)),
 sc 1 23 38 [(U 22)],
 af 2 21 23,
 ad 3 24 (.ext (U 21) 0),
 ad 4 25 (.ext (U 21) 1),
 ad 5 9 (.alloc (rep 32 (.int .u8 0))),
 bC 6 (.st 32 (U 9) (U 24)),
 af 7 10 25])
 (.seq (.seq (.ai [af 0 26 10,
 ad 1 27 (.bin .neq 38 (U 26) (.const (.int .i64 0)))])
 (.cond (U 27) (.seq (.ai [ad 0 28 (.dW [.aZ] []),
 bC 1 (.st 1 (U 6) (U 28)),
 ad 2 7 (.ap (.const (.int .i64 8)))])
 .ret) .skip))
 (.seq (.seq (.ai [ad 0 29 (.ld1 (U 5)),
 ad 1 30 (.len (.ao 32) (U 29)),
 ad 2 31 (.bin .gtr 3 (U 30) (.const (.int .i64 60)))])
 (.cond (U 31) (.seq (.ai [ad 0 32 (.dW [.aZ] []),
 bC 1 (.st 1 (U 6) (U 32)),
 ad 2 7 (.ap (.const (.int .i64 4)))])
 .ret) .skip))
 (.seq (.ai [ad 0 33 (.aN 0 (U 3)),
 ad 1 34 (.ld1 (U 33)),
 sc 2 35 39 [(U 34)],
 ad 3 36 (.dW [.aZ] [(0,1,(U 35))]),
 ad 4 11 (.alloc [.aZ]),
 bC 5 (.st 1 (U 11) (U 36))])
 (.seq (.seq (.ai [ad 0 37 (.aN 3 (U 4)),
 ad 1 38 (.aN 0 (U 37)),
 ad 2 39 (.ld1 (U 38))])
 (.block 0 (.seq (.ai [ad 0 41 (.bin .eql 5 (U 39) (.const (.int .u8 2))),
 af 1 40 41])
 (.cond (U 40) (.seq (.ai [ad 0 42 (.aN 3 (U 4)),
 ad 1 43 (.aN 1 (U 42)),
 ad 2 44 (.ld1 (U 43)),
 ad 3 45 (.aX 32 (U 9)),
 ad 4 46 (.dW ([.str []]++rep 32 (.int .u8 0)) [(0,1,(U 44)),(1,32,(U 45))]),
 ad 5 12 (.alloc ([.str []]++rep 32 (.int .u8 0))),
 bC 6 (.st 33 (U 12) (U 46))])
 (.seq (.ai [ad 0 48 (.aN 0 (U 11)),
 ad 1 49 (.ld1 (U 48)),
 ad 2 50 (.aX 33 (U 12)),
 sc 3 51 40 [(U 49),(U 50),(.func 41)],
 af 4 47 51,
 ad 5 52 (.ext (U 47) 0),
 ad 6 53 (.ext (U 47) 1),
 af 7 13 52,
 af 8 14 53])
 (.seq (.seq (.ai [af 0 54 14])
 (.cond (U 54) (.seq (.ai [ad 0 55 (.dW [.aZ] []),
 bC 1 (.st 1 (U 6) (U 55)),
 ad 2 7 (.ap (.const (.int .i64 14)))])
 .ret) .skip))
 (.seq (.seq (.ai [ad 0 56 (.aN 0 (U 11)),
 ad 1 57 (.ld1 (U 56)),
 ad 2 58 (.len (.ao 33) (U 57)),
 ad 3 59 (.bin .eql 3 (U 58) (.const (.int .i64 60)))])
 (.cond (U 59) (.seq (.ai [ad 0 60 (.dW [.aZ] []),
 bC 1 (.st 1 (U 6) (U 60)),
 ad 2 7 (.ap (.const (.int .i64 18)))])
 .ret) .skip))
 (.ai [ad 0 61 (.aN 0 (U 11)),
 ad 1 62 (.ld1 (U 61)),
 af 2 63 13,
 ad 3 64 (.aX 33 (U 12)),
 ad 4 65 (.cL 33 ([.str []]++rep 32 (.int .u8 0)) 1 [(0,(U 64))]),
 sc 5 66 42 [(U 62),(U 63),(U 65)],
 ad 6 67 (.aN 0 (U 11)),
 bC 7 (.st 1 (U 67) (U 66))]))))) (.seq (.ai [ad 0 69 (.bin .eql 5 (U 39) (.const (.int .u8 3))),
 af 1 68 69])
 (.cond (U 68) (.ai [ad 0 70 (.aN 0 (U 11)),
 ad 1 71 (.ld1 (U 70)),
 ad 2 72 (.pm 44 [] [(U 4),(U 5)]),
 sc 3 73 43 [(U 71),(U 72)],
 ad 4 74 (.aN 0 (U 11)),
 bC 5 (.st 1 (U 74) (U 73))]) .skip))))))
 (.seq (.ai [ad 0 75 (.aX 1 (U 11)),
 bC 1 (.st 1 (U 6) (U 75)),
 ad 2 7 (.ap (.const (.int .i64 0)))])
 .ret))))))))
def Yk:List a2:=[.aX 1 (U 6),.ap (U 7)]
theorem ael:bm Tryz.prog 11=some Pe:=by kernel_rfl
theorem amF:bn Tryz.prog 11=some Yk:=by kernel_rfl
def Fc:aT:=(.seq (.ai [ad 0 2 (.box (U 0)),
 ad 1 4 (.ap (.const (.bool false))),
 ad 2 5 (.ap (.const (.int .i64 0)))])
 (.seq (.ai [ad 0 9 (.aX 1 (U 2)),
 sc 1 10 15 [(U 9)],
 af 2 8 10,
 ad 3 11 (.ext (U 8) 0),
 ad 4 12 (.ext (U 8) 1),
 af 5 6 11,
 af 6 7 12])
 (.seq (.ai [af 0 13 6,
 af 1 14 1,
 sc 2 15 47 [(U 13),(U 14)],
 af 3 16 7,
 af 4 4 15,
 af 5 5 16])
 .ret)))
def K3:List a2:=[.ap (U 4),.ap (U 5)]
theorem PB:bm Tryz.prog 13=some Fc:=by kernel_rfl
theorem YG:bn Tryz.prog 13=some K3:=by kernel_rfl
def Wb:aT:=(.seq (.ai [ad 0 17 (.bin .lss 3 (U 16) (U 15))])
 (.seq (.cond (U 17) .skip (.exit 0))
 (.seq (.block 1 (.seq (.ai [ad 0 18 (.bf (.ao 33) (U 14) (U 16)),
 ad 1 19 (.aX 33 (U 18)),
 ad 2 7 (.alloc ([.str []]++rep 32 (.int .u8 0))),
 bC 3 (.st 33 (U 7) (U 19))])
 (.ai [af 0 20 5,
 ad 1 21 (.aN 0 (U 7)),
 ad 2 22 (.ld1 (U 21)),
 ad 3 23 (.cL 1 [.str []] 1 [(0,(U 22))]),
 ad 4 24 (.app 1 16 (U 20) (U 23)),
 af 5 5 24])))
 (.ai [ad 0 25 (.bin .add 3 (U 16) (.const (.int .i64 1))),
 af 1 16 25]))))
def yu:aT:=(.seq (.ai [ad 0 1 (.box (U 0)),
 ad 1 2 (.ap (.const (.slice none 0 0))),
 ad 2 3 (.ap (.const (.int .i64 0)))])
 (.seq (.seq (.ai [ad 0 8 (.aX 1 (U 1)),
 sc 1 9 18 [(U 8)],
 af 2 4 9])
 (.seq (.ai [af 0 10 4,
 ad 1 11 (.bin .neq 38 (U 10) (.const (.int .i64 0)))])
 (.cond (U 11) (.seq (.ai [af 0 12 4,
 ad 1 2 (.ap (.const (.slice none 0 0))),
 af 2 3 12])
 .ret) .skip)))
 (.seq (.ai [ad 0 5 (.ap (.const (.slice none 0 0)))])
 (.seq (.seq (.ai [ad 0 13 (.aN 0 (U 1)),
 ad 1 14 (.ld1 (U 13)),
 ad 2 15 (.len (.ao 33) (U 14)),
 ad 3 16 (.ap (.const (.int .i64 0)))])
 (.block 0 (.loop Wb)))
 (.seq (.ai [af 0 26 5,
 sc 1 27 49 [(U 26)],
 af 2 2 27,
 ad 3 3 (.ap (.const (.int .i64 0)))])
 .ret)))))
def Lg:List a2:=[.ap (U 2),.ap (U 3)]
theorem PV:bm Tryz.prog 15=some yu:=by kernel_rfl
theorem Y0:bn Tryz.prog 15=some Lg:=by kernel_rfl
def FJ:aT:=(.seq (.ai [ad 0 0 (.alloc [.aZ])])
 (.seq (.ai [ad 0 1 (.dW [.aZ] []),
 bC 1 (.st 1 (U 0) (U 1))])
 .ret))
def xL:List a2:=[.aX 1 (U 0)]
theorem Qa:bm Tryz.prog 17=some FJ:=by kernel_rfl
theorem Zf:bn Tryz.prog 17=some xL:=by kernel_rfl
def Wk:aT:=(.seq (.ai [ad 0 13 (.bin .lss 3 (U 12) (U 11))])
 (.seq (.cond (U 13) .skip (.exit 0))
 (.seq (.block 1 (.seq (.ai [af 0 14 12,
 ad 1 15 (.bf (.ao 33) (U 10) (U 12)),
 ad 2 16 (.aX 33 (U 15)),
 ad 3 4 (.alloc ([.str []]++rep 32 (.int .u8 0))),
 af 4 3 14,
 bC 5 (.st 33 (U 4) (U 16))])
 (.seq (.ai [ad 0 17 (.aN 0 (U 4)),
 ad 1 18 (.ld1 (U 17)),
 ad 2 19 (.dW [.int .u8 0,.str [],.int .u8 0,.int .i64 0,.int .u64 0,.str []] [(0,1,(.const (.int .u8 2))),(1,1,(U 18))]),
 sc 3 20 50 [(U 19)],
 ad 4 21 (.bin .neq 38 (U 20) (.const (.int .i64 0))),
 af 5 22 21,
 aE 6 23 22 false (.ap (U 3)),
 aE 7 24 22 false (.bin .gtr 3 (U 23) (.const (.int .i64 0))),
 aE 8 25 22 false (.ap (U 24)),
 aE 9 26 25 true (.aN 0 (U 1)),
 aE 10 27 25 true (.ld1 (U 26)),
 aE 11 28 25 true (.ap (U 3)),
 aE 12 29 25 true (.bin .sub 3 (U 28) (.const (.int .i64 1))),
 aE 13 30 25 true (.bf (.ao 33) (U 27) (U 29)),
 aE 14 31 25 true (.aX 33 (U 30)),
 aE 15 32 25 true (.aX 33 (U 4)),
 ⟨16,(some 33),(some ((some 25),true)),.cV 41 [(U 31),(U 32)],[],false⟩,
 aE 17 34 25 true (.bin .geq 3 (U 33) (.const (.int .i64 0))),
 aE 18 35 22 false (.pick (U 25) (U 34) (.const (.bool false))),
 ad 19 36 (.pick (U 22) (.const (.bool true)) (U 35))])
 (.cond (U 36) (.seq (.ai [ad 0 2 (.ap (.const (.int .i64 8)))])
 .ret) .skip))))
 (.ai [ad 0 37 (.bin .add 3 (U 12) (.const (.int .i64 1))),
 af 1 12 37]))))
def FP:aT:=(.seq (.ai [ad 0 1 (.box (U 0)),
 ad 1 2 (.ap (.const (.int .i64 0)))])
 (.seq (.seq (.ai [ad 0 5 (.aN 0 (U 1)),
 ad 1 6 (.ld1 (U 5)),
 ad 2 7 (.len (.ao 33) (U 6)),
 ad 3 8 (.bin .gtr 3 (U 7) (.const (.int .i64 60)))])
 (.cond (U 8) (.seq (.ai [ad 0 2 (.ap (.const (.int .i64 4)))])
 .ret) .skip))
 (.seq (.seq (.ai [ad 0 9 (.aN 0 (U 1)),
 ad 1 10 (.ld1 (U 9)),
 ad 2 11 (.len (.ao 33) (U 10)),
 ad 3 12 (.ap (.const (.int .i64 0)))])
 (.block 0 (.loop Wk)))
 (.seq (.ai [ad 0 2 (.ap (.const (.int .i64 0)))])
 .ret))))
def xM:List a2:=[.ap (U 2)]
theorem Ql:bm Tryz.prog 18=some FP:=by kernel_rfl
theorem Zq:bn Tryz.prog 18=some xM:=by kernel_rfl
def akI:aT:=(.seq (.seq (.ai [af 0 8 3,
 ad 1 9 (.aN 0 (U 1)),
 ad 2 10 (.ld1 (U 9)),
 ad 3 11 (.len (.ao 33) (U 10)),
 ad 4 12 (.bin .lss 3 (U 8) (U 11))])
 (.cond (U 12) .skip (.exit 0)))
 (.seq (.block 1 (.seq (.ai [ad 0 15 (.aN 0 (U 1)),
 ad 1 16 (.ld1 (U 15)),
 af 2 17 3,
 ad 3 18 (.bf (.ao 33) (U 16) (U 17)),
 ad 4 19 (.aN 0 (U 18)),
 ad 5 20 (.ld1 (U 19)),
 sc 6 21 51 [(U 20)],
 ad 7 22 (.un .not (U 21)),
 af 8 23 22,
 aE 9 24 23 false (.ap (U 3)),
 aE 10 25 23 false (.bin .gtr 3 (U 24) (.const (.int .i64 0))),
 aE 11 26 23 false (.ap (U 25)),
 aE 12 27 26 true (.aN 0 (U 1)),
 aE 13 28 26 true (.ld1 (U 27)),
 aE 14 29 26 true (.ap (U 3)),
 aE 15 30 26 true (.bin .sub 3 (U 29) (.const (.int .i64 1))),
 aE 16 31 26 true (.bf (.ao 33) (U 28) (U 30)),
 aE 17 32 26 true (.aX 33 (U 31)),
 aE 18 33 26 true (.aN 0 (U 1)),
 aE 19 34 26 true (.ld1 (U 33)),
 aE 20 35 26 true (.ap (U 3)),
 aE 21 36 26 true (.bf (.ao 33) (U 34) (U 35)),
 aE 22 37 26 true (.aX 33 (U 36)),
 ⟨23,(some 38),(some ((some 26),true)),.cV 52 [(U 32),(U 37)],[],false⟩,
 aE 24 39 26 true (.un .not (U 38)),
 aE 25 40 23 false (.pick (U 26) (U 39) (.const (.bool false))),
 ad 26 41 (.pick (U 23) (.const (.bool true)) (U 40))])
 (.cond (U 41) (.seq (.ai [ad 0 2 (.ap (.const (.int .i64 8)))])
 .ret) .skip)))
 (.ai [af 0 13 3,
 ad 1 14 (.bin .add 3 (U 13) (.const (.int .i64 1))),
 af 2 3 14])))
def Qm:aT:=(.seq (.ai [ad 0 1 (.box (U 0)),
 ad 1 2 (.ap (.const (.int .i64 0)))])
 (.seq (.seq (.ai [ad 0 4 (.aN 0 (U 1)),
 ad 1 5 (.ld1 (U 4)),
 ad 2 6 (.len (.ao 33) (U 5)),
 ad 3 7 (.bin .gtr 3 (U 6) (.const (.int .i64 60)))])
 (.cond (U 7) (.seq (.ai [ad 0 2 (.ap (.const (.int .i64 4)))])
 .ret) .skip))
 (.seq (.seq (.ai [ad 0 3 (.ap (.const (.int .i64 0)))])
 (.block 0 (.loop akI)))
 (.seq (.ai [ad 0 2 (.ap (.const (.int .i64 0)))])
 .ret))))
def An:List a2:=[.ap (U 2)]
theorem aes:bm Tryz.prog 19=some Qm:=by kernel_rfl
theorem amM:bn Tryz.prog 19=some An:=by kernel_rfl
def akJ:aT:=(.seq (.seq (.ai [af 0 13 5,
 ad 1 14 (.aN 0 (U 2)),
 ad 2 15 (.ld1 (U 14)),
 ad 3 16 (.len (.ao 33) (U 15)),
 ad 4 17 (.bin .lss 3 (U 13) (U 16))])
 (.cond (U 17) .skip (.exit 0)))
 (.seq (.block 1 (.seq (.ai [ad 0 20 (.aN 0 (U 2)),
 ad 1 21 (.ld1 (U 20)),
 af 2 22 5,
 ad 3 23 (.bf (.ao 33) (U 21) (U 22)),
 ad 4 24 (.aX 33 (U 23)),
 ad 5 25 (.aN 0 (U 3)),
 ad 6 26 (.ld1 (U 25)),
 af 7 27 5,
 ad 8 28 (.bf (.ao 33) (U 26) (U 27)),
 ad 9 29 (.aX 33 (U 28)),
 ad 10 30 (.bin .neq 77 (U 24) (U 29))])
 (.cond (U 30) (.seq (.ai [ad 0 4 (.ap (.const (.bool false)))])
 .ret) .skip)))
 (.ai [af 0 18 5,
 ad 1 19 (.bin .add 3 (U 18) (.const (.int .i64 1))),
 af 2 5 19])))
def Qw:aT:=(.seq (.ai [ad 0 2 (.box (U 0)),
 ad 1 3 (.box (U 1)),
 ad 2 4 (.ap (.const (.bool false)))])
 (.seq (.seq (.ai [ad 0 6 (.aN 0 (U 2)),
 ad 1 7 (.ld1 (U 6)),
 ad 2 8 (.len (.ao 33) (U 7)),
 ad 3 9 (.aN 0 (U 3)),
 ad 4 10 (.ld1 (U 9)),
 ad 5 11 (.len (.ao 33) (U 10)),
 ad 6 12 (.bin .neq 3 (U 8) (U 11))])
 (.cond (U 12) (.seq (.ai [ad 0 4 (.ap (.const (.bool false)))])
 .ret) .skip))
 (.seq (.seq (.ai [ad 0 5 (.ap (.const (.int .i64 0)))])
 (.block 0 (.loop akJ)))
 (.seq (.ai [ad 0 4 (.ap (.const (.bool true)))])
 .ret))))
def ZA:List a2:=[.ap (U 4)]
theorem aet:bm Tryz.prog 20=some Qw:=by kernel_rfl
theorem amN:bn Tryz.prog 20=some ZA:=by kernel_rfl
def Ws:aT:=(.seq (.seq (.ai [af 0 4 3,
 ad 1 5 (.aN 1 (U 1)),
 ad 2 6 (.ld1 (U 5)),
 ad 3 7 (.len (.ao 11) (U 6)),
 ad 4 8 (.bin .lss 3 (U 4) (U 7)),
 af 5 9 8,
 aE 6 10 9 true (.ap (U 3)),
 aE 7 11 9 true (.bin .leq 3 (U 10) (.const (.int .i64 70))),
 ad 8 12 (.pick (U 9) (U 11) (.const (.bool false)))])
 (.cond (U 12) .skip (.exit 0)))
 (.seq (.block 1 (.seq (.ai [ad 0 15 (.aN 1 (U 1)),
 ad 1 16 (.ld1 (U 15)),
 af 2 17 3,
 ad 3 18 (.bf (.ao 11) (U 16) (U 17)),
 ad 4 19 (.aX 11 (U 18)),
 sc 5 20 53 [(U 19)]])
 (.cond (U 20) (.seq (.ai [ad 0 2 (.ap (.const (.bool true)))])
 .ret) .skip)))
 (.ai [af 0 13 3,
 ad 1 14 (.bin .add 3 (U 13) (.const (.int .i64 1))),
 af 2 3 14])))
def Ge:aT:=(.seq (.ai [ad 0 1 (.box (U 0)),
 ad 1 2 (.ap (.const (.bool false)))])
 (.seq (.seq (.ai [ad 0 3 (.ap (.const (.int .i64 0)))])
 (.block 0 (.loop Ws)))
 (.seq (.ai [ad 0 21 (.aN 1 (U 1)),
 ad 1 22 (.ld1 (U 21)),
 ad 2 23 (.len (.ao 11) (U 22)),
 ad 3 24 (.bin .gtr 3 (U 23) (.const (.int .i64 16))),
 af 4 25 24,
 aE 5 26 25 true (.aN 1 (U 1)),
 aE 6 27 25 true (.ld1 (U 26)),
 aE 7 28 25 true (.len (.ao 11) (U 27)),
 aE 8 29 25 true (.bin .leq 3 (U 28) (.const (.int .i64 60))),
 ad 9 30 (.pick (U 25) (U 29) (.const (.bool false))),
 af 10 31 30,
 aE 11 32 31 false (.aN 1 (U 1)),
 aE 12 33 31 false (.ld1 (U 32)),
 aE 13 34 31 false (.len (.ao 11) (U 33)),
 aE 14 35 31 false (.bin .gtr 3 (U 34) (.const (.int .i64 70))),
 ad 15 36 (.pick (U 31) (.const (.bool true)) (U 35)),
 af 16 37 36,
 aE 17 38 37 false (.aN 0 (U 1)),
 aE 18 39 37 false (.ld1 (U 38)),
 aE 19 40 37 false (.len (.ao 32) (U 39)),
 aE 20 41 37 false (.bin .gtr 3 (U 40) (.const (.int .i64 70))),
 ad 21 42 (.pick (U 37) (.const (.bool true)) (U 41)),
 af 22 2 42])
 .ret)))
def L4:List a2:=[.ap (U 2)]
theorem QB:bm Tryz.prog 22=some Ge:=by kernel_rfl
theorem ZF:bn Tryz.prog 22=some L4:=by kernel_rfl
def akK:aT:=(.seq (.seq (.ai [af 0 10 4,
 ad 1 11 (.aN 1 (U 1)),
 ad 2 12 (.ld1 (U 11)),
 ad 3 13 (.len (.ao 11) (U 12)),
 ad 4 14 (.bin .lss 3 (U 10) (U 13))])
 (.cond (U 14) .skip (.exit 0)))
 (.seq (.block 1 (.gy [ad 0 17 (.aN 1 (U 3)),
 ⟨1,(some 18),none,.cF (.ld1 (U 17)),[],true⟩,
 ad 2 19 (.aN 1 (U 1)),
 ad 3 20 (.ld1 (U 19)),
 af 4 21 4,
 ad 5 22 (.bf (.ao 11) (U 20) (U 21)),
 ad 6 23 (.aX 11 (U 22)),
 ⟨7,(some 24),none,.cV 54 [(U 23)],[1],false⟩,
 ad 8 25 (.cL 11 [.int .u32 0,.aZ,.int .u64 0,.int .u8 0,.str [],.int .u8 0,.int .i64 0,.int .u64 0,.str [],.int .u32 0,.int .u32 0] 1 [(0,(U 24))]),
 ad 9 26 (.app 11 112 (U 18) (U 25)),
 ad 10 27 (.aN 1 (U 3)),
 bC 11 (.st 1 (U 27) (U 26))]))
 (.ai [af 0 15 4,
 ad 1 16 (.bin .add 3 (U 15) (.const (.int .i64 1))),
 af 2 4 16])))
def QC:aT:=(.seq (.ai [ad 0 1 (.box (U 0)),
 ad 1 2 (.alloc [.aZ,.aZ])])
 (.seq (.ai [ad 0 5 (.cL 32 (rep 32 (.int .u8 0)) 0 []),
 ad 1 6 (.aN 0 (U 1)),
 ad 2 7 (.ld1 (U 6)),
 ad 3 8 (.app 32 32 (U 5) (U 7)),
 ad 4 9 (.dW [.aZ,.aZ] [(0,1,(U 8))]),
 ad 5 3 (.alloc [.aZ,.aZ]),
 bC 6 (.st 2 (U 3) (U 9))])
 (.seq (.seq (.ai [ad 0 4 (.ap (.const (.int .i64 0)))])
 (.block 0 (.loop akK)))
 (.seq (.ai [ad 0 28 (.aX 2 (U 3)),
 bC 1 (.st 2 (U 2) (U 28))])
 .ret))))
def ZG:List a2:=[.aX 2 (U 2)]
theorem aeu:bm Tryz.prog 23=some QC:=by kernel_rfl
theorem amO:bn Tryz.prog 23=some ZG:=by kernel_rfl
def Wt:aT:=(.seq (.ai [ad 0 48 (.bin .lss 3 (U 47) (U 46))])
 (.seq (.cond (U 48) .skip (.exit 2))
 (.seq (.block 3 (.seq (.ai [ad 0 49 (.bf (.ao 32) (U 45) (U 47)),
 ad 1 50 (.aX 32 (U 49)),
 ad 2 11 (.alloc (rep 32 (.int .u8 0))),
 bC 3 (.st 32 (U 11) (U 50))])
 (.ai [af 0 51 5,
 ad 1 52 (.aN 3 (U 7)),
 ad 2 53 (.aN 1 (U 52)),
 ad 3 54 (.ld1 (U 53)),
 ad 4 55 (.aX 32 (U 11)),
 ad 5 56 (.dW ([.str []]++rep 32 (.int .u8 0)) [(0,1,(U 54)),(1,32,(U 55))]),
 bC 6 (.qG 77 (U 51) (U 56) (.const (.bool true)))])))
 (.ai [ad 0 57 (.bin .add 3 (U 47) (.const (.int .i64 1))),
 af 1 47 57]))))
def Wu:aT:=(.seq (.ai [ad 0 27 (.bin .lss 3 (U 26) (U 25))])
 (.seq (.cond (U 27) .skip (.exit 0))
 (.seq (.block 1 (.seq (.ai [af 0 28 26,
 ad 1 29 (.bf (.ao 11) (U 24) (U 26)),
 ad 2 30 (.aX 11 (U 29)),
 ad 3 7 (.alloc [.int .u32 0,.aZ,.int .u64 0,.int .u8 0,.str [],.int .u8 0,.int .i64 0,.int .u64 0,.str [],.int .u32 0,.int .u32 0]),
 af 4 6 28,
 bC 5 (.st 11 (U 7) (U 30))])
 (.seq (.seq (.ai [ad 0 31 (.aN 3 (U 7)),
 ad 1 32 (.aN 0 (U 31)),
 ad 2 33 (.ld1 (U 32)),
 ad 3 34 (.bin .neq 5 (U 33) (.const (.int .u8 3)))])
 (.cond (U 34) (.exit 1) .skip))
 (.seq (.ai [ad 0 36 (.aX 2 (U 1)),
 ad 1 37 (.aN 0 (U 1)),
 ad 2 38 (.ld1 (U 37)),
 af 3 39 6,
 ad 4 40 (.bf (.ao 32) (U 38) (U 39)),
 ad 5 41 (.aX 32 (U 40)),
 sc 6 42 56 [(U 36),(U 41)],
 af 7 35 42,
 ad 8 43 (.ext (U 35) 0),
 ad 9 44 (.ext (U 35) 1),
 af 10 8 43,
 af 11 9 44])
 (.seq (.ai [af 0 45 8,
 ad 1 46 (.len (.ao 32) (U 45)),
 ad 2 47 (.ap (.const (.int .i64 0)))])
 (.block 2 (.loop Wt)))))))
 (.ai [ad 0 58 (.bin .add 3 (U 26) (.const (.int .i64 1))),
 af 1 26 58]))))
def Wv:aT:=(.seq (.ai [ad 0 63 (.bin .lss 3 (U 62) (U 61))])
 (.seq (.cond (U 63) .skip (.exit 4))
 (.seq (.block 5 (.seq (.ai [af 0 64 62,
 ad 1 65 (.bf (.ao 11) (U 60) (U 62)),
 ad 2 66 (.aX 11 (U 65)),
 ad 3 14 (.alloc [.int .u32 0,.aZ,.int .u64 0,.int .u8 0,.str [],.int .u8 0,.int .i64 0,.int .u64 0,.str [],.int .u32 0,.int .u32 0]),
 af 4 13 64,
 bC 5 (.st 11 (U 14) (U 66))])
 (.seq (.ai [ad 0 67 (.aN 3 (U 14)),
 ad 1 68 (.aN 1 (U 67)),
 ad 2 69 (.ld1 (U 68)),
 ad 3 70 (.aN 0 (U 1)),
 ad 4 71 (.ld1 (U 70)),
 af 5 72 13,
 ad 6 73 (.bf (.ao 32) (U 71) (U 72)),
 ad 7 74 (.aX 32 (U 73)),
 ad 8 75 (.dW ([.str []]++rep 32 (.int .u8 0)) [(0,1,(U 69)),(1,32,(U 74))]),
 ad 9 15 (.alloc ([.str []]++rep 32 (.int .u8 0))),
 bC 10 (.st 33 (U 15) (U 75))])
 (.seq (.ai [ad 0 76 (.aN 3 (U 14)),
 ad 1 77 (.aN 0 (U 76)),
 ad 2 78 (.ld1 (U 77)),
 ad 3 79 (.bin .eql 5 (U 78) (.const (.int .u8 2))),
 af 4 80 79,
 aE 5 81 80 true (.ap (U 5)),
 aE 6 82 80 true (.aX 33 (U 15)),
 aE 7 83 80 true (.sa 77 (.bool false) false (U 81) (U 82)),
 aE 8 84 80 true (.un .not (U 83)),
 ad 9 85 (.pick (U 80) (U 84) (.const (.bool false)))])
 (.cond (U 85) (.ai [ad 0 86 (.aN 0 (U 12)),
 ad 1 87 (.ld1 (U 86)),
 ad 2 88 (.aX 33 (U 15)),
 ad 3 89 (.cL 33 ([.str []]++rep 32 (.int .u8 0)) 1 [(0,(U 88))]),
 ad 4 90 (.app 33 48 (U 87) (U 89)),
 ad 5 91 (.aN 0 (U 12)),
 bC 6 (.st 1 (U 91) (U 90))]) .skip)))))
 (.ai [ad 0 92 (.bin .add 3 (U 62) (.const (.int .i64 1))),
 af 1 62 92]))))
def Gf:aT:=(.seq (.ai [ad 0 1 (.box (U 0)),
 ad 1 2 (.alloc [.aZ]),
 ad 2 3 (.ap (.const (.int .i64 0)))])
 (.seq (.seq (.ai [ad 0 16 (.aX 2 (U 1)),
 sc 1 17 55 [(U 16)],
 af 2 4 17])
 (.seq (.ai [af 0 18 4,
 ad 1 19 (.bin .neq 38 (U 18) (.const (.int .i64 0)))])
 (.cond (U 19) (.seq (.ai [ad 0 20 (.dW [.aZ] []),
 af 1 21 4,
 bC 2 (.st 1 (U 2) (U 20)),
 af 3 3 21])
 .ret) .skip)))
 (.seq (.ai [ad 0 22 (.pn none),
 af 1 5 22])
 (.seq (.seq (.ai [ad 0 23 (.aN 1 (U 1)),
 ad 1 24 (.ld1 (U 23)),
 ad 2 25 (.len (.ao 11) (U 24)),
 ad 3 26 (.ap (.const (.int .i64 0)))])
 (.block 0 (.loop Wu)))
 (.seq (.ai [ad 0 12 (.alloc [.aZ])])
 (.seq (.seq (.ai [ad 0 59 (.aN 1 (U 1)),
 ad 1 60 (.ld1 (U 59)),
 ad 2 61 (.len (.ao 11) (U 60)),
 ad 3 62 (.ap (.const (.int .i64 0)))])
 (.block 4 (.loop Wv)))
 (.seq (.ai [ad 0 93 (.aN 0 (U 12)),
 ad 1 94 (.ld1 (U 93)),
 sc 2 95 57 [(U 94),(.func 41)]])
 (.seq (.ai [ad 0 96 (.aX 1 (U 12)),
 bC 1 (.st 1 (U 2) (U 96)),
 ad 2 3 (.ap (.const (.int .i64 0)))])
 .ret))))))))
def tW:List a2:=[.aX 1 (U 2),.ap (U 3)]
theorem QD:bm Tryz.prog 24=some Gf:=by kernel_rfl
theorem ZH:bn Tryz.prog 24=some tW:=by kernel_rfl
def QE:aT:=(.seq (.ai [ad 0 0 (.ap (.const (.bool false)))])
 (.seq (.ai [sc 0 12 36 [(.const (.int .u8 2)),(.const (.int .u64 1)),(.const (.slice none 0 0))],
 ad 1 1 (.alloc [.int .u32 0,.aZ,.int .u64 0,.int .u8 0,.str [],.int .u8 0,.int .i64 0,.int .u64 0,.str [],.int .u32 0,.int .u32 0]),
 bC 2 (.st 11 (U 1) (U 12))])
 (.seq (.ai [ad 0 13 (.aX 11 (U 1)),
 sc 1 14 32 [(U 13)],
 ad 2 15 (.cL 32 (rep 32 (.int .u8 0)) 1 [(0,(U 14))]),
 sc 3 16 36 [(.const (.int .u8 3)),(.const (.int .u64 2)),(U 15)],
 ad 4 2 (.alloc [.int .u32 0,.aZ,.int .u64 0,.int .u8 0,.str [],.int .u8 0,.int .i64 0,.int .u64 0,.str [],.int .u32 0,.int .u32 0]),
 bC 5 (.st 11 (U 2) (U 16))])
 (.seq (.ai [sc 0 17 36 [(.const (.int .u8 2)),(.const (.int .u64 3)),(.const (.slice none 0 0))],
 ad 1 3 (.alloc [.int .u32 0,.aZ,.int .u64 0,.int .u8 0,.str [],.int .u8 0,.int .i64 0,.int .u64 0,.str [],.int .u32 0,.int .u32 0]),
 bC 2 (.st 11 (U 3) (U 17))])
 (.seq (.ai [ad 0 19 (.aX 11 (U 1)),
 ad 1 20 (.aX 11 (U 2)),
 ad 2 21 (.aX 11 (U 3)),
 ad 3 22 (.cL 11 [.int .u32 0,.aZ,.int .u64 0,.int .u8 0,.str [],.int .u8 0,.int .i64 0,.int .u64 0,.str [],.int .u32 0,.int .u32 0] 3 [(0,(U 19)),(1,(U 20)),(2,(U 21))]),
 sc 4 23 60 [(U 22)],
 af 5 18 23,
 ad 6 24 (.ext (U 18) 0),
 ad 7 25 (.ext (U 18) 1),
 ad 8 4 (.alloc [.aZ,.aZ]),
 bC 9 (.st 2 (U 4) (U 24)),
 af 10 5 25])
 (.seq (.ai [ad 0 27 (.aX 11 (U 1)),
 ad 1 28 (.aX 11 (U 2)),
 ad 2 29 (.cL 11 [.int .u32 0,.aZ,.int .u64 0,.int .u8 0,.str [],.int .u8 0,.int .i64 0,.int .u64 0,.str [],.int .u32 0,.int .u32 0] 2 [(0,(U 27)),(1,(U 28))]),
 sc 3 30 60 [(U 29)],
 af 4 26 30,
 ad 5 31 (.ext (U 26) 0),
 ad 6 32 (.ext (U 26) 1),
 ad 7 6 (.alloc [.aZ,.aZ]),
 bC 8 (.st 2 (U 6) (U 31)),
 af 9 7 32])
 (.seq (.ai [ad 0 34 (.aX 2 (U 4)),
 sc 1 35 24 [(U 34)],
 af 2 33 35,
 ad 3 36 (.ext (U 33) 0),
 ad 4 37 (.ext (U 33) 1),
 ad 5 8 (.alloc [.aZ]),
 bC 6 (.st 1 (U 8) (U 36)),
 af 7 9 37])
 (.seq (.ai [ad 0 39 (.aX 2 (U 6)),
 sc 1 40 24 [(U 39)],
 af 2 38 40,
 ad 3 41 (.ext (U 38) 0),
 ad 4 42 (.ext (U 38) 1),
 ad 5 10 (.alloc [.aZ]),
 bC 6 (.st 1 (U 10) (U 41)),
 af 7 11 42])
 (.seq (.gy [af 0 43 5,
 ad 1 44 (.bin .eql 3 (U 43) (.const (.int .i64 0))),
 af 2 45 44,
 aE 3 46 45 true (.ap (U 7)),
 aE 4 47 45 true (.bin .eql 3 (U 46) (.const (.int .i64 0))),
 ad 5 48 (.pick (U 45) (U 47) (.const (.bool false))),
 af 6 49 48,
 aE 7 50 49 true (.ap (U 9)),
 aE 8 51 49 true (.bin .eql 38 (U 50) (.const (.int .i64 0))),
 ad 9 52 (.pick (U 49) (U 51) (.const (.bool false))),
 af 10 53 52,
 aE 11 54 53 true (.ap (U 11)),
 aE 12 55 53 true (.bin .eql 38 (U 54) (.const (.int .i64 0))),
 ad 13 56 (.pick (U 53) (U 55) (.const (.bool false))),
 af 14 57 56,
 ⟨15,(some 58),(some ((some 57),true)),.cF (.aX 1 (U 8)),[],true⟩,
 aE 16 59 57 true (.aX 11 (U 3)),
 ⟨17,(some 60),(some ((some 57),true)),.cV 32 [(U 59)],[15],false⟩,
 aE 18 61 57 true (.dW ([.str []]++rep 32 (.int .u8 0)) [(0,1,(.const (.string ⟨#[107]⟩))),(1,32,(U 60))]),
 aE 19 62 57 true (.cL 33 ([.str []]++rep 32 (.int .u8 0)) 1 [(0,(U 61))]),
 aE 20 63 57 true (.dW [.aZ] [(0,1,(U 62))]),
 ⟨21,(some 64),(some ((some 57),true)),.cV 20 [(U 58),(U 63)],[],false⟩,
 ad 22 65 (.pick (U 57) (U 64) (.const (.bool false))),
 af 23 66 65,
 aE 24 67 66 true (.aN 0 (U 10)),
 aE 25 68 66 true (.ld1 (U 67)),
 aE 26 69 66 true (.len (.ao 33) (U 68)),
 aE 27 70 66 true (.bin .eql 3 (U 69) (.const (.int .i64 0))),
 ad 28 71 (.pick (U 66) (U 70) (.const (.bool false))),
 af 29 0 71])
 .ret)))))))))
def ZI:List a2:=[.ap (U 0)]
theorem aev:bm Tryz.prog 27=some QE:=by kernel_rfl
theorem amP:bn Tryz.prog 27=some ZI:=by kernel_rfl
def Ww:aT:=(.seq (.seq (.ai [af 0 15 3,
 ad 1 16 (.aN 1 (U 1)),
 ad 2 17 (.ld1 (U 16)),
 ad 3 18 (.len (.ao 11) (U 17)),
 ad 4 19 (.bin .lss 3 (U 15) (U 18))])
 (.cond (U 19) .skip (.exit 0)))
 (.seq (.block 1 (.seq (.gy [ad 0 22 (.aN 1 (U 1)),
 ad 1 23 (.ld1 (U 22)),
 af 2 24 3,
 ad 3 25 (.bf (.ao 11) (U 23) (U 24)),
 ad 4 26 (.aX 11 (U 25)),
 sc 5 27 61 [(U 26)],
 ad 6 28 (.bin .neq 3 (U 27) (.const (.int .i64 0))),
 af 7 29 28,
 aE 8 30 29 false (.aN 1 (U 1)),
 aE 9 31 29 false (.ld1 (U 30)),
 aE 10 32 29 false (.ap (U 3)),
 aE 11 33 29 false (.bf (.ao 11) (U 31) (U 32)),
 aE 12 34 29 false (.aX 11 (U 33)),
 aE 14 36 29 false (.aN 0 (U 1)),
 ⟨15,(some 37),(some ((some 29),false)),.cF (.ld1 (U 36)),[],true⟩,
 aE 16 38 29 false (.ap (U 3)),
 aE 17 39 29 false (.bf (.ao 32) (U 37) (U 38)),
 ⟨18,(some 40),(some ((some 29),false)),.cF (.aX 32 (U 39)),[],true⟩,
 ⟨13,(some 35),(some ((some 29),false)),.cV 32 [(U 34)],[18,15],false⟩,
 aE 19 41 29 false (.bin .neq 71 (U 35) (U 40)),
 ad 20 42 (.pick (U 29) (.const (.bool true)) (U 41))])
 (.cond (U 42) (.seq (.ai [ad 0 2 (.ap (.const (.int .i64 8)))])
 .ret) .skip)))
 (.ai [af 0 20 3,
 ad 1 21 (.bin .add 3 (U 20) (.const (.int .i64 1))),
 af 2 3 21])))
def Gg:aT:=(.seq (.ai [ad 0 1 (.box (U 0)),
 ad 1 2 (.ap (.const (.int .i64 0)))])
 (.seq (.seq (.ai [ad 0 4 (.aN 1 (U 1)),
 ad 1 5 (.ld1 (U 4)),
 ad 2 6 (.len (.ao 11) (U 5)),
 ad 3 7 (.bin .gtr 3 (U 6) (.const (.int .i64 60)))])
 (.cond (U 7) (.seq (.ai [ad 0 2 (.ap (.const (.int .i64 4)))])
 .ret) .skip))
 (.seq (.seq (.ai [ad 0 8 (.aN 0 (U 1)),
 ad 1 9 (.ld1 (U 8)),
 ad 2 10 (.len (.ao 32) (U 9)),
 ad 3 11 (.aN 1 (U 1)),
 ad 4 12 (.ld1 (U 11)),
 ad 5 13 (.len (.ao 11) (U 12)),
 ad 6 14 (.bin .neq 3 (U 10) (U 13))])
 (.cond (U 14) (.seq (.ai [ad 0 2 (.ap (.const (.int .i64 8)))])
 .ret) .skip))
 (.seq (.seq (.ai [ad 0 3 (.ap (.const (.int .i64 0)))])
 (.block 0 (.loop Ww)))
 (.seq (.ai [ad 0 43 (.aX 2 (U 1)),
 sc 1 44 62 [(U 43)],
 af 2 2 44])
 .ret)))))
def L5:List a2:=[.ap (U 2)]
theorem QF:bm Tryz.prog 28=some Gg:=by kernel_rfl
theorem ZJ:bn Tryz.prog 28=some L5:=by kernel_rfl
def Wx:aT:=(.seq (.seq (.ai [af 0 21 8,
 ad 1 22 (.aN 1 (U 7)),
 ad 2 23 (.ld1 (U 22)),
 ad 3 24 (.len (.ao 32) (U 23)),
 ad 4 25 (.bin .lss 3 (U 21) (U 24))])
 (.cond (U 25) .skip (.exit 2)))
 (.seq (.block 3 (.seq (.ai [af 0 28 5,
 ad 1 29 (.aN 1 (U 7)),
 ad 2 30 (.ld1 (U 29)),
 af 3 31 8,
 ad 4 32 (.bf (.ao 32) (U 30) (U 31)),
 ad 5 33 (.aX 32 (U 32)),
 sc 6 34 30 [(U 28),(U 33)],
 ad 7 35 (.un .not (U 34))])
 (.cond (U 35) (.seq (.ai [af 0 36 5,
 ad 1 37 (.aN 1 (U 7)),
 ad 2 38 (.ld1 (U 37)),
 af 3 39 8,
 ad 4 40 (.bf (.ao 32) (U 38) (U 39)),
 ad 5 41 (.aX 32 (U 40)),
 ad 6 42 (.cL 32 (rep 32 (.int .u8 0)) 1 [(0,(U 41))]),
 ad 7 43 (.app 32 32 (U 36) (U 42)),
 af 8 5 43])
 (.ai [af 0 44 6,
 ad 1 45 (.aN 1 (U 7)),
 ad 2 46 (.ld1 (U 45)),
 af 3 47 8,
 ad 4 48 (.bf (.ao 32) (U 46) (U 47)),
 ad 5 49 (.aX 32 (U 48)),
 ad 6 50 (.cL 32 (rep 32 (.int .u8 0)) 1 [(0,(U 49))]),
 ad 7 51 (.app 32 32 (U 44) (U 50)),
 af 8 6 51])) .skip)))
 (.ai [af 0 26 8,
 ad 1 27 (.bin .add 3 (U 26) (.const (.int .i64 1))),
 af 2 8 27])))
def Wy:aT:=(.seq (.seq (.ai [af 0 11 6,
 ad 1 12 (.len (.ao 32) (U 11)),
 ad 2 13 (.bin .gtr 3 (U 12) (.const (.int .i64 0)))])
 (.cond (U 13) .skip (.exit 0)))
 (.block 1 (.seq (.gy [ad 0 14 (.aX 2 (U 2)),
 af 1 15 6,
 ad 2 16 (.bf (.ao 32) (U 15) (.const (.int .i64 0))),
 ad 3 17 (.aX 32 (U 16)),
 ⟨5,(some 7),none,.cF (.alloc [.int .u32 0,.aZ,.int .u64 0,.int .u8 0,.str [],.int .u8 0,.int .i64 0,.int .u64 0,.str [],.int .u32 0,.int .u32 0]),[],true⟩,
 ⟨4,(some 18),none,.cV 35 [(U 14),(U 17)],[5],false⟩,
 bC 6 (.st 11 (U 7) (U 18))])
 (.seq (.ai [af 0 19 6,
 ad 1 20 (.slice (.ao 32) (U 19) (some (.const (.int .i64 1))) none none),
 af 2 6 20])
 (.seq (.ai [ad 0 8 (.ap (.const (.int .i64 0)))])
 (.block 2 (.loop Wx)))))))
def Gh:aT:=(.seq (.ai [ad 0 2 (.box (U 0)),
 ad 1 3 (.box (U 1)),
 ad 2 4 (.ap (.const (.slice none 0 0)))])
 (.seq (.ai [ad 0 5 (.ap (.const (.slice none 0 0)))])
 (.seq (.ai [ad 0 9 (.aX 32 (U 3)),
 ad 1 10 (.cL 32 (rep 32 (.int .u8 0)) 1 [(0,(U 9))]),
 af 2 6 10])
 (.seq (.block 0 (.loop Wy))
 (.seq (.ai [af 0 52 5,
 af 1 4 52])
 .ret)))))
def L6:List a2:=[.ap (U 4)]
theorem QG:bm Tryz.prog 29=some Gh:=by kernel_rfl
theorem ZK:bn Tryz.prog 29=some L6:=by kernel_rfl
def Wz:aT:=(.seq (.seq (.ai [af 0 6 5,
 af 1 7 0,
 ad 2 8 (.len (.ao 32) (U 7)),
 ad 3 9 (.bin .lss 3 (U 6) (U 8))])
 (.cond (U 9) .skip (.exit 0)))
 (.seq (.block 1 (.seq (.ai [af 0 12 0,
 af 1 13 5,
 ad 2 14 (.bf (.ao 32) (U 12) (U 13)),
 ad 3 15 (.aX 32 (U 14)),
 ad 4 16 (.aX 32 (U 3)),
 ad 5 17 (.bin .eql 71 (U 15) (U 16))])
 (.cond (U 17) (.seq (.ai [ad 0 4 (.ap (.const (.bool true)))])
 .ret) .skip)))
 (.ai [af 0 10 5,
 ad 1 11 (.bin .add 3 (U 10) (.const (.int .i64 1))),
 af 2 5 11])))
def Gi:aT:=(.seq (.ai [ad 0 3 (.box (U 1)),
 ad 1 4 (.ap (.const (.bool false)))])
 (.seq (.seq (.ai [ad 0 5 (.ap (.const (.int .i64 0)))])
 (.block 0 (.loop Wz)))
 (.seq (.ai [ad 0 4 (.ap (.const (.bool false)))])
 .ret)))
def L7:List a2:=[.ap (U 4)]
theorem QH:bm Tryz.prog 30=some Gi:=by kernel_rfl
theorem ZL:bn Tryz.prog 30=some L7:=by kernel_rfl
def Gj:aT:=(.seq (.ai [ad 0 1 (.box (U 0)),
 ad 1 2 (.ap (.const (.int .i64 0)))])
 (.seq (.seq (.ai [ad 0 3 (.aN 1 (U 1)),
 ad 1 4 (.ld1 (U 3)),
 ad 2 5 (.len (.ao 32) (U 4)),
 ad 3 6 (.bin .gtr 3 (U 5) (.const (.int .i64 4)))])
 (.cond (U 6) (.seq (.ai [ad 0 2 (.ap (.const (.int .i64 4)))])
 .ret) .skip))
 (.seq (.seq (.ai [ad 0 7 (.aN 1 (U 1)),
 ad 1 8 (.ld1 (U 7)),
 sc 2 9 63 [(U 8)],
 ad 3 10 (.un .not (U 9))])
 (.cond (U 10) (.seq (.ai [ad 0 2 (.ap (.const (.int .i64 32)))])
 .ret) .skip))
 (.seq (.seq (.ai [ad 0 11 (.aN 0 (U 1)),
 ad 1 12 (.ld1 (U 11)),
 sc 2 13 64 [(U 12)],
 ad 3 14 (.un .not (U 13)),
 af 4 15 14,
 aE 5 16 15 false (.aN 2 (U 1)),
 aE 6 17 15 false (.ld1 (U 16)),
 aE 7 18 15 false (.bin .gtr 27 (U 17) (.const (.int .u64 1000000000000))),
 ad 8 19 (.pick (U 15) (.const (.bool true)) (U 18)),
 af 9 20 19,
 aE 10 21 20 false (.aN 3 (U 1)),
 aE 11 22 20 false (.aX 6 (U 21)),
 ⟨12,(some 23),(some ((some 20),false)),.cV 65 [(U 22)],[],false⟩,
 aE 13 24 20 false (.bin .neq 3 (U 23) (.const (.int .i64 0))),
 ad 14 25 (.pick (U 20) (.const (.bool true)) (U 24)),
 af 15 26 25,
 aE 16 27 26 false (.aN 9 (U 1)),
 aE 17 28 26 false (.aN 0 (U 27)),
 aE 18 29 26 false (.ld1 (U 28)),
 ⟨19,(some 30),(some ((some 26),false)),.cV 66 [(U 29)],[],false⟩,
 aE 20 31 26 false (.un .not (U 30)),
 ad 21 32 (.pick (U 26) (.const (.bool true)) (U 31)),
 af 22 33 32,
 aE 23 34 33 false (.aN 9 (U 1)),
 aE 24 35 33 false (.aN 1 (U 34)),
 aE 25 36 33 false (.ld1 (U 35)),
 ⟨26,(some 37),(some ((some 33),false)),.cV 66 [(U 36)],[],false⟩,
 aE 27 38 33 false (.un .not (U 37)),
 ad 28 39 (.pick (U 33) (.const (.bool true)) (U 38))])
 (.cond (U 39) (.seq (.ai [ad 0 2 (.ap (.const (.int .i64 8)))])
 .ret) .skip))
 (.seq (.ai [ad 0 2 (.ap (.const (.int .i64 0)))])
 .ret)))))
def L8:List a2:=[.ap (U 2)]
theorem QI:bm Tryz.prog 31=some Gj:=by kernel_rfl
theorem ZM:bn Tryz.prog 31=some L8:=by kernel_rfl
def Gk:aT:=(.seq (.ai [ad 0 1 (.box (U 0)),
 ad 1 2 (.alloc (rep 32 (.int .u8 0)))])
 (.seq (.ai [ad 0 3 (.aX 11 (U 1)),
 sc 1 4 68 [(U 3)],
 sc 2 5 67 [(U 4)],
 bC 3 (.st 32 (U 2) (U 5))])
 .ret))
def L9:List a2:=[.aX 32 (U 2)]
theorem QJ:bm Tryz.prog 32=some Gk:=by kernel_rfl
theorem ZN:bn Tryz.prog 32=some L9:=by kernel_rfl
def akL:aT:=(.seq (.seq (.ai [af 0 6 5,
 af 1 7 0,
 ad 2 8 (.len (.ao 33) (U 7)),
 ad 3 9 (.bin .lss 3 (U 6) (U 8))])
 (.cond (U 9) .skip (.exit 0)))
 (.seq (.block 1 (.seq (.ai [af 0 12 0,
 af 1 13 5,
 ad 2 14 (.bf (.ao 33) (U 12) (U 13)),
 ad 3 15 (.aX 33 (U 14)),
 ad 4 16 (.aX 33 (U 3)),
 ad 5 17 (.bin .eql 77 (U 15) (U 16))])
 (.cond (U 17) (.seq (.ai [ad 0 4 (.ap (.const (.bool true)))])
 .ret) .skip)))
 (.ai [af 0 10 5,
 ad 1 11 (.bin .add 3 (U 10) (.const (.int .i64 1))),
 af 2 5 11])))
def QK:aT:=(.seq (.ai [ad 0 3 (.box (U 1)),
 ad 1 4 (.ap (.const (.bool false)))])
 (.seq (.seq (.ai [ad 0 5 (.ap (.const (.int .i64 0)))])
 (.block 0 (.loop akL)))
 (.seq (.ai [ad 0 4 (.ap (.const (.bool false)))])
 .ret)))
def ZO:List a2:=[.ap (U 4)]
theorem aew:bm Tryz.prog 33=some QK:=by kernel_rfl
theorem amQ:bn Tryz.prog 33=some ZO:=by kernel_rfl
def Gl:aT:=(.seq (.ai [ad 0 2 (.box (U 0)),
 ad 1 3 (.box (U 1)),
 ad 2 4 (.alloc [.int .u32 0,.aZ,.int .u64 0,.int .u8 0,.str [],.int .u8 0,.int .i64 0,.int .u64 0,.str [],.int .u32 0,.int .u32 0])])
 (.seq (.ai [ad 0 6 (.aN 0 (U 2)),
 ad 1 7 (.ld1 (U 6)),
 ad 2 8 (.aX 32 (U 3)),
 sc 3 9 70 [(U 7),(U 8)],
 af 4 5 9])
 (.seq (.seq (.ai [af 0 10 5,
 ad 1 11 (.bin .lss 3 (U 10) (.const (.int .i64 0))),
 af 2 12 11,
 aE 3 13 12 false (.ap (U 5)),
 aE 4 14 12 false (.aN 1 (U 2)),
 aE 5 15 12 false (.ld1 (U 14)),
 aE 6 16 12 false (.len (.ao 11) (U 15)),
 aE 7 17 12 false (.bin .geq 3 (U 13) (U 16)),
 ad 8 18 (.pick (U 12) (.const (.bool true)) (U 17))])
 (.cond (U 18) (.seq (.ai [ad 0 19 (.dW [.int .u32 0,.aZ,.int .u64 0,.int .u8 0,.str [],.int .u8 0,.int .i64 0,.int .u64 0,.str [],.int .u32 0,.int .u32 0] []),
 bC 1 (.st 11 (U 4) (U 19))])
 .ret) .skip))
 (.seq (.ai [ad 0 20 (.aN 1 (U 2)),
 ad 1 21 (.ld1 (U 20)),
 af 2 22 5,
 ad 3 23 (.bf (.ao 11) (U 21) (U 22)),
 ad 4 24 (.aX 11 (U 23)),
 bC 5 (.st 11 (U 4) (U 24))])
 .ret))))
def Ma:List a2:=[.aX 11 (U 4)]
theorem QL:bm Tryz.prog 35=some Gl:=by kernel_rfl
theorem ZP:bn Tryz.prog 35=some Ma:=by kernel_rfl
def QM:aT:=(.seq (.ai [ad 0 6 (.alloc [.int .u32 0,.aZ,.int .u64 0,.int .u8 0,.str [],.int .u8 0,.int .i64 0,.int .u64 0,.str [],.int .u32 0,.int .u32 0])])
 (.seq (.ai [af 0 10 2,
 af 1 11 1,
 af 2 12 0,
 ad 3 13 (.dW [.int .u8 0,.str [],.int .u8 0,.int .i64 0,.int .u64 0,.str []] [(0,1,(U 12)),(1,1,(.const (.string ⟨#[107]⟩)))]),
 ad 4 14 (.dW [.int .u32 0,.aZ,.int .u64 0,.int .u8 0,.str [],.int .u8 0,.int .i64 0,.int .u64 0,.str [],.int .u32 0,.int .u32 0] [(1,1,(U 10)),(2,1,(U 11)),(3,6,(U 13))]),
 sc 5 15 71 [(.const (.int .u32 5)),(U 14)],
 af 6 9 15,
 ad 7 16 (.ext (U 9) 0),
 ad 8 17 (.ext (U 9) 1),
 ad 9 7 (.alloc [.int .u32 0,.aZ,.int .u64 0,.int .u8 0,.str [],.int .u8 0,.int .i64 0,.int .u64 0,.str [],.int .u32 0,.int .u32 0]),
 bC 10 (.st 11 (U 7) (U 16)),
 af 11 8 17])
 (.seq (.ai [ad 0 18 (.aX 11 (U 7)),
 bC 1 (.st 11 (U 6) (U 18))])
 .ret)))
def ZQ:List a2:=[.aX 11 (U 6)]
theorem aex:bm Tryz.prog 36=some QM:=by kernel_rfl
theorem amR:bn Tryz.prog 36=some ZQ:=by kernel_rfl
def Gm:aT:=(.seq (.ai [ad 0 1 (.box (U 0)),
 ad 1 2 (.alloc (rep 32 (.int .u8 0))),
 ad 2 3 (.ap (.const (.int .i64 0)))])
 (.seq (.ai [ad 0 7 (.aX 11 (U 1)),
 sc 1 8 72 [(U 7)],
 af 2 6 8,
 ad 3 9 (.ext (U 6) 0),
 ad 4 10 (.ext (U 6) 1),
 af 5 4 9,
 af 6 5 10])
 (.seq (.seq (.ai [af 0 11 5,
 ad 1 12 (.bin .neq 38 (U 11) (.const (.int .i64 0)))])
 (.cond (U 12) (.seq (.ai [ad 0 13 (.dW (rep 32 (.int .u8 0)) []),
 af 1 14 5,
 bC 2 (.st 32 (U 2) (U 13)),
 af 3 3 14])
 .ret) .skip))
 (.seq (.ai [af 0 15 4,
 sc 1 16 73 [(U 15)],
 ad 2 17 (.ext (U 16) 0),
 ad 3 18 (.ext (U 16) 1),
 bC 4 (.st 32 (U 2) (U 17)),
 af 5 3 18])
 .ret))))
def Mb:List a2:=[.aX 32 (U 2),.ap (U 3)]
theorem QN:bm Tryz.prog 38=some Gm:=by kernel_rfl
theorem ZR:bn Tryz.prog 38=some Mb:=by kernel_rfl
def QO:aT:=(.seq (.ai [ad 0 2 (.ap (.const (.slice none 0 0)))])
 (.seq (.seq (.ai [af 0 3 0,
 ad 1 4 (.bin .eql 22 (U 3) (.const (.slice none 0 0)))])
 (.cond (U 4) (.seq (.ai [ad 0 2 (.ap (.const (.slice none 0 0)))])
 .ret) .skip))
 (.seq (.ai [ad 0 5 (.cL 33 ([.str []]++rep 32 (.int .u8 0)) 0 []),
 af 1 6 0,
 ad 2 7 (.app 33 48 (U 5) (U 6)),
 af 3 2 7])
 .ret)))
def ZS:List a2:=[.ap (U 2)]
theorem aey:bm Tryz.prog 39=some QO:=by kernel_rfl
theorem amS:bn Tryz.prog 39=some ZS:=by kernel_rfl
def akM:aT:=(.seq (.seq (.ai [af 0 15 9,
 af 1 16 10,
 ad 2 17 (.bin .lss 3 (U 15) (U 16))])
 (.cond (U 17) .skip (.exit 0)))
 (.block 1 (.seq (.ai [af 0 18 9,
 af 1 19 10,
 ad 2 20 (.bin .add 3 (U 18) (U 19)),
 ad 3 21 (.ct .u64 (U 20)),
 ad 4 22 (.bin .shr 125 (U 21) (.const (.int .u64 1))),
 ad 5 23 (.ct .i64 (U 22)),
 af 6 11 23])
 (.seq (.ai [af 0 24 2,
 af 1 25 0,
 af 2 26 11,
 ad 3 27 (.bf (.ao 33) (U 25) (U 26)),
 ad 4 28 (.aX 33 (U 27)),
 ad 5 29 (.aX 33 (U 4)),
 ⟨6,(some 30),none,.gw (U 24) [(U 28),(U 29)],[],false⟩,
 ad 7 31 (.bin .lss 3 (U 30) (.const (.int .i64 0)))])
 (.cond (U 31) (.ai [af 0 32 11,
 ad 1 33 (.bin .add 3 (U 32) (.const (.int .i64 1))),
 af 2 9 33]) (.ai [af 0 34 11,
 af 1 10 34]))))))
def QP:aT:=(.seq (.ai [ad 0 4 (.box (U 1)),
 ad 1 6 (.ap (.const (.int .i64 0))),
 ad 2 7 (.ap (.const (.bool false)))])
 (.seq (.ai [af 0 12 0,
 ad 1 13 (.len (.ao 33) (U 12)),
 af 2 8 13])
 (.seq (.ai [af 0 14 8,
 ad 1 9 (.ap (.const (.int .i64 0))),
 af 2 10 14])
 (.seq (.block 0 (.loop akM))
 (.seq (.ai [af 0 35 9,
 af 1 36 9,
 af 2 37 8,
 ad 3 38 (.bin .lss 3 (U 36) (U 37)),
 af 4 39 38,
 aE 5 40 39 true (.ap (U 2)),
 aE 6 41 39 true (.ap (U 0)),
 aE 7 42 39 true (.ap (U 9)),
 aE 8 43 39 true (.bf (.ao 33) (U 41) (U 42)),
 aE 9 44 39 true (.aX 33 (U 43)),
 aE 10 45 39 true (.aX 33 (U 4)),
 ⟨11,(some 46),(some ((some 39),true)),.gw (U 40) [(U 44),(U 45)],[],false⟩,
 aE 12 47 39 true (.bin .eql 3 (U 46) (.const (.int .i64 0))),
 ad 13 48 (.pick (U 39) (U 47) (.const (.bool false))),
 af 14 6 35,
 af 15 7 48])
 .ret)))))
def ZT:List a2:=[.ap (U 6),.ap (U 7)]
theorem aeA:bm Tryz.prog 40=some QP:=by kernel_rfl
theorem amU:bn Tryz.prog 40=some ZT:=by kernel_rfl
def Gn:aT:=(.seq (.ai [ad 0 2 (.box (U 0)),
 ad 1 3 (.box (U 1)),
 ad 2 4 (.ap (.const (.int .i64 0)))])
 (.seq (.ai [ad 0 5 (.aN 0 (U 2)),
 ad 1 6 (.ld1 (U 5)),
 ad 2 7 (.aN 0 (U 3)),
 ad 3 8 (.ld1 (U 7)),
 ad 5 10 (.aN 1 (U 2)),
 ad 6 11 (.slice (.arr 32 1) (U 10) none none none),
 ad 7 12 (.aN 1 (U 3)),
 ad 8 13 (.slice (.arr 32 1) (U 12) none none none),
 sc 4 9 75 [(U 6),(U 8)],
 sc 9 14 76 [(U 11),(U 13)],
 ad 10 15 (.cL 1 [.int .i64 0] 2 [(0,(U 9)),(1,(U 14))]),
 sc 11 16 74 [(U 15)],
 af 12 4 16])
 .ret))
def Md:List a2:=[.ap (U 4)]
theorem QQ:bm Tryz.prog 41=some Gn:=by kernel_rfl
theorem ZU:bn Tryz.prog 41=some Md:=by kernel_rfl
def akN:aT:=(.seq (.seq (.ai [af 0 16 6,
 af 1 17 0,
 ad 2 18 (.len (.ao 33) (U 17)),
 ad 3 19 (.bin .lss 3 (U 16) (U 18))])
 (.cond (U 19) .skip (.exit 0)))
 (.seq (.block 1 (.seq (.ai [af 0 22 0,
 af 1 23 6,
 ad 2 24 (.bf (.ao 33) (U 22) (U 23)),
 ad 3 25 (.aX 33 (U 24)),
 ad 4 7 (.alloc ([.str []]++rep 32 (.int .u8 0))),
 bC 5 (.st 33 (U 7) (U 25))])
 (.seq (.ai [af 0 26 1,
 ad 1 27 (.aX 33 (U 7)),
 ⟨2,(some 28),none,.gw (U 26) [(U 27)],[],false⟩,
 ad 3 29 (.un .not (U 28))])
 (.cond (U 29) (.seq (.ai [af 0 30 0,
 af 1 31 5,
 ad 2 32 (.aX 33 (U 7)),
 ad 3 33 (.bf (.ao 33) (U 30) (U 31)),
 bC 4 (.st 33 (U 33) (U 32))])
 (.ai [af 0 34 5,
 ad 1 35 (.bin .add 3 (U 34) (.const (.int .i64 1))),
 af 2 5 35])) .skip))))
 (.ai [af 0 20 6,
 ad 1 21 (.bin .add 3 (U 20) (.const (.int .i64 1))),
 af 2 6 21])))
def QR:aT:=(.seq (.ai [ad 0 4 (.ap (.const (.slice none 0 0)))])
 (.seq (.ai [af 0 8 0,
 af 1 9 1,
 sc 2 10 79 [(U 8),(U 9)],
 af 3 5 10])
 (.seq (.seq (.ai [af 0 11 5,
 ad 1 12 (.bin .eql 3 (U 11) (.const (.int .i64 (-1))))])
 (.cond (U 12) (.seq (.ai [af 0 13 0,
 af 1 4 13])
 .ret) .skip))
 (.seq (.seq (.ai [af 0 14 5,
 ad 1 15 (.bin .add 3 (U 14) (.const (.int .i64 1))),
 af 2 6 15])
 (.block 0 (.loop akN)))
 (.seq (.ai [af 0 36 0,
 af 1 37 5,
 ad 2 38 (.slice (.ao 33) (U 36) (some (U 37)) none none),
 bC 3 (.oH ([.str []]++rep 32 (.int .u8 0)) (U 38))])
 (.seq (.ai [af 0 39 0,
 af 1 40 5,
 ad 2 41 (.slice (.ao 33) (U 39) none (some (U 40)) none),
 af 3 4 41])
 .ret))))))
def ZV:List a2:=[.ap (U 4)]
theorem aeB:bm Tryz.prog 43=some QR:=by kernel_rfl
theorem amV:bn Tryz.prog 43=some ZV:=by kernel_rfl
def QS:aT:=(.seq (.ai [ad 0 3 (.box (U 0)),
 ad 1 4 (.ap (.const (.bool false)))])
 (.seq (.ai [ad 0 5 (.aN 0 (U 3)),
 ad 1 6 (.ld1 (U 5)),
 ad 2 7 (.aN 3 (U 1)),
 ad 3 8 (.aN 1 (U 7)),
 ad 4 9 (.ld1 (U 8)),
 ad 5 10 (.bin .eql 9 (U 6) (U 9)),
 af 6 11 10,
 aE 7 12 11 true (.ld1 (U 2)),
 aE 8 13 11 true (.aN 1 (U 3)),
 aE 9 14 11 true (.aX 32 (U 13)),
 ⟨10,(some 15),(some ((some 11),true)),.cV 45 [(U 12),(U 14)],[],false⟩,
 ad 11 16 (.pick (U 11) (U 15) (.const (.bool false))),
 af 12 4 16])
 .ret))
def ZW:List a2:=[.ap (U 4)]
theorem aeC:bm Tryz.prog 44=some QS:=by kernel_rfl
theorem amW:bn Tryz.prog 44=some ZW:=by kernel_rfl
def QT:aT:=(.seq (.ai [ad 0 3 (.box (U 1)),
 ad 1 4 (.ap (.const (.bool false)))])
 (.seq (.ai [af 0 5 0,
 ad 1 6 (.aX 32 (U 3)),
 sc 2 7 80 [(U 5),(U 6)],
 ad 3 8 (.bin .geq 3 (U 7) (.const (.int .i64 0))),
 af 4 4 8])
 .ret))
def ZX:List a2:=[.ap (U 4)]
theorem aeD:bm Tryz.prog 45=some QT:=by kernel_rfl
theorem amX:bn Tryz.prog 45=some ZX:=by kernel_rfl
def akO:aT:=(.seq (.seq (.ai [af 0 16 6,
 ad 1 17 (.bin .gtr 3 (U 16) (.const (.int .i64 0))),
 af 2 18 17,
 aE 3 19 18 true (.ap (U 5)),
 aE 4 20 18 true (.ap (U 6)),
 aE 5 21 18 true (.bf (.ao 33) (U 19) (U 20)),
 aE 6 22 18 true (.aX 33 (U 21)),
 aE 7 23 18 true (.ap (U 5)),
 aE 8 24 18 true (.ap (U 6)),
 aE 9 25 18 true (.bin .sub 3 (U 24) (.const (.int .i64 1))),
 aE 10 26 18 true (.bf (.ao 33) (U 23) (U 25)),
 aE 11 27 18 true (.aX 33 (U 26)),
 ⟨12,(some 28),(some ((some 18),true)),.cV 52 [(U 22),(U 27)],[],false⟩,
 ad 13 29 (.pick (U 18) (U 28) (.const (.bool false)))])
 (.cond (U 29) .skip (.exit 0)))
 (.seq (.block 1 (.ai [af 0 32 5,
 af 1 33 6,
 af 2 34 5,
 af 3 35 6,
 ad 4 36 (.bin .sub 3 (U 35) (.const (.int .i64 1))),
 af 5 37 5,
 af 6 38 6,
 ad 7 39 (.bin .sub 3 (U 38) (.const (.int .i64 1))),
 ad 8 40 (.bf (.ao 33) (U 37) (U 39)),
 ad 9 41 (.aX 33 (U 40)),
 af 10 42 5,
 af 11 43 6,
 ad 12 44 (.bf (.ao 33) (U 42) (U 43)),
 ad 13 45 (.aX 33 (U 44)),
 ad 14 46 (.bf (.ao 33) (U 32) (U 33)),
 bC 15 (.st 33 (U 46) (U 41)),
 ad 16 47 (.bf (.ao 33) (U 34) (U 36)),
 bC 17 (.st 33 (U 47) (U 45))]))
 (.ai [af 0 30 6,
 ad 1 31 (.bin .sub 3 (U 30) (.const (.int .i64 1))),
 af 2 6 31])))
def QU:aT:=(.seq (.ai [ad 0 3 (.box (U 1)),
 ad 1 4 (.ap (.const (.slice none 0 0)))])
 (.seq (.gy [ad 0 7 (.cL 33 ([.str []]++rep 32 (.int .u8 0)) 0 []),
 af 1 8 0,
 ⟨3,(some 10),none,.cF (.aX 33 (U 3)),[],true⟩,
 ⟨4,(some 11),none,.cF (.cL 33 ([.str []]++rep 32 (.int .u8 0)) 1 [(0,(U 10))]),[],true⟩,
 ⟨2,(some 9),none,.cF (.app 33 48 (U 7) (U 8)),[4,3],false⟩,
 ad 5 12 (.app 33 48 (U 9) (U 11)),
 af 6 5 12])
 (.seq (.seq (.ai [af 0 13 5,
 ad 1 14 (.len (.ao 33) (U 13)),
 ad 2 15 (.bin .sub 3 (U 14) (.const (.int .i64 1))),
 af 3 6 15])
 (.block 0 (.loop akO)))
 (.seq (.ai [af 0 48 5,
 af 1 4 48])
 .ret))))
def ZY:List a2:=[.ap (U 4)]
theorem aeE:bm Tryz.prog 46=some QU:=by kernel_rfl
theorem amY:bn Tryz.prog 46=some ZY:=by kernel_rfl
def Gp:aT:=(.seq (.ai [ad 0 4 (.ap (.const (.bool false)))])
 (.seq (.ai [af 0 5 0,
 af 1 6 1,
 sc 2 7 81 [(U 5),(U 6)],
 ad 3 8 (.bin .geq 3 (U 7) (.const (.int .i64 0))),
 af 4 4 8])
 .ret))
def Me:List a2:=[.ap (U 4)]
theorem QV:bm Tryz.prog 47=some Gp:=by kernel_rfl
theorem ZZ:bn Tryz.prog 47=some Me:=by kernel_rfl
def akP:aT:=(.seq (.seq (.ai [af 0 6 5,
 af 1 7 0,
 ad 2 8 (.len (.ao 33) (U 7)),
 ad 3 9 (.bin .lss 3 (U 6) (U 8))])
 (.cond (U 9) .skip (.exit 0)))
 (.seq (.block 1 (.seq (.ai [af 0 12 0,
 af 1 13 5,
 ad 2 14 (.bf (.ao 33) (U 12) (U 13)),
 ad 3 15 (.aN 0 (U 14)),
 ad 4 16 (.ld1 (U 15)),
 af 5 17 1,
 ad 6 18 (.bin .eql 9 (U 16) (U 17))])
 (.cond (U 18) (.seq (.ai [ad 0 4 (.ap (.const (.bool true)))])
 .ret) .skip)))
 (.ai [af 0 10 5,
 ad 1 11 (.bin .add 3 (U 10) (.const (.int .i64 1))),
 af 2 5 11])))
def QW:aT:=(.seq (.ai [ad 0 4 (.ap (.const (.bool false)))])
 (.seq (.seq (.ai [ad 0 5 (.ap (.const (.int .i64 0)))])
 (.block 0 (.loop akP)))
 (.seq (.ai [ad 0 4 (.ap (.const (.bool false)))])
 .ret)))
def Z0:List a2:=[.ap (U 4)]
theorem aeF:bm Tryz.prog 48=some QW:=by kernel_rfl
theorem amZ:bn Tryz.prog 48=some Z0:=by kernel_rfl
def WA:aT:=(.seq (.seq (.ai [af 0 29 5,
 af 1 30 4,
 ad 2 31 (.len (.ao 1) (U 30)),
 ad 3 32 (.bin .lss 3 (U 29) (U 31))])
 (.cond (U 32) .skip (.exit 2)))
 (.seq (.block 3 (.seq (.ai [af 0 35 4,
 af 1 36 5,
 ad 2 37 (.bf (.ao 1) (U 35) (U 36)),
 ad 3 38 (.ld1 (U 37)),
 af 4 39 4,
 af 5 40 5,
 ad 6 41 (.bin .sub 3 (U 40) (.const (.int .i64 1))),
 ad 7 42 (.bf (.ao 1) (U 39) (U 41)),
 ad 8 43 (.ld1 (U 42)),
 ad 9 44 (.bin .neq 9 (U 38) (U 43))])
 (.cond (U 44) (.seq (.ai [af 0 45 0,
 af 1 46 3,
 af 2 47 4,
 af 3 48 5,
 ad 4 49 (.bf (.ao 1) (U 47) (U 48)),
 ad 5 50 (.ld1 (U 49)),
 ad 6 51 (.bf (.ao 1) (U 45) (U 46)),
 bC 7 (.st 1 (U 51) (U 50))])
 (.ai [af 0 52 3,
 ad 1 53 (.bin .add 3 (U 52) (.const (.int .i64 1))),
 af 2 3 53])) .skip)))
 (.ai [af 0 33 5,
 ad 1 34 (.bin .add 3 (U 33) (.const (.int .i64 1))),
 af 2 5 34])))
def WB:aT:=(.seq (.seq (.ai [af 0 10 3,
 af 1 11 0,
 ad 2 12 (.len (.ao 1) (U 11)),
 ad 3 13 (.bin .lss 3 (U 10) (U 12))])
 (.cond (U 13) .skip (.exit 0)))
 (.seq (.block 1 (.seq (.ai [af 0 16 0,
 af 1 17 3,
 ad 2 18 (.bf (.ao 1) (U 16) (U 17)),
 ad 3 19 (.ld1 (U 18)),
 af 4 20 0,
 af 5 21 3,
 ad 6 22 (.bin .sub 3 (U 21) (.const (.int .i64 1))),
 ad 7 23 (.bf (.ao 1) (U 20) (U 22)),
 ad 8 24 (.ld1 (U 23)),
 ad 9 25 (.bin .eql 9 (U 19) (U 24))])
 (.cond (U 25) (.seq (.ai [af 0 26 0,
 af 1 27 3,
 ad 2 28 (.slice (.ao 1) (U 26) (some (U 27)) none none),
 af 3 4 28])
 (.seq (.seq (.ai [ad 0 5 (.ap (.const (.int .i64 1)))])
 (.block 2 (.loop WA)))
 (.seq (.ai [af 0 54 0,
 af 1 55 3,
 ad 2 56 (.slice (.ao 1) (U 54) (some (U 55)) none none),
 bC 3 (.oH [.str []] (U 56))])
 (.seq (.ai [af 0 57 0,
 af 1 58 3,
 ad 2 59 (.slice (.ao 1) (U 57) none (some (U 58)) none),
 af 3 2 59])
 .ret)))) .skip)))
 (.ai [af 0 14 3,
 ad 1 15 (.bin .add 3 (U 14) (.const (.int .i64 1))),
 af 2 3 15])))
def Gq:aT:=(.seq (.ai [ad 0 2 (.ap (.const (.slice none 0 0)))])
 (.seq (.seq (.ai [af 0 6 0,
 ad 1 7 (.len (.ao 1) (U 6)),
 ad 2 8 (.bin .lss 3 (U 7) (.const (.int .i64 2)))])
 (.cond (U 8) (.seq (.ai [af 0 9 0,
 af 1 2 9])
 .ret) .skip))
 (.seq (.seq (.ai [ad 0 3 (.ap (.const (.int .i64 1)))])
 (.block 0 (.loop WB)))
 (.seq (.ai [af 0 60 0,
 af 1 2 60])
 .ret))))
def Mf:List a2:=[.ap (U 2)]
theorem QX:bm Tryz.prog 49=some Gq:=by kernel_rfl
theorem Z1:bn Tryz.prog 49=some Mf:=by kernel_rfl
def Gr:aT:=(.seq (.ai [ad 0 1 (.box (U 0)),
 ad 1 2 (.ap (.const (.int .i64 0)))])
 (.seq (.ai [ad 0 3 (.ap (.const (.bool false)))])
 (.seq (.seq (.ai [ad 0 4 (.aN 0 (U 1)),
 ad 1 5 (.ld1 (U 4))])
 (.block 0 (.seq (.ai [ad 0 7 (.bin .eql 5 (U 5) (.const (.int .u8 1))),
 af 1 6 7])
 (.cond (U 6) (.ai [ad 0 8 (.aX 6 (U 1)),
 ad 1 9 (.dW [.int .u8 0,.str [],.int .u8 0,.int .i64 0,.int .u64 0,.str []] [(0,1,(.const (.int .u8 1)))]),
 ad 2 10 (.bin .eql 31 (U 8) (U 9)),
 af 3 3 10]) (.seq (.seq (.ai [ad 0 12 (.bin .eql 5 (U 5) (.const (.int .u8 2))),
 af 1 11 12])
 (.cond (U 11) .skip (.ai [ad 0 13 (.bin .eql 5 (U 5) (.const (.int .u8 3))),
 af 1 11 13])))
 (.cond (U 11) (.ai [ad 0 14 (.aN 1 (U 1)),
 ad 1 15 (.ld1 (U 14)),
 sc 2 16 82 [(U 15)],
 af 3 17 16,
 aE 4 18 17 true (.aN 2 (U 1)),
 aE 5 19 17 true (.aX 4 (U 18)),
 aE 6 20 17 true (.dW [.int .u8 0,.int .i64 0,.int .u64 0,.str []] []),
 aE 7 21 17 true (.bin .eql 29 (U 19) (U 20)),
 ad 8 22 (.pick (U 17) (U 21) (.const (.bool false))),
 af 9 3 22]) (.seq (.ai [ad 0 24 (.bin .eql 5 (U 5) (.const (.int .u8 4))),
 af 1 23 24])
 (.cond (U 23) (.ai [ad 0 25 (.aN 1 (U 1)),
 ad 1 26 (.ld1 (U 25)),
 sc 2 27 82 [(U 26)],
 af 3 28 27,
 aE 4 29 28 true (.aN 2 (U 1)),
 aE 5 30 28 true (.aX 4 (U 29)),
 ⟨6,(some 31),(some ((some 28),true)),.cV 83 [(U 30)],[],false⟩,
 aE 7 32 28 true (.bin .eql 38 (U 31) (.const (.int .i64 0))),
 ad 8 33 (.pick (U 28) (U 32) (.const (.bool false))),
 af 9 3 33]) .skip))))))))
 (.seq (.seq (.ai [af 0 34 3,
 ad 1 35 (.un .not (U 34))])
 (.cond (U 35) (.seq (.ai [ad 0 2 (.ap (.const (.int .i64 8)))])
 .ret) .skip))
 (.seq (.ai [ad 0 2 (.ap (.const (.int .i64 0)))])
 .ret)))))
def Mg:List a2:=[.ap (U 2)]
theorem QY:bm Tryz.prog 50=some Gr:=by kernel_rfl
theorem Z2:bn Tryz.prog 50=some Mg:=by kernel_rfl
def WD:aT:=(.seq (.seq (.ai [af 0 12 3,
 af 1 13 0,
 ad 2 14 (.len .str (U 13)),
 ad 3 15 (.bin .lss 3 (U 12) (U 14))])
 (.cond (U 15) .skip (.exit 0)))
 (.seq (.block 1 (.seq (.ai [af 0 18 0,
 af 1 19 3,
 ad 2 20 (.pb (U 18) (U 19)),
 ad 3 21 (.bin .lss 5 (U 20) (.const (.int .u8 33))),
 af 4 22 21,
 aE 5 23 22 false (.ap (U 0)),
 aE 6 24 22 false (.ap (U 3)),
 aE 7 25 22 false (.pb (U 23) (U 24)),
 aE 8 26 22 false (.bin .gtr 5 (U 25) (.const (.int .u8 126))),
 ad 9 27 (.pick (U 22) (.const (.bool true)) (U 26))])
 (.cond (U 27) (.seq (.ai [ad 0 2 (.ap (.const (.bool false)))])
 .ret) .skip)))
 (.ai [af 0 16 3,
 ad 1 17 (.bin .add 3 (U 16) (.const (.int .i64 1))),
 af 2 3 17])))
def Gs:aT:=(.seq (.ai [ad 0 2 (.ap (.const (.bool false)))])
 (.seq (.seq (.ai [af 0 4 0,
 ad 1 5 (.len .str (U 4)),
 ad 2 6 (.bin .lss 3 (U 5) (.const (.int .i64 1))),
 af 3 7 6,
 aE 4 8 7 false (.ap (U 0)),
 aE 5 9 7 false (.len .str (U 8)),
 aE 6 10 7 false (.bin .gtr 3 (U 9) (.const (.int .i64 20))),
 ad 7 11 (.pick (U 7) (.const (.bool true)) (U 10))])
 (.cond (U 11) (.seq (.ai [ad 0 2 (.ap (.const (.bool false)))])
 .ret) .skip))
 (.seq (.seq (.ai [ad 0 3 (.ap (.const (.int .i64 0)))])
 (.block 0 (.loop WD)))
 (.seq (.ai [ad 0 2 (.ap (.const (.bool true)))])
 .ret))))
def Mh:List a2:=[.ap (U 2)]
theorem QZ:bm Tryz.prog 51=some Gs:=by kernel_rfl
theorem Z3:bn Tryz.prog 51=some Mh:=by kernel_rfl
def Q0:aT:=(.seq (.ai [ad 0 2 (.box (U 0)),
 ad 1 3 (.box (U 1)),
 ad 2 4 (.ap (.const (.bool false)))])
 (.seq (.seq (.ai [ad 0 5 (.aN 0 (U 2)),
 ad 1 6 (.ld1 (U 5)),
 ad 2 7 (.aN 0 (U 3)),
 ad 3 8 (.ld1 (U 7)),
 ad 4 9 (.bin .neq 9 (U 6) (U 8))])
 (.cond (U 9) (.seq (.ai [ad 0 10 (.aN 0 (U 2)),
 ad 1 11 (.ld1 (U 10)),
 ad 2 12 (.aN 0 (U 3)),
 ad 3 13 (.ld1 (U 12)),
 ad 4 14 (.bin .lss 9 (U 11) (U 13)),
 af 5 4 14])
 .ret) .skip))
 (.seq (.ai [ad 0 15 (.aN 1 (U 2)),
 ad 1 16 (.aX 32 (U 15)),
 ad 2 17 (.aN 1 (U 3)),
 ad 3 18 (.aX 32 (U 17)),
 sc 4 19 84 [(U 16),(U 18)],
 ad 5 20 (.bin .lss 3 (U 19) (.const (.int .i64 0))),
 af 6 4 20])
 .ret)))
def Z4:List a2:=[.ap (U 4)]
theorem aeG:bm Tryz.prog 52=some Q0:=by kernel_rfl
theorem am0:bn Tryz.prog 52=some Z4:=by kernel_rfl
def Gt:aT:=(.seq (.ai [ad 0 1 (.box (U 0)),
 ad 1 2 (.ap (.const (.bool false)))])
 (.seq (.ai [ad 0 3 (.aN 1 (U 1)),
 ad 1 4 (.ld1 (U 3)),
 ad 2 5 (.len (.ao 32) (U 4)),
 ad 3 6 (.bin .gtr 3 (U 5) (.const (.int .i64 20))),
 af 4 7 6,
 aE 5 8 7 false (.aN 3 (U 1)),
 aE 6 9 7 false (.aN 1 (U 8)),
 aE 7 10 7 false (.ld1 (U 9)),
 aE 8 11 7 false (.len .str (U 10)),
 aE 9 12 7 false (.bin .gtr 3 (U 11) (.const (.int .i64 100))),
 ad 10 13 (.pick (U 7) (.const (.bool true)) (U 12)),
 af 11 14 13,
 aE 12 15 14 false (.aN 3 (U 1)),
 aE 13 16 14 false (.aN 2 (U 15)),
 aE 14 17 14 false (.aN 3 (U 16)),
 aE 15 18 14 false (.ld1 (U 17)),
 aE 16 19 14 false (.len .str (U 18)),
 aE 17 20 14 false (.bin .gtr 3 (U 19) (.const (.int .i64 100))),
 ad 18 21 (.pick (U 14) (.const (.bool true)) (U 20)),
 af 19 2 21])
 .ret))
def Mi:List a2:=[.ap (U 2)]
theorem Q1:bm Tryz.prog 53=some Gt:=by kernel_rfl
theorem Z5:bn Tryz.prog 53=some Mi:=by kernel_rfl
def Q2:aT:=(.seq (.ai [ad 0 1 (.box (U 0)),
 ad 1 2 (.alloc [.int .u32 0,.aZ,.int .u64 0,.int .u8 0,.str [],.int .u8 0,.int .i64 0,.int .u64 0,.str [],.int .u32 0,.int .u32 0])])
 (.seq (.ai [ad 0 3 (.cL 32 (rep 32 (.int .u8 0)) 0 []),
 ad 1 4 (.aN 1 (U 1)),
 ad 2 5 (.ld1 (U 4)),
 ad 3 6 (.app 32 32 (U 3) (U 5)),
 ad 4 7 (.aN 1 (U 1)),
 bC 5 (.st 1 (U 7) (U 6))])
 (.seq (.ai [ad 0 8 (.aX 11 (U 1)),
 bC 1 (.st 11 (U 2) (U 8))])
 .ret)))
def Z6:List a2:=[.aX 11 (U 2)]
theorem aeH:bm Tryz.prog 54=some Q2:=by kernel_rfl
theorem am1:bn Tryz.prog 54=some Z6:=by kernel_rfl
def WE:aT:=(.seq (.ai [ad 0 22 (.bin .lss 3 (U 21) (U 20))])
 (.seq (.cond (U 22) .skip (.exit 0))
 (.seq (.block 1 (.seq (.ai [af 0 23 21,
 ad 1 24 (.bf (.ao 11) (U 19) (U 21)),
 ad 2 25 (.aX 11 (U 24)),
 ad 3 4 (.alloc [.int .u32 0,.aZ,.int .u64 0,.int .u8 0,.str [],.int .u8 0,.int .i64 0,.int .u64 0,.str [],.int .u32 0,.int .u32 0]),
 af 4 3 23,
 bC 5 (.st 11 (U 4) (U 25))])
 (.seq (.ai [ad 0 27 (.aX 11 (U 4)),
 sc 1 28 38 [(U 27)],
 af 2 26 28,
 ad 3 29 (.ext (U 26) 0),
 ad 4 30 (.ext (U 26) 1),
 ad 5 5 (.alloc (rep 32 (.int .u8 0))),
 bC 6 (.st 32 (U 5) (U 29)),
 af 7 6 30])
 (.seq (.ai [af 0 31 6,
 ad 1 32 (.bin .neq 38 (U 31) (.const (.int .i64 0))),
 af 2 33 32,
 aE 3 34 33 false (.aX 32 (U 5)),
 aE 4 35 33 false (.aN 0 (U 1)),
 aE 5 36 33 false (.ld1 (U 35)),
 aE 6 37 33 false (.ap (U 3)),
 aE 7 38 33 false (.bf (.ao 32) (U 36) (U 37)),
 aE 8 39 33 false (.aX 32 (U 38)),
 aE 9 40 33 false (.bin .neq 71 (U 34) (U 39)),
 ad 10 41 (.pick (U 33) (.const (.bool true)) (U 40)),
 af 11 42 41,
 aE 12 43 42 false (.aX 11 (U 4)),
 ⟨13,(some 44),(some ((some 42),false)),.cV 85 [(U 43)],[],false⟩,
 aE 14 45 42 false (.bin .neq 38 (U 44) (.const (.int .i64 0))),
 ad 15 46 (.pick (U 42) (.const (.bool true)) (U 45))])
 (.cond (U 46) (.seq (.ai [ad 0 2 (.ap (.const (.int .i64 8)))])
 .ret) .skip)))))
 (.ai [ad 0 47 (.bin .add 3 (U 21) (.const (.int .i64 1))),
 af 1 21 47]))))
def Gu:aT:=(.seq (.ai [ad 0 1 (.box (U 0)),
 ad 1 2 (.ap (.const (.int .i64 0)))])
 (.seq (.seq (.ai [ad 0 7 (.aN 1 (U 1)),
 ad 1 8 (.ld1 (U 7)),
 ad 2 9 (.len (.ao 11) (U 8)),
 ad 3 10 (.bin .gtr 3 (U 9) (.const (.int .i64 60)))])
 (.cond (U 10) (.seq (.ai [ad 0 2 (.ap (.const (.int .i64 4)))])
 .ret) .skip))
 (.seq (.seq (.ai [ad 0 11 (.aN 0 (U 1)),
 ad 1 12 (.ld1 (U 11)),
 ad 2 13 (.len (.ao 32) (U 12)),
 ad 3 14 (.aN 1 (U 1)),
 ad 4 15 (.ld1 (U 14)),
 ad 5 16 (.len (.ao 11) (U 15)),
 ad 6 17 (.bin .neq 3 (U 13) (U 16))])
 (.cond (U 17) (.seq (.ai [ad 0 2 (.ap (.const (.int .i64 8)))])
 .ret) .skip))
 (.seq (.seq (.ai [ad 0 18 (.aN 1 (U 1)),
 ad 1 19 (.ld1 (U 18)),
 ad 2 20 (.len (.ao 11) (U 19)),
 ad 3 21 (.ap (.const (.int .i64 0)))])
 (.block 0 (.loop WE)))
 (.seq (.ai [ad 0 48 (.aX 2 (U 1)),
 sc 1 49 86 [(U 48)],
 af 2 2 49])
 .ret)))))
def Mj:List a2:=[.ap (U 2)]
theorem Q3:bm Tryz.prog 55=some Gu:=by kernel_rfl
theorem Z7:bn Tryz.prog 55=some Mj:=by kernel_rfl
def Gv:aT:=(.seq (.ai [ad 0 2 (.box (U 0)),
 ad 1 3 (.box (U 1)),
 ad 2 4 (.ap (.const (.slice none 0 0))),
 ad 3 5 (.ap (.const (.int .i64 0)))])
 (.seq (.ai [ad 0 9 (.aX 2 (U 2)),
 ad 1 10 (.aX 32 (U 3)),
 sc 2 11 87 [(U 9),(U 10)],
 af 3 8 11,
 ad 4 12 (.ext (U 8) 0),
 ad 5 13 (.ext (U 8) 1),
 af 6 6 12,
 af 7 7 13])
 (.seq (.seq (.ai [af 0 14 7,
 ad 1 15 (.bin .neq 38 (U 14) (.const (.int .i64 0)))])
 (.cond (U 15) (.seq (.ai [af 0 16 7,
 ad 1 4 (.ap (.const (.slice none 0 0))),
 af 2 5 16])
 .ret) .skip))
 (.seq (.gy [⟨0,(some 17),none,.cF (.aX 2 (U 2)),[],true⟩,
 ad 1 18 (.aX 2 (U 2)),
 ad 2 19 (.aN 1 (U 2)),
 ad 3 20 (.ld1 (U 19)),
 af 4 21 6,
 ad 5 22 (.bf (.ao 11) (U 20) (U 21)),
 ad 6 23 (.aN 1 (U 22)),
 ad 7 24 (.ld1 (U 23)),
 ⟨8,(some 25),none,.cV 89 [(U 18),(U 24)],[0],false⟩,
 sc 9 26 88 [(U 17),(U 25)],
 af 10 4 26,
 ad 11 5 (.ap (.const (.int .i64 0)))])
 .ret))))
def Mk:List a2:=[.ap (U 4),.ap (U 5)]
theorem Q4:bm Tryz.prog 56=some Gv:=by kernel_rfl
theorem Z8:bn Tryz.prog 56=some Mk:=by kernel_rfl
def Q5:aT:=(.seq (.ai [af 0 5 0,
 ad 1 6 (.len (.ao 33) (U 5)),
 af 2 4 6])
 (.ai [af 0 7 0,
 af 1 8 4,
 af 2 9 4,
 ad 3 10 (.ct .u64 (U 9)),
 sc 4 11 91 [(U 10)],
 af 5 12 1,
 sc 6 13 90 [(U 7),(.const (.int .i64 0)),(U 8),(U 11),(U 12)]]))
def Z9:List a2:=[]
theorem aeI:bm Tryz.prog 57=some Q5:=by kernel_rfl
theorem am2:bn Tryz.prog 57=some Z9:=by kernel_rfl
def akQ:aT:=(.seq (.seq (.ai [af 0 11 5,
 af 1 12 0,
 ad 2 13 (.len (.ao 32) (U 12)),
 ad 3 14 (.bin .lss 3 (U 11) (U 13))])
 (.cond (U 14) .skip (.exit 0)))
 (.seq (.block 1 (.seq (.ai [af 0 17 0,
 af 1 18 5,
 ad 2 19 (.bf (.ao 32) (U 17) (U 18)),
 ad 3 20 (.aX 32 (U 19)),
 af 4 21 1,
 af 5 22 5,
 ad 6 23 (.bf (.ao 32) (U 21) (U 22)),
 ad 7 24 (.aX 32 (U 23)),
 ad 8 25 (.bin .neq 71 (U 20) (U 24))])
 (.cond (U 25) (.seq (.ai [ad 0 4 (.ap (.const (.bool false)))])
 .ret) .skip)))
 (.ai [af 0 15 5,
 ad 1 16 (.bin .add 3 (U 15) (.const (.int .i64 1))),
 af 2 5 16])))
def Q6:aT:=(.seq (.ai [ad 0 4 (.ap (.const (.bool false)))])
 (.seq (.seq (.ai [af 0 6 0,
 ad 1 7 (.len (.ao 32) (U 6)),
 af 2 8 1,
 ad 3 9 (.len (.ao 32) (U 8)),
 ad 4 10 (.bin .neq 3 (U 7) (U 9))])
 (.cond (U 10) (.seq (.ai [ad 0 4 (.ap (.const (.bool false)))])
 .ret) .skip))
 (.seq (.seq (.ai [ad 0 5 (.ap (.const (.int .i64 0)))])
 (.block 0 (.loop akQ)))
 (.seq (.ai [ad 0 4 (.ap (.const (.bool true)))])
 .ret))))
def aac:List a2:=[.ap (U 4)]
theorem aeJ:bm Tryz.prog 58=some Q6:=by kernel_rfl
theorem am3:bn Tryz.prog 58=some aac:=by kernel_rfl
def akS:aT:=(.seq (.seq (.ai [af 0 12 4,
 af 1 13 0,
 ad 2 14 (.len (.ao 11) (U 13)),
 ad 3 15 (.bin .lss 3 (U 12) (U 14))])
 (.cond (U 15) .skip (.exit 0)))
 (.seq (.block 1 (.seq (.ai [af 0 18 0,
 af 1 19 4,
 ad 2 20 (.bf (.ao 11) (U 18) (U 19)),
 ad 3 21 (.aX 11 (U 20)),
 sc 4 22 61 [(U 21)],
 ad 5 23 (.bin .neq 3 (U 22) (.const (.int .i64 0)))])
 (.cond (U 23) (.seq (.ai [ad 0 24 (.dW [.aZ,.aZ] []),
 af 1 25 0,
 af 2 26 4,
 ad 3 27 (.bf (.ao 11) (U 25) (U 26)),
 ad 4 28 (.aX 11 (U 27)),
 sc 5 29 61 [(U 28)],
 bC 6 (.st 2 (U 2) (U 24)),
 af 7 3 29])
 .ret) .skip)))
 (.ai [af 0 16 4,
 ad 1 17 (.bin .add 3 (U 16) (.const (.int .i64 1))),
 af 2 4 17])))
def akT:aT:=(.seq (.seq (.ai [af 0 30 6,
 af 1 31 0,
 ad 2 32 (.len (.ao 11) (U 31)),
 ad 3 33 (.bin .lss 3 (U 30) (U 32))])
 (.cond (U 33) .skip (.exit 2)))
 (.seq (.block 3 (.seq (.ai [af 0 36 0,
 af 1 37 6,
 ad 2 38 (.bf (.ao 11) (U 36) (U 37)),
 ad 3 39 (.aX 11 (U 38)),
 sc 4 40 32 [(U 39)],
 ad 5 7 (.alloc (rep 32 (.int .u8 0))),
 bC 6 (.st 32 (U 7) (U 40))])
 (.seq (.seq (.ai [ad 0 41 (.aN 0 (U 5)),
 ad 1 42 (.ld1 (U 41)),
 ad 2 43 (.aX 32 (U 7)),
 sc 3 44 70 [(U 42),(U 43)],
 ad 4 45 (.bin .geq 3 (U 44) (.const (.int .i64 0)))])
 (.cond (U 45) (.seq (.ai [ad 0 46 (.dW [.aZ,.aZ] []),
 bC 1 (.st 2 (U 2) (U 46)),
 ad 2 3 (.ap (.const (.int .i64 14)))])
 .ret) .skip))
 (.ai [ad 0 47 (.aX 2 (U 5)),
 ad 1 48 (.aX 32 (U 7)),
 af 2 49 0,
 af 3 50 6,
 ad 4 51 (.bf (.ao 11) (U 49) (U 50)),
 ad 5 52 (.aX 11 (U 51)),
 sc 6 53 92 [(U 47),(U 48),(U 52)],
 bC 7 (.st 2 (U 5) (U 53))]))))
 (.ai [af 0 34 6,
 ad 1 35 (.bin .add 3 (U 34) (.const (.int .i64 1))),
 af 2 6 35])))
def Q8:aT:=(.seq (.ai [ad 0 2 (.alloc [.aZ,.aZ]),
 ad 1 3 (.ap (.const (.int .i64 0)))])
 (.seq (.seq (.ai [af 0 8 0,
 ad 1 9 (.len (.ao 11) (U 8)),
 ad 2 10 (.bin .gtr 3 (U 9) (.const (.int .i64 60)))])
 (.cond (U 10) (.seq (.ai [ad 0 11 (.dW [.aZ,.aZ] []),
 bC 1 (.st 2 (U 2) (U 11)),
 ad 2 3 (.ap (.const (.int .i64 4)))])
 .ret) .skip))
 (.seq (.seq (.ai [ad 0 4 (.ap (.const (.int .i64 0)))])
 (.block 0 (.loop akS)))
 (.seq (.ai [ad 0 5 (.alloc [.aZ,.aZ])])
 (.seq (.seq (.ai [ad 0 6 (.ap (.const (.int .i64 0)))])
 (.block 2 (.loop akT)))
 (.seq (.seq (.ai [ad 0 54 (.aX 2 (U 5)),
 sc 1 55 62 [(U 54)],
 ad 2 56 (.bin .neq 3 (U 55) (.const (.int .i64 0)))])
 (.cond (U 56) (.seq (.ai [ad 0 57 (.dW [.aZ,.aZ] []),
 ad 1 58 (.aX 2 (U 5)),
 sc 2 59 62 [(U 58)],
 bC 3 (.st 2 (U 2) (U 57)),
 af 4 3 59])
 .ret) .skip))
 (.seq (.ai [ad 0 60 (.aX 2 (U 5)),
 bC 1 (.st 2 (U 2) (U 60)),
 ad 2 3 (.ap (.const (.int .i64 0)))])
 .ret)))))))
def aae:List a2:=[.aX 2 (U 2),.ap (U 3)]
theorem aeK:bm Tryz.prog 60=some Q8:=by kernel_rfl
theorem am4:bn Tryz.prog 60=some aae:=by kernel_rfl
def Gw:aT:=(.seq (.ai [ad 0 1 (.box (U 0)),
 ad 1 2 (.ap (.const (.int .i64 0)))])
 (.seq (.seq (.ai [ad 0 3 (.aX 11 (U 1)),
 sc 1 4 31 [(U 3)],
 ad 2 5 (.bin .neq 3 (U 4) (.const (.int .i64 0)))])
 (.cond (U 5) (.seq (.ai [ad 0 6 (.aX 11 (U 1)),
 sc 1 7 31 [(U 6)],
 af 2 2 7])
 .ret) .skip))
 (.seq (.seq (.ai [ad 0 8 (.aX 11 (U 1)),
 sc 1 9 93 [(U 8)],
 ad 2 10 (.un .not (U 9))])
 (.cond (U 10) (.seq (.ai [ad 0 2 (.ap (.const (.int .i64 22)))])
 .ret) .skip))
 (.seq (.ai [ad 0 2 (.ap (.const (.int .i64 0)))])
 .ret))))
def Ml:List a2:=[.ap (U 2)]
theorem Q9:bm Tryz.prog 61=some Gw:=by kernel_rfl
theorem aaf:bn Tryz.prog 61=some Ml:=by kernel_rfl
def WJ:aT:=(.seq (.seq (.ai [af 0 8 3,
 ad 1 9 (.aN 1 (U 1)),
 ad 2 10 (.ld1 (U 9)),
 ad 3 11 (.len (.ao 11) (U 10)),
 ad 4 12 (.bin .lss 3 (U 8) (U 11))])
 (.cond (U 12) .skip (.exit 0)))
 (.seq (.block 1 (.seq (.ai [ad 0 15 (.aN 0 (U 1)),
 ad 1 16 (.ld1 (U 15)),
 ad 2 17 (.aN 1 (U 1)),
 ad 3 18 (.ld1 (U 17)),
 af 4 19 3,
 ad 5 20 (.bf (.ao 11) (U 18) (U 19)),
 ad 6 21 (.aN 1 (U 20)),
 ad 7 22 (.ld1 (U 21)),
 sc 8 23 69 [(U 16),(U 22)],
 ad 9 24 (.un .not (U 23))])
 (.cond (U 24) (.seq (.ai [ad 0 2 (.ap (.const (.int .i64 40)))])
 .ret) .skip)))
 (.ai [af 0 13 3,
 ad 1 14 (.bin .add 3 (U 13) (.const (.int .i64 1))),
 af 2 3 14])))
def Gx:aT:=(.seq (.ai [ad 0 1 (.box (U 0)),
 ad 1 2 (.ap (.const (.int .i64 0)))])
 (.seq (.seq (.ai [ad 0 4 (.aN 0 (U 1)),
 ad 1 5 (.ld1 (U 4)),
 sc 2 6 63 [(U 5)],
 ad 3 7 (.un .not (U 6))])
 (.cond (U 7) (.seq (.ai [ad 0 2 (.ap (.const (.int .i64 32)))])
 .ret) .skip))
 (.seq (.seq (.ai [ad 0 3 (.ap (.const (.int .i64 0)))])
 (.block 0 (.loop WJ)))
 (.seq (.seq (.gy [ad 0 25 (.aX 2 (U 1)),
 ad 3 28 (.aN 1 (U 1)),
 ⟨4,(some 29),none,.cF (.ld1 (U 28)),[],true⟩,
 ad 5 30 (.len (.ao 11) (U 29)),
 ⟨1,(some 26),none,.cV 94 [(U 25)],[4],false⟩,
 ad 2 27 (.len (.ao 1) (U 26)),
 ad 6 31 (.bin .lss 3 (U 27) (U 30))])
 (.cond (U 31) (.seq (.ai [ad 0 2 (.ap (.const (.int .i64 36)))])
 .ret) .skip))
 (.seq (.ai [ad 0 2 (.ap (.const (.int .i64 0)))])
 .ret)))))
def Mm:List a2:=[.ap (U 2)]
theorem Ra:bm Tryz.prog 62=some Gx:=by kernel_rfl
theorem aag:bn Tryz.prog 62=some Mm:=by kernel_rfl
def WK:aT:=(.seq (.seq (.ai [af 0 4 3,
 af 1 5 0,
 ad 2 6 (.len (.ao 32) (U 5)),
 ad 3 7 (.bin .lss 3 (U 4) (U 6))])
 (.cond (U 7) .skip (.exit 0)))
 (.seq (.block 1 (.seq (.ai [af 0 10 0,
 af 1 11 3,
 ad 2 12 (.bin .sub 3 (U 11) (.const (.int .i64 1))),
 ad 3 13 (.bf (.ao 32) (U 10) (U 12)),
 ad 4 14 (.aX 32 (U 13)),
 af 5 15 0,
 af 6 16 3,
 ad 7 17 (.bf (.ao 32) (U 15) (U 16)),
 ad 8 18 (.aX 32 (U 17)),
 sc 9 19 84 [(U 14),(U 18)],
 ad 10 20 (.bin .geq 3 (U 19) (.const (.int .i64 0)))])
 (.cond (U 20) (.seq (.ai [ad 0 2 (.ap (.const (.bool false)))])
 .ret) .skip)))
 (.ai [af 0 8 3,
 ad 1 9 (.bin .add 3 (U 8) (.const (.int .i64 1))),
 af 2 3 9])))
def Gy:aT:=(.seq (.ai [ad 0 2 (.ap (.const (.bool false)))])
 (.seq (.seq (.ai [ad 0 3 (.ap (.const (.int .i64 1)))])
 (.block 0 (.loop WK)))
 (.seq (.ai [ad 0 2 (.ap (.const (.bool true)))])
 .ret)))
def Mn:List a2:=[.ap (U 2)]
theorem Rb:bm Tryz.prog 63=some Gy:=by kernel_rfl
theorem aah:bn Tryz.prog 63=some Mn:=by kernel_rfl
def Gz:aT:=(.seq (.ai [ad 0 2 (.ap (.const (.bool false)))])
 (.seq (.ai [af 0 3 0,
 ad 1 4 (.bin .geq 25 (U 3) (.const (.int .u32 1))),
 af 2 5 4,
 aE 3 6 5 true (.ap (U 0)),
 aE 4 7 5 true (.bin .lss 25 (U 6) (.const (.int .u32 1000000007))),
 ad 5 8 (.pick (U 5) (U 7) (.const (.bool false))),
 af 6 9 8,
 aE 7 10 9 true (.ap (U 0)),
 aE 8 11 9 true (.ct .u64 (U 10)),
 ⟨9,(some 12),(some ((some 9),true)),.cV 95 [(U 11),(.const (.int .u64 500000003)),(.const (.int .u64 1000000007))],[],false⟩,
 aE 10 13 9 true (.bin .eql 27 (U 12) (.const (.int .u64 1))),
 ad 11 14 (.pick (U 9) (U 13) (.const (.bool false))),
 af 12 2 14])
 .ret))
def Mo:List a2:=[.ap (U 2)]
theorem Rc:bm Tryz.prog 64=some Gz:=by kernel_rfl
theorem aai:bn Tryz.prog 64=some Mo:=by kernel_rfl
def GC:aT:=(.seq (.ai [ad 0 1 (.box (U 0)),
 ad 1 2 (.ap (.const (.int .i64 0)))])
 (.seq (.ai [ad 0 4 (.aN 2 (U 1)),
 ad 1 5 (.aX 4 (U 4)),
 ad 2 6 (.dW [.int .u8 0,.int .i64 0,.int .u64 0,.str []] []),
 ad 3 7 (.bin .eql 29 (U 5) (U 6)),
 af 4 3 7])
 (.seq (.seq (.ai [ad 0 8 (.aN 0 (U 1)),
 ad 1 9 (.ld1 (U 8))])
 (.block 0 (.seq (.ai [ad 0 11 (.bin .eql 5 (U 9) (.const (.int .u8 1))),
 af 1 10 11])
 (.cond (U 10) (.seq (.ai [ad 0 12 (.aN 1 (U 1)),
 ad 1 13 (.ld1 (U 12)),
 ad 2 14 (.bin .eql 9 (U 13) (.const (.string ⟨#[]⟩))),
 af 3 15 14,
 aE 4 16 15 true (.ap (U 3)),
 ad 5 17 (.pick (U 15) (U 16) (.const (.bool false)))])
 (.cond (U 17) (.seq (.ai [ad 0 2 (.ap (.const (.int .i64 0)))])
 .ret) .skip)) (.seq (.seq (.ai [ad 0 19 (.bin .eql 5 (U 9) (.const (.int .u8 2))),
 af 1 18 19])
 (.cond (U 18) .skip (.ai [ad 0 20 (.bin .eql 5 (U 9) (.const (.int .u8 3))),
 af 1 18 20])))
 (.cond (U 18) (.seq (.ai [ad 0 21 (.aN 1 (U 1)),
 ad 1 22 (.ld1 (U 21)),
 sc 2 23 51 [(U 22)],
 af 3 24 23,
 aE 4 25 24 true (.ap (U 3)),
 ad 5 26 (.pick (U 24) (U 25) (.const (.bool false)))])
 (.cond (U 26) (.seq (.ai [ad 0 2 (.ap (.const (.int .i64 0)))])
 .ret) .skip)) (.seq (.ai [ad 0 28 (.bin .eql 5 (U 9) (.const (.int .u8 4))),
 af 1 27 28])
 (.cond (U 27) (.seq (.ai [ad 0 29 (.aN 1 (U 1)),
 ad 1 30 (.ld1 (U 29)),
 sc 2 31 51 [(U 30)],
 af 3 32 31,
 aE 4 33 32 true (.aN 2 (U 1)),
 aE 5 34 32 true (.aX 4 (U 33)),
 ⟨6,(some 35),(some ((some 32),true)),.cV 96 [(U 34)],[],false⟩,
 aE 7 36 32 true (.bin .eql 3 (U 35) (.const (.int .i64 0))),
 ad 8 37 (.pick (U 32) (U 36) (.const (.bool false)))])
 (.cond (U 37) (.seq (.ai [ad 0 2 (.ap (.const (.int .i64 0)))])
 .ret) .skip)) .skip))))))))
 (.seq (.ai [ad 0 2 (.ap (.const (.int .i64 8)))])
 .ret))))
def Mp:List a2:=[.ap (U 2)]
theorem Re:bm Tryz.prog 65=some GC:=by kernel_rfl
theorem aaj:bn Tryz.prog 65=some Mp:=by kernel_rfl
def GD:aT:=(.seq (.ai [ad 0 2 (.ap (.const (.bool false)))])
 (.seq (.ai [af 0 3 0,
 ad 1 4 (.ct .u64 (U 3)),
 ad 2 5 (.bin .lss 27 (U 4) (.const (.int .u64 500000003))),
 af 3 2 5])
 .ret))
def Mq:List a2:=[.ap (U 2)]
theorem Rf:bm Tryz.prog 66=some GD:=by kernel_rfl
theorem aak:bn Tryz.prog 66=some Mq:=by kernel_rfl
def GF:aT:=(.seq (.ai [ad 0 2 (.alloc (rep 32 (.int .u8 0)))])
 (.seq (.ai [sc 0 3 99 [],
 ad 1 4 (.cL 1 [.int .u8 0] 0 []),
 af 2 5 0,
 ad 3 6 (.app 1 1 (U 4) (U 5)),
 af 4 7 0,
 ad 5 8 (.len (.ao 1) (U 7)),
 sc 6 9 100 [(U 8)],
 ad 7 10 (.app 1 1 (U 6) (U 9)),
 sc 8 11 98 [(U 3),(U 10)],
 sc 9 12 97 [(U 11)],
 bC 10 (.st 32 (U 2) (U 12))])
 .ret))
def Mr:List a2:=[.aX 32 (U 2)]
theorem Rg:bm Tryz.prog 67=some GF:=by kernel_rfl
theorem aal:bn Tryz.prog 67=some Mr:=by kernel_rfl
def GG:aT:=(.seq (.ai [ad 0 1 (.box (U 0)),
 ad 1 2 (.ap (.const (.slice none 0 0)))])
 (.seq (.gy [ad 0 3 (.aX 11 (U 1)),
 ad 2 5 (.aN 9 (U 1)),
 ad 3 6 (.aN 0 (U 5)),
 ⟨4,(some 7),none,.cF (.ld1 (U 6)),[],true⟩,
 ⟨5,(some 8),none,.cF (.ct .u64 (U 7)),[],true⟩,
 ad 8 11 (.aN 9 (U 1)),
 ad 9 12 (.aN 1 (U 11)),
 ⟨10,(some 13),none,.cF (.ld1 (U 12)),[],true⟩,
 ⟨11,(some 14),none,.cF (.ct .u64 (U 13)),[],true⟩,
 ⟨1,(some 4),none,.cV 101 [(U 3)],[11,10,5,4],false⟩,
 ⟨6,(some 9),none,.cV 102 [(U 8)],[11,10],false⟩,
 ⟨7,(some 10),none,.cF (.app 1 1 (U 4) (U 9)),[11,10],false⟩,
 sc 12 15 102 [(U 14)],
 ad 13 16 (.app 1 1 (U 10) (U 15)),
 af 14 2 16])
 .ret))
def Ms:List a2:=[.ap (U 2)]
theorem Rh:bm Tryz.prog 68=some GG:=by kernel_rfl
theorem aam:bn Tryz.prog 68=some Ms:=by kernel_rfl
def WL:aT:=(.seq (.seq (.ai [af 0 6 5,
 af 1 7 1,
 ad 2 8 (.len (.ao 32) (U 7)),
 ad 3 9 (.bin .lss 3 (U 6) (U 8))])
 (.cond (U 9) .skip (.exit 0)))
 (.seq (.block 1 (.seq (.ai [af 0 12 0,
 af 1 13 1,
 af 2 14 5,
 ad 3 15 (.bf (.ao 32) (U 13) (U 14)),
 ad 4 16 (.aX 32 (U 15)),
 sc 5 17 70 [(U 12),(U 16)],
 ad 6 18 (.bin .lss 3 (U 17) (.const (.int .i64 0)))])
 (.cond (U 18) (.seq (.ai [ad 0 4 (.ap (.const (.bool false)))])
 .ret) .skip)))
 (.ai [af 0 10 5,
 ad 1 11 (.bin .add 3 (U 10) (.const (.int .i64 1))),
 af 2 5 11])))
def GH:aT:=(.seq (.ai [ad 0 4 (.ap (.const (.bool false)))])
 (.seq (.seq (.ai [ad 0 5 (.ap (.const (.int .i64 0)))])
 (.block 0 (.loop WL)))
 (.seq (.ai [ad 0 4 (.ap (.const (.bool true)))])
 .ret)))
def Mt:List a2:=[.ap (U 4)]
theorem Ri:bm Tryz.prog 69=some GH:=by kernel_rfl
theorem aan:bn Tryz.prog 69=some Mt:=by kernel_rfl
def WN:aT:=(.seq (.seq (.ai [af 0 6 5,
 af 1 7 0,
 ad 2 8 (.len (.ao 32) (U 7)),
 ad 3 9 (.bin .lss 3 (U 6) (U 8))])
 (.cond (U 9) .skip (.exit 0)))
 (.seq (.block 1 (.seq (.ai [af 0 12 0,
 af 1 13 5,
 ad 2 14 (.bf (.ao 32) (U 12) (U 13)),
 ad 3 15 (.aX 32 (U 14)),
 ad 4 16 (.aX 32 (U 3)),
 ad 5 17 (.bin .eql 71 (U 15) (U 16))])
 (.cond (U 17) (.seq (.ai [af 0 18 5,
 af 1 4 18])
 .ret) .skip)))
 (.ai [af 0 10 5,
 ad 1 11 (.bin .add 3 (U 10) (.const (.int .i64 1))),
 af 2 5 11])))
def GI:aT:=(.seq (.ai [ad 0 3 (.box (U 1)),
 ad 1 4 (.ap (.const (.int .i64 0)))])
 (.seq (.seq (.ai [ad 0 5 (.ap (.const (.int .i64 0)))])
 (.block 0 (.loop WN)))
 (.seq (.ai [ad 0 4 (.ap (.const (.int .i64 (-1))))])
 .ret)))
def Mu:List a2:=[.ap (U 4)]
theorem Rj:bm Tryz.prog 70=some GI:=by kernel_rfl
theorem aao:bn Tryz.prog 70=some Mu:=by kernel_rfl
def Rk:aT:=(.seq (.ai [ad 0 3 (.box (U 1)),
 ad 1 4 (.alloc [.int .u32 0,.aZ,.int .u64 0,.int .u8 0,.str [],.int .u8 0,.int .i64 0,.int .u64 0,.str [],.int .u32 0,.int .u32 0]),
 ad 2 5 (.ap (.const (.int .i64 0)))])
 (.seq (.seq (.ai [af 0 7 0,
 sc 1 8 103 [(U 7)],
 ad 2 9 (.bin .neq 3 (U 8) (.const (.int .i64 0)))])
 (.cond (U 9) (.seq (.ai [ad 0 10 (.dW [.int .u32 0,.aZ,.int .u64 0,.int .u8 0,.str [],.int .u8 0,.int .i64 0,.int .u64 0,.str [],.int .u32 0,.int .u32 0] []),
 af 1 11 0,
 sc 2 12 103 [(U 11)],
 bC 3 (.st 11 (U 4) (U 10)),
 af 4 5 12])
 .ret) .skip))
 (.seq (.ai [ad 0 13 (.aX 11 (U 3)),
 sc 1 14 104 [(U 13)],
 sc 2 15 54 [(U 14)],
 ad 3 6 (.alloc [.int .u32 0,.aZ,.int .u64 0,.int .u8 0,.str [],.int .u8 0,.int .i64 0,.int .u64 0,.str [],.int .u32 0,.int .u32 0]),
 bC 4 (.st 11 (U 6) (U 15))])
 (.seq (.ai [af 0 16 0,
 sc 1 17 105 [(U 16)],
 ad 2 18 (.aN 0 (U 6)),
 bC 3 (.st 1 (U 18) (U 17))])
 (.seq (.seq (.ai [ad 0 19 (.aX 11 (U 6)),
 sc 1 20 31 [(U 19)],
 ad 2 21 (.bin .neq 3 (U 20) (.const (.int .i64 0)))])
 (.cond (U 21) (.seq (.ai [ad 0 22 (.dW [.int .u32 0,.aZ,.int .u64 0,.int .u8 0,.str [],.int .u8 0,.int .i64 0,.int .u64 0,.str [],.int .u32 0,.int .u32 0] []),
 ad 1 23 (.aX 11 (U 6)),
 sc 2 24 31 [(U 23)],
 bC 3 (.st 11 (U 4) (U 22)),
 af 4 5 24])
 .ret) .skip))
 (.seq (.ai [af 0 25 0,
 ad 1 26 (.aX 11 (U 6)),
 sc 2 27 101 [(U 26)],
 sc 3 28 106 [(U 25),(U 27)],
 ad 4 29 (.aN 9 (U 6)),
 bC 5 (.st 2 (U 29) (U 28))])
 (.seq (.ai [ad 0 30 (.aX 11 (U 6)),
 bC 1 (.st 11 (U 4) (U 30)),
 ad 2 5 (.ap (.const (.int .i64 0)))])
 .ret)))))))
def aap:List a2:=[.aX 11 (U 4),.ap (U 5)]
theorem aeM:bm Tryz.prog 71=some Rk:=by kernel_rfl
theorem am6:bn Tryz.prog 71=some aap:=by kernel_rfl
def Bf:aT:=(.seq (.ai [ad 0 1 (.box (U 0)),
 ad 1 2 (.ap (.const (.slice none 0 0))),
 ad 2 3 (.ap (.const (.int .i64 0)))])
 (.seq (.seq (.ai [ad 0 7 (.aX 11 (U 1)),
 sc 1 8 107 [(U 7)],
 af 2 4 8])
 (.seq (.ai [af 0 9 4,
 ad 1 10 (.bin .neq 38 (U 9) (.const (.int .i64 0)))])
 (.cond (U 10) (.seq (.ai [af 0 11 4,
 ad 1 2 (.ap (.const (.slice none 0 0))),
 af 2 3 11])
 .ret) .skip)))
 (.seq (.ai [ad 0 13 (.aX 11 (U 1)),
 sc 1 14 108 [(U 13)],
 af 2 12 14,
 ad 3 15 (.ext (U 12) 0),
 ad 4 16 (.ext (U 12) 1),
 af 5 5 15,
 af 6 6 16])
 (.seq (.gy [af 0 17 5,
 ad 1 18 (.aN 9 (U 1)),
 ad 2 19 (.aN 0 (U 18)),
 ad 3 20 (.ld1 (U 19)),
 ad 4 21 (.ct .u64 (U 20)),
 ad 6 23 (.aN 9 (U 1)),
 ad 7 24 (.aN 1 (U 23)),
 ⟨8,(some 25),none,.cF (.ld1 (U 24)),[],true⟩,
 ⟨9,(some 26),none,.cF (.ct .u64 (U 25)),[],true⟩,
 ⟨5,(some 22),none,.cV 110 [(U 21)],[9,8],false⟩,
 sc 10 27 110 [(U 26)],
 ad 11 28 (.cL 1 [.aZ] 3 [(0,(U 17)),(1,(U 22)),(2,(U 27))]),
 sc 12 29 109 [(U 28)],
 af 13 2 29,
 ad 14 3 (.ap (.const (.int .i64 0)))])
 .ret))))
def DC:List a2:=[.ap (U 2),.ap (U 3)]
theorem GJ:bm Tryz.prog 72=some Bf:=by kernel_rfl
theorem Mv:bn Tryz.prog 72=some DC:=by kernel_rfl
def GK:aT:=(.seq (.ai [ad 0 2 (.alloc (rep 32 (.int .u8 0))),
 ad 1 3 (.ap (.const (.int .i64 0)))])
 (.seq (.ai [af 0 4 0,
 ad 1 5 (.cL 1 [.aZ] 1 [(0,(U 4))]),
 sc 2 6 111 [(U 5)],
 ad 3 7 (.ext (U 6) 0),
 ad 4 8 (.ext (U 6) 1),
 bC 5 (.st 32 (U 2) (U 7)),
 af 6 3 8])
 .ret))
def Mw:List a2:=[.aX 32 (U 2),.ap (U 3)]
theorem Rl:bm Tryz.prog 73=some GK:=by kernel_rfl
theorem aaq:bn Tryz.prog 73=some Mw:=by kernel_rfl
def WO:aT:=(.seq (.ai [ad 0 9 (.bin .lss 3 (U 8) (U 7))])
 (.seq (.cond (U 9) .skip (.exit 0))
 (.seq (.block 1 (.seq (.ai [ad 0 10 (.bf (.ao 1) (U 6) (U 8)),
 ad 1 11 (.ld1 (U 10)),
 af 2 5 11])
 (.seq (.ai [af 0 12 5,
 af 1 13 3,
 ad 2 14 (.bin .neq 3 (U 12) (U 13))])
 (.cond (U 14) (.seq (.ai [af 0 15 5,
 af 1 2 15])
 .ret) .skip))))
 (.ai [ad 0 16 (.bin .add 3 (U 8) (.const (.int .i64 1))),
 af 1 8 16]))))
def GL:aT:=(.seq (.ai [ad 0 2 (.ap (.const (.int .i64 0)))])
 (.seq (.ai [ad 0 3 (.ap (.const (.int .i64 0)))])
 (.seq (.seq (.ai [af 0 6 0,
 ad 1 7 (.len (.ao 1) (U 6)),
 ad 2 8 (.ap (.const (.int .i64 0)))])
 (.block 0 (.loop WO)))
 (.seq (.ai [af 0 17 3,
 af 1 2 17])
 .ret))))
def Mx:List a2:=[.ap (U 2)]
theorem Rm:bm Tryz.prog 74=some GL:=by kernel_rfl
theorem aar:bn Tryz.prog 74=some Mx:=by kernel_rfl
def GM:aT:=(.seq (.ai [ad 0 4 (.ap (.const (.int .i64 0)))])
 (.seq (.ai [af 0 7 0,
 sc 1 8 112 [(U 7)],
 af 2 5 8])
 (.seq (.ai [af 0 9 1,
 sc 1 10 112 [(U 9)],
 af 2 6 10])
 (.seq (.seq (.ai [af 0 11 5])
 (.cond (U 11) (.seq (.seq (.ai [af 0 12 6])
 (.cond (U 12) (.seq (.ai [ad 0 4 (.ap (.const (.int .i64 0)))])
 .ret) .skip))
 (.seq (.ai [ad 0 4 (.ap (.const (.int .i64 (-1))))])
 .ret)) .skip))
 (.seq (.seq (.ai [af 0 13 6])
 (.cond (U 13) (.seq (.ai [ad 0 4 (.ap (.const (.int .i64 1)))])
 .ret) .skip))
 (.seq (.seq (.ai [af 0 14 0,
 af 1 15 1,
 ad 2 16 (.bin .lss 9 (U 14) (U 15))])
 (.cond (U 16) (.seq (.ai [ad 0 4 (.ap (.const (.int .i64 (-1))))])
 .ret) .skip))
 (.seq (.seq (.ai [af 0 17 0,
 af 1 18 1,
 ad 2 19 (.bin .gtr 9 (U 17) (U 18))])
 (.cond (U 19) (.seq (.ai [ad 0 4 (.ap (.const (.int .i64 1)))])
 .ret) .skip))
 (.seq (.ai [ad 0 4 (.ap (.const (.int .i64 0)))])
 .ret))))))))
def My:List a2:=[.ap (U 4)]
theorem Rn:bm Tryz.prog 75=some GM:=by kernel_rfl
theorem aas:bn Tryz.prog 75=some My:=by kernel_rfl
def GN:aT:=(.seq (.ai [ad 0 4 (.ap (.const (.int .i64 0)))])
 (.seq (.ai [af 0 5 0,
 af 1 6 1,
 ad 2 7 (.cG 113 (.func 113) (U 5) (U 6)),
 af 3 4 7])
 .ret))
def Mz:List a2:=[.ap (U 4)]
theorem Ro:bm Tryz.prog 76=some GN:=by kernel_rfl
theorem aat:bn Tryz.prog 76=some Mz:=by kernel_rfl
def akW:aT:=(.seq (.ai [ad 0 9 (.bin .lss 3 (U 8) (U 7))])
 (.seq (.cond (U 9) .skip (.exit 0))
 (.seq (.block 1 (.seq (.ai [af 0 10 8,
 af 1 5 10])
 (.seq (.ai [af 0 11 1,
 af 1 12 0,
 af 2 13 5,
 ad 3 14 (.bf (.ao 33) (U 12) (U 13)),
 ad 4 15 (.aX 33 (U 14)),
 ⟨5,(some 16),none,.gw (U 11) [(U 15)],[],false⟩])
 (.cond (U 16) (.seq (.ai [af 0 17 5,
 af 1 4 17])
 .ret) .skip))))
 (.ai [ad 0 18 (.bin .add 3 (U 8) (.const (.int .i64 1))),
 af 1 8 18]))))
def Rp:aT:=(.seq (.ai [ad 0 4 (.ap (.const (.int .i64 0)))])
 (.seq (.seq (.ai [af 0 6 0,
 ad 1 7 (.len (.ao 33) (U 6)),
 ad 2 8 (.ap (.const (.int .i64 0)))])
 (.block 0 (.loop akW)))
 (.seq (.ai [ad 0 4 (.ap (.const (.int .i64 (-1))))])
 .ret)))
def aau:List a2:=[.ap (U 4)]
theorem aeN:bm Tryz.prog 79=some Rp:=by kernel_rfl
theorem am7:bn Tryz.prog 79=some aau:=by kernel_rfl
def akX:aT:=(.seq (.ai [ad 0 9 (.bin .lss 3 (U 8) (U 7))])
 (.seq (.cond (U 9) .skip (.exit 0))
 (.seq (.block 1 (.seq (.ai [af 0 10 8,
 af 1 5 10])
 (.seq (.ai [ad 0 11 (.aX 32 (U 3)),
 af 1 12 0,
 af 2 13 5,
 ad 3 14 (.bf (.ao 32) (U 12) (U 13)),
 ad 4 15 (.aX 32 (U 14)),
 ad 5 16 (.bin .eql 71 (U 11) (U 15))])
 (.cond (U 16) (.seq (.ai [af 0 17 5,
 af 1 4 17])
 .ret) .skip))))
 (.ai [ad 0 18 (.bin .add 3 (U 8) (.const (.int .i64 1))),
 af 1 8 18]))))
def Rq:aT:=(.seq (.ai [ad 0 3 (.box (U 1)),
 ad 1 4 (.ap (.const (.int .i64 0)))])
 (.seq (.seq (.ai [af 0 6 0,
 ad 1 7 (.len (.ao 32) (U 6)),
 ad 2 8 (.ap (.const (.int .i64 0)))])
 (.block 0 (.loop akX)))
 (.seq (.ai [ad 0 4 (.ap (.const (.int .i64 (-1))))])
 .ret)))
def aav:List a2:=[.ap (U 4)]
theorem aeO:bm Tryz.prog 80=some Rq:=by kernel_rfl
theorem am8:bn Tryz.prog 80=some aav:=by kernel_rfl
def WP:aT:=(.seq (.ai [ad 0 9 (.bin .lss 3 (U 8) (U 7))])
 (.seq (.cond (U 9) .skip (.exit 0))
 (.seq (.block 1 (.seq (.ai [af 0 10 8,
 af 1 5 10])
 (.seq (.ai [af 0 11 1,
 af 1 12 0,
 af 2 13 5,
 ad 3 14 (.bf (.ao 1) (U 12) (U 13)),
 ad 4 15 (.ld1 (U 14)),
 ad 5 16 (.bin .eql 9 (U 11) (U 15))])
 (.cond (U 16) (.seq (.ai [af 0 17 5,
 af 1 4 17])
 .ret) .skip))))
 (.ai [ad 0 18 (.bin .add 3 (U 8) (.const (.int .i64 1))),
 af 1 8 18]))))
def GO:aT:=(.seq (.ai [ad 0 4 (.ap (.const (.int .i64 0)))])
 (.seq (.seq (.ai [af 0 6 0,
 ad 1 7 (.len (.ao 1) (U 6)),
 ad 2 8 (.ap (.const (.int .i64 0)))])
 (.block 0 (.loop WP)))
 (.seq (.ai [ad 0 4 (.ap (.const (.int .i64 (-1))))])
 .ret)))
def MA:List a2:=[.ap (U 4)]
theorem Rr:bm Tryz.prog 81=some GO:=by kernel_rfl
theorem aaw:bn Tryz.prog 81=some MA:=by kernel_rfl
def GQ:aT:=(.seq (.ai [ad 0 2 (.ap (.const (.bool false)))])
 (.seq (.ai [af 0 3 0,
 ad 1 4 (.len .str (U 3)),
 ad 2 5 (.bin .geq 3 (U 4) (.const (.int .i64 1))),
 af 3 6 5,
 aE 4 7 6 true (.ap (U 0)),
 aE 5 8 6 true (.len .str (U 7)),
 aE 6 9 6 true (.bin .leq 3 (U 8) (.const (.int .i64 20))),
 ad 7 10 (.pick (U 6) (U 9) (.const (.bool false))),
 af 8 11 10,
 aE 9 12 11 true (.ap (U 0)),
 ⟨10,(some 13),(some ((some 11),true)),.cV 115 [(U 12),(.func 116)],[],false⟩,
 aE 11 14 11 true (.bin .lss 3 (U 13) (.const (.int .i64 0))),
 ad 12 15 (.pick (U 11) (U 14) (.const (.bool false))),
 af 13 2 15])
 .ret))
def MB:List a2:=[.ap (U 2)]
theorem Rs:bm Tryz.prog 82=some GQ:=by kernel_rfl
theorem aax:bn Tryz.prog 82=some MB:=by kernel_rfl
def GR:aT:=(.seq (.ai [ad 0 1 (.box (U 0)),
 ad 1 2 (.ap (.const (.int .i64 0)))])
 (.seq (.ai [ad 0 3 (.alloc [.int .u8 0,.int .i64 0,.int .u64 0,.str []])])
 (.seq (.seq (.ai [ad 0 4 (.aN 0 (U 1)),
 ad 1 5 (.ld1 (U 4))])
 (.block 0 (.seq (.ai [ad 0 7 (.bin .eql 5 (U 5) (.const (.int .u8 1))),
 af 1 6 7])
 (.cond (U 6) (.ai [ad 0 8 (.aN 1 (U 1)),
 ad 1 9 (.ld1 (U 8)),
 sc 2 10 117 [(U 9)],
 bC 3 (.st 4 (U 3) (U 10))]) (.seq (.ai [ad 0 12 (.bin .eql 5 (U 5) (.const (.int .u8 2))),
 af 1 11 12])
 (.cond (U 11) (.ai [ad 0 13 (.aN 2 (U 1)),
 ad 1 14 (.ld1 (U 13)),
 sc 2 15 118 [(U 14)],
 bC 3 (.st 4 (U 3) (U 15))]) (.seq (.ai [ad 0 17 (.bin .eql 5 (U 5) (.const (.int .u8 3))),
 af 1 16 17])
 (.cond (U 16) (.ai [ad 0 19 (.aN 3 (U 1)),
 ad 1 20 (.ld1 (U 19)),
 sc 2 21 119 [(U 20)],
 af 3 18 21,
 ad 4 22 (.ext (U 18) 0),
 ad 5 23 (.ext (U 18) 1),
 bC 6 (.st 4 (U 3) (U 22))]) .skip))))))))
 (.seq (.seq (.ai [ad 0 24 (.aX 4 (U 1)),
 ad 1 25 (.aX 4 (U 3)),
 ad 2 26 (.bin .neq 29 (U 24) (U 25)),
 af 3 27 26,
 aE 4 28 27 false (.aN 0 (U 1)),
 aE 5 29 27 false (.ld1 (U 28)),
 aE 6 30 27 false (.bin .eql 5 (U 29) (.const (.int .u8 0))),
 ad 7 31 (.pick (U 27) (.const (.bool true)) (U 30))])
 (.cond (U 31) (.seq (.ai [ad 0 2 (.ap (.const (.int .i64 8)))])
 .ret) .skip))
 (.seq (.ai [ad 0 2 (.ap (.const (.int .i64 0)))])
 .ret)))))
def MC:List a2:=[.ap (U 2)]
theorem Rt:bm Tryz.prog 83=some GR:=by kernel_rfl
theorem aay:bn Tryz.prog 83=some MC:=by kernel_rfl
def WQ:aT:=(.seq (.seq (.ai [af 0 6 5,
 ad 1 7 (.bin .lss 3 (U 6) (.const (.int .i64 32)))])
 (.cond (U 7) .skip (.exit 0)))
 (.seq (.block 1 (.seq (.seq (.ai [af 0 10 5,
 ad 1 11 (.bf (.arr 32 1) (U 2) (U 10)),
 ad 2 12 (.ld1 (U 11)),
 af 3 13 5,
 ad 4 14 (.bf (.arr 32 1) (U 3) (U 13)),
 ad 5 15 (.ld1 (U 14)),
 ad 6 16 (.bin .lss 5 (U 12) (U 15))])
 (.cond (U 16) (.seq (.ai [ad 0 4 (.ap (.const (.int .i64 (-1))))])
 .ret) .skip))
 (.seq (.ai [af 0 17 5,
 ad 1 18 (.bf (.arr 32 1) (U 2) (U 17)),
 ad 2 19 (.ld1 (U 18)),
 af 3 20 5,
 ad 4 21 (.bf (.arr 32 1) (U 3) (U 20)),
 ad 5 22 (.ld1 (U 21)),
 ad 6 23 (.bin .gtr 5 (U 19) (U 22))])
 (.cond (U 23) (.seq (.ai [ad 0 4 (.ap (.const (.int .i64 1)))])
 .ret) .skip))))
 (.ai [af 0 8 5,
 ad 1 9 (.bin .add 3 (U 8) (.const (.int .i64 1))),
 af 2 5 9])))
def GU:aT:=(.seq (.ai [ad 0 2 (.box (U 0)),
 ad 1 3 (.box (U 1)),
 ad 2 4 (.ap (.const (.int .i64 0)))])
 (.seq (.seq (.ai [ad 0 5 (.ap (.const (.int .i64 0)))])
 (.block 0 (.loop WQ)))
 (.seq (.ai [ad 0 4 (.ap (.const (.int .i64 0)))])
 .ret)))
def MD:List a2:=[.ap (U 4)]
theorem Ru:bm Tryz.prog 84=some GU:=by kernel_rfl
theorem aaz:bn Tryz.prog 84=some MD:=by kernel_rfl
def GV:aT:=(.seq (.ai [ad 0 1 (.box (U 0)),
 ad 1 2 (.ap (.const (.int .i64 0)))])
 (.seq (.seq (.ai [ad 0 6 (.aX 11 (U 1)),
 sc 1 7 107 [(U 6)],
 af 2 3 7])
 (.seq (.ai [af 0 8 3,
 ad 1 9 (.bin .neq 38 (U 8) (.const (.int .i64 0)))])
 (.cond (U 9) (.seq (.ai [af 0 10 3,
 af 1 2 10])
 .ret) .skip)))
 (.seq (.ai [ad 0 12 (.aX 11 (U 1)),
 sc 1 13 108 [(U 12)],
 af 2 11 13,
 ad 3 14 (.ext (U 11) 0),
 ad 4 15 (.ext (U 11) 1),
 af 5 4 14,
 af 6 5 15])
 (.seq (.ai [ad 0 16 (.aN 0 (U 1)),
 ad 1 17 (.ld1 (U 16)),
 af 2 18 4,
 ad 3 19 (.aN 9 (U 1)),
 ad 4 20 (.aX 2 (U 19)),
 sc 5 21 120 [(U 17),(U 18),(U 20)],
 af 6 2 21])
 .ret))))
def ME:List a2:=[.ap (U 2)]
theorem Rv:bm Tryz.prog 85=some GV:=by kernel_rfl
theorem aaA:bn Tryz.prog 85=some ME:=by kernel_rfl
def WR:aT:=(.seq (.seq (.ai [af 0 16 3,
 ad 1 17 (.aN 0 (U 1)),
 ad 2 18 (.ld1 (U 17)),
 ad 3 19 (.len (.ao 32) (U 18)),
 ad 4 20 (.bin .lss 3 (U 16) (U 19))])
 (.cond (U 20) .skip (.exit 0)))
 (.seq (.block 1 (.seq (.ai [ad 0 23 (.aN 0 (U 1)),
 ad 1 24 (.ld1 (U 23)),
 af 2 25 3,
 ad 3 26 (.bin .sub 3 (U 25) (.const (.int .i64 1))),
 ad 4 27 (.bf (.ao 32) (U 24) (U 26)),
 ad 5 28 (.aX 32 (U 27)),
 ad 6 29 (.aN 0 (U 1)),
 ad 7 30 (.ld1 (U 29)),
 af 8 31 3,
 ad 9 32 (.bf (.ao 32) (U 30) (U 31)),
 ad 10 33 (.aX 32 (U 32)),
 sc 11 34 121 [(U 28),(U 33)],
 ad 12 35 (.bin .geq 3 (U 34) (.const (.int .i64 0)))])
 (.cond (U 35) (.seq (.ai [ad 0 2 (.ap (.const (.int .i64 32)))])
 .ret) .skip)))
 (.ai [af 0 21 3,
 ad 1 22 (.bin .add 3 (U 21) (.const (.int .i64 1))),
 af 2 3 22])))
def WS:aT:=(.seq (.ai [ad 0 56 (.bin .lss 3 (U 55) (U 54))])
 (.seq (.cond (U 56) .skip (.exit 4))
 (.seq (.block 5 (.seq (.ai [ad 0 57 (.bf (.ao 32) (U 53) (U 55)),
 ad 1 58 (.aX 32 (U 57)),
 ad 2 10 (.alloc (rep 32 (.int .u8 0))),
 bC 3 (.st 32 (U 10) (U 58))])
 (.seq (.ai [ad 0 60 (.aX 2 (U 1)),
 ad 1 61 (.aX 32 (U 10)),
 sc 2 62 122 [(U 60),(U 61)],
 af 3 59 62,
 ad 4 63 (.ext (U 59) 0),
 ad 5 64 (.ext (U 59) 1),
 af 6 11 63,
 af 7 12 64])
 (.seq (.seq (.ai [af 0 65 12,
 ad 1 66 (.un .not (U 65))])
 (.cond (U 66) (.seq (.ai [ad 0 2 (.ap (.const (.int .i64 40)))])
 .ret) .skip))
 (.ai [af 0 67 5,
 af 1 68 11,
 af 2 69 5,
 af 3 70 11,
 ad 4 71 (.bf (.ao 1) (U 69) (U 70)),
 ad 5 72 (.ld1 (U 71)),
 af 6 73 7,
 ad 7 74 (.cL 1 [.int .i64 0] 1 [(0,(U 73))]),
 ad 8 75 (.app 1 8 (U 72) (U 74)),
 ad 9 76 (.bf (.ao 1) (U 67) (U 68)),
 bC 10 (.st 1 (U 76) (U 75))])))))
 (.ai [ad 0 77 (.bin .add 3 (U 55) (.const (.int .i64 1))),
 af 1 55 77]))))
def WT:aT:=(.seq (.ai [ad 0 48 (.bin .lss 3 (U 47) (U 46))])
 (.seq (.cond (U 48) .skip (.exit 2))
 (.seq (.block 3 (.seq (.ai [af 0 49 47,
 ad 1 50 (.bf (.ao 11) (U 45) (U 47)),
 ad 2 51 (.aX 11 (U 50)),
 ad 3 8 (.alloc [.int .u32 0,.aZ,.int .u64 0,.int .u8 0,.str [],.int .u8 0,.int .i64 0,.int .u64 0,.str [],.int .u32 0,.int .u32 0]),
 af 4 7 49,
 bC 5 (.st 11 (U 8) (U 51))])
 (.seq (.seq (.ai [ad 0 52 (.aN 1 (U 8)),
 ad 1 53 (.ld1 (U 52)),
 ad 2 54 (.len (.ao 32) (U 53)),
 ad 3 55 (.ap (.const (.int .i64 0)))])
 (.block 4 (.loop WS)))
 (.seq (.ai [af 0 78 4,
 af 1 79 7,
 ad 2 80 (.aN 1 (U 8)),
 ad 3 81 (.ld1 (U 80)),
 ad 4 82 (.len (.ao 32) (U 81)),
 ad 5 83 (.bf (.ao 1) (U 78) (U 79)),
 bC 6 (.st 1 (U 83) (U 82))])
 (.seq (.ai [af 0 84 4,
 af 1 85 7,
 ad 2 86 (.bf (.ao 1) (U 84) (U 85)),
 ad 3 87 (.ld1 (U 86)),
 ad 4 88 (.bin .eql 3 (U 87) (.const (.int .i64 0)))])
 (.cond (U 88) (.ai [af 0 89 6,
 af 1 90 7,
 ad 2 91 (.cL 1 [.int .i64 0] 1 [(0,(U 90))]),
 ad 3 92 (.app 1 8 (U 89) (U 91)),
 af 4 6 92]) .skip))))))
 (.ai [ad 0 93 (.bin .add 3 (U 47) (.const (.int .i64 1))),
 af 1 47 93]))))
def WU:aT:=(.seq (.ai [ad 0 109 (.bin .lss 3 (U 108) (U 107))])
 (.seq (.cond (U 109) .skip (.exit 8))
 (.seq (.block 9 (.seq (.ai [ad 0 110 (.bf (.ao 1) (U 106) (U 108)),
 ad 1 111 (.ld1 (U 110)),
 af 2 15 111])
 (.seq (.ai [af 0 112 4,
 af 1 113 15,
 ad 2 114 (.bf (.ao 1) (U 112) (U 113)),
 ad 3 115 (.ld1 (U 114)),
 ad 4 116 (.bin .sub 3 (U 115) (.const (.int .i64 1))),
 ad 5 117 (.bf (.ao 1) (U 112) (U 113)),
 bC 6 (.st 1 (U 117) (U 116))])
 (.seq (.ai [af 0 118 4,
 af 1 119 15,
 ad 2 120 (.bf (.ao 1) (U 118) (U 119)),
 ad 3 121 (.ld1 (U 120)),
 ad 4 122 (.bin .eql 3 (U 121) (.const (.int .i64 0)))])
 (.cond (U 122) (.ai [af 0 123 6,
 af 1 124 15,
 ad 2 125 (.cL 1 [.int .i64 0] 1 [(0,(U 124))]),
 ad 3 126 (.app 1 8 (U 123) (U 125)),
 af 4 6 126]) .skip)))))
 (.ai [ad 0 127 (.bin .add 3 (U 108) (.const (.int .i64 1))),
 af 1 108 127]))))
def WV:aT:=(.seq (.seq (.ai [af 0 94 13,
 af 1 95 6,
 ad 2 96 (.len (.ao 1) (U 95)),
 ad 3 97 (.bin .lss 3 (U 94) (U 96))])
 (.cond (U 97) .skip (.exit 6)))
 (.seq (.block 7 (.seq (.ai [af 0 100 5,
 af 1 101 6,
 af 2 102 13,
 ad 3 103 (.bf (.ao 1) (U 101) (U 102)),
 ad 4 104 (.ld1 (U 103)),
 ad 5 105 (.bf (.ao 1) (U 100) (U 104)),
 ad 6 106 (.ld1 (U 105)),
 ad 7 107 (.len (.ao 1) (U 106)),
 ad 8 108 (.ap (.const (.int .i64 0)))])
 (.block 8 (.loop WU))))
 (.ai [af 0 98 13,
 ad 1 99 (.bin .add 3 (U 98) (.const (.int .i64 1))),
 af 2 13 99])))
def GX:aT:=(.seq (.ai [ad 0 1 (.box (U 0)),
 ad 1 2 (.ap (.const (.int .i64 0)))])
 (.seq (.seq (.ai [ad 0 3 (.ap (.const (.int .i64 1)))])
 (.block 0 (.loop WR)))
 (.seq (.ai [ad 0 36 (.aN 1 (U 1)),
 ad 1 37 (.ld1 (U 36)),
 ad 2 38 (.len (.ao 11) (U 37)),
 ad 3 39 (.kZ 1 8 [.int .i64 0] (U 38) (U 38)),
 af 4 4 39])
 (.seq (.ai [ad 0 40 (.aN 1 (U 1)),
 ad 1 41 (.ld1 (U 40)),
 ad 2 42 (.len (.ao 11) (U 41)),
 ad 3 43 (.kZ 1 24 [.aZ] (U 42) (U 42)),
 af 4 5 43])
 (.seq (.ai [ad 0 6 (.ap (.const (.slice none 0 0)))])
 (.seq (.seq (.ai [ad 0 44 (.aN 1 (U 1)),
 ad 1 45 (.ld1 (U 44)),
 ad 2 46 (.len (.ao 11) (U 45)),
 ad 3 47 (.ap (.const (.int .i64 0)))])
 (.block 2 (.loop WT)))
 (.seq (.ai [ad 0 13 (.ap (.const (.int .i64 0)))])
 (.seq (.block 6 (.loop WV))
 (.seq (.seq (.ai [af 0 128 13,
 ad 1 129 (.aN 1 (U 1)),
 ad 2 130 (.ld1 (U 129)),
 ad 3 131 (.len (.ao 11) (U 130)),
 ad 4 132 (.bin .lss 3 (U 128) (U 131))])
 (.cond (U 132) (.seq (.ai [ad 0 2 (.ap (.const (.int .i64 36)))])
 .ret) .skip))
 (.seq (.ai [ad 0 2 (.ap (.const (.int .i64 0)))])
 .ret))))))))))
def MF:List a2:=[.ap (U 2)]
theorem Rw:bm Tryz.prog 86=some GX:=by kernel_rfl
theorem aaB:bn Tryz.prog 86=some MF:=by kernel_rfl
def GY:aT:=(.seq (.ai [ad 0 2 (.box (U 0)),
 ad 1 3 (.box (U 1)),
 ad 2 4 (.ap (.const (.int .i64 0))),
 ad 3 5 (.ap (.const (.int .i64 0)))])
 (.seq (.seq (.ai [ad 0 9 (.aX 2 (U 2)),
 sc 1 10 55 [(U 9)],
 af 2 6 10])
 (.seq (.ai [af 0 11 6,
 ad 1 12 (.bin .neq 38 (U 11) (.const (.int .i64 0)))])
 (.cond (U 12) (.seq (.ai [af 0 13 6,
 ad 1 4 (.ap (.const (.int .i64 0))),
 af 2 5 13])
 .ret) .skip)))
 (.seq (.ai [ad 0 15 (.aN 0 (U 2)),
 ad 1 16 (.ld1 (U 15)),
 ad 2 17 (.aX 32 (U 3)),
 sc 3 18 123 [(U 16),(U 17),(.func 121)],
 af 4 14 18,
 ad 5 19 (.ext (U 14) 0),
 ad 6 20 (.ext (U 14) 1),
 af 7 7 19,
 af 8 8 20])
 (.seq (.seq (.ai [af 0 21 8,
 ad 1 22 (.un .not (U 21))])
 (.cond (U 22) (.seq (.ai [ad 0 4 (.ap (.const (.int .i64 0))),
 ad 1 5 (.ap (.const (.int .i64 6)))])
 .ret) .skip))
 (.seq (.ai [af 0 23 7,
 af 1 4 23,
 ad 2 5 (.ap (.const (.int .i64 0)))])
 .ret)))))
def MG:List a2:=[.ap (U 4),.ap (U 5)]
theorem Rx:bm Tryz.prog 87=some GY:=by kernel_rfl
theorem aaC:bn Tryz.prog 87=some MG:=by kernel_rfl
def WW:aT:=(.seq (.ai [ad 0 10 (.bin .lss 3 (U 9) (U 8))])
 (.seq (.cond (U 10) .skip (.exit 0))
 (.seq (.block 1 (.seq (.ai [af 0 11 9,
 af 1 6 11])
 (.seq (.ai [af 0 12 1,
 af 1 13 6,
 ad 2 14 (.bf (.ao 1) (U 12) (U 13)),
 ad 3 15 (.ld1 (U 14))])
 (.cond (U 15) (.ai [af 0 16 5,
 ad 1 17 (.aN 0 (U 2)),
 ad 2 18 (.ld1 (U 17)),
 af 3 19 6,
 ad 4 20 (.bf (.ao 32) (U 18) (U 19)),
 ad 5 21 (.aX 32 (U 20)),
 ad 6 22 (.cL 32 (rep 32 (.int .u8 0)) 1 [(0,(U 21))]),
 ad 7 23 (.app 32 32 (U 16) (U 22)),
 af 8 5 23]) .skip))))
 (.ai [ad 0 24 (.bin .add 3 (U 9) (.const (.int .i64 1))),
 af 1 9 24]))))
def GZ:aT:=(.seq (.ai [ad 0 2 (.box (U 0)),
 ad 1 4 (.ap (.const (.slice none 0 0)))])
 (.seq (.ai [ad 0 5 (.ap (.const (.slice none 0 0)))])
 (.seq (.seq (.ai [af 0 7 1,
 ad 1 8 (.len (.ao 1) (U 7)),
 ad 2 9 (.ap (.const (.int .i64 0)))])
 (.block 0 (.loop WW)))
 (.seq (.ai [af 0 25 5,
 af 1 4 25])
 .ret))))
def MH:List a2:=[.ap (U 4)]
theorem Ry:bm Tryz.prog 88=some GZ:=by kernel_rfl
theorem aaD:bn Tryz.prog 88=some MH:=by kernel_rfl
def WX:aT:=(.seq (.ai [ad 0 20 (.bin .lss 3 (U 19) (U 18))])
 (.seq (.cond (U 20) .skip (.exit 0))
 (.seq (.block 1 (.seq (.ai [ad 0 21 (.bf (.ao 32) (U 17) (U 19)),
 ad 1 22 (.aX 32 (U 21)),
 ad 2 9 (.alloc (rep 32 (.int .u8 0))),
 bC 3 (.st 32 (U 9) (U 22))])
 (.ai [ad 0 23 (.ld1 (U 7)),
 ad 1 24 (.aX 32 (U 9)),
 ⟨2,(some 25),none,.gw (U 23) [(U 24)],[],false⟩])))
 (.ai [ad 0 26 (.bin .add 3 (U 19) (.const (.int .i64 1))),
 af 1 19 26]))))
def G0:aT:=(.seq (.ai [ad 0 2 (.box (U 0)),
 ad 1 4 (.ap (.const (.slice none 0 0)))])
 (.seq (.ai [ad 0 10 (.aX 2 (U 2)),
 sc 1 11 124 [(U 10)],
 ad 2 5 (.alloc [.gG]),
 bC 3 (.st 1 (U 5) (U 11))])
 (.seq (.ai [ad 0 12 (.aN 0 (U 2)),
 ad 1 13 (.ld1 (U 12)),
 ad 2 14 (.len (.ao 32) (U 13)),
 ad 3 15 (.kZ 1 1 [.bool false] (U 14) (U 14)),
 ad 4 6 (.alloc [.aZ]),
 bC 5 (.st 1 (U 6) (U 15))])
 (.seq (.ai [ad 0 7 (.alloc [.hC])])
 (.seq (.ai [ad 0 16 (.pm 125 [] [(U 5),(U 6),(U 2),(U 7)]),
 bC 1 (.st 1 (U 7) (U 16))])
 (.seq (.seq (.ai [af 0 17 1,
 ad 1 18 (.len (.ao 32) (U 17)),
 ad 2 19 (.ap (.const (.int .i64 0)))])
 (.block 0 (.loop WX)))
 (.seq (.ai [ad 0 27 (.ld1 (U 6)),
 af 1 4 27])
 .ret)))))))
def MI:List a2:=[.ap (U 4)]
theorem Rz:bm Tryz.prog 89=some G0:=by kernel_rfl
theorem aaE:bn Tryz.prog 89=some MI:=by kernel_rfl
def akY:aT:=(.block 1 (.seq (.ai [af 0 21 2,
 af 1 22 1,
 ad 2 23 (.bin .sub 3 (U 21) (U 22)),
 af 3 12 23])
 (.seq (.seq (.ai [af 0 24 12,
 ad 1 25 (.bin .leq 3 (U 24) (.const (.int .i64 12)))])
 (.cond (U 25) (.seq (.ai [af 0 26 0,
 af 1 27 1,
 af 2 28 2,
 af 3 29 4,
 sc 4 30 126 [(U 26),(U 27),(U 28),(U 29)]])
 .ret) .skip))
 (.seq (.seq (.ai [af 0 31 3,
 ad 1 32 (.bin .eql 3 (U 31) (.const (.int .i64 0)))])
 (.cond (U 32) (.seq (.ai [af 0 33 0,
 af 1 34 1,
 af 2 35 2,
 af 3 36 4,
 sc 4 37 127 [(U 33),(U 34),(U 35),(U 36)]])
 .ret) .skip))
 (.seq (.seq (.ai [af 0 38 10,
 ad 1 39 (.un .not (U 38))])
 (.cond (U 39) (.seq (.ai [af 0 40 0,
 af 1 41 1,
 af 2 42 2,
 af 3 43 4,
 sc 4 44 128 [(U 40),(U 41),(U 42),(U 43)]])
 (.ai [af 0 45 3,
 ad 1 46 (.bin .sub 3 (U 45) (.const (.int .i64 1))),
 af 2 3 46])) .skip))
 (.seq (.ai [af 0 48 0,
 af 1 49 1,
 af 2 50 2,
 af 3 51 4,
 sc 4 52 129 [(U 48),(U 49),(U 50),(U 51)],
 af 5 47 52,
 ad 6 53 (.ext (U 47) 0),
 ad 7 54 (.ext (U 47) 1),
 af 8 13 53,
 af 9 14 54])
 (.seq (.seq (.ai [af 0 55 14,
 ad 1 56 (.bin .eql 173 (U 55) (.const (.int .i64 2)))])
 (.cond (U 56) (.seq (.ai [af 0 57 0,
 af 1 58 1,
 af 2 59 2,
 af 3 60 4,
 sc 4 61 130 [(U 57),(U 58),(U 59),(U 60)]])
 (.seq (.ai [af 0 62 2,
 ad 1 63 (.bin .sub 3 (U 62) (.const (.int .i64 1))),
 af 2 64 13,
 af 3 65 1,
 ad 4 66 (.bin .sub 3 (U 64) (U 65)),
 ad 5 67 (.bin .sub 3 (U 63) (U 66)),
 af 6 13 67])
 (.ai [ad 0 14 (.ap (.const (.int .i64 1)))]))) .skip))
 (.seq (.seq (.ai [af 0 68 10,
 af 1 69 68,
 aE 2 70 69 true (.ap (U 11)),
 ad 3 71 (.pick (U 69) (U 70) (.const (.bool false))),
 af 4 72 71,
 aE 5 73 72 true (.ap (U 14)),
 aE 6 74 72 true (.bin .eql 173 (U 73) (.const (.int .i64 1))),
 ad 7 75 (.pick (U 72) (U 74) (.const (.bool false)))])
 (.cond (U 75) (.seq (.ai [af 0 76 0,
 af 1 77 1,
 af 2 78 2,
 af 3 79 4,
 sc 4 80 131 [(U 76),(U 77),(U 78),(U 79)]])
 (.cond (U 80) .ret .skip)) .skip))
 (.seq (.seq (.ai [af 0 81 1,
 ad 1 82 (.bin .gtr 3 (U 81) (.const (.int .i64 0))),
 af 2 83 82,
 aE 3 84 83 true (.ap (U 4)),
 aE 4 85 83 true (.ap (U 0)),
 aE 5 86 83 true (.ap (U 1)),
 aE 6 87 83 true (.bin .sub 3 (U 86) (.const (.int .i64 1))),
 aE 7 88 83 true (.bf (.ao 33) (U 85) (U 87)),
 aE 8 89 83 true (.aX 33 (U 88)),
 aE 9 90 83 true (.ap (U 0)),
 aE 10 91 83 true (.ap (U 13)),
 aE 11 92 83 true (.bf (.ao 33) (U 90) (U 91)),
 aE 12 93 83 true (.aX 33 (U 92)),
 ⟨13,(some 94),(some ((some 83),true)),.gw (U 84) [(U 89),(U 93)],[],false⟩,
 aE 14 95 83 true (.bin .lss 3 (U 94) (.const (.int .i64 0))),
 aE 15 96 83 true (.un .not (U 95)),
 ad 16 97 (.pick (U 83) (U 96) (.const (.bool false)))])
 (.cond (U 97) (.seq (.ai [af 0 98 0,
 af 1 99 1,
 af 2 100 2,
 af 3 101 13,
 af 4 102 4,
 sc 5 103 132 [(U 98),(U 99),(U 100),(U 101),(U 102)],
 af 6 15 103])
 (.seq (.ai [af 0 104 15,
 af 1 1 104])
 (.exit 1))) .skip))
 (.seq (.ai [af 0 106 0,
 af 1 107 1,
 af 2 108 2,
 af 3 109 13,
 af 4 110 4,
 sc 5 111 133 [(U 106),(U 107),(U 108),(U 109),(U 110)],
 af 6 105 111,
 ad 7 112 (.ext (U 105) 0),
 ad 8 113 (.ext (U 105) 1),
 af 9 16 112,
 af 10 17 113])
 (.seq (.ai [af 0 114 17,
 af 1 11 114])
 (.seq (.ai [af 0 115 16,
 af 1 116 1,
 ad 2 117 (.bin .sub 3 (U 115) (U 116)),
 af 3 118 2,
 af 4 119 16,
 ad 5 120 (.bin .sub 3 (U 118) (U 119)),
 af 6 18 117,
 af 7 19 120])
 (.seq (.ai [af 0 121 12,
 ad 1 122 (.bin .quo 3 (U 121) (.const (.int .i64 8))),
 af 2 20 122])
 (.seq (.ai [af 0 123 18,
 af 1 124 19,
 ad 2 125 (.bin .lss 3 (U 123) (U 124))])
 (.cond (U 125) (.seq (.ai [af 0 126 18,
 af 1 127 20,
 ad 2 128 (.bin .geq 3 (U 126) (U 127)),
 af 3 10 128])
 (.seq (.ai [af 0 129 0,
 af 1 130 1,
 af 2 131 16,
 af 3 132 3,
 af 4 133 4,
 sc 5 134 90 [(U 129),(U 130),(U 131),(U 132),(U 133)]])
 (.ai [af 0 135 16,
 ad 1 136 (.bin .add 3 (U 135) (.const (.int .i64 1))),
 af 2 1 136]))) (.seq (.ai [af 0 137 19,
 af 1 138 20,
 ad 2 139 (.bin .geq 3 (U 137) (U 138)),
 af 3 10 139])
 (.seq (.ai [af 0 140 0,
 af 1 141 16,
 ad 2 142 (.bin .add 3 (U 141) (.const (.int .i64 1))),
 af 3 143 2,
 af 4 144 3,
 af 5 145 4,
 sc 6 146 90 [(U 140),(U 142),(U 143),(U 144),(U 145)]])
 (.ai [af 0 147 16,
 af 1 2 147]))))))))))))))))))
def RA:aT:=(.seq (.ai [ad 0 10 (.ap (.const (.bool true)))])
 (.seq (.ai [ad 0 11 (.ap (.const (.bool true)))])
 (.block 0 (.loop akY))))
def aaG:List a2:=[]
theorem aeP:bm Tryz.prog 90=some RA:=by kernel_rfl
theorem am9:bn Tryz.prog 90=some aaG:=by kernel_rfl
def RB:aT:=(.seq (.ai [ad 0 2 (.ap (.const (.int .i64 0)))])
 (.seq (.cond (.const (.bool false)) (.seq (.ai [af 0 3 0,
 ad 1 4 (.ct .u32 (U 3)),
 sc 2 5 134 [(U 4)],
 af 3 2 5])
 .ret) .skip)
 (.seq (.ai [af 0 6 0,
 sc 1 7 135 [(U 6)],
 af 2 2 7])
 .ret)))
def aaH:List a2:=[.ap (U 2)]
theorem aeQ:bm Tryz.prog 91=some RB:=by kernel_rfl
theorem ana:bn Tryz.prog 91=some aaH:=by kernel_rfl
def akZ:aT:=(.seq (.seq (.ai [af 0 10 8,
 ad 1 11 (.aN 0 (U 3)),
 ad 2 12 (.ld1 (U 11)),
 ad 3 13 (.len (.ao 32) (U 12)),
 ad 4 14 (.bin .lss 3 (U 10) (U 13)),
 af 5 15 14,
 aE 6 16 15 true (.aN 0 (U 3)),
 aE 7 17 15 true (.ld1 (U 16)),
 aE 8 18 15 true (.ap (U 8)),
 aE 9 19 15 true (.bf (.ao 32) (U 17) (U 18)),
 aE 10 20 15 true (.aX 32 (U 19)),
 aE 11 21 15 true (.aX 32 (U 4)),
 ⟨12,(some 22),(some ((some 15),true)),.cV 84 [(U 20),(U 21)],[],false⟩,
 aE 13 23 15 true (.bin .lss 3 (U 22) (.const (.int .i64 0))),
 ad 14 24 (.pick (U 15) (U 23) (.const (.bool false)))])
 (.cond (U 24) .skip (.exit 0)))
 (.block 1 (.ai [af 0 25 8,
 ad 1 26 (.bin .add 3 (U 25) (.const (.int .i64 1))),
 af 2 8 26])))
def RC:aT:=(.seq (.ai [ad 0 3 (.box (U 0)),
 ad 1 4 (.box (U 1)),
 ad 2 5 (.box (U 2)),
 ad 3 6 (.alloc [.aZ,.aZ])])
 (.seq (.ai [ad 0 9 (.dW [.aZ,.aZ] []),
 ad 1 7 (.alloc [.aZ,.aZ]),
 bC 2 (.st 2 (U 7) (U 9))])
 (.seq (.ai [ad 0 8 (.ap (.const (.int .i64 0)))])
 (.seq (.block 0 (.loop akZ))
 (.seq (.gy [ad 0 27 (.cL 32 (rep 32 (.int .u8 0)) 0 []),
 ad 1 28 (.aN 0 (U 3)),
 ad 2 29 (.ld1 (U 28)),
 af 3 30 8,
 ad 4 31 (.slice (.ao 32) (U 29) none (some (U 30)) none),
 ⟨6,(some 33),none,.cF (.aX 32 (U 4)),[],true⟩,
 ⟨7,(some 34),none,.cF (.cL 32 (rep 32 (.int .u8 0)) 1 [(0,(U 33))]),[],true⟩,
 ad 9 36 (.aN 0 (U 3)),
 ⟨10,(some 37),none,.cF (.ld1 (U 36)),[],true⟩,
 af 11 38 8,
 ad 12 39 (.slice (.ao 32) (U 37) (some (U 38)) none none),
 ⟨5,(some 32),none,.cF (.app 32 32 (U 27) (U 31)),[10,7,6],false⟩,
 ⟨8,(some 35),none,.cF (.app 32 32 (U 32) (U 34)),[10],false⟩,
 ad 13 40 (.app 32 32 (U 35) (U 39)),
 ad 14 41 (.aN 0 (U 7)),
 bC 15 (.st 1 (U 41) (U 40))])
 (.seq (.gy [ad 0 42 (.cL 11 [.int .u32 0,.aZ,.int .u64 0,.int .u8 0,.str [],.int .u8 0,.int .i64 0,.int .u64 0,.str [],.int .u32 0,.int .u32 0] 0 []),
 ad 1 43 (.aN 1 (U 3)),
 ad 2 44 (.ld1 (U 43)),
 af 3 45 8,
 ad 4 46 (.slice (.ao 11) (U 44) none (some (U 45)) none),
 ⟨6,(some 48),none,.cF (.aX 11 (U 5)),[],true⟩,
 ⟨7,(some 49),none,.cF (.cL 11 [.int .u32 0,.aZ,.int .u64 0,.int .u8 0,.str [],.int .u8 0,.int .i64 0,.int .u64 0,.str [],.int .u32 0,.int .u32 0] 1 [(0,(U 48))]),[],true⟩,
 ad 9 51 (.aN 1 (U 3)),
 ⟨10,(some 52),none,.cF (.ld1 (U 51)),[],true⟩,
 af 11 53 8,
 ad 12 54 (.slice (.ao 11) (U 52) (some (U 53)) none none),
 ⟨5,(some 47),none,.cF (.app 11 112 (U 42) (U 46)),[10,7,6],false⟩,
 ⟨8,(some 50),none,.cF (.app 11 112 (U 47) (U 49)),[10],false⟩,
 ad 13 55 (.app 11 112 (U 50) (U 54)),
 ad 14 56 (.aN 1 (U 7)),
 bC 15 (.st 1 (U 56) (U 55))])
 (.seq (.ai [ad 0 57 (.aX 2 (U 7)),
 sc 1 58 23 [(U 57)],
 bC 2 (.st 2 (U 6) (U 58))])
 .ret)))))))
def aaI:List a2:=[.aX 2 (U 6)]
theorem aeR:bm Tryz.prog 92=some RC:=by kernel_rfl
theorem anb:bn Tryz.prog 92=some aaI:=by kernel_rfl
def G1:aT:=(.seq (.ai [ad 0 1 (.box (U 0)),
 ad 1 2 (.ap (.const (.bool false)))])
 (.seq (.gy [ad 0 3 (.aN 0 (U 1)),
 ⟨1,(some 4),none,.cF (.ld1 (U 3)),[],true⟩,
 ad 2 5 (.aX 11 (U 1)),
 ad 4 7 (.aN 9 (U 1)),
 ⟨5,(some 8),none,.cF (.aX 2 (U 7)),[],true⟩,
 ⟨3,(some 6),none,.cV 101 [(U 5)],[5,1],false⟩,
 sc 6 9 136 [(U 4),(U 6),(U 8)],
 af 7 2 9])
 .ret))
def MJ:List a2:=[.ap (U 2)]
theorem RD:bm Tryz.prog 93=some G1:=by kernel_rfl
theorem aaJ:bn Tryz.prog 93=some MJ:=by kernel_rfl
def WY:aT:=(.seq (.seq (.ai [af 0 13 7,
 ad 1 14 (.aN 1 (U 1)),
 ad 2 15 (.ld1 (U 14)),
 ad 3 16 (.len (.ao 11) (U 15)),
 ad 4 17 (.bin .lss 3 (U 13) (U 16))])
 (.cond (U 17) .skip (.exit 2)))
 (.seq (.block 3 (.seq (.ai [af 0 20 5,
 af 1 21 7,
 ad 2 22 (.bf (.ao 1) (U 20) (U 21)),
 ad 3 23 (.ld1 (U 22)),
 ad 4 24 (.un .not (U 23)),
 af 5 25 24,
 aE 6 26 25 true (.ap (U 4)),
 aE 7 27 25 true (.aN 1 (U 1)),
 aE 8 28 25 true (.ld1 (U 27)),
 aE 9 29 25 true (.ap (U 7)),
 aE 10 30 25 true (.bf (.ao 11) (U 28) (U 29)),
 aE 11 31 25 true (.aN 1 (U 30)),
 aE 12 32 25 true (.ld1 (U 31)),
 ⟨13,(some 33),(some ((some 25),true)),.cV 69 [(U 26),(U 32)],[],false⟩,
 ad 14 34 (.pick (U 25) (U 33) (.const (.bool false)))])
 (.cond (U 34) (.seq (.gy [af 0 35 5,
 af 1 36 7,
 af 2 37 3,
 af 3 38 7,
 ad 4 39 (.cL 1 [.int .i64 0] 1 [(0,(U 38))]),
 af 6 41 4,
 ad 7 42 (.aN 0 (U 1)),
 ⟨8,(some 43),none,.cF (.ld1 (U 42)),[],true⟩,
 af 9 44 7,
 ad 10 45 (.bf (.ao 32) (U 43) (U 44)),
 ⟨11,(some 46),none,.cF (.aX 32 (U 45)),[],true⟩,
 ⟨12,(some 47),none,.cF (.cL 32 (rep 32 (.int .u8 0)) 1 [(0,(U 46))]),[],true⟩,
 ⟨5,(some 40),none,.cF (.app 1 8 (U 37) (U 39)),[12,11,8],false⟩,
 ad 13 48 (.app 32 32 (U 41) (U 47)),
 af 14 3 40,
 af 15 4 48,
 ad 16 49 (.bf (.ao 1) (U 35) (U 36)),
 bC 17 (.st 1 (U 49) (.const (.bool true))),
 ad 18 6 (.ap (.const (.bool true)))])
 (.exit 2)) .skip)))
 (.ai [af 0 18 7,
 ad 1 19 (.bin .add 3 (U 18) (.const (.int .i64 1))),
 af 2 7 19])))
def JT:aT:=(.seq (.seq (.ai [af 0 12 6])
 (.cond (U 12) .skip (.exit 0)))
 (.block 1 (.seq (.ai [ad 0 6 (.ap (.const (.bool false)))])
 (.seq (.ai [ad 0 7 (.ap (.const (.int .i64 0)))])
 (.block 2 (.loop WY))))))
def G2:aT:=(.seq (.ai [ad 0 1 (.box (U 0)),
 ad 1 2 (.ap (.const (.slice none 0 0)))])
 (.seq (.ai [ad 0 3 (.ap (.const (.slice none 0 0)))])
 (.seq (.ai [ad 0 4 (.ap (.const (.slice none 0 0)))])
 (.seq (.ai [ad 0 8 (.aN 1 (U 1)),
 ad 1 9 (.ld1 (U 8)),
 ad 2 10 (.len (.ao 11) (U 9)),
 ad 3 11 (.kZ 1 1 [.bool false] (U 10) (U 10)),
 af 4 5 11])
 (.seq (.seq (.ai [ad 0 6 (.ap (.const (.bool true)))])
 (.block 0 (.loop JT)))
 (.seq (.ai [af 0 50 3,
 af 1 2 50])
 .ret))))))
def MK:List a2:=[.ap (U 2)]
theorem RE:bm Tryz.prog 94=some G2:=by kernel_rfl
theorem aaK:bn Tryz.prog 94=some MK:=by kernel_rfl
def WZ:aT:=(.seq (.seq (.ai [af 0 8 1,
 ad 1 9 (.bin .gtr 27 (U 8) (.const (.int .u64 0)))])
 (.cond (U 9) .skip (.exit 0)))
 (.block 1 (.seq (.seq (.ai [af 0 10 1,
 ad 1 11 (.bin .rem 27 (U 10) (.const (.int .u64 2))),
 ad 2 12 (.bin .eql 27 (U 11) (.const (.int .u64 1)))])
 (.cond (U 12) (.ai [af 0 13 7,
 af 1 14 0,
 ad 2 15 (.bin .mul 27 (U 13) (U 14)),
 af 3 16 2,
 ad 4 17 (.bin .rem 27 (U 15) (U 16)),
 af 5 7 17]) .skip))
 (.seq (.ai [af 0 18 0,
 af 1 19 0,
 ad 2 20 (.bin .mul 27 (U 18) (U 19)),
 af 3 21 2,
 ad 4 22 (.bin .rem 27 (U 20) (U 21)),
 af 5 0 22])
 (.ai [af 0 23 1,
 ad 1 24 (.bin .quo 27 (U 23) (.const (.int .u64 2))),
 af 2 1 24])))))
def G3:aT:=(.seq (.ai [ad 0 6 (.ap (.const (.int .u64 0)))])
 (.seq (.ai [ad 0 7 (.ap (.const (.int .u64 1)))])
 (.seq (.block 0 (.loop WZ))
 (.seq (.ai [af 0 25 7,
 af 1 6 25])
 .ret))))
def ML:List a2:=[.ap (U 6)]
theorem RF:bm Tryz.prog 95=some G3:=by kernel_rfl
theorem aaL:bn Tryz.prog 95=some ML:=by kernel_rfl
def G4:aT:=(.seq (.ai [ad 0 1 (.box (U 0)),
 ad 1 2 (.ap (.const (.int .i64 0)))])
 (.seq (.seq (.ai [ad 0 3 (.aN 0 (U 1)),
 ad 1 4 (.ld1 (U 3))])
 (.block 0 (.seq (.ai [ad 0 6 (.bin .eql 5 (U 4) (.const (.int .u8 1))),
 af 1 5 6])
 (.cond (U 5) (.seq (.ai [ad 0 7 (.aN 2 (U 1)),
 ad 1 8 (.ld1 (U 7)),
 ad 2 9 (.bin .eql 27 (U 8) (.const (.int .u64 0))),
 af 3 10 9,
 aE 4 11 10 true (.aN 3 (U 1)),
 aE 5 12 10 true (.ld1 (U 11)),
 aE 6 13 10 true (.bin .eql 9 (U 12) (.const (.string ⟨#[]⟩))),
 ad 7 14 (.pick (U 10) (U 13) (.const (.bool false)))])
 (.cond (U 14) (.seq (.ai [ad 0 2 (.ap (.const (.int .i64 0)))])
 .ret) .skip)) (.seq (.ai [ad 0 16 (.bin .eql 5 (U 4) (.const (.int .u8 2))),
 af 1 15 16])
 (.cond (U 15) (.seq (.gy [ad 0 17 (.aN 1 (U 1)),
 ad 1 18 (.ld1 (U 17)),
 ad 2 19 (.bin .eql 2 (U 18) (.const (.int .i64 0))),
 af 3 20 19,
 aE 4 21 20 true (.aN 3 (U 1)),
 aE 5 22 20 true (.ld1 (U 21)),
 aE 6 23 20 true (.bin .eql 9 (U 22) (.const (.string ⟨#[]⟩))),
 ad 7 24 (.pick (U 20) (U 23) (.const (.bool false))),
 af 8 25 24,
 aE 9 26 25 true (.aN 2 (U 1)),
 aE 10 27 25 true (.ld1 (U 26)),
 aE 12 29 25 true (.aN 2 (U 1)),
 ⟨13,(some 30),(some ((some 25),true)),.cF (.ld1 (U 29)),[],true⟩,
 ⟨11,(some 28),(some ((some 25),true)),.cV 137 [(U 27)],[13],false⟩,
 aE 14 31 25 true (.bin .eql 27 (U 28) (U 30)),
 ad 15 32 (.pick (U 25) (U 31) (.const (.bool false)))])
 (.cond (U 32) (.seq (.ai [ad 0 2 (.ap (.const (.int .i64 0)))])
 .ret) .skip)) (.seq (.ai [ad 0 34 (.bin .eql 5 (U 4) (.const (.int .u8 3))),
 af 1 33 34])
 (.cond (U 33) (.seq (.ai [ad 0 35 (.aN 1 (U 1)),
 ad 1 36 (.ld1 (U 35)),
 ad 2 37 (.bin .eql 2 (U 36) (.const (.int .i64 0))),
 af 3 38 37,
 aE 4 39 38 true (.aN 2 (U 1)),
 aE 5 40 38 true (.ld1 (U 39)),
 aE 6 41 38 true (.bin .eql 27 (U 40) (.const (.int .u64 0))),
 ad 7 42 (.pick (U 38) (U 41) (.const (.bool false))),
 af 8 43 42,
 aE 9 44 43 true (.aN 3 (U 1)),
 aE 10 45 43 true (.ld1 (U 44)),
 aE 11 46 43 true (.len .str (U 45)),
 aE 12 47 43 true (.bin .leq 3 (U 46) (.const (.int .i64 30))),
 ad 13 48 (.pick (U 43) (U 47) (.const (.bool false))),
 af 14 49 48,
 aE 15 50 49 true (.aN 3 (U 1)),
 aE 16 51 49 true (.ld1 (U 50)),
 ⟨17,(some 52),(some ((some 49),true)),.cV 138 [(U 51)],[],false⟩,
 ad 18 53 (.pick (U 49) (U 52) (.const (.bool false)))])
 (.cond (U 53) (.seq (.ai [ad 0 2 (.ap (.const (.int .i64 0)))])
 .ret) .skip)) .skip))))))))
 (.seq (.ai [ad 0 2 (.ap (.const (.int .i64 8)))])
 .ret)))
def MM:List a2:=[.ap (U 2)]
theorem RG:bm Tryz.prog 96=some G4:=by kernel_rfl
theorem aaM:bn Tryz.prog 96=some MM:=by kernel_rfl
def W0:aT:=(.seq (.seq (.ai [af 0 5 4,
 ad 1 6 (.bin .lss 3 (U 5) (.const (.int .i64 32)))])
 (.cond (U 6) .skip (.exit 0)))
 (.seq (.block 1 (.ai [af 0 9 4,
 af 1 10 4,
 ad 2 11 (.bin .quo 3 (U 10) (.const (.int .i64 4))),
 ad 3 12 (.bf (.arr 8 1) (U 1) (U 11)),
 ad 4 13 (.ld1 (U 12)),
 af 5 14 4,
 ad 6 15 (.bin .rem 3 (U 14) (.const (.int .i64 4))),
 ad 7 16 (.bin .mul 3 (.const (.int .i64 8)) (U 15)),
 ad 8 17 (.bin .sub 3 (.const (.int .i64 24)) (U 16)),
 ad 9 18 (.bin .shr 25 (U 13) (U 17)),
 ad 10 19 (.ct .u8 (U 18)),
 ad 11 20 (.bf (.arr 32 1) (U 3) (U 9)),
 bC 12 (.st 1 (U 20) (U 19))]))
 (.ai [af 0 7 4,
 ad 1 8 (.bin .add 3 (U 7) (.const (.int .i64 1))),
 af 2 4 8])))
def G5:aT:=(.seq (.ai [ad 0 1 (.box (U 0)),
 ad 1 2 (.alloc (rep 32 (.int .u8 0)))])
 (.seq (.ai [ad 0 3 (.alloc (rep 32 (.int .u8 0)))])
 (.seq (.seq (.ai [ad 0 4 (.ap (.const (.int .i64 0)))])
 (.block 0 (.loop W0)))
 (.seq (.ai [ad 0 21 (.aX 32 (U 3)),
 bC 1 (.st 32 (U 2) (U 21))])
 .ret))))
def MN:List a2:=[.aX 32 (U 2)]
theorem RH:bm Tryz.prog 97=some G5:=by kernel_rfl
theorem aaN:bn Tryz.prog 97=some MN:=by kernel_rfl
def W1:aT:=(.seq (.seq (.ai [af 0 6 5,
 ad 1 7 (.bin .add 3 (U 6) (.const (.int .i64 64))),
 af 2 8 1,
 ad 3 9 (.len (.ao 1) (U 8)),
 ad 4 10 (.bin .leq 3 (U 7) (U 9))])
 (.cond (U 10) .skip (.exit 0)))
 (.seq (.block 1 (.ai [ad 0 13 (.aX 8 (U 2)),
 af 1 14 1,
 af 2 15 5,
 af 3 16 5,
 ad 4 17 (.bin .add 3 (U 16) (.const (.int .i64 64))),
 ad 5 18 (.slice (.ao 1) (U 14) (some (U 15)) (some (U 17)) none),
 sc 6 19 139 [(U 13),(U 18)],
 bC 7 (.st 8 (U 2) (U 19))]))
 (.ai [af 0 11 5,
 ad 1 12 (.bin .add 3 (U 11) (.const (.int .i64 64))),
 af 2 5 12])))
def G6:aT:=(.seq (.ai [ad 0 2 (.box (U 0)),
 ad 1 4 (.alloc [.int .u32 0,.int .u32 0,.int .u32 0,.int .u32 0,.int .u32 0,.int .u32 0,.int .u32 0,.int .u32 0])])
 (.seq (.seq (.ai [ad 0 5 (.ap (.const (.int .i64 0)))])
 (.block 0 (.loop W1)))
 (.seq (.ai [ad 0 20 (.aX 8 (U 2)),
 bC 1 (.st 8 (U 4) (U 20))])
 .ret)))
def MO:List a2:=[.aX 8 (U 4)]
theorem RI:bm Tryz.prog 98=some G6:=by kernel_rfl
theorem aaO:bn Tryz.prog 98=some MO:=by kernel_rfl
def G7:aT:=(.seq (.ai [ad 0 0 (.alloc [.int .u32 0,.int .u32 0,.int .u32 0,.int .u32 0,.int .u32 0,.int .u32 0,.int .u32 0,.int .u32 0])])
 (.seq (.ai [ad 0 1 (.dW [.int .u32 0,.int .u32 0,.int .u32 0,.int .u32 0,.int .u32 0,.int .u32 0,.int .u32 0,.int .u32 0] [(0,1,(.const (.int .u32 1779033703))),(1,1,(.const (.int .u32 3144134277))),(2,1,(.const (.int .u32 1013904242))),(3,1,(.const (.int .u32 2773480762))),(4,1,(.const (.int .u32 1359893119))),(5,1,(.const (.int .u32 2600822924))),(6,1,(.const (.int .u32 528734635))),(7,1,(.const (.int .u32 1541459225)))]),
 bC 1 (.st 8 (U 0) (U 1))])
 .ret))
def MP:List a2:=[.aX 8 (U 0)]
theorem RJ:bm Tryz.prog 99=some G7:=by kernel_rfl
theorem aaP:bn Tryz.prog 99=some MP:=by kernel_rfl
def VP:aT:=(.seq (.seq (.ai [af 0 6 0,
 af 1 7 3,
 ad 2 8 (.len (.ao 1) (U 7)),
 ad 3 9 (.bin .add 3 (U 6) (U 8)),
 ad 4 10 (.bin .add 3 (U 9) (.const (.int .i64 8))),
 ad 5 11 (.bin .rem 3 (U 10) (.const (.int .i64 64))),
 ad 6 12 (.bin .neq 3 (U 11) (.const (.int .i64 0)))])
 (.cond (U 12) .skip (.exit 0)))
 (.block 1 (.ai [af 0 13 3,
 ad 1 14 (.cL 1 [.int .u8 0] 1 [(0,(.const (.int .u8 0)))]),
 ad 2 15 (.app 1 1 (U 13) (U 14)),
 af 3 3 15])))
def VQ:aT:=(.seq (.seq (.ai [af 0 16 4,
 ad 1 17 (.bin .geq 3 (U 16) (.const (.int .i64 0)))])
 (.cond (U 17) .skip (.exit 2)))
 (.seq (.block 3 (.ai [af 0 20 3,
 af 1 21 0,
 ad 2 22 (.ct .u64 (U 21)),
 ad 3 23 (.bin .mul 27 (.const (.int .u64 8)) (U 22)),
 af 4 24 4,
 ad 5 25 (.bin .mul 3 (.const (.int .i64 8)) (U 24)),
 ad 6 26 (.bin .shr 27 (U 23) (U 25)),
 ad 7 27 (.ct .u8 (U 26)),
 ad 8 28 (.cL 1 [.int .u8 0] 1 [(0,(U 27))]),
 ad 9 29 (.app 1 1 (U 20) (U 28)),
 af 10 3 29]))
 (.ai [af 0 18 4,
 ad 1 19 (.bin .sub 3 (U 18) (.const (.int .i64 1))),
 af 2 4 19])))
def ER:aT:=(.seq (.ai [ad 0 2 (.ap (.const (.slice none 0 0)))])
 (.seq (.ai [ad 0 5 (.cL 1 [.int .u8 0] 1 [(0,(.const (.int .u8 128)))]),
 af 1 3 5])
 (.seq (.block 0 (.loop VP))
 (.seq (.seq (.ai [ad 0 4 (.ap (.const (.int .i64 7)))])
 (.block 2 (.loop VQ)))
 (.seq (.ai [af 0 30 3,
 af 1 2 30])
 .ret)))))
def KI:List a2:=[.ap (U 2)]
theorem O4:bm Tryz.prog 100=some ER:=by kernel_rfl
theorem Yb:bn Tryz.prog 100=some KI:=by kernel_rfl
def ES:aT:=(.seq (.ai [ad 0 1 (.box (U 0)),
 ad 1 2 (.ap (.const (.slice none 0 0)))])
 (.seq (.ai [ad 0 4 (.cL 1 [.int .u8 0] 1 [(0,(.const (.int .u8 111)))]),
 ad 1 5 (.aN 0 (U 1)),
 ad 2 6 (.ld1 (U 5)),
 ad 3 7 (.ct .u64 (U 6)),
 sc 4 8 102 [(U 7)],
 ad 5 9 (.app 1 1 (U 4) (U 8)),
 af 6 3 9])
 (.seq (.gy [af 0 10 3,
 ad 1 11 (.aN 1 (U 1)),
 ad 2 12 (.ld1 (U 11)),
 ad 5 15 (.aN 2 (U 1)),
 ⟨6,(some 16),none,.cF (.ld1 (U 15)),[],true⟩,
 ⟨3,(some 13),none,.cV 140 [(U 12)],[6],false⟩,
 ⟨4,(some 14),none,.cF (.app 1 1 (U 10) (U 13)),[6],false⟩,
 sc 7 17 102 [(U 16)],
 ad 8 18 (.app 1 1 (U 14) (U 17)),
 af 9 3 18])
 (.seq (.ai [af 0 19 3,
 ad 1 20 (.aN 3 (U 1)),
 ad 2 21 (.aN 0 (U 20)),
 ad 3 22 (.ld1 (U 21)),
 ad 4 23 (.cL 1 [.int .u8 0] 1 [(0,(U 22))]),
 ad 5 24 (.app 1 1 (U 19) (U 23)),
 af 6 3 24])
 (.seq (.seq (.ai [ad 0 25 (.aN 3 (U 1)),
 ad 1 26 (.aN 0 (U 25)),
 ad 2 27 (.ld1 (U 26)),
 ad 3 28 (.bin .neq 5 (U 27) (.const (.int .u8 1)))])
 (.cond (U 28) (.ai [af 0 29 3,
 ad 1 30 (.aN 3 (U 1)),
 ad 2 31 (.aN 1 (U 30)),
 ad 3 32 (.ld1 (U 31)),
 ad 4 33 (.pY (U 32)),
 sc 5 34 141 [(U 33)],
 ad 6 35 (.app 1 1 (U 29) (U 34)),
 af 7 3 35]) .skip))
 (.seq (.seq (.ai [ad 0 36 (.aN 3 (U 1)),
 ad 1 37 (.aN 0 (U 36)),
 ad 2 38 (.ld1 (U 37)),
 ad 3 39 (.bin .eql 5 (U 38) (.const (.int .u8 4)))])
 (.cond (U 39) (.ai [af 0 40 3,
 ad 1 41 (.aN 3 (U 1)),
 ad 2 42 (.aN 2 (U 41)),
 ad 3 43 (.aX 4 (U 42)),
 sc 4 44 142 [(U 43)],
 ad 5 45 (.app 1 1 (U 40) (U 44)),
 af 6 3 45]) .skip))
 (.seq (.ai [af 0 46 3,
 af 1 2 46])
 .ret)))))))
def KJ:List a2:=[.ap (U 2)]
theorem O5:bm Tryz.prog 101=some ES:=by kernel_rfl
theorem Yc:bn Tryz.prog 101=some KJ:=by kernel_rfl
def VR:aT:=(.seq (.seq (.ai [af 0 11 0,
 ad 1 12 (.bin .gtr 27 (U 11) (.const (.int .u64 0)))])
 (.cond (U 12) .skip (.exit 0)))
 (.block 1 (.seq (.ai [af 0 13 3,
 af 1 14 0,
 ad 2 15 (.bin .rem 27 (U 14) (.const (.int .u64 256))),
 ad 3 16 (.ct .u8 (U 15)),
 ad 4 17 (.cL 1 [.int .u8 0] 1 [(0,(U 16))]),
 ad 5 18 (.app 1 1 (U 13) (U 17)),
 af 6 3 18])
 (.ai [af 0 19 0,
 ad 1 20 (.bin .quo 27 (U 19) (.const (.int .u64 256))),
 af 2 0 20]))))
def VS:aT:=(.seq (.seq (.ai [af 0 29 5,
 ad 1 30 (.bin .geq 3 (U 29) (.const (.int .i64 0)))])
 (.cond (U 30) .skip (.exit 2)))
 (.seq (.block 3 (.ai [af 0 33 4,
 af 1 34 3,
 af 2 35 5,
 ad 3 36 (.bf (.ao 1) (U 34) (U 35)),
 ad 4 37 (.ld1 (U 36)),
 ad 5 38 (.cL 1 [.int .u8 0] 1 [(0,(U 37))]),
 ad 6 39 (.app 1 1 (U 33) (U 38)),
 af 7 4 39]))
 (.ai [af 0 31 5,
 ad 1 32 (.bin .sub 3 (U 31) (.const (.int .i64 1))),
 af 2 5 32])))
def ET:aT:=(.seq (.ai [ad 0 2 (.ap (.const (.slice none 0 0)))])
 (.seq (.seq (.ai [af 0 6 0,
 ad 1 7 (.bin .leq 27 (U 6) (.const (.int .u64 247)))])
 (.cond (U 7) (.seq (.ai [af 0 8 0,
 ad 1 9 (.ct .u8 (U 8)),
 ad 2 10 (.cL 1 [.int .u8 0] 1 [(0,(U 9))]),
 af 3 2 10])
 .ret) .skip))
 (.seq (.ai [ad 0 3 (.ap (.const (.slice none 0 0)))])
 (.seq (.block 0 (.loop VR))
 (.seq (.ai [af 0 21 3,
 ad 1 22 (.len (.ao 1) (U 21)),
 ad 2 23 (.bin .add 3 (.const (.int .i64 247)) (U 22)),
 ad 3 24 (.ct .u8 (U 23)),
 ad 4 25 (.cL 1 [.int .u8 0] 1 [(0,(U 24))]),
 af 5 4 25])
 (.seq (.seq (.ai [af 0 26 3,
 ad 1 27 (.len (.ao 1) (U 26)),
 ad 2 28 (.bin .sub 3 (U 27) (.const (.int .i64 1))),
 af 3 5 28])
 (.block 2 (.loop VS)))
 (.seq (.ai [af 0 40 4,
 af 1 2 40])
 .ret)))))))
def KK:List a2:=[.ap (U 2)]
theorem O6:bm Tryz.prog 102=some ET:=by kernel_rfl
theorem Yd:bn Tryz.prog 102=some KK:=by kernel_rfl
def O7:aT:=(.seq (.ai [ad 0 2 (.ap (.const (.int .i64 0)))])
 (.seq (.seq (.ai [af 0 3 0,
 ad 1 4 (.bin .eql 25 (U 3) (.const (.int .u32 0))),
 af 2 5 4,
 aE 3 6 5 false (.ap (U 0)),
 aE 4 7 5 false (.ct .u64 (U 6)),
 aE 5 8 5 false (.bin .geq 27 (U 7) (.const (.int .u64 500000003))),
 ad 6 9 (.pick (U 5) (.const (.bool true)) (U 8))])
 (.cond (U 9) (.seq (.ai [ad 0 2 (.ap (.const (.int .i64 2)))])
 .ret) .skip))
 (.seq (.ai [ad 0 2 (.ap (.const (.int .i64 0)))])
 .ret)))
def Ye:List a2:=[.ap (U 2)]
theorem aeh:bm Tryz.prog 103=some O7:=by kernel_rfl
theorem amB:bn Tryz.prog 103=some Ye:=by kernel_rfl
def O8:aT:=(.seq (.ai [ad 0 1 (.box (U 0)),
 ad 1 2 (.alloc [.int .u32 0,.aZ,.int .u64 0,.int .u8 0,.str [],.int .u8 0,.int .i64 0,.int .u64 0,.str [],.int .u32 0,.int .u32 0])])
 (.seq (.ai [ad 0 3 (.dW [.int .u32 0,.int .u32 0] []),
 ad 1 4 (.aN 9 (U 1)),
 bC 2 (.st 2 (U 4) (U 3))])
 (.seq (.ai [ad 0 5 (.aX 11 (U 1)),
 bC 1 (.st 11 (U 2) (U 5))])
 .ret)))
def Yf:List a2:=[.aX 11 (U 2)]
theorem aei:bm Tryz.prog 104=some O8:=by kernel_rfl
theorem amC:bn Tryz.prog 104=some Yf:=by kernel_rfl
def EU:aT:=(.seq (.ai [ad 0 2 (.ap (.const (.int .u32 0)))])
 (.seq (.ai [af 0 3 0,
 ad 1 4 (.ct .u64 (U 3)),
 sc 2 5 143 [(U 4)],
 af 3 2 5])
 .ret))
def KL:List a2:=[.ap (U 2)]
theorem O9:bm Tryz.prog 105=some EU:=by kernel_rfl
theorem Yg:bn Tryz.prog 105=some KL:=by kernel_rfl
def Pb:aT:=(.seq (.ai [ad 0 4 (.alloc [.int .u32 0,.int .u32 0])])
 (.seq (.ai [af 0 7 0,
 af 1 8 1,
 sc 2 9 144 [(U 7),(U 8)],
 af 3 5 9])
 (.seq (.ai [af 0 10 5,
 sc 1 11 105 [(U 10)],
 af 2 12 0,
 sc 3 13 105 [(U 12)],
 af 4 14 1,
 sc 5 15 145 [(U 11),(U 13),(U 14)],
 af 6 6 15])
 (.seq (.ai [af 0 16 6,
 af 1 17 5,
 af 2 18 6,
 af 3 19 0,
 sc 4 20 147 [(U 18),(U 19)],
 sc 5 21 146 [(U 17),(U 20)],
 ad 6 22 (.dW [.int .u32 0,.int .u32 0] [(0,1,(U 16)),(1,1,(U 21))]),
 bC 7 (.st 2 (U 4) (U 22))])
 .ret))))
def Yh:List a2:=[.aX 2 (U 4)]
theorem aej:bm Tryz.prog 106=some Pb:=by kernel_rfl
theorem amD:bn Tryz.prog 106=some Yh:=by kernel_rfl
def EV:aT:=(.seq (.ai [ad 0 1 (.box (U 0)),
 ad 1 2 (.ap (.const (.int .i64 0)))])
 (.seq (.block 0 (.seq (.ai [ad 0 4 (.aN 1 (U 1)),
 ad 1 5 (.ld1 (U 4)),
 ad 2 6 (.len (.ao 32) (U 5)),
 ad 3 7 (.bin .gtr 3 (U 6) (.const (.int .i64 4))),
 af 4 3 7])
 (.cond (U 3) (.seq (.ai [ad 0 2 (.ap (.const (.int .i64 4)))])
 .ret) (.seq (.gy [ad 0 9 (.aN 1 (U 1)),
 ad 1 10 (.ld1 (U 9)),
 sc 2 11 148 [(U 10),(.func 121)],
 ad 3 12 (.un .not (U 11)),
 af 4 13 12,
 aE 5 14 13 false (.aN 1 (U 1)),
 aE 6 15 13 false (.ld1 (U 14)),
 aE 10 19 13 false (.aN 1 (U 1)),
 ⟨11,(some 20),(some ((some 13),false)),.cF (.ld1 (U 19)),[],true⟩,
 aE 12 21 13 false (.len (.ao 32) (U 20)),
 ⟨7,(some 16),(some ((some 13),false)),.cV 150 [(U 15)],[11],false⟩,
 ⟨8,(some 17),(some ((some 13),false)),.cV 149 [(U 16)],[11],false⟩,
 aE 9 18 13 false (.len (.ao 32) (U 17)),
 aE 13 22 13 false (.bin .neq 3 (U 18) (U 21)),
 ad 14 23 (.pick (U 13) (.const (.bool true)) (U 22)),
 af 15 8 23])
 (.cond (U 8) (.seq (.ai [ad 0 2 (.ap (.const (.int .i64 32)))])
 .ret) (.seq (.ai [ad 0 25 (.aN 0 (U 1)),
 ad 1 26 (.ld1 (U 25)),
 sc 2 27 151 [(U 26)],
 ad 3 28 (.un .not (U 27)),
 af 4 29 28,
 aE 5 30 29 false (.aN 2 (U 1)),
 aE 6 31 29 false (.ld1 (U 30)),
 aE 7 32 29 false (.bin .gtr 27 (U 31) (.const (.int .u64 1000000000000))),
 ad 8 33 (.pick (U 29) (.const (.bool true)) (U 32)),
 af 9 34 33,
 aE 10 35 34 false (.aN 9 (U 1)),
 aE 11 36 34 false (.aN 0 (U 35)),
 aE 12 37 34 false (.ld1 (U 36)),
 aE 13 38 34 false (.aN 9 (U 1)),
 aE 14 39 34 false (.aN 1 (U 38)),
 aE 15 40 34 false (.ld1 (U 39)),
 aE 16 41 34 false (.max (U 37) (U 40)),
 aE 17 42 34 false (.bin .geq 25 (U 41) (.const (.int .u32 500000003))),
 ad 18 43 (.pick (U 34) (.const (.bool true)) (U 42)),
 af 19 24 43])
 (.cond (U 24) (.seq (.ai [ad 0 2 (.ap (.const (.int .i64 8)))])
 .ret) .skip)))))))
 (.seq (.ai [ad 0 44 (.aN 3 (U 1)),
 ad 1 45 (.aX 6 (U 44)),
 sc 2 46 50 [(U 45)],
 af 3 2 46])
 .ret)))
def KM:List a2:=[.ap (U 2)]
theorem Pc:bm Tryz.prog 107=some EV:=by kernel_rfl
theorem Yi:bn Tryz.prog 107=some KM:=by kernel_rfl
def EW:aT:=(.seq (.ai [ad 0 1 (.box (U 0)),
 ad 1 2 (.ap (.const (.slice none 0 0))),
 ad 2 3 (.ap (.const (.int .i64 0)))])
 (.seq (.ai [ad 0 12 (.dW [.int .u32 0,.int .u32 0] []),
 ad 1 13 (.aN 9 (U 1)),
 bC 2 (.st 2 (U 13) (U 12))])
 (.seq (.seq (.ai [ad 0 14 (.aX 11 (U 1)),
 sc 1 15 107 [(U 14)],
 af 2 4 15])
 (.seq (.ai [af 0 16 4,
 ad 1 17 (.bin .neq 38 (U 16) (.const (.int .i64 0)))])
 (.cond (U 17) (.seq (.ai [af 0 18 4,
 ad 1 2 (.ap (.const (.slice none 0 0))),
 af 2 3 18])
 .ret) .skip)))
 (.seq (.ai [ad 0 20 (.aN 1 (U 1)),
 ad 1 21 (.ld1 (U 20)),
 sc 2 22 152 [(U 21)],
 af 3 19 22,
 ad 4 23 (.ext (U 19) 0),
 ad 5 24 (.ext (U 19) 1),
 af 6 5 23,
 af 7 6 24])
 (.seq (.gy [⟨0,(some 25),none,.cF (.cL 1 [.int .u8 0] 1 [(0,(.const (.int .u8 111)))]),[],true⟩,
 ad 1 26 (.aN 0 (U 1)),
 ad 2 27 (.ld1 (U 26)),
 ad 3 28 (.ct .u64 (U 27)),
 af 5 30 5,
 ad 6 31 (.aN 2 (U 1)),
 ⟨7,(some 32),none,.cF (.ld1 (U 31)),[],true⟩,
 ad 9 34 (.aN 3 (U 1)),
 ad 10 35 (.aN 0 (U 34)),
 ⟨11,(some 36),none,.cF (.ld1 (U 35)),[],true⟩,
 ⟨12,(some 37),none,.cF (.cL 1 [.int .u8 0] 1 [(0,(U 36))]),[],true⟩,
 ⟨4,(some 29),none,.cV 110 [(U 28)],[12,11,7,0],false⟩,
 ⟨8,(some 33),none,.cV 110 [(U 32)],[12,11,0],false⟩,
 ad 13 38 (.cL 1 [.aZ] 5 [(0,(U 25)),(1,(U 29)),(2,(U 30)),(3,(U 33)),(4,(U 37))]),
 sc 14 39 109 [(U 38)],
 af 15 7 39])
 (.seq (.seq (.ai [ad 0 40 (.aN 3 (U 1)),
 ad 1 41 (.aN 0 (U 40)),
 ad 2 42 (.ld1 (U 41)),
 ad 3 43 (.bin .eql 5 (U 42) (.const (.int .u8 1)))])
 (.cond (U 43) (.seq (.ai [af 0 44 7,
 af 1 2 44,
 ad 2 3 (.ap (.const (.int .i64 0)))])
 .ret) .skip))
 (.seq (.ai [ad 0 46 (.aN 3 (U 1)),
 ad 1 47 (.aN 1 (U 46)),
 ad 2 48 (.ld1 (U 47)),
 ad 3 49 (.pY (U 48)),
 sc 4 50 153 [(U 49)],
 af 5 45 50,
 ad 6 51 (.ext (U 45) 0),
 ad 7 52 (.ext (U 45) 1),
 af 8 8 51,
 af 9 9 52])
 (.seq (.ai [af 0 53 7,
 af 1 54 8,
 ad 2 55 (.app 1 1 (U 53) (U 54)),
 af 3 7 55])
 (.seq (.seq (.ai [ad 0 56 (.aN 3 (U 1)),
 ad 1 57 (.aN 0 (U 56)),
 ad 2 58 (.ld1 (U 57)),
 ad 3 59 (.bin .eql 5 (U 58) (.const (.int .u8 4)))])
 (.cond (U 59) (.seq (.ai [ad 0 61 (.aN 3 (U 1)),
 ad 1 62 (.aN 2 (U 61)),
 ad 2 63 (.aX 4 (U 62)),
 sc 3 64 154 [(U 63)],
 af 4 60 64,
 ad 5 65 (.ext (U 60) 0),
 ad 6 66 (.ext (U 60) 1),
 af 7 10 65,
 af 8 11 66])
 (.ai [af 0 67 7,
 af 1 68 10,
 ad 2 69 (.app 1 1 (U 67) (U 68)),
 af 3 7 69])) .skip))
 (.seq (.ai [af 0 70 7,
 af 1 2 70,
 ad 2 3 (.ap (.const (.int .i64 0)))])
 .ret))))))))))
def KN:List a2:=[.ap (U 2),.ap (U 3)]
theorem Pd:bm Tryz.prog 108=some EW:=by kernel_rfl
theorem Yj:bn Tryz.prog 108=some KN:=by kernel_rfl
def JQ:aT:=(.seq (.ai [ad 0 12 (.bin .lss 3 (U 11) (U 10))])
 (.seq (.cond (U 12) .skip (.exit 0))
 (.seq (.block 1 (.seq (.ai [ad 0 13 (.bf (.ao 1) (U 9) (U 11)),
 ad 1 14 (.ld1 (U 13)),
 af 2 5 14])
 (.seq (.ai [af 0 15 3,
 af 1 16 5,
 ad 2 17 (.len (.ao 1) (U 16)),
 ad 3 18 (.bin .add 3 (U 15) (U 17)),
 af 4 3 18])
 (.seq (.ai [af 0 19 3,
 ad 1 20 (.bin .lss 3 (U 19) (.const (.int .i64 0)))])
 (.cond (U 20) (.ai [ad 0 21 (.se 9 (.const (.string ⟨#[108,101,110,32,111,117,116,32,111,102,32,114,97,110,103,101]⟩))),
 bC 1 (.stop)]) .skip)))))
 (.ai [ad 0 22 (.bin .add 3 (U 11) (.const (.int .i64 1))),
 af 1 11 22]))))
def JR:aT:=(.seq (.ai [ad 0 28 (.bin .lss 3 (U 27) (U 26))])
 (.seq (.cond (U 28) .skip (.exit 2))
 (.seq (.block 3 (.seq (.ai [ad 0 29 (.bf (.ao 1) (U 25) (U 27)),
 ad 1 30 (.ld1 (U 29)),
 af 2 8 30])
 (.ai [af 0 31 6,
 af 1 32 8,
 ad 2 33 (.app 1 1 (U 31) (U 32)),
 af 3 6 33])))
 (.ai [ad 0 34 (.bin .add 3 (U 27) (.const (.int .i64 1))),
 af 1 27 34]))))
def Bd:aT:=(.seq (.ai [ad 0 2 (.ap (.const (.slice none 0 0)))])
 (.seq (.ai [ad 0 3 (.ap (.const (.int .i64 0)))])
 (.seq (.seq (.ai [af 0 9 0,
 ad 1 10 (.len (.ao 1) (U 9)),
 ad 2 11 (.ap (.const (.int .i64 0)))])
 (.block 0 (.loop JQ)))
 (.seq (.ai [af 0 23 3,
 sc 1 24 155 [(.const (.slice none 0 0)),(U 23)],
 af 2 6 24])
 (.seq (.seq (.ai [af 0 25 0,
 ad 1 26 (.len (.ao 1) (U 25)),
 ad 2 27 (.ap (.const (.int .i64 0)))])
 (.block 2 (.loop JR)))
 (.seq (.ai [af 0 35 6,
 af 1 2 35])
 .ret))))))
def DA:List a2:=[.ap (U 2)]
theorem EX:bm Tryz.prog 109=some Bd:=by kernel_rfl
theorem KO:bn Tryz.prog 109=some DA:=by kernel_rfl
def VT:aT:=(.seq (.ai [ad 0 25 (.bin .lss 3 (U 24) (U 23))])
 (.seq (.cond (U 25) .skip (.exit 0))
 (.seq (.block 1 (.seq (.ai [af 0 26 24,
 af 1 5 26])
 (.ai [af 0 27 4,
 af 1 28 3,
 af 2 29 5,
 ad 3 30 (.bin .sub 3 (U 28) (U 29)),
 af 4 31 0,
 af 5 32 5,
 ad 6 33 (.bin .mul 3 (.const (.int .i64 8)) (U 32)),
 ad 7 34 (.bin .shr 27 (U 31) (U 33)),
 ad 8 35 (.ct .u8 (U 34)),
 ad 9 36 (.bf (.ao 1) (U 27) (U 30)),
 bC 10 (.st 1 (U 36) (U 35))])))
 (.ai [ad 0 37 (.bin .add 3 (U 24) (.const (.int .i64 1))),
 af 1 24 37]))))
def EY:aT:=(.seq (.ai [ad 0 2 (.ap (.const (.slice none 0 0)))])
 (.seq (.seq (.ai [af 0 6 0,
 ad 1 7 (.bin .leq 27 (U 6) (.const (.int .u64 247)))])
 (.cond (U 7) (.seq (.ai [af 0 8 0,
 ad 1 9 (.ct .u8 (U 8)),
 ad 2 10 (.cL 1 [.int .u8 0] 1 [(0,(U 9))]),
 af 3 2 10])
 .ret) .skip))
 (.seq (.ai [af 0 11 0,
 sc 1 12 135 [(U 11)],
 ad 2 13 (.bin .add 3 (U 12) (.const (.int .i64 7))),
 ad 3 14 (.bin .quo 3 (U 13) (.const (.int .i64 8))),
 af 4 3 14])
 (.seq (.ai [af 0 15 3,
 ad 1 16 (.bin .add 3 (U 15) (.const (.int .i64 1))),
 ad 2 17 (.kZ 1 1 [.int .u8 0] (U 16) (U 16)),
 af 3 4 17])
 (.seq (.ai [af 0 18 4,
 af 1 19 3,
 ad 2 20 (.bin .add 3 (.const (.int .i64 247)) (U 19)),
 ad 3 21 (.ct .u8 (U 20)),
 ad 4 22 (.bf (.ao 1) (U 18) (.const (.int .i64 0))),
 bC 5 (.st 1 (U 22) (U 21))])
 (.seq (.seq (.ai [af 0 23 3,
 ad 1 24 (.ap (.const (.int .i64 0)))])
 (.block 0 (.loop VT)))
 (.seq (.ai [af 0 38 4,
 af 1 2 38])
 .ret)))))))
def KP:List a2:=[.ap (U 2)]
theorem Pf:bm Tryz.prog 110=some EY:=by kernel_rfl
theorem Yl:bn Tryz.prog 110=some KP:=by kernel_rfl
def VU:aT:=(.seq (.ai [ad 0 19 (.bin .lss 3 (U 18) (U 17))])
 (.seq (.cond (U 19) .skip (.exit 0))
 (.seq (.block 1 (.seq (.ai [ad 0 20 (.bf (.ao 1) (U 16) (U 18)),
 ad 1 21 (.ld1 (U 20)),
 af 2 6 21])
 (.ai [ad 0 22 (.aX 10 (U 4)),
 af 1 23 6,
 sc 2 24 159 [(U 22),(U 23)],
 bC 3 (.st 10 (U 4) (U 24))])))
 (.ai [ad 0 25 (.bin .add 3 (U 18) (.const (.int .i64 1))),
 af 1 18 25]))))
def EZ:aT:=(.seq (.ai [ad 0 2 (.alloc (rep 32 (.int .u8 0))),
 ad 1 3 (.ap (.const (.int .i64 0)))])
 (.seq (.seq (.ai [af 0 7 0,
 ad 1 8 (.len (.ao 1) (U 7)),
 ad 2 9 (.bin .gtr 3 (U 8) (.const (.int .i64 20))),
 af 3 10 9,
 aE 4 11 10 false (.ap (U 0)),
 ⟨5,(some 12),(some ((some 10),false)),.cV 156 [(U 11),(.func 157)],[],false⟩,
 ad 6 13 (.pick (U 10) (.const (.bool true)) (U 12))])
 (.cond (U 13) (.seq (.ai [ad 0 14 (.dW (rep 32 (.int .u8 0)) []),
 bC 1 (.st 32 (U 2) (U 14)),
 ad 2 3 (.ap (.const (.int .i64 4)))])
 .ret) .skip))
 (.seq (.ai [sc 0 15 158 [],
 ad 1 4 (.alloc [.int .u32 0,.int .u32 0,.int .u32 0,.int .u32 0,.int .u32 0,.int .u32 0,.int .u32 0,.int .u32 0,.aZ,.int .i64 0]),
 bC 2 (.st 10 (U 4) (U 15))])
 (.seq (.seq (.ai [af 0 16 0,
 ad 1 17 (.len (.ao 1) (U 16)),
 ad 2 18 (.ap (.const (.int .i64 0)))])
 (.block 0 (.loop VU)))
 (.seq (.ai [ad 0 26 (.aX 10 (U 4)),
 sc 1 27 160 [(U 26)],
 bC 2 (.st 32 (U 2) (U 27)),
 ad 3 3 (.ap (.const (.int .i64 0)))])
 .ret)))))
def KQ:List a2:=[.aX 32 (U 2),.ap (U 3)]
theorem Pg:bm Tryz.prog 111=some EZ:=by kernel_rfl
theorem Ym:bn Tryz.prog 111=some KQ:=by kernel_rfl
def E0:aT:=(.seq (.ai [ad 0 2 (.ap (.const (.bool false)))])
 (.seq (.ai [af 0 3 0,
 af 1 4 0,
 ad 2 5 (.bin .neq 9 (U 3) (U 4)),
 af 3 2 5])
 .ret))
def KR:List a2:=[.ap (U 2)]
theorem Ph:bm Tryz.prog 112=some E0:=by kernel_rfl
theorem Yn:bn Tryz.prog 112=some KR:=by kernel_rfl
def E1:aT:=(.seq (.ai [ad 0 4 (.ap (.const (.int .i64 0)))])
 (.seq (.ai [af 0 5 0,
 af 1 6 1,
 sc 2 7 162 [(U 5),(U 6),(.const (.bool true))],
 af 3 4 7])
 .ret))
def KS:List a2:=[.ap (U 4)]
theorem Pj:bm Tryz.prog 115=some E1:=by kernel_rfl
theorem Yo:bn Tryz.prog 115=some KS:=by kernel_rfl
def E2:aT:=(.seq (.ai [ad 0 2 (.ap (.const (.bool false)))])
 (.seq (.ai [af 0 3 0,
 ad 1 4 (.bin .lss 21 (U 3) (.const (.int .i32 33))),
 af 2 5 4,
 aE 3 6 5 false (.ap (U 0)),
 aE 4 7 5 false (.bin .gtr 21 (U 6) (.const (.int .i32 126))),
 ad 5 8 (.pick (U 5) (.const (.bool true)) (U 7)),
 af 6 2 8])
 .ret))
def KT:List a2:=[.ap (U 2)]
theorem Pk:bm Tryz.prog 116=some E2:=by kernel_rfl
theorem Yp:bn Tryz.prog 116=some KT:=by kernel_rfl
def E3:aT:=(.seq (.ai [ad 0 2 (.alloc [.int .u8 0,.int .i64 0,.int .u64 0,.str []])])
 (.seq (.ai [af 0 3 0,
 ad 1 4 (.dW [.int .u8 0,.int .i64 0,.int .u64 0,.str []] [(0,1,(.const (.int .u8 1))),(1,1,(U 3))]),
 bC 2 (.st 4 (U 2) (U 4))])
 .ret))
def KU:List a2:=[.aX 4 (U 2)]
theorem Pl:bm Tryz.prog 117=some E3:=by kernel_rfl
theorem Yq:bn Tryz.prog 117=some KU:=by kernel_rfl
def E4:aT:=(.seq (.ai [ad 0 2 (.alloc [.int .u8 0,.int .i64 0,.int .u64 0,.str []])])
 (.seq (.ai [af 0 3 0,
 sc 1 4 163 [(U 3)],
 ad 2 5 (.dW [.int .u8 0,.int .i64 0,.int .u64 0,.str []] [(0,1,(.const (.int .u8 2))),(2,1,(U 4))]),
 bC 3 (.st 4 (U 2) (U 5))])
 .ret))
def KV:List a2:=[.aX 4 (U 2)]
theorem Pm:bm Tryz.prog 118=some E4:=by kernel_rfl
theorem Yr:bn Tryz.prog 118=some KV:=by kernel_rfl
def E5:aT:=(.seq (.ai [ad 0 2 (.alloc [.int .u8 0,.int .i64 0,.int .u64 0,.str []]),
 ad 1 3 (.ap (.const (.int .i64 0)))])
 (.seq (.seq (.ai [af 0 4 0,
 ad 1 5 (.len .str (U 4)),
 ad 2 6 (.bin .gtr 3 (U 5) (.const (.int .i64 30)))])
 (.cond (U 6) (.seq (.ai [ad 0 7 (.dW [.int .u8 0,.int .i64 0,.int .u64 0,.str []] []),
 bC 1 (.st 4 (U 2) (U 7)),
 ad 2 3 (.ap (.const (.int .i64 4)))])
 .ret) .skip))
 (.seq (.seq (.ai [af 0 8 0,
 sc 1 9 115 [(U 8),(.func 164)],
 ad 2 10 (.bin .geq 3 (U 9) (.const (.int .i64 0)))])
 (.cond (U 10) (.seq (.ai [ad 0 11 (.dW [.int .u8 0,.int .i64 0,.int .u64 0,.str []] []),
 bC 1 (.st 4 (U 2) (U 11)),
 ad 2 3 (.ap (.const (.int .i64 8)))])
 .ret) .skip))
 (.seq (.ai [af 0 12 0,
 ad 1 13 (.dW [.int .u8 0,.int .i64 0,.int .u64 0,.str []] [(0,1,(.const (.int .u8 3))),(3,1,(U 12))]),
 bC 2 (.st 4 (U 2) (U 13)),
 ad 3 3 (.ap (.const (.int .i64 0)))])
 .ret))))
def KW:List a2:=[.aX 4 (U 2),.ap (U 3)]
theorem Pn:bm Tryz.prog 119=some E5:=by kernel_rfl
theorem Ys:bn Tryz.prog 119=some KW:=by kernel_rfl
def E6:aT:=(.seq (.ai [ad 0 5 (.box (U 2)),
 ad 1 6 (.ap (.const (.int .i64 0)))])
 (.seq (.seq (.ai [af 0 13 0,
 sc 1 14 151 [(U 13)],
 ad 2 15 (.un .not (U 14))])
 (.cond (U 15) (.seq (.ai [ad 0 6 (.ap (.const (.int .i64 2)))])
 .ret) .skip))
 (.seq (.seq (.ai [af 0 16 1,
 ad 1 17 (.len (.ao 1) (U 16)),
 ad 2 18 (.bin .gtr 3 (U 17) (.const (.int .i64 9991)))])
 (.cond (U 18) (.seq (.ai [ad 0 6 (.ap (.const (.int .i64 4)))])
 .ret) .skip))
 (.seq (.seq (.ai [ad 0 19 (.aN 0 (U 5)),
 ad 1 20 (.ld1 (U 19)),
 ad 2 21 (.aN 1 (U 5)),
 ad 3 22 (.ld1 (U 21)),
 ad 4 23 (.max (U 20) (U 22)),
 ad 5 24 (.bin .geq 25 (U 23) (.const (.int .u32 500000003)))])
 (.cond (U 24) (.seq (.ai [ad 0 6 (.ap (.const (.int .i64 22)))])
 .ret) .skip))
 (.seq (.ai [af 0 26 0,
 ad 1 27 (.aN 0 (U 5)),
 ad 2 28 (.ld1 (U 27)),
 ad 3 29 (.ct .u64 (U 28)),
 ad 4 30 (.bin .sub 27 (.const (.int .u64 500000003)) (U 29)),
 sc 5 31 165 [(U 26),(U 30)],
 af 6 25 31,
 ad 7 32 (.ext (U 25) 0),
 ad 8 33 (.ext (U 25) 1),
 af 9 7 32,
 af 10 8 33])
 (.seq (.ai [ad 0 35 (.aN 1 (U 5)),
 ad 1 36 (.ld1 (U 35)),
 ad 2 37 (.ct .u64 (U 36)),
 sc 3 38 167 [(U 37)],
 af 4 39 7,
 sc 5 40 166 [(U 38),(U 39)],
 af 6 34 40,
 ad 7 41 (.ext (U 34) 0),
 ad 8 42 (.ext (U 34) 1),
 af 9 9 41,
 af 10 10 42])
 (.seq (.seq (.ai [af 0 44 9,
 af 1 45 0,
 af 2 46 1,
 sc 3 47 168 [(U 44),(U 45),(U 46)],
 af 4 43 47,
 ad 5 48 (.ext (U 43) 0),
 ad 6 49 (.ext (U 43) 1),
 af 7 11 48,
 af 8 12 49])
 (.seq (.ai [af 0 50 12,
 ad 1 51 (.bin .neq 38 (U 50) (.const (.int .i64 0))),
 af 2 52 51,
 aE 3 53 52 false (.ap (U 11)),
 aE 4 54 52 false (.aN 0 (U 5)),
 aE 5 55 52 false (.ld1 (U 54)),
 aE 6 56 52 false (.bin .neq 25 (U 53) (U 55)),
 ad 7 57 (.pick (U 52) (.const (.bool true)) (U 56))])
 (.cond (U 57) (.seq (.ai [ad 0 6 (.ap (.const (.int .i64 22)))])
 .ret) .skip)))
 (.seq (.ai [ad 0 6 (.ap (.const (.int .i64 0)))])
 .ret))))))))
def KX:List a2:=[.ap (U 6)]
theorem Po:bm Tryz.prog 120=some E6:=by kernel_rfl
theorem Yt:bn Tryz.prog 120=some KX:=by kernel_rfl
def E7:aT:=(.seq (.ai [ad 0 2 (.box (U 0)),
 ad 1 3 (.box (U 1)),
 ad 2 4 (.ap (.const (.int .i64 0)))])
 (.seq (.ai [ad 0 5 (.slice (.arr 32 1) (U 2) none none none),
 ad 1 6 (.slice (.arr 32 1) (U 3) none none none),
 sc 2 7 76 [(U 5),(U 6)],
 af 3 4 7])
 .ret))
def KY:List a2:=[.ap (U 4)]
theorem Pp:bm Tryz.prog 121=some E7:=by kernel_rfl
theorem Yu:bn Tryz.prog 121=some KY:=by kernel_rfl
def E8:aT:=(.seq (.ai [ad 0 2 (.box (U 0)),
 ad 1 3 (.box (U 1)),
 ad 2 4 (.ap (.const (.int .i64 0))),
 ad 3 5 (.ap (.const (.bool false)))])
 (.seq (.ai [ad 0 6 (.aN 0 (U 2)),
 ad 1 7 (.ld1 (U 6)),
 ad 2 8 (.aX 32 (U 3)),
 sc 3 9 123 [(U 7),(U 8),(.func 121)],
 ad 4 10 (.ext (U 9) 0),
 ad 5 11 (.ext (U 9) 1),
 af 6 4 10,
 af 7 5 11])
 .ret))
def KZ:List a2:=[.ap (U 4),.ap (U 5)]
theorem Pq:bm Tryz.prog 122=some E8:=by kernel_rfl
theorem Yv:bn Tryz.prog 122=some KZ:=by kernel_rfl
def VV:aT:=(.seq (.seq (.ai [af 0 15 9,
 af 1 16 10,
 ad 2 17 (.bin .lss 3 (U 15) (U 16))])
 (.cond (U 17) .skip (.exit 0)))
 (.block 1 (.seq (.ai [af 0 18 9,
 af 1 19 10,
 ad 2 20 (.bin .add 3 (U 18) (U 19)),
 ad 3 21 (.ct .u64 (U 20)),
 ad 4 22 (.bin .shr 125 (U 21) (.const (.int .u64 1))),
 ad 5 23 (.ct .i64 (U 22)),
 af 6 11 23])
 (.seq (.ai [af 0 24 2,
 af 1 25 0,
 af 2 26 11,
 ad 3 27 (.bf (.ao 32) (U 25) (U 26)),
 ad 4 28 (.aX 32 (U 27)),
 ad 5 29 (.aX 32 (U 4)),
 ⟨6,(some 30),none,.gw (U 24) [(U 28),(U 29)],[],false⟩,
 ad 7 31 (.bin .lss 3 (U 30) (.const (.int .i64 0)))])
 (.cond (U 31) (.ai [af 0 32 11,
 ad 1 33 (.bin .add 3 (U 32) (.const (.int .i64 1))),
 af 2 9 33]) (.ai [af 0 34 11,
 af 1 10 34]))))))
def E9:aT:=(.seq (.ai [ad 0 4 (.box (U 1)),
 ad 1 6 (.ap (.const (.int .i64 0))),
 ad 2 7 (.ap (.const (.bool false)))])
 (.seq (.ai [af 0 12 0,
 ad 1 13 (.len (.ao 32) (U 12)),
 af 2 8 13])
 (.seq (.ai [af 0 14 8,
 ad 1 9 (.ap (.const (.int .i64 0))),
 af 2 10 14])
 (.seq (.block 0 (.loop VV))
 (.seq (.ai [af 0 35 9,
 af 1 36 9,
 af 2 37 8,
 ad 3 38 (.bin .lss 3 (U 36) (U 37)),
 af 4 39 38,
 aE 5 40 39 true (.ap (U 2)),
 aE 6 41 39 true (.ap (U 0)),
 aE 7 42 39 true (.ap (U 9)),
 aE 8 43 39 true (.bf (.ao 32) (U 41) (U 42)),
 aE 9 44 39 true (.aX 32 (U 43)),
 aE 10 45 39 true (.aX 32 (U 4)),
 ⟨11,(some 46),(some ((some 39),true)),.gw (U 40) [(U 44),(U 45)],[],false⟩,
 aE 12 47 39 true (.bin .eql 3 (U 46) (.const (.int .i64 0))),
 ad 13 48 (.pick (U 39) (U 47) (.const (.bool false))),
 af 14 6 35,
 af 15 7 48])
 .ret)))))
def K0:List a2:=[.ap (U 6),.ap (U 7)]
theorem Pr:bm Tryz.prog 123=some E9:=by kernel_rfl
theorem Yw:bn Tryz.prog 123=some K0:=by kernel_rfl
def VW:aT:=(.seq (.ai [ad 0 14 (.bin .lss 3 (U 13) (U 12))])
 (.seq (.cond (U 14) .skip (.exit 0))
 (.seq (.block 1 (.seq (.ai [af 0 15 13,
 ad 1 16 (.bf (.ao 32) (U 11) (U 13)),
 ad 2 17 (.aX 32 (U 16)),
 ad 3 5 (.alloc (rep 32 (.int .u8 0))),
 af 4 4 15,
 bC 5 (.st 32 (U 5) (U 17))])
 (.ai [af 0 18 3,
 ad 1 19 (.aX 32 (U 5)),
 af 2 20 4,
 bC 3 (.qG 71 (U 18) (U 19) (U 20))])))
 (.ai [ad 0 21 (.bin .add 3 (U 13) (.const (.int .i64 1))),
 af 1 13 21]))))
def Fa:aT:=(.seq (.ai [ad 0 1 (.box (U 0)),
 ad 1 2 (.ap (.const (.map none)))])
 (.seq (.ai [ad 0 6 (.aN 0 (U 1)),
 ad 1 7 (.ld1 (U 6)),
 ad 2 8 (.len (.ao 32) (U 7)),
 ad 3 9 (.pn (some (U 8))),
 af 4 3 9])
 (.seq (.seq (.ai [ad 0 10 (.aN 0 (U 1)),
 ad 1 11 (.ld1 (U 10)),
 ad 2 12 (.len (.ao 32) (U 11)),
 ad 3 13 (.ap (.const (.int .i64 0)))])
 (.block 0 (.loop VW)))
 (.seq (.ai [af 0 22 3,
 af 1 2 22])
 .ret))))
def K1:List a2:=[.ap (U 2)]
theorem Ps:bm Tryz.prog 124=some Fa:=by kernel_rfl
theorem Yx:bn Tryz.prog 124=some K1:=by kernel_rfl
def VX:aT:=(.seq (.ai [ad 0 27 (.bin .lss 3 (U 26) (U 25))])
 (.seq (.cond (U 27) .skip (.exit 0))
 (.seq (.block 1 (.seq (.ai [ad 0 28 (.bf (.ao 32) (U 24) (U 26)),
 ad 1 29 (.aX 32 (U 28)),
 ad 2 8 (.alloc (rep 32 (.int .u8 0))),
 bC 3 (.st 32 (U 8) (U 29))])
 (.ai [ad 0 30 (.ld1 (U 4)),
 ad 1 31 (.aX 32 (U 8)),
 ⟨2,(some 32),none,.gw (U 30) [(U 31)],[],false⟩])))
 (.ai [ad 0 33 (.bin .add 3 (U 26) (.const (.int .i64 1))),
 af 1 26 33]))))
def Fb:aT:=(.seq (.ai [ad 0 5 (.box (U 0))])
 (.seq (.ai [ad 0 9 (.ld1 (U 1)),
 ad 1 10 (.aX 32 (U 5)),
 ad 2 11 (.sa 71 (.int .i64 0) false (U 9) (U 10)),
 af 3 6 11])
 (.seq (.seq (.ai [ad 0 12 (.ld1 (U 2)),
 af 1 13 6,
 ad 2 14 (.bf (.ao 1) (U 12) (U 13)),
 ad 3 15 (.ld1 (U 14))])
 (.cond (U 15) .ret .skip))
 (.seq (.ai [ad 0 16 (.ld1 (U 2)),
 af 1 17 6,
 ad 2 18 (.bf (.ao 1) (U 16) (U 17)),
 bC 3 (.st 1 (U 18) (.const (.bool true)))])
 (.seq (.ai [ad 0 19 (.aN 1 (U 3)),
 ad 1 20 (.ld1 (U 19)),
 af 2 21 6,
 ad 3 22 (.bf (.ao 11) (U 20) (U 21)),
 ad 4 23 (.aN 1 (U 22)),
 ad 5 24 (.ld1 (U 23)),
 ad 6 25 (.len (.ao 32) (U 24)),
 ad 7 26 (.ap (.const (.int .i64 0)))])
 (.block 0 (.loop VX)))))))
def K2:List a2:=[]
theorem Pt:bm Tryz.prog 125=some Fb:=by kernel_rfl
theorem Yy:bn Tryz.prog 125=some K2:=by kernel_rfl
def akG:aT:=(.seq (.seq (.ai [af 0 18 9,
 af 1 19 1,
 ad 2 20 (.bin .gtr 3 (U 18) (U 19)),
 af 3 21 20,
 aE 4 22 21 true (.ap (U 3)),
 aE 5 23 21 true (.ap (U 0)),
 aE 6 24 21 true (.ap (U 9)),
 aE 7 25 21 true (.bf (.ao 33) (U 23) (U 24)),
 aE 8 26 21 true (.aX 33 (U 25)),
 aE 9 27 21 true (.ap (U 0)),
 aE 10 28 21 true (.ap (U 9)),
 aE 11 29 21 true (.bin .sub 3 (U 28) (.const (.int .i64 1))),
 aE 12 30 21 true (.bf (.ao 33) (U 27) (U 29)),
 aE 13 31 21 true (.aX 33 (U 30)),
 ⟨14,(some 32),(some ((some 21),true)),.gw (U 22) [(U 26),(U 31)],[],false⟩,
 aE 15 33 21 true (.bin .lss 3 (U 32) (.const (.int .i64 0))),
 ad 16 34 (.pick (U 21) (U 33) (.const (.bool false)))])
 (.cond (U 34) .skip (.exit 2)))
 (.seq (.block 3 (.ai [af 0 37 0,
 af 1 38 9,
 af 2 39 0,
 af 3 40 9,
 ad 4 41 (.bin .sub 3 (U 40) (.const (.int .i64 1))),
 af 5 42 0,
 af 6 43 9,
 ad 7 44 (.bin .sub 3 (U 43) (.const (.int .i64 1))),
 ad 8 45 (.bf (.ao 33) (U 42) (U 44)),
 ad 9 46 (.aX 33 (U 45)),
 af 10 47 0,
 af 11 48 9,
 ad 12 49 (.bf (.ao 33) (U 47) (U 48)),
 ad 13 50 (.aX 33 (U 49)),
 ad 14 51 (.bf (.ao 33) (U 37) (U 38)),
 bC 15 (.st 33 (U 51) (U 46)),
 ad 16 52 (.bf (.ao 33) (U 39) (U 41)),
 bC 17 (.st 33 (U 52) (U 50))]))
 (.ai [af 0 35 9,
 ad 1 36 (.bin .sub 3 (U 35) (.const (.int .i64 1))),
 af 2 9 36])))
def akH:aT:=(.seq (.seq (.ai [af 0 12 8,
 af 1 13 2,
 ad 2 14 (.bin .lss 3 (U 12) (U 13))])
 (.cond (U 14) .skip (.exit 0)))
 (.seq (.block 1 (.seq (.ai [af 0 17 8,
 af 1 9 17])
 (.block 2 (.loop akG))))
 (.ai [af 0 15 8,
 ad 1 16 (.bin .add 3 (U 15) (.const (.int .i64 1))),
 af 2 8 16])))
def Pu:aT:=(.seq (.ai [af 0 10 1,
 ad 1 11 (.bin .add 3 (U 10) (.const (.int .i64 1))),
 af 2 8 11])
 (.block 0 (.loop akH)))
def Yz:List a2:=[]
theorem aem:bm Tryz.prog 126=some Pu:=by kernel_rfl
theorem amG:bn Tryz.prog 126=some Yz:=by kernel_rfl
def Pv:aT:=(.seq (.ai [ad 0 2 (.ap (.const (.int .i64 0)))])
 (.seq (.seq (.ai [af 0 3 0,
 ad 1 4 (.bin .geq 25 (U 3) (.const (.int .u32 65536)))])
 (.cond (U 4) (.seq (.ai [af 0 5 0,
 ad 1 6 (.bin .shr 25 (U 5) (.const (.int .u64 16))),
 af 2 0 6])
 (.ai [ad 0 2 (.ap (.const (.int .i64 16)))])) .skip))
 (.seq (.seq (.ai [af 0 7 0,
 ad 1 8 (.bin .geq 25 (U 7) (.const (.int .u32 256)))])
 (.cond (U 8) (.seq (.ai [af 0 9 0,
 ad 1 10 (.bin .shr 25 (U 9) (.const (.int .u64 8))),
 af 2 0 10])
 (.ai [af 0 11 2,
 ad 1 12 (.bin .add 3 (U 11) (.const (.int .i64 8))),
 af 2 2 12])) .skip))
 (.seq (.ai [af 0 13 2,
 af 1 14 0,
 ad 2 15 (.ct .u8 (U 14)),
 ad 3 16 (.pb (.const (.string ⟨#[0,1,2,2,3,3,3,3,4,4,4,4,4,4,4,4,5,5,5,5,5,5,5,5,5,5,5,5,5,5,5,5,6,6,6,6,6,6,6,6,6,6,6,6,6,6,6,6,6,6,6,6,6,6,6,6,6,6,6,6,6,6,6,6,7,7,7,7,7,7,7,7,7,7,7,7,7,7,7,7,7,7,7,7,7,7,7,7,7,7,7,7,7,7,7,7,7,7,7,7,7,7,7,7,7,7,7,7,7,7,7,7,7,7,7,7,7,7,7,7,7,7,7,7,7,7,7,7,8,8,8,8,8,8,8,8,8,8,8,8,8,8,8,8,8,8,8,8,8,8,8,8,8,8,8,8,8,8,8,8,8,8,8,8,8,8,8,8,8,8,8,8,8,8,8,8,8,8,8,8,8,8,8,8,8,8,8,8,8,8,8,8,8,8,8,8,8,8,8,8,8,8,8,8,8,8,8,8,8,8,8,8,8,8,8,8,8,8,8,8,8,8,8,8,8,8,8,8,8,8,8,8,8,8,8,8,8,8,8,8,8,8,8,8,8,8,8,8,8,8,8,8,8,8,8,8]⟩)) (U 15)),
 ad 4 17 (.ct .i64 (U 16)),
 ad 5 18 (.bin .add 3 (U 13) (U 17)),
 af 6 2 18])
 .ret))))
def YA:List a2:=[.ap (U 2)]
theorem aen:bm Tryz.prog 134=some Pv:=by kernel_rfl
theorem amH:bn Tryz.prog 134=some YA:=by kernel_rfl
def Fe:aT:=(.seq (.ai [ad 0 2 (.ap (.const (.int .i64 0)))])
 (.seq (.seq (.ai [af 0 3 0,
 ad 1 4 (.bin .geq 27 (U 3) (.const (.int .u64 4294967296)))])
 (.cond (U 4) (.seq (.ai [af 0 5 0,
 ad 1 6 (.bin .shr 27 (U 5) (.const (.int .u64 32))),
 af 2 0 6])
 (.ai [ad 0 2 (.ap (.const (.int .i64 32)))])) .skip))
 (.seq (.seq (.ai [af 0 7 0,
 ad 1 8 (.bin .geq 27 (U 7) (.const (.int .u64 65536)))])
 (.cond (U 8) (.seq (.ai [af 0 9 0,
 ad 1 10 (.bin .shr 27 (U 9) (.const (.int .u64 16))),
 af 2 0 10])
 (.ai [af 0 11 2,
 ad 1 12 (.bin .add 3 (U 11) (.const (.int .i64 16))),
 af 2 2 12])) .skip))
 (.seq (.seq (.ai [af 0 13 0,
 ad 1 14 (.bin .geq 27 (U 13) (.const (.int .u64 256)))])
 (.cond (U 14) (.seq (.ai [af 0 15 0,
 ad 1 16 (.bin .shr 27 (U 15) (.const (.int .u64 8))),
 af 2 0 16])
 (.ai [af 0 17 2,
 ad 1 18 (.bin .add 3 (U 17) (.const (.int .i64 8))),
 af 2 2 18])) .skip))
 (.seq (.ai [af 0 19 2,
 af 1 20 0,
 ad 2 21 (.ct .u8 (U 20)),
 ad 3 22 (.pb (.const (.string ⟨#[0,1,2,2,3,3,3,3,4,4,4,4,4,4,4,4,5,5,5,5,5,5,5,5,5,5,5,5,5,5,5,5,6,6,6,6,6,6,6,6,6,6,6,6,6,6,6,6,6,6,6,6,6,6,6,6,6,6,6,6,6,6,6,6,7,7,7,7,7,7,7,7,7,7,7,7,7,7,7,7,7,7,7,7,7,7,7,7,7,7,7,7,7,7,7,7,7,7,7,7,7,7,7,7,7,7,7,7,7,7,7,7,7,7,7,7,7,7,7,7,7,7,7,7,7,7,7,7,8,8,8,8,8,8,8,8,8,8,8,8,8,8,8,8,8,8,8,8,8,8,8,8,8,8,8,8,8,8,8,8,8,8,8,8,8,8,8,8,8,8,8,8,8,8,8,8,8,8,8,8,8,8,8,8,8,8,8,8,8,8,8,8,8,8,8,8,8,8,8,8,8,8,8,8,8,8,8,8,8,8,8,8,8,8,8,8,8,8,8,8,8,8,8,8,8,8,8,8,8,8,8,8,8,8,8,8,8,8,8,8,8,8,8,8,8,8,8,8,8,8,8,8,8,8,8,8]⟩)) (U 21)),
 ad 4 23 (.ct .i64 (U 22)),
 ad 5 24 (.bin .add 3 (U 19) (U 23)),
 af 6 2 24])
 .ret)))))
def K4:List a2:=[.ap (U 2)]
theorem Pw:bm Tryz.prog 135=some Fe:=by kernel_rfl
theorem YB:bn Tryz.prog 135=some K4:=by kernel_rfl
def Ff:aT:=(.seq (.ai [ad 0 5 (.box (U 2)),
 ad 1 6 (.ap (.const (.bool false)))])
 (.seq (.seq (.ai [ad 0 9 (.aN 0 (U 5)),
 ad 1 10 (.ld1 (U 9)),
 sc 2 11 66 [(U 10)],
 ad 3 12 (.un .not (U 11)),
 af 4 13 12,
 aE 5 14 13 false (.aN 1 (U 5)),
 aE 6 15 13 false (.ld1 (U 14)),
 ⟨7,(some 16),(some ((some 13),false)),.cV 66 [(U 15)],[],false⟩,
 aE 8 17 13 false (.un .not (U 16)),
 ad 9 18 (.pick (U 13) (.const (.bool true)) (U 17))])
 (.cond (U 18) (.seq (.ai [ad 0 6 (.ap (.const (.bool false)))])
 .ret) .skip))
 (.seq (.ai [af 0 20 0,
 ad 1 21 (.aN 0 (U 5)),
 ad 2 22 (.ld1 (U 21)),
 ad 3 23 (.ct .u64 (U 22)),
 sc 4 24 175 [(U 20),(U 23)],
 sc 5 25 174 [(U 24)],
 af 6 19 25,
 ad 7 26 (.ext (U 19) 0),
 ad 8 27 (.ext (U 19) 1),
 af 9 7 26,
 af 10 8 27])
 (.seq (.gy [ad 0 28 (.aN 1 (U 5)),
 ad 1 29 (.ld1 (U 28)),
 af 3 31 7,
 af 5 33 0,
 af 6 34 1,
 ad 8 36 (.aN 0 (U 5)),
 ⟨9,(some 37),none,.cF (.ld1 (U 36)),[],true⟩,
 ⟨2,(some 30),none,.cV 105 [(U 29)],[9],false⟩,
 ⟨4,(some 32),none,.cV 176 [(U 30),(U 31)],[9],false⟩,
 ⟨7,(some 35),none,.cV 145 [(U 32),(U 33),(U 34)],[9],false⟩,
 ad 10 38 (.bin .eql 25 (U 35) (U 37)),
 af 11 6 38])
 .ret))))
def K5:List a2:=[.ap (U 6)]
theorem Px:bm Tryz.prog 136=some Ff:=by kernel_rfl
theorem YC:bn Tryz.prog 136=some K5:=by kernel_rfl
def Fg:aT:=(.seq (.ai [ad 0 2 (.ap (.const (.int .u64 0)))])
 (.seq (.seq (.ai [af 0 3 0,
 sc 1 4 177 [(U 3)],
 ad 2 5 (.bin .eql 5 (U 4) (.const (.int .u8 5)))])
 (.cond (U 5) (.seq (.ai [ad 0 2 (.ap (.const (.int .u64 9221120237041090560)))])
 .ret) .skip))
 (.seq (.ai [af 0 6 0,
 af 1 2 6])
 .ret)))
def K6:List a2:=[.ap (U 2)]
theorem Py:bm Tryz.prog 137=some Fg:=by kernel_rfl
theorem YD:bn Tryz.prog 137=some K6:=by kernel_rfl
def VY:aT:=(.seq (.seq (.ai [af 0 4 3,
 af 1 5 0,
 ad 2 6 (.len .str (U 5)),
 ad 3 7 (.bin .lss 3 (U 4) (U 6))])
 (.cond (U 7) .skip (.exit 0)))
 (.seq (.block 1 (.seq (.ai [af 0 10 0,
 af 1 11 3,
 ad 2 12 (.pb (U 10) (U 11)),
 ad 3 13 (.bin .lss 5 (U 12) (.const (.int .u8 32))),
 af 4 14 13,
 aE 5 15 14 false (.ap (U 0)),
 aE 6 16 14 false (.ap (U 3)),
 aE 7 17 14 false (.pb (U 15) (U 16)),
 aE 8 18 14 false (.bin .gtr 5 (U 17) (.const (.int .u8 126))),
 ad 9 19 (.pick (U 14) (.const (.bool true)) (U 18))])
 (.cond (U 19) (.seq (.ai [ad 0 2 (.ap (.const (.bool false)))])
 .ret) .skip)))
 (.ai [af 0 8 3,
 ad 1 9 (.bin .add 3 (U 8) (.const (.int .i64 1))),
 af 2 3 9])))
def Fh:aT:=(.seq (.ai [ad 0 2 (.ap (.const (.bool false)))])
 (.seq (.seq (.ai [ad 0 3 (.ap (.const (.int .i64 0)))])
 (.block 0 (.loop VY)))
 (.seq (.ai [ad 0 2 (.ap (.const (.bool true)))])
 .ret)))
def K7:List a2:=[.ap (U 2)]
theorem Pz:bm Tryz.prog 138=some Fh:=by kernel_rfl
theorem YE:bn Tryz.prog 138=some K7:=by kernel_rfl
def VZ:aT:=(.seq (.seq (.ai [af 0 22 6,
 ad 1 23 (.bin .lss 3 (U 22) (.const (.int .i64 16)))])
 (.cond (U 23) .skip (.exit 0)))
 (.seq (.block 1 (.ai [af 0 26 5,
 af 1 27 1,
 af 2 28 6,
 ad 3 29 (.bin .mul 3 (.const (.int .i64 4)) (U 28)),
 ad 4 30 (.bf (.ao 1) (U 27) (U 29)),
 ad 5 31 (.ld1 (U 30)),
 ad 6 32 (.ct .u32 (U 31)),
 ad 7 33 (.bin .mul 25 (U 32) (.const (.int .u32 256))),
 af 8 34 1,
 af 9 35 6,
 ad 10 36 (.bin .mul 3 (.const (.int .i64 4)) (U 35)),
 ad 11 37 (.bin .add 3 (U 36) (.const (.int .i64 1))),
 ad 12 38 (.bf (.ao 1) (U 34) (U 37)),
 ad 13 39 (.ld1 (U 38)),
 ad 14 40 (.ct .u32 (U 39)),
 ad 15 41 (.bin .add 25 (U 33) (U 40)),
 ad 16 42 (.bin .mul 25 (U 41) (.const (.int .u32 256))),
 af 17 43 1,
 af 18 44 6,
 ad 19 45 (.bin .mul 3 (.const (.int .i64 4)) (U 44)),
 ad 20 46 (.bin .add 3 (U 45) (.const (.int .i64 2))),
 ad 21 47 (.bf (.ao 1) (U 43) (U 46)),
 ad 22 48 (.ld1 (U 47)),
 ad 23 49 (.ct .u32 (U 48)),
 ad 24 50 (.bin .add 25 (U 42) (U 49)),
 ad 25 51 (.bin .mul 25 (U 50) (.const (.int .u32 256))),
 af 26 52 1,
 af 27 53 6,
 ad 28 54 (.bin .mul 3 (.const (.int .i64 4)) (U 53)),
 ad 29 55 (.bin .add 3 (U 54) (.const (.int .i64 3))),
 ad 30 56 (.bf (.ao 1) (U 52) (U 55)),
 ad 31 57 (.ld1 (U 56)),
 ad 32 58 (.ct .u32 (U 57)),
 ad 33 59 (.bin .add 25 (U 51) (U 58)),
 ad 34 60 (.cL 1 [.int .u32 0] 1 [(0,(U 59))]),
 ad 35 61 (.app 1 4 (U 26) (U 60)),
 af 36 5 61]))
 (.ai [af 0 24 6,
 ad 1 25 (.bin .add 3 (U 24) (.const (.int .i64 1))),
 af 2 6 25])))
def V0:aT:=(.seq (.seq (.ai [af 0 62 7,
 ad 1 63 (.bin .lss 3 (U 62) (.const (.int .i64 64)))])
 (.cond (U 63) .skip (.exit 2)))
 (.seq (.block 3 (.seq (.ai [af 0 66 5,
 af 1 67 7,
 ad 2 68 (.bin .sub 3 (U 67) (.const (.int .i64 15))),
 ad 3 69 (.bf (.ao 1) (U 66) (U 68)),
 ad 4 70 (.ld1 (U 69)),
 af 5 71 5,
 af 6 72 7,
 ad 7 73 (.bin .sub 3 (U 72) (.const (.int .i64 2))),
 ad 8 74 (.bf (.ao 1) (U 71) (U 73)),
 ad 9 75 (.ld1 (U 74)),
 af 10 8 70,
 af 11 9 75])
 (.gy [af 0 76 5,
 af 1 77 5,
 af 2 78 7,
 ad 3 79 (.bin .sub 3 (U 78) (.const (.int .i64 16))),
 ad 4 80 (.bf (.ao 1) (U 77) (U 79)),
 ⟨5,(some 81),none,.cF (.ld1 (U 80)),[],true⟩,
 af 6 82 5,
 af 7 83 7,
 ad 8 84 (.bin .sub 3 (U 83) (.const (.int .i64 7))),
 ad 9 85 (.bf (.ao 1) (U 82) (U 84)),
 ⟨10,(some 86),none,.cF (.ld1 (U 85)),[],true⟩,
 ad 11 87 (.bin .add 25 (U 81) (U 86)),
 af 12 88 8,
 af 14 90 8,
 af 17 93 8,
 ad 18 94 (.bin .shr 25 (U 93) (.const (.int .u64 3))),
 af 21 97 9,
 af 23 99 9,
 af 26 102 9,
 ad 27 103 (.bin .shr 25 (U 102) (.const (.int .u64 10))),
 ⟨13,(some 89),none,.cV 178 [(U 88),(.const (.int .i64 7))],[10,5],false⟩,
 ⟨15,(some 91),none,.cV 178 [(U 90),(.const (.int .i64 18))],[10,5],false⟩,
 ad 16 92 (.bin .xor 25 (U 89) (U 91)),
 ad 19 95 (.bin .xor 25 (U 92) (U 94)),
 ad 20 96 (.bin .add 25 (U 87) (U 95)),
 ⟨22,(some 98),none,.cV 178 [(U 97),(.const (.int .i64 17))],[10,5],false⟩,
 ⟨24,(some 100),none,.cV 178 [(U 99),(.const (.int .i64 19))],[10,5],false⟩,
 ad 25 101 (.bin .xor 25 (U 98) (U 100)),
 ad 28 104 (.bin .xor 25 (U 101) (U 103)),
 ad 29 105 (.bin .add 25 (U 96) (U 104)),
 ad 30 106 (.cL 1 [.int .u32 0] 1 [(0,(U 105))]),
 ad 31 107 (.app 1 4 (U 76) (U 106)),
 af 32 5 107])))
 (.ai [af 0 64 7,
 ad 1 65 (.bin .add 3 (U 64) (.const (.int .i64 1))),
 af 2 7 65])))
def V1:aT:=(.seq (.seq (.ai [af 0 110 12,
 ad 1 111 (.bin .lss 3 (U 110) (.const (.int .i64 64)))])
 (.cond (U 111) .skip (.exit 4)))
 (.seq (.block 5 (.seq (.ai [ad 0 114 (.bf (.arr 8 1) (U 11) (.const (.int .i64 0))),
 ad 1 115 (.ld1 (U 114)),
 ad 2 116 (.bf (.arr 8 1) (U 11) (.const (.int .i64 1))),
 ad 3 117 (.ld1 (U 116)),
 ad 4 118 (.bf (.arr 8 1) (U 11) (.const (.int .i64 2))),
 ad 5 119 (.ld1 (U 118)),
 ad 6 120 (.bf (.arr 8 1) (U 11) (.const (.int .i64 4))),
 ad 7 121 (.ld1 (U 120)),
 ad 8 122 (.bf (.arr 8 1) (U 11) (.const (.int .i64 5))),
 ad 9 123 (.ld1 (U 122)),
 ad 10 124 (.bf (.arr 8 1) (U 11) (.const (.int .i64 6))),
 ad 11 125 (.ld1 (U 124)),
 af 12 13 115,
 af 13 14 117,
 af 14 15 119,
 af 15 16 121,
 af 16 17 123,
 af 17 18 125])
 (.seq (.gy [ad 0 126 (.bf (.arr 8 1) (U 11) (.const (.int .i64 7))),
 ⟨1,(some 127),none,.cF (.ld1 (U 126)),[],true⟩,
 af 2 128 16,
 af 4 130 16,
 af 7 133 16,
 af 11 137 16,
 af 12 138 17,
 ad 13 139 (.bin .and 25 (U 137) (U 138)),
 af 14 140 16,
 ad 15 141 (.un .xor (U 140)),
 af 16 142 18,
 ad 17 143 (.bin .and 25 (U 141) (U 142)),
 ad 18 144 (.bin .xor 25 (U 139) (U 143)),
 af 20 146 10,
 af 21 147 12,
 ad 22 148 (.bf (.ao 1) (U 146) (U 147)),
 ⟨23,(some 149),none,.cF (.ld1 (U 148)),[],true⟩,
 af 25 151 5,
 af 26 152 12,
 ad 27 153 (.bf (.ao 1) (U 151) (U 152)),
 ⟨28,(some 154),none,.cF (.ld1 (U 153)),[],true⟩,
 ⟨3,(some 129),none,.cV 178 [(U 128),(.const (.int .i64 6))],[28,23,1],false⟩,
 ⟨5,(some 131),none,.cV 178 [(U 130),(.const (.int .i64 11))],[28,23,1],false⟩,
 ad 6 132 (.bin .xor 25 (U 129) (U 131)),
 ⟨8,(some 134),none,.cV 178 [(U 133),(.const (.int .i64 25))],[28,23,1],false⟩,
 ad 9 135 (.bin .xor 25 (U 132) (U 134)),
 ad 10 136 (.bin .add 25 (U 127) (U 135)),
 ad 19 145 (.bin .add 25 (U 136) (U 144)),
 ad 24 150 (.bin .add 25 (U 145) (U 149)),
 ad 29 155 (.bin .add 25 (U 150) (U 154)),
 af 30 19 155])
 (.seq (.ai [af 0 156 13,
 sc 1 157 178 [(U 156),(.const (.int .i64 2))],
 af 2 158 13,
 sc 3 159 178 [(U 158),(.const (.int .i64 13))],
 ad 4 160 (.bin .xor 25 (U 157) (U 159)),
 af 5 161 13,
 sc 6 162 178 [(U 161),(.const (.int .i64 22))],
 ad 7 163 (.bin .xor 25 (U 160) (U 162)),
 af 8 164 13,
 af 9 165 14,
 ad 10 166 (.bin .and 25 (U 164) (U 165)),
 af 11 167 13,
 af 12 168 15,
 ad 13 169 (.bin .and 25 (U 167) (U 168)),
 ad 14 170 (.bin .xor 25 (U 166) (U 169)),
 af 15 171 14,
 af 16 172 15,
 ad 17 173 (.bin .and 25 (U 171) (U 172)),
 ad 18 174 (.bin .xor 25 (U 170) (U 173)),
 ad 19 175 (.bin .add 25 (U 163) (U 174)),
 af 20 20 175])
 (.ai [af 0 176 19,
 af 1 177 20,
 ad 2 178 (.bin .add 25 (U 176) (U 177)),
 af 3 179 13,
 af 4 180 14,
 af 5 181 15,
 ad 6 182 (.bf (.arr 8 1) (U 11) (.const (.int .i64 3))),
 ad 7 183 (.ld1 (U 182)),
 af 8 184 19,
 ad 9 185 (.bin .add 25 (U 183) (U 184)),
 af 10 186 16,
 af 11 187 17,
 af 12 188 18,
 ad 13 189 (.dW [.int .u32 0,.int .u32 0,.int .u32 0,.int .u32 0,.int .u32 0,.int .u32 0,.int .u32 0,.int .u32 0] [(0,1,(U 178)),(1,1,(U 179)),(2,1,(U 180)),(3,1,(U 181)),(4,1,(U 185)),(5,1,(U 186)),(6,1,(U 187)),(7,1,(U 188))]),
 bC 14 (.st 8 (U 11) (U 189))])))))
 (.ai [af 0 112 12,
 ad 1 113 (.bin .add 3 (U 112) (.const (.int .i64 1))),
 af 2 12 113])))
def V2:aT:=(.seq (.seq (.ai [af 0 190 21,
 ad 1 191 (.bin .lss 3 (U 190) (.const (.int .i64 8)))])
 (.cond (U 191) .skip (.exit 6)))
 (.seq (.block 7 (.ai [af 0 194 21,
 ad 1 195 (.bf (.arr 8 1) (U 2) (U 194)),
 ad 2 196 (.ld1 (U 195)),
 af 3 197 21,
 ad 4 198 (.bf (.arr 8 1) (U 11) (U 197)),
 ad 5 199 (.ld1 (U 198)),
 ad 6 200 (.bin .add 25 (U 196) (U 199)),
 ad 7 201 (.bf (.arr 8 1) (U 2) (U 194)),
 bC 8 (.st 1 (U 201) (U 200))]))
 (.ai [af 0 192 21,
 ad 1 193 (.bin .add 3 (U 192) (.const (.int .i64 1))),
 af 2 21 193])))
def Fi:aT:=(.seq (.ai [ad 0 2 (.box (U 0)),
 ad 1 4 (.alloc [.int .u32 0,.int .u32 0,.int .u32 0,.int .u32 0,.int .u32 0,.int .u32 0,.int .u32 0,.int .u32 0])])
 (.seq (.ai [ad 0 5 (.ap (.const (.slice none 0 0)))])
 (.seq (.seq (.ai [ad 0 6 (.ap (.const (.int .i64 0)))])
 (.block 0 (.loop VZ)))
 (.seq (.seq (.ai [ad 0 7 (.ap (.const (.int .i64 16)))])
 (.block 2 (.loop V0)))
 (.seq (.ai [sc 0 108 179 [],
 af 1 10 108])
 (.seq (.ai [ad 0 109 (.aX 8 (U 2)),
 ad 1 11 (.alloc [.int .u32 0,.int .u32 0,.int .u32 0,.int .u32 0,.int .u32 0,.int .u32 0,.int .u32 0,.int .u32 0]),
 bC 2 (.st 8 (U 11) (U 109))])
 (.seq (.seq (.ai [ad 0 12 (.ap (.const (.int .i64 0)))])
 (.block 4 (.loop V1)))
 (.seq (.seq (.ai [ad 0 21 (.ap (.const (.int .i64 0)))])
 (.block 6 (.loop V2)))
 (.seq (.ai [ad 0 202 (.aX 8 (U 2)),
 bC 1 (.st 8 (U 4) (U 202))])
 .ret)))))))))
def K8:List a2:=[.aX 8 (U 4)]
theorem PA:bm Tryz.prog 139=some Fi:=by kernel_rfl
theorem YF:bn Tryz.prog 139=some K8:=by kernel_rfl
def V3:aT:=(.seq (.seq (.ai [af 0 9 4,
 af 1 10 0,
 ad 2 11 (.len (.ao 32) (U 10)),
 ad 3 12 (.bin .lss 3 (U 9) (U 11))])
 (.cond (U 12) .skip (.exit 0)))
 (.seq (.block 1 (.ai [af 0 15 3,
 af 1 16 0,
 af 2 17 4,
 ad 3 18 (.bf (.ao 32) (U 16) (U 17)),
 ad 4 19 (.slice (.arr 32 1) (U 18) none none none),
 ad 5 20 (.app 1 1 (U 15) (U 19)),
 af 6 3 20]))
 (.ai [af 0 13 4,
 ad 1 14 (.bin .add 3 (U 13) (.const (.int .i64 1))),
 af 2 4 14])))
def Fj:aT:=(.seq (.ai [ad 0 2 (.ap (.const (.slice none 0 0)))])
 (.seq (.ai [af 0 5 0,
 ad 1 6 (.len (.ao 32) (U 5)),
 ad 2 7 (.ct .u64 (U 6)),
 sc 3 8 102 [(U 7)],
 af 4 3 8])
 (.seq (.seq (.ai [ad 0 4 (.ap (.const (.int .i64 0)))])
 (.block 0 (.loop V3)))
 (.seq (.ai [af 0 21 3,
 af 1 2 21])
 .ret))))
def K9:List a2:=[.ap (U 2)]
theorem PC:bm Tryz.prog 140=some Fj:=by kernel_rfl
theorem YH:bn Tryz.prog 140=some K9:=by kernel_rfl
def Fk:aT:=(.seq (.ai [ad 0 2 (.ap (.const (.slice none 0 0)))])
 (.seq (.ai [af 0 3 0,
 ad 1 4 (.len (.ao 1) (U 3)),
 ad 2 5 (.ct .u64 (U 4)),
 sc 3 6 102 [(U 5)],
 af 4 7 0,
 ad 5 8 (.app 1 1 (U 6) (U 7)),
 af 6 2 8])
 .ret))
def La:List a2:=[.ap (U 2)]
theorem PD:bm Tryz.prog 141=some Fk:=by kernel_rfl
theorem YI:bn Tryz.prog 141=some La:=by kernel_rfl
def V4:aT:=(.seq (.seq (.ai [af 0 19 4,
 ad 1 20 (.bin .geq 3 (U 19) (.const (.int .i64 0)))])
 (.cond (U 20) .skip (.exit 1)))
 (.seq (.block 2 (.ai [af 0 23 3,
 ad 1 24 (.aN 2 (U 1)),
 ad 2 25 (.ld1 (U 24)),
 af 3 26 4,
 ad 4 27 (.bin .mul 3 (.const (.int .i64 8)) (U 26)),
 ad 5 28 (.bin .shr 27 (U 25) (U 27)),
 ad 6 29 (.ct .u8 (U 28)),
 ad 7 30 (.cL 1 [.int .u8 0] 1 [(0,(U 29))]),
 ad 8 31 (.app 1 1 (U 23) (U 30)),
 af 9 3 31]))
 (.ai [af 0 21 4,
 ad 1 22 (.bin .sub 3 (U 21) (.const (.int .i64 1))),
 af 2 4 22])))
def Fl:aT:=(.seq (.ai [ad 0 1 (.box (U 0)),
 ad 1 2 (.ap (.const (.slice none 0 0)))])
 (.seq (.ai [ad 0 5 (.aN 0 (U 1)),
 ad 1 6 (.ld1 (U 5)),
 ad 2 7 (.cL 1 [.int .u8 0] 1 [(0,(U 6))]),
 af 3 3 7])
 (.seq (.seq (.ai [ad 0 8 (.aN 0 (U 1)),
 ad 1 9 (.ld1 (U 8))])
 (.block 0 (.seq (.ai [ad 0 11 (.bin .eql 5 (U 9) (.const (.int .u8 1))),
 af 1 10 11])
 (.cond (U 10) (.seq (.ai [af 0 12 3,
 ad 1 13 (.aN 1 (U 1)),
 ad 2 14 (.ld1 (U 13)),
 sc 3 15 180 [(U 14)],
 ad 4 16 (.app 1 1 (U 12) (U 15)),
 af 5 2 16])
 .ret) (.seq (.ai [ad 0 18 (.bin .eql 5 (U 9) (.const (.int .u8 2))),
 af 1 17 18])
 (.cond (U 17) (.seq (.seq (.ai [ad 0 4 (.ap (.const (.int .i64 7)))])
 (.block 1 (.loop V4)))
 (.seq (.ai [af 0 32 3,
 af 1 2 32])
 .ret)) .skip))))))
 (.seq (.ai [af 0 33 3,
 ad 1 34 (.aN 3 (U 1)),
 ad 2 35 (.ld1 (U 34)),
 ad 3 36 (.pY (U 35)),
 sc 4 37 141 [(U 36)],
 ad 5 38 (.app 1 1 (U 33) (U 37)),
 af 6 2 38])
 .ret))))
def Lb:List a2:=[.ap (U 2)]
theorem PE:bm Tryz.prog 142=some Fl:=by kernel_rfl
theorem YJ:bn Tryz.prog 142=some Lb:=by kernel_rfl
def Fm:aT:=(.seq (.ai [ad 0 2 (.ap (.const (.int .u32 0)))])
 (.seq (.ai [af 0 3 0,
 sc 1 4 175 [(.const (.int .u32 4)),(U 3)],
 af 2 2 4])
 .ret))
def Lc:List a2:=[.ap (U 2)]
theorem PF:bm Tryz.prog 143=some Fm:=by kernel_rfl
theorem YK:bn Tryz.prog 143=some Lc:=by kernel_rfl
def PG:aT:=(.seq (.ai [ad 0 4 (.ap (.const (.int .u32 0)))])
 (.seq (.ai [ad 0 6 (.cL 1 [.int .u8 0] 1 [(0,(.const (.int .u8 110)))]),
 af 1 7 0,
 sc 2 8 181 [(U 7)],
 ad 3 9 (.app 1 1 (U 6) (U 8)),
 af 4 5 9])
 (.seq (.ai [af 0 10 5,
 af 1 11 1,
 ad 2 12 (.app 1 1 (U 10) (U 11)),
 sc 3 13 182 [(U 12)],
 ad 4 14 (.bin .rem 27 (U 13) (.const (.int .u64 500000002))),
 ad 5 15 (.ct .u32 (U 14)),
 ad 6 16 (.bin .add 25 (U 15) (.const (.int .u32 1))),
 af 7 4 16])
 .ret)))
def YL:List a2:=[.ap (U 4)]
theorem aeo:bm Tryz.prog 144=some PG:=by kernel_rfl
theorem amI:bn Tryz.prog 144=some YL:=by kernel_rfl
def Fo:aT:=(.seq (.ai [ad 0 6 (.ap (.const (.int .u32 0)))])
 (.seq (.ai [ad 0 8 (.cL 1 [.int .u8 0] 1 [(0,(.const (.int .u8 99)))]),
 af 1 9 0,
 sc 2 10 181 [(U 9)],
 ad 3 11 (.app 1 1 (U 8) (U 10)),
 af 4 12 1,
 sc 5 13 181 [(U 12)],
 ad 6 14 (.app 1 1 (U 11) (U 13)),
 af 7 7 14])
 (.seq (.ai [af 0 15 7,
 af 1 16 2,
 ad 2 17 (.app 1 1 (U 15) (U 16)),
 sc 3 18 182 [(U 17)],
 ad 4 19 (.bin .rem 27 (U 18) (.const (.int .u64 500000003))),
 ad 5 20 (.ct .u32 (U 19)),
 af 6 6 20])
 .ret)))
def Ld:List a2:=[.ap (U 6)]
theorem PH:bm Tryz.prog 145=some Fo:=by kernel_rfl
theorem YM:bn Tryz.prog 145=some Ld:=by kernel_rfl
def PI:aT:=(.seq (.ai [ad 0 4 (.ap (.const (.int .u32 0)))])
 (.seq (.ai [af 0 5 0,
 ad 1 6 (.ct .u64 (U 5)),
 af 2 7 1,
 ad 3 8 (.ct .u64 (U 7)),
 ad 4 9 (.bin .add 27 (U 6) (U 8)),
 ad 5 10 (.bin .rem 27 (U 9) (.const (.int .u64 500000003))),
 ad 6 11 (.ct .u32 (U 10)),
 af 7 4 11])
 .ret))
def YN:List a2:=[.ap (U 4)]
theorem aep:bm Tryz.prog 146=some PI:=by kernel_rfl
theorem amJ:bn Tryz.prog 146=some YN:=by kernel_rfl
def PJ:aT:=(.seq (.ai [ad 0 4 (.ap (.const (.int .u32 0)))])
 (.seq (.ai [af 0 5 0,
 ad 1 6 (.ct .u64 (U 5)),
 af 2 7 1,
 ad 3 8 (.ct .u64 (U 7)),
 ad 4 9 (.bin .mul 27 (U 6) (U 8)),
 ad 5 10 (.bin .rem 27 (U 9) (.const (.int .u64 500000003))),
 ad 6 11 (.ct .u32 (U 10)),
 af 7 4 11])
 .ret))
def YO:List a2:=[.ap (U 4)]
theorem aeq:bm Tryz.prog 147=some PJ:=by kernel_rfl
theorem amK:bn Tryz.prog 147=some YO:=by kernel_rfl
def V5:aT:=(.seq (.seq (.ai [af 0 9 5,
 ad 1 10 (.bin .gtr 3 (U 9) (.const (.int .i64 0)))])
 (.cond (U 10) .skip (.exit 0)))
 (.seq (.block 1 (.seq (.ai [af 0 13 1,
 af 1 14 0,
 af 2 15 5,
 ad 3 16 (.bf (.ao 32) (U 14) (U 15)),
 ad 4 17 (.aX 32 (U 16)),
 af 5 18 0,
 af 6 19 5,
 ad 7 20 (.bin .sub 3 (U 19) (.const (.int .i64 1))),
 ad 8 21 (.bf (.ao 32) (U 18) (U 20)),
 ad 9 22 (.aX 32 (U 21)),
 ⟨10,(some 23),none,.gw (U 13) [(U 17),(U 22)],[],false⟩,
 ad 11 24 (.bin .lss 3 (U 23) (.const (.int .i64 0)))])
 (.cond (U 24) (.seq (.ai [ad 0 4 (.ap (.const (.bool false)))])
 .ret) .skip)))
 (.ai [af 0 11 5,
 ad 1 12 (.bin .sub 3 (U 11) (.const (.int .i64 1))),
 af 2 5 12])))
def Fp:aT:=(.seq (.ai [ad 0 4 (.ap (.const (.bool false)))])
 (.seq (.seq (.ai [af 0 6 0,
 ad 1 7 (.len (.ao 32) (U 6)),
 ad 2 8 (.bin .sub 3 (U 7) (.const (.int .i64 1))),
 af 3 5 8])
 (.block 0 (.loop V5)))
 (.seq (.ai [ad 0 4 (.ap (.const (.bool true)))])
 .ret)))
def Le:List a2:=[.ap (U 4)]
theorem PK:bm Tryz.prog 148=some Fp:=by kernel_rfl
theorem YP:bn Tryz.prog 148=some Le:=by kernel_rfl
def V6:aT:=(.seq (.seq (.ai [af 0 29 5,
 af 1 30 4,
 ad 2 31 (.len (.ao 32) (U 30)),
 ad 3 32 (.bin .lss 3 (U 29) (U 31))])
 (.cond (U 32) .skip (.exit 2)))
 (.seq (.block 3 (.seq (.ai [af 0 35 4,
 af 1 36 5,
 ad 2 37 (.bf (.ao 32) (U 35) (U 36)),
 ad 3 38 (.aX 32 (U 37)),
 af 4 39 4,
 af 5 40 5,
 ad 6 41 (.bin .sub 3 (U 40) (.const (.int .i64 1))),
 ad 7 42 (.bf (.ao 32) (U 39) (U 41)),
 ad 8 43 (.aX 32 (U 42)),
 ad 9 44 (.bin .neq 71 (U 38) (U 43))])
 (.cond (U 44) (.seq (.ai [af 0 45 0,
 af 1 46 3,
 af 2 47 4,
 af 3 48 5,
 ad 4 49 (.bf (.ao 32) (U 47) (U 48)),
 ad 5 50 (.aX 32 (U 49)),
 ad 6 51 (.bf (.ao 32) (U 45) (U 46)),
 bC 7 (.st 32 (U 51) (U 50))])
 (.ai [af 0 52 3,
 ad 1 53 (.bin .add 3 (U 52) (.const (.int .i64 1))),
 af 2 3 53])) .skip)))
 (.ai [af 0 33 5,
 ad 1 34 (.bin .add 3 (U 33) (.const (.int .i64 1))),
 af 2 5 34])))
def V7:aT:=(.seq (.seq (.ai [af 0 10 3,
 af 1 11 0,
 ad 2 12 (.len (.ao 32) (U 11)),
 ad 3 13 (.bin .lss 3 (U 10) (U 12))])
 (.cond (U 13) .skip (.exit 0)))
 (.seq (.block 1 (.seq (.ai [af 0 16 0,
 af 1 17 3,
 ad 2 18 (.bf (.ao 32) (U 16) (U 17)),
 ad 3 19 (.aX 32 (U 18)),
 af 4 20 0,
 af 5 21 3,
 ad 6 22 (.bin .sub 3 (U 21) (.const (.int .i64 1))),
 ad 7 23 (.bf (.ao 32) (U 20) (U 22)),
 ad 8 24 (.aX 32 (U 23)),
 ad 9 25 (.bin .eql 71 (U 19) (U 24))])
 (.cond (U 25) (.seq (.ai [af 0 26 0,
 af 1 27 3,
 ad 2 28 (.slice (.ao 32) (U 26) (some (U 27)) none none),
 af 3 4 28])
 (.seq (.seq (.ai [ad 0 5 (.ap (.const (.int .i64 1)))])
 (.block 2 (.loop V6)))
 (.seq (.ai [af 0 54 0,
 af 1 55 3,
 ad 2 56 (.slice (.ao 32) (U 54) (some (U 55)) none none),
 bC 3 (.oH (rep 32 (.int .u8 0)) (U 56))])
 (.seq (.ai [af 0 57 0,
 af 1 58 3,
 ad 2 59 (.slice (.ao 32) (U 57) none (some (U 58)) none),
 af 3 2 59])
 .ret)))) .skip)))
 (.ai [af 0 14 3,
 ad 1 15 (.bin .add 3 (U 14) (.const (.int .i64 1))),
 af 2 3 15])))
def Fq:aT:=(.seq (.ai [ad 0 2 (.ap (.const (.slice none 0 0)))])
 (.seq (.seq (.ai [af 0 6 0,
 ad 1 7 (.len (.ao 32) (U 6)),
 ad 2 8 (.bin .lss 3 (U 7) (.const (.int .i64 2)))])
 (.cond (U 8) (.seq (.ai [af 0 9 0,
 af 1 2 9])
 .ret) .skip))
 (.seq (.seq (.ai [ad 0 3 (.ap (.const (.int .i64 1)))])
 (.block 0 (.loop V7)))
 (.seq (.ai [af 0 60 0,
 af 1 2 60])
 .ret))))
def Lf:List a2:=[.ap (U 2)]
theorem PL:bm Tryz.prog 149=some Fq:=by kernel_rfl
theorem YQ:bn Tryz.prog 149=some Lf:=by kernel_rfl
def Fr:aT:=(.seq (.ai [ad 0 2 (.ap (.const (.slice none 0 0)))])
 (.seq (.seq (.ai [af 0 3 0,
 ad 1 4 (.bin .eql 26 (U 3) (.const (.slice none 0 0)))])
 (.cond (U 4) (.seq (.ai [ad 0 2 (.ap (.const (.slice none 0 0)))])
 .ret) .skip))
 (.seq (.ai [ad 0 5 (.cL 32 (rep 32 (.int .u8 0)) 0 []),
 af 1 6 0,
 ad 2 7 (.app 32 32 (U 5) (U 6)),
 af 3 2 7])
 .ret)))
def Lh:List a2:=[.ap (U 2)]
theorem PM:bm Tryz.prog 150=some Fr:=by kernel_rfl
theorem YR:bn Tryz.prog 150=some Lh:=by kernel_rfl
def Fs:aT:=(.seq (.ai [ad 0 2 (.ap (.const (.bool false)))])
 (.seq (.ai [af 0 3 0,
 ad 1 4 (.bin .gtr 25 (U 3) (.const (.int .u32 0))),
 af 2 5 4,
 aE 3 6 5 true (.ap (U 0)),
 aE 4 7 5 true (.bin .lss 25 (U 6) (.const (.int .u32 1000000007))),
 ad 5 8 (.pick (U 5) (U 7) (.const (.bool false))),
 af 6 9 8,
 aE 7 10 9 true (.ap (U 0)),
 ⟨8,(some 11),(some ((some 9),true)),.cV 183 [(U 10),(.const (.int .u64 500000003))],[],false⟩,
 aE 9 12 9 true (.bin .eql 25 (U 11) (.const (.int .u32 1))),
 ad 10 13 (.pick (U 9) (U 12) (.const (.bool false))),
 af 11 2 13])
 .ret))
def Li:List a2:=[.ap (U 2)]
theorem PN:bm Tryz.prog 151=some Fs:=by kernel_rfl
theorem YS:bn Tryz.prog 151=some Li:=by kernel_rfl
def V8:aT:=(.seq (.ai [ad 0 20 (.bin .lss 3 (U 19) (U 18))])
 (.seq (.cond (U 20) .skip (.exit 0))
 (.seq (.block 1 (.seq (.ai [ad 0 21 (.bf (.ao 32) (U 17) (U 19)),
 ad 1 22 (.aX 32 (U 21)),
 ad 2 6 (.alloc (rep 32 (.int .u8 0))),
 bC 3 (.st 32 (U 6) (U 22))])
 (.ai [af 0 23 4,
 ad 1 24 (.slice (.arr 32 1) (U 6) none none none),
 ad 2 25 (.app 1 1 (U 23) (U 24)),
 af 3 4 25])))
 (.ai [ad 0 26 (.bin .add 3 (U 19) (.const (.int .i64 1))),
 af 1 19 26]))))
def Ft:aT:=(.seq (.ai [ad 0 2 (.ap (.const (.slice none 0 0))),
 ad 1 3 (.ap (.const (.int .i64 0)))])
 (.seq (.seq (.ai [af 0 7 0,
 ad 1 8 (.len (.ao 32) (U 7)),
 ad 2 9 (.bin .gtr 3 (U 8) (.const (.int .i64 60)))])
 (.cond (U 9) (.seq (.ai [ad 0 2 (.ap (.const (.slice none 0 0))),
 ad 1 3 (.ap (.const (.int .i64 4)))])
 .ret) .skip))
 (.seq (.seq (.ai [af 0 10 0,
 sc 1 11 184 [(U 10)],
 ad 2 12 (.un .not (U 11))])
 (.cond (U 12) (.seq (.ai [ad 0 2 (.ap (.const (.slice none 0 0))),
 ad 1 3 (.ap (.const (.int .i64 32)))])
 .ret) .skip))
 (.seq (.ai [af 0 13 0,
 ad 1 14 (.len (.ao 32) (U 13)),
 ad 2 15 (.ct .u64 (U 14)),
 sc 3 16 110 [(U 15)],
 af 4 4 16])
 (.seq (.seq (.ai [af 0 17 0,
 ad 1 18 (.len (.ao 32) (U 17)),
 ad 2 19 (.ap (.const (.int .i64 0)))])
 (.block 0 (.loop V8)))
 (.seq (.ai [af 0 27 4,
 af 1 2 27,
 ad 2 3 (.ap (.const (.int .i64 0)))])
 .ret))))))
def Lj:List a2:=[.ap (U 2),.ap (U 3)]
theorem PO:bm Tryz.prog 152=some Ft:=by kernel_rfl
theorem YT:bn Tryz.prog 152=some Lj:=by kernel_rfl
def Fu:aT:=(.seq (.ai [ad 0 2 (.ap (.const (.slice none 0 0))),
 ad 1 3 (.ap (.const (.int .i64 0)))])
 (.seq (.seq (.ai [af 0 4 0,
 ad 1 5 (.len (.ao 1) (U 4)),
 ad 2 6 (.bin .gtr 3 (U 5) (.const (.int .i64 10000)))])
 (.cond (U 6) (.seq (.ai [ad 0 2 (.ap (.const (.slice none 0 0))),
 ad 1 3 (.ap (.const (.int .i64 4)))])
 .ret) .skip))
 (.seq (.ai [af 0 7 0,
 ad 1 8 (.len (.ao 1) (U 7)),
 ad 2 9 (.ct .u64 (U 8)),
 sc 3 10 110 [(U 9)],
 af 4 11 0,
 ad 5 12 (.app 1 1 (U 10) (U 11)),
 af 6 2 12,
 ad 7 3 (.ap (.const (.int .i64 0)))])
 .ret)))
def Lk:List a2:=[.ap (U 2),.ap (U 3)]
theorem PP:bm Tryz.prog 153=some Fu:=by kernel_rfl
theorem YU:bn Tryz.prog 153=some Lk:=by kernel_rfl
def V9:aT:=(.seq (.seq (.ai [af 0 28 6,
 ad 1 29 (.bin .geq 3 (U 28) (.const (.int .i64 0)))])
 (.cond (U 29) .skip (.exit 1)))
 (.seq (.block 2 (.ai [af 0 32 5,
 ad 1 33 (.aN 2 (U 1)),
 ad 2 34 (.ld1 (U 33)),
 af 3 35 6,
 ad 4 36 (.bin .shr 27 (U 34) (U 35)),
 ad 5 37 (.ct .u8 (U 36)),
 ad 6 38 (.cL 1 [.int .u8 0] 1 [(0,(U 37))]),
 ad 7 39 (.app 1 1 (U 32) (U 38)),
 af 8 5 39]))
 (.ai [af 0 30 6,
 ad 1 31 (.bin .sub 3 (U 30) (.const (.int .i64 8))),
 af 2 6 31])))
def Fv:aT:=(.seq (.ai [ad 0 1 (.box (U 0)),
 ad 1 2 (.ap (.const (.slice none 0 0))),
 ad 2 3 (.ap (.const (.int .i64 0)))])
 (.seq (.seq (.ai [ad 0 9 (.aX 4 (U 1)),
 sc 1 10 83 [(U 9)],
 af 2 4 10])
 (.seq (.ai [af 0 11 4,
 ad 1 12 (.bin .neq 38 (U 11) (.const (.int .i64 0)))])
 (.cond (U 12) (.seq (.ai [af 0 13 4,
 ad 1 2 (.ap (.const (.slice none 0 0))),
 af 2 3 13])
 .ret) .skip)))
 (.seq (.ai [ad 0 14 (.aN 0 (U 1)),
 ad 1 15 (.ld1 (U 14)),
 ad 2 16 (.cL 1 [.int .u8 0] 1 [(0,(U 15))]),
 af 3 5 16])
 (.seq (.seq (.ai [ad 0 17 (.aN 0 (U 1)),
 ad 1 18 (.ld1 (U 17))])
 (.block 0 (.seq (.ai [ad 0 20 (.bin .eql 5 (U 18) (.const (.int .u8 1))),
 af 1 19 20])
 (.cond (U 19) (.ai [af 0 21 5,
 ad 1 22 (.aN 1 (U 1)),
 ad 2 23 (.ld1 (U 22)),
 sc 3 24 185 [(U 23)],
 ad 4 25 (.app 1 1 (U 21) (U 24)),
 af 5 5 25]) (.seq (.ai [ad 0 27 (.bin .eql 5 (U 18) (.const (.int .u8 2))),
 af 1 26 27])
 (.cond (U 26) (.seq (.ai [ad 0 6 (.ap (.const (.int .i64 56)))])
 (.block 1 (.loop V9))) (.seq (.ai [ad 0 41 (.bin .eql 5 (U 18) (.const (.int .u8 3))),
 af 1 40 41])
 (.cond (U 40) (.seq (.ai [ad 0 43 (.aN 3 (U 1)),
 ad 1 44 (.ld1 (U 43)),
 ad 2 45 (.pY (U 44)),
 sc 3 46 153 [(U 45)],
 af 4 42 46,
 ad 5 47 (.ext (U 42) 0),
 ad 6 48 (.ext (U 42) 1),
 af 7 7 47,
 af 8 8 48])
 (.ai [af 0 49 5,
 af 1 50 7,
 ad 2 51 (.app 1 1 (U 49) (U 50)),
 af 3 5 51])) .skip))))))))
 (.seq (.ai [af 0 52 5,
 af 1 2 52,
 ad 2 3 (.ap (.const (.int .i64 0)))])
 .ret)))))
def Ll:List a2:=[.ap (U 2),.ap (U 3)]
theorem PQ:bm Tryz.prog 154=some Fv:=by kernel_rfl
theorem YV:bn Tryz.prog 154=some Ll:=by kernel_rfl
def Be:aT:=(.seq (.ai [ad 0 4 (.ap (.const (.slice none 0 0)))])
 (.seq (.seq (.ai [af 0 5 1,
 ad 1 6 (.bin .lss 3 (U 5) (.const (.int .i64 0)))])
 (.cond (U 6) (.ai [ad 0 7 (.se 9 (.const (.string ⟨#[99,97,110,110,111,116,32,98,101,32,110,101,103,97,116,105,118,101]⟩))),
 bC 1 (.stop)]) .skip))
 (.seq (.seq (.ai [af 0 8 1,
 af 1 9 0,
 ad 2 10 (.cap (.ao 1) (U 9)),
 af 3 11 0,
 ad 4 12 (.len (.ao 1) (U 11)),
 ad 5 13 (.bin .sub 3 (U 10) (U 12)),
 ad 6 14 (.bin .sub 3 (U 8) (U 13)),
 af 7 1 14])
 (.seq (.ai [af 0 15 1,
 ad 1 16 (.bin .gtr 3 (U 15) (.const (.int .i64 0)))])
 (.cond (U 16) (.ai [af 0 17 0,
 af 1 18 0,
 ad 2 19 (.cap (.ao 1) (U 18)),
 ad 3 20 (.slice (.ao 1) (U 17) none (some (U 19)) none),
 af 4 21 1,
 ad 5 22 (.pQ 1 1 [.int .u8 0] (U 20) (U 21)),
 af 6 23 0,
 ad 7 24 (.len (.ao 1) (U 23)),
 ad 8 25 (.slice (.ao 1) (U 22) none (some (U 24)) none),
 af 9 0 25]) .skip)))
 (.seq (.ai [af 0 26 0,
 af 1 4 26])
 .ret))))
def DB:List a2:=[.ap (U 4)]
theorem Fw:bm Tryz.prog 155=some Be:=by kernel_rfl
theorem Lm:bn Tryz.prog 155=some DB:=by kernel_rfl
def Fx:aT:=(.seq (.ai [ad 0 4 (.ap (.const (.bool false)))])
 (.seq (.ai [af 0 5 0,
 af 1 6 1,
 sc 2 7 186 [(U 5),(U 6)],
 ad 3 8 (.bin .geq 3 (U 7) (.const (.int .i64 0))),
 af 4 4 8])
 .ret))
def Ln:List a2:=[.ap (U 4)]
theorem PR:bm Tryz.prog 156=some Fx:=by kernel_rfl
theorem YW:bn Tryz.prog 156=some Ln:=by kernel_rfl
def Fy:aT:=(.seq (.ai [ad 0 2 (.ap (.const (.bool false)))])
 (.seq (.ai [af 0 3 0,
 ad 1 4 (.len (.ao 1) (U 3)),
 ad 2 5 (.bin .gtr 3 (U 4) (.const (.int .i64 10000))),
 af 3 2 5])
 .ret))
def Lo:List a2:=[.ap (U 2)]
theorem PS:bm Tryz.prog 157=some Fy:=by kernel_rfl
theorem YX:bn Tryz.prog 157=some Lo:=by kernel_rfl
def Fz:aT:=(.seq (.ai [ad 0 0 (.alloc [.int .u32 0,.int .u32 0,.int .u32 0,.int .u32 0,.int .u32 0,.int .u32 0,.int .u32 0,.int .u32 0,.aZ,.int .i64 0])])
 (.seq (.ai [ad 0 1 (.dW [.int .u32 0,.int .u32 0,.int .u32 0,.int .u32 0,.int .u32 0,.int .u32 0,.int .u32 0,.int .u32 0] [(0,1,(.const (.int .u32 1779033703))),(1,1,(.const (.int .u32 3144134277))),(2,1,(.const (.int .u32 1013904242))),(3,1,(.const (.int .u32 2773480762))),(4,1,(.const (.int .u32 1359893119))),(5,1,(.const (.int .u32 2600822924))),(6,1,(.const (.int .u32 528734635))),(7,1,(.const (.int .u32 1541459225)))]),
 ad 1 2 (.dW [.int .u32 0,.int .u32 0,.int .u32 0,.int .u32 0,.int .u32 0,.int .u32 0,.int .u32 0,.int .u32 0,.aZ,.int .i64 0] [(0,8,(U 1))]),
 bC 2 (.st 10 (U 0) (U 2))])
 .ret))
def Lp:List a2:=[.aX 10 (U 0)]
theorem PT:bm Tryz.prog 158=some Fz:=by kernel_rfl
theorem YY:bn Tryz.prog 158=some Lp:=by kernel_rfl
def Wa:aT:=(.seq (.seq (.ai [af 0 11 5,
 ad 1 12 (.len (.ao 1) (U 11)),
 ad 2 13 (.bin .geq 3 (U 12) (.const (.int .i64 64)))])
 (.cond (U 13) .skip (.exit 0)))
 (.block 1 (.seq (.ai [ad 0 14 (.aN 0 (U 2)),
 af 1 15 5,
 sc 2 16 187 [(U 14),(U 15)]])
 (.ai [af 0 17 5,
 ad 1 18 (.slice (.ao 1) (U 17) (some (.const (.int .i64 64))) none none),
 af 2 5 18]))))
def FA:aT:=(.seq (.ai [ad 0 2 (.box (U 0)),
 ad 1 4 (.alloc [.int .u32 0,.int .u32 0,.int .u32 0,.int .u32 0,.int .u32 0,.int .u32 0,.int .u32 0,.int .u32 0,.aZ,.int .i64 0])])
 (.seq (.ai [ad 0 6 (.aN 8 (U 2)),
 ad 1 7 (.ld1 (U 6)),
 af 2 8 1,
 ad 3 9 (.cL 1 [.aZ] 2 [(0,(U 7)),(1,(U 8))]),
 sc 4 10 109 [(U 9)],
 af 5 5 10])
 (.seq (.block 0 (.loop Wa))
 (.seq (.gy [ad 0 19 (.aN 9 (U 2)),
 ⟨1,(some 20),none,.cF (.ld1 (U 19)),[],true⟩,
 af 2 21 1,
 ad 3 22 (.len (.ao 1) (U 21)),
 ad 4 23 (.bin .add 3 (U 20) (U 22)),
 af 5 24 5,
 ⟨6,(some 25),none,.cV 188 [(U 24)],[1],false⟩,
 ad 7 26 (.aN 9 (U 2)),
 bC 8 (.st 1 (U 26) (U 23)),
 ad 9 27 (.aN 8 (U 2)),
 bC 10 (.st 1 (U 27) (U 25))])
 (.seq (.ai [ad 0 28 (.aX 10 (U 2)),
 bC 1 (.st 10 (U 4) (U 28))])
 .ret)))))
def Lq:List a2:=[.aX 10 (U 4)]
theorem PU:bm Tryz.prog 159=some FA:=by kernel_rfl
theorem YZ:bn Tryz.prog 159=some Lq:=by kernel_rfl
def Wc:aT:=(.seq (.seq (.ai [af 0 19 5,
 ad 1 20 (.bin .geq 3 (U 19) (.const (.int .i64 0)))])
 (.cond (U 20) .skip (.exit 0)))
 (.seq (.block 1 (.ai [af 0 23 4,
 af 1 24 3,
 af 2 25 5,
 ad 3 26 (.bin .shr 27 (U 24) (U 25)),
 ad 4 27 (.ct .u8 (U 26)),
 ad 5 28 (.cL 1 [.int .u8 0] 1 [(0,(U 27))]),
 ad 6 29 (.app 1 1 (U 23) (U 28)),
 af 7 4 29]))
 (.ai [af 0 21 5,
 ad 1 22 (.bin .sub 3 (U 21) (.const (.int .i64 8))),
 af 2 5 22])))
def Wd:aT:=(.seq (.ai [ad 0 35 (.bin .lss 3 (U 34) (.const (.int .i64 8)))])
 (.seq (.cond (U 35) .skip (.exit 2))
 (.seq (.block 3 (.seq (.ai [af 0 36 34,
 ad 1 37 (.vt 8 1 (U 33) (U 34)),
 af 2 6 36,
 af 3 7 37])
 (.ai [af 0 38 6,
 ad 1 39 (.bin .mul 3 (.const (.int .i64 4)) (U 38)),
 af 2 40 6,
 ad 3 41 (.bin .mul 3 (.const (.int .i64 4)) (U 40)),
 ad 4 42 (.bin .add 3 (U 41) (.const (.int .i64 1))),
 af 5 43 6,
 ad 6 44 (.bin .mul 3 (.const (.int .i64 4)) (U 43)),
 ad 7 45 (.bin .add 3 (U 44) (.const (.int .i64 2))),
 af 8 46 6,
 ad 9 47 (.bin .mul 3 (.const (.int .i64 4)) (U 46)),
 ad 10 48 (.bin .add 3 (U 47) (.const (.int .i64 3))),
 af 11 49 7,
 ad 12 50 (.bin .shr 25 (U 49) (.const (.int .u64 24))),
 ad 13 51 (.ct .u8 (U 50)),
 af 14 52 7,
 ad 15 53 (.bin .shr 25 (U 52) (.const (.int .u64 16))),
 ad 16 54 (.ct .u8 (U 53)),
 af 17 55 7,
 ad 18 56 (.bin .shr 25 (U 55) (.const (.int .u64 8))),
 ad 19 57 (.ct .u8 (U 56)),
 af 20 58 7,
 ad 21 59 (.ct .u8 (U 58)),
 ad 22 60 (.bf (.arr 32 1) (U 2) (U 39)),
 bC 23 (.st 1 (U 60) (U 51)),
 ad 24 61 (.bf (.arr 32 1) (U 2) (U 42)),
 bC 25 (.st 1 (U 61) (U 54)),
 ad 26 62 (.bf (.arr 32 1) (U 2) (U 45)),
 bC 27 (.st 1 (U 62) (U 57)),
 ad 28 63 (.bf (.arr 32 1) (U 2) (U 48)),
 bC 29 (.st 1 (U 63) (U 59))])))
 (.ai [ad 0 64 (.bin .add 3 (U 34) (.const (.int .i64 1))),
 af 1 34 64]))))
def FB:aT:=(.seq (.ai [ad 0 1 (.box (U 0)),
 ad 1 2 (.alloc (rep 32 (.int .u8 0)))])
 (.seq (.ai [ad 0 8 (.aN 9 (U 1)),
 ad 1 9 (.ld1 (U 8)),
 ad 2 10 (.ct .u64 (U 9)),
 ad 3 11 (.bin .mul 27 (U 10) (.const (.int .u64 8))),
 af 4 3 11])
 (.seq (.ai [ad 0 12 (.cL 1 [.int .u8 0] 1 [(0,(.const (.int .u8 128)))]),
 ad 1 13 (.aN 9 (U 1)),
 ad 2 14 (.ld1 (U 13)),
 ad 3 15 (.bin .rem 3 (U 14) (.const (.int .i64 64))),
 ad 4 16 (.bin .sub 3 (.const (.int .i64 119)) (U 15)),
 ad 5 17 (.bin .rem 3 (U 16) (.const (.int .i64 64))),
 ad 6 18 (.pQ 1 1 [.int .u8 0] (U 12) (U 17)),
 af 7 4 18])
 (.seq (.seq (.ai [ad 0 5 (.ap (.const (.int .i64 56)))])
 (.block 0 (.loop Wc)))
 (.seq (.seq (.ai [ad 0 30 (.aX 10 (U 1)),
 af 1 31 4,
 sc 2 32 159 [(U 30),(U 31)],
 ad 3 33 (.wF 8 0 (U 32)),
 ad 4 34 (.ap (.const (.int .i64 0)))])
 (.block 2 (.loop Wd)))
 (.seq (.ai [ad 0 65 (.aX 32 (U 2)),
 bC 1 (.st 32 (U 2) (U 65))])
 .ret))))))
def Lr:List a2:=[.aX 32 (U 2)]
theorem PW:bm Tryz.prog 160=some FB:=by kernel_rfl
theorem Y1:bn Tryz.prog 160=some Lr:=by kernel_rfl
def We:aT:=(.seq (.ai [ad 0 11 (.sh (U 10)),
 ad 1 12 (.ext (U 11) 0)])
 (.seq (.cond (U 12) .skip (.exit 0))
 (.block 1 (.seq (.ai [ad 0 13 (.ext (U 11) 1),
 ad 1 14 (.ext (U 11) 2),
 af 2 7 13,
 af 3 8 14])
 (.seq (.ai [af 0 15 1,
 af 1 16 8,
 ⟨2,(some 17),none,.gw (U 15) [(U 16)],[],false⟩,
 af 3 18 2,
 ad 4 19 (.bin .eql 4 (U 17) (U 18))])
 (.cond (U 19) (.seq (.ai [af 0 20 7,
 af 1 6 20])
 .ret) .skip))))))
def FC:aT:=(.seq (.ai [ad 0 6 (.ap (.const (.int .i64 0)))])
 (.seq (.seq (.ai [af 0 9 0,
 ad 1 10 (.sr (U 9))])
 (.block 0 (.loop We)))
 (.seq (.ai [ad 0 6 (.ap (.const (.int .i64 (-1))))])
 .ret)))
def Ls:List a2:=[.ap (U 6)]
theorem PX:bm Tryz.prog 162=some FC:=by kernel_rfl
theorem Y2:bn Tryz.prog 162=some Ls:=by kernel_rfl
def FD:aT:=(.seq (.ai [ad 0 2 (.ap (.const (.int .u64 0)))])
 (.seq (.seq (.ai [af 0 3 0,
 sc 1 4 189 [(U 3)],
 ad 2 5 (.bin .eql 5 (U 4) (.const (.int .u8 5)))])
 (.cond (U 5) (.seq (.ai [ad 0 2 (.ap (.const (.int .u64 9221120237041090560)))])
 .ret) .skip))
 (.seq (.ai [af 0 6 0,
 af 1 2 6])
 .ret)))
def Lt:List a2:=[.ap (U 2)]
theorem PY:bm Tryz.prog 163=some FD:=by kernel_rfl
theorem Y3:bn Tryz.prog 163=some Lt:=by kernel_rfl
def FE:aT:=(.seq (.ai [ad 0 2 (.ap (.const (.bool false)))])
 (.seq (.ai [af 0 3 0,
 ad 1 4 (.bin .lss 21 (U 3) (.const (.int .i32 32))),
 af 2 5 4,
 aE 3 6 5 false (.ap (U 0)),
 aE 4 7 5 false (.bin .gtr 21 (U 6) (.const (.int .i32 126))),
 ad 5 8 (.pick (U 5) (.const (.bool true)) (U 7)),
 af 6 2 8])
 .ret))
def Lu:List a2:=[.ap (U 2)]
theorem PZ:bm Tryz.prog 164=some FE:=by kernel_rfl
theorem Y4:bn Tryz.prog 164=some Lu:=by kernel_rfl
def FF:aT:=(.seq (.ai [ad 0 4 (.ap (.const (.int .u32 0))),
 ad 1 5 (.ap (.const (.int .i64 0)))])
 (.seq (.seq (.ai [af 0 6 0,
 ad 1 7 (.cL 1 [.int .u32 0] 1 [(0,(U 6))]),
 sc 2 8 190 [(U 7)],
 ad 3 9 (.un .not (U 8))])
 (.cond (U 9) (.seq (.ai [ad 0 4 (.ap (.const (.int .u32 0))),
 ad 1 5 (.ap (.const (.int .i64 2)))])
 .ret) .skip))
 (.seq (.ai [af 0 10 0,
 af 1 11 1,
 sc 2 12 183 [(U 10),(U 11)],
 af 3 4 12,
 ad 4 5 (.ap (.const (.int .i64 0)))])
 .ret)))
def Lv:List a2:=[.ap (U 4),.ap (U 5)]
theorem P0:bm Tryz.prog 165=some FF:=by kernel_rfl
theorem Y5:bn Tryz.prog 165=some Lv:=by kernel_rfl
def FG:aT:=(.seq (.ai [ad 0 4 (.ap (.const (.int .u32 0))),
 ad 1 5 (.ap (.const (.int .i64 0)))])
 (.seq (.seq (.ai [af 0 6 0,
 af 1 7 1,
 ad 2 8 (.cL 1 [.int .u32 0] 2 [(0,(U 6)),(1,(U 7))]),
 sc 3 9 190 [(U 8)],
 ad 4 10 (.un .not (U 9))])
 (.cond (U 10) (.seq (.ai [ad 0 4 (.ap (.const (.int .u32 0))),
 ad 1 5 (.ap (.const (.int .i64 2)))])
 .ret) .skip))
 (.seq (.ai [af 0 11 0,
 af 1 12 1,
 ad 2 13 (.cL 1 [.int .u32 0] 2 [(0,(U 11)),(1,(U 12))]),
 sc 3 14 191 [(.const (.int .u64 1000000007)),(U 13)],
 af 4 4 14,
 ad 5 5 (.ap (.const (.int .i64 0)))])
 .ret)))
def Lw:List a2:=[.ap (U 4),.ap (U 5)]
theorem P1:bm Tryz.prog 166=some FG:=by kernel_rfl
theorem Y6:bn Tryz.prog 166=some Lw:=by kernel_rfl
def FH:aT:=(.seq (.ai [ad 0 2 (.ap (.const (.int .u32 0)))])
 (.seq (.ai [af 0 3 0,
 sc 1 4 183 [(.const (.int .u32 4)),(U 3)],
 af 2 2 4])
 .ret))
def Lx:List a2:=[.ap (U 2)]
theorem P2:bm Tryz.prog 167=some FH:=by kernel_rfl
theorem Y7:bn Tryz.prog 167=some Lx:=by kernel_rfl
def FI:aT:=(.seq (.ai [ad 0 6 (.ap (.const (.int .u32 0))),
 ad 1 7 (.ap (.const (.int .i64 0)))])
 (.seq (.ai [af 0 11 2,
 af 1 12 0,
 af 2 13 1,
 ad 3 14 (.cL 1 [.int .u32 0] 2 [(0,(U 12)),(1,(U 13))]),
 sc 4 15 192 [(.const (.int .u8 99)),(U 11),(U 14)],
 af 5 10 15,
 ad 6 16 (.ext (U 10) 0),
 ad 7 17 (.ext (U 10) 1),
 af 8 8 16,
 af 9 9 17])
 (.seq (.seq (.ai [af 0 18 9,
 ad 1 19 (.bin .neq 38 (U 18) (.const (.int .i64 0)))])
 (.cond (U 19) (.seq (.ai [af 0 20 9,
 ad 1 6 (.ap (.const (.int .u32 0))),
 af 2 7 20])
 .ret) .skip))
 (.seq (.ai [af 0 21 8,
 ad 1 22 (.bin .rem 27 (U 21) (.const (.int .u64 500000003))),
 ad 2 23 (.ct .u32 (U 22)),
 af 3 6 23,
 ad 4 7 (.ap (.const (.int .i64 0)))])
 .ret))))
def Ly:List a2:=[.ap (U 6),.ap (U 7)]
theorem P3:bm Tryz.prog 168=some FI:=by kernel_rfl
theorem Y8:bn Tryz.prog 168=some Ly:=by kernel_rfl
def FK:aT:=(.seq (.ai [ad 0 2 (.ap (.const (.int .u32 0))),
 ad 1 3 (.ap (.const (.int .i64 0)))])
 (.seq (.seq (.ai [af 0 4 0,
 sc 1 5 64 [(U 4)],
 ad 2 6 (.un .not (U 5))])
 (.cond (U 6) (.seq (.ai [ad 0 2 (.ap (.const (.int .u32 0))),
 ad 1 3 (.ap (.const (.int .i64 2)))])
 .ret) .skip))
 (.seq (.ai [af 0 7 0,
 sc 1 8 175 [(U 7),(.const (.int .u64 500000002))],
 af 2 2 8,
 ad 3 3 (.ap (.const (.int .i64 0)))])
 .ret)))
def LA:List a2:=[.ap (U 2),.ap (U 3)]
theorem P4:bm Tryz.prog 174=some FK:=by kernel_rfl
theorem Y9:bn Tryz.prog 174=some LA:=by kernel_rfl
def FL:aT:=(.seq (.ai [ad 0 4 (.ap (.const (.int .u32 0)))])
 (.seq (.ai [af 0 5 0,
 ad 1 6 (.ct .u64 (U 5)),
 af 2 7 1,
 sc 3 8 95 [(U 6),(U 7),(.const (.int .u64 1000000007))],
 ad 4 9 (.ct .u32 (U 8)),
 af 5 4 9])
 .ret))
def LB:List a2:=[.ap (U 4)]
theorem P5:bm Tryz.prog 175=some FL:=by kernel_rfl
theorem Za:bn Tryz.prog 175=some LB:=by kernel_rfl
def FM:aT:=(.seq (.ai [ad 0 4 (.ap (.const (.int .u32 0)))])
 (.seq (.ai [af 0 5 0,
 ad 1 6 (.ct .u64 (U 5)),
 af 2 7 1,
 ad 3 8 (.ct .u64 (U 7)),
 ad 4 9 (.bin .mul 27 (U 6) (U 8)),
 ad 5 10 (.bin .rem 27 (U 9) (.const (.int .u64 1000000007))),
 ad 6 11 (.ct .u32 (U 10)),
 af 7 4 11])
 .ret))
def LC:List a2:=[.ap (U 4)]
theorem P6:bm Tryz.prog 176=some FM:=by kernel_rfl
theorem Zb:bn Tryz.prog 176=some LC:=by kernel_rfl
def FN:aT:=(.seq (.ai [ad 0 2 (.ap (.const (.int .u8 0)))])
 (.seq (.ai [af 0 5 0,
 sc 1 6 194 [(U 5)],
 af 2 7 0,
 sc 3 8 195 [(U 7)],
 af 4 3 6,
 af 5 4 8])
 (.seq (.seq (.ai [af 0 9 3,
 ad 1 10 (.bin .eql 3 (U 9) (.const (.int .i64 0))),
 af 2 11 10,
 aE 3 12 11 true (.ap (U 4)),
 aE 4 13 11 true (.bin .eql 27 (U 12) (.const (.int .u64 0))),
 ad 5 14 (.pick (U 11) (U 13) (.const (.bool false)))])
 (.cond (U 14) (.seq (.ai [ad 0 2 (.ap (.const (.int .u8 1)))])
 .ret) .skip))
 (.seq (.seq (.ai [af 0 15 3,
 ad 1 16 (.bin .eql 3 (U 15) (.const (.int .i64 0)))])
 (.cond (U 16) (.seq (.ai [ad 0 2 (.ap (.const (.int .u8 2)))])
 .ret) .skip))
 (.seq (.seq (.ai [af 0 17 3,
 ad 1 18 (.bin .lss 3 (U 17) (.const (.int .i64 2047)))])
 (.cond (U 18) (.seq (.ai [ad 0 2 (.ap (.const (.int .u8 3)))])
 .ret) .skip))
 (.seq (.seq (.ai [af 0 19 4,
 ad 1 20 (.bin .eql 27 (U 19) (.const (.int .u64 0)))])
 (.cond (U 20) (.seq (.ai [ad 0 2 (.ap (.const (.int .u8 4)))])
 .ret) .skip))
 (.seq (.ai [ad 0 2 (.ap (.const (.int .u8 5)))])
 .ret)))))))
def LD:List a2:=[.ap (U 2)]
theorem P7:bm Tryz.prog 177=some FN:=by kernel_rfl
theorem Zc:bn Tryz.prog 177=some LD:=by kernel_rfl
def FO:aT:=(.seq (.ai [ad 0 4 (.ap (.const (.int .u32 0)))])
 (.seq (.ai [af 0 5 0,
 af 1 6 1,
 ad 2 7 (.bin .shr 25 (U 5) (U 6)),
 af 3 8 0,
 af 4 9 1,
 ad 5 10 (.bin .sub 3 (.const (.int .i64 32)) (U 9)),
 ad 6 11 (.bin .shl 25 (U 8) (U 10)),
 ad 7 12 (.bin .or 25 (U 7) (U 11)),
 af 8 4 12])
 .ret))
def LF:List a2:=[.ap (U 4)]
theorem P8:bm Tryz.prog 178=some FO:=by kernel_rfl
theorem Zd:bn Tryz.prog 178=some LF:=by kernel_rfl
def P9:aT:=(.seq (.ai [ad 0 0 (.ap (.const (.slice none 0 0)))])
 (.seq (.ai [ad 0 1 (.cL 1 [.int .u32 0] 64 [(0,(.const (.int .u32 1116352408))),(1,(.const (.int .u32 1899447441))),(2,(.const (.int .u32 3049323471))),(3,(.const (.int .u32 3921009573))),(4,(.const (.int .u32 961987163))),(5,(.const (.int .u32 1508970993))),(6,(.const (.int .u32 2453635748))),(7,(.const (.int .u32 2870763221))),(8,(.const (.int .u32 3624381080))),(9,(.const (.int .u32 310598401))),(10,(.const (.int .u32 607225278))),(11,(.const (.int .u32 1426881987))),(12,(.const (.int .u32 1925078388))),(13,(.const (.int .u32 2162078206))),(14,(.const (.int .u32 2614888103))),(15,(.const (.int .u32 3248222580))),(16,(.const (.int .u32 3835390401))),(17,(.const (.int .u32 4022224774))),(18,(.const (.int .u32 264347078))),(19,(.const (.int .u32 604807628))),(20,(.const (.int .u32 770255983))),(21,(.const (.int .u32 1249150122))),(22,(.const (.int .u32 1555081692))),(23,(.const (.int .u32 1996064986))),(24,(.const (.int .u32 2554220882))),(25,(.const (.int .u32 2821834349))),(26,(.const (.int .u32 2952996808))),(27,(.const (.int .u32 3210313671))),(28,(.const (.int .u32 3336571891))),(29,(.const (.int .u32 3584528711))),(30,(.const (.int .u32 113926993))),(31,(.const (.int .u32 338241895))),(32,(.const (.int .u32 666307205))),(33,(.const (.int .u32 773529912))),(34,(.const (.int .u32 1294757372))),(35,(.const (.int .u32 1396182291))),(36,(.const (.int .u32 1695183700))),(37,(.const (.int .u32 1986661051))),(38,(.const (.int .u32 2177026350))),(39,(.const (.int .u32 2456956037))),(40,(.const (.int .u32 2730485921))),(41,(.const (.int .u32 2820302411))),(42,(.const (.int .u32 3259730800))),(43,(.const (.int .u32 3345764771))),(44,(.const (.int .u32 3516065817))),(45,(.const (.int .u32 3600352804))),(46,(.const (.int .u32 4094571909))),(47,(.const (.int .u32 275423344))),(48,(.const (.int .u32 430227734))),(49,(.const (.int .u32 506948616))),(50,(.const (.int .u32 659060556))),(51,(.const (.int .u32 883997877))),(52,(.const (.int .u32 958139571))),(53,(.const (.int .u32 1322822218))),(54,(.const (.int .u32 1537002063))),(55,(.const (.int .u32 1747873779))),(56,(.const (.int .u32 1955562222))),(57,(.const (.int .u32 2024104815))),(58,(.const (.int .u32 2227730452))),(59,(.const (.int .u32 2361852424))),(60,(.const (.int .u32 2428436474))),(61,(.const (.int .u32 2756734187))),(62,(.const (.int .u32 3204031479))),(63,(.const (.int .u32 3329325298)))]),
 af 1 0 1])
 .ret))
def Ze:List a2:=[.ap (U 0)]
theorem aer:bm Tryz.prog 179=some P9:=by kernel_rfl
theorem amL:bn Tryz.prog 179=some Ze:=by kernel_rfl
def FQ:aT:=(.seq (.ai [ad 0 2 (.ap (.const (.slice none 0 0)))])
 (.seq (.seq (.ai [af 0 3 0,
 ad 1 4 (.bin .geq 2 (U 3) (.const (.int .i64 0)))])
 (.cond (U 4) (.seq (.ai [af 0 5 0,
 ad 1 6 (.ct .u64 (U 5)),
 ad 2 7 (.bin .mul 27 (.const (.int .u64 2)) (U 6)),
 sc 3 8 102 [(U 7)],
 af 4 2 8])
 .ret) .skip))
 (.seq (.ai [af 0 9 0,
 ad 1 10 (.bin .add 2 (U 9) (.const (.int .i64 1))),
 ad 2 11 (.un .neg (U 10)),
 ad 3 12 (.ct .u64 (U 11)),
 ad 4 13 (.bin .mul 27 (.const (.int .u64 2)) (U 12)),
 ad 5 14 (.bin .add 27 (U 13) (.const (.int .u64 1))),
 sc 6 15 102 [(U 14)],
 af 7 2 15])
 .ret)))
def LG:List a2:=[.ap (U 2)]
theorem Qb:bm Tryz.prog 180=some FQ:=by kernel_rfl
theorem Zg:bn Tryz.prog 180=some LG:=by kernel_rfl
def FR:aT:=(.seq (.ai [ad 0 2 (.ap (.const (.slice none 0 0)))])
 (.seq (.ai [af 0 3 0,
 ad 1 4 (.bin .quo 25 (U 3) (.const (.int .u32 16777216))),
 ad 2 5 (.ct .u8 (U 4)),
 af 3 6 0,
 ad 4 7 (.bin .quo 25 (U 6) (.const (.int .u32 65536))),
 ad 5 8 (.bin .rem 25 (U 7) (.const (.int .u32 256))),
 ad 6 9 (.ct .u8 (U 8)),
 af 7 10 0,
 ad 8 11 (.bin .quo 25 (U 10) (.const (.int .u32 256))),
 ad 9 12 (.bin .rem 25 (U 11) (.const (.int .u32 256))),
 ad 10 13 (.ct .u8 (U 12)),
 af 11 14 0,
 ad 12 15 (.bin .rem 25 (U 14) (.const (.int .u32 256))),
 ad 13 16 (.ct .u8 (U 15)),
 ad 14 17 (.cL 1 [.int .u8 0] 4 [(0,(U 5)),(1,(U 9)),(2,(U 13)),(3,(U 16))]),
 af 15 2 17])
 .ret))
def LH:List a2:=[.ap (U 2)]
theorem Qc:bm Tryz.prog 181=some FR:=by kernel_rfl
theorem Zh:bn Tryz.prog 181=some LH:=by kernel_rfl
def Wf:aT:=(.seq (.seq (.ai [af 0 8 5,
 ad 1 9 (.bin .lss 3 (U 8) (.const (.int .i64 8)))])
 (.cond (U 9) .skip (.exit 0)))
 (.seq (.block 1 (.ai [af 0 12 4,
 ad 1 13 (.bin .mul 27 (.const (.int .u64 256)) (U 12)),
 af 2 14 5,
 ad 3 15 (.bf (.arr 32 1) (U 3) (U 14)),
 ad 4 16 (.ld1 (U 15)),
 ad 5 17 (.ct .u64 (U 16)),
 ad 6 18 (.bin .add 27 (U 13) (U 17)),
 af 7 4 18]))
 (.ai [af 0 10 5,
 ad 1 11 (.bin .add 3 (U 10) (.const (.int .i64 1))),
 af 2 5 11])))
def FS:aT:=(.seq (.ai [ad 0 2 (.ap (.const (.int .u64 0)))])
 (.seq (.ai [af 0 6 0,
 sc 1 7 67 [(U 6)],
 ad 2 3 (.alloc (rep 32 (.int .u8 0))),
 bC 3 (.st 32 (U 3) (U 7))])
 (.seq (.ai [ad 0 4 (.ap (.const (.int .u64 0)))])
 (.seq (.seq (.ai [ad 0 5 (.ap (.const (.int .i64 0)))])
 (.block 0 (.loop Wf)))
 (.seq (.ai [af 0 19 4,
 af 1 2 19])
 .ret)))))
def LI:List a2:=[.ap (U 2)]
theorem Qd:bm Tryz.prog 182=some FS:=by kernel_rfl
theorem Zi:bn Tryz.prog 182=some LI:=by kernel_rfl
def Wg:aT:=(.seq (.ai [ad 0 10 (.bin .lss 3 (U 9) (.const (.int .i64 64)))])
 (.seq (.cond (U 10) .skip (.exit 0))
 (.seq (.block 1 (.seq (.ai [af 0 11 9,
 af 1 7 11])
 (.seq (.ai [af 0 12 6,
 ⟨1,(some 13),none,.gw (U 12) [],[],false⟩])
 (.seq (.ai [af 0 14 1,
 af 1 15 7,
 ad 2 16 (.bin .sub 3 (.const (.int .i64 63)) (U 15)),
 ad 3 17 (.bin .shr 27 (U 14) (U 16)),
 ad 4 18 (.bin .and 27 (U 17) (.const (.int .u64 1))),
 ad 5 19 (.bin .eql 27 (U 18) (.const (.int .u64 1)))])
 (.cond (U 19) (.ai [ad 0 20 (.ld1 (U 5)),
 af 1 21 0,
 ad 2 22 (.cL 1 [.int .u32 0] 2 [(0,(U 20)),(1,(U 21))]),
 sc 3 23 191 [(.const (.int .u64 1000000007)),(U 22)],
 bC 4 (.st 1 (U 5) (U 23))]) .skip)))))
 (.ai [ad 0 24 (.bin .add 3 (U 9) (.const (.int .i64 1))),
 af 1 9 24]))))
def FT:aT:=(.seq (.ai [ad 0 4 (.ap (.const (.int .u32 0)))])
 (.seq (.ai [ad 0 5 (.alloc [.int .u32 0]),
 bC 1 (.st 1 (U 5) (.const (.int .u32 1)))])
 (.seq (.ai [ad 0 8 (.pm 196 [] [(U 5)]),
 af 1 6 8])
 (.seq (.seq (.ai [ad 0 9 (.ap (.const (.int .i64 0)))])
 (.block 0 (.loop Wg)))
 (.seq (.ai [ad 0 25 (.ld1 (U 5)),
 af 1 4 25])
 .ret)))))
def LJ:List a2:=[.ap (U 4)]
theorem Qe:bm Tryz.prog 183=some FT:=by kernel_rfl
theorem Zj:bn Tryz.prog 183=some LJ:=by kernel_rfl
def FU:aT:=(.seq (.ai [ad 0 1 (.box (U 0)),
 ad 1 2 (.ap (.const (.bool false)))])
 (.seq (.ai [ad 0 3 (.alloc [.int .i64 0]),
 bC 1 (.st 1 (U 3) (.const (.int .i64 0)))])
 (.seq (.ai [ad 0 4 (.ld1 (U 1)),
 ad 1 5 (.pm 198 [] [(U 3),(U 1)]),
 sc 2 6 197 [(U 4),(U 5)],
 ad 3 7 (.un .not (U 6)),
 af 4 2 7])
 .ret)))
def LK:List a2:=[.ap (U 2)]
theorem Qf:bm Tryz.prog 184=some FU:=by kernel_rfl
theorem Zk:bn Tryz.prog 184=some LK:=by kernel_rfl
def FV:aT:=(.seq (.ai [ad 0 2 (.ap (.const (.slice none 0 0)))])
 (.seq (.ai [af 0 3 0,
 ad 1 4 (.ct .u64 (U 3)),
 ad 2 5 (.bin .shl 27 (U 4) (.const (.int .u64 1))),
 af 3 6 0,
 ad 4 7 (.bin .shr 2 (U 6) (.const (.int .u64 63))),
 ad 5 8 (.ct .u64 (U 7)),
 ad 6 9 (.bin .xor 27 (U 5) (U 8)),
 sc 7 10 110 [(U 9)],
 af 8 2 10])
 .ret))
def LL:List a2:=[.ap (U 2)]
theorem Qg:bm Tryz.prog 185=some FV:=by kernel_rfl
theorem Zl:bn Tryz.prog 185=some LL:=by kernel_rfl
def Wh:aT:=(.seq (.ai [ad 0 9 (.bin .lss 3 (U 8) (U 7))])
 (.seq (.cond (U 9) .skip (.exit 0))
 (.seq (.block 1 (.seq (.ai [af 0 10 8,
 af 1 5 10])
 (.seq (.ai [af 0 11 1,
 af 1 12 0,
 af 2 13 5,
 ad 3 14 (.bf (.ao 1) (U 12) (U 13)),
 ad 4 15 (.ld1 (U 14)),
 ⟨5,(some 16),none,.gw (U 11) [(U 15)],[],false⟩])
 (.cond (U 16) (.seq (.ai [af 0 17 5,
 af 1 4 17])
 .ret) .skip))))
 (.ai [ad 0 18 (.bin .add 3 (U 8) (.const (.int .i64 1))),
 af 1 8 18]))))
def FW:aT:=(.seq (.ai [ad 0 4 (.ap (.const (.int .i64 0)))])
 (.seq (.seq (.ai [af 0 6 0,
 ad 1 7 (.len (.ao 1) (U 6)),
 ad 2 8 (.ap (.const (.int .i64 0)))])
 (.block 0 (.loop Wh)))
 (.seq (.ai [ad 0 4 (.ap (.const (.int .i64 (-1))))])
 .ret)))
def LM:List a2:=[.ap (U 4)]
theorem Qh:bm Tryz.prog 186=some FW:=by kernel_rfl
theorem Zm:bn Tryz.prog 186=some LM:=by kernel_rfl
def Wi:aT:=(.seq (.ai [ad 0 53 (.bin .lss 3 (U 52) (.const (.int .i64 64)))])
 (.seq (.cond (U 53) .skip (.exit 0))
 (.seq (.block 1 (.seq (.ai [af 0 54 52,
 af 1 13 54])
 (.seq (.gy [af 0 55 12,
 af 1 56 9,
 af 4 59 9,
 af 5 60 10,
 ad 6 61 (.bin .and 25 (U 59) (U 60)),
 af 7 62 9,
 ad 8 63 (.un .xor (U 62)),
 af 9 64 11,
 ad 10 65 (.bin .and 25 (U 63) (U 64)),
 ad 11 66 (.bin .xor 25 (U 61) (U 65)),
 af 13 68 13,
 ad 14 69 (.bf (.arr 64 1) (.global 1) (U 68)),
 ⟨15,(some 70),none,.cF (.ld1 (U 69)),[],true⟩,
 af 17 72 13,
 ad 18 73 (.bf (.arr 64 1) (U 4) (U 72)),
 ⟨19,(some 74),none,.cF (.ld1 (U 73)),[],true⟩,
 ⟨2,(some 57),none,.cV 200 [(U 56),(.const (.int .i64 6)),(.const (.int .i64 11)),(.const (.int .i64 25))],[19,15],false⟩,
 ad 3 58 (.bin .add 25 (U 55) (U 57)),
 ad 12 67 (.bin .add 25 (U 58) (U 66)),
 ad 16 71 (.bin .add 25 (U 67) (U 70)),
 ad 20 75 (.bin .add 25 (U 71) (U 74)),
 af 21 14 75])
 (.seq (.ai [af 0 76 5,
 sc 1 77 200 [(U 76),(.const (.int .i64 2)),(.const (.int .i64 13)),(.const (.int .i64 22))],
 af 2 78 5,
 af 3 79 6,
 ad 4 80 (.bin .and 25 (U 78) (U 79)),
 af 5 81 5,
 af 6 82 7,
 ad 7 83 (.bin .and 25 (U 81) (U 82)),
 ad 8 84 (.bin .xor 25 (U 80) (U 83)),
 af 9 85 6,
 af 10 86 7,
 ad 11 87 (.bin .and 25 (U 85) (U 86)),
 ad 12 88 (.bin .xor 25 (U 84) (U 87)),
 ad 13 89 (.bin .add 25 (U 77) (U 88)),
 af 14 15 89])
 (.ai [af 0 90 14,
 af 1 91 15,
 ad 2 92 (.bin .add 25 (U 90) (U 91)),
 af 3 93 5,
 af 4 94 6,
 af 5 95 7,
 af 6 96 8,
 af 7 97 14,
 ad 8 98 (.bin .add 25 (U 96) (U 97)),
 af 9 99 9,
 af 10 100 10,
 af 11 101 11,
 af 12 5 92,
 af 13 6 93,
 af 14 7 94,
 af 15 8 95,
 af 16 9 98,
 af 17 10 99,
 af 18 11 100,
 af 19 12 101])))))
 (.ai [ad 0 102 (.bin .add 3 (U 52) (.const (.int .i64 1))),
 af 1 52 102]))))
def Wj:aT:=(.seq (.ai [ad 0 113 (.bin .lss 3 (U 112) (.const (.int .i64 8)))])
 (.seq (.cond (U 113) .skip (.exit 2))
 (.seq (.block 3 (.seq (.ai [af 0 114 112,
 ad 1 115 (.vt 8 1 (U 111) (U 112)),
 af 2 16 114,
 af 3 17 115])
 (.ai [af 0 116 0,
 af 1 117 16,
 ad 2 118 (.lG (U 116)),
 ad 3 119 (.bf (.arr 8 1) (U 118) (U 117)),
 ad 4 120 (.ld1 (U 119)),
 af 5 121 17,
 ad 6 122 (.bin .add 25 (U 120) (U 121)),
 ad 7 123 (.lG (U 116)),
 ad 8 124 (.bf (.arr 8 1) (U 123) (U 117)),
 bC 9 (.st 1 (U 124) (U 122))])))
 (.ai [ad 0 125 (.bin .add 3 (U 112) (.const (.int .i64 1))),
 af 1 112 125]))))
def FX:aT:=(.seq (.ai [af 0 18 1,
 sc 1 19 199 [(U 18)],
 ad 2 4 (.alloc (rep 64 (.int .u32 0))),
 bC 3 (.st 64 (U 4) (U 19))])
 (.seq (.ai [af 0 20 0,
 ad 1 21 (.lG (U 20)),
 ad 2 22 (.bf (.arr 8 1) (U 21) (.const (.int .i64 0))),
 ad 3 23 (.ld1 (U 22)),
 af 4 24 0,
 ad 5 25 (.lG (U 24)),
 ad 6 26 (.bf (.arr 8 1) (U 25) (.const (.int .i64 1))),
 ad 7 27 (.ld1 (U 26)),
 af 8 28 0,
 ad 9 29 (.lG (U 28)),
 ad 10 30 (.bf (.arr 8 1) (U 29) (.const (.int .i64 2))),
 ad 11 31 (.ld1 (U 30)),
 af 12 32 0,
 ad 13 33 (.lG (U 32)),
 ad 14 34 (.bf (.arr 8 1) (U 33) (.const (.int .i64 3))),
 ad 15 35 (.ld1 (U 34)),
 af 16 36 0,
 ad 17 37 (.lG (U 36)),
 ad 18 38 (.bf (.arr 8 1) (U 37) (.const (.int .i64 4))),
 ad 19 39 (.ld1 (U 38)),
 af 20 40 0,
 ad 21 41 (.lG (U 40)),
 ad 22 42 (.bf (.arr 8 1) (U 41) (.const (.int .i64 5))),
 ad 23 43 (.ld1 (U 42)),
 af 24 44 0,
 ad 25 45 (.lG (U 44)),
 ad 26 46 (.bf (.arr 8 1) (U 45) (.const (.int .i64 6))),
 ad 27 47 (.ld1 (U 46)),
 af 28 48 0,
 ad 29 49 (.lG (U 48)),
 ad 30 50 (.bf (.arr 8 1) (U 49) (.const (.int .i64 7))),
 ad 31 51 (.ld1 (U 50)),
 af 32 5 23,
 af 33 6 27,
 af 34 7 31,
 af 35 8 35,
 af 36 9 39,
 af 37 10 43,
 af 38 11 47,
 af 39 12 51])
 (.seq (.seq (.ai [ad 0 52 (.ap (.const (.int .i64 0)))])
 (.block 0 (.loop Wi)))
 (.seq (.ai [af 0 103 5,
 af 1 104 6,
 af 2 105 7,
 af 3 106 8,
 af 4 107 9,
 af 5 108 10,
 af 6 109 11,
 af 7 110 12,
 ad 8 111 (.dW [.int .u32 0,.int .u32 0,.int .u32 0,.int .u32 0,.int .u32 0,.int .u32 0,.int .u32 0,.int .u32 0] [(0,1,(U 103)),(1,1,(U 104)),(2,1,(U 105)),(3,1,(U 106)),(4,1,(U 107)),(5,1,(U 108)),(6,1,(U 109)),(7,1,(U 110))]),
 ad 9 112 (.ap (.const (.int .i64 0)))])
 (.block 2 (.loop Wj))))))
def LN:List a2:=[]
theorem Qi:bm Tryz.prog 187=some FX:=by kernel_rfl
theorem Zn:bn Tryz.prog 187=some LN:=by kernel_rfl
def FY:aT:=(.seq (.ai [ad 0 2 (.ap (.const (.slice none 0 0)))])
 (.seq (.seq (.ai [af 0 3 0,
 ad 1 4 (.bin .eql 117 (U 3) (.const (.slice none 0 0)))])
 (.cond (U 4) (.seq (.ai [ad 0 2 (.ap (.const (.slice none 0 0)))])
 .ret) .skip))
 (.seq (.ai [ad 0 5 (.cL 1 [.int .u8 0] 0 []),
 af 1 6 0,
 ad 2 7 (.app 1 1 (U 5) (U 6)),
 af 3 2 7])
 .ret)))
def LO:List a2:=[.ap (U 2)]
theorem Qj:bm Tryz.prog 188=some FY:=by kernel_rfl
theorem Zo:bn Tryz.prog 188=some LO:=by kernel_rfl
def FZ:aT:=(.seq (.ai [ad 0 2 (.ap (.const (.int .u8 0)))])
 (.seq (.ai [af 0 6 0,
 sc 1 7 201 [(U 6)],
 af 2 5 7,
 ad 3 8 (.ext (U 5) 0),
 ad 4 9 (.ext (U 5) 1),
 af 5 3 8,
 af 6 4 9])
 (.seq (.block 0 (.seq (.ai [af 0 11 3,
 ad 1 12 (.bin .eql 3 (U 11) (.const (.int .i64 2047))),
 af 2 13 12,
 aE 3 14 13 true (.ap (U 4)),
 aE 4 15 13 true (.bin .neq 27 (U 14) (.const (.int .u64 0))),
 ad 5 16 (.pick (U 13) (U 15) (.const (.bool false))),
 af 6 10 16])
 (.cond (U 10) (.seq (.ai [ad 0 2 (.ap (.const (.int .u8 5)))])
 .ret) (.seq (.ai [af 0 18 3,
 ad 1 19 (.bin .eql 3 (U 18) (.const (.int .i64 2047))),
 af 2 17 19])
 (.cond (U 17) (.seq (.ai [ad 0 2 (.ap (.const (.int .u8 4)))])
 .ret) (.seq (.ai [af 0 21 3,
 ad 1 22 (.bin .neq 3 (U 21) (.const (.int .i64 0))),
 af 2 20 22])
 (.cond (U 20) (.seq (.ai [ad 0 2 (.ap (.const (.int .u8 3)))])
 .ret) (.seq (.ai [af 0 24 4,
 ad 1 25 (.bin .neq 27 (U 24) (.const (.int .u64 0))),
 af 2 23 25])
 (.cond (U 23) (.seq (.ai [ad 0 2 (.ap (.const (.int .u8 2)))])
 .ret) .skip)))))))))
 (.seq (.ai [ad 0 2 (.ap (.const (.int .u8 1)))])
 .ret))))
def LP:List a2:=[.ap (U 2)]
theorem Qk:bm Tryz.prog 189=some FZ:=by kernel_rfl
theorem Zp:bn Tryz.prog 189=some LP:=by kernel_rfl
def Wl:aT:=(.seq (.ai [ad 0 8 (.bin .lss 3 (U 7) (U 6))])
 (.seq (.cond (U 8) .skip (.exit 0))
 (.seq (.block 1 (.seq (.ai [ad 0 9 (.bf (.ao 1) (U 5) (U 7)),
 ad 1 10 (.ld1 (U 9)),
 af 2 4 10])
 (.seq (.ai [af 0 11 4,
 sc 1 12 151 [(U 11)],
 ad 2 13 (.un .not (U 12))])
 (.cond (U 13) (.seq (.ai [ad 0 2 (.ap (.const (.bool false)))])
 .ret) .skip))))
 (.ai [ad 0 14 (.bin .add 3 (U 7) (.const (.int .i64 1))),
 af 1 7 14]))))
def F0:aT:=(.seq (.ai [ad 0 2 (.ap (.const (.bool false)))])
 (.seq (.seq (.ai [af 0 5 0,
 ad 1 6 (.len (.ao 1) (U 5)),
 ad 2 7 (.ap (.const (.int .i64 0)))])
 (.block 0 (.loop Wl)))
 (.seq (.ai [ad 0 2 (.ap (.const (.bool true)))])
 .ret)))
def LQ:List a2:=[.ap (U 2)]
theorem Qn:bm Tryz.prog 190=some F0:=by kernel_rfl
theorem Zr:bn Tryz.prog 190=some LQ:=by kernel_rfl
def Wm:aT:=(.seq (.ai [ad 0 11 (.bin .lss 3 (U 10) (U 9))])
 (.seq (.cond (U 11) .skip (.exit 0))
 (.seq (.block 1 (.seq (.ai [ad 0 12 (.bf (.ao 1) (U 8) (U 10)),
 ad 1 13 (.ld1 (U 12)),
 af 2 7 13])
 (.ai [af 0 14 5,
 af 1 15 7,
 ad 2 16 (.ct .u64 (U 15)),
 ad 3 17 (.bin .mul 27 (U 14) (U 16)),
 af 4 18 0,
 ad 5 19 (.bin .rem 27 (U 17) (U 18)),
 af 6 5 19])))
 (.ai [ad 0 20 (.bin .add 3 (U 10) (.const (.int .i64 1))),
 af 1 10 20]))))
def F1:aT:=(.seq (.ai [ad 0 4 (.ap (.const (.int .u32 0)))])
 (.seq (.ai [ad 0 5 (.ap (.const (.int .u64 1)))])
 (.seq (.seq (.ai [af 0 8 1,
 ad 1 9 (.len (.ao 1) (U 8)),
 ad 2 10 (.ap (.const (.int .i64 0)))])
 (.block 0 (.loop Wm)))
 (.seq (.ai [af 0 21 5,
 ad 1 22 (.ct .u32 (U 21)),
 af 2 4 22])
 .ret))))
def LR:List a2:=[.ap (U 4)]
theorem Qo:bm Tryz.prog 191=some F1:=by kernel_rfl
theorem Zs:bn Tryz.prog 191=some LR:=by kernel_rfl
def Wn:aT:=(.seq (.ai [ad 0 24 (.bin .lss 3 (U 23) (U 22))])
 (.seq (.cond (U 24) .skip (.exit 0))
 (.seq (.block 1 (.seq (.ai [ad 0 25 (.bf (.ao 1) (U 21) (U 23)),
 ad 1 26 (.ld1 (U 25)),
 af 2 10 26])
 (.ai [af 0 27 8,
 af 1 28 10,
 ad 2 29 (.bin .shr 25 (U 28) (.const (.int .u64 24))),
 ad 3 30 (.ct .u8 (U 29)),
 af 4 31 10,
 ad 5 32 (.bin .shr 25 (U 31) (.const (.int .u64 16))),
 ad 6 33 (.ct .u8 (U 32)),
 af 7 34 10,
 ad 8 35 (.bin .shr 25 (U 34) (.const (.int .u64 8))),
 ad 9 36 (.ct .u8 (U 35)),
 af 10 37 10,
 ad 11 38 (.ct .u8 (U 37)),
 ad 12 39 (.cL 1 [.int .u8 0] 4 [(0,(U 30)),(1,(U 33)),(2,(U 36)),(3,(U 38))]),
 ad 13 40 (.app 1 1 (U 27) (U 39)),
 af 14 8 40])))
 (.ai [ad 0 41 (.bin .add 3 (U 23) (.const (.int .i64 1))),
 af 1 23 41]))))
def Wo:aT:=(.seq (.ai [ad 0 52 (.bin .lss 3 (U 51) (U 50))])
 (.seq (.cond (U 52) .skip (.exit 2))
 (.seq (.block 3 (.seq (.ai [ad 0 53 (.bf (.ao 1) (U 49) (U 51)),
 ad 1 54 (.ld1 (U 53)),
 af 2 15 54])
 (.ai [af 0 55 13,
 ad 1 56 (.bin .shl 27 (U 55) (.const (.int .u64 8))),
 af 2 57 15,
 ad 3 58 (.ct .u64 (U 57)),
 ad 4 59 (.bin .or 27 (U 56) (U 58)),
 af 5 13 59])))
 (.ai [ad 0 60 (.bin .add 3 (U 51) (.const (.int .i64 1))),
 af 1 51 60]))))
def F2:aT:=(.seq (.ai [ad 0 6 (.ap (.const (.int .u64 0))),
 ad 1 7 (.ap (.const (.int .i64 0)))])
 (.seq (.seq (.ai [af 0 16 1,
 ad 1 17 (.len (.ao 1) (U 16)),
 ad 2 18 (.bin .gtr 3 (U 17) (.const (.int .i64 9991)))])
 (.cond (U 18) (.seq (.ai [ad 0 6 (.ap (.const (.int .u64 0))),
 ad 1 7 (.ap (.const (.int .i64 4)))])
 .ret) .skip))
 (.seq (.ai [af 0 19 0,
 ad 1 20 (.cL 1 [.int .u8 0] 1 [(0,(U 19))]),
 af 2 8 20])
 (.seq (.seq (.ai [af 0 21 2,
 ad 1 22 (.len (.ao 1) (U 21)),
 ad 2 23 (.ap (.const (.int .i64 0)))])
 (.block 0 (.loop Wn)))
 (.seq (.ai [af 0 43 8,
 af 1 44 1,
 ad 2 45 (.cL 1 [.aZ] 2 [(0,(U 43)),(1,(U 44))]),
 sc 3 46 111 [(U 45)],
 af 4 42 46,
 ad 5 47 (.ext (U 42) 0),
 ad 6 48 (.ext (U 42) 1),
 ad 7 11 (.alloc (rep 32 (.int .u8 0))),
 bC 8 (.st 32 (U 11) (U 47)),
 af 9 12 48])
 (.seq (.ai [ad 0 13 (.ap (.const (.int .u64 0)))])
 (.seq (.seq (.ai [ad 0 49 (.slice (.arr 32 1) (U 11) none (some (.const (.int .i64 8))) none),
 ad 1 50 (.len (.ao 1) (U 49)),
 ad 2 51 (.ap (.const (.int .i64 0)))])
 (.block 2 (.loop Wo)))
 (.seq (.ai [af 0 61 13,
 af 1 62 12,
 af 2 6 61,
 af 3 7 62])
 .ret))))))))
def LS:List a2:=[.ap (U 6),.ap (U 7)]
theorem Qp:bm Tryz.prog 192=some F2:=by kernel_rfl
theorem Zt:bn Tryz.prog 192=some LS:=by kernel_rfl
def F3:aT:=(.seq (.ai [ad 0 2 (.ap (.const (.int .i64 0)))])
 (.seq (.ai [af 0 3 0,
 ad 1 4 (.bin .rem 27 (U 3) (.const (.int .u64 9223372036854775808))),
 ad 2 5 (.bin .quo 27 (U 4) (.const (.int .u64 4503599627370496))),
 ad 3 6 (.ct .i64 (U 5)),
 af 4 2 6])
 .ret))
def LU:List a2:=[.ap (U 2)]
theorem Qq:bm Tryz.prog 194=some F3:=by kernel_rfl
theorem Zu:bn Tryz.prog 194=some LU:=by kernel_rfl
def F4:aT:=(.seq (.ai [ad 0 2 (.ap (.const (.int .u64 0)))])
 (.seq (.ai [af 0 3 0,
 ad 1 4 (.bin .rem 27 (U 3) (.const (.int .u64 4503599627370496))),
 af 2 2 4])
 .ret))
def LV:List a2:=[.ap (U 2)]
theorem Qr:bm Tryz.prog 195=some F4:=by kernel_rfl
theorem Zv:bn Tryz.prog 195=some LV:=by kernel_rfl
def F5:aT:=(.ai [ad 0 1 (.ld1 (U 0)),
 ad 1 2 (.ld1 (U 0)),
 ad 2 3 (.cL 1 [.int .u32 0] 2 [(0,(U 1)),(1,(U 2))]),
 sc 3 4 191 [(.const (.int .u64 1000000007)),(U 3)],
 bC 4 (.st 1 (U 0) (U 4))])
def LW:List a2:=[]
theorem Qs:bm Tryz.prog 196=some F5:=by kernel_rfl
theorem Zw:bn Tryz.prog 196=some LW:=by kernel_rfl
def F6:aT:=(.seq (.ai [ad 0 4 (.ap (.const (.bool false)))])
 (.seq (.ai [af 0 5 0,
 af 1 6 1,
 sc 2 7 202 [(U 5),(U 6)],
 ad 3 8 (.bin .geq 3 (U 7) (.const (.int .i64 0))),
 af 4 4 8])
 .ret))
def LX:List a2:=[.ap (U 4)]
theorem Qt:bm Tryz.prog 197=some F6:=by kernel_rfl
theorem Zx:bn Tryz.prog 197=some LX:=by kernel_rfl
def F7:aT:=(.seq (.ai [ad 0 3 (.box (U 0)),
 ad 1 4 (.ap (.const (.bool false)))])
 (.seq (.ai [ad 0 5 (.ld1 (U 1)),
 ad 1 6 (.bin .add 3 (U 5) (.const (.int .i64 1))),
 bC 2 (.st 1 (U 1) (U 6))])
 (.seq (.ai [ad 0 7 (.ld1 (U 1)),
 ad 1 8 (.ld1 (U 2)),
 ad 2 9 (.len (.ao 32) (U 8)),
 ad 3 10 (.bin .lss 3 (U 7) (U 9)),
 af 4 11 10,
 aE 5 12 11 true (.ld1 (U 2)),
 aE 6 13 11 true (.ld1 (U 1)),
 aE 7 14 11 true (.bin .sub 3 (U 13) (.const (.int .i64 1))),
 aE 8 15 11 true (.bf (.ao 32) (U 12) (U 14)),
 aE 9 16 11 true (.aX 32 (U 15)),
 aE 10 17 11 true (.ld1 (U 2)),
 aE 11 18 11 true (.ld1 (U 1)),
 aE 12 19 11 true (.bf (.ao 32) (U 17) (U 18)),
 aE 13 20 11 true (.aX 32 (U 19)),
 ⟨14,(some 21),(some ((some 11),true)),.cV 121 [(U 16),(U 20)],[],false⟩,
 aE 15 22 11 true (.bin .geq 3 (U 21) (.const (.int .i64 0))),
 ad 16 23 (.pick (U 11) (U 22) (.const (.bool false))),
 af 17 4 23])
 .ret)))
def LY:List a2:=[.ap (U 4)]
theorem Qu:bm Tryz.prog 198=some F7:=by kernel_rfl
theorem Zy:bn Tryz.prog 198=some LY:=by kernel_rfl
def Wp:aT:=(.seq (.ai [ad 0 14 (.bin .lss 3 (U 13) (U 12))])
 (.seq (.cond (U 14) .skip (.exit 0))
 (.seq (.block 1 (.seq (.ai [af 0 15 13,
 ad 1 16 (.bf (.ao 1) (U 11) (U 13)),
 ad 2 17 (.ld1 (U 16)),
 af 3 3 15,
 af 4 4 17])
 (.ai [af 0 18 3,
 ad 1 19 (.bin .quo 3 (U 18) (.const (.int .i64 4))),
 af 2 20 3,
 ad 3 21 (.bin .quo 3 (U 20) (.const (.int .i64 4))),
 ad 4 22 (.bf (.arr 64 1) (U 2) (U 21)),
 ad 5 23 (.ld1 (U 22)),
 ad 6 24 (.bin .shl 25 (U 23) (.const (.int .u64 8))),
 af 7 25 4,
 ad 8 26 (.ct .u32 (U 25)),
 ad 9 27 (.bin .or 25 (U 24) (U 26)),
 ad 10 28 (.bf (.arr 64 1) (U 2) (U 19)),
 bC 11 (.st 1 (U 28) (U 27))])))
 (.ai [ad 0 29 (.bin .add 3 (U 13) (.const (.int .i64 1))),
 af 1 13 29]))))
def Wq:aT:=(.seq (.seq (.ai [af 0 30 5,
 ad 1 31 (.bin .lss 3 (U 30) (.const (.int .i64 64)))])
 (.cond (U 31) .skip (.exit 2)))
 (.seq (.block 3 (.seq (.ai [af 0 34 5,
 ad 1 35 (.bin .sub 3 (U 34) (.const (.int .i64 15))),
 ad 2 36 (.bf (.arr 64 1) (U 2) (U 35)),
 ad 3 37 (.ld1 (U 36)),
 af 4 38 5,
 ad 5 39 (.bin .sub 3 (U 38) (.const (.int .i64 2))),
 ad 6 40 (.bf (.arr 64 1) (U 2) (U 39)),
 ad 7 41 (.ld1 (U 40)),
 af 8 6 37,
 af 9 7 41])
 (.seq (.ai [af 0 42 6,
 sc 1 43 203 [(U 42),(.const (.int .i64 (-7)))],
 af 2 44 6,
 sc 3 45 203 [(U 44),(.const (.int .i64 (-18)))],
 ad 4 46 (.bin .xor 25 (U 43) (U 45)),
 af 5 47 6,
 ad 6 48 (.bin .shr 25 (U 47) (.const (.int .u64 3))),
 ad 7 49 (.bin .xor 25 (U 46) (U 48)),
 af 8 8 49])
 (.seq (.ai [af 0 50 7,
 sc 1 51 203 [(U 50),(.const (.int .i64 (-17)))],
 af 2 52 7,
 sc 3 53 203 [(U 52),(.const (.int .i64 (-19)))],
 ad 4 54 (.bin .xor 25 (U 51) (U 53)),
 af 5 55 7,
 ad 6 56 (.bin .shr 25 (U 55) (.const (.int .u64 10))),
 ad 7 57 (.bin .xor 25 (U 54) (U 56)),
 af 8 9 57])
 (.ai [af 0 58 5,
 af 1 59 5,
 ad 2 60 (.bin .sub 3 (U 59) (.const (.int .i64 16))),
 ad 3 61 (.bf (.arr 64 1) (U 2) (U 60)),
 ad 4 62 (.ld1 (U 61)),
 af 5 63 5,
 ad 6 64 (.bin .sub 3 (U 63) (.const (.int .i64 7))),
 ad 7 65 (.bf (.arr 64 1) (U 2) (U 64)),
 ad 8 66 (.ld1 (U 65)),
 ad 9 67 (.bin .add 25 (U 62) (U 66)),
 af 10 68 8,
 ad 11 69 (.bin .add 25 (U 67) (U 68)),
 af 12 70 9,
 ad 13 71 (.bin .add 25 (U 69) (U 70)),
 ad 14 72 (.bf (.arr 64 1) (U 2) (U 58)),
 bC 15 (.st 1 (U 72) (U 71))])))))
 (.ai [af 0 32 5,
 ad 1 33 (.bin .add 3 (U 32) (.const (.int .i64 1))),
 af 2 5 33])))
def F8:aT:=(.seq (.ai [ad 0 2 (.alloc (rep 64 (.int .u32 0)))])
 (.seq (.seq (.ai [af 0 10 0,
 ad 1 11 (.slice (.ao 1) (U 10) none (some (.const (.int .i64 64))) none),
 ad 2 12 (.len (.ao 1) (U 11)),
 ad 3 13 (.ap (.const (.int .i64 0)))])
 (.block 0 (.loop Wp)))
 (.seq (.seq (.ai [ad 0 5 (.ap (.const (.int .i64 16)))])
 (.block 2 (.loop Wq)))
 (.seq (.ai [ad 0 73 (.aX 64 (U 2)),
 bC 1 (.st 64 (U 2) (U 73))])
 .ret))))
def LZ:List a2:=[.aX 64 (U 2)]
theorem Qv:bm Tryz.prog 199=some F8:=by kernel_rfl
theorem Zz:bn Tryz.prog 199=some LZ:=by kernel_rfl
def Ga:aT:=(.seq (.ai [ad 0 8 (.ap (.const (.int .u32 0)))])
 (.seq (.ai [af 0 9 0,
 af 1 10 1,
 ad 2 11 (.un .neg (U 10)),
 sc 3 12 203 [(U 9),(U 11)],
 af 4 13 0,
 af 5 14 2,
 ad 6 15 (.un .neg (U 14)),
 sc 7 16 203 [(U 13),(U 15)],
 ad 8 17 (.bin .xor 25 (U 12) (U 16)),
 af 9 18 0,
 af 10 19 3,
 ad 11 20 (.un .neg (U 19)),
 sc 12 21 203 [(U 18),(U 20)],
 ad 13 22 (.bin .xor 25 (U 17) (U 21)),
 af 14 8 22])
 .ret))
def L0:List a2:=[.ap (U 8)]
theorem Qx:bm Tryz.prog 200=some Ga:=by kernel_rfl
theorem ZB:bn Tryz.prog 200=some L0:=by kernel_rfl
def Gb:aT:=(.seq (.ai [ad 0 2 (.ap (.const (.int .i64 0))),
 ad 1 3 (.ap (.const (.int .u64 0)))])
 (.seq (.ai [af 0 4 0,
 ad 1 5 (.bin .shr 27 (U 4) (.const (.int .u64 52))),
 ad 2 6 (.ct .i64 (U 5)),
 ad 3 7 (.bin .and 3 (U 6) (.const (.int .i64 2047))),
 af 4 8 0,
 ad 5 9 (.bin .and 27 (U 8) (.const (.int .u64 4503599627370495))),
 af 6 2 7,
 af 7 3 9])
 .ret))
def L1:List a2:=[.ap (U 2),.ap (U 3)]
theorem Qy:bm Tryz.prog 201=some Gb:=by kernel_rfl
theorem ZC:bn Tryz.prog 201=some L1:=by kernel_rfl
def Wr:aT:=(.seq (.ai [ad 0 9 (.bin .lss 3 (U 8) (U 7))])
 (.seq (.cond (U 9) .skip (.exit 0))
 (.seq (.block 1 (.seq (.ai [af 0 10 8,
 af 1 5 10])
 (.seq (.ai [af 0 11 1,
 af 1 12 0,
 af 2 13 5,
 ad 3 14 (.bf (.ao 32) (U 12) (U 13)),
 ad 4 15 (.aX 32 (U 14)),
 ⟨5,(some 16),none,.gw (U 11) [(U 15)],[],false⟩])
 (.cond (U 16) (.seq (.ai [af 0 17 5,
 af 1 4 17])
 .ret) .skip))))
 (.ai [ad 0 18 (.bin .add 3 (U 8) (.const (.int .i64 1))),
 af 1 8 18]))))
def Gc:aT:=(.seq (.ai [ad 0 4 (.ap (.const (.int .i64 0)))])
 (.seq (.seq (.ai [af 0 6 0,
 ad 1 7 (.len (.ao 32) (U 6)),
 ad 2 8 (.ap (.const (.int .i64 0)))])
 (.block 0 (.loop Wr)))
 (.seq (.ai [ad 0 4 (.ap (.const (.int .i64 (-1))))])
 .ret)))
def L2:List a2:=[.ap (U 4)]
theorem Qz:bm Tryz.prog 202=some Gc:=by kernel_rfl
theorem ZD:bn Tryz.prog 202=some L2:=by kernel_rfl
def Gd:aT:=(.seq (.ai [ad 0 4 (.ap (.const (.int .u32 0)))])
 (.seq (.ai [af 0 6 1,
 ad 1 7 (.ct .u64 (U 6)),
 ad 2 8 (.bin .and 125 (U 7) (.const (.int .u64 31))),
 af 3 5 8])
 (.seq (.ai [af 0 9 0,
 af 1 10 5,
 ad 2 11 (.bin .shl 25 (U 9) (U 10)),
 af 3 12 0,
 af 4 13 5,
 ad 5 14 (.bin .sub 125 (.const (.int .u64 32)) (U 13)),
 ad 6 15 (.bin .shr 25 (U 12) (U 14)),
 ad 7 16 (.bin .or 25 (U 11) (U 15)),
 af 8 4 16])
 .ret)))
def L3:List a2:=[.ap (U 4)]
theorem QA:bm Tryz.prog 203=some Gd:=by kernel_rfl
theorem ZE:bn Tryz.prog 203=some L3:=by kernel_rfl
def ab5:cu (aT × List a2) :=(.node (.node (.node (.node (.node (.node (.node .nil (some (Gy,Mn)) (.node .nil (some (F1,LR)) .nil)) (some (Gj,L8)) (.node (.node .nil (some (FA,Lq)) .nil) (some (G3,ML)) .nil)) (some (yu,Lg)) (.node (.node (.node .nil (some (Fm,Lc)) .nil) (some (Rp,aau)) .nil) (some (Gp,Me)) (.node (.node .nil (some (FL,LB)) .nil) (some (EZ,KQ)) .nil))) none (.node (.node (.node (.node .nil (some (Fe,K4)) .nil) (some (Rk,aap)) (.node .nil (some (F8,LZ)) .nil)) (some (QO,ZS)) (.node (.node .nil (some (FH,Lx)) .nil) (some (O7,Ye)) .nil)) (some (QC,ZG)) (.node (.node (.node .nil (some (Fs,Li)) .nil) (some (GY,MG)) .nil) (some (Gu,Mj)) (.node (.node .nil (some (FT,LJ)) .nil) (some (E5,KW)) .nil)))) (some (jn,qQ)) (.node (.node (.node (.node .nil (some (GF,Mr)) (.node .nil (some (F4,LV)) .nil)) (some (Gl,Ma)) (.node (.node .nil (some (FD,Lt)) .nil) (some (G7,MP)) .nil)) (some (Qm,An)) (.node (.node (.node .nil (some (PJ,YO)) .nil) (some (GR,MC)) .nil) (some (Gs,Mh)) (.node (.node .nil (some (P9,Ze)) .nil) (some (E1,KS)) .nil))) (some (Pe,Yk)) (.node (.node (.node (.node .nil (some (Fi,K8)) .nil) (some (GM,My)) (.node .nil (some (Gd,L3)) .nil)) (some (QR,ZV)) (.node .nil (some (EV,KM)) .nil)) (some (QE,ZI)) (.node (.node (.node .nil (some (Be,DB)) .nil) (some (RB,aaH)) .nil) none (.node (.node .nil (some (FX,LN)) .nil) (some (E9,K0)) .nil))))) none (.node (.node (.node (.node (.node .nil (some (GC,Mp)) .nil) (some (QK,ZO)) (.node .nil (some (G5,MN)) .nil)) (some (FJ,xL)) (.node (.node (.node .nil (some (Fo,Ld)) .nil) (some (GO,MA)) .nil) (some (Gq,Mf)) (.node (.node .nil (some (FN,LD)) .nil) none .nil))) (some (Bg,aaF)) (.node (.node (.node (.node .nil (some (Fg,K6)) .nil) (some (GK,Mw)) (.node .nil (some (Gb,L1)) .nil)) (some (Gn,Md)) (.node .nil (some (EU,KL)) .nil)) none (.node (.node (.node .nil (some (Fu,Lk)) .nil) (some (G0,MI)) .nil) (some (Q5,Z9)) (.node (.node .nil (some (FV,LL)) .nil) (some (E7,KY)) .nil)))) (some (yw,tX)) (.node (.node (.node (.node .nil (some (GH,Mt)) (.node .nil (some (F6,LX)) .nil)) none (.node (.node .nil (some (FF,Lv)) .nil) (some (ES,KJ)) .nil)) none (.node (.node (.node .nil (some (Fq,Lf)) .nil) (some (GV,ME)) .nil) (some (Gt,Mi)) (.node (.node .nil (some (FR,LH)) .nil) (some (E3,KU)) .nil))) (some (Fc,K3)) (.node (.node (.node (.node .nil (some (Fk,La)) .nil) none .nil) (some (QT,ZX)) (.node .nil (some (Bd,DA)) .nil)) (some (Gh,L6)) (.node (.node (.node .nil (some (Fy,Lo)) .nil) (some (G1,MJ)) .nil) (some (Gw,Ml)) (.node (.node .nil (some (FZ,LP)) .nil) (some (Fb,K2)) .nil)))))) none (.node (.node (.node (.node (.node (.node .nil (some (Gz,Mo)) (.node .nil (some (F2,LS)) .nil)) (some (Gk,L9)) (.node (.node .nil (some (FB,Lr)) .nil) (some (G4,MM)) .nil)) none (.node (.node (.node .nil (some (PG,YL)) .nil) (some (Rq,aav)) .nil) (some (QW,Z0)) (.node (.node .nil (some (FM,LC)) .nil) (some (E0,KR)) .nil))) none (.node (.node (.node (.node .nil (some (Ff,K5)) .nil) (some (Bf,DC)) (.node .nil (some (Ga,L0)) .nil)) (some (QP,ZT)) (.node (.node .nil (some (FI,Ly)) .nil) (some (O8,Yf)) .nil)) (some (Gf,tW)) (.node (.node (.node .nil (some (Ft,Lj)) .nil) (some (GZ,MH)) .nil) (some (Gv,Mk)) (.node (.node .nil (some (FU,LK)) .nil) (some (E6,KX)) .nil)))) none (.node (.node (.node (.node .nil (some (GG,Ms)) (.node .nil (some (F5,LW)) .nil)) (some (QM,ZQ)) (.node (.node .nil (some (FE,Lu)) .nil) (some (ER,KI)) .nil)) (some (Qw,ZA)) (.node (.node (.node .nil (some (Fp,Le)) .nil) (some (GU,MD)) .nil) (some (Q0,Z4)) (.node (.node .nil (some (FQ,LG)) .nil) (some (E2,KT)) .nil))) none (.node (.node (.node (.node .nil (some (Fj,K9)) .nil) (some (GN,Mz)) .nil) (some (QS,ZW)) (.node .nil (some (EW,KN)) .nil)) (some (Gg,L5)) (.node (.node (.node .nil (some (Fx,Ln)) .nil) (some (RC,aaI)) .nil) (some (Q8,aae)) (.node (.node .nil (some (FY,LO)) .nil) (some (Fa,K1)) .nil))))) none (.node (.node (.node (.node (.node .nil (some (GD,Mq)) (.node .nil (some (F3,LU)) .nil)) none (.node (.node .nil (some (FC,Ls)) .nil) (some (G6,MO)) .nil)) (some (FP,xM)) (.node (.node (.node .nil (some (PI,YN)) .nil) (some (GQ,MB)) .nil) (some (Gr,Mg)) (.node (.node .nil (some (FO,LF)) .nil) none .nil))) (some (O3,Ya)) (.node (.node (.node (.node .nil (some (Fh,K7)) .nil) (some (GL,Mx)) (.node .nil (some (Gc,L2)) .nil)) none (.node .nil (some (Pb,Yh)) .nil)) none (.node (.node (.node .nil (some (Fv,Ll)) .nil) (some (RA,aaG)) .nil) (some (Q6,aac)) (.node (.node .nil (some (FW,LM)) .nil) (some (E8,KZ)) .nil)))) (some (yx,tY)) (.node (.node (.node (.node (.node .nil (some (Pv,YA)) .nil) (some (GI,Mu)) (.node .nil (some (F7,LY)) .nil)) (some (Gm,Mb)) (.node (.node .nil (some (FG,Lw)) .nil) (some (ET,KK)) .nil)) (some (Ge,L4)) (.node (.node (.node .nil (some (Fr,Lh)) .nil) (some (GX,MF)) .nil) (some (Q2,Z6)) (.node (.node .nil (some (FS,LI)) .nil) (some (E4,KV)) .nil))) none (.node (.node (.node (.node .nil (some (Fl,Lb)) .nil) none .nil) (some (QU,ZY)) (.node (.node .nil (some (FK,LA)) .nil) (some (EY,KP)) .nil)) (some (Gi,L7)) (.node (.node (.node .nil (some (Fz,Lp)) .nil) (some (G2,MK)) .nil) (some (Gx,Mm)) (.node (.node .nil (some (F0,LQ)) .nil) (some (Pu,Yz)) .nil)))))))
theorem ao3:nn (N6 Tryz.prog) ab5:=(iP (iP (bo ⟨aez,amT⟩ (iP (bo ⟨PV,Y0⟩ (bo ⟨QI,ZM⟩ (bo ⟨Rb,aah⟩ bh (bo ⟨Qo,Zs⟩ bh bh)) (bo ⟨RF,aaL⟩ (bo ⟨PU,YZ⟩ bh bh) bh)) (bo ⟨QV,ZZ⟩ (bo ⟨aeN,am7⟩ (bo ⟨PF,YK⟩ bh bh) bh) (bo ⟨Pg,Ym⟩ (bo ⟨P5,Za⟩ bh bh) bh))) (bo ⟨aeu,amO⟩ (bo ⟨aey,amS⟩ (bo ⟨aeM,am6⟩ (bo ⟨Pw,YB⟩ bh bh) (bo ⟨Qv,Zz⟩ bh bh)) (bo ⟨aeh,amB⟩ (bo ⟨P2,Y7⟩ bh bh) bh)) (bo ⟨Q3,Z7⟩ (bo ⟨Rx,aaC⟩ (bo ⟨PN,YS⟩ bh bh) bh) (bo ⟨Pn,Ys⟩ (bo ⟨Qe,Zj⟩ bh bh) bh)))) (bo ⟨ael,amF⟩ (bo ⟨aes,amM⟩ (bo ⟨QL,ZP⟩ (bo ⟨Rg,aal⟩ bh (bo ⟨Qr,Zv⟩ bh bh)) (bo ⟨RJ,aaP⟩ (bo ⟨PY,Y3⟩ bh bh) bh)) (bo ⟨QZ,Z3⟩ (bo ⟨Rt,aay⟩ (bo ⟨aeq,amK⟩ bh bh) bh) (bo ⟨Pj,Yo⟩ (bo ⟨aer,amL⟩ bh bh) bh))) (bo ⟨aev,amP⟩ (bo ⟨aeB,amV⟩ (bo ⟨Rn,aas⟩ (bo ⟨PA,YF⟩ bh bh) (bo ⟨QA,ZE⟩ bh bh)) (bo ⟨Pc,Yi⟩ bh bh)) (iP (bo ⟨aeQ,ana⟩ (bo ⟨Fw,Lm⟩ bh bh) bh) (bo ⟨Pr,Yw⟩ (bo ⟨Qi,Zn⟩ bh bh) bh))))) (bo ⟨Q7,aad⟩ (bo ⟨aeS,anc⟩ (bo ⟨Qa,Zf⟩ (bo ⟨aew,amQ⟩ (bo ⟨Re,aaj⟩ bh bh) (bo ⟨RH,aaN⟩ bh bh)) (bo ⟨QX,Z1⟩ (bo ⟨Rr,aaw⟩ (bo ⟨PH,YM⟩ bh bh) bh) (iP (bo ⟨P7,Zc⟩ bh bh) bh))) (iP (bo ⟨QQ,ZU⟩ (bo ⟨Rl,aaq⟩ (bo ⟨Py,YD⟩ bh bh) (bo ⟨Qy,ZC⟩ bh bh)) (bo ⟨O9,Yg⟩ bh bh)) (bo ⟨aeI,am2⟩ (bo ⟨Rz,aaE⟩ (bo ⟨PP,YU⟩ bh bh) bh) (bo ⟨Pp,Yu⟩ (bo ⟨Qg,Zl⟩ bh bh) bh)))) (bo ⟨PB,YG⟩ (iP (iP (bo ⟨Ri,aan⟩ bh (bo ⟨Qt,Zx⟩ bh bh)) (bo ⟨O5,Yc⟩ (bo ⟨P0,Y5⟩ bh bh) bh)) (bo ⟨Q1,Z5⟩ (bo ⟨Rv,aaA⟩ (bo ⟨PL,YQ⟩ bh bh) bh) (bo ⟨Pl,Yq⟩ (bo ⟨Qc,Zh⟩ bh bh) bh))) (bo ⟨QG,ZK⟩ (bo ⟨aeD,amX⟩ (iP (bo ⟨PD,YI⟩ bh bh) bh) (bo ⟨EX,KO⟩ bh bh)) (bo ⟨Q9,aaf⟩ (bo ⟨RD,aaJ⟩ (bo ⟨PS,YX⟩ bh bh) bh) (bo ⟨Pt,Yy⟩ (bo ⟨Qk,Zp⟩ bh bh) bh)))))) (iP (iP (iP (iP (bo ⟨QJ,ZN⟩ (bo ⟨Rc,aai⟩ bh (bo ⟨Qp,Zt⟩ bh bh)) (bo ⟨RG,aaM⟩ (bo ⟨PW,Y1⟩ bh bh) bh)) (bo ⟨aeF,amZ⟩ (bo ⟨aeO,am8⟩ (bo ⟨aeo,amI⟩ bh bh) bh) (bo ⟨Ph,Yn⟩ (bo ⟨P6,Zb⟩ bh bh) bh))) (bo ⟨QD,ZH⟩ (bo ⟨aeA,amU⟩ (bo ⟨GJ,Mv⟩ (bo ⟨Px,YC⟩ bh bh) (bo ⟨Qx,ZB⟩ bh bh)) (bo ⟨aei,amC⟩ (bo ⟨P3,Y8⟩ bh bh) bh)) (bo ⟨Q4,Z8⟩ (bo ⟨Ry,aaD⟩ (bo ⟨PO,YT⟩ bh bh) bh) (bo ⟨Po,Yt⟩ (bo ⟨Qf,Zk⟩ bh bh) bh)))) (iP (bo ⟨aet,amN⟩ (bo ⟨aex,amR⟩ (bo ⟨Rh,aam⟩ bh (bo ⟨Qs,Zw⟩ bh bh)) (bo ⟨O4,Yb⟩ (bo ⟨PZ,Y4⟩ bh bh) bh)) (bo ⟨aeG,am0⟩ (bo ⟨Ru,aaz⟩ (bo ⟨PK,YP⟩ bh bh) bh) (bo ⟨Pk,Yp⟩ (bo ⟨Qb,Zg⟩ bh bh) bh))) (bo ⟨QF,ZJ⟩ (bo ⟨aeC,amW⟩ (bo ⟨Ro,aat⟩ (bo ⟨PC,YH⟩ bh bh) bh) (bo ⟨Pd,Yj⟩ bh bh)) (bo ⟨aeK,am4⟩ (bo ⟨aeR,anb⟩ (bo ⟨PR,YW⟩ bh bh) bh) (bo ⟨Ps,Yx⟩ (bo ⟨Qj,Zo⟩ bh bh) bh))))) (bo ⟨aeL,am5⟩ (bo ⟨aek,amE⟩ (bo ⟨Ql,Zq⟩ (iP (bo ⟨Rf,aak⟩ bh (bo ⟨Qq,Zu⟩ bh bh)) (bo ⟨RI,aaO⟩ (bo ⟨PX,Y2⟩ bh bh) bh)) (bo ⟨QY,Z2⟩ (bo ⟨Rs,aax⟩ (bo ⟨aep,amJ⟩ bh bh) bh) (iP (bo ⟨P8,Zd⟩ bh bh) bh))) (iP (iP (bo ⟨Rm,aar⟩ (bo ⟨Pz,YE⟩ bh bh) (bo ⟨Qz,ZD⟩ bh bh)) (bo ⟨aej,amD⟩ bh bh)) (bo ⟨aeJ,am3⟩ (bo ⟨aeP,am9⟩ (bo ⟨PQ,YV⟩ bh bh) bh) (bo ⟨Pq,Yv⟩ (bo ⟨Qh,Zm⟩ bh bh) bh)))) (iP (bo ⟨QB,ZF⟩ (bo ⟨QN,ZR⟩ (bo ⟨Rj,aao⟩ (bo ⟨aen,amH⟩ bh bh) (bo ⟨Qu,Zy⟩ bh bh)) (bo ⟨O6,Yd⟩ (bo ⟨P1,Y6⟩ bh bh) bh)) (bo ⟨aeH,am1⟩ (bo ⟨Rw,aaB⟩ (bo ⟨PM,YR⟩ bh bh) bh) (bo ⟨Pm,Yr⟩ (bo ⟨Qd,Zi⟩ bh bh) bh))) (bo ⟨QH,ZL⟩ (bo ⟨aeE,amY⟩ (iP (bo ⟨PE,YJ⟩ bh bh) bh) (bo ⟨Pf,Yl⟩ (bo ⟨P4,Y9⟩ bh bh) bh)) (bo ⟨Ra,aag⟩ (bo ⟨RE,aaK⟩ (bo ⟨PT,YY⟩ bh bh) bh) (bo ⟨aem,amG⟩ (bo ⟨Qn,Zr⟩ bh bh) bh)))))))
theorem ui:ye Tryz.prog (fun f=>ab5.get f) :=ao2 ao3
end Go.cj
