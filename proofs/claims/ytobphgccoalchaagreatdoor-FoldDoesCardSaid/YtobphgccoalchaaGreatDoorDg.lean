/-
  The code of the functions, without types, as the canonical machine reads it (printed by program).
-/
import Derived.Test.YtobphgccoalchaaGreatDoorDf
import Derived.Test.YtobphgccoalchaaGreatDoorRows
import Derived.ProofKit
set_option linter.unusedVariables false
set_option linter.unusedSimpArgs false
set_option linter.unnecessarySimpa false
namespace Go.ct
open Go Go.Proofs
set_option maxRecDepth 100000
abbrev aV (i d n x:Nat) :dD:=ao i d (.zj n (.tmp x))
abbrev aX (i d x:Nat) :dD:=ao i d (.ld1 (.tmp x))
abbrev bi (i d z x:Nat) :dD:=ao i d (.eg z (.tmp x))
abbrev cN (i d x k:Nat) :dD:=ao i d (.ext (.tmp x) k)
abbrev b0 (i d z x y:Nat) :dD:=ao i d (.ff (.av z) (.tmp x) (.tmp y))
abbrev b1 (i d z x:Nat) :dD:=ao i d (.len (.av z) (.tmp x))
abbrev bq (i d:Nat) (o:BinOp) (t x y:Nat) :dD:=ao i d (.bin o t (.tmp x) (.tmp y))
abbrev a6 (i d:Nat) (o:BinOp) (t x:Nat) (n:Int) :dD:=ao i d (.bin o t (.tmp x) (.const (.int .i64 n)))
abbrev aU (i d:Nat) (n:Int) :dD:=ao i d (.aO (.const (.int .i64 n)))
abbrev bG (i z x y:Nat) :dD:=rG i (.st z (.tmp x) (.tmp y))
abbrev e5 (i d x y:Nat) :dD:=ao i d (.pick (.tmp x) (.const (.bool true)) (.tmp y))
abbrev e6 (i d x y:Nat) :dD:=ao i d (.pick (.tmp x) (.tmp y) (.const (.bool false)))
abbrev cz (i d j:Nat) (w:Bool) (n x:Nat) :dD:=dV i d j w (.zj n (.tmp x))
abbrev dz (i d j:Nat) (w:Bool) (x:Nat) :dD:=dV i d j w (.ld1 (.tmp x))
abbrev eI (i d j:Nat) (w:Bool) (z x:Nat) :dD:=dV i d j w (.eg z (.tmp x))
abbrev kJ (i d j:Nat) (w:Bool) (z x y:Nat) :dD:=dV i d j w (.ff (.av z) (.tmp x) (.tmp y))
abbrev dr (i d j:Nat) (w:Bool) (x:Nat) :dD:=dV i d j w (.aO (.tmp x))
abbrev jM (i d j:Nat) (w:Bool) (o:BinOp) (t x y:Nat) :dD:=dV i d j w (.bin o t (.tmp x) (.tmp y))
abbrev fy (i d j:Nat) (w:Bool) (o:BinOp) (t x:Nat) (n:Int) :dD:=dV i d j w (.bin o t (.tmp x) (.const (.int .i64 n)))
abbrev aj (s:List dD) (c:aT) :aT:=.seq (.bH s) c
abbrev cD (i d:Nat) (b:Bool) :dD:=ao i d (.aO (.const (.bool b)))
def ie:aT:=(aj [ao 0 5 (.box (ae 0)),
 ao 1 6 (.box (ae 1)),
 ao 2 7 (.box (ae 2)),
 ao 3 8 (.box (ae 3)),
 cD 4 10 false]
 (.seq (aj [bi 0 23 4 5,
 sc 1 24 18 [(ae 23)],
 af 2 25 24,
 eI 3 26 25 false 4 6,
 ⟨4,(some 27),(some ((some 25),false)),.cO 18 [(ae 26)],[],false⟩,
 e5 5 28 25 27,
 af 6 29 28,
 eI 7 30 29 false 2 7,
 ⟨8,(some 31),(some ((some 29),false)),.cO 10 [(ae 30)],[],false⟩,
 e5 9 32 29 31,
 af 10 33 32,
 dr 11 34 33 false 4,
 dV 12 35 33 false (.len .str (ae 34)),
 fy 13 36 33 false .gtr 3 35 100,
 e5 14 37 33 36]
 (.cond (ae 37) (aj [cD 0 10 true]
 .ret) .skip))
 (.seq (.hc [bi 0 38 4 5,
 ⟨2,(some 40),none,.cM (.eg 2 (ae 7)),[],true⟩,
 ⟨4,(some 11),none,.cM (.alloc [.int .i64 0,.aK,.aK,.aK]),[],true⟩,
 ⟨5,(some 12),none,.cM (.alloc [.aK,.aK]),[],true⟩,
 ⟨1,(some 39),none,.cO 16 [(ae 38)],[5,4,2],false⟩,
 ⟨3,(some 41),none,.cO 19 [(ae 40)],[5,4],false⟩,
 bG 6 4 11 39,
 bG 7 2 12 41])
 (aj [bi 0 43 4 11,
 bi 1 44 2 12,
 bi 2 45 32 8,
 sc 3 46 20 [(ae 43),(ae 44),(ae 45)],
 af 4 42 46,
 cN 5 47 42 0,
 cN 6 48 42 1,
 ao 7 13 (.alloc [.int .i64 0,.aK,.aK,.aK]),
 bG 8 4 13 47,
 af 9 14 48]
 (aj [bi 0 50 4 5,
 bi 1 51 2 7,
 bi 2 52 32 8,
 sc 3 53 21 [(ae 50),(ae 51),(ae 52)],
 af 4 49 53,
 cN 5 54 49 0,
 cN 6 55 49 1,
 ao 7 15 (.alloc [.int .i64 0,.aK,.aK,.aK]),
 bG 8 4 15 54,
 af 9 16 55]
 (aj [bi 0 57 4 11,
 af 1 58 4,
 sc 2 59 13 [(ae 57),(ae 58)],
 af 3 56 59,
 cN 4 60 56 0,
 cN 5 61 56 1,
 cN 6 62 56 2,
 ao 7 18 (.alloc [.int .u8 0,.int .i64 0,.int .u64 0,.str []]),
 af 8 17 60,
 bG 9 4 18 61,
 af 10 19 62]
 (aj [bi 0 64 4 5,
 af 1 65 4,
 sc 2 66 22 [(ae 64),(ae 65)],
 af 3 63 66,
 cN 4 67 63 0,
 cN 5 68 63 1,
 cN 6 69 63 2,
 ao 7 21 (.alloc [.int .u8 0,.int .i64 0,.int .u64 0,.str []]),
 af 8 20 67,
 bG 9 4 21 68,
 af 10 22 69]
 (.seq (.hc [ao 1 71 (.dp [.int .i64 0,.aK,.aK,.aK] []),
 sc 0 70 24 [],
 sc 2 72 23 [(ae 70),(ae 71)],
 af 3 73 72,
 eI 4 74 73 true 4 11,
 ⟨6,(some 76),(some ((some 73),true)),.cM (.eg 4 (ae 5)),[],true⟩,
 ⟨5,(some 75),(some ((some 73),true)),.cO 25 [(ae 74)],[6],false⟩,
 ⟨7,(some 77),(some ((some 73),true)),.cO 26 [(ae 76)],[],false⟩,
 jM 8 78 73 true .eql 3 75 77,
 e6 9 79 73 78,
 af 10 80 79,
 eI 11 81 80 true 4 13,
 eI 12 82 80 true 4 15,
 ⟨13,(some 83),(some ((some 80),true)),.cO 23 [(ae 81),(ae 82)],[],false⟩,
 e6 14 84 80 83,
 af 15 85 84,
 dr 16 86 85 true 14,
 dr 17 87 85 true 16,
 jM 18 88 85 true .eql 3 86 87,
 e6 19 89 85 88,
 af 20 90 89,
 dr 21 91 90 true 17,
 dr 22 92 90 true 20,
 jM 23 93 90 true .eql 4 91 92,
 e6 24 94 90 93,
 af 25 95 94,
 eI 26 96 95 true 4 18,
 eI 27 97 95 true 4 21,
 jM 28 98 95 true .eql 42 96 97,
 e6 29 99 95 98,
 af 30 100 99,
 dr 31 101 100 true 19,
 dr 32 102 100 true 22,
 jM 33 103 100 true .eql 3 101 102,
 e6 34 104 100 103,
 af 35 105 104,
 eI 36 106 105 true 4 5,
 eI 37 107 105 true 4 6,
 ⟨39,(some 109),(some ((some 105),true)),.cM (.eg 4 (ae 5)),[],true⟩,
 ⟨40,(some 110),(some ((some 105),true)),.cM (.eg 4 (ae 6)),[],true⟩,
 ⟨38,(some 108),(some ((some 105),true)),.cO 17 [(ae 106),(ae 107)],[40,39],false⟩,
 ⟨41,(some 111),(some ((some 105),true)),.cO 23 [(ae 109),(ae 110)],[],false⟩,
 jM 42 112 105 true .eql 4 108 111,
 e6 43 113 105 112,
 af 44 114 113,
 eI 45 115 114 true 4 5,
 eI 46 116 114 true 4 11,
 ⟨47,(some 117),(some ((some 114),true)),.cO 17 [(ae 115),(ae 116)],[],false⟩,
 e6 48 118 114 117,
 af 49 119 118,
 eI 50 120 119 true 4 11,
 eI 51 121 119 true 4 5,
 ⟨52,(some 122),(some ((some 119),true)),.cO 23 [(ae 120),(ae 121)],[],false⟩,
 e6 53 123 119 122,
 af 54 124 123,
 eI 55 125 124 true 2 12,
 eI 56 126 124 true 2 7,
 ⟨57,(some 127),(some ((some 124),true)),.cO 27 [(ae 125),(ae 126)],[],false⟩,
 e6 58 128 124 127,
 af 59 10 128])
 .ret))))))))
def qC:List bf:=[.aO (ae 10)]
theorem ahp:bx Tryz.prog 4=some ie:=by kernel_rfl
theorem ar7:bz Tryz.prog 4=some qC:=by kernel_rfl
def VZ:aT:=(.seq (aj [af 0 4 3,
 aV 1 5 1 1,
 aX 2 6 5,
 b1 3 7 11 6,
 bq 4 8 .lss 3 4 7,
 af 5 9 8,
 dr 6 10 9 true 3,
 fy 7 11 9 true .leq 3 10 70,
 e6 8 12 9 11]
 (.cond (ae 12) .skip (.exit 0)))
 (.seq (.block 1 (aj [aV 0 15 1 1,
 aX 1 16 15,
 af 2 17 3,
 b0 3 18 11 16 17,
 bi 4 19 11 18,
 sc 5 20 38 [(ae 19)]]
 (.cond (ae 20) (aj [cD 0 2 true]
 .ret) .skip)))
 (.bH [af 0 13 3,
 a6 1 14 .add 3 13 1,
 af 2 3 14])))
def OE:aT:=(aj [ao 0 1 (.box (ae 0)),
 cD 1 2 false]
 (.seq (aj [aU 0 3 0]
 (.block 0 (.loop VZ)))
 (aj [aV 0 21 1 1,
 aX 1 22 21,
 b1 2 23 11 22,
 a6 3 24 .gtr 3 23 16,
 af 4 25 24,
 cz 5 26 25 true 1 1,
 dz 6 27 25 true 26,
 dV 7 28 25 true (.len (.av 11) (ae 27)),
 fy 8 29 25 true .leq 3 28 60,
 e6 9 30 25 29,
 af 10 31 30,
 cz 11 32 31 false 1 1,
 dz 12 33 31 false 32,
 dV 13 34 31 false (.len (.av 11) (ae 33)),
 fy 14 35 31 false .gtr 3 34 70,
 e5 15 36 31 35,
 af 16 37 36,
 cz 17 38 37 false 0 1,
 dz 18 39 37 false 38,
 dV 19 40 37 false (.len (.av 32) (ae 39)),
 fy 20 41 37 false .gtr 3 40 70,
 e5 21 42 37 41,
 af 22 2 42]
 .ret)))
def YB:List bf:=[.aO (ae 2)]
theorem afb:bx Tryz.prog 10=some OE:=by kernel_rfl
theorem apR:bz Tryz.prog 10=some YB:=by kernel_rfl
def V4:aT:=(.seq (aj [af 0 15 3,
 aV 1 16 1 1,
 aX 2 17 16,
 b1 3 18 11 17,
 bq 4 19 .lss 3 15 18]
 (.cond (ae 19) .skip (.exit 0)))
 (.seq (.block 1 (.seq (.hc [aV 0 22 1 1,
 aX 1 23 22,
 af 2 24 3,
 b0 3 25 11 23 24,
 bi 4 26 11 25,
 sc 5 27 39 [(ae 26)],
 a6 6 28 .neq 3 27 0,
 af 7 29 28,
 cz 8 30 29 false 1 1,
 dz 9 31 29 false 30,
 dr 10 32 29 false 3,
 kJ 11 33 29 false 11 31 32,
 eI 12 34 29 false 11 33,
 cz 14 36 29 false 0 1,
 ⟨15,(some 37),(some ((some 29),false)),.cM (.ld1 (ae 36)),[],true⟩,
 dr 16 38 29 false 3,
 kJ 17 39 29 false 32 37 38,
 ⟨18,(some 40),(some ((some 29),false)),.cM (.eg 32 (ae 39)),[],true⟩,
 ⟨13,(some 35),(some ((some 29),false)),.cO 33 [(ae 34)],[18,15],false⟩,
 jM 19 41 29 false .neq 48 35 40,
 e5 20 42 29 41])
 (.cond (ae 42) (aj [aU 0 2 8]
 .ret) .skip)))
 (.bH [af 0 20 3,
 a6 1 21 .add 3 20 1,
 af 2 3 21])))
def OQ:aT:=(aj [ao 0 1 (.box (ae 0)),
 aU 1 2 0]
 (.seq (aj [aV 0 4 1 1,
 aX 1 5 4,
 b1 2 6 11 5,
 a6 3 7 .gtr 3 6 60]
 (.cond (ae 7) (aj [aU 0 2 4]
 .ret) .skip))
 (.seq (aj [aV 0 8 0 1,
 aX 1 9 8,
 b1 2 10 32 9,
 aV 3 11 1 1,
 aX 4 12 11,
 b1 5 13 11 12,
 bq 6 14 .neq 3 10 13]
 (.cond (ae 14) (aj [aU 0 2 8]
 .ret) .skip))
 (.seq (aj [aU 0 3 0]
 (.block 0 (.loop V4)))
 (aj [bi 0 43 2 1,
 sc 1 44 40 [(ae 43)],
 af 2 2 44]
 .ret)))))
def YM:List bf:=[.aO (ae 2)]
theorem afk:bx Tryz.prog 11=some OQ:=by kernel_rfl
theorem ap0:bz Tryz.prog 11=some YM:=by kernel_rfl
def O9:aT:=(aj [ao 0 2 (.box (ae 0)),
 cD 1 4 false,
 ao 2 5 (.alloc [.int .u8 0,.int .i64 0,.int .u64 0,.str []]),
 aU 3 6 0]
 (.seq (aj [bi 0 8 4 2,
 sc 1 9 25 [(ae 8)],
 af 2 7 9]
 (aj [af 0 10 7,
 a6 1 11 .neq 37 10 0]
 (.cond (ae 11) (aj [ao 0 12 (.dp [.int .u8 0,.int .i64 0,.int .u64 0,.str []] []),
 af 1 13 7,
 cD 2 4 false,
 bG 3 4 5 12,
 af 4 6 13]
 .ret) .skip)))
 (aj [aV 0 15 1 2,
 bi 1 16 1 15,
 af 2 17 1,
 sc 3 18 44 [(ae 16),(ae 17)],
 af 4 14 18,
 cN 5 19 14 0,
 cN 6 20 14 1,
 af 7 4 19]
 (aj [aV 0 22 2 2,
 bi 1 23 1 22,
 af 2 24 1,
 sc 3 25 45 [(ae 23),(ae 24)],
 af 4 21 25,
 cN 5 26 21 0,
 cN 6 27 21 1,
 bG 7 4 5 26]
 (aj [af 0 28 4,
 bi 1 29 4 5,
 af 2 4 28,
 bG 3 4 5 29,
 aU 4 6 0]
 .ret)))))
def Y4:List bf:=[.aO (ae 4),.eg 4 (ae 5),.aO (ae 6)]
theorem afB:bx Tryz.prog 13=some O9:=by kernel_rfl
theorem aqh:bz Tryz.prog 13=some Y4:=by kernel_rfl
def Wh:aT:=(.seq (aj [af 0 6 5,
 af 1 7 0,
 b1 2 8 33 7,
 bq 3 9 .lss 3 6 8]
 (.cond (ae 9) .skip (.exit 0)))
 (.seq (.block 1 (aj [af 0 12 0,
 af 1 13 5,
 b0 2 14 33 12 13,
 aV 3 15 0 14,
 aX 4 16 15,
 af 5 17 1,
 bq 6 18 .eql 9 16 17]
 (.cond (ae 18) (aj [cD 0 4 true]
 .ret) .skip)))
 (.bH [af 0 10 5,
 a6 1 11 .add 3 10 1,
 af 2 5 11])))
def Pj:aT:=(aj [cD 0 4 false]
 (.seq (aj [aU 0 5 0]
 (.block 0 (.loop Wh)))
 (aj [cD 0 4 false]
 .ret)))
def Zc:List bf:=[.aO (ae 4)]
theorem afL:bx Tryz.prog 14=some Pj:=by kernel_rfl
theorem aqr:bz Tryz.prog 14=some Zc:=by kernel_rfl
def Wk:aT:=(.seq (aj [af 0 6 5,
 af 1 7 0,
 b1 2 8 38 7,
 bq 3 9 .lss 3 6 8]
 (.cond (ae 9) .skip (.exit 0)))
 (.seq (.block 1 (aj [af 0 12 0,
 af 1 13 5,
 b0 2 14 38 12 13,
 aV 3 15 0 14,
 aX 4 16 15,
 af 5 17 1,
 bq 6 18 .eql 9 16 17]
 (.cond (ae 18) (aj [af 0 19 5,
 af 1 4 19]
 .ret) .skip)))
 (.bH [af 0 10 5,
 a6 1 11 .add 3 10 1,
 af 2 5 11])))
def EA:aT:=(aj [aU 0 4 0]
 (.seq (aj [aU 0 5 0]
 (.block 0 (.loop Wk)))
 (aj [aU 0 4 (-1)]
 .ret)))
def Zn:List bf:=[.aO (ae 4)]
theorem afU:bx Tryz.prog 15=some EA:=by kernel_rfl
theorem aqA:bz Tryz.prog 15=some Zn:=by kernel_rfl
def u9:aT:=(aj [ao 0 1 (.box (ae 0)),
 ao 1 2 (.alloc [.int .i64 0,.aK,.aK,.aK])]
 (.seq (.hc [aV 0 3 0 1,
 ⟨1,(some 4),none,.cM (.ld1 (ae 3)),[],true⟩,
 ao 2 5 (.dh 33 ([.str []]++rep 32 (.int .u8 0)) 0 []),
 aV 3 6 1 1,
 aV 4 7 0 6,
 aX 5 8 7,
 ⟨8,(some 11),none,.cM (.dh 38 ([.str [],.int .u8 0,.int .i64 0,.int .u64 0,.str [],.int .u64 0]++rep 32 (.int .u8 0)) 0 []),[],true⟩,
 aV 9 12 2 1,
 aV 10 13 0 12,
 ⟨11,(some 14),none,.cM (.ld1 (ae 13)),[],true⟩,
 ⟨14,(some 17),none,.cM (.dh 32 (rep 32 (.int .u8 0)) 0 []),[],true⟩,
 aV 15 18 3 1,
 ⟨16,(some 19),none,.cM (.ld1 (ae 18)),[],true⟩,
 ⟨6,(some 9),none,.cM (.app 33 48 (ae 5) (ae 8)),[16,14,11,8,1],false⟩,
 ao 7 10 (.dp [.aK] [(0,1,(ae 9))]),
 ⟨12,(some 15),none,.cM (.app 38 96 (ae 11) (ae 14)),[16,14,1],false⟩,
 ao 13 16 (.dp [.aK] [(0,1,(ae 15))]),
 ⟨17,(some 20),none,.cM (.app 32 32 (ae 17) (ae 19)),[1],false⟩,
 ao 18 21 (.dp [.int .i64 0,.aK,.aK,.aK] [(0,1,(ae 4)),(1,1,(ae 10)),(2,1,(ae 16)),(3,1,(ae 20))]),
 bG 19 4 2 21])
 .ret))
def Zw:List bf:=[.eg 4 (ae 2)]
theorem af2:bx Tryz.prog 16=some u9:=by kernel_rfl
theorem aqI:bz Tryz.prog 16=some Zw:=by kernel_rfl
def PJ:aT:=(aj [ao 0 2 (.box (ae 0)),
 ao 1 3 (.box (ae 1)),
 cD 2 4 false]
 (aj [aV 0 5 0 2,
 aX 1 6 5,
 aV 2 7 0 3,
 aX 3 8 7,
 bq 4 9 .eql 3 6 8,
 af 5 10 9,
 cz 6 11 10 true 1 2,
 cz 7 12 10 true 0 11,
 dz 8 13 10 true 12,
 cz 9 14 10 true 1 3,
 cz 10 15 10 true 0 14,
 dz 11 16 10 true 15,
 ⟨12,(some 17),(some ((some 10),true)),.cO 46 [(ae 13),(ae 16)],[],false⟩,
 e6 13 18 10 17,
 af 14 19 18,
 cz 15 20 19 true 2 2,
 cz 16 21 19 true 0 20,
 dz 17 22 19 true 21,
 cz 18 23 19 true 2 3,
 cz 19 24 19 true 0 23,
 dz 20 25 19 true 24,
 ⟨21,(some 26),(some ((some 19),true)),.cO 47 [(ae 22),(ae 25)],[],false⟩,
 e6 22 27 19 26,
 af 23 28 27,
 cz 24 29 28 true 3 2,
 dz 25 30 28 true 29,
 cz 26 31 28 true 3 3,
 dz 27 32 28 true 31,
 ⟨28,(some 33),(some ((some 28),true)),.cO 48 [(ae 30),(ae 32)],[],false⟩,
 e6 29 34 28 33,
 af 30 4 34]
 .ret))
def DG:List bf:=[.aO (ae 4)]
theorem agc:bx Tryz.prog 17=some PJ:=by kernel_rfl
theorem aqS:bz Tryz.prog 17=some DG:=by kernel_rfl
def PT:aT:=(aj [ao 0 1 (.box (ae 0)),
 cD 1 2 false]
 (aj [aV 0 3 1 1,
 bi 1 4 1 3,
 sc 2 5 49 [(ae 4)],
 af 3 6 5,
 cz 4 7 6 false 2 1,
 eI 5 8 6 false 1 7,
 ⟨6,(some 9),(some ((some 6),false)),.cO 50 [(ae 8)],[],false⟩,
 e5 7 10 6 9,
 af 8 11 10,
 cz 9 12 11 false 3 1,
 dz 10 13 11 false 12,
 dV 11 14 11 false (.len (.av 32) (ae 13)),
 fy 12 15 11 false .gtr 3 14 100,
 e5 13 16 11 15,
 af 14 2 16]
 .ret))
def DH:List bf:=[.aO (ae 2)]
theorem age:bx Tryz.prog 18=some PT:=by kernel_rfl
theorem aqU:bz Tryz.prog 18=some DH:=by kernel_rfl
def WA:aT:=(.seq (aj [af 0 10 4,
 aV 1 11 1 1,
 aX 2 12 11,
 b1 3 13 11 12,
 bq 4 14 .lss 3 10 13]
 (.cond (ae 14) .skip (.exit 0)))
 (.seq (.block 1 (.hc [aV 0 17 1 3,
 ⟨1,(some 18),none,.cM (.ld1 (ae 17)),[],true⟩,
 aV 2 19 1 1,
 aX 3 20 19,
 af 4 21 4,
 b0 5 22 11 20 21,
 bi 6 23 11 22,
 ⟨7,(some 24),none,.cO 51 [(ae 23)],[1],false⟩,
 ao 8 25 (.dh 11 [.int .u32 0,.aK,.int .u64 0,.int .u8 0,.str [],.int .u8 0,.int .i64 0,.int .u64 0,.str [],.int .u32 0,.int .u32 0] 1 [(0,(ae 24))]),
 ao 9 26 (.app 11 112 (ae 18) (ae 25)),
 aV 10 27 1 3,
 bG 11 1 27 26]))
 (.bH [af 0 15 4,
 a6 1 16 .add 3 15 1,
 af 2 4 16])))
def PV:aT:=(aj [ao 0 1 (.box (ae 0)),
 ao 1 2 (.alloc [.aK,.aK])]
 (aj [ao 0 5 (.dh 32 (rep 32 (.int .u8 0)) 0 []),
 aV 1 6 0 1,
 aX 2 7 6,
 ao 3 8 (.app 32 32 (ae 5) (ae 7)),
 ao 4 9 (.dp [.aK,.aK] [(0,1,(ae 8))]),
 ao 5 3 (.alloc [.aK,.aK]),
 bG 6 2 3 9]
 (.seq (aj [aU 0 4 0]
 (.block 0 (.loop WA)))
 (aj [bi 0 28 2 3,
 bG 1 2 2 28]
 .ret))))
def DI:List bf:=[.eg 2 (ae 2)]
theorem agn:bx Tryz.prog 19=some PV:=by kernel_rfl
theorem aq2:bz Tryz.prog 19=some DI:=by kernel_rfl
def P4:aT:=(aj [ao 0 3 (.box (ae 0)),
 ao 1 4 (.box (ae 1)),
 ao 2 5 (.box (ae 2)),
 ao 3 6 (.alloc [.int .i64 0,.aK,.aK,.aK]),
 aU 4 7 0]
 (.seq (aj [bi 0 10 4 3,
 sc 1 11 25 [(ae 10)],
 af 2 8 11]
 (aj [af 0 12 8,
 a6 1 13 .neq 37 12 0]
 (.cond (ae 13) (aj [ao 0 14 (.dp [.int .i64 0,.aK,.aK,.aK] []),
 af 1 15 8,
 bG 2 4 6 14,
 af 3 7 15]
 .ret) .skip)))
 (.seq (aj [bi 0 16 2 4,
 sc 1 17 52 [(ae 16)],
 af 2 9 17]
 (aj [af 0 18 9,
 a6 1 19 .neq 37 18 0]
 (.cond (ae 19) (aj [ao 0 20 (.dp [.int .i64 0,.aK,.aK,.aK] []),
 af 1 21 9,
 bG 2 4 6 20,
 af 3 7 21]
 .ret) .skip)))
 (aj [bi 0 22 4 3,
 bi 1 23 2 4,
 bi 2 24 32 5,
 sc 3 25 53 [(ae 22),(ae 23),(ae 24)],
 cN 4 26 25 0,
 cN 5 27 25 1,
 bG 6 4 6 26,
 af 7 7 27]
 .ret))))
def ZW:List bf:=[.eg 4 (ae 6),.aO (ae 7)]
theorem agw:bx Tryz.prog 20=some P4:=by kernel_rfl
theorem arb:bz Tryz.prog 20=some ZW:=by kernel_rfl
def Qd:aT:=(aj [ao 0 3 (.box (ae 0)),
 ao 1 4 (.box (ae 1)),
 ao 2 5 (.box (ae 2)),
 ao 3 6 (.alloc [.int .i64 0,.aK,.aK,.aK]),
 aU 4 7 0]
 (.seq (aj [bi 0 8 4 3,
 sc 1 9 26 [(ae 8)],
 a6 2 10 .neq 3 9 0]
 (.cond (ae 10) (aj [ao 0 11 (.dp [.int .i64 0,.aK,.aK,.aK] []),
 bi 1 12 4 3,
 sc 2 13 26 [(ae 12)],
 bG 3 4 6 11,
 af 4 7 13]
 .ret) .skip))
 (.seq (aj [bi 0 14 2 4,
 sc 1 15 11 [(ae 14)],
 a6 2 16 .neq 3 15 0]
 (.cond (ae 16) (aj [ao 0 17 (.dp [.int .i64 0,.aK,.aK,.aK] []),
 bi 1 18 2 4,
 sc 2 19 11 [(ae 18)],
 bG 3 4 6 17,
 af 4 7 19]
 .ret) .skip))
 (aj [bi 0 20 4 3,
 bi 1 21 2 4,
 bi 2 22 32 5,
 sc 3 23 54 [(ae 20),(ae 21),(ae 22)],
 cN 4 24 23 0,
 cN 5 25 23 1,
 bG 6 4 6 24,
 af 7 7 25]
 .ret))))
def Z5:List bf:=[.eg 4 (ae 6),.aO (ae 7)]
theorem agz:bx Tryz.prog 21=some Qd:=by kernel_rfl
theorem arf:bz Tryz.prog 21=some Z5:=by kernel_rfl
def Qg:aT:=(aj [ao 0 2 (.box (ae 0)),
 cD 1 4 false,
 ao 2 5 (.alloc [.int .u8 0,.int .i64 0,.int .u64 0,.str []]),
 aU 3 6 0]
 (.seq (aj [bi 0 9 4 2,
 sc 1 10 26 [(ae 9)],
 a6 2 11 .neq 3 10 0]
 (.cond (ae 11) (aj [ao 0 12 (.dp [.int .u8 0,.int .i64 0,.int .u64 0,.str []] []),
 bi 1 13 4 2,
 sc 2 14 26 [(ae 13)],
 cD 3 4 false,
 bG 4 4 5 12,
 af 5 6 14]
 .ret) .skip))
 (aj [aV 0 16 2 2,
 bi 1 17 1 16,
 af 2 18 1,
 sc 3 19 55 [(ae 17),(ae 18)],
 af 4 15 19,
 cN 5 20 15 0,
 cN 6 21 15 1,
 ao 7 7 (.alloc [.int .u8 0,.int .i64 0,.int .u64 0,.str []]),
 bG 8 4 7 20,
 af 9 8 21]
 (.seq (.hc [aV 0 22 1 2,
 aV 1 23 0 22,
 aX 2 24 23,
 af 3 25 1,
 ⟨5,(some 27),none,.cM (.eg 4 (ae 7)),[],true⟩,
 ⟨4,(some 26),none,.cO 14 [(ae 24),(ae 25)],[5],false⟩,
 af 6 4 26,
 bG 7 4 5 27,
 aU 8 6 0])
 .ret))))
def Z8:List bf:=[.aO (ae 4),.eg 4 (ae 5),.aO (ae 6)]
theorem agI:bx Tryz.prog 22=some Qg:=by kernel_rfl
theorem arp:bz Tryz.prog 22=some Z8:=by kernel_rfl
def Qp:aT:=(aj [ao 0 2 (.box (ae 0)),
 ao 1 3 (.box (ae 1)),
 cD 2 4 false]
 (aj [aV 0 5 0 2,
 aX 1 6 5,
 aV 2 7 0 3,
 aX 3 8 7,
 bq 4 9 .eql 3 6 8,
 af 5 10 9,
 cz 6 11 10 true 1 2,
 eI 7 12 10 true 1 11,
 cz 8 13 10 true 1 3,
 eI 9 14 10 true 1 13,
 ⟨10,(some 15),(some ((some 10),true)),.cO 56 [(ae 12),(ae 14)],[],false⟩,
 e6 11 16 10 15,
 af 12 17 16,
 cz 13 18 17 true 2 2,
 eI 14 19 17 true 1 18,
 cz 15 20 17 true 2 3,
 eI 16 21 17 true 1 20,
 ⟨17,(some 22),(some ((some 17),true)),.cO 57 [(ae 19),(ae 21)],[],false⟩,
 e6 18 23 17 22,
 af 19 24 23,
 cz 20 25 24 true 3 2,
 dz 21 26 24 true 25,
 cz 22 27 24 true 3 3,
 dz 23 28 24 true 27,
 ⟨24,(some 29),(some ((some 24),true)),.cO 37 [(ae 26),(ae 28)],[],false⟩,
 e6 25 30 24 29,
 af 26 4 30]
 .ret))
def aaj:List bf:=[.aO (ae 4)]
theorem agO:bx Tryz.prog 23=some Qp:=by kernel_rfl
theorem arw:bz Tryz.prog 23=some aaj:=by kernel_rfl
def Qw:aT:=(aj [ao 0 0 (.alloc [.int .i64 0,.aK,.aK,.aK])]
 (aj [ao 0 1 (.dp [.int .i64 0,.aK,.aK,.aK] []),
 bG 1 4 0 1]
 .ret))
def yt:List bf:=[.eg 4 (ae 0)]
theorem agW:bx Tryz.prog 24=some Qw:=by kernel_rfl
theorem arE:bz Tryz.prog 24=some yt:=by kernel_rfl
def WR:aT:=(.seq (aj [af 0 43 4,
 af 1 44 3,
 bq 2 45 .lss 3 43 44]
 (.cond (ae 45) .skip (.exit 0)))
 (.seq (.block 1 (aj [aV 0 48 3 1,
 aX 1 49 48,
 af 2 50 4,
 a6 3 51 .sub 3 50 1,
 b0 4 52 32 49 51,
 bi 5 53 32 52,
 aV 6 54 3 1,
 aX 7 55 54,
 af 8 56 4,
 b0 9 57 32 55 56,
 bi 10 58 32 57,
 sc 11 59 60 [(ae 53),(ae 58)],
 a6 12 60 .geq 3 59 0]
 (.cond (ae 60) (aj [aU 0 2 8]
 .ret) .skip)))
 (.bH [af 0 46 4,
 a6 1 47 .add 3 46 1,
 af 2 4 47])))
def QE:aT:=(aj [ao 0 1 (.box (ae 0)),
 aU 1 2 0]
 (aj [aV 0 5 3 1,
 aX 1 6 5,
 b1 2 7 32 6,
 af 3 3 7]
 (.seq (aj [aV 0 8 0 1,
 aX 1 9 8,
 a6 2 10 .lss 3 9 0,
 af 3 11 10,
 cz 4 12 11 false 0 1,
 dz 5 13 11 false 12,
 fy 6 14 11 false .gtr 3 13 60,
 e5 7 15 11 14,
 af 8 16 15,
 dr 9 17 16 false 3,
 cz 10 18 16 false 0 1,
 dz 11 19 16 false 18,
 jM 12 20 16 false .gtr 3 17 19,
 e5 13 21 16 20,
 af 14 22 21,
 dr 15 23 22 false 3,
 fy 16 24 22 false .eql 3 23 0,
 dr 17 25 22 false 24,
 cz 18 26 25 true 0 1,
 dz 19 27 25 true 26,
 fy 20 28 25 true .gtr 3 27 0,
 dV 21 29 22 false (.pick (ae 25) (ae 28) (.const (.bool false))),
 e5 22 30 22 29,
 af 23 31 30,
 cz 24 32 31 false 1 1,
 eI 25 33 31 false 1 32,
 ⟨26,(some 34),(some ((some 31),false)),.cO 58 [(ae 33)],[],false⟩,
 fy 27 35 31 false .neq 37 34 0,
 e5 28 36 31 35,
 af 29 37 36,
 cz 30 38 37 false 2 1,
 eI 31 39 37 false 1 38,
 ⟨32,(some 40),(some ((some 37),false)),.cO 59 [(ae 39)],[],false⟩,
 fy 33 41 37 false .neq 37 40 0,
 e5 34 42 37 41]
 (.cond (ae 42) (aj [aU 0 2 8]
 .ret) .skip))
 (.seq (aj [aU 0 4 1]
 (.block 0 (.loop WR)))
 (aj [aU 0 2 0]
 .ret)))))
def aax:List bf:=[.aO (ae 2)]
theorem ag4:bx Tryz.prog 25=some QE:=by kernel_rfl
theorem arM:bz Tryz.prog 25=some aax:=by kernel_rfl
def QM:aT:=(aj [ao 0 1 (.box (ae 0)),
 aU 1 2 0]
 (.seq (aj [aV 0 3 0 1,
 aX 1 4 3,
 a6 2 5 .lss 3 4 0,
 af 3 6 5,
 cz 4 7 6 false 0 1,
 dz 5 8 6 false 7,
 fy 6 9 6 false .gtr 3 8 60,
 e5 7 10 6 9,
 af 8 11 10,
 cz 9 12 11 false 3 1,
 dz 10 13 11 false 12,
 dV 11 14 11 false (.len (.av 32) (ae 13)),
 cz 12 15 11 false 0 1,
 dz 13 16 11 false 15,
 jM 14 17 11 false .gtr 3 14 16,
 e5 15 18 11 17,
 af 16 19 18,
 cz 17 20 19 false 3 1,
 dz 18 21 19 false 20,
 dV 19 22 19 false (.len (.av 32) (ae 21)),
 fy 20 23 19 false .eql 3 22 0,
 dr 21 24 19 false 23,
 cz 22 25 24 true 0 1,
 dz 23 26 24 true 25,
 fy 24 27 24 true .gtr 3 26 0,
 dV 25 28 19 false (.pick (ae 24) (ae 27) (.const (.bool false))),
 e5 26 29 19 28,
 af 27 30 29,
 cz 28 31 30 false 3 1,
 dz 29 32 30 false 31,
 ⟨30,(some 33),(some ((some 30),false)),.cO 61 [(ae 32)],[],false⟩,
 dV 31 34 30 false (.un .not (ae 33)),
 e5 32 35 30 34]
 (.cond (ae 35) (aj [aU 0 2 8]
 .ret) .skip))
 (.seq (aj [aV 0 36 1 1,
 bi 1 37 1 36,
 sc 2 38 62 [(ae 37)],
 a6 3 39 .neq 3 38 0,
 af 4 40 39,
 cz 5 41 40 false 2 1,
 eI 6 42 40 false 1 41,
 ⟨7,(some 43),(some ((some 40),false)),.cO 63 [(ae 42)],[],false⟩,
 fy 8 44 40 false .neq 3 43 0,
 e5 9 45 40 44]
 (.cond (ae 45) (aj [aU 0 2 8]
 .ret) .skip))
 (aj [aU 0 2 0]
 .ret))))
def aaF:List bf:=[.aO (ae 2)]
theorem ahb:bx Tryz.prog 26=some QM:=by kernel_rfl
theorem arT:bz Tryz.prog 26=some aaF:=by kernel_rfl
def WU:aT:=(.seq (aj [af 0 21 5,
 aV 1 22 1 2,
 aX 2 23 22,
 b1 3 24 11 23,
 bq 4 25 .lss 3 21 24]
 (.cond (ae 25) .skip (.exit 0)))
 (.seq (.block 1 (aj [aV 0 28 1 2,
 aX 1 29 28,
 af 2 30 5,
 b0 3 31 11 29 30,
 bi 4 32 11 31,
 aV 5 33 1 3,
 aX 6 34 33,
 af 7 35 5,
 b0 8 36 11 34 35,
 bi 9 37 11 36,
 sc 10 38 64 [(ae 32),(ae 37)],
 ao 11 39 (.un .not (ae 38))]
 (.cond (ae 39) (aj [cD 0 4 false]
 .ret) .skip)))
 (.bH [af 0 26 5,
 a6 1 27 .add 3 26 1,
 af 2 5 27])))
def QT:aT:=(aj [ao 0 2 (.box (ae 0)),
 ao 1 3 (.box (ae 1)),
 cD 2 4 false]
 (.seq (aj [aV 0 6 0 2,
 aX 1 7 6,
 aV 2 8 0 3,
 aX 3 9 8,
 sc 4 10 37 [(ae 7),(ae 9)],
 ao 5 11 (.un .not (ae 10)),
 af 6 12 11,
 cz 7 13 12 false 1 2,
 dz 8 14 12 false 13,
 dV 9 15 12 false (.len (.av 11) (ae 14)),
 cz 10 16 12 false 1 3,
 dz 11 17 12 false 16,
 dV 12 18 12 false (.len (.av 11) (ae 17)),
 jM 13 19 12 false .neq 3 15 18,
 e5 14 20 12 19]
 (.cond (ae 20) (aj [cD 0 4 false]
 .ret) .skip))
 (.seq (aj [aU 0 5 0]
 (.block 0 (.loop WU)))
 (aj [cD 0 4 true]
 .ret))))
def aaM:List bf:=[.aO (ae 4)]
theorem ahc:bx Tryz.prog 27=some QT:=by kernel_rfl
theorem arU:bz Tryz.prog 27=some aaM:=by kernel_rfl
def QU:aT:=(aj [ao 0 1 (.box (ae 0)),
 ao 1 2 (.alloc (rep 32 (.int .u8 0)))]
 (aj [bi 0 3 11 1,
 sc 1 4 78 [(ae 3)],
 sc 2 5 77 [(ae 4)],
 bG 3 32 2 5]
 .ret))
def aaN:List bf:=[.eg 32 (ae 2)]
theorem ahd:bx Tryz.prog 33=some QU:=by kernel_rfl
theorem arV:bz Tryz.prog 33=some aaN:=by kernel_rfl
def QV:aT:=(aj [ao 0 2 (.box (ae 0)),
 ao 1 3 (.box (ae 1)),
 ao 2 4 (.alloc [.int .u32 0,.aK,.int .u64 0,.int .u8 0,.str [],.int .u8 0,.int .i64 0,.int .u64 0,.str [],.int .u32 0,.int .u32 0])]
 (aj [aV 0 6 0 2,
 aX 1 7 6,
 bi 2 8 32 3,
 sc 3 9 75 [(ae 7),(ae 8)],
 af 4 5 9]
 (.seq (aj [af 0 10 5,
 a6 1 11 .lss 3 10 0,
 af 2 12 11,
 dr 3 13 12 false 5,
 cz 4 14 12 false 1 2,
 dz 5 15 12 false 14,
 dV 6 16 12 false (.len (.av 11) (ae 15)),
 jM 7 17 12 false .geq 3 13 16,
 e5 8 18 12 17]
 (.cond (ae 18) (aj [ao 0 19 (.dp [.int .u32 0,.aK,.int .u64 0,.int .u8 0,.str [],.int .u8 0,.int .i64 0,.int .u64 0,.str [],.int .u32 0,.int .u32 0] []),
 bG 1 11 4 19]
 .ret) .skip))
 (aj [aV 0 20 1 2,
 aX 1 21 20,
 af 2 22 5,
 b0 3 23 11 21 22,
 bi 4 24 11 23,
 bG 5 11 4 24]
 .ret))))
def aaO:List bf:=[.eg 11 (ae 4)]
theorem ahe:bx Tryz.prog 35=some QV:=by kernel_rfl
theorem arW:bz Tryz.prog 35=some aaO:=by kernel_rfl
def WV:aT:=(.seq (aj [af 0 11 5,
 af 1 12 0,
 b1 2 13 32 12,
 bq 3 14 .lss 3 11 13]
 (.cond (ae 14) .skip (.exit 0)))
 (.seq (.block 1 (aj [af 0 17 0,
 af 1 18 5,
 b0 2 19 32 17 18,
 bi 3 20 32 19,
 af 4 21 1,
 af 5 22 5,
 b0 6 23 32 21 22,
 bi 7 24 32 23,
 bq 8 25 .neq 48 20 24]
 (.cond (ae 25) (aj [cD 0 4 false]
 .ret) .skip)))
 (.bH [af 0 15 5,
 a6 1 16 .add 3 15 1,
 af 2 5 16])))
def QW:aT:=(aj [cD 0 4 false]
 (.seq (aj [af 0 6 0,
 b1 1 7 32 6,
 af 2 8 1,
 b1 3 9 32 8,
 bq 4 10 .neq 3 7 9]
 (.cond (ae 10) (aj [cD 0 4 false]
 .ret) .skip))
 (.seq (aj [aU 0 5 0]
 (.block 0 (.loop WV)))
 (aj [cD 0 4 true]
 .ret))))
def aaP:List bf:=[.aO (ae 4)]
theorem ahf:bx Tryz.prog 37=some QW:=by kernel_rfl
theorem arX:bz Tryz.prog 37=some aaP:=by kernel_rfl
def QX:aT:=(aj [ao 0 1 (.box (ae 0)),
 cD 1 2 false]
 (aj [aV 0 3 1 1,
 aX 1 4 3,
 b1 2 5 32 4,
 a6 3 6 .gtr 3 5 20,
 af 4 7 6,
 cz 5 8 7 false 3 1,
 cz 6 9 7 false 1 8,
 dz 7 10 7 false 9,
 dV 8 11 7 false (.len .str (ae 10)),
 fy 9 12 7 false .gtr 3 11 100,
 e5 10 13 7 12,
 af 11 14 13,
 cz 12 15 14 false 3 1,
 cz 13 16 14 false 2 15,
 cz 14 17 14 false 3 16,
 dz 15 18 14 false 17,
 dV 16 19 14 false (.len .str (ae 18)),
 fy 17 20 14 false .gtr 3 19 100,
 e5 18 21 14 20,
 af 19 2 21]
 .ret))
def aaQ:List bf:=[.aO (ae 2)]
theorem ahg:bx Tryz.prog 38=some QX:=by kernel_rfl
theorem arY:bz Tryz.prog 38=some aaQ:=by kernel_rfl
def QY:aT:=(aj [ao 0 1 (.box (ae 0)),
 aU 1 2 0]
 (.seq (aj [bi 0 3 11 1,
 sc 1 4 81 [(ae 3)],
 a6 2 5 .neq 3 4 0]
 (.cond (ae 5) (aj [bi 0 6 11 1,
 sc 1 7 81 [(ae 6)],
 af 2 2 7]
 .ret) .skip))
 (.seq (aj [bi 0 8 11 1,
 sc 1 9 82 [(ae 8)],
 ao 2 10 (.un .not (ae 9))]
 (.cond (ae 10) (aj [aU 0 2 22]
 .ret) .skip))
 (aj [aU 0 2 0]
 .ret))))
def aaR:List bf:=[.aO (ae 2)]
theorem ahh:bx Tryz.prog 39=some QY:=by kernel_rfl
theorem arZ:bz Tryz.prog 39=some aaR:=by kernel_rfl
def WW:aT:=(.seq (aj [af 0 8 3,
 aV 1 9 1 1,
 aX 2 10 9,
 b1 3 11 11 10,
 bq 4 12 .lss 3 8 11]
 (.cond (ae 12) .skip (.exit 0)))
 (.seq (.block 1 (aj [aV 0 15 0 1,
 aX 1 16 15,
 aV 2 17 1 1,
 aX 3 18 17,
 af 4 19 3,
 b0 5 20 11 18 19,
 aV 6 21 1 20,
 aX 7 22 21,
 sc 8 23 80 [(ae 16),(ae 22)],
 ao 9 24 (.un .not (ae 23))]
 (.cond (ae 24) (aj [aU 0 2 40]
 .ret) .skip)))
 (.bH [af 0 13 3,
 a6 1 14 .add 3 13 1,
 af 2 3 14])))
def QZ:aT:=(aj [ao 0 1 (.box (ae 0)),
 aU 1 2 0]
 (.seq (aj [aV 0 4 0 1,
 aX 1 5 4,
 sc 2 6 61 [(ae 5)],
 ao 3 7 (.un .not (ae 6))]
 (.cond (ae 7) (aj [aU 0 2 32]
 .ret) .skip))
 (.seq (aj [aU 0 3 0]
 (.block 0 (.loop WW)))
 (.seq (.seq (.hc [bi 0 25 2 1,
 aV 3 28 1 1,
 ⟨4,(some 29),none,.cM (.ld1 (ae 28)),[],true⟩,
 b1 5 30 11 29,
 ⟨1,(some 26),none,.cO 83 [(ae 25)],[4],false⟩,
 b1 2 27 1 26,
 bq 6 31 .lss 3 27 30])
 (.cond (ae 31) (aj [aU 0 2 36]
 .ret) .skip))
 (aj [aU 0 2 0]
 .ret)))))
def aaS:List bf:=[.aO (ae 2)]
theorem ahi:bx Tryz.prog 40=some QZ:=by kernel_rfl
theorem ar0:bz Tryz.prog 40=some aaS:=by kernel_rfl
def Q0:aT:=(aj [ao 0 2 (.box (ae 0)),
 cD 1 4 false,
 aU 2 5 0]
 (aj [bi 0 9 1 2,
 sc 1 10 90 [(ae 9)],
 af 2 8 10,
 cN 3 11 8 0,
 cN 4 12 8 1,
 af 5 6 11,
 af 6 7 12]
 (aj [af 0 13 6,
 af 1 14 1,
 sc 2 15 91 [(ae 13),(ae 14)],
 af 3 16 7,
 af 4 4 15,
 af 5 5 16]
 .ret)))
def aaT:List bf:=[.aO (ae 4),.aO (ae 5)]
theorem ahj:bx Tryz.prog 44=some Q0:=by kernel_rfl
theorem ar1:bz Tryz.prog 44=some aaT:=by kernel_rfl
def Q1:aT:=(aj [ao 0 2 (.box (ae 0)),
 ao 1 4 (.alloc [.int .u8 0,.int .i64 0,.int .u64 0,.str []]),
 aU 2 5 0]
 (.seq (aj [bi 0 9 1 2,
 sc 1 10 59 [(ae 9)],
 af 2 6 10]
 (aj [af 0 11 6,
 a6 1 12 .neq 37 11 0]
 (.cond (ae 12) (aj [ao 0 13 (.dp [.int .u8 0,.int .i64 0,.int .u64 0,.str []] []),
 af 1 14 6,
 bG 2 4 4 13,
 af 3 5 14]
 .ret) .skip)))
 (aj [aV 0 16 0 2,
 aX 1 17 16,
 af 2 18 1,
 sc 3 19 92 [(ae 17),(.func 93),(ae 18)],
 af 4 15 19,
 cN 5 20 15 0,
 cN 6 21 15 1,
 af 7 7 20,
 af 8 8 21]
 (.seq (aj [af 0 22 8,
 ao 1 23 (.un .not (ae 22))]
 (.cond (ae 23) (aj [ao 0 24 (.dp [.int .u8 0,.int .i64 0,.int .u64 0,.str []] []),
 bG 1 4 4 24,
 aU 2 5 6]
 .ret) .skip))
 (aj [aV 0 25 0 2,
 aX 1 26 25,
 af 2 27 7,
 b0 3 28 38 26 27,
 aV 4 29 1 28,
 bi 5 30 4 29,
 bG 6 4 4 30,
 aU 7 5 0]
 .ret)))))
def aaU:List bf:=[.eg 4 (ae 4),.aO (ae 5)]
theorem ahk:bx Tryz.prog 45=some Q1:=by kernel_rfl
theorem ar2:bz Tryz.prog 45=some aaU:=by kernel_rfl
def WX:aT:=(aj [bq 0 14 .lss 3 13 12]
 (.seq (.cond (ae 14) .skip (.exit 0))
 (.seq (.block 1 (aj [af 0 15 13,
 af 1 5 15]
 (aj [af 0 16 0,
 af 1 17 5,
 b0 2 18 33 16 17,
 bi 3 19 33 18,
 af 4 20 1,
 af 5 21 5,
 b0 6 22 33 20 21,
 bi 7 23 33 22,
 bq 8 24 .neq 53 19 23]
 (.cond (ae 24) (aj [cD 0 4 false]
 .ret) .skip))))
 (.bH [a6 0 25 .add 3 13 1,
 af 1 13 25]))))
def Q2:aT:=(aj [cD 0 4 false]
 (.seq (aj [af 0 6 0,
 b1 1 7 33 6,
 af 2 8 1,
 b1 3 9 33 8,
 bq 4 10 .neq 3 7 9]
 (.cond (ae 10) (aj [cD 0 4 false]
 .ret) .skip))
 (.seq (aj [af 0 11 0,
 b1 1 12 33 11,
 aU 2 13 0]
 (.block 0 (.loop WX)))
 (aj [cD 0 4 true]
 .ret))))
def aaV:List bf:=[.aO (ae 4)]
theorem ahl:bx Tryz.prog 46=some Q2:=by kernel_rfl
theorem ar3:bz Tryz.prog 46=some aaV:=by kernel_rfl
def WY:aT:=(aj [bq 0 14 .lss 3 13 12]
 (.seq (.cond (ae 14) .skip (.exit 0))
 (.seq (.block 1 (aj [af 0 15 13,
 af 1 5 15]
 (aj [af 0 16 0,
 af 1 17 5,
 b0 2 18 38 16 17,
 bi 3 19 38 18,
 af 4 20 1,
 af 5 21 5,
 b0 6 22 38 20 21,
 bi 7 23 38 22,
 bq 8 24 .neq 50 19 23]
 (.cond (ae 24) (aj [cD 0 4 false]
 .ret) .skip))))
 (.bH [a6 0 25 .add 3 13 1,
 af 1 13 25]))))
def Q3:aT:=(aj [cD 0 4 false]
 (.seq (aj [af 0 6 0,
 b1 1 7 38 6,
 af 2 8 1,
 b1 3 9 38 8,
 bq 4 10 .neq 3 7 9]
 (.cond (ae 10) (aj [cD 0 4 false]
 .ret) .skip))
 (.seq (aj [af 0 11 0,
 b1 1 12 38 11,
 aU 2 13 0]
 (.block 0 (.loop WY)))
 (aj [cD 0 4 true]
 .ret))))
def aaW:List bf:=[.aO (ae 4)]
theorem ahm:bx Tryz.prog 47=some Q3:=by kernel_rfl
theorem ar4:bz Tryz.prog 47=some aaW:=by kernel_rfl
def WZ:aT:=(aj [bq 0 14 .lss 3 13 12]
 (.seq (.cond (ae 14) .skip (.exit 0))
 (.seq (.block 1 (aj [af 0 15 13,
 af 1 5 15]
 (aj [af 0 16 0,
 af 1 17 5,
 b0 2 18 32 16 17,
 bi 3 19 32 18,
 af 4 20 1,
 af 5 21 5,
 b0 6 22 32 20 21,
 bi 7 23 32 22,
 bq 8 24 .neq 48 19 23]
 (.cond (ae 24) (aj [cD 0 4 false]
 .ret) .skip))))
 (.bH [a6 0 25 .add 3 13 1,
 af 1 13 25]))))
def Q4:aT:=(aj [cD 0 4 false]
 (.seq (aj [af 0 6 0,
 b1 1 7 32 6,
 af 2 8 1,
 b1 3 9 32 8,
 bq 4 10 .neq 3 7 9]
 (.cond (ae 10) (aj [cD 0 4 false]
 .ret) .skip))
 (.seq (aj [af 0 11 0,
 b1 1 12 32 11,
 aU 2 13 0]
 (.block 0 (.loop WZ)))
 (aj [cD 0 4 true]
 .ret))))
def aaX:List bf:=[.aO (ae 4)]
theorem ahn:bx Tryz.prog 48=some Q4:=by kernel_rfl
theorem ar5:bz Tryz.prog 48=some aaX:=by kernel_rfl
def W0:aT:=(.seq (aj [af 0 4 3,
 aV 1 5 0 1,
 aX 2 6 5,
 b1 3 7 33 6,
 bq 4 8 .lss 3 4 7,
 af 5 9 8,
 dr 6 10 9 true 3,
 fy 7 11 9 true .leq 3 10 100,
 e6 8 12 9 11]
 (.cond (ae 12) .skip (.exit 0)))
 (.seq (.block 1 (aj [aV 0 15 0 1,
 aX 1 16 15,
 af 2 17 3,
 b0 3 18 33 16 17,
 aV 4 19 0 18,
 aX 5 20 19,
 ao 6 21 (.len .str (ae 20)),
 a6 7 22 .gtr 3 21 100]
 (.cond (ae 22) (aj [cD 0 2 true]
 .ret) .skip)))
 (.bH [af 0 13 3,
 a6 1 14 .add 3 13 1,
 af 2 3 14])))
def Q5:aT:=(aj [ao 0 1 (.box (ae 0)),
 cD 1 2 false]
 (.seq (aj [aU 0 3 0]
 (.block 0 (.loop W0)))
 (aj [aV 0 23 0 1,
 aX 1 24 23,
 b1 2 25 33 24,
 a6 3 26 .gtr 3 25 100,
 af 4 2 26]
 .ret)))
def aaY:List bf:=[.aO (ae 2)]
theorem aho:bx Tryz.prog 49=some Q5:=by kernel_rfl
theorem ar6:bz Tryz.prog 49=some aaY:=by kernel_rfl
def W1:aT:=(.seq (aj [af 0 4 3,
 aV 1 5 0 1,
 aX 2 6 5,
 b1 3 7 38 6,
 bq 4 8 .lss 3 4 7,
 af 5 9 8,
 dr 6 10 9 true 3,
 fy 7 11 9 true .leq 3 10 100,
 e6 8 12 9 11]
 (.cond (ae 12) .skip (.exit 0)))
 (.seq (.block 1 (aj [aV 0 15 0 1,
 aX 1 16 15,
 af 2 17 3,
 b0 3 18 38 16 17,
 aV 4 19 0 18,
 aX 5 20 19,
 ao 6 21 (.len .str (ae 20)),
 a6 7 22 .gtr 3 21 100,
 af 8 23 22,
 cz 9 24 23 false 0 1,
 dz 10 25 23 false 24,
 dr 11 26 23 false 3,
 kJ 12 27 23 false 38 25 26,
 cz 13 28 23 false 1 27,
 cz 14 29 23 false 3 28,
 dz 15 30 23 false 29,
 dV 16 31 23 false (.len .str (ae 30)),
 fy 17 32 23 false .gtr 3 31 100,
 e5 18 33 23 32]
 (.cond (ae 33) (aj [cD 0 2 true]
 .ret) .skip)))
 (.bH [af 0 13 3,
 a6 1 14 .add 3 13 1,
 af 2 3 14])))
def Q6:aT:=(aj [ao 0 1 (.box (ae 0)),
 cD 1 2 false]
 (.seq (aj [aU 0 3 0]
 (.block 0 (.loop W1)))
 (aj [aV 0 34 0 1,
 aX 1 35 34,
 b1 2 36 38 35,
 a6 3 37 .gtr 3 36 100,
 af 4 2 37]
 .ret)))
def aaZ:List bf:=[.aO (ae 2)]
theorem ahq:bx Tryz.prog 50=some Q6:=by kernel_rfl
theorem ar8:bz Tryz.prog 50=some aaZ:=by kernel_rfl
def Q7:aT:=(aj [ao 0 1 (.box (ae 0)),
 ao 1 2 (.alloc [.int .u32 0,.aK,.int .u64 0,.int .u8 0,.str [],.int .u8 0,.int .i64 0,.int .u64 0,.str [],.int .u32 0,.int .u32 0])]
 (aj [ao 0 3 (.dh 32 (rep 32 (.int .u8 0)) 0 []),
 aV 1 4 1 1,
 aX 2 5 4,
 ao 3 6 (.app 32 32 (ae 3) (ae 5)),
 aV 4 7 1 1,
 bG 5 1 7 6]
 (aj [bi 0 8 11 1,
 bG 1 11 2 8]
 .ret)))
def aa0:List bf:=[.eg 11 (ae 2)]
theorem ahr:bx Tryz.prog 51=some Q7:=by kernel_rfl
theorem ar9:bz Tryz.prog 51=some aa0:=by kernel_rfl
def W2:aT:=(aj [bq 0 22 .lss 3 21 20]
 (.seq (.cond (ae 22) .skip (.exit 0))
 (.seq (.block 1 (aj [af 0 23 21,
 b0 1 24 11 19 21,
 bi 2 25 11 24,
 ao 3 4 (.alloc [.int .u32 0,.aK,.int .u64 0,.int .u8 0,.str [],.int .u8 0,.int .i64 0,.int .u64 0,.str [],.int .u32 0,.int .u32 0]),
 af 4 3 23,
 bG 5 11 4 25]
 (aj [bi 0 27 11 4,
 sc 1 28 94 [(ae 27)],
 af 2 26 28,
 cN 3 29 26 0,
 cN 4 30 26 1,
 ao 5 5 (.alloc (rep 32 (.int .u8 0))),
 bG 6 32 5 29,
 af 7 6 30]
 (aj [af 0 31 6,
 a6 1 32 .neq 37 31 0,
 af 2 33 32,
 eI 3 34 33 false 32 5,
 cz 4 35 33 false 0 1,
 dz 5 36 33 false 35,
 dr 6 37 33 false 3,
 kJ 7 38 33 false 32 36 37,
 eI 8 39 33 false 32 38,
 jM 9 40 33 false .neq 48 34 39,
 e5 10 41 33 40,
 af 11 42 41,
 eI 12 43 42 false 11 4,
 ⟨13,(some 44),(some ((some 42),false)),.cO 95 [(ae 43)],[],false⟩,
 fy 14 45 42 false .neq 37 44 0,
 e5 15 46 42 45]
 (.cond (ae 46) (aj [aU 0 2 8]
 .ret) .skip)))))
 (.bH [a6 0 47 .add 3 21 1,
 af 1 21 47]))))
def Q8:aT:=(aj [ao 0 1 (.box (ae 0)),
 aU 1 2 0]
 (.seq (aj [aV 0 7 1 1,
 aX 1 8 7,
 b1 2 9 11 8,
 a6 3 10 .gtr 3 9 60]
 (.cond (ae 10) (aj [aU 0 2 4]
 .ret) .skip))
 (.seq (aj [aV 0 11 0 1,
 aX 1 12 11,
 b1 2 13 32 12,
 aV 3 14 1 1,
 aX 4 15 14,
 b1 5 16 11 15,
 bq 6 17 .neq 3 13 16]
 (.cond (ae 17) (aj [aU 0 2 8]
 .ret) .skip))
 (.seq (aj [aV 0 18 1 1,
 aX 1 19 18,
 b1 2 20 11 19,
 aU 3 21 0]
 (.block 0 (.loop W2)))
 (aj [bi 0 48 2 1,
 sc 1 49 96 [(ae 48)],
 af 2 2 49]
 .ret)))))
def aa1:List bf:=[.aO (ae 2)]
theorem ahs:bx Tryz.prog 52=some Q8:=by kernel_rfl
theorem asa:bz Tryz.prog 52=some aa1:=by kernel_rfl
def W3:aT:=(aj [bq 0 73 .lss 3 72 71]
 (.seq (.cond (ae 73) .skip (.exit 0))
 (.seq (.block 1 (aj [b0 0 74 32 70 72,
 bi 1 75 32 74,
 ao 2 14 (.alloc (rep 32 (.int .u8 0))),
 bG 3 32 14 75]
 (aj [aV 0 76 1 8,
 aX 1 77 76,
 bi 2 78 32 14,
 sc 3 79 70 [(ae 77),(ae 78)],
 ao 4 80 (.un .not (ae 79))]
 (.cond (ae 80) (.bH [aV 0 81 3 12,
 aX 1 82 81,
 bi 2 83 32 14,
 ao 3 84 (.dh 32 (rep 32 (.int .u8 0)) 1 [(0,(ae 83))]),
 ao 4 85 (.app 32 32 (ae 82) (ae 84)),
 aV 5 86 3 12,
 bG 6 1 86 85]) .skip))))
 (.bH [a6 0 87 .add 3 72 1,
 af 1 72 87]))))
def Q9:aT:=(aj [ao 0 3 (.box (ae 0)),
 ao 1 4 (.box (ae 1)),
 ao 2 5 (.box (ae 2)),
 ao 3 6 (.alloc [.int .i64 0,.aK,.aK,.aK]),
 aU 4 7 0]
 (aj [bi 0 16 2 4,
 bi 1 17 32 5,
 sc 2 18 68 [(ae 16),(ae 17)],
 af 3 15 18,
 cN 4 19 15 0,
 cN 5 20 15 1,
 ao 6 8 (.alloc [.int .u32 0,.aK,.int .u64 0,.int .u8 0,.str [],.int .u8 0,.int .i64 0,.int .u64 0,.str [],.int .u32 0,.int .u32 0]),
 bG 7 11 8 19,
 af 8 9 20]
 (.seq (aj [af 0 21 9,
 a6 1 22 .neq 37 21 0]
 (.cond (ae 22) (aj [ao 0 23 (.dp [.int .i64 0,.aK,.aK,.aK] []),
 af 1 24 9,
 bG 2 4 6 23,
 af 3 7 24]
 .ret) .skip))
 (.seq (aj [aV 0 25 3 3,
 aX 1 26 25,
 bi 2 27 32 5,
 sc 3 28 70 [(ae 26),(ae 27)]]
 (.cond (ae 28) (aj [ao 0 29 (.dp [.int .i64 0,.aK,.aK,.aK] []),
 bG 1 4 6 29,
 aU 2 7 14]
 .ret) .skip))
 (.seq (aj [aV 0 30 0 3,
 aX 1 31 30,
 a6 2 32 .eql 3 31 60]
 (.cond (ae 32) (aj [ao 0 33 (.dp [.int .i64 0,.aK,.aK,.aK] []),
 bG 1 4 6 33,
 aU 2 7 18]
 .ret) .skip))
 (aj [bi 0 35 2 4,
 bi 1 36 32 5,
 sc 2 37 84 [(ae 35),(ae 36)],
 af 3 34 37,
 cN 4 38 34 0,
 cN 5 39 34 1,
 af 6 10 38,
 af 7 11 39]
 (aj [aV 0 40 0 3,
 aX 1 41 40,
 a6 2 42 .add 3 41 1,
 ao 3 43 (.dp [.int .i64 0,.aK,.aK,.aK] [(0,1,(ae 42))]),
 ao 4 12 (.alloc [.int .i64 0,.aK,.aK,.aK]),
 bG 5 4 12 43]
 (.seq (aj [aV 0 45 1 3,
 bi 1 46 1 45,
 bi 2 47 11 8,
 af 3 48 10,
 sc 4 49 97 [(ae 46),(ae 47),(ae 48)],
 af 5 44 49,
 cN 6 50 44 0,
 cN 7 51 44 1,
 aV 8 52 1 12,
 bG 9 1 52 50,
 af 10 9 51]
 (aj [af 0 53 9,
 a6 1 54 .neq 37 53 0]
 (.cond (ae 54) (aj [ao 0 55 (.dp [.int .i64 0,.aK,.aK,.aK] []),
 af 1 56 9,
 bG 2 4 6 55,
 af 3 7 56]
 .ret) .skip)))
 (.seq (aj [aV 0 58 2 3,
 bi 1 59 1 58,
 bi 2 60 11 8,
 sc 3 61 98 [(ae 59),(ae 60)],
 af 4 57 61,
 cN 5 62 57 0,
 cN 6 63 57 1,
 aV 7 64 2 12,
 bG 8 1 64 62,
 af 9 9 63]
 (aj [af 0 65 9,
 a6 1 66 .neq 37 65 0]
 (.cond (ae 66) (aj [ao 0 67 (.dp [.int .i64 0,.aK,.aK,.aK] []),
 af 1 68 9,
 bG 2 4 6 67,
 af 3 7 68]
 .ret) .skip)))
 (.seq (aj [aV 0 69 3 3,
 aX 1 70 69,
 b1 2 71 32 70,
 aU 3 72 0]
 (.block 0 (.loop W3)))
 (aj [aV 0 88 3 12,
 aX 1 89 88,
 bi 2 90 32 5,
 ao 3 91 (.dh 32 (rep 32 (.int .u8 0)) 1 [(0,(ae 90))]),
 ao 4 92 (.app 32 32 (ae 89) (ae 91)),
 aV 5 93 3 12,
 bG 6 1 93 92]
 (aj [aV 0 94 3 12,
 aX 1 95 94,
 sc 2 96 99 [(ae 95),(.func 60)]]
 (aj [bi 0 97 4 12,
 bG 1 4 6 97,
 aU 2 7 0]
 .ret)))))))))))))
def aa2:List bf:=[.eg 4 (ae 6),.aO (ae 7)]
theorem aht:bx Tryz.prog 53=some Q9:=by kernel_rfl
theorem asb:bz Tryz.prog 53=some aa2:=by kernel_rfl
def Ra:aT:=(aj [ao 0 3 (.box (ae 0)),
 ao 1 4 (.box (ae 1)),
 ao 2 5 (.box (ae 2)),
 ao 3 6 (.alloc [.int .i64 0,.aK,.aK,.aK]),
 aU 4 7 0]
 (.seq (aj [aV 0 13 0 4,
 aX 1 14 13,
 bi 2 15 32 5,
 sc 3 16 75 [(ae 14),(ae 15)],
 a6 4 17 .lss 3 16 0]
 (.cond (ae 17) (aj [ao 0 18 (.dp [.int .i64 0,.aK,.aK,.aK] []),
 bG 1 4 6 18,
 aU 2 7 6]
 .ret) .skip))
 (.seq (aj [aV 0 19 3 3,
 aX 1 20 19,
 bi 2 21 32 5,
 sc 3 22 79 [(ae 20),(ae 21)]]
 (.cond (ae 22) (aj [ao 0 23 (.dp [.int .i64 0,.aK,.aK,.aK] []),
 bG 1 4 6 23,
 aU 2 7 14]
 .ret) .skip))
 (.seq (aj [aV 0 24 0 3,
 aX 1 25 24,
 a6 2 26 .eql 3 25 60]
 (.cond (ae 26) (aj [ao 0 27 (.dp [.int .i64 0,.aK,.aK,.aK] []),
 bG 1 4 6 27,
 aU 2 7 18]
 .ret) .skip))
 (aj [bi 0 28 2 4,
 bi 1 29 32 5,
 sc 2 30 35 [(ae 28),(ae 29)],
 ao 3 8 (.alloc [.int .u32 0,.aK,.int .u64 0,.int .u8 0,.str [],.int .u8 0,.int .i64 0,.int .u64 0,.str [],.int .u32 0,.int .u32 0]),
 bG 4 11 8 30]
 (.seq (.hc [aV 0 32 1 3,
 ⟨1,(some 33),none,.cM (.eg 1 (ae 32)),[],true⟩,
 ⟨2,(some 34),none,.cM (.eg 11 (ae 8)),[],true⟩,
 bi 3 35 2 4,
 bi 4 36 32 5,
 ⟨10,(some 9),none,.cM (.alloc [.aK]),[],true⟩,
 ⟨5,(some 37),none,.cO 101 [(ae 35),(ae 36)],[10,2,1],false⟩,
 ⟨6,(some 38),none,.cO 100 [(ae 33),(ae 34),(ae 37)],[10],false⟩,
 af 7 31 38,
 cN 8 39 31 0,
 cN 9 40 31 1,
 bG 11 1 9 39,
 af 12 10 40])
 (.seq (aj [af 0 41 10,
 a6 1 42 .neq 3 41 0]
 (.cond (ae 42) (aj [ao 0 43 (.dp [.int .i64 0,.aK,.aK,.aK] []),
 af 1 44 10,
 bG 2 4 6 43,
 af 3 7 44]
 .ret) .skip))
 (aj [aV 0 46 2 3,
 bi 1 47 1 46,
 bi 2 48 11 8,
 sc 3 49 102 [(ae 47),(ae 48)],
 af 4 45 49,
 cN 5 50 45 0,
 cN 6 51 45 1,
 ao 7 11 (.alloc [.aK]),
 bG 8 1 11 50,
 af 9 12 51]
 (.seq (aj [af 0 52 12,
 a6 1 53 .neq 3 52 0]
 (.cond (ae 53) (aj [ao 0 54 (.dp [.int .i64 0,.aK,.aK,.aK] []),
 af 1 55 12,
 bG 2 4 6 54,
 af 3 7 55]
 .ret) .skip))
 (.seq (.hc [aV 0 56 0 3,
 ⟨1,(some 57),none,.cM (.ld1 (ae 56)),[],true⟩,
 a6 2 58 .add 3 57 1,
 ⟨3,(some 59),none,.cM (.eg 1 (ae 9)),[],true⟩,
 ⟨4,(some 60),none,.cM (.eg 1 (ae 11)),[],true⟩,
 aV 5 61 3 3,
 aX 6 62 61,
 bi 7 63 11 8,
 bi 8 64 32 5,
 ⟨9,(some 65),none,.cO 103 [(ae 62),(ae 63),(ae 64)],[4,3,1],false⟩,
 ao 10 66 (.dp [.int .i64 0,.aK,.aK,.aK] [(0,1,(ae 58)),(1,1,(ae 59)),(2,1,(ae 60)),(3,1,(ae 65))]),
 bG 11 4 6 66,
 aU 12 7 0])
 .ret))))))))))
def aa3:List bf:=[.eg 4 (ae 6),.aO (ae 7)]
theorem ahu:bx Tryz.prog 54=some Ra:=by kernel_rfl
theorem asc:bz Tryz.prog 54=some aa3:=by kernel_rfl
def Rb:aT:=(aj [ao 0 2 (.box (ae 0)),
 ao 1 4 (.alloc [.int .u8 0,.int .i64 0,.int .u64 0,.str []]),
 aU 2 5 0]
 (.seq (aj [bi 0 7 1 2,
 sc 1 8 63 [(ae 7)],
 a6 2 9 .neq 3 8 0]
 (.cond (ae 9) (aj [ao 0 10 (.dp [.int .u8 0,.int .i64 0,.int .u64 0,.str []] []),
 bi 1 11 1 2,
 sc 2 12 63 [(ae 11)],
 bG 3 4 4 10,
 af 4 5 12]
 .ret) .skip))
 (aj [aV 0 13 0 2,
 aX 1 14 13,
 af 2 15 1,
 sc 3 16 15 [(ae 14),(ae 15)],
 af 4 6 16]
 (.seq (aj [af 0 17 6,
 a6 1 18 .lss 3 17 0]
 (.cond (ae 18) (aj [ao 0 19 (.dp [.int .u8 0,.int .i64 0,.int .u64 0,.str []] []),
 bG 1 4 4 19,
 aU 2 5 6]
 .ret) .skip))
 (aj [aV 0 20 0 2,
 aX 1 21 20,
 af 2 22 6,
 b0 3 23 38 21 22,
 aV 4 24 1 23,
 bi 5 25 4 24,
 bG 6 4 4 25,
 aU 7 5 0]
 .ret)))))
def aa4:List bf:=[.eg 4 (ae 4),.aO (ae 5)]
theorem ahv:bx Tryz.prog 55=some Rb:=by kernel_rfl
theorem asd:bz Tryz.prog 55=some aa4:=by kernel_rfl
def W4:aT:=(.seq (aj [af 0 13 5,
 aV 1 14 0 2,
 aX 2 15 14,
 b1 3 16 33 15,
 bq 4 17 .lss 3 13 16]
 (.cond (ae 17) .skip (.exit 0)))
 (.seq (.block 1 (aj [aV 0 20 0 2,
 aX 1 21 20,
 af 2 22 5,
 b0 3 23 33 21 22,
 bi 4 24 33 23,
 aV 5 25 0 3,
 aX 6 26 25,
 af 7 27 5,
 b0 8 28 33 26 27,
 bi 9 29 33 28,
 bq 10 30 .neq 53 24 29]
 (.cond (ae 30) (aj [cD 0 4 false]
 .ret) .skip)))
 (.bH [af 0 18 5,
 a6 1 19 .add 3 18 1,
 af 2 5 19])))
def Rc:aT:=(aj [ao 0 2 (.box (ae 0)),
 ao 1 3 (.box (ae 1)),
 cD 2 4 false]
 (.seq (aj [aV 0 6 0 2,
 aX 1 7 6,
 b1 2 8 33 7,
 aV 3 9 0 3,
 aX 4 10 9,
 b1 5 11 33 10,
 bq 6 12 .neq 3 8 11]
 (.cond (ae 12) (aj [cD 0 4 false]
 .ret) .skip))
 (.seq (aj [aU 0 5 0]
 (.block 0 (.loop W4)))
 (aj [cD 0 4 true]
 .ret))))
def aa5:List bf:=[.aO (ae 4)]
theorem ahw:bx Tryz.prog 56=some Rc:=by kernel_rfl
theorem ase:bz Tryz.prog 56=some aa5:=by kernel_rfl
def W5:aT:=(.seq (aj [af 0 13 5,
 aV 1 14 0 2,
 aX 2 15 14,
 b1 3 16 38 15,
 bq 4 17 .lss 3 13 16]
 (.cond (ae 17) .skip (.exit 0)))
 (.seq (.block 1 (aj [aV 0 20 0 2,
 aX 1 21 20,
 af 2 22 5,
 b0 3 23 38 21 22,
 bi 4 24 38 23,
 aV 5 25 0 3,
 aX 6 26 25,
 af 7 27 5,
 b0 8 28 38 26 27,
 bi 9 29 38 28,
 bq 10 30 .neq 50 24 29]
 (.cond (ae 30) (aj [cD 0 4 false]
 .ret) .skip)))
 (.bH [af 0 18 5,
 a6 1 19 .add 3 18 1,
 af 2 5 19])))
def Re:aT:=(aj [ao 0 2 (.box (ae 0)),
 ao 1 3 (.box (ae 1)),
 cD 2 4 false]
 (.seq (aj [aV 0 6 0 2,
 aX 1 7 6,
 b1 2 8 38 7,
 aV 3 9 0 3,
 aX 4 10 9,
 b1 5 11 38 10,
 bq 6 12 .neq 3 8 11]
 (.cond (ae 12) (aj [cD 0 4 false]
 .ret) .skip))
 (.seq (aj [aU 0 5 0]
 (.block 0 (.loop W5)))
 (aj [cD 0 4 true]
 .ret))))
def aa6:List bf:=[.aO (ae 4)]
theorem ahx:bx Tryz.prog 57=some Re:=by kernel_rfl
theorem asf:bz Tryz.prog 57=some aa6:=by kernel_rfl
def W6:aT:=(aj [bq 0 13 .lss 3 12 11]
 (.seq (.cond (ae 13) .skip (.exit 0))
 (.seq (.block 1 (aj [af 0 14 12,
 b0 1 15 33 10 12,
 bi 2 16 33 15,
 ao 3 4 (.alloc ([.str []]++rep 32 (.int .u8 0))),
 af 4 3 14,
 bG 5 33 4 16]
 (aj [aV 0 17 0 4,
 aX 1 18 17,
 ao 2 19 (.dp [.int .u8 0,.str [],.int .u8 0,.int .i64 0,.int .u64 0,.str []] [(0,1,(.const (.int .u8 2))),(1,1,(ae 18))]),
 sc 3 20 104 [(ae 19)],
 a6 4 21 .neq 37 20 0,
 af 5 22 21,
 dr 6 23 22 false 3,
 fy 7 24 22 false .gtr 3 23 0,
 dr 8 25 22 false 24,
 cz 9 26 25 true 0 1,
 dz 10 27 25 true 26,
 dr 11 28 25 true 3,
 fy 12 29 25 true .sub 3 28 1,
 kJ 13 30 25 true 33 27 29,
 eI 14 31 25 true 33 30,
 eI 15 32 25 true 33 4,
 ⟨16,(some 33),(some ((some 25),true)),.cO 86 [(ae 31),(ae 32)],[],false⟩,
 fy 17 34 25 true .geq 3 33 0,
 dV 18 35 22 false (.pick (ae 25) (ae 34) (.const (.bool false))),
 e5 19 36 22 35]
 (.cond (ae 36) (aj [aU 0 2 8]
 .ret) .skip))))
 (.bH [a6 0 37 .add 3 12 1,
 af 1 12 37]))))
def Rf:aT:=(aj [ao 0 1 (.box (ae 0)),
 aU 1 2 0]
 (.seq (aj [aV 0 5 0 1,
 aX 1 6 5,
 b1 2 7 33 6,
 a6 3 8 .gtr 3 7 60]
 (.cond (ae 8) (aj [aU 0 2 4]
 .ret) .skip))
 (.seq (aj [aV 0 9 0 1,
 aX 1 10 9,
 b1 2 11 33 10,
 aU 3 12 0]
 (.block 0 (.loop W6)))
 (aj [aU 0 2 0]
 .ret))))
def aa7:List bf:=[.aO (ae 2)]
theorem ahy:bx Tryz.prog 58=some Rf:=by kernel_rfl
theorem asg:bz Tryz.prog 58=some aa7:=by kernel_rfl
def W7:aT:=(aj [bq 0 13 .lss 3 12 11]
 (.seq (.cond (ae 13) .skip (.exit 0))
 (.seq (.block 1 (aj [af 0 14 12,
 b0 1 15 38 10 12,
 bi 2 16 38 15,
 ao 3 4 (.alloc ([.str [],.int .u8 0,.int .i64 0,.int .u64 0,.str [],.int .u64 0]++rep 32 (.int .u8 0))),
 af 4 3 14,
 bG 5 38 4 16]
 (aj [aV 0 17 0 4,
 aX 1 18 17,
 ao 2 19 (.dp [.int .u8 0,.str [],.int .u8 0,.int .i64 0,.int .u64 0,.str []] [(0,1,(.const (.int .u8 2))),(1,1,(ae 18))]),
 sc 3 20 104 [(ae 19)],
 a6 4 21 .neq 37 20 0,
 af 5 22 21,
 cz 6 23 22 false 1 4,
 eI 7 24 22 false 4 23,
 ⟨8,(some 25),(some ((some 22),false)),.cO 105 [(ae 24)],[],false⟩,
 fy 9 26 22 false .neq 37 25 0,
 e5 10 27 22 26,
 af 11 28 27,
 cz 12 29 28 false 5 4,
 dz 13 30 28 false 29,
 dV 14 31 28 false (.bin .gtr 40 (ae 30) (.const (.int .u64 1000000000000))),
 e5 15 32 28 31,
 af 16 33 32,
 dr 17 34 33 false 3,
 fy 18 35 33 false .gtr 3 34 0,
 dr 19 36 33 false 35,
 cz 20 37 36 true 0 1,
 dz 21 38 36 true 37,
 dr 22 39 36 true 3,
 fy 23 40 36 true .sub 3 39 1,
 kJ 24 41 36 true 38 38 40,
 cz 25 42 36 true 0 41,
 dz 26 43 36 true 42,
 cz 27 44 36 true 0 4,
 dz 28 45 36 true 44,
 jM 29 46 36 true .geq 9 43 45,
 dV 30 47 33 false (.pick (ae 36) (ae 46) (.const (.bool false))),
 e5 31 48 33 47]
 (.cond (ae 48) (aj [aU 0 2 8]
 .ret) .skip))))
 (.bH [a6 0 49 .add 3 12 1,
 af 1 12 49]))))
def Rg:aT:=(aj [ao 0 1 (.box (ae 0)),
 aU 1 2 0]
 (.seq (aj [aV 0 5 0 1,
 aX 1 6 5,
 b1 2 7 38 6,
 a6 3 8 .gtr 3 7 60]
 (.cond (ae 8) (aj [aU 0 2 4]
 .ret) .skip))
 (.seq (aj [aV 0 9 0 1,
 aX 1 10 9,
 b1 2 11 38 10,
 aU 3 12 0]
 (.block 0 (.loop W7)))
 (aj [aU 0 2 0]
 .ret))))
def aa8:List bf:=[.aO (ae 2)]
theorem ahz:bx Tryz.prog 59=some Rg:=by kernel_rfl
theorem ash:bz Tryz.prog 59=some aa8:=by kernel_rfl
def Rh:aT:=(aj [ao 0 2 (.box (ae 0)),
 ao 1 3 (.box (ae 1)),
 aU 2 4 0]
 (aj [ao 0 5 (.slice (.arr 32 1) (ae 2) none none none),
 ao 1 6 (.slice (.arr 32 1) (ae 3) none none none),
 sc 2 7 106 [(ae 5),(ae 6)],
 af 3 4 7]
 .ret))
def aa9:List bf:=[.aO (ae 4)]
theorem ahA:bx Tryz.prog 60=some Rh:=by kernel_rfl
theorem asi:bz Tryz.prog 60=some aa9:=by kernel_rfl
def W8:aT:=(.seq (aj [af 0 4 3,
 af 1 5 0,
 b1 2 6 32 5,
 bq 3 7 .lss 3 4 6]
 (.cond (ae 7) .skip (.exit 0)))
 (.seq (.block 1 (aj [af 0 10 0,
 af 1 11 3,
 a6 2 12 .sub 3 11 1,
 b0 3 13 32 10 12,
 bi 4 14 32 13,
 af 5 15 0,
 af 6 16 3,
 b0 7 17 32 15 16,
 bi 8 18 32 17,
 sc 9 19 107 [(ae 14),(ae 18)],
 a6 10 20 .geq 3 19 0]
 (.cond (ae 20) (aj [cD 0 2 false]
 .ret) .skip)))
 (.bH [af 0 8 3,
 a6 1 9 .add 3 8 1,
 af 2 3 9])))
def Ri:aT:=(aj [cD 0 2 false]
 (.seq (aj [aU 0 3 1]
 (.block 0 (.loop W8)))
 (aj [cD 0 2 true]
 .ret)))
def abb:List bf:=[.aO (ae 2)]
theorem ahB:bx Tryz.prog 61=some Ri:=by kernel_rfl
theorem asj:bz Tryz.prog 61=some abb:=by kernel_rfl
def W9:aT:=(.seq (aj [af 0 8 3,
 aV 1 9 0 1,
 aX 2 10 9,
 b1 3 11 33 10,
 bq 4 12 .lss 3 8 11]
 (.cond (ae 12) .skip (.exit 0)))
 (.seq (.block 1 (aj [aV 0 15 0 1,
 aX 1 16 15,
 af 2 17 3,
 b0 3 18 33 16 17,
 aV 4 19 0 18,
 aX 5 20 19,
 sc 6 21 108 [(ae 20)],
 ao 7 22 (.un .not (ae 21)),
 af 8 23 22,
 dr 9 24 23 false 3,
 fy 10 25 23 false .gtr 3 24 0,
 dr 11 26 23 false 25,
 cz 12 27 26 true 0 1,
 dz 13 28 26 true 27,
 dr 14 29 26 true 3,
 fy 15 30 26 true .sub 3 29 1,
 kJ 16 31 26 true 33 28 30,
 eI 17 32 26 true 33 31,
 cz 18 33 26 true 0 1,
 dz 19 34 26 true 33,
 dr 20 35 26 true 3,
 kJ 21 36 26 true 33 34 35,
 eI 22 37 26 true 33 36,
 ⟨23,(some 38),(some ((some 26),true)),.cO 109 [(ae 32),(ae 37)],[],false⟩,
 dV 24 39 26 true (.un .not (ae 38)),
 dV 25 40 23 false (.pick (ae 26) (ae 39) (.const (.bool false))),
 e5 26 41 23 40]
 (.cond (ae 41) (aj [aU 0 2 8]
 .ret) .skip)))
 (.bH [af 0 13 3,
 a6 1 14 .add 3 13 1,
 af 2 3 14])))
def Rj:aT:=(aj [ao 0 1 (.box (ae 0)),
 aU 1 2 0]
 (.seq (aj [aV 0 4 0 1,
 aX 1 5 4,
 b1 2 6 33 5,
 a6 3 7 .gtr 3 6 60]
 (.cond (ae 7) (aj [aU 0 2 4]
 .ret) .skip))
 (.seq (aj [aU 0 3 0]
 (.block 0 (.loop W9)))
 (aj [aU 0 2 0]
 .ret))))
def abd:List bf:=[.aO (ae 2)]
theorem ahC:bx Tryz.prog 62=some Rj:=by kernel_rfl
theorem asl:bz Tryz.prog 62=some abd:=by kernel_rfl
def Xa:aT:=(.seq (aj [af 0 9 3,
 aV 1 10 0 1,
 aX 2 11 10,
 b1 3 12 38 11,
 bq 4 13 .lss 3 9 12]
 (.cond (ae 13) .skip (.exit 0)))
 (.seq (.block 1 (aj [aV 0 16 0 1,
 aX 1 17 16,
 af 2 18 3,
 b0 3 19 38 17 18,
 bi 4 20 38 19,
 ao 5 4 (.alloc ([.str [],.int .u8 0,.int .i64 0,.int .u64 0,.str [],.int .u64 0]++rep 32 (.int .u8 0))),
 bG 6 38 4 20]
 (aj [aV 0 21 0 4,
 aX 1 22 21,
 sc 2 23 108 [(ae 22)],
 ao 3 24 (.un .not (ae 23)),
 af 4 25 24,
 cz 5 26 25 false 1 4,
 eI 6 27 25 false 4 26,
 ⟨7,(some 28),(some ((some 25),false)),.cO 110 [(ae 27)],[],false⟩,
 fy 8 29 25 false .neq 3 28 0,
 e5 9 30 25 29,
 af 10 31 30,
 cz 11 32 31 false 5 4,
 dz 12 33 31 false 32,
 dV 13 34 31 false (.bin .gtr 40 (ae 33) (.const (.int .u64 1000000000000))),
 e5 14 35 31 34,
 af 15 36 35,
 dr 16 37 36 false 3,
 fy 17 38 36 false .gtr 3 37 0,
 dr 18 39 36 false 38,
 cz 19 40 39 true 0 1,
 dz 20 41 39 true 40,
 dr 21 42 39 true 3,
 fy 22 43 39 true .sub 3 42 1,
 kJ 23 44 39 true 38 41 43,
 cz 24 45 39 true 0 44,
 dz 25 46 39 true 45,
 cz 26 47 39 true 0 4,
 dz 27 48 39 true 47,
 jM 28 49 39 true .geq 9 46 48,
 dV 29 50 36 false (.pick (ae 39) (ae 49) (.const (.bool false))),
 e5 30 51 36 50]
 (.cond (ae 51) (aj [aU 0 2 8]
 .ret) .skip))))
 (.bH [af 0 14 3,
 a6 1 15 .add 3 14 1,
 af 2 3 15])))
def Rk:aT:=(aj [ao 0 1 (.box (ae 0)),
 aU 1 2 0]
 (.seq (aj [aV 0 5 0 1,
 aX 1 6 5,
 b1 2 7 38 6,
 a6 3 8 .gtr 3 7 60]
 (.cond (ae 8) (aj [aU 0 2 4]
 .ret) .skip))
 (.seq (aj [aU 0 3 0]
 (.block 0 (.loop Xa)))
 (aj [aU 0 2 0]
 .ret))))
def abe:List bf:=[.aO (ae 2)]
theorem ahD:bx Tryz.prog 63=some Rk:=by kernel_rfl
theorem asm:bz Tryz.prog 63=some abe:=by kernel_rfl
def Rl:aT:=(aj [ao 0 2 (.box (ae 0)),
 ao 1 3 (.box (ae 1)),
 cD 2 4 false]
 (aj [aV 0 5 0 2,
 aX 1 6 5,
 aV 2 7 0 3,
 aX 3 8 7,
 bq 4 9 .eql 76 6 8,
 af 5 10 9,
 cz 6 11 10 true 1 2,
 dz 7 12 10 true 11,
 cz 8 13 10 true 1 3,
 dz 9 14 10 true 13,
 ⟨10,(some 15),(some ((some 10),true)),.cO 37 [(ae 12),(ae 14)],[],false⟩,
 e6 11 16 10 15,
 af 12 17 16,
 cz 13 18 17 true 2 2,
 dz 14 19 17 true 18,
 cz 15 20 17 true 2 3,
 dz 16 21 17 true 20,
 jM 17 22 17 true .eql 40 19 21,
 e6 18 23 17 22,
 af 19 24 23,
 cz 20 25 24 true 3 2,
 eI 21 26 24 true 6 25,
 cz 22 27 24 true 3 3,
 eI 23 28 24 true 6 27,
 jM 24 29 24 true .eql 78 26 28,
 e6 25 30 24 29,
 af 26 31 30,
 cz 27 32 31 true 9 2,
 eI 28 33 31 true 2 32,
 cz 29 34 31 true 9 3,
 eI 30 35 31 true 2 34,
 jM 31 36 31 true .eql 80 33 35,
 e6 32 37 31 36,
 af 33 4 37]
 .ret))
def abf:List bf:=[.aO (ae 4)]
theorem ahE:bx Tryz.prog 64=some Rl:=by kernel_rfl
theorem asn:bz Tryz.prog 64=some abf:=by kernel_rfl
def Rm:aT:=(aj [ao 0 2 (.box (ae 0)),
 ao 1 3 (.box (ae 1)),
 ao 2 4 (.alloc [.int .u32 0,.aK,.int .u64 0,.int .u8 0,.str [],.int .u8 0,.int .i64 0,.int .u64 0,.str [],.int .u32 0,.int .u32 0]),
 aU 3 5 0]
 (.seq (aj [bi 0 9 2 2,
 sc 1 10 52 [(ae 9)],
 af 2 6 10]
 (aj [af 0 11 6,
 a6 1 12 .neq 37 11 0]
 (.cond (ae 12) (aj [ao 0 13 (.dp [.int .u32 0,.aK,.int .u64 0,.int .u8 0,.str [],.int .u8 0,.int .i64 0,.int .u64 0,.str [],.int .u32 0,.int .u32 0] []),
 af 1 14 6,
 bG 2 11 4 13,
 af 3 5 14]
 .ret) .skip)))
 (aj [bi 0 16 2 2,
 bi 1 17 32 3,
 sc 2 18 114 [(ae 16),(ae 17)],
 af 3 15 18,
 cN 4 19 15 0,
 cN 5 20 15 1,
 af 6 7 19,
 af 7 8 20]
 (.seq (aj [af 0 21 8,
 ao 1 22 (.un .not (ae 21))]
 (.cond (ae 22) (aj [ao 0 23 (.dp [.int .u32 0,.aK,.int .u64 0,.int .u8 0,.str [],.int .u8 0,.int .i64 0,.int .u64 0,.str [],.int .u32 0,.int .u32 0] []),
 bG 1 11 4 23,
 aU 2 5 6]
 .ret) .skip))
 (aj [aV 0 24 1 2,
 aX 1 25 24,
 af 2 26 7,
 b0 3 27 11 25 26,
 bi 4 28 11 27,
 sc 5 29 115 [(ae 28)],
 bG 6 11 4 29,
 aU 7 5 0]
 .ret)))))
def abg:List bf:=[.eg 11 (ae 4),.aO (ae 5)]
theorem ahF:bx Tryz.prog 68=some Rm:=by kernel_rfl
theorem aso:bz Tryz.prog 68=some abg:=by kernel_rfl
def Rn:aT:=(aj [ao 0 3 (.box (ae 1)),
 cD 1 4 false]
 (aj [af 0 5 0,
 bi 1 6 32 3,
 sc 2 7 116 [(ae 5),(ae 6)],
 a6 3 8 .geq 3 7 0,
 af 4 4 8]
 .ret))
def abh:List bf:=[.aO (ae 4)]
theorem ahG:bx Tryz.prog 70=some Rn:=by kernel_rfl
theorem asp:bz Tryz.prog 70=some abh:=by kernel_rfl
def Ro:aT:=(aj [cD 0 4 false]
 (aj [af 0 5 0,
 af 1 6 1,
 sc 2 7 117 [(ae 5),(ae 6)],
 a6 3 8 .geq 3 7 0,
 af 4 4 8]
 .ret))
def abi:List bf:=[.aO (ae 4)]
theorem ahH:bx Tryz.prog 71=some Ro:=by kernel_rfl
theorem asq:bz Tryz.prog 71=some abi:=by kernel_rfl
def Xc:aT:=(.seq (aj [af 0 16 5,
 a6 1 17 .gtr 3 16 0,
 af 2 18 17,
 dr 3 19 18 true 3,
 dr 4 20 18 true 5,
 fy 5 21 18 true .sub 3 20 1,
 kJ 6 22 18 true 32 19 21,
 eI 7 23 18 true 32 22,
 dr 8 24 18 true 3,
 dr 9 25 18 true 5,
 kJ 10 26 18 true 32 24 25,
 eI 11 27 18 true 32 26,
 dV 12 28 18 true (.dh 32 (rep 32 (.int .u8 0)) 2 [(0,(ae 23)),(1,(ae 27))]),
 ⟨13,(some 29),(some ((some 18),true)),.cO 61 [(ae 28)],[],false⟩,
 dV 14 30 18 true (.un .not (ae 29)),
 e6 15 31 18 30]
 (.cond (ae 31) .skip (.exit 2)))
 (.seq (.block 3 (.bH [af 0 34 3,
 af 1 35 5,
 a6 2 36 .sub 3 35 1,
 af 3 37 3,
 af 4 38 5,
 af 5 39 3,
 af 6 40 5,
 b0 7 41 32 39 40,
 bi 8 42 32 41,
 af 9 43 3,
 af 10 44 5,
 a6 11 45 .sub 3 44 1,
 b0 12 46 32 43 45,
 bi 13 47 32 46,
 b0 14 48 32 34 36,
 bG 15 32 48 42,
 b0 16 49 32 37 38,
 bG 17 32 49 47]))
 (.bH [af 0 32 5,
 a6 1 33 .sub 3 32 1,
 af 2 5 33])))
def Xd:aT:=(.seq (aj [af 0 9 4,
 af 1 10 3,
 b1 2 11 32 10,
 bq 3 12 .lss 3 9 11]
 (.cond (ae 12) .skip (.exit 0)))
 (.seq (.block 1 (aj [af 0 15 4,
 af 1 5 15]
 (.block 2 (.loop Xc))))
 (.bH [af 0 13 4,
 a6 1 14 .add 3 13 1,
 af 2 4 14])))
def Rp:aT:=(aj [ao 0 2 (.aO (.const (.slice none 0 0)))]
 (aj [ao 0 6 (.dh 32 (rep 32 (.int .u8 0)) 0 []),
 af 1 7 0,
 ao 2 8 (.app 32 32 (ae 6) (ae 7)),
 af 3 3 8]
 (.seq (aj [aU 0 4 0]
 (.block 0 (.loop Xd)))
 (aj [af 0 50 3,
 af 1 2 50]
 .ret))))
def abj:List bf:=[.aO (ae 2)]
theorem ahI:bx Tryz.prog 74=some Rp:=by kernel_rfl
theorem asr:bz Tryz.prog 74=some abj:=by kernel_rfl
def Xe:aT:=(.seq (aj [af 0 6 5,
 af 1 7 0,
 b1 2 8 32 7,
 bq 3 9 .lss 3 6 8]
 (.cond (ae 9) .skip (.exit 0)))
 (.seq (.block 1 (aj [af 0 12 0,
 af 1 13 5,
 b0 2 14 32 12 13,
 bi 3 15 32 14,
 bi 4 16 32 3,
 bq 5 17 .eql 48 15 16]
 (.cond (ae 17) (aj [af 0 18 5,
 af 1 4 18]
 .ret) .skip)))
 (.bH [af 0 10 5,
 a6 1 11 .add 3 10 1,
 af 2 5 11])))
def Rq:aT:=(aj [ao 0 3 (.box (ae 1)),
 aU 1 4 0]
 (.seq (aj [aU 0 5 0]
 (.block 0 (.loop Xe)))
 (aj [aU 0 4 (-1)]
 .ret)))
def abk:List bf:=[.aO (ae 4)]
theorem ahJ:bx Tryz.prog 75=some Rq:=by kernel_rfl
theorem ass:bz Tryz.prog 75=some abk:=by kernel_rfl
def Rr:aT:=(aj [ao 0 2 (.alloc (rep 32 (.int .u8 0)))]
 (aj [sc 0 3 125 [],
 ao 1 4 (.dh 1 [.int .u8 0] 0 []),
 af 2 5 0,
 ao 3 6 (.app 1 1 (ae 4) (ae 5)),
 af 4 7 0,
 b1 5 8 1 7,
 sc 6 9 126 [(ae 8)],
 ao 7 10 (.app 1 1 (ae 6) (ae 9)),
 sc 8 11 124 [(ae 3),(ae 10)],
 sc 9 12 123 [(ae 11)],
 bG 10 32 2 12]
 .ret))
def abl:List bf:=[.eg 32 (ae 2)]
theorem ahK:bx Tryz.prog 77=some Rr:=by kernel_rfl
theorem ast:bz Tryz.prog 77=some abl:=by kernel_rfl
def Rs:aT:=(aj [ao 0 1 (.box (ae 0)),
 ao 1 2 (.aO (.const (.slice none 0 0)))]
 (.seq (.hc [bi 0 3 11 1,
 aV 2 5 9 1,
 aV 3 6 0 5,
 ⟨4,(some 7),none,.cM (.ld1 (ae 6)),[],true⟩,
 ⟨5,(some 8),none,.cM (.ds .u64 (ae 7)),[],true⟩,
 aV 8 11 9 1,
 aV 9 12 1 11,
 ⟨10,(some 13),none,.cM (.ld1 (ae 12)),[],true⟩,
 ⟨11,(some 14),none,.cM (.ds .u64 (ae 13)),[],true⟩,
 ⟨1,(some 4),none,.cO 122 [(ae 3)],[11,10,5,4],false⟩,
 ⟨6,(some 9),none,.cO 127 [(ae 8)],[11,10],false⟩,
 ⟨7,(some 10),none,.cM (.app 1 1 (ae 4) (ae 9)),[11,10],false⟩,
 sc 12 15 127 [(ae 14)],
 ao 13 16 (.app 1 1 (ae 10) (ae 15)),
 af 14 2 16])
 .ret))
def abm:List bf:=[.aO (ae 2)]
theorem ahL:bx Tryz.prog 78=some Rs:=by kernel_rfl
theorem asu:bz Tryz.prog 78=some abm:=by kernel_rfl
def Xf:aT:=(.seq (aj [af 0 6 5,
 af 1 7 0,
 b1 2 8 32 7,
 bq 3 9 .lss 3 6 8]
 (.cond (ae 9) .skip (.exit 0)))
 (.seq (.block 1 (aj [af 0 12 0,
 af 1 13 5,
 b0 2 14 32 12 13,
 bi 3 15 32 14,
 bi 4 16 32 3,
 bq 5 17 .eql 48 15 16]
 (.cond (ae 17) (aj [cD 0 4 true]
 .ret) .skip)))
 (.bH [af 0 10 5,
 a6 1 11 .add 3 10 1,
 af 2 5 11])))
def Rt:aT:=(aj [ao 0 3 (.box (ae 1)),
 cD 1 4 false]
 (.seq (aj [aU 0 5 0]
 (.block 0 (.loop Xf)))
 (aj [cD 0 4 false]
 .ret)))
def abn:List bf:=[.aO (ae 4)]
theorem ahM:bx Tryz.prog 79=some Rt:=by kernel_rfl
theorem asv:bz Tryz.prog 79=some abn:=by kernel_rfl
def Xg:aT:=(.seq (aj [af 0 6 5,
 af 1 7 1,
 b1 2 8 32 7,
 bq 3 9 .lss 3 6 8]
 (.cond (ae 9) .skip (.exit 0)))
 (.seq (.block 1 (aj [af 0 12 0,
 af 1 13 1,
 af 2 14 5,
 b0 3 15 32 13 14,
 bi 4 16 32 15,
 sc 5 17 75 [(ae 12),(ae 16)],
 a6 6 18 .lss 3 17 0]
 (.cond (ae 18) (aj [cD 0 4 false]
 .ret) .skip)))
 (.bH [af 0 10 5,
 a6 1 11 .add 3 10 1,
 af 2 5 11])))
def Ru:aT:=(aj [cD 0 4 false]
 (.seq (aj [aU 0 5 0]
 (.block 0 (.loop Xg)))
 (aj [cD 0 4 true]
 .ret)))
def abo:List bf:=[.aO (ae 4)]
theorem ahN:bx Tryz.prog 80=some Ru:=by kernel_rfl
theorem asw:bz Tryz.prog 80=some abo:=by kernel_rfl
def Rv:aT:=(aj [ao 0 1 (.box (ae 0)),
 aU 1 2 0]
 (.seq (aj [aV 0 3 1 1,
 aX 1 4 3,
 b1 2 5 32 4,
 a6 3 6 .gtr 3 5 4]
 (.cond (ae 6) (aj [aU 0 2 4]
 .ret) .skip))
 (.seq (aj [aV 0 7 1 1,
 aX 1 8 7,
 sc 2 9 61 [(ae 8)],
 ao 3 10 (.un .not (ae 9))]
 (.cond (ae 10) (aj [aU 0 2 32]
 .ret) .skip))
 (.seq (aj [aV 0 11 0 1,
 aX 1 12 11,
 sc 2 13 128 [(ae 12)],
 ao 3 14 (.un .not (ae 13)),
 af 4 15 14,
 cz 5 16 15 false 2 1,
 dz 6 17 15 false 16,
 dV 7 18 15 false (.bin .gtr 40 (ae 17) (.const (.int .u64 1000000000000))),
 e5 8 19 15 18,
 af 9 20 19,
 cz 10 21 20 false 3 1,
 eI 11 22 20 false 6 21,
 ⟨12,(some 23),(some ((some 20),false)),.cO 129 [(ae 22)],[],false⟩,
 fy 13 24 20 false .neq 3 23 0,
 e5 14 25 20 24,
 af 15 26 25,
 cz 16 27 26 false 9 1,
 cz 17 28 26 false 0 27,
 dz 18 29 26 false 28,
 ⟨19,(some 30),(some ((some 26),false)),.cO 130 [(ae 29)],[],false⟩,
 dV 20 31 26 false (.un .not (ae 30)),
 e5 21 32 26 31,
 af 22 33 32,
 cz 23 34 33 false 9 1,
 cz 24 35 33 false 1 34,
 dz 25 36 33 false 35,
 ⟨26,(some 37),(some ((some 33),false)),.cO 130 [(ae 36)],[],false⟩,
 dV 27 38 33 false (.un .not (ae 37)),
 e5 28 39 33 38]
 (.cond (ae 39) (aj [aU 0 2 8]
 .ret) .skip))
 (aj [aU 0 2 0]
 .ret)))))
def abp:List bf:=[.aO (ae 2)]
theorem ahO:bx Tryz.prog 81=some Rv:=by kernel_rfl
theorem asx:bz Tryz.prog 81=some abp:=by kernel_rfl
def Rw:aT:=(aj [ao 0 1 (.box (ae 0)),
 cD 1 2 false]
 (.seq (.hc [aV 0 3 0 1,
 ⟨1,(some 4),none,.cM (.ld1 (ae 3)),[],true⟩,
 bi 2 5 11 1,
 aV 4 7 9 1,
 ⟨5,(some 8),none,.cM (.eg 2 (ae 7)),[],true⟩,
 ⟨3,(some 6),none,.cO 122 [(ae 5)],[5,1],false⟩,
 sc 6 9 131 [(ae 4),(ae 6),(ae 8)],
 af 7 2 9])
 .ret))
def abq:List bf:=[.aO (ae 2)]
theorem ahP:bx Tryz.prog 82=some Rw:=by kernel_rfl
theorem asy:bz Tryz.prog 82=some abq:=by kernel_rfl
def Xh:aT:=(.seq (aj [af 0 13 7,
 aV 1 14 1 1,
 aX 2 15 14,
 b1 3 16 11 15,
 bq 4 17 .lss 3 13 16]
 (.cond (ae 17) .skip (.exit 2)))
 (.seq (.block 3 (aj [af 0 20 5,
 af 1 21 7,
 b0 2 22 1 20 21,
 aX 3 23 22,
 ao 4 24 (.un .not (ae 23)),
 af 5 25 24,
 dr 6 26 25 true 4,
 cz 7 27 25 true 1 1,
 dz 8 28 25 true 27,
 dr 9 29 25 true 7,
 kJ 10 30 25 true 11 28 29,
 cz 11 31 25 true 1 30,
 dz 12 32 25 true 31,
 ⟨13,(some 33),(some ((some 25),true)),.cO 80 [(ae 26),(ae 32)],[],false⟩,
 e6 14 34 25 33]
 (.cond (ae 34) (.seq (.hc [af 0 35 5,
 af 1 36 7,
 af 2 37 3,
 af 3 38 7,
 ao 4 39 (.dh 1 [.int .i64 0] 1 [(0,(ae 38))]),
 af 6 41 4,
 aV 7 42 0 1,
 ⟨8,(some 43),none,.cM (.ld1 (ae 42)),[],true⟩,
 af 9 44 7,
 b0 10 45 32 43 44,
 ⟨11,(some 46),none,.cM (.eg 32 (ae 45)),[],true⟩,
 ⟨12,(some 47),none,.cM (.dh 32 (rep 32 (.int .u8 0)) 1 [(0,(ae 46))]),[],true⟩,
 ⟨5,(some 40),none,.cM (.app 1 8 (ae 37) (ae 39)),[12,11,8],false⟩,
 ao 13 48 (.app 32 32 (ae 41) (ae 47)),
 af 14 3 40,
 af 15 4 48,
 b0 16 49 1 35 36,
 rG 17 (.st 1 (ae 49) (.const (.bool true))),
 cD 18 6 true])
 (.exit 2)) .skip)))
 (.bH [af 0 18 7,
 a6 1 19 .add 3 18 1,
 af 2 7 19])))
def Lv:aT:=(.seq (aj [af 0 12 6]
 (.cond (ae 12) .skip (.exit 0)))
 (.block 1 (aj [cD 0 6 false]
 (aj [aU 0 7 0]
 (.block 2 (.loop Xh))))))
def Rx:aT:=(aj [ao 0 1 (.box (ae 0)),
 ao 1 2 (.aO (.const (.slice none 0 0)))]
 (aj [ao 0 3 (.aO (.const (.slice none 0 0)))]
 (aj [ao 0 4 (.aO (.const (.slice none 0 0)))]
 (aj [aV 0 8 1 1,
 aX 1 9 8,
 b1 2 10 11 9,
 ao 3 11 (.pn 1 1 [.bool false] (ae 10) (ae 10)),
 af 4 5 11]
 (.seq (aj [cD 0 6 true]
 (.block 0 (.loop Lv)))
 (aj [af 0 50 3,
 af 1 2 50]
 .ret))))))
def abr:List bf:=[.aO (ae 2)]
theorem ahQ:bx Tryz.prog 83=some Rx:=by kernel_rfl
theorem asz:bz Tryz.prog 83=some abr:=by kernel_rfl
def Ry:aT:=(aj [ao 0 2 (.box (ae 0)),
 ao 1 3 (.box (ae 1)),
 ao 2 4 (.aO (.const (.slice none 0 0))),
 aU 3 5 0]
 (aj [bi 0 9 2 2,
 bi 1 10 32 3,
 sc 2 11 132 [(ae 9),(ae 10)],
 af 3 8 11,
 cN 4 12 8 0,
 cN 5 13 8 1,
 af 6 6 12,
 af 7 7 13]
 (.seq (aj [af 0 14 7,
 a6 1 15 .neq 37 14 0]
 (.cond (ae 15) (aj [af 0 16 7,
 ao 1 4 (.aO (.const (.slice none 0 0))),
 af 2 5 16]
 .ret) .skip))
 (.seq (.hc [⟨0,(some 17),none,.cM (.eg 2 (ae 2)),[],true⟩,
 bi 1 18 2 2,
 aV 2 19 1 2,
 aX 3 20 19,
 af 4 21 6,
 b0 5 22 11 20 21,
 aV 6 23 1 22,
 aX 7 24 23,
 ⟨8,(some 25),none,.cO 133 [(ae 18),(ae 24)],[0],false⟩,
 sc 9 26 89 [(ae 17),(ae 25)],
 af 10 4 26,
 aU 11 5 0])
 .ret))))
def abs:List bf:=[.aO (ae 4),.aO (ae 5)]
theorem ahR:bx Tryz.prog 84=some Ry:=by kernel_rfl
theorem asA:bz Tryz.prog 84=some abs:=by kernel_rfl
def Rz:aT:=(aj [ao 0 2 (.box (ae 0)),
 ao 1 3 (.box (ae 1)),
 aU 2 4 0]
 (aj [aV 0 5 0 2,
 aX 1 6 5,
 aV 2 7 0 3,
 aX 3 8 7,
 aV 5 10 1 2,
 ao 6 11 (.slice (.arr 32 1) (ae 10) none none none),
 aV 7 12 1 3,
 ao 8 13 (.slice (.arr 32 1) (ae 12) none none none),
 sc 4 9 137 [(ae 6),(ae 8)],
 sc 9 14 106 [(ae 11),(ae 13)],
 ao 10 15 (.dh 1 [.int .i64 0] 2 [(0,(ae 9)),(1,(ae 14))]),
 sc 11 16 136 [(ae 15)],
 af 12 4 16]
 .ret))
def abt:List bf:=[.aO (ae 4)]
theorem ahS:bx Tryz.prog 86=some Rz:=by kernel_rfl
theorem asB:bz Tryz.prog 86=some abt:=by kernel_rfl
def RA:aT:=(aj [ao 0 4 (.box (ae 1)),
 ao 1 5 (.box (ae 2)),
 ao 2 6 (.aO (.const (.slice none 0 0)))]
 (.seq (aj [aV 0 10 3 4,
 aV 1 11 0 10,
 aX 2 12 11,
 ao 3 13 (.bin .neq 5 (ae 12) (.const (.int .u8 4)))]
 (.cond (ae 13) (aj [af 0 14 0,
 af 1 6 14]
 .ret) .skip))
 (aj [aV 0 15 3 4,
 aV 1 16 1 15,
 aX 2 17 16,
 aV 3 18 3 4,
 aV 4 19 2 18,
 bi 5 20 4 19,
 aV 6 21 2 4,
 aX 7 22 21,
 bi 8 23 32 5,
 ao 9 24 (.dp ([.str [],.int .u8 0,.int .i64 0,.int .u64 0,.str [],.int .u64 0]++rep 32 (.int .u8 0)) [(0,1,(ae 17)),(1,4,(ae 20)),(5,1,(ae 22)),(6,32,(ae 23))]),
 ao 10 7 (.alloc ([.str [],.int .u8 0,.int .i64 0,.int .u64 0,.str [],.int .u64 0]++rep 32 (.int .u8 0))),
 bG 11 38 7 24]
 (aj [af 0 26 0,
 aV 1 27 0 7,
 aX 2 28 27,
 sc 3 29 92 [(ae 26),(.func 93),(ae 28)],
 af 4 25 29,
 cN 5 30 25 0,
 cN 6 31 25 1,
 af 7 8 30,
 af 8 9 31]
 (.seq (aj [af 0 32 9,
 ao 1 33 (.un .not (ae 32))]
 (.cond (ae 33) (aj [af 0 34 0,
 af 1 35 8,
 bi 2 36 38 7,
 ao 3 37 (.dh 38 ([.str [],.int .u8 0,.int .i64 0,.int .u64 0,.str [],.int .u64 0]++rep 32 (.int .u8 0)) 1 [(0,(ae 36))]),
 sc 4 38 138 [(ae 34),(ae 35),(ae 37)],
 af 5 6 38]
 .ret) .skip))
 (.seq (aj [bi 0 39 38 7,
 af 1 40 0,
 af 2 41 8,
 b0 3 42 38 40 41,
 bi 4 43 38 42,
 sc 5 44 139 [(ae 39),(ae 43)]]
 (.cond (ae 44) (.bH [af 0 45 0,
 af 1 46 8,
 bi 2 47 38 7,
 b0 3 48 38 45 46,
 bG 4 38 48 47]) .skip))
 (aj [af 0 49 0,
 af 1 6 49]
 .ret)))))))
def abu:List bf:=[.aO (ae 6)]
theorem ahT:bx Tryz.prog 87=some RA:=by kernel_rfl
theorem asC:bz Tryz.prog 87=some abu:=by kernel_rfl
def Xi:aT:=(aj [bq 0 14 .lss 3 13 12]
 (.seq (.cond (ae 14) .skip (.exit 0))
 (.seq (.block 1 (aj [af 0 15 13,
 b0 1 16 32 11 13,
 bi 2 17 32 16,
 ao 3 5 (.alloc (rep 32 (.int .u8 0))),
 af 4 4 15,
 bG 5 32 5 17]
 (.bH [af 0 18 3,
 bi 1 19 32 5,
 af 2 20 4,
 rG 3 (.yl 48 (ae 18) (ae 19) (ae 20))])))
 (.bH [a6 0 21 .add 3 13 1,
 af 1 13 21]))))
def RB:aT:=(aj [ao 0 1 (.box (ae 0)),
 ao 1 2 (.aO (.const (.map none)))]
 (aj [aV 0 6 0 1,
 aX 1 7 6,
 b1 2 8 32 7,
 ao 3 9 (.v7 (some (ae 8))),
 af 4 3 9]
 (.seq (aj [aV 0 10 0 1,
 aX 1 11 10,
 b1 2 12 32 11,
 aU 3 13 0]
 (.block 0 (.loop Xi)))
 (aj [af 0 22 3,
 af 1 2 22]
 .ret))))
def abv:List bf:=[.aO (ae 2)]
theorem ahU:bx Tryz.prog 88=some RB:=by kernel_rfl
theorem asD:bz Tryz.prog 88=some abv:=by kernel_rfl
def Xj:aT:=(aj [bq 0 10 .lss 3 9 8]
 (.seq (.cond (ae 10) .skip (.exit 0))
 (.seq (.block 1 (aj [af 0 11 9,
 af 1 6 11]
 (aj [af 0 12 1,
 af 1 13 6,
 b0 2 14 1 12 13,
 aX 3 15 14]
 (.cond (ae 15) (.bH [af 0 16 5,
 aV 1 17 0 2,
 aX 2 18 17,
 af 3 19 6,
 b0 4 20 32 18 19,
 bi 5 21 32 20,
 ao 6 22 (.dh 32 (rep 32 (.int .u8 0)) 1 [(0,(ae 21))]),
 ao 7 23 (.app 32 32 (ae 16) (ae 22)),
 af 8 5 23]) .skip))))
 (.bH [a6 0 24 .add 3 9 1,
 af 1 9 24]))))
def RC:aT:=(aj [ao 0 2 (.box (ae 0)),
 ao 1 4 (.aO (.const (.slice none 0 0)))]
 (aj [ao 0 5 (.aO (.const (.slice none 0 0)))]
 (.seq (aj [af 0 7 1,
 b1 1 8 1 7,
 aU 2 9 0]
 (.block 0 (.loop Xj)))
 (aj [af 0 25 5,
 af 1 4 25]
 .ret))))
def abw:List bf:=[.aO (ae 4)]
theorem ahV:bx Tryz.prog 89=some RC:=by kernel_rfl
theorem asE:bz Tryz.prog 89=some abw:=by kernel_rfl
def Xk:aT:=(aj [bq 0 17 .lss 3 16 15]
 (.seq (.cond (ae 17) .skip (.exit 0))
 (.seq (.block 1 (aj [b0 0 18 33 14 16,
 bi 1 19 33 18,
 ao 2 7 (.alloc ([.str []]++rep 32 (.int .u8 0))),
 bG 3 33 7 19]
 (.bH [af 0 20 5,
 aV 1 21 0 7,
 aX 2 22 21,
 ao 3 23 (.dh 1 [.str []] 1 [(0,(ae 22))]),
 ao 4 24 (.app 1 16 (ae 20) (ae 23)),
 af 5 5 24])))
 (.bH [a6 0 25 .add 3 16 1,
 af 1 16 25]))))
def RD:aT:=(aj [ao 0 1 (.box (ae 0)),
 ao 1 2 (.aO (.const (.slice none 0 0))),
 aU 2 3 0]
 (.seq (aj [bi 0 8 1 1,
 sc 1 9 58 [(ae 8)],
 af 2 4 9]
 (aj [af 0 10 4,
 a6 1 11 .neq 37 10 0]
 (.cond (ae 11) (aj [af 0 12 4,
 ao 1 2 (.aO (.const (.slice none 0 0))),
 af 2 3 12]
 .ret) .skip)))
 (aj [ao 0 5 (.aO (.const (.slice none 0 0)))]
 (.seq (aj [aV 0 13 0 1,
 aX 1 14 13,
 b1 2 15 33 14,
 aU 3 16 0]
 (.block 0 (.loop Xk)))
 (aj [af 0 26 5,
 sc 1 27 140 [(ae 26)],
 af 2 2 27,
 aU 3 3 0]
 .ret)))))
def abx:List bf:=[.aO (ae 2),.aO (ae 3)]
theorem ahX:bx Tryz.prog 90=some RD:=by kernel_rfl
theorem asF:bz Tryz.prog 90=some abx:=by kernel_rfl
def RE:aT:=(aj [cD 0 4 false]
 (aj [af 0 5 0,
 af 1 6 1,
 sc 2 7 141 [(ae 5),(ae 6)],
 a6 3 8 .geq 3 7 0,
 af 4 4 8]
 .ret))
def aby:List bf:=[.aO (ae 4)]
theorem ahY:bx Tryz.prog 91=some RE:=by kernel_rfl
theorem asG:bz Tryz.prog 91=some aby:=by kernel_rfl
def RF:aT:=(aj [ao 0 4 (.box (ae 1)),
 aU 1 6 0,
 cD 2 7 false]
 (aj [af 0 8 0,
 af 1 9 2,
 ao 2 10 (.sT 143 [] [(ae 4)]),
 sc 3 11 142 [(ae 8),(ae 9),(ae 10)],
 cN 4 12 11 0,
 cN 5 13 11 1,
 af 6 6 12,
 af 7 7 13]
 .ret))
def abz:List bf:=[.aO (ae 6),.aO (ae 7)]
theorem ahZ:bx Tryz.prog 92=some RF:=by kernel_rfl
theorem asH:bz Tryz.prog 92=some abz:=by kernel_rfl
def RG:aT:=(aj [ao 0 1 (.box (ae 0)),
 ao 1 2 (.aO (.const (.string ⟨#[]⟩)))]
 (aj [aV 0 3 0 1,
 aX 1 4 3,
 af 2 2 4]
 .ret))
def abA:List bf:=[.aO (ae 2)]
theorem ah0:bx Tryz.prog 93=some RG:=by kernel_rfl
theorem asI:bz Tryz.prog 93=some abA:=by kernel_rfl
def RH:aT:=(aj [ao 0 1 (.box (ae 0)),
 ao 1 2 (.alloc (rep 32 (.int .u8 0))),
 aU 2 3 0]
 (aj [bi 0 7 11 1,
 sc 1 8 144 [(ae 7)],
 af 2 6 8,
 cN 3 9 6 0,
 cN 4 10 6 1,
 af 5 4 9,
 af 6 5 10]
 (.seq (aj [af 0 11 5,
 a6 1 12 .neq 37 11 0]
 (.cond (ae 12) (aj [ao 0 13 (.dp (rep 32 (.int .u8 0)) []),
 af 1 14 5,
 bG 2 32 2 13,
 af 3 3 14]
 .ret) .skip))
 (aj [af 0 15 4,
 sc 1 16 145 [(ae 15)],
 cN 2 17 16 0,
 cN 3 18 16 1,
 bG 4 32 2 17,
 af 5 3 18]
 .ret))))
def abB:List bf:=[.eg 32 (ae 2),.aO (ae 3)]
theorem ah1:bx Tryz.prog 94=some RH:=by kernel_rfl
theorem asJ:bz Tryz.prog 94=some abB:=by kernel_rfl
def RI:aT:=(aj [ao 0 1 (.box (ae 0)),
 aU 1 2 0]
 (.seq (aj [bi 0 6 11 1,
 sc 1 7 146 [(ae 6)],
 af 2 3 7]
 (aj [af 0 8 3,
 a6 1 9 .neq 37 8 0]
 (.cond (ae 9) (aj [af 0 10 3,
 af 1 2 10]
 .ret) .skip)))
 (aj [bi 0 12 11 1,
 sc 1 13 147 [(ae 12)],
 af 2 11 13,
 cN 3 14 11 0,
 cN 4 15 11 1,
 af 5 4 14,
 af 6 5 15]
 (aj [aV 0 16 0 1,
 aX 1 17 16,
 af 2 18 4,
 aV 3 19 9 1,
 bi 4 20 2 19,
 sc 5 21 148 [(ae 17),(ae 18),(ae 20)],
 af 6 2 21]
 .ret))))
def abC:List bf:=[.aO (ae 2)]
theorem ah2:bx Tryz.prog 95=some RI:=by kernel_rfl
theorem asK:bz Tryz.prog 95=some abC:=by kernel_rfl
def Xl:aT:=(.seq (aj [af 0 16 3,
 aV 1 17 0 1,
 aX 2 18 17,
 b1 3 19 32 18,
 bq 4 20 .lss 3 16 19]
 (.cond (ae 20) .skip (.exit 0)))
 (.seq (.block 1 (aj [aV 0 23 0 1,
 aX 1 24 23,
 af 2 25 3,
 a6 3 26 .sub 3 25 1,
 b0 4 27 32 24 26,
 bi 5 28 32 27,
 aV 6 29 0 1,
 aX 7 30 29,
 af 8 31 3,
 b0 9 32 32 30 31,
 bi 10 33 32 32,
 sc 11 34 149 [(ae 28),(ae 33)],
 a6 12 35 .geq 3 34 0]
 (.cond (ae 35) (aj [aU 0 2 32]
 .ret) .skip)))
 (.bH [af 0 21 3,
 a6 1 22 .add 3 21 1,
 af 2 3 22])))
def Xm:aT:=(aj [bq 0 56 .lss 3 55 54]
 (.seq (.cond (ae 56) .skip (.exit 4))
 (.seq (.block 5 (aj [b0 0 57 32 53 55,
 bi 1 58 32 57,
 ao 2 10 (.alloc (rep 32 (.int .u8 0))),
 bG 3 32 10 58]
 (aj [bi 0 60 2 1,
 bi 1 61 32 10,
 sc 2 62 114 [(ae 60),(ae 61)],
 af 3 59 62,
 cN 4 63 59 0,
 cN 5 64 59 1,
 af 6 11 63,
 af 7 12 64]
 (.seq (aj [af 0 65 12,
 ao 1 66 (.un .not (ae 65))]
 (.cond (ae 66) (aj [aU 0 2 40]
 .ret) .skip))
 (.bH [af 0 67 5,
 af 1 68 11,
 af 2 69 5,
 af 3 70 11,
 b0 4 71 1 69 70,
 aX 5 72 71,
 af 6 73 7,
 ao 7 74 (.dh 1 [.int .i64 0] 1 [(0,(ae 73))]),
 ao 8 75 (.app 1 8 (ae 72) (ae 74)),
 b0 9 76 1 67 68,
 bG 10 1 76 75])))))
 (.bH [a6 0 77 .add 3 55 1,
 af 1 55 77]))))
def Xn:aT:=(aj [bq 0 48 .lss 3 47 46]
 (.seq (.cond (ae 48) .skip (.exit 2))
 (.seq (.block 3 (aj [af 0 49 47,
 b0 1 50 11 45 47,
 bi 2 51 11 50,
 ao 3 8 (.alloc [.int .u32 0,.aK,.int .u64 0,.int .u8 0,.str [],.int .u8 0,.int .i64 0,.int .u64 0,.str [],.int .u32 0,.int .u32 0]),
 af 4 7 49,
 bG 5 11 8 51]
 (.seq (aj [aV 0 52 1 8,
 aX 1 53 52,
 b1 2 54 32 53,
 aU 3 55 0]
 (.block 4 (.loop Xm)))
 (aj [af 0 78 4,
 af 1 79 7,
 aV 2 80 1 8,
 aX 3 81 80,
 b1 4 82 32 81,
 b0 5 83 1 78 79,
 bG 6 1 83 82]
 (aj [af 0 84 4,
 af 1 85 7,
 b0 2 86 1 84 85,
 aX 3 87 86,
 a6 4 88 .eql 3 87 0]
 (.cond (ae 88) (.bH [af 0 89 6,
 af 1 90 7,
 ao 2 91 (.dh 1 [.int .i64 0] 1 [(0,(ae 90))]),
 ao 3 92 (.app 1 8 (ae 89) (ae 91)),
 af 4 6 92]) .skip))))))
 (.bH [a6 0 93 .add 3 47 1,
 af 1 47 93]))))
def Xo:aT:=(aj [bq 0 109 .lss 3 108 107]
 (.seq (.cond (ae 109) .skip (.exit 8))
 (.seq (.block 9 (aj [b0 0 110 1 106 108,
 aX 1 111 110,
 af 2 15 111]
 (aj [af 0 112 4,
 af 1 113 15,
 b0 2 114 1 112 113,
 aX 3 115 114,
 a6 4 116 .sub 3 115 1,
 b0 5 117 1 112 113,
 bG 6 1 117 116]
 (aj [af 0 118 4,
 af 1 119 15,
 b0 2 120 1 118 119,
 aX 3 121 120,
 a6 4 122 .eql 3 121 0]
 (.cond (ae 122) (.bH [af 0 123 6,
 af 1 124 15,
 ao 2 125 (.dh 1 [.int .i64 0] 1 [(0,(ae 124))]),
 ao 3 126 (.app 1 8 (ae 123) (ae 125)),
 af 4 6 126]) .skip)))))
 (.bH [a6 0 127 .add 3 108 1,
 af 1 108 127]))))
def Xp:aT:=(.seq (aj [af 0 94 13,
 af 1 95 6,
 b1 2 96 1 95,
 bq 3 97 .lss 3 94 96]
 (.cond (ae 97) .skip (.exit 6)))
 (.seq (.block 7 (aj [af 0 100 5,
 af 1 101 6,
 af 2 102 13,
 b0 3 103 1 101 102,
 aX 4 104 103,
 b0 5 105 1 100 104,
 aX 6 106 105,
 b1 7 107 1 106,
 aU 8 108 0]
 (.block 8 (.loop Xo))))
 (.bH [af 0 98 13,
 a6 1 99 .add 3 98 1,
 af 2 13 99])))
def RJ:aT:=(aj [ao 0 1 (.box (ae 0)),
 aU 1 2 0]
 (.seq (aj [aU 0 3 1]
 (.block 0 (.loop Xl)))
 (aj [aV 0 36 1 1,
 aX 1 37 36,
 b1 2 38 11 37,
 ao 3 39 (.pn 1 8 [.int .i64 0] (ae 38) (ae 38)),
 af 4 4 39]
 (aj [aV 0 40 1 1,
 aX 1 41 40,
 b1 2 42 11 41,
 ao 3 43 (.pn 1 24 [.aK] (ae 42) (ae 42)),
 af 4 5 43]
 (aj [ao 0 6 (.aO (.const (.slice none 0 0)))]
 (.seq (aj [aV 0 44 1 1,
 aX 1 45 44,
 b1 2 46 11 45,
 aU 3 47 0]
 (.block 2 (.loop Xn)))
 (aj [aU 0 13 0]
 (.seq (.block 6 (.loop Xp))
 (.seq (aj [af 0 128 13,
 aV 1 129 1 1,
 aX 2 130 129,
 b1 3 131 11 130,
 bq 4 132 .lss 3 128 131]
 (.cond (ae 132) (aj [aU 0 2 36]
 .ret) .skip))
 (aj [aU 0 2 0]
 .ret))))))))))
def abD:List bf:=[.aO (ae 2)]
theorem ah3:bx Tryz.prog 96=some RJ:=by kernel_rfl
theorem asL:bz Tryz.prog 96=some abD:=by kernel_rfl
def RK:aT:=(aj [ao 0 3 (.box (ae 0)),
 ao 1 4 (.box (ae 1)),
 ao 2 5 (.box (ae 2)),
 ao 3 6 (.alloc [.aK]),
 aU 4 7 0]
 (.seq (aj [bi 0 15 1 3,
 sc 1 16 58 [(ae 15)],
 af 2 8 16]
 (aj [af 0 17 8,
 a6 1 18 .neq 37 17 0]
 (.cond (ae 18) (aj [ao 0 19 (.dp [.aK] []),
 af 1 20 8,
 bG 2 1 6 19,
 af 3 7 20]
 .ret) .skip)))
 (aj [bi 0 22 11 4,
 sc 1 23 94 [(ae 22)],
 af 2 21 23,
 cN 3 24 21 0,
 cN 4 25 21 1,
 ao 5 9 (.alloc (rep 32 (.int .u8 0))),
 bG 6 32 9 24,
 af 7 10 25]
 (.seq (aj [af 0 26 10,
 a6 1 27 .neq 37 26 0]
 (.cond (ae 27) (aj [ao 0 28 (.dp [.aK] []),
 bG 1 1 6 28,
 aU 2 7 8]
 .ret) .skip))
 (.seq (aj [aX 0 29 5,
 b1 1 30 32 29,
 a6 2 31 .gtr 3 30 60]
 (.cond (ae 31) (aj [ao 0 32 (.dp [.aK] []),
 bG 1 1 6 32,
 aU 2 7 4]
 .ret) .skip))
 (aj [aV 0 33 0 3,
 aX 1 34 33,
 sc 2 35 150 [(ae 34)],
 ao 3 36 (.dp [.aK] [(0,1,(ae 35))]),
 ao 4 11 (.alloc [.aK]),
 bG 5 1 11 36]
 (.seq (aj [aV 0 37 3 4,
 aV 1 38 0 37,
 aX 2 39 38]
 (.block 0 (aj [ao 0 41 (.bin .eql 5 (ae 39) (.const (.int .u8 2))),
 af 1 40 41]
 (.cond (ae 40) (aj [aV 0 42 3 4,
 aV 1 43 1 42,
 aX 2 44 43,
 bi 3 45 32 9,
 ao 4 46 (.dp ([.str []]++rep 32 (.int .u8 0)) [(0,1,(ae 44)),(1,32,(ae 45))]),
 ao 5 12 (.alloc ([.str []]++rep 32 (.int .u8 0))),
 bG 6 33 12 46]
 (aj [aV 0 48 0 11,
 aX 1 49 48,
 bi 2 50 33 12,
 sc 3 51 151 [(ae 49),(ae 50),(.func 86)],
 af 4 47 51,
 cN 5 52 47 0,
 cN 6 53 47 1,
 af 7 13 52,
 af 8 14 53]
 (.seq (aj [af 0 54 14]
 (.cond (ae 54) (aj [ao 0 55 (.dp [.aK] []),
 bG 1 1 6 55,
 aU 2 7 14]
 .ret) .skip))
 (.seq (aj [aV 0 56 0 11,
 aX 1 57 56,
 b1 2 58 33 57,
 a6 3 59 .eql 3 58 60]
 (.cond (ae 59) (aj [ao 0 60 (.dp [.aK] []),
 bG 1 1 6 60,
 aU 2 7 18]
 .ret) .skip))
 (.bH [aV 0 61 0 11,
 aX 1 62 61,
 af 2 63 13,
 bi 3 64 33 12,
 ao 4 65 (.dh 33 ([.str []]++rep 32 (.int .u8 0)) 1 [(0,(ae 64))]),
 sc 5 66 152 [(ae 62),(ae 63),(ae 65)],
 aV 6 67 0 11,
 bG 7 1 67 66]))))) (aj [ao 0 69 (.bin .eql 5 (ae 39) (.const (.int .u8 3))),
 af 1 68 69]
 (.cond (ae 68) (.bH [aV 0 70 0 11,
 aX 1 71 70,
 ao 2 72 (.sT 154 [] [(ae 4),(ae 5)]),
 sc 3 73 153 [(ae 71),(ae 72)],
 aV 4 74 0 11,
 bG 5 1 74 73]) .skip))))))
 (aj [bi 0 75 1 11,
 bG 1 1 6 75,
 aU 2 7 0]
 .ret))))))))
def abE:List bf:=[.eg 1 (ae 6),.aO (ae 7)]
theorem ah4:bx Tryz.prog 97=some RK:=by kernel_rfl
theorem asM:bz Tryz.prog 97=some abE:=by kernel_rfl
def RL:aT:=(aj [ao 0 2 (.box (ae 0)),
 ao 1 3 (.box (ae 1)),
 ao 2 4 (.alloc [.aK]),
 aU 3 5 0]
 (.seq (aj [bi 0 10 1 2,
 sc 1 11 59 [(ae 10)],
 af 2 6 11]
 (aj [af 0 12 6,
 a6 1 13 .neq 37 12 0]
 (.cond (ae 13) (aj [ao 0 14 (.dp [.aK] []),
 af 1 15 6,
 bG 2 1 4 14,
 af 3 5 15]
 .ret) .skip)))
 (aj [bi 0 17 11 3,
 sc 1 18 94 [(ae 17)],
 af 2 16 18,
 cN 3 19 16 0,
 cN 4 20 16 1,
 ao 5 7 (.alloc (rep 32 (.int .u8 0))),
 bG 6 32 7 19,
 af 7 8 20]
 (.seq (aj [af 0 21 8,
 a6 1 22 .neq 37 21 0]
 (.cond (ae 22) (aj [ao 0 23 (.dp [.aK] []),
 bG 1 1 4 23,
 aU 2 5 8]
 .ret) .skip))
 (.seq (.hc [aV 0 24 0 2,
 aX 1 25 24,
 ⟨3,(some 27),none,.cM (.eg 11 (ae 3)),[],true⟩,
 ⟨4,(some 28),none,.cM (.eg 32 (ae 7)),[],true⟩,
 ⟨2,(some 26),none,.cO 155 [(ae 25)],[4,3],false⟩,
 sc 5 29 87 [(ae 26),(ae 27),(ae 28)],
 af 6 9 29])
 (.seq (aj [af 0 30 9,
 b1 1 31 38 30,
 a6 2 32 .gtr 3 31 60]
 (.cond (ae 32) (aj [ao 0 33 (.dp [.aK] []),
 bG 1 1 4 33,
 aU 2 5 18]
 .ret) .skip))
 (aj [af 0 34 9,
 ao 1 35 (.dp [.aK] [(0,1,(ae 34))]),
 bG 2 1 4 35,
 aU 3 5 0]
 .ret)))))))
def abF:List bf:=[.eg 1 (ae 4),.aO (ae 5)]
theorem ah5:bx Tryz.prog 98=some RL:=by kernel_rfl
theorem asN:bz Tryz.prog 98=some abF:=by kernel_rfl
def VS:aT:=(.seq (aj [af 0 37 9,
 aV 1 38 0 3,
 aX 2 39 38,
 b1 3 40 33 39,
 bq 4 41 .lss 3 37 40]
 (.cond (ae 41) .skip (.exit 0)))
 (.seq (.block 1 (aj [aV 0 44 0 3,
 aX 1 45 44,
 af 2 46 9,
 b0 3 47 33 45 46,
 bi 4 48 33 47,
 bi 5 49 33 8,
 bq 6 50 .eql 53 48 49]
 (.cond (ae 50) (aj [ao 0 51 (.dp [.aK] []),
 bG 1 1 6 51,
 aU 2 7 14]
 .ret) .skip)))
 (.bH [af 0 42 9,
 a6 1 43 .add 3 42 1,
 af 2 9 43])))
def VT:aT:=(.seq (aj [af 0 62 11,
 aV 1 63 0 3,
 aX 2 64 63,
 b1 3 65 33 64,
 bq 4 66 .lss 3 62 65]
 (.cond (ae 66) .skip (.exit 2)))
 (.seq (.block 3 (aj [aV 0 69 0 3,
 aX 1 70 69,
 af 2 71 11,
 b0 3 72 33 70 71,
 bi 4 73 33 72,
 ao 5 12 (.alloc ([.str []]++rep 32 (.int .u8 0))),
 bG 6 33 12 73]
 (aj [aV 0 74 3 4,
 aV 1 75 0 74,
 aX 2 76 75,
 ao 3 77 (.bin .neq 5 (ae 76) (.const (.int .u8 3))),
 af 4 78 77,
 cz 5 79 78 false 0 12,
 dz 6 80 78 false 79,
 cz 7 81 78 false 3 4,
 cz 8 82 78 false 1 81,
 dz 9 83 78 false 82,
 jM 10 84 78 false .neq 9 80 83,
 e5 11 85 78 84,
 af 12 86 85,
 dr 13 87 86 false 2,
 cz 14 88 86 false 1 12,
 eI 15 89 86 false 32 88,
 ⟨16,(some 90),(some ((some 86),false)),.cO 79 [(ae 87),(ae 89)],[],false⟩,
 dV 17 91 86 false (.un .not (ae 90)),
 e5 18 92 86 91]
 (.cond (ae 92) (.bH [aV 0 93 0 10,
 aX 1 94 93,
 bi 2 95 33 12,
 ao 3 96 (.dh 33 ([.str []]++rep 32 (.int .u8 0)) 1 [(0,(ae 95))]),
 ao 4 97 (.app 33 48 (ae 94) (ae 96)),
 aV 5 98 0 10,
 bG 6 1 98 97]) .skip))))
 (.bH [af 0 67 11,
 a6 1 68 .add 3 67 1,
 af 2 11 68])))
def OG:aT:=(aj [ao 0 3 (.box (ae 0)),
 ao 1 4 (.box (ae 1)),
 ao 2 6 (.alloc [.aK]),
 aU 3 7 0]
 (.seq (aj [bi 0 13 1 3,
 sc 1 14 62 [(ae 13)],
 a6 2 15 .neq 3 14 0]
 (.cond (ae 15) (aj [ao 0 16 (.dp [.aK] []),
 bi 1 17 1 3,
 sc 2 18 62 [(ae 17)],
 bG 3 1 6 16,
 af 4 7 18]
 .ret) .skip))
 (.seq (aj [bi 0 19 11 4,
 sc 1 20 81 [(ae 19)],
 a6 2 21 .neq 3 20 0]
 (.cond (ae 21) (aj [ao 0 22 (.dp [.aK] []),
 bG 1 1 6 22,
 aU 2 7 8]
 .ret) .skip))
 (.seq (aj [af 0 23 2,
 b1 1 24 32 23,
 a6 2 25 .gtr 3 24 60]
 (.cond (ae 25) (aj [ao 0 26 (.dp [.aK] []),
 bG 1 1 6 26,
 aU 2 7 4]
 .ret) .skip))
 (.seq (aj [aV 0 27 3 4,
 aV 1 28 0 27,
 aX 2 29 28,
 ao 3 30 (.bin .eql 5 (ae 29) (.const (.int .u8 2)))]
 (.cond (ae 30) (.seq (.hc [aV 0 31 3 4,
 aV 1 32 1 31,
 ⟨2,(some 33),none,.cM (.ld1 (ae 32)),[],true⟩,
 bi 3 34 11 4,
 ⟨6,(some 8),none,.cM (.alloc ([.str []]++rep 32 (.int .u8 0))),[],true⟩,
 ⟨4,(some 35),none,.cO 33 [(ae 34)],[6,2],false⟩,
 ao 5 36 (.dp ([.str []]++rep 32 (.int .u8 0)) [(0,1,(ae 33)),(1,32,(ae 35))]),
 bG 7 33 8 36])
 (.seq (aj [aU 0 9 0]
 (.block 0 (.loop VS)))
 (.seq (aj [aV 0 52 0 3,
 aX 1 53 52,
 b1 2 54 33 53,
 a6 3 55 .eql 3 54 60]
 (.cond (ae 55) (aj [ao 0 56 (.dp [.aK] []),
 bG 1 1 6 56,
 aU 2 7 18]
 .ret) .skip))
 (aj [aV 0 57 0 3,
 aX 1 58 57,
 bi 2 59 33 8,
 sc 3 60 111 [(ae 58),(ae 59)],
 ao 4 61 (.dp [.aK] [(0,1,(ae 60))]),
 bG 5 1 6 61,
 aU 6 7 0]
 .ret)))) .skip))
 (aj [ao 0 10 (.alloc [.aK])]
 (.seq (aj [aU 0 11 0]
 (.block 2 (.loop VT)))
 (aj [bi 0 99 1 10,
 bG 1 1 6 99,
 aU 2 7 0]
 .ret))))))))
def YC:List bf:=[.eg 1 (ae 6),.aO (ae 7)]
theorem ae1:bx Tryz.prog 100=some OG:=by kernel_rfl
theorem apH:bz Tryz.prog 100=some YC:=by kernel_rfl
def VU:aT:=(.seq (aj [af 0 21 8,
 aV 1 22 1 7,
 aX 2 23 22,
 b1 3 24 32 23,
 bq 4 25 .lss 3 21 24]
 (.cond (ae 25) .skip (.exit 2)))
 (.seq (.block 3 (aj [af 0 28 5,
 aV 1 29 1 7,
 aX 2 30 29,
 af 3 31 8,
 b0 4 32 32 30 31,
 bi 5 33 32 32,
 sc 6 34 79 [(ae 28),(ae 33)],
 ao 7 35 (.un .not (ae 34))]
 (.cond (ae 35) (aj [af 0 36 5,
 aV 1 37 1 7,
 aX 2 38 37,
 af 3 39 8,
 b0 4 40 32 38 39,
 bi 5 41 32 40,
 ao 6 42 (.dh 32 (rep 32 (.int .u8 0)) 1 [(0,(ae 41))]),
 ao 7 43 (.app 32 32 (ae 36) (ae 42)),
 af 8 5 43]
 (.bH [af 0 44 6,
 aV 1 45 1 7,
 aX 2 46 45,
 af 3 47 8,
 b0 4 48 32 46 47,
 bi 5 49 32 48,
 ao 6 50 (.dh 32 (rep 32 (.int .u8 0)) 1 [(0,(ae 49))]),
 ao 7 51 (.app 32 32 (ae 44) (ae 50)),
 af 8 6 51])) .skip)))
 (.bH [af 0 26 8,
 a6 1 27 .add 3 26 1,
 af 2 8 27])))
def VV:aT:=(.seq (aj [af 0 11 6,
 b1 1 12 32 11,
 a6 2 13 .gtr 3 12 0]
 (.cond (ae 13) .skip (.exit 0)))
 (.block 1 (.seq (.hc [bi 0 14 2 2,
 af 1 15 6,
 ao 2 16 (.ff (.av 32) (ae 15) (.const (.int .i64 0))),
 bi 3 17 32 16,
 ⟨5,(some 7),none,.cM (.alloc [.int .u32 0,.aK,.int .u64 0,.int .u8 0,.str [],.int .u8 0,.int .i64 0,.int .u64 0,.str [],.int .u32 0,.int .u32 0]),[],true⟩,
 ⟨4,(some 18),none,.cO 35 [(ae 14),(ae 17)],[5],false⟩,
 bG 6 11 7 18])
 (aj [af 0 19 6,
 ao 1 20 (.slice (.av 32) (ae 19) (some (.const (.int .i64 1))) none none),
 af 2 6 20]
 (aj [aU 0 8 0]
 (.block 2 (.loop VU)))))))
def OH:aT:=(aj [ao 0 2 (.box (ae 0)),
 ao 1 3 (.box (ae 1)),
 ao 2 4 (.aO (.const (.slice none 0 0)))]
 (aj [ao 0 5 (.aO (.const (.slice none 0 0)))]
 (aj [bi 0 9 32 3,
 ao 1 10 (.dh 32 (rep 32 (.int .u8 0)) 1 [(0,(ae 9))]),
 af 2 6 10]
 (.seq (.block 0 (.loop VV))
 (aj [af 0 52 5,
 af 1 4 52]
 .ret)))))
def YD:List bf:=[.aO (ae 4)]
theorem ae2:bx Tryz.prog 101=some OH:=by kernel_rfl
theorem apI:bz Tryz.prog 101=some YD:=by kernel_rfl
def OI:aT:=(aj [ao 0 2 (.box (ae 0)),
 ao 1 3 (.box (ae 1)),
 ao 2 4 (.alloc [.aK]),
 aU 3 5 0]
 (.seq (aj [bi 0 9 1 2,
 sc 1 10 63 [(ae 9)],
 a6 2 11 .neq 3 10 0]
 (.cond (ae 11) (aj [ao 0 12 (.dp [.aK] []),
 bi 1 13 1 2,
 sc 2 14 63 [(ae 13)],
 bG 3 1 4 12,
 af 4 5 14]
 .ret) .skip))
 (.seq (aj [bi 0 15 11 3,
 sc 1 16 81 [(ae 15)],
 a6 2 17 .neq 3 16 0]
 (.cond (ae 17) (aj [ao 0 18 (.dp [.aK] []),
 bG 1 1 4 18,
 aU 2 5 8]
 .ret) .skip))
 (aj [ao 0 19 (.dh 38 ([.str [],.int .u8 0,.int .i64 0,.int .u64 0,.str [],.int .u64 0]++rep 32 (.int .u8 0)) 0 []),
 aV 1 20 0 2,
 aX 2 21 20,
 ao 3 22 (.app 38 96 (ae 19) (ae 21)),
 ao 4 23 (.dp [.aK] [(0,1,(ae 22))]),
 ao 5 6 (.alloc [.aK]),
 bG 6 1 6 23]
 (.seq (aj [aV 0 24 3 3,
 aV 1 25 0 24,
 aX 2 26 25,
 ao 3 27 (.bin .neq 5 (ae 26) (.const (.int .u8 4)))]
 (.cond (ae 27) (aj [bi 0 28 1 6,
 bG 1 1 4 28,
 aU 2 5 0]
 .ret) .skip))
 (.seq (.hc [aV 0 29 3 3,
 aV 1 30 1 29,
 ⟨2,(some 31),none,.cM (.ld1 (ae 30)),[],true⟩,
 aV 3 32 3 3,
 aV 4 33 2 32,
 ⟨5,(some 34),none,.cM (.eg 4 (ae 33)),[],true⟩,
 aV 6 35 2 3,
 ⟨7,(some 36),none,.cM (.ld1 (ae 35)),[],true⟩,
 bi 8 37 11 3,
 ⟨11,(some 7),none,.cM (.alloc ([.str [],.int .u8 0,.int .i64 0,.int .u64 0,.str [],.int .u64 0]++rep 32 (.int .u8 0))),[],true⟩,
 ⟨9,(some 38),none,.cO 33 [(ae 37)],[11,7,5,2],false⟩,
 ao 10 39 (.dp ([.str [],.int .u8 0,.int .i64 0,.int .u64 0,.str [],.int .u64 0]++rep 32 (.int .u8 0)) [(0,1,(ae 31)),(1,4,(ae 34)),(5,1,(ae 36)),(6,32,(ae 38))]),
 bG 12 38 7 39])
 (aj [aV 0 40 0 2,
 aX 1 41 40,
 aV 2 42 0 7,
 aX 3 43 42,
 sc 4 44 15 [(ae 41),(ae 43)],
 af 5 8 44]
 (.seq (aj [af 0 45 8,
 a6 1 46 .geq 3 45 0]
 (.cond (ae 46) (.seq (aj [aV 0 47 5 7,
 aX 1 48 47,
 aV 2 49 6 7,
 bi 3 50 32 49,
 aV 4 51 0 2,
 aX 5 52 51,
 af 6 53 8,
 b0 7 54 38 52 53,
 bi 8 55 38 54,
 sc 9 56 112 [(ae 48),(ae 50),(ae 55)]]
 (.cond (ae 56) (.bH [aV 0 57 0 6,
 aX 1 58 57,
 af 2 59 8,
 bi 3 60 38 7,
 b0 4 61 38 58 59,
 bG 5 38 61 60]) .skip))
 (aj [bi 0 62 1 6,
 bG 1 1 4 62,
 aU 2 5 0]
 .ret)) .skip))
 (.seq (aj [aV 0 63 0 2,
 aX 1 64 63,
 b1 2 65 38 64,
 a6 3 66 .eql 3 65 60]
 (.cond (ae 66) (aj [ao 0 67 (.dp [.aK] []),
 bG 1 1 4 67,
 aU 2 5 18]
 .ret) .skip))
 (aj [aV 0 68 0 2,
 aX 1 69 68,
 bi 2 70 38 7,
 sc 3 71 113 [(ae 69),(ae 70)],
 ao 4 72 (.dp [.aK] [(0,1,(ae 71))]),
 bG 5 1 4 72,
 aU 6 5 0]
 .ret))))))))))
def YE:List bf:=[.eg 1 (ae 4),.aO (ae 5)]
theorem ae3:bx Tryz.prog 102=some OI:=by kernel_rfl
theorem apJ:bz Tryz.prog 102=some YE:=by kernel_rfl
def VW:aT:=(.seq (aj [af 0 9 8,
 af 1 10 0,
 b1 2 11 32 10,
 bq 3 12 .lss 3 9 11]
 (.cond (ae 12) .skip (.exit 0)))
 (.seq (.block 1 (aj [aV 0 15 1 4,
 aX 1 16 15,
 af 2 17 0,
 af 3 18 8,
 b0 4 19 32 17 18,
 bi 5 20 32 19,
 sc 6 21 79 [(ae 16),(ae 20)],
 ao 7 22 (.un .not (ae 21))]
 (.cond (ae 22) (.bH [af 0 23 7,
 af 1 24 0,
 af 2 25 8,
 b0 3 26 32 24 25,
 bi 4 27 32 26,
 ao 5 28 (.dh 32 (rep 32 (.int .u8 0)) 1 [(0,(ae 27))]),
 ao 6 29 (.app 32 32 (ae 23) (ae 28)),
 af 7 7 29]) .skip)))
 (.bH [af 0 13 8,
 a6 1 14 .add 3 13 1,
 af 2 8 14])))
def OJ:aT:=(aj [ao 0 4 (.box (ae 1)),
 ao 1 5 (.box (ae 2)),
 ao 2 6 (.aO (.const (.slice none 0 0)))]
 (aj [ao 0 7 (.aO (.const (.slice none 0 0)))]
 (.seq (aj [aU 0 8 0]
 (.block 0 (.loop VW)))
 (aj [af 0 30 7,
 bi 1 31 32 5,
 ao 2 32 (.dh 32 (rep 32 (.int .u8 0)) 1 [(0,(ae 31))]),
 ao 3 33 (.app 32 32 (ae 30) (ae 32)),
 sc 4 34 74 [(ae 33)],
 af 5 6 34]
 .ret))))
def YF:List bf:=[.aO (ae 6)]
theorem ae4:bx Tryz.prog 103=some OJ:=by kernel_rfl
theorem apK:bz Tryz.prog 103=some YF:=by kernel_rfl
def OK:aT:=(aj [ao 0 1 (.box (ae 0)),
 aU 1 2 0]
 (aj [cD 0 3 false]
 (.seq (aj [aV 0 4 0 1,
 aX 1 5 4]
 (.block 0 (aj [ao 0 7 (.bin .eql 5 (ae 5) (.const (.int .u8 1))),
 af 1 6 7]
 (.cond (ae 6) (.bH [bi 0 8 6 1,
 ao 1 9 (.dp [.int .u8 0,.str [],.int .u8 0,.int .i64 0,.int .u64 0,.str []] [(0,1,(.const (.int .u8 1)))]),
 bq 2 10 .eql 78 8 9,
 af 3 3 10]) (.seq (aj [ao 0 12 (.bin .eql 5 (ae 5) (.const (.int .u8 2))),
 af 1 11 12]
 (.cond (ae 11) .skip (.bH [ao 0 13 (.bin .eql 5 (ae 5) (.const (.int .u8 3))),
 af 1 11 13])))
 (.cond (ae 11) (.bH [aV 0 14 1 1,
 aX 1 15 14,
 sc 2 16 157 [(ae 15)],
 af 3 17 16,
 cz 4 18 17 true 2 1,
 eI 5 19 17 true 4 18,
 dV 6 20 17 true (.dp [.int .u8 0,.int .i64 0,.int .u64 0,.str []] []),
 jM 7 21 17 true .eql 42 19 20,
 e6 8 22 17 21,
 af 9 3 22]) (aj [ao 0 24 (.bin .eql 5 (ae 5) (.const (.int .u8 4))),
 af 1 23 24]
 (.cond (ae 23) (.bH [aV 0 25 1 1,
 aX 1 26 25,
 sc 2 27 157 [(ae 26)],
 af 3 28 27,
 cz 4 29 28 true 2 1,
 eI 5 30 28 true 4 29,
 ⟨6,(some 31),(some ((some 28),true)),.cO 105 [(ae 30)],[],false⟩,
 fy 7 32 28 true .eql 37 31 0,
 e6 8 33 28 32,
 af 9 3 33]) .skip))))))))
 (.seq (aj [af 0 34 3,
 ao 1 35 (.un .not (ae 34))]
 (.cond (ae 35) (aj [aU 0 2 8]
 .ret) .skip))
 (aj [aU 0 2 0]
 .ret)))))
def YG:List bf:=[.aO (ae 2)]
theorem ae5:bx Tryz.prog 104=some OK:=by kernel_rfl
theorem apL:bz Tryz.prog 104=some YG:=by kernel_rfl
def OL:aT:=(aj [ao 0 1 (.box (ae 0)),
 aU 1 2 0]
 (aj [ao 0 3 (.alloc [.int .u8 0,.int .i64 0,.int .u64 0,.str []])]
 (.seq (aj [aV 0 4 0 1,
 aX 1 5 4]
 (.block 0 (aj [ao 0 7 (.bin .eql 5 (ae 5) (.const (.int .u8 1))),
 af 1 6 7]
 (.cond (ae 6) (.bH [aV 0 8 1 1,
 aX 1 9 8,
 sc 2 10 158 [(ae 9)],
 bG 3 4 3 10]) (aj [ao 0 12 (.bin .eql 5 (ae 5) (.const (.int .u8 2))),
 af 1 11 12]
 (.cond (ae 11) (.bH [aV 0 13 2 1,
 aX 1 14 13,
 sc 2 15 159 [(ae 14)],
 bG 3 4 3 15]) (aj [ao 0 17 (.bin .eql 5 (ae 5) (.const (.int .u8 3))),
 af 1 16 17]
 (.cond (ae 16) (.bH [aV 0 19 3 1,
 aX 1 20 19,
 sc 2 21 160 [(ae 20)],
 af 3 18 21,
 cN 4 22 18 0,
 cN 5 23 18 1,
 bG 6 4 3 22]) .skip))))))))
 (.seq (aj [bi 0 24 4 1,
 bi 1 25 4 3,
 bq 2 26 .neq 42 24 25,
 af 3 27 26,
 cz 4 28 27 false 0 1,
 dz 5 29 27 false 28,
 dV 6 30 27 false (.bin .eql 5 (ae 29) (.const (.int .u8 0))),
 e5 7 31 27 30]
 (.cond (ae 31) (aj [aU 0 2 8]
 .ret) .skip))
 (aj [aU 0 2 0]
 .ret)))))
def YH:List bf:=[.aO (ae 2)]
theorem ae6:bx Tryz.prog 105=some OL:=by kernel_rfl
theorem apM:bz Tryz.prog 105=some YH:=by kernel_rfl
def OM:aT:=(aj [aU 0 4 0]
 (aj [af 0 5 0,
 af 1 6 1,
 ao 2 7 (.cI 161 (.func 161) (ae 5) (ae 6)),
 af 3 4 7]
 .ret))
def YI:List bf:=[.aO (ae 4)]
theorem ae7:bx Tryz.prog 106=some OM:=by kernel_rfl
theorem apN:bz Tryz.prog 106=some YI:=by kernel_rfl
def VX:aT:=(.seq (aj [af 0 6 5,
 a6 1 7 .lss 3 6 32]
 (.cond (ae 7) .skip (.exit 0)))
 (.seq (.block 1 (.seq (aj [af 0 10 5,
 ao 1 11 (.ff (.arr 32 1) (ae 2) (ae 10)),
 aX 2 12 11,
 af 3 13 5,
 ao 4 14 (.ff (.arr 32 1) (ae 3) (ae 13)),
 aX 5 15 14,
 bq 6 16 .lss 5 12 15]
 (.cond (ae 16) (aj [aU 0 4 (-1)]
 .ret) .skip))
 (aj [af 0 17 5,
 ao 1 18 (.ff (.arr 32 1) (ae 2) (ae 17)),
 aX 2 19 18,
 af 3 20 5,
 ao 4 21 (.ff (.arr 32 1) (ae 3) (ae 20)),
 aX 5 22 21,
 bq 6 23 .gtr 5 19 22]
 (.cond (ae 23) (aj [aU 0 4 1]
 .ret) .skip))))
 (.bH [af 0 8 5,
 a6 1 9 .add 3 8 1,
 af 2 5 9])))
def ON:aT:=(aj [ao 0 2 (.box (ae 0)),
 ao 1 3 (.box (ae 1)),
 aU 2 4 0]
 (.seq (aj [aU 0 5 0]
 (.block 0 (.loop VX)))
 (aj [aU 0 4 0]
 .ret)))
def YJ:List bf:=[.aO (ae 4)]
theorem ae8:bx Tryz.prog 107=some ON:=by kernel_rfl
theorem apO:bz Tryz.prog 107=some YJ:=by kernel_rfl
def VY:aT:=(.seq (aj [af 0 12 3,
 af 1 13 0,
 ao 2 14 (.len .str (ae 13)),
 bq 3 15 .lss 3 12 14]
 (.cond (ae 15) .skip (.exit 0)))
 (.seq (.block 1 (aj [af 0 18 0,
 af 1 19 3,
 ao 2 20 (.uk (ae 18) (ae 19)),
 ao 3 21 (.bin .lss 5 (ae 20) (.const (.int .u8 33))),
 af 4 22 21,
 dr 5 23 22 false 0,
 dr 6 24 22 false 3,
 dV 7 25 22 false (.uk (ae 23) (ae 24)),
 dV 8 26 22 false (.bin .gtr 5 (ae 25) (.const (.int .u8 126))),
 e5 9 27 22 26]
 (.cond (ae 27) (aj [cD 0 2 false]
 .ret) .skip)))
 (.bH [af 0 16 3,
 a6 1 17 .add 3 16 1,
 af 2 3 17])))
def OO:aT:=(aj [cD 0 2 false]
 (.seq (aj [af 0 4 0,
 ao 1 5 (.len .str (ae 4)),
 a6 2 6 .lss 3 5 1,
 af 3 7 6,
 dr 4 8 7 false 0,
 dV 5 9 7 false (.len .str (ae 8)),
 fy 6 10 7 false .gtr 3 9 20,
 e5 7 11 7 10]
 (.cond (ae 11) (aj [cD 0 2 false]
 .ret) .skip))
 (.seq (aj [aU 0 3 0]
 (.block 0 (.loop VY)))
 (aj [cD 0 2 true]
 .ret))))
def YK:List bf:=[.aO (ae 2)]
theorem ae9:bx Tryz.prog 108=some OO:=by kernel_rfl
theorem apP:bz Tryz.prog 108=some YK:=by kernel_rfl
def OP:aT:=(aj [ao 0 2 (.box (ae 0)),
 ao 1 3 (.box (ae 1)),
 cD 2 4 false]
 (.seq (aj [aV 0 5 0 2,
 aX 1 6 5,
 aV 2 7 0 3,
 aX 3 8 7,
 bq 4 9 .neq 9 6 8]
 (.cond (ae 9) (aj [aV 0 10 0 2,
 aX 1 11 10,
 aV 2 12 0 3,
 aX 3 13 12,
 bq 4 14 .lss 9 11 13,
 af 5 4 14]
 .ret) .skip))
 (aj [aV 0 15 1 2,
 bi 1 16 32 15,
 aV 2 17 1 3,
 bi 3 18 32 17,
 sc 4 19 107 [(ae 16),(ae 18)],
 a6 5 20 .lss 3 19 0,
 af 6 4 20]
 .ret)))
def YL:List bf:=[.aO (ae 4)]
theorem afa:bx Tryz.prog 109=some OP:=by kernel_rfl
theorem apQ:bz Tryz.prog 109=some YL:=by kernel_rfl
def OS:aT:=(aj [ao 0 1 (.box (ae 0)),
 aU 1 2 0]
 (.seq (aj [aV 0 3 0 1,
 aX 1 4 3]
 (.block 0 (aj [ao 0 6 (.bin .eql 5 (ae 4) (.const (.int .u8 1))),
 af 1 5 6]
 (.cond (ae 5) (aj [aV 0 7 2 1,
 aX 1 8 7,
 ao 2 9 (.bin .eql 40 (ae 8) (.const (.int .u64 0))),
 af 3 10 9,
 cz 4 11 10 true 3 1,
 dz 5 12 10 true 11,
 dV 6 13 10 true (.bin .eql 9 (ae 12) (.const (.string ⟨#[]⟩))),
 e6 7 14 10 13]
 (.cond (ae 14) (aj [aU 0 2 0]
 .ret) .skip)) (aj [ao 0 16 (.bin .eql 5 (ae 4) (.const (.int .u8 2))),
 af 1 15 16]
 (.cond (ae 15) (.seq (.hc [aV 0 17 1 1,
 aX 1 18 17,
 a6 2 19 .eql 2 18 0,
 af 3 20 19,
 cz 4 21 20 true 3 1,
 dz 5 22 20 true 21,
 dV 6 23 20 true (.bin .eql 9 (ae 22) (.const (.string ⟨#[]⟩))),
 e6 7 24 20 23,
 af 8 25 24,
 cz 9 26 25 true 2 1,
 dz 10 27 25 true 26,
 cz 12 29 25 true 2 1,
 ⟨13,(some 30),(some ((some 25),true)),.cM (.ld1 (ae 29)),[],true⟩,
 ⟨11,(some 28),(some ((some 25),true)),.cO 162 [(ae 27)],[13],false⟩,
 jM 14 31 25 true .eql 40 28 30,
 e6 15 32 25 31])
 (.cond (ae 32) (aj [aU 0 2 0]
 .ret) .skip)) (aj [ao 0 34 (.bin .eql 5 (ae 4) (.const (.int .u8 3))),
 af 1 33 34]
 (.cond (ae 33) (aj [aV 0 35 1 1,
 aX 1 36 35,
 a6 2 37 .eql 2 36 0,
 af 3 38 37,
 cz 4 39 38 true 2 1,
 dz 5 40 38 true 39,
 dV 6 41 38 true (.bin .eql 40 (ae 40) (.const (.int .u64 0))),
 e6 7 42 38 41,
 af 8 43 42,
 cz 9 44 43 true 3 1,
 dz 10 45 43 true 44,
 dV 11 46 43 true (.len .str (ae 45)),
 fy 12 47 43 true .leq 3 46 30,
 e6 13 48 43 47,
 af 14 49 48,
 cz 15 50 49 true 3 1,
 dz 16 51 49 true 50,
 ⟨17,(some 52),(some ((some 49),true)),.cO 163 [(ae 51)],[],false⟩,
 e6 18 53 49 52]
 (.cond (ae 53) (aj [aU 0 2 0]
 .ret) .skip)) .skip))))))))
 (aj [aU 0 2 8]
 .ret)))
def YN:List bf:=[.aO (ae 2)]
theorem afc:bx Tryz.prog 110=some OS:=by kernel_rfl
theorem apS:bz Tryz.prog 110=some YN:=by kernel_rfl
def V0:aT:=(.seq (aj [af 0 16 6,
 a6 1 17 .gtr 3 16 0,
 af 2 18 17,
 dr 3 19 18 true 5,
 dr 4 20 18 true 6,
 kJ 5 21 18 true 33 19 20,
 eI 6 22 18 true 33 21,
 dr 7 23 18 true 5,
 dr 8 24 18 true 6,
 fy 9 25 18 true .sub 3 24 1,
 kJ 10 26 18 true 33 23 25,
 eI 11 27 18 true 33 26,
 ⟨12,(some 28),(some ((some 18),true)),.cO 109 [(ae 22),(ae 27)],[],false⟩,
 e6 13 29 18 28]
 (.cond (ae 29) .skip (.exit 0)))
 (.seq (.block 1 (.bH [af 0 32 5,
 af 1 33 6,
 af 2 34 5,
 af 3 35 6,
 a6 4 36 .sub 3 35 1,
 af 5 37 5,
 af 6 38 6,
 a6 7 39 .sub 3 38 1,
 b0 8 40 33 37 39,
 bi 9 41 33 40,
 af 10 42 5,
 af 11 43 6,
 b0 12 44 33 42 43,
 bi 13 45 33 44,
 b0 14 46 33 32 33,
 bG 15 33 46 41,
 b0 16 47 33 34 36,
 bG 17 33 47 45]))
 (.bH [af 0 30 6,
 a6 1 31 .sub 3 30 1,
 af 2 6 31])))
def OT:aT:=(aj [ao 0 3 (.box (ae 1)),
 ao 1 4 (.aO (.const (.slice none 0 0)))]
 (.seq (.hc [ao 0 7 (.dh 33 ([.str []]++rep 32 (.int .u8 0)) 0 []),
 af 1 8 0,
 ⟨3,(some 10),none,.cM (.eg 33 (ae 3)),[],true⟩,
 ⟨4,(some 11),none,.cM (.dh 33 ([.str []]++rep 32 (.int .u8 0)) 1 [(0,(ae 10))]),[],true⟩,
 ⟨2,(some 9),none,.cM (.app 33 48 (ae 7) (ae 8)),[4,3],false⟩,
 ao 5 12 (.app 33 48 (ae 9) (ae 11)),
 af 6 5 12])
 (.seq (aj [af 0 13 5,
 b1 1 14 33 13,
 a6 2 15 .sub 3 14 1,
 af 3 6 15]
 (.block 0 (.loop V0)))
 (aj [af 0 48 5,
 af 1 4 48]
 .ret))))
def YO:List bf:=[.aO (ae 4)]
theorem afd:bx Tryz.prog 111=some OT:=by kernel_rfl
theorem apT:bz Tryz.prog 111=some YO:=by kernel_rfl
def OU:aT:=(aj [ao 0 4 (.box (ae 1)),
 ao 1 5 (.box (ae 2)),
 cD 2 6 false]
 (aj [af 0 7 0,
 aV 1 8 5 5,
 aX 2 9 8,
 bq 3 10 .gtr 40 7 9,
 af 4 11 10,
 dr 5 12 11 false 0,
 cz 6 13 11 false 5 5,
 dz 7 14 11 false 13,
 jM 8 15 11 false .eql 40 12 14,
 dr 9 16 11 false 15,
 eI 10 17 16 true 32 4,
 cz 11 18 16 true 6 5,
 eI 12 19 16 true 32 18,
 ⟨13,(some 20),(some ((some 16),true)),.cO 107 [(ae 17),(ae 19)],[],false⟩,
 fy 14 21 16 true .gtr 3 20 0,
 dV 15 22 11 false (.pick (ae 16) (ae 21) (.const (.bool false))),
 e5 16 23 11 22,
 af 17 6 23]
 .ret))
def YP:List bf:=[.aO (ae 6)]
theorem afe:bx Tryz.prog 112=some OU:=by kernel_rfl
theorem apU:bz Tryz.prog 112=some YP:=by kernel_rfl
def V1:aT:=(.seq (aj [af 0 16 6,
 a6 1 17 .gtr 3 16 0,
 af 2 18 17,
 dr 3 19 18 true 5,
 dr 4 20 18 true 6,
 kJ 5 21 18 true 38 19 20,
 cz 6 22 18 true 0 21,
 dz 7 23 18 true 22,
 dr 8 24 18 true 5,
 dr 9 25 18 true 6,
 fy 10 26 18 true .sub 3 25 1,
 kJ 11 27 18 true 38 24 26,
 cz 12 28 18 true 0 27,
 dz 13 29 18 true 28,
 jM 14 30 18 true .lss 9 23 29,
 e6 15 31 18 30]
 (.cond (ae 31) .skip (.exit 0)))
 (.seq (.block 1 (.bH [af 0 34 5,
 af 1 35 6,
 af 2 36 5,
 af 3 37 6,
 a6 4 38 .sub 3 37 1,
 af 5 39 5,
 af 6 40 6,
 a6 7 41 .sub 3 40 1,
 b0 8 42 38 39 41,
 bi 9 43 38 42,
 af 10 44 5,
 af 11 45 6,
 b0 12 46 38 44 45,
 bi 13 47 38 46,
 b0 14 48 38 34 35,
 bG 15 38 48 43,
 b0 16 49 38 36 38,
 bG 17 38 49 47]))
 (.bH [af 0 32 6,
 a6 1 33 .sub 3 32 1,
 af 2 6 33])))
def OV:aT:=(aj [ao 0 3 (.box (ae 1)),
 ao 1 4 (.aO (.const (.slice none 0 0)))]
 (.seq (.hc [ao 0 7 (.dh 38 ([.str [],.int .u8 0,.int .i64 0,.int .u64 0,.str [],.int .u64 0]++rep 32 (.int .u8 0)) 0 []),
 af 1 8 0,
 ⟨3,(some 10),none,.cM (.eg 38 (ae 3)),[],true⟩,
 ⟨4,(some 11),none,.cM (.dh 38 ([.str [],.int .u8 0,.int .i64 0,.int .u64 0,.str [],.int .u64 0]++rep 32 (.int .u8 0)) 1 [(0,(ae 10))]),[],true⟩,
 ⟨2,(some 9),none,.cM (.app 38 96 (ae 7) (ae 8)),[4,3],false⟩,
 ao 5 12 (.app 38 96 (ae 9) (ae 11)),
 af 6 5 12])
 (.seq (aj [af 0 13 5,
 b1 1 14 38 13,
 a6 2 15 .sub 3 14 1,
 af 3 6 15]
 (.block 0 (.loop V1)))
 (aj [af 0 50 5,
 af 1 4 50]
 .ret))))
def YQ:List bf:=[.aO (ae 4)]
theorem aff:bx Tryz.prog 113=some OV:=by kernel_rfl
theorem apV:bz Tryz.prog 113=some YQ:=by kernel_rfl
def OW:aT:=(aj [ao 0 2 (.box (ae 0)),
 ao 1 3 (.box (ae 1)),
 aU 2 4 0,
 cD 3 5 false]
 (aj [aV 0 6 0 2,
 aX 1 7 6,
 bi 2 8 32 3,
 sc 3 9 164 [(ae 7),(ae 8),(.func 149)],
 cN 4 10 9 0,
 cN 5 11 9 1,
 af 6 4 10,
 af 7 5 11]
 .ret))
def YR:List bf:=[.aO (ae 4),.aO (ae 5)]
theorem afg:bx Tryz.prog 114=some OW:=by kernel_rfl
theorem apW:bz Tryz.prog 114=some YR:=by kernel_rfl
def OX:aT:=(aj [ao 0 1 (.box (ae 0)),
 ao 1 2 (.alloc [.int .u32 0,.aK,.int .u64 0,.int .u8 0,.str [],.int .u8 0,.int .i64 0,.int .u64 0,.str [],.int .u32 0,.int .u32 0])]
 (aj [aV 0 3 1 1,
 aX 1 4 3,
 sc 2 5 165 [(ae 4)],
 aV 3 6 1 1,
 bG 4 1 6 5]
 (aj [bi 0 7 11 1,
 bG 1 11 2 7]
 .ret)))
def YS:List bf:=[.eg 11 (ae 2)]
theorem afh:bx Tryz.prog 115=some OX:=by kernel_rfl
theorem apX:bz Tryz.prog 115=some YS:=by kernel_rfl
def V2:aT:=(aj [bq 0 9 .lss 3 8 7]
 (.seq (.cond (ae 9) .skip (.exit 0))
 (.seq (.block 1 (aj [af 0 10 8,
 af 1 5 10]
 (aj [bi 0 11 32 3,
 af 1 12 0,
 af 2 13 5,
 b0 3 14 32 12 13,
 bi 4 15 32 14,
 bq 5 16 .eql 48 11 15]
 (.cond (ae 16) (aj [af 0 17 5,
 af 1 4 17]
 .ret) .skip))))
 (.bH [a6 0 18 .add 3 8 1,
 af 1 8 18]))))
def OY:aT:=(aj [ao 0 3 (.box (ae 1)),
 aU 1 4 0]
 (.seq (aj [af 0 6 0,
 b1 1 7 32 6,
 aU 2 8 0]
 (.block 0 (.loop V2)))
 (aj [aU 0 4 (-1)]
 .ret)))
def YT:List bf:=[.aO (ae 4)]
theorem afi:bx Tryz.prog 116=some OY:=by kernel_rfl
theorem apY:bz Tryz.prog 116=some YT:=by kernel_rfl
def V3:aT:=(aj [bq 0 9 .lss 3 8 7]
 (.seq (.cond (ae 9) .skip (.exit 0))
 (.seq (.block 1 (aj [af 0 10 8,
 af 1 5 10]
 (aj [af 0 11 1,
 af 1 12 0,
 af 2 13 5,
 b0 3 14 32 12 13,
 bi 4 15 32 14,
 ⟨5,(some 16),none,.ig (ae 11) [(ae 15)],[],false⟩]
 (.cond (ae 16) (aj [af 0 17 5,
 af 1 4 17]
 .ret) .skip))))
 (.bH [a6 0 18 .add 3 8 1,
 af 1 8 18]))))
def OZ:aT:=(aj [aU 0 4 0]
 (.seq (aj [af 0 6 0,
 b1 1 7 32 6,
 aU 2 8 0]
 (.block 0 (.loop V3)))
 (aj [aU 0 4 (-1)]
 .ret)))
def YU:List bf:=[.aO (ae 4)]
theorem afj:bx Tryz.prog 117=some OZ:=by kernel_rfl
theorem apZ:bz Tryz.prog 117=some YU:=by kernel_rfl
def O0:aT:=(aj [ao 0 2 (.aO (.const (.int .u32 0)))]
 (aj [af 0 3 0,
 ao 1 4 (.ds .u64 (ae 3)),
 sc 2 5 166 [(ae 4)],
 af 3 2 5]
 .ret))
def YV:List bf:=[.aO (ae 2)]
theorem afl:bx Tryz.prog 120=some O0:=by kernel_rfl
theorem ap1:bz Tryz.prog 120=some YV:=by kernel_rfl
def O1:aT:=(aj [ao 0 1 (.box (ae 0)),
 ao 1 2 (.aO (.const (.slice none 0 0)))]
 (aj [ao 0 4 (.dh 1 [.int .u8 0] 1 [(0,(.const (.int .u8 111)))]),
 aV 1 5 0 1,
 aX 2 6 5,
 ao 3 7 (.ds .u64 (ae 6)),
 sc 4 8 127 [(ae 7)],
 ao 5 9 (.app 1 1 (ae 4) (ae 8)),
 af 6 3 9]
 (.seq (.hc [af 0 10 3,
 aV 1 11 1 1,
 aX 2 12 11,
 aV 5 15 2 1,
 ⟨6,(some 16),none,.cM (.ld1 (ae 15)),[],true⟩,
 ⟨3,(some 13),none,.cO 171 [(ae 12)],[6],false⟩,
 ⟨4,(some 14),none,.cM (.app 1 1 (ae 10) (ae 13)),[6],false⟩,
 sc 7 17 127 [(ae 16)],
 ao 8 18 (.app 1 1 (ae 14) (ae 17)),
 af 9 3 18])
 (aj [af 0 19 3,
 aV 1 20 3 1,
 aV 2 21 0 20,
 aX 3 22 21,
 ao 4 23 (.dh 1 [.int .u8 0] 1 [(0,(ae 22))]),
 ao 5 24 (.app 1 1 (ae 19) (ae 23)),
 af 6 3 24]
 (.seq (aj [aV 0 25 3 1,
 aV 1 26 0 25,
 aX 2 27 26,
 ao 3 28 (.bin .neq 5 (ae 27) (.const (.int .u8 1)))]
 (.cond (ae 28) (.bH [af 0 29 3,
 aV 1 30 3 1,
 aV 2 31 1 30,
 aX 3 32 31,
 ao 4 33 (.tw (ae 32)),
 sc 5 34 172 [(ae 33)],
 ao 6 35 (.app 1 1 (ae 29) (ae 34)),
 af 7 3 35]) .skip))
 (.seq (aj [aV 0 36 3 1,
 aV 1 37 0 36,
 aX 2 38 37,
 ao 3 39 (.bin .eql 5 (ae 38) (.const (.int .u8 4)))]
 (.cond (ae 39) (.bH [af 0 40 3,
 aV 1 41 3 1,
 aV 2 42 2 41,
 bi 3 43 4 42,
 sc 4 44 173 [(ae 43)],
 ao 5 45 (.app 1 1 (ae 40) (ae 44)),
 af 6 3 45]) .skip))
 (aj [af 0 46 3,
 af 1 2 46]
 .ret)))))))
def YW:List bf:=[.aO (ae 2)]
theorem afm:bx Tryz.prog 122=some O1:=by kernel_rfl
theorem ap2:bz Tryz.prog 122=some YW:=by kernel_rfl
def V5:aT:=(.seq (aj [af 0 5 4,
 a6 1 6 .lss 3 5 32]
 (.cond (ae 6) .skip (.exit 0)))
 (.seq (.block 1 (.bH [af 0 9 4,
 af 1 10 4,
 a6 2 11 .quo 3 10 4,
 ao 3 12 (.ff (.arr 8 1) (ae 1) (ae 11)),
 aX 4 13 12,
 af 5 14 4,
 a6 6 15 .rem 3 14 4,
 ao 7 16 (.bin .mul 3 (.const (.int .i64 8)) (ae 15)),
 ao 8 17 (.bin .sub 3 (.const (.int .i64 24)) (ae 16)),
 bq 9 18 .shr 76 13 17,
 ao 10 19 (.ds .u8 (ae 18)),
 ao 11 20 (.ff (.arr 32 1) (ae 3) (ae 9)),
 bG 12 1 20 19]))
 (.bH [af 0 7 4,
 a6 1 8 .add 3 7 1,
 af 2 4 8])))
def O2:aT:=(aj [ao 0 1 (.box (ae 0)),
 ao 1 2 (.alloc (rep 32 (.int .u8 0)))]
 (aj [ao 0 3 (.alloc (rep 32 (.int .u8 0)))]
 (.seq (aj [aU 0 4 0]
 (.block 0 (.loop V5)))
 (aj [bi 0 21 32 3,
 bG 1 32 2 21]
 .ret))))
def YX:List bf:=[.eg 32 (ae 2)]
theorem afn:bx Tryz.prog 123=some O2:=by kernel_rfl
theorem ap3:bz Tryz.prog 123=some YX:=by kernel_rfl
def V6:aT:=(.seq (aj [af 0 6 5,
 a6 1 7 .add 3 6 64,
 af 2 8 1,
 b1 3 9 1 8,
 bq 4 10 .leq 3 7 9]
 (.cond (ae 10) .skip (.exit 0)))
 (.seq (.block 1 (.bH [bi 0 13 8 2,
 af 1 14 1,
 af 2 15 5,
 af 3 16 5,
 a6 4 17 .add 3 16 64,
 ao 5 18 (.slice (.av 1) (ae 14) (some (ae 15)) (some (ae 17)) none),
 sc 6 19 174 [(ae 13),(ae 18)],
 bG 7 8 2 19]))
 (.bH [af 0 11 5,
 a6 1 12 .add 3 11 64,
 af 2 5 12])))
def O3:aT:=(aj [ao 0 2 (.box (ae 0)),
 ao 1 4 (.alloc [.int .u32 0,.int .u32 0,.int .u32 0,.int .u32 0,.int .u32 0,.int .u32 0,.int .u32 0,.int .u32 0])]
 (.seq (aj [aU 0 5 0]
 (.block 0 (.loop V6)))
 (aj [bi 0 20 8 2,
 bG 1 8 4 20]
 .ret)))
def YY:List bf:=[.eg 8 (ae 4)]
theorem afo:bx Tryz.prog 124=some O3:=by kernel_rfl
theorem ap4:bz Tryz.prog 124=some YY:=by kernel_rfl
def O4:aT:=(aj [ao 0 0 (.alloc [.int .u32 0,.int .u32 0,.int .u32 0,.int .u32 0,.int .u32 0,.int .u32 0,.int .u32 0,.int .u32 0])]
 (aj [ao 0 1 (.dp [.int .u32 0,.int .u32 0,.int .u32 0,.int .u32 0,.int .u32 0,.int .u32 0,.int .u32 0,.int .u32 0] [(0,1,(.const (.int .u32 1779033703))),(1,1,(.const (.int .u32 3144134277))),(2,1,(.const (.int .u32 1013904242))),(3,1,(.const (.int .u32 2773480762))),(4,1,(.const (.int .u32 1359893119))),(5,1,(.const (.int .u32 2600822924))),(6,1,(.const (.int .u32 528734635))),(7,1,(.const (.int .u32 1541459225)))]),
 bG 1 8 0 1]
 .ret))
def YZ:List bf:=[.eg 8 (ae 0)]
theorem afp:bx Tryz.prog 125=some O4:=by kernel_rfl
theorem ap5:bz Tryz.prog 125=some YZ:=by kernel_rfl
def V7:aT:=(.seq (aj [af 0 6 0,
 af 1 7 3,
 b1 2 8 1 7,
 bq 3 9 .add 3 6 8,
 a6 4 10 .add 3 9 8,
 a6 5 11 .rem 3 10 64,
 a6 6 12 .neq 3 11 0]
 (.cond (ae 12) .skip (.exit 0)))
 (.block 1 (.bH [af 0 13 3,
 ao 1 14 (.dh 1 [.int .u8 0] 1 [(0,(.const (.int .u8 0)))]),
 ao 2 15 (.app 1 1 (ae 13) (ae 14)),
 af 3 3 15])))
def V8:aT:=(.seq (aj [af 0 16 4,
 a6 1 17 .geq 3 16 0]
 (.cond (ae 17) .skip (.exit 2)))
 (.seq (.block 3 (.bH [af 0 20 3,
 af 1 21 0,
 ao 2 22 (.ds .u64 (ae 21)),
 ao 3 23 (.bin .mul 40 (.const (.int .u64 8)) (ae 22)),
 af 4 24 4,
 ao 5 25 (.bin .mul 3 (.const (.int .i64 8)) (ae 24)),
 bq 6 26 .shr 40 23 25,
 ao 7 27 (.ds .u8 (ae 26)),
 ao 8 28 (.dh 1 [.int .u8 0] 1 [(0,(ae 27))]),
 ao 9 29 (.app 1 1 (ae 20) (ae 28)),
 af 10 3 29]))
 (.bH [af 0 18 4,
 a6 1 19 .sub 3 18 1,
 af 2 4 19])))
def O5:aT:=(aj [ao 0 2 (.aO (.const (.slice none 0 0)))]
 (aj [ao 0 5 (.dh 1 [.int .u8 0] 1 [(0,(.const (.int .u8 128)))]),
 af 1 3 5]
 (.seq (.block 0 (.loop V7))
 (.seq (aj [aU 0 4 7]
 (.block 2 (.loop V8)))
 (aj [af 0 30 3,
 af 1 2 30]
 .ret)))))
def Y0:List bf:=[.aO (ae 2)]
theorem afq:bx Tryz.prog 126=some O5:=by kernel_rfl
theorem ap6:bz Tryz.prog 126=some Y0:=by kernel_rfl
def V9:aT:=(.seq (aj [af 0 11 0,
 ao 1 12 (.bin .gtr 40 (ae 11) (.const (.int .u64 0)))]
 (.cond (ae 12) .skip (.exit 0)))
 (.block 1 (aj [af 0 13 3,
 af 1 14 0,
 ao 2 15 (.bin .rem 40 (ae 14) (.const (.int .u64 256))),
 ao 3 16 (.ds .u8 (ae 15)),
 ao 4 17 (.dh 1 [.int .u8 0] 1 [(0,(ae 16))]),
 ao 5 18 (.app 1 1 (ae 13) (ae 17)),
 af 6 3 18]
 (.bH [af 0 19 0,
 ao 1 20 (.bin .quo 40 (ae 19) (.const (.int .u64 256))),
 af 2 0 20]))))
def Wa:aT:=(.seq (aj [af 0 29 5,
 a6 1 30 .geq 3 29 0]
 (.cond (ae 30) .skip (.exit 2)))
 (.seq (.block 3 (.bH [af 0 33 4,
 af 1 34 3,
 af 2 35 5,
 b0 3 36 1 34 35,
 aX 4 37 36,
 ao 5 38 (.dh 1 [.int .u8 0] 1 [(0,(ae 37))]),
 ao 6 39 (.app 1 1 (ae 33) (ae 38)),
 af 7 4 39]))
 (.bH [af 0 31 5,
 a6 1 32 .sub 3 31 1,
 af 2 5 32])))
def O6:aT:=(aj [ao 0 2 (.aO (.const (.slice none 0 0)))]
 (.seq (aj [af 0 6 0,
 ao 1 7 (.bin .leq 40 (ae 6) (.const (.int .u64 247)))]
 (.cond (ae 7) (aj [af 0 8 0,
 ao 1 9 (.ds .u8 (ae 8)),
 ao 2 10 (.dh 1 [.int .u8 0] 1 [(0,(ae 9))]),
 af 3 2 10]
 .ret) .skip))
 (aj [ao 0 3 (.aO (.const (.slice none 0 0)))]
 (.seq (.block 0 (.loop V9))
 (aj [af 0 21 3,
 b1 1 22 1 21,
 ao 2 23 (.bin .add 3 (.const (.int .i64 247)) (ae 22)),
 ao 3 24 (.ds .u8 (ae 23)),
 ao 4 25 (.dh 1 [.int .u8 0] 1 [(0,(ae 24))]),
 af 5 4 25]
 (.seq (aj [af 0 26 3,
 b1 1 27 1 26,
 a6 2 28 .sub 3 27 1,
 af 3 5 28]
 (.block 2 (.loop Wa)))
 (aj [af 0 40 4,
 af 1 2 40]
 .ret)))))))
def Y1:List bf:=[.aO (ae 2)]
theorem afr:bx Tryz.prog 127=some O6:=by kernel_rfl
theorem ap7:bz Tryz.prog 127=some Y1:=by kernel_rfl
def O7:aT:=(aj [cD 0 2 false]
 (aj [af 0 3 0,
 ao 1 4 (.bin .geq 76 (ae 3) (.const (.int .u32 1))),
 af 2 5 4,
 dr 3 6 5 true 0,
 dV 4 7 5 true (.bin .lss 76 (ae 6) (.const (.int .u32 1000000007))),
 e6 5 8 5 7,
 af 6 9 8,
 dr 7 10 9 true 0,
 dV 8 11 9 true (.ds .u64 (ae 10)),
 ⟨9,(some 12),(some ((some 9),true)),.cO 175 [(ae 11),(.const (.int .u64 500000003)),(.const (.int .u64 1000000007))],[],false⟩,
 dV 10 13 9 true (.bin .eql 40 (ae 12) (.const (.int .u64 1))),
 e6 11 14 9 13,
 af 12 2 14]
 .ret))
def Y2:List bf:=[.aO (ae 2)]
theorem afs:bx Tryz.prog 128=some O7:=by kernel_rfl
theorem ap8:bz Tryz.prog 128=some Y2:=by kernel_rfl
def O8:aT:=(aj [ao 0 1 (.box (ae 0)),
 aU 1 2 0]
 (aj [aV 0 4 2 1,
 bi 1 5 4 4,
 ao 2 6 (.dp [.int .u8 0,.int .i64 0,.int .u64 0,.str []] []),
 bq 3 7 .eql 42 5 6,
 af 4 3 7]
 (.seq (aj [aV 0 8 0 1,
 aX 1 9 8]
 (.block 0 (aj [ao 0 11 (.bin .eql 5 (ae 9) (.const (.int .u8 1))),
 af 1 10 11]
 (.cond (ae 10) (aj [aV 0 12 1 1,
 aX 1 13 12,
 ao 2 14 (.bin .eql 9 (ae 13) (.const (.string ⟨#[]⟩))),
 af 3 15 14,
 dr 4 16 15 true 3,
 e6 5 17 15 16]
 (.cond (ae 17) (aj [aU 0 2 0]
 .ret) .skip)) (.seq (aj [ao 0 19 (.bin .eql 5 (ae 9) (.const (.int .u8 2))),
 af 1 18 19]
 (.cond (ae 18) .skip (.bH [ao 0 20 (.bin .eql 5 (ae 9) (.const (.int .u8 3))),
 af 1 18 20])))
 (.cond (ae 18) (aj [aV 0 21 1 1,
 aX 1 22 21,
 sc 2 23 108 [(ae 22)],
 af 3 24 23,
 dr 4 25 24 true 3,
 e6 5 26 24 25]
 (.cond (ae 26) (aj [aU 0 2 0]
 .ret) .skip)) (aj [ao 0 28 (.bin .eql 5 (ae 9) (.const (.int .u8 4))),
 af 1 27 28]
 (.cond (ae 27) (aj [aV 0 29 1 1,
 aX 1 30 29,
 sc 2 31 108 [(ae 30)],
 af 3 32 31,
 cz 4 33 32 true 2 1,
 eI 5 34 32 true 4 33,
 ⟨6,(some 35),(some ((some 32),true)),.cO 110 [(ae 34)],[],false⟩,
 fy 7 36 32 true .eql 3 35 0,
 e6 8 37 32 36]
 (.cond (ae 37) (aj [aU 0 2 0]
 .ret) .skip)) .skip))))))))
 (aj [aU 0 2 8]
 .ret))))
def Y3:List bf:=[.aO (ae 2)]
theorem aft:bx Tryz.prog 129=some O8:=by kernel_rfl
theorem ap9:bz Tryz.prog 129=some Y3:=by kernel_rfl
def Pb:aT:=(aj [cD 0 2 false]
 (aj [af 0 3 0,
 ao 1 4 (.ds .u64 (ae 3)),
 ao 2 5 (.bin .lss 40 (ae 4) (.const (.int .u64 500000003))),
 af 3 2 5]
 .ret))
def Y5:List bf:=[.aO (ae 2)]
theorem afu:bx Tryz.prog 130=some Pb:=by kernel_rfl
theorem aqa:bz Tryz.prog 130=some Y5:=by kernel_rfl
def Pc:aT:=(aj [ao 0 5 (.box (ae 2)),
 cD 1 6 false]
 (.seq (aj [aV 0 9 0 5,
 aX 1 10 9,
 sc 2 11 130 [(ae 10)],
 ao 3 12 (.un .not (ae 11)),
 af 4 13 12,
 cz 5 14 13 false 1 5,
 dz 6 15 13 false 14,
 ⟨7,(some 16),(some ((some 13),false)),.cO 130 [(ae 15)],[],false⟩,
 dV 8 17 13 false (.un .not (ae 16)),
 e5 9 18 13 17]
 (.cond (ae 18) (aj [cD 0 6 false]
 .ret) .skip))
 (aj [af 0 20 0,
 aV 1 21 0 5,
 aX 2 22 21,
 ao 3 23 (.ds .u64 (ae 22)),
 sc 4 24 177 [(ae 20),(ae 23)],
 sc 5 25 176 [(ae 24)],
 af 6 19 25,
 cN 7 26 19 0,
 cN 8 27 19 1,
 af 9 7 26,
 af 10 8 27]
 (.seq (.hc [aV 0 28 1 5,
 aX 1 29 28,
 af 3 31 7,
 af 5 33 0,
 af 6 34 1,
 aV 8 36 0 5,
 ⟨9,(some 37),none,.cM (.ld1 (ae 36)),[],true⟩,
 ⟨2,(some 30),none,.cO 120 [(ae 29)],[9],false⟩,
 ⟨4,(some 32),none,.cO 178 [(ae 30),(ae 31)],[9],false⟩,
 ⟨7,(some 35),none,.cO 168 [(ae 32),(ae 33),(ae 34)],[9],false⟩,
 bq 10 38 .eql 76 35 37,
 af 11 6 38])
 .ret))))
def Y6:List bf:=[.aO (ae 6)]
theorem afv:bx Tryz.prog 131=some Pc:=by kernel_rfl
theorem aqb:bz Tryz.prog 131=some Y6:=by kernel_rfl
def Pd:aT:=(aj [ao 0 2 (.box (ae 0)),
 ao 1 3 (.box (ae 1)),
 aU 2 4 0,
 aU 3 5 0]
 (.seq (aj [bi 0 9 2 2,
 sc 1 10 52 [(ae 9)],
 af 2 6 10]
 (aj [af 0 11 6,
 a6 1 12 .neq 37 11 0]
 (.cond (ae 12) (aj [af 0 13 6,
 aU 1 4 0,
 af 2 5 13]
 .ret) .skip)))
 (aj [aV 0 15 0 2,
 aX 1 16 15,
 bi 2 17 32 3,
 sc 3 18 164 [(ae 16),(ae 17),(.func 149)],
 af 4 14 18,
 cN 5 19 14 0,
 cN 6 20 14 1,
 af 7 7 19,
 af 8 8 20]
 (.seq (aj [af 0 21 8,
 ao 1 22 (.un .not (ae 21))]
 (.cond (ae 22) (aj [aU 0 4 0,
 aU 1 5 6]
 .ret) .skip))
 (aj [af 0 23 7,
 af 1 4 23,
 aU 2 5 0]
 .ret)))))
def Y7:List bf:=[.aO (ae 4),.aO (ae 5)]
theorem afw:bx Tryz.prog 132=some Pd:=by kernel_rfl
theorem aqc:bz Tryz.prog 132=some Y7:=by kernel_rfl
def Wb:aT:=(aj [bq 0 20 .lss 3 19 18]
 (.seq (.cond (ae 20) .skip (.exit 0))
 (.seq (.block 1 (aj [b0 0 21 32 17 19,
 bi 1 22 32 21,
 ao 2 9 (.alloc (rep 32 (.int .u8 0))),
 bG 3 32 9 22]
 (.bH [aX 0 23 7,
 bi 1 24 32 9,
 ⟨2,(some 25),none,.ig (ae 23) [(ae 24)],[],false⟩])))
 (.bH [a6 0 26 .add 3 19 1,
 af 1 19 26]))))
def Pe:aT:=(aj [ao 0 2 (.box (ae 0)),
 ao 1 4 (.aO (.const (.slice none 0 0)))]
 (aj [bi 0 10 2 2,
 sc 1 11 88 [(ae 10)],
 ao 2 5 (.alloc [.iq]),
 bG 3 1 5 11]
 (aj [aV 0 12 0 2,
 aX 1 13 12,
 b1 2 14 32 13,
 ao 3 15 (.pn 1 1 [.bool false] (ae 14) (ae 14)),
 ao 4 6 (.alloc [.aK]),
 bG 5 1 6 15]
 (aj [ao 0 7 (.alloc [.jD])]
 (aj [ao 0 16 (.sT 179 [] [(ae 5),(ae 6),(ae 2),(ae 7)]),
 bG 1 1 7 16]
 (.seq (aj [af 0 17 1,
 b1 1 18 32 17,
 aU 2 19 0]
 (.block 0 (.loop Wb)))
 (aj [aX 0 27 6,
 af 1 4 27]
 .ret)))))))
def Y8:List bf:=[.aO (ae 4)]
theorem afx:bx Tryz.prog 133=some Pe:=by kernel_rfl
theorem aqd:bz Tryz.prog 133=some Y8:=by kernel_rfl
def Wc:aT:=(aj [bq 0 9 .lss 3 8 7]
 (.seq (.cond (ae 9) .skip (.exit 0))
 (.seq (.block 1 (aj [b0 0 10 1 6 8,
 aX 1 11 10,
 af 2 5 11]
 (aj [af 0 12 5,
 af 1 13 3,
 bq 2 14 .neq 3 12 13]
 (.cond (ae 14) (aj [af 0 15 5,
 af 1 2 15]
 .ret) .skip))))
 (.bH [a6 0 16 .add 3 8 1,
 af 1 8 16]))))
def Pf:aT:=(aj [aU 0 2 0]
 (aj [aU 0 3 0]
 (.seq (aj [af 0 6 0,
 b1 1 7 1 6,
 aU 2 8 0]
 (.block 0 (.loop Wc)))
 (aj [af 0 17 3,
 af 1 2 17]
 .ret))))
def Y9:List bf:=[.aO (ae 2)]
theorem afy:bx Tryz.prog 136=some Pf:=by kernel_rfl
theorem aqe:bz Tryz.prog 136=some Y9:=by kernel_rfl
def Pg:aT:=(aj [aU 0 4 0]
 (aj [af 0 7 0,
 sc 1 8 190 [(ae 7)],
 af 2 5 8]
 (aj [af 0 9 1,
 sc 1 10 190 [(ae 9)],
 af 2 6 10]
 (.seq (aj [af 0 11 5]
 (.cond (ae 11) (.seq (aj [af 0 12 6]
 (.cond (ae 12) (aj [aU 0 4 0]
 .ret) .skip))
 (aj [aU 0 4 (-1)]
 .ret)) .skip))
 (.seq (aj [af 0 13 6]
 (.cond (ae 13) (aj [aU 0 4 1]
 .ret) .skip))
 (.seq (aj [af 0 14 0,
 af 1 15 1,
 bq 2 16 .lss 9 14 15]
 (.cond (ae 16) (aj [aU 0 4 (-1)]
 .ret) .skip))
 (.seq (aj [af 0 17 0,
 af 1 18 1,
 bq 2 19 .gtr 9 17 18]
 (.cond (ae 19) (aj [aU 0 4 1]
 .ret) .skip))
 (aj [aU 0 4 0]
 .ret))))))))
def Za:List bf:=[.aO (ae 4)]
theorem afz:bx Tryz.prog 137=some Pg:=by kernel_rfl
theorem aqf:bz Tryz.prog 137=some Za:=by kernel_rfl
def Ph:aT:=(aj [ao 0 2 (.box (ae 0)),
 ao 1 3 (.box (ae 1)),
 cD 2 4 false]
 (aj [aV 0 5 5 2,
 aX 1 6 5,
 aV 2 7 5 3,
 aX 3 8 7,
 aV 5 10 6 2,
 ao 6 11 (.slice (.arr 32 1) (ae 10) none none none),
 aV 7 12 6 3,
 ao 8 13 (.slice (.arr 32 1) (ae 12) none none none),
 sc 4 9 193 [(ae 6),(ae 8)],
 sc 9 14 106 [(ae 11),(ae 13)],
 ao 10 15 (.dh 1 [.int .i64 0] 2 [(0,(ae 9)),(1,(ae 14))]),
 sc 11 16 136 [(ae 15)],
 a6 12 17 .gtr 3 16 0,
 af 13 4 17]
 .ret))
def Zb:List bf:=[.aO (ae 4)]
theorem afA:bx Tryz.prog 139=some Ph:=by kernel_rfl
theorem aqg:bz Tryz.prog 139=some Zb:=by kernel_rfl
def Wd:aT:=(.seq (aj [af 0 29 5,
 af 1 30 4,
 b1 2 31 1 30,
 bq 3 32 .lss 3 29 31]
 (.cond (ae 32) .skip (.exit 2)))
 (.seq (.block 3 (aj [af 0 35 4,
 af 1 36 5,
 b0 2 37 1 35 36,
 aX 3 38 37,
 af 4 39 4,
 af 5 40 5,
 a6 6 41 .sub 3 40 1,
 b0 7 42 1 39 41,
 aX 8 43 42,
 bq 9 44 .neq 9 38 43]
 (.cond (ae 44) (aj [af 0 45 0,
 af 1 46 3,
 af 2 47 4,
 af 3 48 5,
 b0 4 49 1 47 48,
 aX 5 50 49,
 b0 6 51 1 45 46,
 bG 7 1 51 50]
 (.bH [af 0 52 3,
 a6 1 53 .add 3 52 1,
 af 2 3 53])) .skip)))
 (.bH [af 0 33 5,
 a6 1 34 .add 3 33 1,
 af 2 5 34])))
def We:aT:=(.seq (aj [af 0 10 3,
 af 1 11 0,
 b1 2 12 1 11,
 bq 3 13 .lss 3 10 12]
 (.cond (ae 13) .skip (.exit 0)))
 (.seq (.block 1 (aj [af 0 16 0,
 af 1 17 3,
 b0 2 18 1 16 17,
 aX 3 19 18,
 af 4 20 0,
 af 5 21 3,
 a6 6 22 .sub 3 21 1,
 b0 7 23 1 20 22,
 aX 8 24 23,
 bq 9 25 .eql 9 19 24]
 (.cond (ae 25) (aj [af 0 26 0,
 af 1 27 3,
 ao 2 28 (.slice (.av 1) (ae 26) (some (ae 27)) none none),
 af 3 4 28]
 (.seq (aj [aU 0 5 1]
 (.block 2 (.loop Wd)))
 (aj [af 0 54 0,
 af 1 55 3,
 ao 2 56 (.slice (.av 1) (ae 54) (some (ae 55)) none none),
 rG 3 (.tv [.str []] (ae 56))]
 (aj [af 0 57 0,
 af 1 58 3,
 ao 2 59 (.slice (.av 1) (ae 57) none (some (ae 58)) none),
 af 3 2 59]
 .ret)))) .skip)))
 (.bH [af 0 14 3,
 a6 1 15 .add 3 14 1,
 af 2 3 15])))
def Pk:aT:=(aj [ao 0 2 (.aO (.const (.slice none 0 0)))]
 (.seq (aj [af 0 6 0,
 b1 1 7 1 6,
 a6 2 8 .lss 3 7 2]
 (.cond (ae 8) (aj [af 0 9 0,
 af 1 2 9]
 .ret) .skip))
 (.seq (aj [aU 0 3 1]
 (.block 0 (.loop We)))
 (aj [af 0 60 0,
 af 1 2 60]
 .ret))))
def Zd:List bf:=[.aO (ae 2)]
theorem afC:bx Tryz.prog 140=some Pk:=by kernel_rfl
theorem aqi:bz Tryz.prog 140=some Zd:=by kernel_rfl
def Wf:aT:=(aj [bq 0 9 .lss 3 8 7]
 (.seq (.cond (ae 9) .skip (.exit 0))
 (.seq (.block 1 (aj [af 0 10 8,
 af 1 5 10]
 (aj [af 0 11 1,
 af 1 12 0,
 af 2 13 5,
 b0 3 14 1 12 13,
 aX 4 15 14,
 bq 5 16 .eql 9 11 15]
 (.cond (ae 16) (aj [af 0 17 5,
 af 1 4 17]
 .ret) .skip))))
 (.bH [a6 0 18 .add 3 8 1,
 af 1 8 18]))))
def Pl:aT:=(aj [aU 0 4 0]
 (.seq (aj [af 0 6 0,
 b1 1 7 1 6,
 aU 2 8 0]
 (.block 0 (.loop Wf)))
 (aj [aU 0 4 (-1)]
 .ret)))
def Ze:List bf:=[.aO (ae 4)]
theorem afD:bx Tryz.prog 141=some Pl:=by kernel_rfl
theorem aqj:bz Tryz.prog 141=some Ze:=by kernel_rfl
def Wg:aT:=(.seq (aj [af 0 15 9,
 af 1 16 10,
 bq 2 17 .lss 3 15 16]
 (.cond (ae 17) .skip (.exit 0)))
 (.block 1 (aj [af 0 18 9,
 af 1 19 10,
 bq 2 20 .add 3 18 19,
 ao 3 21 (.ds .u64 (ae 20)),
 ao 4 22 (.bin .shr 194 (ae 21) (.const (.int .u64 1))),
 ao 5 23 (.ds .i64 (ae 22)),
 af 6 11 23]
 (aj [af 0 24 2,
 af 1 25 0,
 af 2 26 11,
 b0 3 27 38 25 26,
 bi 4 28 38 27,
 af 5 29 1,
 ⟨6,(some 30),none,.ig (ae 24) [(ae 28),(ae 29)],[],false⟩,
 a6 7 31 .lss 3 30 0]
 (.cond (ae 31) (.bH [af 0 32 11,
 a6 1 33 .add 3 32 1,
 af 2 9 33]) (.bH [af 0 34 11,
 af 1 10 34]))))))
def Pm:aT:=(aj [aU 0 6 0,
 cD 1 7 false]
 (aj [af 0 12 0,
 b1 1 13 38 12,
 af 2 8 13]
 (aj [af 0 14 8,
 aU 1 9 0,
 af 2 10 14]
 (.seq (.block 0 (.loop Wg))
 (aj [af 0 35 9,
 af 1 36 9,
 af 2 37 8,
 bq 3 38 .lss 3 36 37,
 af 4 39 38,
 dr 5 40 39 true 2,
 dr 6 41 39 true 0,
 dr 7 42 39 true 9,
 kJ 8 43 39 true 38 41 42,
 eI 9 44 39 true 38 43,
 dr 10 45 39 true 1,
 ⟨11,(some 46),(some ((some 39),true)),.ig (ae 40) [(ae 44),(ae 45)],[],false⟩,
 fy 12 47 39 true .eql 3 46 0,
 e6 13 48 39 47,
 af 14 6 35,
 af 15 7 48]
 .ret)))))
def Zf:List bf:=[.aO (ae 6),.aO (ae 7)]
theorem afE:bx Tryz.prog 142=some Pm:=by kernel_rfl
theorem aqk:bz Tryz.prog 142=some Zf:=by kernel_rfl
def Pn:aT:=(aj [ao 0 3 (.box (ae 0)),
 aU 1 5 0]
 (aj [aX 0 6 2,
 bi 1 7 38 3,
 ⟨2,(some 8),none,.ig (ae 6) [(ae 7)],[],false⟩,
 af 3 9 1,
 sc 4 10 137 [(ae 8),(ae 9)],
 af 5 5 10]
 .ret))
def Zg:List bf:=[.aO (ae 5)]
theorem afF:bx Tryz.prog 143=some Pn:=by kernel_rfl
theorem aql:bz Tryz.prog 143=some Zg:=by kernel_rfl
def Io:aT:=(aj [ao 0 1 (.box (ae 0)),
 ao 1 2 (.aO (.const (.slice none 0 0))),
 aU 2 3 0]
 (.seq (aj [bi 0 7 11 1,
 sc 1 8 146 [(ae 7)],
 af 2 4 8]
 (aj [af 0 9 4,
 a6 1 10 .neq 37 9 0]
 (.cond (ae 10) (aj [af 0 11 4,
 ao 1 2 (.aO (.const (.slice none 0 0))),
 af 2 3 11]
 .ret) .skip)))
 (aj [bi 0 13 11 1,
 sc 1 14 147 [(ae 13)],
 af 2 12 14,
 cN 3 15 12 0,
 cN 4 16 12 1,
 af 5 5 15,
 af 6 6 16]
 (.seq (.hc [af 0 17 5,
 aV 1 18 9 1,
 aV 2 19 0 18,
 aX 3 20 19,
 ao 4 21 (.ds .u64 (ae 20)),
 aV 6 23 9 1,
 aV 7 24 1 23,
 ⟨8,(some 25),none,.cM (.ld1 (ae 24)),[],true⟩,
 ⟨9,(some 26),none,.cM (.ds .u64 (ae 25)),[],true⟩,
 ⟨5,(some 22),none,.cO 195 [(ae 21)],[9,8],false⟩,
 sc 10 27 195 [(ae 26)],
 ao 11 28 (.dh 1 [.aK] 3 [(0,(ae 17)),(1,(ae 22)),(2,(ae 27))]),
 sc 12 29 194 [(ae 28)],
 af 13 2 29,
 aU 14 3 0])
 .ret))))
def Mc:List bf:=[.aO (ae 2),.aO (ae 3)]
theorem Po:bx Tryz.prog 144=some Io:=by kernel_rfl
theorem Zh:bz Tryz.prog 144=some Mc:=by kernel_rfl
def Pp:aT:=(aj [ao 0 2 (.alloc (rep 32 (.int .u8 0))),
 aU 1 3 0]
 (aj [af 0 4 0,
 ao 1 5 (.dh 1 [.aK] 1 [(0,(ae 4))]),
 sc 2 6 196 [(ae 5)],
 cN 3 7 6 0,
 cN 4 8 6 1,
 bG 5 32 2 7,
 af 6 3 8]
 .ret))
def Zi:List bf:=[.eg 32 (ae 2),.aO (ae 3)]
theorem afG:bx Tryz.prog 145=some Pp:=by kernel_rfl
theorem aqm:bz Tryz.prog 145=some Zi:=by kernel_rfl
def Pq:aT:=(aj [ao 0 1 (.box (ae 0)),
 aU 1 2 0]
 (.seq (.block 0 (aj [aV 0 4 1 1,
 aX 1 5 4,
 b1 2 6 32 5,
 a6 3 7 .gtr 3 6 4,
 af 4 3 7]
 (.cond (ae 3) (aj [aU 0 2 4]
 .ret) (.seq (.hc [aV 0 9 1 1,
 aX 1 10 9,
 sc 2 11 197 [(ae 10),(.func 149)],
 ao 3 12 (.un .not (ae 11)),
 af 4 13 12,
 cz 5 14 13 false 1 1,
 dz 6 15 13 false 14,
 cz 10 19 13 false 1 1,
 ⟨11,(some 20),(some ((some 13),false)),.cM (.ld1 (ae 19)),[],true⟩,
 dV 12 21 13 false (.len (.av 32) (ae 20)),
 ⟨7,(some 16),(some ((some 13),false)),.cO 165 [(ae 15)],[11],false⟩,
 ⟨8,(some 17),(some ((some 13),false)),.cO 198 [(ae 16)],[11],false⟩,
 dV 9 18 13 false (.len (.av 32) (ae 17)),
 jM 13 22 13 false .neq 3 18 21,
 e5 14 23 13 22,
 af 15 8 23])
 (.cond (ae 8) (aj [aU 0 2 32]
 .ret) (aj [aV 0 25 0 1,
 aX 1 26 25,
 sc 2 27 199 [(ae 26)],
 ao 3 28 (.un .not (ae 27)),
 af 4 29 28,
 cz 5 30 29 false 2 1,
 dz 6 31 29 false 30,
 dV 7 32 29 false (.bin .gtr 40 (ae 31) (.const (.int .u64 1000000000000))),
 e5 8 33 29 32,
 af 9 34 33,
 cz 10 35 34 false 9 1,
 cz 11 36 34 false 0 35,
 dz 12 37 34 false 36,
 cz 13 38 34 false 9 1,
 cz 14 39 34 false 1 38,
 dz 15 40 34 false 39,
 dV 16 41 34 false (.max (ae 37) (ae 40)),
 dV 17 42 34 false (.bin .geq 76 (ae 41) (.const (.int .u32 500000003))),
 e5 18 43 34 42,
 af 19 24 43]
 (.cond (ae 24) (aj [aU 0 2 8]
 .ret) .skip)))))))
 (aj [aV 0 44 3 1,
 bi 1 45 6 44,
 sc 2 46 104 [(ae 45)],
 af 3 2 46]
 .ret)))
def Zj:List bf:=[.aO (ae 2)]
theorem afH:bx Tryz.prog 146=some Pq:=by kernel_rfl
theorem aqn:bz Tryz.prog 146=some Zj:=by kernel_rfl
def Pr:aT:=(aj [ao 0 1 (.box (ae 0)),
 ao 1 2 (.aO (.const (.slice none 0 0))),
 aU 2 3 0]
 (aj [ao 0 12 (.dp [.int .u32 0,.int .u32 0] []),
 aV 1 13 9 1,
 bG 2 2 13 12]
 (.seq (aj [bi 0 14 11 1,
 sc 1 15 146 [(ae 14)],
 af 2 4 15]
 (aj [af 0 16 4,
 a6 1 17 .neq 37 16 0]
 (.cond (ae 17) (aj [af 0 18 4,
 ao 1 2 (.aO (.const (.slice none 0 0))),
 af 2 3 18]
 .ret) .skip)))
 (aj [aV 0 20 1 1,
 aX 1 21 20,
 sc 2 22 200 [(ae 21)],
 af 3 19 22,
 cN 4 23 19 0,
 cN 5 24 19 1,
 af 6 5 23,
 af 7 6 24]
 (.seq (.hc [⟨0,(some 25),none,.cM (.dh 1 [.int .u8 0] 1 [(0,(.const (.int .u8 111)))]),[],true⟩,
 aV 1 26 0 1,
 aX 2 27 26,
 ao 3 28 (.ds .u64 (ae 27)),
 af 5 30 5,
 aV 6 31 2 1,
 ⟨7,(some 32),none,.cM (.ld1 (ae 31)),[],true⟩,
 aV 9 34 3 1,
 aV 10 35 0 34,
 ⟨11,(some 36),none,.cM (.ld1 (ae 35)),[],true⟩,
 ⟨12,(some 37),none,.cM (.dh 1 [.int .u8 0] 1 [(0,(ae 36))]),[],true⟩,
 ⟨4,(some 29),none,.cO 195 [(ae 28)],[12,11,7,0],false⟩,
 ⟨8,(some 33),none,.cO 195 [(ae 32)],[12,11,0],false⟩,
 ao 13 38 (.dh 1 [.aK] 5 [(0,(ae 25)),(1,(ae 29)),(2,(ae 30)),(3,(ae 33)),(4,(ae 37))]),
 sc 14 39 194 [(ae 38)],
 af 15 7 39])
 (.seq (aj [aV 0 40 3 1,
 aV 1 41 0 40,
 aX 2 42 41,
 ao 3 43 (.bin .eql 5 (ae 42) (.const (.int .u8 1)))]
 (.cond (ae 43) (aj [af 0 44 7,
 af 1 2 44,
 aU 2 3 0]
 .ret) .skip))
 (aj [aV 0 46 3 1,
 aV 1 47 1 46,
 aX 2 48 47,
 ao 3 49 (.tw (ae 48)),
 sc 4 50 201 [(ae 49)],
 af 5 45 50,
 cN 6 51 45 0,
 cN 7 52 45 1,
 af 8 8 51,
 af 9 9 52]
 (aj [af 0 53 7,
 af 1 54 8,
 ao 2 55 (.app 1 1 (ae 53) (ae 54)),
 af 3 7 55]
 (.seq (aj [aV 0 56 3 1,
 aV 1 57 0 56,
 aX 2 58 57,
 ao 3 59 (.bin .eql 5 (ae 58) (.const (.int .u8 4)))]
 (.cond (ae 59) (aj [aV 0 61 3 1,
 aV 1 62 2 61,
 bi 2 63 4 62,
 sc 3 64 202 [(ae 63)],
 af 4 60 64,
 cN 5 65 60 0,
 cN 6 66 60 1,
 af 7 10 65,
 af 8 11 66]
 (.bH [af 0 67 7,
 af 1 68 10,
 ao 2 69 (.app 1 1 (ae 67) (ae 68)),
 af 3 7 69])) .skip))
 (aj [af 0 70 7,
 af 1 2 70,
 aU 2 3 0]
 .ret))))))))))
def Zk:List bf:=[.aO (ae 2),.aO (ae 3)]
theorem afI:bx Tryz.prog 147=some Pr:=by kernel_rfl
theorem aqo:bz Tryz.prog 147=some Zk:=by kernel_rfl
def Ps:aT:=(aj [ao 0 5 (.box (ae 2)),
 aU 1 6 0]
 (.seq (aj [af 0 13 0,
 sc 1 14 199 [(ae 13)],
 ao 2 15 (.un .not (ae 14))]
 (.cond (ae 15) (aj [aU 0 6 2]
 .ret) .skip))
 (.seq (aj [af 0 16 1,
 b1 1 17 1 16,
 a6 2 18 .gtr 3 17 9991]
 (.cond (ae 18) (aj [aU 0 6 4]
 .ret) .skip))
 (.seq (aj [aV 0 19 0 5,
 aX 1 20 19,
 aV 2 21 1 5,
 aX 3 22 21,
 ao 4 23 (.max (ae 20) (ae 22)),
 ao 5 24 (.bin .geq 76 (ae 23) (.const (.int .u32 500000003)))]
 (.cond (ae 24) (aj [aU 0 6 22]
 .ret) .skip))
 (aj [af 0 26 0,
 aV 1 27 0 5,
 aX 2 28 27,
 ao 3 29 (.ds .u64 (ae 28)),
 ao 4 30 (.bin .sub 40 (.const (.int .u64 500000003)) (ae 29)),
 sc 5 31 203 [(ae 26),(ae 30)],
 af 6 25 31,
 cN 7 32 25 0,
 cN 8 33 25 1,
 af 9 7 32,
 af 10 8 33]
 (aj [aV 0 35 1 5,
 aX 1 36 35,
 ao 2 37 (.ds .u64 (ae 36)),
 sc 3 38 205 [(ae 37)],
 af 4 39 7,
 sc 5 40 204 [(ae 38),(ae 39)],
 af 6 34 40,
 cN 7 41 34 0,
 cN 8 42 34 1,
 af 9 9 41,
 af 10 10 42]
 (.seq (aj [af 0 44 9,
 af 1 45 0,
 af 2 46 1,
 sc 3 47 206 [(ae 44),(ae 45),(ae 46)],
 af 4 43 47,
 cN 5 48 43 0,
 cN 6 49 43 1,
 af 7 11 48,
 af 8 12 49]
 (aj [af 0 50 12,
 a6 1 51 .neq 37 50 0,
 af 2 52 51,
 dr 3 53 52 false 11,
 cz 4 54 52 false 0 5,
 dz 5 55 52 false 54,
 jM 6 56 52 false .neq 76 53 55,
 e5 7 57 52 56]
 (.cond (ae 57) (aj [aU 0 6 22]
 .ret) .skip)))
 (aj [aU 0 6 0]
 .ret))))))))
def Zl:List bf:=[.aO (ae 6)]
theorem afJ:bx Tryz.prog 148=some Ps:=by kernel_rfl
theorem aqp:bz Tryz.prog 148=some Zl:=by kernel_rfl
def Pt:aT:=(aj [ao 0 2 (.box (ae 0)),
 ao 1 3 (.box (ae 1)),
 aU 2 4 0]
 (aj [ao 0 5 (.slice (.arr 32 1) (ae 2) none none none),
 ao 1 6 (.slice (.arr 32 1) (ae 3) none none none),
 sc 2 7 106 [(ae 5),(ae 6)],
 af 3 4 7]
 .ret))
def Zm:List bf:=[.aO (ae 4)]
theorem afK:bx Tryz.prog 149=some Pt:=by kernel_rfl
theorem aqq:bz Tryz.prog 149=some Zm:=by kernel_rfl
def Pu:aT:=(aj [ao 0 2 (.aO (.const (.slice none 0 0)))]
 (.seq (aj [af 0 3 0,
 ao 1 4 (.bin .eql 29 (ae 3) (.const (.slice none 0 0)))]
 (.cond (ae 4) (aj [ao 0 2 (.aO (.const (.slice none 0 0)))]
 .ret) .skip))
 (aj [ao 0 5 (.dh 33 ([.str []]++rep 32 (.int .u8 0)) 0 []),
 af 1 6 0,
 ao 2 7 (.app 33 48 (ae 5) (ae 6)),
 af 3 2 7]
 .ret)))
def Zo:List bf:=[.aO (ae 2)]
theorem afM:bx Tryz.prog 150=some Pu:=by kernel_rfl
theorem aqs:bz Tryz.prog 150=some Zo:=by kernel_rfl
def Wi:aT:=(.seq (aj [af 0 15 9,
 af 1 16 10,
 bq 2 17 .lss 3 15 16]
 (.cond (ae 17) .skip (.exit 0)))
 (.block 1 (aj [af 0 18 9,
 af 1 19 10,
 bq 2 20 .add 3 18 19,
 ao 3 21 (.ds .u64 (ae 20)),
 ao 4 22 (.bin .shr 194 (ae 21) (.const (.int .u64 1))),
 ao 5 23 (.ds .i64 (ae 22)),
 af 6 11 23]
 (aj [af 0 24 2,
 af 1 25 0,
 af 2 26 11,
 b0 3 27 33 25 26,
 bi 4 28 33 27,
 bi 5 29 33 4,
 ⟨6,(some 30),none,.ig (ae 24) [(ae 28),(ae 29)],[],false⟩,
 a6 7 31 .lss 3 30 0]
 (.cond (ae 31) (.bH [af 0 32 11,
 a6 1 33 .add 3 32 1,
 af 2 9 33]) (.bH [af 0 34 11,
 af 1 10 34]))))))
def Pv:aT:=(aj [ao 0 4 (.box (ae 1)),
 aU 1 6 0,
 cD 2 7 false]
 (aj [af 0 12 0,
 b1 1 13 33 12,
 af 2 8 13]
 (aj [af 0 14 8,
 aU 1 9 0,
 af 2 10 14]
 (.seq (.block 0 (.loop Wi))
 (aj [af 0 35 9,
 af 1 36 9,
 af 2 37 8,
 bq 3 38 .lss 3 36 37,
 af 4 39 38,
 dr 5 40 39 true 2,
 dr 6 41 39 true 0,
 dr 7 42 39 true 9,
 kJ 8 43 39 true 33 41 42,
 eI 9 44 39 true 33 43,
 eI 10 45 39 true 33 4,
 ⟨11,(some 46),(some ((some 39),true)),.ig (ae 40) [(ae 44),(ae 45)],[],false⟩,
 fy 12 47 39 true .eql 3 46 0,
 e6 13 48 39 47,
 af 14 6 35,
 af 15 7 48]
 .ret)))))
def Zp:List bf:=[.aO (ae 6),.aO (ae 7)]
theorem afN:bx Tryz.prog 151=some Pv:=by kernel_rfl
theorem aqt:bz Tryz.prog 151=some Zp:=by kernel_rfl
def Wj:aT:=(.seq (aj [af 0 16 6,
 af 1 17 0,
 b1 2 18 33 17,
 bq 3 19 .lss 3 16 18]
 (.cond (ae 19) .skip (.exit 0)))
 (.seq (.block 1 (aj [af 0 22 0,
 af 1 23 6,
 b0 2 24 33 22 23,
 bi 3 25 33 24,
 ao 4 7 (.alloc ([.str []]++rep 32 (.int .u8 0))),
 bG 5 33 7 25]
 (aj [af 0 26 1,
 bi 1 27 33 7,
 ⟨2,(some 28),none,.ig (ae 26) [(ae 27)],[],false⟩,
 ao 3 29 (.un .not (ae 28))]
 (.cond (ae 29) (aj [af 0 30 0,
 af 1 31 5,
 bi 2 32 33 7,
 b0 3 33 33 30 31,
 bG 4 33 33 32]
 (.bH [af 0 34 5,
 a6 1 35 .add 3 34 1,
 af 2 5 35])) .skip))))
 (.bH [af 0 20 6,
 a6 1 21 .add 3 20 1,
 af 2 6 21])))
def Pw:aT:=(aj [ao 0 4 (.aO (.const (.slice none 0 0)))]
 (aj [af 0 8 0,
 af 1 9 1,
 sc 2 10 209 [(ae 8),(ae 9)],
 af 3 5 10]
 (.seq (aj [af 0 11 5,
 a6 1 12 .eql 3 11 (-1)]
 (.cond (ae 12) (aj [af 0 13 0,
 af 1 4 13]
 .ret) .skip))
 (.seq (aj [af 0 14 5,
 a6 1 15 .add 3 14 1,
 af 2 6 15]
 (.block 0 (.loop Wj)))
 (aj [af 0 36 0,
 af 1 37 5,
 ao 2 38 (.slice (.av 33) (ae 36) (some (ae 37)) none none),
 rG 3 (.tv ([.str []]++rep 32 (.int .u8 0)) (ae 38))]
 (aj [af 0 39 0,
 af 1 40 5,
 ao 2 41 (.slice (.av 33) (ae 39) none (some (ae 40)) none),
 af 3 4 41]
 .ret))))))
def Zq:List bf:=[.aO (ae 4)]
theorem afO:bx Tryz.prog 153=some Pw:=by kernel_rfl
theorem aqu:bz Tryz.prog 153=some Zq:=by kernel_rfl
def Px:aT:=(aj [ao 0 3 (.box (ae 0)),
 cD 1 4 false]
 (aj [aV 0 5 0 3,
 aX 1 6 5,
 aV 2 7 3 1,
 aV 3 8 1 7,
 aX 4 9 8,
 bq 5 10 .eql 9 6 9,
 af 6 11 10,
 dz 7 12 11 true 2,
 cz 8 13 11 true 1 3,
 eI 9 14 11 true 32 13,
 ⟨10,(some 15),(some ((some 11),true)),.cO 70 [(ae 12),(ae 14)],[],false⟩,
 e6 11 16 11 15,
 af 12 4 16]
 .ret))
def Zr:List bf:=[.aO (ae 4)]
theorem afP:bx Tryz.prog 154=some Px:=by kernel_rfl
theorem aqv:bz Tryz.prog 154=some Zr:=by kernel_rfl
def Py:aT:=(aj [ao 0 2 (.aO (.const (.slice none 0 0)))]
 (.seq (aj [af 0 3 0,
 ao 1 4 (.bin .eql 32 (ae 3) (.const (.slice none 0 0)))]
 (.cond (ae 4) (aj [ao 0 2 (.aO (.const (.slice none 0 0)))]
 .ret) .skip))
 (aj [ao 0 5 (.dh 38 ([.str [],.int .u8 0,.int .i64 0,.int .u64 0,.str [],.int .u64 0]++rep 32 (.int .u8 0)) 0 []),
 af 1 6 0,
 ao 2 7 (.app 38 96 (ae 5) (ae 6)),
 af 3 2 7]
 .ret)))
def Zs:List bf:=[.aO (ae 2)]
theorem afQ:bx Tryz.prog 155=some Py:=by kernel_rfl
theorem aqw:bz Tryz.prog 155=some Zs:=by kernel_rfl
def Pz:aT:=(aj [cD 0 2 false]
 (aj [af 0 3 0,
 ao 1 4 (.len .str (ae 3)),
 a6 2 5 .geq 3 4 1,
 af 3 6 5,
 dr 4 7 6 true 0,
 dV 5 8 6 true (.len .str (ae 7)),
 fy 6 9 6 true .leq 3 8 20,
 e6 7 10 6 9,
 af 8 11 10,
 dr 9 12 11 true 0,
 ⟨10,(some 13),(some ((some 11),true)),.cO 218 [(ae 12),(.func 219)],[],false⟩,
 fy 11 14 11 true .lss 3 13 0,
 e6 12 15 11 14,
 af 13 2 15]
 .ret))
def Zt:List bf:=[.aO (ae 2)]
theorem afR:bx Tryz.prog 157=some Pz:=by kernel_rfl
theorem aqx:bz Tryz.prog 157=some Zt:=by kernel_rfl
def PA:aT:=(aj [ao 0 2 (.alloc [.int .u8 0,.int .i64 0,.int .u64 0,.str []])]
 (aj [af 0 3 0,
 ao 1 4 (.dp [.int .u8 0,.int .i64 0,.int .u64 0,.str []] [(0,1,(.const (.int .u8 1))),(1,1,(ae 3))]),
 bG 2 4 2 4]
 .ret))
def Zu:List bf:=[.eg 4 (ae 2)]
theorem afS:bx Tryz.prog 158=some PA:=by kernel_rfl
theorem aqy:bz Tryz.prog 158=some Zu:=by kernel_rfl
def PB:aT:=(aj [ao 0 2 (.alloc [.int .u8 0,.int .i64 0,.int .u64 0,.str []])]
 (aj [af 0 3 0,
 sc 1 4 220 [(ae 3)],
 ao 2 5 (.dp [.int .u8 0,.int .i64 0,.int .u64 0,.str []] [(0,1,(.const (.int .u8 2))),(2,1,(ae 4))]),
 bG 3 4 2 5]
 .ret))
def Zv:List bf:=[.eg 4 (ae 2)]
theorem afT:bx Tryz.prog 159=some PB:=by kernel_rfl
theorem aqz:bz Tryz.prog 159=some Zv:=by kernel_rfl
def PC:aT:=(aj [ao 0 2 (.alloc [.int .u8 0,.int .i64 0,.int .u64 0,.str []]),
 aU 1 3 0]
 (.seq (aj [af 0 4 0,
 ao 1 5 (.len .str (ae 4)),
 a6 2 6 .gtr 3 5 30]
 (.cond (ae 6) (aj [ao 0 7 (.dp [.int .u8 0,.int .i64 0,.int .u64 0,.str []] []),
 bG 1 4 2 7,
 aU 2 3 4]
 .ret) .skip))
 (.seq (aj [af 0 8 0,
 sc 1 9 218 [(ae 8),(.func 221)],
 a6 2 10 .geq 3 9 0]
 (.cond (ae 10) (aj [ao 0 11 (.dp [.int .u8 0,.int .i64 0,.int .u64 0,.str []] []),
 bG 1 4 2 11,
 aU 2 3 8]
 .ret) .skip))
 (aj [af 0 12 0,
 ao 1 13 (.dp [.int .u8 0,.int .i64 0,.int .u64 0,.str []] [(0,1,(.const (.int .u8 3))),(3,1,(ae 12))]),
 bG 2 4 2 13,
 aU 3 3 0]
 .ret))))
def Zx:List bf:=[.eg 4 (ae 2),.aO (ae 3)]
theorem afV:bx Tryz.prog 160=some PC:=by kernel_rfl
theorem aqB:bz Tryz.prog 160=some Zx:=by kernel_rfl
def PD:aT:=(aj [ao 0 2 (.aO (.const (.int .u64 0)))]
 (.seq (aj [af 0 3 0,
 sc 1 4 222 [(ae 3)],
 ao 2 5 (.bin .eql 5 (ae 4) (.const (.int .u8 5)))]
 (.cond (ae 5) (aj [ao 0 2 (.aO (.const (.int .u64 9221120237041090560)))]
 .ret) .skip))
 (aj [af 0 6 0,
 af 1 2 6]
 .ret)))
def Zy:List bf:=[.aO (ae 2)]
theorem afW:bx Tryz.prog 162=some PD:=by kernel_rfl
theorem aqC:bz Tryz.prog 162=some Zy:=by kernel_rfl
def Wl:aT:=(.seq (aj [af 0 4 3,
 af 1 5 0,
 ao 2 6 (.len .str (ae 5)),
 bq 3 7 .lss 3 4 6]
 (.cond (ae 7) .skip (.exit 0)))
 (.seq (.block 1 (aj [af 0 10 0,
 af 1 11 3,
 ao 2 12 (.uk (ae 10) (ae 11)),
 ao 3 13 (.bin .lss 5 (ae 12) (.const (.int .u8 32))),
 af 4 14 13,
 dr 5 15 14 false 0,
 dr 6 16 14 false 3,
 dV 7 17 14 false (.uk (ae 15) (ae 16)),
 dV 8 18 14 false (.bin .gtr 5 (ae 17) (.const (.int .u8 126))),
 e5 9 19 14 18]
 (.cond (ae 19) (aj [cD 0 2 false]
 .ret) .skip)))
 (.bH [af 0 8 3,
 a6 1 9 .add 3 8 1,
 af 2 3 9])))
def PE:aT:=(aj [cD 0 2 false]
 (.seq (aj [aU 0 3 0]
 (.block 0 (.loop Wl)))
 (aj [cD 0 2 true]
 .ret)))
def Zz:List bf:=[.aO (ae 2)]
theorem afX:bx Tryz.prog 163=some PE:=by kernel_rfl
theorem aqD:bz Tryz.prog 163=some Zz:=by kernel_rfl
def Wm:aT:=(.seq (aj [af 0 15 9,
 af 1 16 10,
 bq 2 17 .lss 3 15 16]
 (.cond (ae 17) .skip (.exit 0)))
 (.block 1 (aj [af 0 18 9,
 af 1 19 10,
 bq 2 20 .add 3 18 19,
 ao 3 21 (.ds .u64 (ae 20)),
 ao 4 22 (.bin .shr 194 (ae 21) (.const (.int .u64 1))),
 ao 5 23 (.ds .i64 (ae 22)),
 af 6 11 23]
 (aj [af 0 24 2,
 af 1 25 0,
 af 2 26 11,
 b0 3 27 32 25 26,
 bi 4 28 32 27,
 bi 5 29 32 4,
 ⟨6,(some 30),none,.ig (ae 24) [(ae 28),(ae 29)],[],false⟩,
 a6 7 31 .lss 3 30 0]
 (.cond (ae 31) (.bH [af 0 32 11,
 a6 1 33 .add 3 32 1,
 af 2 9 33]) (.bH [af 0 34 11,
 af 1 10 34]))))))
def PF:aT:=(aj [ao 0 4 (.box (ae 1)),
 aU 1 6 0,
 cD 2 7 false]
 (aj [af 0 12 0,
 b1 1 13 32 12,
 af 2 8 13]
 (aj [af 0 14 8,
 aU 1 9 0,
 af 2 10 14]
 (.seq (.block 0 (.loop Wm))
 (aj [af 0 35 9,
 af 1 36 9,
 af 2 37 8,
 bq 3 38 .lss 3 36 37,
 af 4 39 38,
 dr 5 40 39 true 2,
 dr 6 41 39 true 0,
 dr 7 42 39 true 9,
 kJ 8 43 39 true 32 41 42,
 eI 9 44 39 true 32 43,
 eI 10 45 39 true 32 4,
 ⟨11,(some 46),(some ((some 39),true)),.ig (ae 40) [(ae 44),(ae 45)],[],false⟩,
 fy 12 47 39 true .eql 3 46 0,
 e6 13 48 39 47,
 af 14 6 35,
 af 15 7 48]
 .ret)))))
def ZA:List bf:=[.aO (ae 6),.aO (ae 7)]
theorem afY:bx Tryz.prog 164=some PF:=by kernel_rfl
theorem aqE:bz Tryz.prog 164=some ZA:=by kernel_rfl
def PG:aT:=(aj [ao 0 2 (.aO (.const (.slice none 0 0)))]
 (.seq (aj [af 0 3 0,
 ao 1 4 (.bin .eql 22 (ae 3) (.const (.slice none 0 0)))]
 (.cond (ae 4) (aj [ao 0 2 (.aO (.const (.slice none 0 0)))]
 .ret) .skip))
 (aj [ao 0 5 (.dh 32 (rep 32 (.int .u8 0)) 0 []),
 af 1 6 0,
 ao 2 7 (.app 32 32 (ae 5) (ae 6)),
 af 3 2 7]
 .ret)))
def ZB:List bf:=[.aO (ae 2)]
theorem afZ:bx Tryz.prog 165=some PG:=by kernel_rfl
theorem aqF:bz Tryz.prog 165=some ZB:=by kernel_rfl
def PH:aT:=(aj [ao 0 2 (.aO (.const (.int .u32 0)))]
 (aj [af 0 3 0,
 sc 1 4 177 [(.const (.int .u32 4)),(ae 3)],
 af 2 2 4]
 .ret))
def ZC:List bf:=[.aO (ae 2)]
theorem af0:bx Tryz.prog 166=some PH:=by kernel_rfl
theorem aqG:bz Tryz.prog 166=some ZC:=by kernel_rfl
def PI:aT:=(aj [ao 0 6 (.aO (.const (.int .u32 0)))]
 (aj [ao 0 8 (.dh 1 [.int .u8 0] 1 [(0,(.const (.int .u8 99)))]),
 af 1 9 0,
 sc 2 10 223 [(ae 9)],
 ao 3 11 (.app 1 1 (ae 8) (ae 10)),
 af 4 12 1,
 sc 5 13 223 [(ae 12)],
 ao 6 14 (.app 1 1 (ae 11) (ae 13)),
 af 7 7 14]
 (aj [af 0 15 7,
 af 1 16 2,
 ao 2 17 (.app 1 1 (ae 15) (ae 16)),
 sc 3 18 224 [(ae 17)],
 ao 4 19 (.bin .rem 40 (ae 18) (.const (.int .u64 500000003))),
 ao 5 20 (.ds .u32 (ae 19)),
 af 6 6 20]
 .ret)))
def ZD:List bf:=[.aO (ae 6)]
theorem af1:bx Tryz.prog 168=some PI:=by kernel_rfl
theorem aqH:bz Tryz.prog 168=some ZD:=by kernel_rfl
def Wn:aT:=(.seq (aj [af 0 9 4,
 af 1 10 0,
 b1 2 11 32 10,
 bq 3 12 .lss 3 9 11]
 (.cond (ae 12) .skip (.exit 0)))
 (.seq (.block 1 (.bH [af 0 15 3,
 af 1 16 0,
 af 2 17 4,
 b0 3 18 32 16 17,
 ao 4 19 (.slice (.arr 32 1) (ae 18) none none none),
 ao 5 20 (.app 1 1 (ae 15) (ae 19)),
 af 6 3 20]))
 (.bH [af 0 13 4,
 a6 1 14 .add 3 13 1,
 af 2 4 14])))
def PK:aT:=(aj [ao 0 2 (.aO (.const (.slice none 0 0)))]
 (aj [af 0 5 0,
 b1 1 6 32 5,
 ao 2 7 (.ds .u64 (ae 6)),
 sc 3 8 127 [(ae 7)],
 af 4 3 8]
 (.seq (aj [aU 0 4 0]
 (.block 0 (.loop Wn)))
 (aj [af 0 21 3,
 af 1 2 21]
 .ret))))
def ZE:List bf:=[.aO (ae 2)]
theorem af3:bx Tryz.prog 171=some PK:=by kernel_rfl
theorem aqJ:bz Tryz.prog 171=some ZE:=by kernel_rfl
def PL:aT:=(aj [ao 0 2 (.aO (.const (.slice none 0 0)))]
 (aj [af 0 3 0,
 b1 1 4 1 3,
 ao 2 5 (.ds .u64 (ae 4)),
 sc 3 6 127 [(ae 5)],
 af 4 7 0,
 ao 5 8 (.app 1 1 (ae 6) (ae 7)),
 af 6 2 8]
 .ret))
def ZF:List bf:=[.aO (ae 2)]
theorem af4:bx Tryz.prog 172=some PL:=by kernel_rfl
theorem aqK:bz Tryz.prog 172=some ZF:=by kernel_rfl
def Wo:aT:=(.seq (aj [af 0 19 4,
 a6 1 20 .geq 3 19 0]
 (.cond (ae 20) .skip (.exit 1)))
 (.seq (.block 2 (.bH [af 0 23 3,
 aV 1 24 2 1,
 aX 2 25 24,
 af 3 26 4,
 ao 4 27 (.bin .mul 3 (.const (.int .i64 8)) (ae 26)),
 bq 5 28 .shr 40 25 27,
 ao 6 29 (.ds .u8 (ae 28)),
 ao 7 30 (.dh 1 [.int .u8 0] 1 [(0,(ae 29))]),
 ao 8 31 (.app 1 1 (ae 23) (ae 30)),
 af 9 3 31]))
 (.bH [af 0 21 4,
 a6 1 22 .sub 3 21 1,
 af 2 4 22])))
def PM:aT:=(aj [ao 0 1 (.box (ae 0)),
 ao 1 2 (.aO (.const (.slice none 0 0)))]
 (aj [aV 0 5 0 1,
 aX 1 6 5,
 ao 2 7 (.dh 1 [.int .u8 0] 1 [(0,(ae 6))]),
 af 3 3 7]
 (.seq (aj [aV 0 8 0 1,
 aX 1 9 8]
 (.block 0 (aj [ao 0 11 (.bin .eql 5 (ae 9) (.const (.int .u8 1))),
 af 1 10 11]
 (.cond (ae 10) (aj [af 0 12 3,
 aV 1 13 1 1,
 aX 2 14 13,
 sc 3 15 225 [(ae 14)],
 ao 4 16 (.app 1 1 (ae 12) (ae 15)),
 af 5 2 16]
 .ret) (aj [ao 0 18 (.bin .eql 5 (ae 9) (.const (.int .u8 2))),
 af 1 17 18]
 (.cond (ae 17) (.seq (aj [aU 0 4 7]
 (.block 1 (.loop Wo)))
 (aj [af 0 32 3,
 af 1 2 32]
 .ret)) .skip))))))
 (aj [af 0 33 3,
 aV 1 34 3 1,
 aX 2 35 34,
 ao 3 36 (.tw (ae 35)),
 sc 4 37 172 [(ae 36)],
 ao 5 38 (.app 1 1 (ae 33) (ae 37)),
 af 6 2 38]
 .ret))))
def ZG:List bf:=[.aO (ae 2)]
theorem af5:bx Tryz.prog 173=some PM:=by kernel_rfl
theorem aqL:bz Tryz.prog 173=some ZG:=by kernel_rfl
def Wp:aT:=(.seq (aj [af 0 22 6,
 a6 1 23 .lss 3 22 16]
 (.cond (ae 23) .skip (.exit 0)))
 (.seq (.block 1 (.bH [af 0 26 5,
 af 1 27 1,
 af 2 28 6,
 ao 3 29 (.bin .mul 3 (.const (.int .i64 4)) (ae 28)),
 b0 4 30 1 27 29,
 aX 5 31 30,
 ao 6 32 (.ds .u32 (ae 31)),
 ao 7 33 (.bin .mul 76 (ae 32) (.const (.int .u32 256))),
 af 8 34 1,
 af 9 35 6,
 ao 10 36 (.bin .mul 3 (.const (.int .i64 4)) (ae 35)),
 a6 11 37 .add 3 36 1,
 b0 12 38 1 34 37,
 aX 13 39 38,
 ao 14 40 (.ds .u32 (ae 39)),
 bq 15 41 .add 76 33 40,
 ao 16 42 (.bin .mul 76 (ae 41) (.const (.int .u32 256))),
 af 17 43 1,
 af 18 44 6,
 ao 19 45 (.bin .mul 3 (.const (.int .i64 4)) (ae 44)),
 a6 20 46 .add 3 45 2,
 b0 21 47 1 43 46,
 aX 22 48 47,
 ao 23 49 (.ds .u32 (ae 48)),
 bq 24 50 .add 76 42 49,
 ao 25 51 (.bin .mul 76 (ae 50) (.const (.int .u32 256))),
 af 26 52 1,
 af 27 53 6,
 ao 28 54 (.bin .mul 3 (.const (.int .i64 4)) (ae 53)),
 a6 29 55 .add 3 54 3,
 b0 30 56 1 52 55,
 aX 31 57 56,
 ao 32 58 (.ds .u32 (ae 57)),
 bq 33 59 .add 76 51 58,
 ao 34 60 (.dh 1 [.int .u32 0] 1 [(0,(ae 59))]),
 ao 35 61 (.app 1 4 (ae 26) (ae 60)),
 af 36 5 61]))
 (.bH [af 0 24 6,
 a6 1 25 .add 3 24 1,
 af 2 6 25])))
def Wq:aT:=(.seq (aj [af 0 62 7,
 a6 1 63 .lss 3 62 64]
 (.cond (ae 63) .skip (.exit 2)))
 (.seq (.block 3 (aj [af 0 66 5,
 af 1 67 7,
 a6 2 68 .sub 3 67 15,
 b0 3 69 1 66 68,
 aX 4 70 69,
 af 5 71 5,
 af 6 72 7,
 a6 7 73 .sub 3 72 2,
 b0 8 74 1 71 73,
 aX 9 75 74,
 af 10 8 70,
 af 11 9 75]
 (.hc [af 0 76 5,
 af 1 77 5,
 af 2 78 7,
 a6 3 79 .sub 3 78 16,
 b0 4 80 1 77 79,
 ⟨5,(some 81),none,.cM (.ld1 (ae 80)),[],true⟩,
 af 6 82 5,
 af 7 83 7,
 a6 8 84 .sub 3 83 7,
 b0 9 85 1 82 84,
 ⟨10,(some 86),none,.cM (.ld1 (ae 85)),[],true⟩,
 bq 11 87 .add 76 81 86,
 af 12 88 8,
 af 14 90 8,
 af 17 93 8,
 ao 18 94 (.bin .shr 76 (ae 93) (.const (.int .u64 3))),
 af 21 97 9,
 af 23 99 9,
 af 26 102 9,
 ao 27 103 (.bin .shr 76 (ae 102) (.const (.int .u64 10))),
 ⟨13,(some 89),none,.cO 226 [(ae 88),(.const (.int .i64 7))],[10,5],false⟩,
 ⟨15,(some 91),none,.cO 226 [(ae 90),(.const (.int .i64 18))],[10,5],false⟩,
 bq 16 92 .xor 76 89 91,
 bq 19 95 .xor 76 92 94,
 bq 20 96 .add 76 87 95,
 ⟨22,(some 98),none,.cO 226 [(ae 97),(.const (.int .i64 17))],[10,5],false⟩,
 ⟨24,(some 100),none,.cO 226 [(ae 99),(.const (.int .i64 19))],[10,5],false⟩,
 bq 25 101 .xor 76 98 100,
 bq 28 104 .xor 76 101 103,
 bq 29 105 .add 76 96 104,
 ao 30 106 (.dh 1 [.int .u32 0] 1 [(0,(ae 105))]),
 ao 31 107 (.app 1 4 (ae 76) (ae 106)),
 af 32 5 107])))
 (.bH [af 0 64 7,
 a6 1 65 .add 3 64 1,
 af 2 7 65])))
def Wr:aT:=(.seq (aj [af 0 110 12,
 a6 1 111 .lss 3 110 64]
 (.cond (ae 111) .skip (.exit 4)))
 (.seq (.block 5 (aj [ao 0 114 (.ff (.arr 8 1) (ae 11) (.const (.int .i64 0))),
 aX 1 115 114,
 ao 2 116 (.ff (.arr 8 1) (ae 11) (.const (.int .i64 1))),
 aX 3 117 116,
 ao 4 118 (.ff (.arr 8 1) (ae 11) (.const (.int .i64 2))),
 aX 5 119 118,
 ao 6 120 (.ff (.arr 8 1) (ae 11) (.const (.int .i64 4))),
 aX 7 121 120,
 ao 8 122 (.ff (.arr 8 1) (ae 11) (.const (.int .i64 5))),
 aX 9 123 122,
 ao 10 124 (.ff (.arr 8 1) (ae 11) (.const (.int .i64 6))),
 aX 11 125 124,
 af 12 13 115,
 af 13 14 117,
 af 14 15 119,
 af 15 16 121,
 af 16 17 123,
 af 17 18 125]
 (.seq (.hc [ao 0 126 (.ff (.arr 8 1) (ae 11) (.const (.int .i64 7))),
 ⟨1,(some 127),none,.cM (.ld1 (ae 126)),[],true⟩,
 af 2 128 16,
 af 4 130 16,
 af 7 133 16,
 af 11 137 16,
 af 12 138 17,
 bq 13 139 .and 76 137 138,
 af 14 140 16,
 ao 15 141 (.un .xor (ae 140)),
 af 16 142 18,
 bq 17 143 .and 76 141 142,
 bq 18 144 .xor 76 139 143,
 af 20 146 10,
 af 21 147 12,
 b0 22 148 1 146 147,
 ⟨23,(some 149),none,.cM (.ld1 (ae 148)),[],true⟩,
 af 25 151 5,
 af 26 152 12,
 b0 27 153 1 151 152,
 ⟨28,(some 154),none,.cM (.ld1 (ae 153)),[],true⟩,
 ⟨3,(some 129),none,.cO 226 [(ae 128),(.const (.int .i64 6))],[28,23,1],false⟩,
 ⟨5,(some 131),none,.cO 226 [(ae 130),(.const (.int .i64 11))],[28,23,1],false⟩,
 bq 6 132 .xor 76 129 131,
 ⟨8,(some 134),none,.cO 226 [(ae 133),(.const (.int .i64 25))],[28,23,1],false⟩,
 bq 9 135 .xor 76 132 134,
 bq 10 136 .add 76 127 135,
 bq 19 145 .add 76 136 144,
 bq 24 150 .add 76 145 149,
 bq 29 155 .add 76 150 154,
 af 30 19 155])
 (aj [af 0 156 13,
 sc 1 157 226 [(ae 156),(.const (.int .i64 2))],
 af 2 158 13,
 sc 3 159 226 [(ae 158),(.const (.int .i64 13))],
 bq 4 160 .xor 76 157 159,
 af 5 161 13,
 sc 6 162 226 [(ae 161),(.const (.int .i64 22))],
 bq 7 163 .xor 76 160 162,
 af 8 164 13,
 af 9 165 14,
 bq 10 166 .and 76 164 165,
 af 11 167 13,
 af 12 168 15,
 bq 13 169 .and 76 167 168,
 bq 14 170 .xor 76 166 169,
 af 15 171 14,
 af 16 172 15,
 bq 17 173 .and 76 171 172,
 bq 18 174 .xor 76 170 173,
 bq 19 175 .add 76 163 174,
 af 20 20 175]
 (.bH [af 0 176 19,
 af 1 177 20,
 bq 2 178 .add 76 176 177,
 af 3 179 13,
 af 4 180 14,
 af 5 181 15,
 ao 6 182 (.ff (.arr 8 1) (ae 11) (.const (.int .i64 3))),
 aX 7 183 182,
 af 8 184 19,
 bq 9 185 .add 76 183 184,
 af 10 186 16,
 af 11 187 17,
 af 12 188 18,
 ao 13 189 (.dp [.int .u32 0,.int .u32 0,.int .u32 0,.int .u32 0,.int .u32 0,.int .u32 0,.int .u32 0,.int .u32 0] [(0,1,(ae 178)),(1,1,(ae 179)),(2,1,(ae 180)),(3,1,(ae 181)),(4,1,(ae 185)),(5,1,(ae 186)),(6,1,(ae 187)),(7,1,(ae 188))]),
 bG 14 8 11 189])))))
 (.bH [af 0 112 12,
 a6 1 113 .add 3 112 1,
 af 2 12 113])))
def Ws:aT:=(.seq (aj [af 0 190 21,
 a6 1 191 .lss 3 190 8]
 (.cond (ae 191) .skip (.exit 6)))
 (.seq (.block 7 (.bH [af 0 194 21,
 ao 1 195 (.ff (.arr 8 1) (ae 2) (ae 194)),
 aX 2 196 195,
 af 3 197 21,
 ao 4 198 (.ff (.arr 8 1) (ae 11) (ae 197)),
 aX 5 199 198,
 bq 6 200 .add 76 196 199,
 ao 7 201 (.ff (.arr 8 1) (ae 2) (ae 194)),
 bG 8 1 201 200]))
 (.bH [af 0 192 21,
 a6 1 193 .add 3 192 1,
 af 2 21 193])))
def PN:aT:=(aj [ao 0 2 (.box (ae 0)),
 ao 1 4 (.alloc [.int .u32 0,.int .u32 0,.int .u32 0,.int .u32 0,.int .u32 0,.int .u32 0,.int .u32 0,.int .u32 0])]
 (aj [ao 0 5 (.aO (.const (.slice none 0 0)))]
 (.seq (aj [aU 0 6 0]
 (.block 0 (.loop Wp)))
 (.seq (aj [aU 0 7 16]
 (.block 2 (.loop Wq)))
 (aj [sc 0 108 227 [],
 af 1 10 108]
 (aj [bi 0 109 8 2,
 ao 1 11 (.alloc [.int .u32 0,.int .u32 0,.int .u32 0,.int .u32 0,.int .u32 0,.int .u32 0,.int .u32 0,.int .u32 0]),
 bG 2 8 11 109]
 (.seq (aj [aU 0 12 0]
 (.block 4 (.loop Wr)))
 (.seq (aj [aU 0 21 0]
 (.block 6 (.loop Ws)))
 (aj [bi 0 202 8 2,
 bG 1 8 4 202]
 .ret)))))))))
def ZH:List bf:=[.eg 8 (ae 4)]
theorem af6:bx Tryz.prog 174=some PN:=by kernel_rfl
theorem aqM:bz Tryz.prog 174=some ZH:=by kernel_rfl
def Wt:aT:=(.seq (aj [af 0 8 1,
 ao 1 9 (.bin .gtr 40 (ae 8) (.const (.int .u64 0)))]
 (.cond (ae 9) .skip (.exit 0)))
 (.block 1 (.seq (aj [af 0 10 1,
 ao 1 11 (.bin .rem 40 (ae 10) (.const (.int .u64 2))),
 ao 2 12 (.bin .eql 40 (ae 11) (.const (.int .u64 1)))]
 (.cond (ae 12) (.bH [af 0 13 7,
 af 1 14 0,
 bq 2 15 .mul 40 13 14,
 af 3 16 2,
 bq 4 17 .rem 40 15 16,
 af 5 7 17]) .skip))
 (aj [af 0 18 0,
 af 1 19 0,
 bq 2 20 .mul 40 18 19,
 af 3 21 2,
 bq 4 22 .rem 40 20 21,
 af 5 0 22]
 (.bH [af 0 23 1,
 ao 1 24 (.bin .quo 40 (ae 23) (.const (.int .u64 2))),
 af 2 1 24])))))
def PO:aT:=(aj [ao 0 6 (.aO (.const (.int .u64 0)))]
 (aj [ao 0 7 (.aO (.const (.int .u64 1)))]
 (.seq (.block 0 (.loop Wt))
 (aj [af 0 25 7,
 af 1 6 25]
 .ret))))
def ZI:List bf:=[.aO (ae 6)]
theorem af7:bx Tryz.prog 175=some PO:=by kernel_rfl
theorem aqN:bz Tryz.prog 175=some ZI:=by kernel_rfl
def PP:aT:=(aj [ao 0 2 (.aO (.const (.int .u32 0))),
 aU 1 3 0]
 (.seq (aj [af 0 4 0,
 sc 1 5 128 [(ae 4)],
 ao 2 6 (.un .not (ae 5))]
 (.cond (ae 6) (aj [ao 0 2 (.aO (.const (.int .u32 0))),
 aU 1 3 2]
 .ret) .skip))
 (aj [af 0 7 0,
 sc 1 8 177 [(ae 7),(.const (.int .u64 500000002))],
 af 2 2 8,
 aU 3 3 0]
 .ret)))
def ZJ:List bf:=[.aO (ae 2),.aO (ae 3)]
theorem af8:bx Tryz.prog 176=some PP:=by kernel_rfl
theorem aqO:bz Tryz.prog 176=some ZJ:=by kernel_rfl
def PQ:aT:=(aj [ao 0 4 (.aO (.const (.int .u32 0)))]
 (aj [af 0 5 0,
 ao 1 6 (.ds .u64 (ae 5)),
 af 2 7 1,
 sc 3 8 175 [(ae 6),(ae 7),(.const (.int .u64 1000000007))],
 ao 4 9 (.ds .u32 (ae 8)),
 af 5 4 9]
 .ret))
def ZK:List bf:=[.aO (ae 4)]
theorem af9:bx Tryz.prog 177=some PQ:=by kernel_rfl
theorem aqP:bz Tryz.prog 177=some ZK:=by kernel_rfl
def PR:aT:=(aj [ao 0 4 (.aO (.const (.int .u32 0)))]
 (aj [af 0 5 0,
 ao 1 6 (.ds .u64 (ae 5)),
 af 2 7 1,
 ao 3 8 (.ds .u64 (ae 7)),
 bq 4 9 .mul 40 6 8,
 ao 5 10 (.bin .rem 40 (ae 9) (.const (.int .u64 1000000007))),
 ao 6 11 (.ds .u32 (ae 10)),
 af 7 4 11]
 .ret))
def ZL:List bf:=[.aO (ae 4)]
theorem aga:bx Tryz.prog 178=some PR:=by kernel_rfl
theorem aqQ:bz Tryz.prog 178=some ZL:=by kernel_rfl
def Wu:aT:=(aj [bq 0 27 .lss 3 26 25]
 (.seq (.cond (ae 27) .skip (.exit 0))
 (.seq (.block 1 (aj [b0 0 28 32 24 26,
 bi 1 29 32 28,
 ao 2 8 (.alloc (rep 32 (.int .u8 0))),
 bG 3 32 8 29]
 (.bH [aX 0 30 4,
 bi 1 31 32 8,
 ⟨2,(some 32),none,.ig (ae 30) [(ae 31)],[],false⟩])))
 (.bH [a6 0 33 .add 3 26 1,
 af 1 26 33]))))
def PS:aT:=(aj [ao 0 5 (.box (ae 0))]
 (aj [aX 0 9 1,
 bi 1 10 32 5,
 ao 2 11 (.AC 48 (.int .i64 0) false (ae 9) (ae 10)),
 af 3 6 11]
 (.seq (aj [aX 0 12 2,
 af 1 13 6,
 b0 2 14 1 12 13,
 aX 3 15 14]
 (.cond (ae 15) .ret .skip))
 (aj [aX 0 16 2,
 af 1 17 6,
 b0 2 18 1 16 17,
 rG 3 (.st 1 (ae 18) (.const (.bool true)))]
 (aj [aV 0 19 1 3,
 aX 1 20 19,
 af 2 21 6,
 b0 3 22 11 20 21,
 aV 4 23 1 22,
 aX 5 24 23,
 b1 6 25 32 24,
 aU 7 26 0]
 (.block 0 (.loop Wu)))))))
def ZM:List bf:=[]
theorem agb:bx Tryz.prog 179=some PS:=by kernel_rfl
theorem aqR:bz Tryz.prog 179=some ZM:=by kernel_rfl
def PU:aT:=(aj [aU 0 2 0]
 (.seq (aj [af 0 3 0,
 ao 1 4 (.bin .geq 40 (ae 3) (.const (.int .u64 4294967296)))]
 (.cond (ae 4) (aj [af 0 5 0,
 ao 1 6 (.bin .shr 40 (ae 5) (.const (.int .u64 32))),
 af 2 0 6]
 (.bH [aU 0 2 32])) .skip))
 (.seq (aj [af 0 7 0,
 ao 1 8 (.bin .geq 40 (ae 7) (.const (.int .u64 65536)))]
 (.cond (ae 8) (aj [af 0 9 0,
 ao 1 10 (.bin .shr 40 (ae 9) (.const (.int .u64 16))),
 af 2 0 10]
 (.bH [af 0 11 2,
 a6 1 12 .add 3 11 16,
 af 2 2 12])) .skip))
 (.seq (aj [af 0 13 0,
 ao 1 14 (.bin .geq 40 (ae 13) (.const (.int .u64 256)))]
 (.cond (ae 14) (aj [af 0 15 0,
 ao 1 16 (.bin .shr 40 (ae 15) (.const (.int .u64 8))),
 af 2 0 16]
 (.bH [af 0 17 2,
 a6 1 18 .add 3 17 8,
 af 2 2 18])) .skip))
 (aj [af 0 19 2,
 af 1 20 0,
 ao 2 21 (.ds .u8 (ae 20)),
 ao 3 22 (.uk (.const (.string ⟨#[0,1,2,2,3,3,3,3,4,4,4,4,4,4,4,4,5,5,5,5,5,5,5,5,5,5,5,5,5,5,5,5,6,6,6,6,6,6,6,6,6,6,6,6,6,6,6,6,6,6,6,6,6,6,6,6,6,6,6,6,6,6,6,6,7,7,7,7,7,7,7,7,7,7,7,7,7,7,7,7,7,7,7,7,7,7,7,7,7,7,7,7,7,7,7,7,7,7,7,7,7,7,7,7,7,7,7,7,7,7,7,7,7,7,7,7,7,7,7,7,7,7,7,7,7,7,7,7,8,8,8,8,8,8,8,8,8,8,8,8,8,8,8,8,8,8,8,8,8,8,8,8,8,8,8,8,8,8,8,8,8,8,8,8,8,8,8,8,8,8,8,8,8,8,8,8,8,8,8,8,8,8,8,8,8,8,8,8,8,8,8,8,8,8,8,8,8,8,8,8,8,8,8,8,8,8,8,8,8,8,8,8,8,8,8,8,8,8,8,8,8,8,8,8,8,8,8,8,8,8,8,8,8,8,8,8,8,8,8,8,8,8,8,8,8,8,8,8,8,8,8,8,8,8,8,8]⟩)) (ae 21)),
 ao 4 23 (.ds .i64 (ae 22)),
 bq 5 24 .add 3 19 23,
 af 6 2 24]
 .ret)))))
def ZN:List bf:=[.aO (ae 2)]
theorem agd:bx Tryz.prog 189=some PU:=by kernel_rfl
theorem aqT:bz Tryz.prog 189=some ZN:=by kernel_rfl
def PW:aT:=(aj [cD 0 2 false]
 (aj [af 0 3 0,
 af 1 4 0,
 bq 2 5 .neq 9 3 4,
 af 3 2 5]
 .ret))
def ZO:List bf:=[.aO (ae 2)]
theorem agf:bx Tryz.prog 190=some PW:=by kernel_rfl
theorem aqV:bz Tryz.prog 190=some ZO:=by kernel_rfl
def PX:aT:=(aj [aU 0 4 0]
 (aj [af 0 7 0,
 sc 1 8 234 [(ae 7)],
 af 2 5 8]
 (aj [af 0 9 1,
 sc 1 10 234 [(ae 9)],
 af 2 6 10]
 (.seq (aj [af 0 11 5]
 (.cond (ae 11) (.seq (aj [af 0 12 6]
 (.cond (ae 12) (aj [aU 0 4 0]
 .ret) .skip))
 (aj [aU 0 4 (-1)]
 .ret)) .skip))
 (.seq (aj [af 0 13 6]
 (.cond (ae 13) (aj [aU 0 4 1]
 .ret) .skip))
 (.seq (aj [af 0 14 0,
 af 1 15 1,
 bq 2 16 .lss 40 14 15]
 (.cond (ae 16) (aj [aU 0 4 (-1)]
 .ret) .skip))
 (.seq (aj [af 0 17 0,
 af 1 18 1,
 bq 2 19 .gtr 40 17 18]
 (.cond (ae 19) (aj [aU 0 4 1]
 .ret) .skip))
 (aj [aU 0 4 0]
 .ret))))))))
def ZP:List bf:=[.aO (ae 4)]
theorem agh:bx Tryz.prog 193=some PX:=by kernel_rfl
theorem aqW:bz Tryz.prog 193=some ZP:=by kernel_rfl
def Lt:aT:=(aj [bq 0 12 .lss 3 11 10]
 (.seq (.cond (ae 12) .skip (.exit 0))
 (.seq (.block 1 (aj [b0 0 13 1 9 11,
 aX 1 14 13,
 af 2 5 14]
 (aj [af 0 15 3,
 af 1 16 5,
 b1 2 17 1 16,
 bq 3 18 .add 3 15 17,
 af 4 3 18]
 (aj [af 0 19 3,
 a6 1 20 .lss 3 19 0]
 (.cond (ae 20) (.bH [ao 0 21 (.yk 9 (.const (.string ⟨#[108,101,110,32,111,117,116,32,111,102,32,114,97,110,103,101]⟩))),
 rG 1 (.stop)]) .skip)))))
 (.bH [a6 0 22 .add 3 11 1,
 af 1 11 22]))))
def Lu:aT:=(aj [bq 0 28 .lss 3 27 26]
 (.seq (.cond (ae 28) .skip (.exit 2))
 (.seq (.block 3 (aj [b0 0 29 1 25 27,
 aX 1 30 29,
 af 2 8 30]
 (.bH [af 0 31 6,
 af 1 32 8,
 ao 2 33 (.app 1 1 (ae 31) (ae 32)),
 af 3 6 33])))
 (.bH [a6 0 34 .add 3 27 1,
 af 1 27 34]))))
def Ip:aT:=(aj [ao 0 2 (.aO (.const (.slice none 0 0)))]
 (aj [aU 0 3 0]
 (.seq (aj [af 0 9 0,
 b1 1 10 1 9,
 aU 2 11 0]
 (.block 0 (.loop Lt)))
 (aj [af 0 23 3,
 sc 1 24 235 [(.const (.slice none 0 0)),(ae 23)],
 af 2 6 24]
 (.seq (aj [af 0 25 0,
 b1 1 26 1 25,
 aU 2 27 0]
 (.block 2 (.loop Lu)))
 (aj [af 0 35 6,
 af 1 2 35]
 .ret))))))
def Md:List bf:=[.aO (ae 2)]
theorem PY:bx Tryz.prog 194=some Ip:=by kernel_rfl
theorem ZQ:bz Tryz.prog 194=some Md:=by kernel_rfl
def Wv:aT:=(aj [bq 0 25 .lss 3 24 23]
 (.seq (.cond (ae 25) .skip (.exit 0))
 (.seq (.block 1 (aj [af 0 26 24,
 af 1 5 26]
 (.bH [af 0 27 4,
 af 1 28 3,
 af 2 29 5,
 bq 3 30 .sub 3 28 29,
 af 4 31 0,
 af 5 32 5,
 ao 6 33 (.bin .mul 3 (.const (.int .i64 8)) (ae 32)),
 bq 7 34 .shr 40 31 33,
 ao 8 35 (.ds .u8 (ae 34)),
 b0 9 36 1 27 30,
 bG 10 1 36 35])))
 (.bH [a6 0 37 .add 3 24 1,
 af 1 24 37]))))
def PZ:aT:=(aj [ao 0 2 (.aO (.const (.slice none 0 0)))]
 (.seq (aj [af 0 6 0,
 ao 1 7 (.bin .leq 40 (ae 6) (.const (.int .u64 247)))]
 (.cond (ae 7) (aj [af 0 8 0,
 ao 1 9 (.ds .u8 (ae 8)),
 ao 2 10 (.dh 1 [.int .u8 0] 1 [(0,(ae 9))]),
 af 3 2 10]
 .ret) .skip))
 (aj [af 0 11 0,
 sc 1 12 189 [(ae 11)],
 a6 2 13 .add 3 12 7,
 a6 3 14 .quo 3 13 8,
 af 4 3 14]
 (aj [af 0 15 3,
 a6 1 16 .add 3 15 1,
 ao 2 17 (.pn 1 1 [.int .u8 0] (ae 16) (ae 16)),
 af 3 4 17]
 (aj [af 0 18 4,
 af 1 19 3,
 ao 2 20 (.bin .add 3 (.const (.int .i64 247)) (ae 19)),
 ao 3 21 (.ds .u8 (ae 20)),
 ao 4 22 (.ff (.av 1) (ae 18) (.const (.int .i64 0))),
 bG 5 1 22 21]
 (.seq (aj [af 0 23 3,
 aU 1 24 0]
 (.block 0 (.loop Wv)))
 (aj [af 0 38 4,
 af 1 2 38]
 .ret)))))))
def ZR:List bf:=[.aO (ae 2)]
theorem agi:bx Tryz.prog 195=some PZ:=by kernel_rfl
theorem aqX:bz Tryz.prog 195=some ZR:=by kernel_rfl
def Ww:aT:=(aj [bq 0 19 .lss 3 18 17]
 (.seq (.cond (ae 19) .skip (.exit 0))
 (.seq (.block 1 (aj [b0 0 20 1 16 18,
 aX 1 21 20,
 af 2 6 21]
 (.bH [bi 0 22 10 4,
 af 1 23 6,
 sc 2 24 239 [(ae 22),(ae 23)],
 bG 3 10 4 24])))
 (.bH [a6 0 25 .add 3 18 1,
 af 1 18 25]))))
def P0:aT:=(aj [ao 0 2 (.alloc (rep 32 (.int .u8 0))),
 aU 1 3 0]
 (.seq (aj [af 0 7 0,
 b1 1 8 1 7,
 a6 2 9 .gtr 3 8 20,
 af 3 10 9,
 dr 4 11 10 false 0,
 ⟨5,(some 12),(some ((some 10),false)),.cO 236 [(ae 11),(.func 237)],[],false⟩,
 e5 6 13 10 12]
 (.cond (ae 13) (aj [ao 0 14 (.dp (rep 32 (.int .u8 0)) []),
 bG 1 32 2 14,
 aU 2 3 4]
 .ret) .skip))
 (aj [sc 0 15 238 [],
 ao 1 4 (.alloc [.int .u32 0,.int .u32 0,.int .u32 0,.int .u32 0,.int .u32 0,.int .u32 0,.int .u32 0,.int .u32 0,.aK,.int .i64 0]),
 bG 2 10 4 15]
 (.seq (aj [af 0 16 0,
 b1 1 17 1 16,
 aU 2 18 0]
 (.block 0 (.loop Ww)))
 (aj [bi 0 26 10 4,
 sc 1 27 240 [(ae 26)],
 bG 2 32 2 27,
 aU 3 3 0]
 .ret)))))
def ZS:List bf:=[.eg 32 (ae 2),.aO (ae 3)]
theorem agj:bx Tryz.prog 196=some P0:=by kernel_rfl
theorem aqY:bz Tryz.prog 196=some ZS:=by kernel_rfl
def Wx:aT:=(.seq (aj [af 0 9 5,
 a6 1 10 .gtr 3 9 0]
 (.cond (ae 10) .skip (.exit 0)))
 (.seq (.block 1 (aj [af 0 13 1,
 af 1 14 0,
 af 2 15 5,
 b0 3 16 32 14 15,
 bi 4 17 32 16,
 af 5 18 0,
 af 6 19 5,
 a6 7 20 .sub 3 19 1,
 b0 8 21 32 18 20,
 bi 9 22 32 21,
 ⟨10,(some 23),none,.ig (ae 13) [(ae 17),(ae 22)],[],false⟩,
 a6 11 24 .lss 3 23 0]
 (.cond (ae 24) (aj [cD 0 4 false]
 .ret) .skip)))
 (.bH [af 0 11 5,
 a6 1 12 .sub 3 11 1,
 af 2 5 12])))
def P1:aT:=(aj [cD 0 4 false]
 (.seq (aj [af 0 6 0,
 b1 1 7 32 6,
 a6 2 8 .sub 3 7 1,
 af 3 5 8]
 (.block 0 (.loop Wx)))
 (aj [cD 0 4 true]
 .ret)))
def ZT:List bf:=[.aO (ae 4)]
theorem agk:bx Tryz.prog 197=some P1:=by kernel_rfl
theorem aqZ:bz Tryz.prog 197=some ZT:=by kernel_rfl
def Wy:aT:=(.seq (aj [af 0 29 5,
 af 1 30 4,
 b1 2 31 32 30,
 bq 3 32 .lss 3 29 31]
 (.cond (ae 32) .skip (.exit 2)))
 (.seq (.block 3 (aj [af 0 35 4,
 af 1 36 5,
 b0 2 37 32 35 36,
 bi 3 38 32 37,
 af 4 39 4,
 af 5 40 5,
 a6 6 41 .sub 3 40 1,
 b0 7 42 32 39 41,
 bi 8 43 32 42,
 bq 9 44 .neq 48 38 43]
 (.cond (ae 44) (aj [af 0 45 0,
 af 1 46 3,
 af 2 47 4,
 af 3 48 5,
 b0 4 49 32 47 48,
 bi 5 50 32 49,
 b0 6 51 32 45 46,
 bG 7 32 51 50]
 (.bH [af 0 52 3,
 a6 1 53 .add 3 52 1,
 af 2 3 53])) .skip)))
 (.bH [af 0 33 5,
 a6 1 34 .add 3 33 1,
 af 2 5 34])))
def Wz:aT:=(.seq (aj [af 0 10 3,
 af 1 11 0,
 b1 2 12 32 11,
 bq 3 13 .lss 3 10 12]
 (.cond (ae 13) .skip (.exit 0)))
 (.seq (.block 1 (aj [af 0 16 0,
 af 1 17 3,
 b0 2 18 32 16 17,
 bi 3 19 32 18,
 af 4 20 0,
 af 5 21 3,
 a6 6 22 .sub 3 21 1,
 b0 7 23 32 20 22,
 bi 8 24 32 23,
 bq 9 25 .eql 48 19 24]
 (.cond (ae 25) (aj [af 0 26 0,
 af 1 27 3,
 ao 2 28 (.slice (.av 32) (ae 26) (some (ae 27)) none none),
 af 3 4 28]
 (.seq (aj [aU 0 5 1]
 (.block 2 (.loop Wy)))
 (aj [af 0 54 0,
 af 1 55 3,
 ao 2 56 (.slice (.av 32) (ae 54) (some (ae 55)) none none),
 rG 3 (.tv (rep 32 (.int .u8 0)) (ae 56))]
 (aj [af 0 57 0,
 af 1 58 3,
 ao 2 59 (.slice (.av 32) (ae 57) none (some (ae 58)) none),
 af 3 2 59]
 .ret)))) .skip)))
 (.bH [af 0 14 3,
 a6 1 15 .add 3 14 1,
 af 2 3 15])))
def P2:aT:=(aj [ao 0 2 (.aO (.const (.slice none 0 0)))]
 (.seq (aj [af 0 6 0,
 b1 1 7 32 6,
 a6 2 8 .lss 3 7 2]
 (.cond (ae 8) (aj [af 0 9 0,
 af 1 2 9]
 .ret) .skip))
 (.seq (aj [aU 0 3 1]
 (.block 0 (.loop Wz)))
 (aj [af 0 60 0,
 af 1 2 60]
 .ret))))
def ZU:List bf:=[.aO (ae 2)]
theorem agl:bx Tryz.prog 198=some P2:=by kernel_rfl
theorem aq0:bz Tryz.prog 198=some ZU:=by kernel_rfl
def P3:aT:=(aj [cD 0 2 false]
 (aj [af 0 3 0,
 ao 1 4 (.bin .gtr 76 (ae 3) (.const (.int .u32 0))),
 af 2 5 4,
 dr 3 6 5 true 0,
 dV 4 7 5 true (.bin .lss 76 (ae 6) (.const (.int .u32 1000000007))),
 e6 5 8 5 7,
 af 6 9 8,
 dr 7 10 9 true 0,
 ⟨8,(some 11),(some ((some 9),true)),.cO 241 [(ae 10),(.const (.int .u64 500000003))],[],false⟩,
 dV 9 12 9 true (.bin .eql 76 (ae 11) (.const (.int .u32 1))),
 e6 10 13 9 12,
 af 11 2 13]
 .ret))
def ZV:List bf:=[.aO (ae 2)]
theorem agm:bx Tryz.prog 199=some P3:=by kernel_rfl
theorem aq1:bz Tryz.prog 199=some ZV:=by kernel_rfl
def WB:aT:=(aj [bq 0 20 .lss 3 19 18]
 (.seq (.cond (ae 20) .skip (.exit 0))
 (.seq (.block 1 (aj [b0 0 21 32 17 19,
 bi 1 22 32 21,
 ao 2 6 (.alloc (rep 32 (.int .u8 0))),
 bG 3 32 6 22]
 (.bH [af 0 23 4,
 ao 1 24 (.slice (.arr 32 1) (ae 6) none none none),
 ao 2 25 (.app 1 1 (ae 23) (ae 24)),
 af 3 4 25])))
 (.bH [a6 0 26 .add 3 19 1,
 af 1 19 26]))))
def P5:aT:=(aj [ao 0 2 (.aO (.const (.slice none 0 0))),
 aU 1 3 0]
 (.seq (aj [af 0 7 0,
 b1 1 8 32 7,
 a6 2 9 .gtr 3 8 60]
 (.cond (ae 9) (aj [ao 0 2 (.aO (.const (.slice none 0 0))),
 aU 1 3 4]
 .ret) .skip))
 (.seq (aj [af 0 10 0,
 sc 1 11 242 [(ae 10)],
 ao 2 12 (.un .not (ae 11))]
 (.cond (ae 12) (aj [ao 0 2 (.aO (.const (.slice none 0 0))),
 aU 1 3 32]
 .ret) .skip))
 (aj [af 0 13 0,
 b1 1 14 32 13,
 ao 2 15 (.ds .u64 (ae 14)),
 sc 3 16 195 [(ae 15)],
 af 4 4 16]
 (.seq (aj [af 0 17 0,
 b1 1 18 32 17,
 aU 2 19 0]
 (.block 0 (.loop WB)))
 (aj [af 0 27 4,
 af 1 2 27,
 aU 2 3 0]
 .ret))))))
def ZX:List bf:=[.aO (ae 2),.aO (ae 3)]
theorem ago:bx Tryz.prog 200=some P5:=by kernel_rfl
theorem aq3:bz Tryz.prog 200=some ZX:=by kernel_rfl
def P6:aT:=(aj [ao 0 2 (.aO (.const (.slice none 0 0))),
 aU 1 3 0]
 (.seq (aj [af 0 4 0,
 b1 1 5 1 4,
 a6 2 6 .gtr 3 5 10000]
 (.cond (ae 6) (aj [ao 0 2 (.aO (.const (.slice none 0 0))),
 aU 1 3 4]
 .ret) .skip))
 (aj [af 0 7 0,
 b1 1 8 1 7,
 ao 2 9 (.ds .u64 (ae 8)),
 sc 3 10 195 [(ae 9)],
 af 4 11 0,
 ao 5 12 (.app 1 1 (ae 10) (ae 11)),
 af 6 2 12,
 aU 7 3 0]
 .ret)))
def ZY:List bf:=[.aO (ae 2),.aO (ae 3)]
theorem agp:bx Tryz.prog 201=some P6:=by kernel_rfl
theorem aq4:bz Tryz.prog 201=some ZY:=by kernel_rfl
def WC:aT:=(.seq (aj [af 0 28 6,
 a6 1 29 .geq 3 28 0]
 (.cond (ae 29) .skip (.exit 1)))
 (.seq (.block 2 (.bH [af 0 32 5,
 aV 1 33 2 1,
 aX 2 34 33,
 af 3 35 6,
 bq 4 36 .shr 40 34 35,
 ao 5 37 (.ds .u8 (ae 36)),
 ao 6 38 (.dh 1 [.int .u8 0] 1 [(0,(ae 37))]),
 ao 7 39 (.app 1 1 (ae 32) (ae 38)),
 af 8 5 39]))
 (.bH [af 0 30 6,
 a6 1 31 .sub 3 30 8,
 af 2 6 31])))
def P7:aT:=(aj [ao 0 1 (.box (ae 0)),
 ao 1 2 (.aO (.const (.slice none 0 0))),
 aU 2 3 0]
 (.seq (aj [bi 0 9 4 1,
 sc 1 10 105 [(ae 9)],
 af 2 4 10]
 (aj [af 0 11 4,
 a6 1 12 .neq 37 11 0]
 (.cond (ae 12) (aj [af 0 13 4,
 ao 1 2 (.aO (.const (.slice none 0 0))),
 af 2 3 13]
 .ret) .skip)))
 (aj [aV 0 14 0 1,
 aX 1 15 14,
 ao 2 16 (.dh 1 [.int .u8 0] 1 [(0,(ae 15))]),
 af 3 5 16]
 (.seq (aj [aV 0 17 0 1,
 aX 1 18 17]
 (.block 0 (aj [ao 0 20 (.bin .eql 5 (ae 18) (.const (.int .u8 1))),
 af 1 19 20]
 (.cond (ae 19) (.bH [af 0 21 5,
 aV 1 22 1 1,
 aX 2 23 22,
 sc 3 24 243 [(ae 23)],
 ao 4 25 (.app 1 1 (ae 21) (ae 24)),
 af 5 5 25]) (aj [ao 0 27 (.bin .eql 5 (ae 18) (.const (.int .u8 2))),
 af 1 26 27]
 (.cond (ae 26) (aj [aU 0 6 56]
 (.block 1 (.loop WC))) (aj [ao 0 41 (.bin .eql 5 (ae 18) (.const (.int .u8 3))),
 af 1 40 41]
 (.cond (ae 40) (aj [aV 0 43 3 1,
 aX 1 44 43,
 ao 2 45 (.tw (ae 44)),
 sc 3 46 201 [(ae 45)],
 af 4 42 46,
 cN 5 47 42 0,
 cN 6 48 42 1,
 af 7 7 47,
 af 8 8 48]
 (.bH [af 0 49 5,
 af 1 50 7,
 ao 2 51 (.app 1 1 (ae 49) (ae 50)),
 af 3 5 51])) .skip))))))))
 (aj [af 0 52 5,
 af 1 2 52,
 aU 2 3 0]
 .ret)))))
def ZZ:List bf:=[.aO (ae 2),.aO (ae 3)]
theorem agq:bx Tryz.prog 202=some P7:=by kernel_rfl
theorem aq5:bz Tryz.prog 202=some ZZ:=by kernel_rfl
def P8:aT:=(aj [ao 0 4 (.aO (.const (.int .u32 0))),
 aU 1 5 0]
 (.seq (aj [af 0 6 0,
 ao 1 7 (.dh 1 [.int .u32 0] 1 [(0,(ae 6))]),
 sc 2 8 244 [(ae 7)],
 ao 3 9 (.un .not (ae 8))]
 (.cond (ae 9) (aj [ao 0 4 (.aO (.const (.int .u32 0))),
 aU 1 5 2]
 .ret) .skip))
 (aj [af 0 10 0,
 af 1 11 1,
 sc 2 12 241 [(ae 10),(ae 11)],
 af 3 4 12,
 aU 4 5 0]
 .ret)))
def Z0:List bf:=[.aO (ae 4),.aO (ae 5)]
theorem agr:bx Tryz.prog 203=some P8:=by kernel_rfl
theorem aq6:bz Tryz.prog 203=some Z0:=by kernel_rfl
def P9:aT:=(aj [ao 0 4 (.aO (.const (.int .u32 0))),
 aU 1 5 0]
 (.seq (aj [af 0 6 0,
 af 1 7 1,
 ao 2 8 (.dh 1 [.int .u32 0] 2 [(0,(ae 6)),(1,(ae 7))]),
 sc 3 9 244 [(ae 8)],
 ao 4 10 (.un .not (ae 9))]
 (.cond (ae 10) (aj [ao 0 4 (.aO (.const (.int .u32 0))),
 aU 1 5 2]
 .ret) .skip))
 (aj [af 0 11 0,
 af 1 12 1,
 ao 2 13 (.dh 1 [.int .u32 0] 2 [(0,(ae 11)),(1,(ae 12))]),
 sc 3 14 245 [(.const (.int .u64 1000000007)),(ae 13)],
 af 4 4 14,
 aU 5 5 0]
 .ret)))
def Z1:List bf:=[.aO (ae 4),.aO (ae 5)]
theorem ags:bx Tryz.prog 204=some P9:=by kernel_rfl
theorem aq7:bz Tryz.prog 204=some Z1:=by kernel_rfl
def Qa:aT:=(aj [ao 0 2 (.aO (.const (.int .u32 0)))]
 (aj [af 0 3 0,
 sc 1 4 241 [(.const (.int .u32 4)),(ae 3)],
 af 2 2 4]
 .ret))
def Z2:List bf:=[.aO (ae 2)]
theorem agt:bx Tryz.prog 205=some Qa:=by kernel_rfl
theorem aq8:bz Tryz.prog 205=some Z2:=by kernel_rfl
def Qb:aT:=(aj [ao 0 6 (.aO (.const (.int .u32 0))),
 aU 1 7 0]
 (aj [af 0 11 2,
 af 1 12 0,
 af 2 13 1,
 ao 3 14 (.dh 1 [.int .u32 0] 2 [(0,(ae 12)),(1,(ae 13))]),
 sc 4 15 246 [(.const (.int .u8 99)),(ae 11),(ae 14)],
 af 5 10 15,
 cN 6 16 10 0,
 cN 7 17 10 1,
 af 8 8 16,
 af 9 9 17]
 (.seq (aj [af 0 18 9,
 a6 1 19 .neq 37 18 0]
 (.cond (ae 19) (aj [af 0 20 9,
 ao 1 6 (.aO (.const (.int .u32 0))),
 af 2 7 20]
 .ret) .skip))
 (aj [af 0 21 8,
 ao 1 22 (.bin .rem 40 (ae 21) (.const (.int .u64 500000003))),
 ao 2 23 (.ds .u32 (ae 22)),
 af 3 6 23,
 aU 4 7 0]
 .ret))))
def Z3:List bf:=[.aO (ae 6),.aO (ae 7)]
theorem agu:bx Tryz.prog 206=some Qb:=by kernel_rfl
theorem aq9:bz Tryz.prog 206=some Z3:=by kernel_rfl
def WD:aT:=(aj [bq 0 9 .lss 3 8 7]
 (.seq (.cond (ae 9) .skip (.exit 0))
 (.seq (.block 1 (aj [af 0 10 8,
 af 1 5 10]
 (aj [af 0 11 1,
 af 1 12 0,
 af 2 13 5,
 b0 3 14 33 12 13,
 bi 4 15 33 14,
 ⟨5,(some 16),none,.ig (ae 11) [(ae 15)],[],false⟩]
 (.cond (ae 16) (aj [af 0 17 5,
 af 1 4 17]
 .ret) .skip))))
 (.bH [a6 0 18 .add 3 8 1,
 af 1 8 18]))))
def Qc:aT:=(aj [aU 0 4 0]
 (.seq (aj [af 0 6 0,
 b1 1 7 33 6,
 aU 2 8 0]
 (.block 0 (.loop WD)))
 (aj [aU 0 4 (-1)]
 .ret)))
def Z4:List bf:=[.aO (ae 4)]
theorem agv:bx Tryz.prog 209=some Qc:=by kernel_rfl
theorem ara:bz Tryz.prog 209=some Z4:=by kernel_rfl
def Qe:aT:=(aj [aU 0 4 0]
 (aj [af 0 5 0,
 af 1 6 1,
 sc 2 7 251 [(ae 5),(ae 6),(.const (.bool true))],
 af 3 4 7]
 .ret))
def Z6:List bf:=[.aO (ae 4)]
theorem agx:bx Tryz.prog 218=some Qe:=by kernel_rfl
theorem arc:bz Tryz.prog 218=some Z6:=by kernel_rfl
def Qf:aT:=(aj [cD 0 2 false]
 (aj [af 0 3 0,
 ao 1 4 (.bin .lss 21 (ae 3) (.const (.int .i32 33))),
 af 2 5 4,
 dr 3 6 5 false 0,
 dV 4 7 5 false (.bin .gtr 21 (ae 6) (.const (.int .i32 126))),
 e5 5 8 5 7,
 af 6 2 8]
 .ret))
def Z7:List bf:=[.aO (ae 2)]
theorem agy:bx Tryz.prog 219=some Qf:=by kernel_rfl
theorem ard:bz Tryz.prog 219=some Z7:=by kernel_rfl
def Qh:aT:=(aj [ao 0 2 (.aO (.const (.int .u64 0)))]
 (.seq (aj [af 0 3 0,
 sc 1 4 252 [(ae 3)],
 ao 2 5 (.bin .eql 5 (ae 4) (.const (.int .u8 5)))]
 (.cond (ae 5) (aj [ao 0 2 (.aO (.const (.int .u64 9221120237041090560)))]
 .ret) .skip))
 (aj [af 0 6 0,
 af 1 2 6]
 .ret)))
def Z9:List bf:=[.aO (ae 2)]
theorem agA:bx Tryz.prog 220=some Qh:=by kernel_rfl
theorem arh:bz Tryz.prog 220=some Z9:=by kernel_rfl
def Qi:aT:=(aj [cD 0 2 false]
 (aj [af 0 3 0,
 ao 1 4 (.bin .lss 21 (ae 3) (.const (.int .i32 32))),
 af 2 5 4,
 dr 3 6 5 false 0,
 dV 4 7 5 false (.bin .gtr 21 (ae 6) (.const (.int .i32 126))),
 e5 5 8 5 7,
 af 6 2 8]
 .ret))
def aac:List bf:=[.aO (ae 2)]
theorem agB:bx Tryz.prog 221=some Qi:=by kernel_rfl
theorem ari:bz Tryz.prog 221=some aac:=by kernel_rfl
def Qj:aT:=(aj [ao 0 2 (.aO (.const (.int .u8 0)))]
 (aj [af 0 5 0,
 sc 1 6 253 [(ae 5)],
 af 2 7 0,
 sc 3 8 254 [(ae 7)],
 af 4 3 6,
 af 5 4 8]
 (.seq (aj [af 0 9 3,
 a6 1 10 .eql 3 9 0,
 af 2 11 10,
 dr 3 12 11 true 4,
 dV 4 13 11 true (.bin .eql 40 (ae 12) (.const (.int .u64 0))),
 e6 5 14 11 13]
 (.cond (ae 14) (aj [ao 0 2 (.aO (.const (.int .u8 1)))]
 .ret) .skip))
 (.seq (aj [af 0 15 3,
 a6 1 16 .eql 3 15 0]
 (.cond (ae 16) (aj [ao 0 2 (.aO (.const (.int .u8 2)))]
 .ret) .skip))
 (.seq (aj [af 0 17 3,
 a6 1 18 .lss 3 17 2047]
 (.cond (ae 18) (aj [ao 0 2 (.aO (.const (.int .u8 3)))]
 .ret) .skip))
 (.seq (aj [af 0 19 4,
 ao 1 20 (.bin .eql 40 (ae 19) (.const (.int .u64 0)))]
 (.cond (ae 20) (aj [ao 0 2 (.aO (.const (.int .u8 4)))]
 .ret) .skip))
 (aj [ao 0 2 (.aO (.const (.int .u8 5)))]
 .ret)))))))
def aad:List bf:=[.aO (ae 2)]
theorem agC:bx Tryz.prog 222=some Qj:=by kernel_rfl
theorem arj:bz Tryz.prog 222=some aad:=by kernel_rfl
def Qk:aT:=(aj [ao 0 2 (.aO (.const (.slice none 0 0)))]
 (aj [af 0 3 0,
 ao 1 4 (.bin .quo 76 (ae 3) (.const (.int .u32 16777216))),
 ao 2 5 (.ds .u8 (ae 4)),
 af 3 6 0,
 ao 4 7 (.bin .quo 76 (ae 6) (.const (.int .u32 65536))),
 ao 5 8 (.bin .rem 76 (ae 7) (.const (.int .u32 256))),
 ao 6 9 (.ds .u8 (ae 8)),
 af 7 10 0,
 ao 8 11 (.bin .quo 76 (ae 10) (.const (.int .u32 256))),
 ao 9 12 (.bin .rem 76 (ae 11) (.const (.int .u32 256))),
 ao 10 13 (.ds .u8 (ae 12)),
 af 11 14 0,
 ao 12 15 (.bin .rem 76 (ae 14) (.const (.int .u32 256))),
 ao 13 16 (.ds .u8 (ae 15)),
 ao 14 17 (.dh 1 [.int .u8 0] 4 [(0,(ae 5)),(1,(ae 9)),(2,(ae 13)),(3,(ae 16))]),
 af 15 2 17]
 .ret))
def aae:List bf:=[.aO (ae 2)]
theorem agD:bx Tryz.prog 223=some Qk:=by kernel_rfl
theorem ark:bz Tryz.prog 223=some aae:=by kernel_rfl
def WE:aT:=(.seq (aj [af 0 8 5,
 a6 1 9 .lss 3 8 8]
 (.cond (ae 9) .skip (.exit 0)))
 (.seq (.block 1 (.bH [af 0 12 4,
 ao 1 13 (.bin .mul 40 (.const (.int .u64 256)) (ae 12)),
 af 2 14 5,
 ao 3 15 (.ff (.arr 32 1) (ae 3) (ae 14)),
 aX 4 16 15,
 ao 5 17 (.ds .u64 (ae 16)),
 bq 6 18 .add 40 13 17,
 af 7 4 18]))
 (.bH [af 0 10 5,
 a6 1 11 .add 3 10 1,
 af 2 5 11])))
def Ql:aT:=(aj [ao 0 2 (.aO (.const (.int .u64 0)))]
 (aj [af 0 6 0,
 sc 1 7 77 [(ae 6)],
 ao 2 3 (.alloc (rep 32 (.int .u8 0))),
 bG 3 32 3 7]
 (aj [ao 0 4 (.aO (.const (.int .u64 0)))]
 (.seq (aj [aU 0 5 0]
 (.block 0 (.loop WE)))
 (aj [af 0 19 4,
 af 1 2 19]
 .ret)))))
def aaf:List bf:=[.aO (ae 2)]
theorem agE:bx Tryz.prog 224=some Ql:=by kernel_rfl
theorem arl:bz Tryz.prog 224=some aaf:=by kernel_rfl
def Qm:aT:=(aj [ao 0 2 (.aO (.const (.slice none 0 0)))]
 (.seq (aj [af 0 3 0,
 a6 1 4 .geq 2 3 0]
 (.cond (ae 4) (aj [af 0 5 0,
 ao 1 6 (.ds .u64 (ae 5)),
 ao 2 7 (.bin .mul 40 (.const (.int .u64 2)) (ae 6)),
 sc 3 8 127 [(ae 7)],
 af 4 2 8]
 .ret) .skip))
 (aj [af 0 9 0,
 a6 1 10 .add 2 9 1,
 ao 2 11 (.un .neg (ae 10)),
 ao 3 12 (.ds .u64 (ae 11)),
 ao 4 13 (.bin .mul 40 (.const (.int .u64 2)) (ae 12)),
 ao 5 14 (.bin .add 40 (ae 13) (.const (.int .u64 1))),
 sc 6 15 127 [(ae 14)],
 af 7 2 15]
 .ret)))
def aag:List bf:=[.aO (ae 2)]
theorem agF:bx Tryz.prog 225=some Qm:=by kernel_rfl
theorem arm:bz Tryz.prog 225=some aag:=by kernel_rfl
def Qn:aT:=(aj [ao 0 4 (.aO (.const (.int .u32 0)))]
 (aj [af 0 5 0,
 af 1 6 1,
 bq 2 7 .shr 76 5 6,
 af 3 8 0,
 af 4 9 1,
 ao 5 10 (.bin .sub 3 (.const (.int .i64 32)) (ae 9)),
 bq 6 11 .shl 76 8 10,
 bq 7 12 .or 76 7 11,
 af 8 4 12]
 .ret))
def aah:List bf:=[.aO (ae 4)]
theorem agG:bx Tryz.prog 226=some Qn:=by kernel_rfl
theorem arn:bz Tryz.prog 226=some aah:=by kernel_rfl
def Qo:aT:=(aj [ao 0 0 (.aO (.const (.slice none 0 0)))]
 (aj [ao 0 1 (.dh 1 [.int .u32 0] 64 [(0,(.const (.int .u32 1116352408))),(1,(.const (.int .u32 1899447441))),(2,(.const (.int .u32 3049323471))),(3,(.const (.int .u32 3921009573))),(4,(.const (.int .u32 961987163))),(5,(.const (.int .u32 1508970993))),(6,(.const (.int .u32 2453635748))),(7,(.const (.int .u32 2870763221))),(8,(.const (.int .u32 3624381080))),(9,(.const (.int .u32 310598401))),(10,(.const (.int .u32 607225278))),(11,(.const (.int .u32 1426881987))),(12,(.const (.int .u32 1925078388))),(13,(.const (.int .u32 2162078206))),(14,(.const (.int .u32 2614888103))),(15,(.const (.int .u32 3248222580))),(16,(.const (.int .u32 3835390401))),(17,(.const (.int .u32 4022224774))),(18,(.const (.int .u32 264347078))),(19,(.const (.int .u32 604807628))),(20,(.const (.int .u32 770255983))),(21,(.const (.int .u32 1249150122))),(22,(.const (.int .u32 1555081692))),(23,(.const (.int .u32 1996064986))),(24,(.const (.int .u32 2554220882))),(25,(.const (.int .u32 2821834349))),(26,(.const (.int .u32 2952996808))),(27,(.const (.int .u32 3210313671))),(28,(.const (.int .u32 3336571891))),(29,(.const (.int .u32 3584528711))),(30,(.const (.int .u32 113926993))),(31,(.const (.int .u32 338241895))),(32,(.const (.int .u32 666307205))),(33,(.const (.int .u32 773529912))),(34,(.const (.int .u32 1294757372))),(35,(.const (.int .u32 1396182291))),(36,(.const (.int .u32 1695183700))),(37,(.const (.int .u32 1986661051))),(38,(.const (.int .u32 2177026350))),(39,(.const (.int .u32 2456956037))),(40,(.const (.int .u32 2730485921))),(41,(.const (.int .u32 2820302411))),(42,(.const (.int .u32 3259730800))),(43,(.const (.int .u32 3345764771))),(44,(.const (.int .u32 3516065817))),(45,(.const (.int .u32 3600352804))),(46,(.const (.int .u32 4094571909))),(47,(.const (.int .u32 275423344))),(48,(.const (.int .u32 430227734))),(49,(.const (.int .u32 506948616))),(50,(.const (.int .u32 659060556))),(51,(.const (.int .u32 883997877))),(52,(.const (.int .u32 958139571))),(53,(.const (.int .u32 1322822218))),(54,(.const (.int .u32 1537002063))),(55,(.const (.int .u32 1747873779))),(56,(.const (.int .u32 1955562222))),(57,(.const (.int .u32 2024104815))),(58,(.const (.int .u32 2227730452))),(59,(.const (.int .u32 2361852424))),(60,(.const (.int .u32 2428436474))),(61,(.const (.int .u32 2756734187))),(62,(.const (.int .u32 3204031479))),(63,(.const (.int .u32 3329325298)))]),
 af 1 0 1]
 .ret))
def aai:List bf:=[.aO (ae 0)]
theorem agH:bx Tryz.prog 227=some Qo:=by kernel_rfl
theorem aro:bz Tryz.prog 227=some aai:=by kernel_rfl
def Qq:aT:=(aj [cD 0 2 false]
 (aj [af 0 3 0,
 af 1 4 0,
 bq 2 5 .neq 40 3 4,
 af 3 2 5]
 .ret))
def aak:List bf:=[.aO (ae 2)]
theorem agJ:bx Tryz.prog 234=some Qq:=by kernel_rfl
theorem arq:bz Tryz.prog 234=some aak:=by kernel_rfl
def Ir:aT:=(aj [ao 0 4 (.aO (.const (.slice none 0 0)))]
 (.seq (aj [af 0 5 1,
 a6 1 6 .lss 3 5 0]
 (.cond (ae 6) (.bH [ao 0 7 (.yk 9 (.const (.string ⟨#[99,97,110,110,111,116,32,98,101,32,110,101,103,97,116,105,118,101]⟩))),
 rG 1 (.stop)]) .skip))
 (.seq (aj [af 0 8 1,
 af 1 9 0,
 ao 2 10 (.cap (.av 1) (ae 9)),
 af 3 11 0,
 b1 4 12 1 11,
 bq 5 13 .sub 3 10 12,
 bq 6 14 .sub 3 8 13,
 af 7 1 14]
 (aj [af 0 15 1,
 a6 1 16 .gtr 3 15 0]
 (.cond (ae 16) (.bH [af 0 17 0,
 af 1 18 0,
 ao 2 19 (.cap (.av 1) (ae 18)),
 ao 3 20 (.slice (.av 1) (ae 17) none (some (ae 19)) none),
 af 4 21 1,
 ao 5 22 (.u1 1 1 [.int .u8 0] (ae 20) (ae 21)),
 af 6 23 0,
 b1 7 24 1 23,
 ao 8 25 (.slice (.av 1) (ae 22) none (some (ae 24)) none),
 af 9 0 25]) .skip)))
 (aj [af 0 26 0,
 af 1 4 26]
 .ret))))
def Me:List bf:=[.aO (ae 4)]
theorem Qr:bx Tryz.prog 235=some Ir:=by kernel_rfl
theorem aal:bz Tryz.prog 235=some Me:=by kernel_rfl
def Qs:aT:=(aj [cD 0 4 false]
 (aj [af 0 5 0,
 af 1 6 1,
 sc 2 7 257 [(ae 5),(ae 6)],
 a6 3 8 .geq 3 7 0,
 af 4 4 8]
 .ret))
def aam:List bf:=[.aO (ae 4)]
theorem agK:bx Tryz.prog 236=some Qs:=by kernel_rfl
theorem ars:bz Tryz.prog 236=some aam:=by kernel_rfl
def Qt:aT:=(aj [cD 0 2 false]
 (aj [af 0 3 0,
 b1 1 4 1 3,
 a6 2 5 .gtr 3 4 10000,
 af 3 2 5]
 .ret))
def aan:List bf:=[.aO (ae 2)]
theorem agL:bx Tryz.prog 237=some Qt:=by kernel_rfl
theorem art:bz Tryz.prog 237=some aan:=by kernel_rfl
def Qu:aT:=(aj [ao 0 0 (.alloc [.int .u32 0,.int .u32 0,.int .u32 0,.int .u32 0,.int .u32 0,.int .u32 0,.int .u32 0,.int .u32 0,.aK,.int .i64 0])]
 (aj [ao 0 1 (.dp [.int .u32 0,.int .u32 0,.int .u32 0,.int .u32 0,.int .u32 0,.int .u32 0,.int .u32 0,.int .u32 0] [(0,1,(.const (.int .u32 1779033703))),(1,1,(.const (.int .u32 3144134277))),(2,1,(.const (.int .u32 1013904242))),(3,1,(.const (.int .u32 2773480762))),(4,1,(.const (.int .u32 1359893119))),(5,1,(.const (.int .u32 2600822924))),(6,1,(.const (.int .u32 528734635))),(7,1,(.const (.int .u32 1541459225)))]),
 ao 1 2 (.dp [.int .u32 0,.int .u32 0,.int .u32 0,.int .u32 0,.int .u32 0,.int .u32 0,.int .u32 0,.int .u32 0,.aK,.int .i64 0] [(0,8,(ae 1))]),
 bG 2 10 0 2]
 .ret))
def aao:List bf:=[.eg 10 (ae 0)]
theorem agM:bx Tryz.prog 238=some Qu:=by kernel_rfl
theorem aru:bz Tryz.prog 238=some aao:=by kernel_rfl
def WF:aT:=(.seq (aj [af 0 11 5,
 b1 1 12 1 11,
 a6 2 13 .geq 3 12 64]
 (.cond (ae 13) .skip (.exit 0)))
 (.block 1 (aj [aV 0 14 0 2,
 af 1 15 5,
 sc 2 16 258 [(ae 14),(ae 15)]]
 (.bH [af 0 17 5,
 ao 1 18 (.slice (.av 1) (ae 17) (some (.const (.int .i64 64))) none none),
 af 2 5 18]))))
def Qv:aT:=(aj [ao 0 2 (.box (ae 0)),
 ao 1 4 (.alloc [.int .u32 0,.int .u32 0,.int .u32 0,.int .u32 0,.int .u32 0,.int .u32 0,.int .u32 0,.int .u32 0,.aK,.int .i64 0])]
 (aj [aV 0 6 8 2,
 aX 1 7 6,
 af 2 8 1,
 ao 3 9 (.dh 1 [.aK] 2 [(0,(ae 7)),(1,(ae 8))]),
 sc 4 10 194 [(ae 9)],
 af 5 5 10]
 (.seq (.block 0 (.loop WF))
 (.seq (.hc [aV 0 19 9 2,
 ⟨1,(some 20),none,.cM (.ld1 (ae 19)),[],true⟩,
 af 2 21 1,
 b1 3 22 1 21,
 bq 4 23 .add 3 20 22,
 af 5 24 5,
 ⟨6,(some 25),none,.cO 259 [(ae 24)],[1],false⟩,
 aV 7 26 9 2,
 bG 8 1 26 23,
 aV 9 27 8 2,
 bG 10 1 27 25])
 (aj [bi 0 28 10 2,
 bG 1 10 4 28]
 .ret)))))
def aap:List bf:=[.eg 10 (ae 4)]
theorem agN:bx Tryz.prog 239=some Qv:=by kernel_rfl
theorem arv:bz Tryz.prog 239=some aap:=by kernel_rfl
def WG:aT:=(.seq (aj [af 0 19 5,
 a6 1 20 .geq 3 19 0]
 (.cond (ae 20) .skip (.exit 0)))
 (.seq (.block 1 (.bH [af 0 23 4,
 af 1 24 3,
 af 2 25 5,
 bq 3 26 .shr 40 24 25,
 ao 4 27 (.ds .u8 (ae 26)),
 ao 5 28 (.dh 1 [.int .u8 0] 1 [(0,(ae 27))]),
 ao 6 29 (.app 1 1 (ae 23) (ae 28)),
 af 7 4 29]))
 (.bH [af 0 21 5,
 a6 1 22 .sub 3 21 8,
 af 2 5 22])))
def WH:aT:=(aj [a6 0 35 .lss 3 34 8]
 (.seq (.cond (ae 35) .skip (.exit 2))
 (.seq (.block 3 (aj [af 0 36 34,
 ao 1 37 (.Ax 8 1 (ae 33) (ae 34)),
 af 2 6 36,
 af 3 7 37]
 (.bH [af 0 38 6,
 ao 1 39 (.bin .mul 3 (.const (.int .i64 4)) (ae 38)),
 af 2 40 6,
 ao 3 41 (.bin .mul 3 (.const (.int .i64 4)) (ae 40)),
 a6 4 42 .add 3 41 1,
 af 5 43 6,
 ao 6 44 (.bin .mul 3 (.const (.int .i64 4)) (ae 43)),
 a6 7 45 .add 3 44 2,
 af 8 46 6,
 ao 9 47 (.bin .mul 3 (.const (.int .i64 4)) (ae 46)),
 a6 10 48 .add 3 47 3,
 af 11 49 7,
 ao 12 50 (.bin .shr 76 (ae 49) (.const (.int .u64 24))),
 ao 13 51 (.ds .u8 (ae 50)),
 af 14 52 7,
 ao 15 53 (.bin .shr 76 (ae 52) (.const (.int .u64 16))),
 ao 16 54 (.ds .u8 (ae 53)),
 af 17 55 7,
 ao 18 56 (.bin .shr 76 (ae 55) (.const (.int .u64 8))),
 ao 19 57 (.ds .u8 (ae 56)),
 af 20 58 7,
 ao 21 59 (.ds .u8 (ae 58)),
 ao 22 60 (.ff (.arr 32 1) (ae 2) (ae 39)),
 bG 23 1 60 51,
 ao 24 61 (.ff (.arr 32 1) (ae 2) (ae 42)),
 bG 25 1 61 54,
 ao 26 62 (.ff (.arr 32 1) (ae 2) (ae 45)),
 bG 27 1 62 57,
 ao 28 63 (.ff (.arr 32 1) (ae 2) (ae 48)),
 bG 29 1 63 59])))
 (.bH [a6 0 64 .add 3 34 1,
 af 1 34 64]))))
def Qx:aT:=(aj [ao 0 1 (.box (ae 0)),
 ao 1 2 (.alloc (rep 32 (.int .u8 0)))]
 (aj [aV 0 8 9 1,
 aX 1 9 8,
 ao 2 10 (.ds .u64 (ae 9)),
 ao 3 11 (.bin .mul 40 (ae 10) (.const (.int .u64 8))),
 af 4 3 11]
 (aj [ao 0 12 (.dh 1 [.int .u8 0] 1 [(0,(.const (.int .u8 128)))]),
 aV 1 13 9 1,
 aX 2 14 13,
 a6 3 15 .rem 3 14 64,
 ao 4 16 (.bin .sub 3 (.const (.int .i64 119)) (ae 15)),
 a6 5 17 .rem 3 16 64,
 ao 6 18 (.u1 1 1 [.int .u8 0] (ae 12) (ae 17)),
 af 7 4 18]
 (.seq (aj [aU 0 5 56]
 (.block 0 (.loop WG)))
 (.seq (aj [bi 0 30 10 1,
 af 1 31 4,
 sc 2 32 239 [(ae 30),(ae 31)],
 ao 3 33 (.BQ 8 0 (ae 32)),
 aU 4 34 0]
 (.block 2 (.loop WH)))
 (aj [bi 0 65 32 2,
 bG 1 32 2 65]
 .ret))))))
def aaq:List bf:=[.eg 32 (ae 2)]
theorem agP:bx Tryz.prog 240=some Qx:=by kernel_rfl
theorem arx:bz Tryz.prog 240=some aaq:=by kernel_rfl
def WI:aT:=(aj [a6 0 10 .lss 3 9 64]
 (.seq (.cond (ae 10) .skip (.exit 0))
 (.seq (.block 1 (aj [af 0 11 9,
 af 1 7 11]
 (aj [af 0 12 6,
 ⟨1,(some 13),none,.ig (ae 12) [],[],false⟩]
 (aj [af 0 14 1,
 af 1 15 7,
 ao 2 16 (.bin .sub 3 (.const (.int .i64 63)) (ae 15)),
 bq 3 17 .shr 40 14 16,
 ao 4 18 (.bin .and 40 (ae 17) (.const (.int .u64 1))),
 ao 5 19 (.bin .eql 40 (ae 18) (.const (.int .u64 1)))]
 (.cond (ae 19) (.bH [aX 0 20 5,
 af 1 21 0,
 ao 2 22 (.dh 1 [.int .u32 0] 2 [(0,(ae 20)),(1,(ae 21))]),
 sc 3 23 245 [(.const (.int .u64 1000000007)),(ae 22)],
 bG 4 1 5 23]) .skip)))))
 (.bH [a6 0 24 .add 3 9 1,
 af 1 9 24]))))
def Qy:aT:=(aj [ao 0 4 (.aO (.const (.int .u32 0)))]
 (aj [ao 0 5 (.alloc [.int .u32 0]),
 rG 1 (.st 1 (ae 5) (.const (.int .u32 1)))]
 (aj [ao 0 8 (.sT 260 [] [(ae 5)]),
 af 1 6 8]
 (.seq (aj [aU 0 9 0]
 (.block 0 (.loop WI)))
 (aj [aX 0 25 5,
 af 1 4 25]
 .ret)))))
def aar:List bf:=[.aO (ae 4)]
theorem agQ:bx Tryz.prog 241=some Qy:=by kernel_rfl
theorem ary:bz Tryz.prog 241=some aar:=by kernel_rfl
def Qz:aT:=(aj [ao 0 1 (.box (ae 0)),
 cD 1 2 false]
 (aj [ao 0 3 (.alloc [.int .i64 0]),
 rG 1 (.st 1 (ae 3) (.const (.int .i64 0)))]
 (aj [aX 0 4 1,
 ao 1 5 (.sT 261 [] [(ae 3),(ae 1)]),
 sc 2 6 71 [(ae 4),(ae 5)],
 ao 3 7 (.un .not (ae 6)),
 af 4 2 7]
 .ret)))
def aas:List bf:=[.aO (ae 2)]
theorem agR:bx Tryz.prog 242=some Qz:=by kernel_rfl
theorem arz:bz Tryz.prog 242=some aas:=by kernel_rfl
def QA:aT:=(aj [ao 0 2 (.aO (.const (.slice none 0 0)))]
 (aj [af 0 3 0,
 ao 1 4 (.ds .u64 (ae 3)),
 ao 2 5 (.bin .shl 40 (ae 4) (.const (.int .u64 1))),
 af 3 6 0,
 ao 4 7 (.bin .shr 2 (ae 6) (.const (.int .u64 63))),
 ao 5 8 (.ds .u64 (ae 7)),
 bq 6 9 .xor 40 5 8,
 sc 7 10 195 [(ae 9)],
 af 8 2 10]
 .ret))
def aat:List bf:=[.aO (ae 2)]
theorem agS:bx Tryz.prog 243=some QA:=by kernel_rfl
theorem arA:bz Tryz.prog 243=some aat:=by kernel_rfl
def WJ:aT:=(aj [bq 0 8 .lss 3 7 6]
 (.seq (.cond (ae 8) .skip (.exit 0))
 (.seq (.block 1 (aj [b0 0 9 1 5 7,
 aX 1 10 9,
 af 2 4 10]
 (aj [af 0 11 4,
 sc 1 12 199 [(ae 11)],
 ao 2 13 (.un .not (ae 12))]
 (.cond (ae 13) (aj [cD 0 2 false]
 .ret) .skip))))
 (.bH [a6 0 14 .add 3 7 1,
 af 1 7 14]))))
def QB:aT:=(aj [cD 0 2 false]
 (.seq (aj [af 0 5 0,
 b1 1 6 1 5,
 aU 2 7 0]
 (.block 0 (.loop WJ)))
 (aj [cD 0 2 true]
 .ret)))
def aau:List bf:=[.aO (ae 2)]
theorem agT:bx Tryz.prog 244=some QB:=by kernel_rfl
theorem arB:bz Tryz.prog 244=some aau:=by kernel_rfl
def WK:aT:=(aj [bq 0 11 .lss 3 10 9]
 (.seq (.cond (ae 11) .skip (.exit 0))
 (.seq (.block 1 (aj [b0 0 12 1 8 10,
 aX 1 13 12,
 af 2 7 13]
 (.bH [af 0 14 5,
 af 1 15 7,
 ao 2 16 (.ds .u64 (ae 15)),
 bq 3 17 .mul 40 14 16,
 af 4 18 0,
 bq 5 19 .rem 40 17 18,
 af 6 5 19])))
 (.bH [a6 0 20 .add 3 10 1,
 af 1 10 20]))))
def QC:aT:=(aj [ao 0 4 (.aO (.const (.int .u32 0)))]
 (aj [ao 0 5 (.aO (.const (.int .u64 1)))]
 (.seq (aj [af 0 8 1,
 b1 1 9 1 8,
 aU 2 10 0]
 (.block 0 (.loop WK)))
 (aj [af 0 21 5,
 ao 1 22 (.ds .u32 (ae 21)),
 af 2 4 22]
 .ret))))
def aav:List bf:=[.aO (ae 4)]
theorem agU:bx Tryz.prog 245=some QC:=by kernel_rfl
theorem arC:bz Tryz.prog 245=some aav:=by kernel_rfl
def WL:aT:=(aj [bq 0 24 .lss 3 23 22]
 (.seq (.cond (ae 24) .skip (.exit 0))
 (.seq (.block 1 (aj [b0 0 25 1 21 23,
 aX 1 26 25,
 af 2 10 26]
 (.bH [af 0 27 8,
 af 1 28 10,
 ao 2 29 (.bin .shr 76 (ae 28) (.const (.int .u64 24))),
 ao 3 30 (.ds .u8 (ae 29)),
 af 4 31 10,
 ao 5 32 (.bin .shr 76 (ae 31) (.const (.int .u64 16))),
 ao 6 33 (.ds .u8 (ae 32)),
 af 7 34 10,
 ao 8 35 (.bin .shr 76 (ae 34) (.const (.int .u64 8))),
 ao 9 36 (.ds .u8 (ae 35)),
 af 10 37 10,
 ao 11 38 (.ds .u8 (ae 37)),
 ao 12 39 (.dh 1 [.int .u8 0] 4 [(0,(ae 30)),(1,(ae 33)),(2,(ae 36)),(3,(ae 38))]),
 ao 13 40 (.app 1 1 (ae 27) (ae 39)),
 af 14 8 40])))
 (.bH [a6 0 41 .add 3 23 1,
 af 1 23 41]))))
def WM:aT:=(aj [bq 0 52 .lss 3 51 50]
 (.seq (.cond (ae 52) .skip (.exit 2))
 (.seq (.block 3 (aj [b0 0 53 1 49 51,
 aX 1 54 53,
 af 2 15 54]
 (.bH [af 0 55 13,
 ao 1 56 (.bin .shl 40 (ae 55) (.const (.int .u64 8))),
 af 2 57 15,
 ao 3 58 (.ds .u64 (ae 57)),
 bq 4 59 .or 40 56 58,
 af 5 13 59])))
 (.bH [a6 0 60 .add 3 51 1,
 af 1 51 60]))))
def QD:aT:=(aj [ao 0 6 (.aO (.const (.int .u64 0))),
 aU 1 7 0]
 (.seq (aj [af 0 16 1,
 b1 1 17 1 16,
 a6 2 18 .gtr 3 17 9991]
 (.cond (ae 18) (aj [ao 0 6 (.aO (.const (.int .u64 0))),
 aU 1 7 4]
 .ret) .skip))
 (aj [af 0 19 0,
 ao 1 20 (.dh 1 [.int .u8 0] 1 [(0,(ae 19))]),
 af 2 8 20]
 (.seq (aj [af 0 21 2,
 b1 1 22 1 21,
 aU 2 23 0]
 (.block 0 (.loop WL)))
 (aj [af 0 43 8,
 af 1 44 1,
 ao 2 45 (.dh 1 [.aK] 2 [(0,(ae 43)),(1,(ae 44))]),
 sc 3 46 196 [(ae 45)],
 af 4 42 46,
 cN 5 47 42 0,
 cN 6 48 42 1,
 ao 7 11 (.alloc (rep 32 (.int .u8 0))),
 bG 8 32 11 47,
 af 9 12 48]
 (aj [ao 0 13 (.aO (.const (.int .u64 0)))]
 (.seq (aj [ao 0 49 (.slice (.arr 32 1) (ae 11) none (some (.const (.int .i64 8))) none),
 b1 1 50 1 49,
 aU 2 51 0]
 (.block 2 (.loop WM)))
 (aj [af 0 61 13,
 af 1 62 12,
 af 2 6 61,
 af 3 7 62]
 .ret))))))))
def aaw:List bf:=[.aO (ae 6),.aO (ae 7)]
theorem agV:bx Tryz.prog 246=some QD:=by kernel_rfl
theorem arD:bz Tryz.prog 246=some aaw:=by kernel_rfl
def WN:aT:=(aj [ao 0 11 (.ym (ae 10)),
 cN 1 12 11 0]
 (.seq (.cond (ae 12) .skip (.exit 0))
 (.block 1 (aj [cN 0 13 11 1,
 cN 1 14 11 2,
 af 2 7 13,
 af 3 8 14]
 (aj [af 0 15 1,
 af 1 16 8,
 ⟨2,(some 17),none,.ig (ae 15) [(ae 16)],[],false⟩,
 af 3 18 2,
 bq 4 19 .eql 4 17 18]
 (.cond (ae 19) (aj [af 0 20 7,
 af 1 6 20]
 .ret) .skip))))))
def QF:aT:=(aj [aU 0 6 0]
 (.seq (aj [af 0 9 0,
 ao 1 10 (.yw (ae 9))]
 (.block 0 (.loop WN)))
 (aj [aU 0 6 (-1)]
 .ret)))
def aay:List bf:=[.aO (ae 6)]
theorem agX:bx Tryz.prog 251=some QF:=by kernel_rfl
theorem arF:bz Tryz.prog 251=some aay:=by kernel_rfl
def QG:aT:=(aj [ao 0 2 (.aO (.const (.int .u8 0)))]
 (aj [af 0 6 0,
 sc 1 7 264 [(ae 6)],
 af 2 5 7,
 cN 3 8 5 0,
 cN 4 9 5 1,
 af 5 3 8,
 af 6 4 9]
 (.seq (.block 0 (aj [af 0 11 3,
 a6 1 12 .eql 3 11 2047,
 af 2 13 12,
 dr 3 14 13 true 4,
 dV 4 15 13 true (.bin .neq 40 (ae 14) (.const (.int .u64 0))),
 e6 5 16 13 15,
 af 6 10 16]
 (.cond (ae 10) (aj [ao 0 2 (.aO (.const (.int .u8 5)))]
 .ret) (aj [af 0 18 3,
 a6 1 19 .eql 3 18 2047,
 af 2 17 19]
 (.cond (ae 17) (aj [ao 0 2 (.aO (.const (.int .u8 4)))]
 .ret) (aj [af 0 21 3,
 a6 1 22 .neq 3 21 0,
 af 2 20 22]
 (.cond (ae 20) (aj [ao 0 2 (.aO (.const (.int .u8 3)))]
 .ret) (aj [af 0 24 4,
 ao 1 25 (.bin .neq 40 (ae 24) (.const (.int .u64 0))),
 af 2 23 25]
 (.cond (ae 23) (aj [ao 0 2 (.aO (.const (.int .u8 2)))]
 .ret) .skip)))))))))
 (aj [ao 0 2 (.aO (.const (.int .u8 1)))]
 .ret))))
def aaz:List bf:=[.aO (ae 2)]
theorem agY:bx Tryz.prog 252=some QG:=by kernel_rfl
theorem arG:bz Tryz.prog 252=some aaz:=by kernel_rfl
def QH:aT:=(aj [aU 0 2 0]
 (aj [af 0 3 0,
 ao 1 4 (.bin .rem 40 (ae 3) (.const (.int .u64 9223372036854775808))),
 ao 2 5 (.bin .quo 40 (ae 4) (.const (.int .u64 4503599627370496))),
 ao 3 6 (.ds .i64 (ae 5)),
 af 4 2 6]
 .ret))
def aaA:List bf:=[.aO (ae 2)]
theorem agZ:bx Tryz.prog 253=some QH:=by kernel_rfl
theorem arH:bz Tryz.prog 253=some aaA:=by kernel_rfl
def QI:aT:=(aj [ao 0 2 (.aO (.const (.int .u64 0)))]
 (aj [af 0 3 0,
 ao 1 4 (.bin .rem 40 (ae 3) (.const (.int .u64 4503599627370496))),
 af 2 2 4]
 .ret))
def aaB:List bf:=[.aO (ae 2)]
theorem ag0:bx Tryz.prog 254=some QI:=by kernel_rfl
theorem arI:bz Tryz.prog 254=some aaB:=by kernel_rfl
def WO:aT:=(aj [bq 0 9 .lss 3 8 7]
 (.seq (.cond (ae 9) .skip (.exit 0))
 (.seq (.block 1 (aj [af 0 10 8,
 af 1 5 10]
 (aj [af 0 11 1,
 af 1 12 0,
 af 2 13 5,
 b0 3 14 1 12 13,
 aX 4 15 14,
 ⟨5,(some 16),none,.ig (ae 11) [(ae 15)],[],false⟩]
 (.cond (ae 16) (aj [af 0 17 5,
 af 1 4 17]
 .ret) .skip))))
 (.bH [a6 0 18 .add 3 8 1,
 af 1 8 18]))))
def QJ:aT:=(aj [aU 0 4 0]
 (.seq (aj [af 0 6 0,
 b1 1 7 1 6,
 aU 2 8 0]
 (.block 0 (.loop WO)))
 (aj [aU 0 4 (-1)]
 .ret)))
def aaC:List bf:=[.aO (ae 4)]
theorem ag1:bx Tryz.prog 257=some QJ:=by kernel_rfl
theorem arJ:bz Tryz.prog 257=some aaC:=by kernel_rfl
def WP:aT:=(aj [a6 0 53 .lss 3 52 64]
 (.seq (.cond (ae 53) .skip (.exit 0))
 (.seq (.block 1 (aj [af 0 54 52,
 af 1 13 54]
 (.seq (.hc [af 0 55 12,
 af 1 56 9,
 af 4 59 9,
 af 5 60 10,
 bq 6 61 .and 76 59 60,
 af 7 62 9,
 ao 8 63 (.un .xor (ae 62)),
 af 9 64 11,
 bq 10 65 .and 76 63 64,
 bq 11 66 .xor 76 61 65,
 af 13 68 13,
 ao 14 69 (.ff (.arr 64 1) (.global 1) (ae 68)),
 ⟨15,(some 70),none,.cM (.ld1 (ae 69)),[],true⟩,
 af 17 72 13,
 ao 18 73 (.ff (.arr 64 1) (ae 4) (ae 72)),
 ⟨19,(some 74),none,.cM (.ld1 (ae 73)),[],true⟩,
 ⟨2,(some 57),none,.cO 266 [(ae 56),(.const (.int .i64 6)),(.const (.int .i64 11)),(.const (.int .i64 25))],[19,15],false⟩,
 bq 3 58 .add 76 55 57,
 bq 12 67 .add 76 58 66,
 bq 16 71 .add 76 67 70,
 bq 20 75 .add 76 71 74,
 af 21 14 75])
 (aj [af 0 76 5,
 sc 1 77 266 [(ae 76),(.const (.int .i64 2)),(.const (.int .i64 13)),(.const (.int .i64 22))],
 af 2 78 5,
 af 3 79 6,
 bq 4 80 .and 76 78 79,
 af 5 81 5,
 af 6 82 7,
 bq 7 83 .and 76 81 82,
 bq 8 84 .xor 76 80 83,
 af 9 85 6,
 af 10 86 7,
 bq 11 87 .and 76 85 86,
 bq 12 88 .xor 76 84 87,
 bq 13 89 .add 76 77 88,
 af 14 15 89]
 (.bH [af 0 90 14,
 af 1 91 15,
 bq 2 92 .add 76 90 91,
 af 3 93 5,
 af 4 94 6,
 af 5 95 7,
 af 6 96 8,
 af 7 97 14,
 bq 8 98 .add 76 96 97,
 af 9 99 9,
 af 10 100 10,
 af 11 101 11,
 af 12 5 92,
 af 13 6 93,
 af 14 7 94,
 af 15 8 95,
 af 16 9 98,
 af 17 10 99,
 af 18 11 100,
 af 19 12 101])))))
 (.bH [a6 0 102 .add 3 52 1,
 af 1 52 102]))))
def WQ:aT:=(aj [a6 0 113 .lss 3 112 8]
 (.seq (.cond (ae 113) .skip (.exit 2))
 (.seq (.block 3 (aj [af 0 114 112,
 ao 1 115 (.Ax 8 1 (ae 111) (ae 112)),
 af 2 16 114,
 af 3 17 115]
 (.bH [af 0 116 0,
 af 1 117 16,
 ao 2 118 (.oE (ae 116)),
 ao 3 119 (.ff (.arr 8 1) (ae 118) (ae 117)),
 aX 4 120 119,
 af 5 121 17,
 bq 6 122 .add 76 120 121,
 ao 7 123 (.oE (ae 116)),
 ao 8 124 (.ff (.arr 8 1) (ae 123) (ae 117)),
 bG 9 1 124 122])))
 (.bH [a6 0 125 .add 3 112 1,
 af 1 112 125]))))
def QK:aT:=(aj [af 0 18 1,
 sc 1 19 265 [(ae 18)],
 ao 2 4 (.alloc (rep 64 (.int .u32 0))),
 bG 3 64 4 19]
 (aj [af 0 20 0,
 ao 1 21 (.oE (ae 20)),
 ao 2 22 (.ff (.arr 8 1) (ae 21) (.const (.int .i64 0))),
 aX 3 23 22,
 af 4 24 0,
 ao 5 25 (.oE (ae 24)),
 ao 6 26 (.ff (.arr 8 1) (ae 25) (.const (.int .i64 1))),
 aX 7 27 26,
 af 8 28 0,
 ao 9 29 (.oE (ae 28)),
 ao 10 30 (.ff (.arr 8 1) (ae 29) (.const (.int .i64 2))),
 aX 11 31 30,
 af 12 32 0,
 ao 13 33 (.oE (ae 32)),
 ao 14 34 (.ff (.arr 8 1) (ae 33) (.const (.int .i64 3))),
 aX 15 35 34,
 af 16 36 0,
 ao 17 37 (.oE (ae 36)),
 ao 18 38 (.ff (.arr 8 1) (ae 37) (.const (.int .i64 4))),
 aX 19 39 38,
 af 20 40 0,
 ao 21 41 (.oE (ae 40)),
 ao 22 42 (.ff (.arr 8 1) (ae 41) (.const (.int .i64 5))),
 aX 23 43 42,
 af 24 44 0,
 ao 25 45 (.oE (ae 44)),
 ao 26 46 (.ff (.arr 8 1) (ae 45) (.const (.int .i64 6))),
 aX 27 47 46,
 af 28 48 0,
 ao 29 49 (.oE (ae 48)),
 ao 30 50 (.ff (.arr 8 1) (ae 49) (.const (.int .i64 7))),
 aX 31 51 50,
 af 32 5 23,
 af 33 6 27,
 af 34 7 31,
 af 35 8 35,
 af 36 9 39,
 af 37 10 43,
 af 38 11 47,
 af 39 12 51]
 (.seq (aj [aU 0 52 0]
 (.block 0 (.loop WP)))
 (aj [af 0 103 5,
 af 1 104 6,
 af 2 105 7,
 af 3 106 8,
 af 4 107 9,
 af 5 108 10,
 af 6 109 11,
 af 7 110 12,
 ao 8 111 (.dp [.int .u32 0,.int .u32 0,.int .u32 0,.int .u32 0,.int .u32 0,.int .u32 0,.int .u32 0,.int .u32 0] [(0,1,(ae 103)),(1,1,(ae 104)),(2,1,(ae 105)),(3,1,(ae 106)),(4,1,(ae 107)),(5,1,(ae 108)),(6,1,(ae 109)),(7,1,(ae 110))]),
 aU 9 112 0]
 (.block 2 (.loop WQ))))))
def aaD:List bf:=[]
theorem ag2:bx Tryz.prog 258=some QK:=by kernel_rfl
theorem arK:bz Tryz.prog 258=some aaD:=by kernel_rfl
def QL:aT:=(aj [ao 0 2 (.aO (.const (.slice none 0 0)))]
 (.seq (aj [af 0 3 0,
 ao 1 4 (.bin .eql 136 (ae 3) (.const (.slice none 0 0)))]
 (.cond (ae 4) (aj [ao 0 2 (.aO (.const (.slice none 0 0)))]
 .ret) .skip))
 (aj [ao 0 5 (.dh 1 [.int .u8 0] 0 []),
 af 1 6 0,
 ao 2 7 (.app 1 1 (ae 5) (ae 6)),
 af 3 2 7]
 .ret)))
def aaE:List bf:=[.aO (ae 2)]
theorem ag3:bx Tryz.prog 259=some QL:=by kernel_rfl
theorem arL:bz Tryz.prog 259=some aaE:=by kernel_rfl
def QN:aT:=(.bH [aX 0 1 0,
 aX 1 2 0,
 ao 2 3 (.dh 1 [.int .u32 0] 2 [(0,(ae 1)),(1,(ae 2))]),
 sc 3 4 245 [(.const (.int .u64 1000000007)),(ae 3)],
 bG 4 1 0 4])
def aaG:List bf:=[]
theorem ag5:bx Tryz.prog 260=some QN:=by kernel_rfl
theorem arN:bz Tryz.prog 260=some aaG:=by kernel_rfl
def QO:aT:=(aj [ao 0 3 (.box (ae 0)),
 cD 1 4 false]
 (aj [aX 0 5 1,
 a6 1 6 .add 3 5 1,
 bG 2 1 1 6]
 (aj [aX 0 7 1,
 aX 1 8 2,
 b1 2 9 32 8,
 bq 3 10 .lss 3 7 9,
 af 4 11 10,
 dz 5 12 11 true 2,
 dz 6 13 11 true 1,
 fy 7 14 11 true .sub 3 13 1,
 kJ 8 15 11 true 32 12 14,
 eI 9 16 11 true 32 15,
 dz 10 17 11 true 2,
 dz 11 18 11 true 1,
 kJ 12 19 11 true 32 17 18,
 eI 13 20 11 true 32 19,
 ⟨14,(some 21),(some ((some 11),true)),.cO 149 [(ae 16),(ae 20)],[],false⟩,
 fy 15 22 11 true .geq 3 21 0,
 e6 16 23 11 22,
 af 17 4 23]
 .ret)))
def aaH:List bf:=[.aO (ae 4)]
theorem ag6:bx Tryz.prog 261=some QO:=by kernel_rfl
theorem arO:bz Tryz.prog 261=some aaH:=by kernel_rfl
def QP:aT:=(aj [aU 0 2 0,
 ao 1 3 (.aO (.const (.int .u64 0)))]
 (aj [af 0 4 0,
 ao 1 5 (.bin .shr 40 (ae 4) (.const (.int .u64 52))),
 ao 2 6 (.ds .i64 (ae 5)),
 a6 3 7 .and 3 6 2047,
 af 4 8 0,
 ao 5 9 (.bin .and 40 (ae 8) (.const (.int .u64 4503599627370495))),
 af 6 2 7,
 af 7 3 9]
 .ret))
def aaI:List bf:=[.aO (ae 2),.aO (ae 3)]
theorem ag7:bx Tryz.prog 264=some QP:=by kernel_rfl
theorem arP:bz Tryz.prog 264=some aaI:=by kernel_rfl
def WS:aT:=(aj [bq 0 14 .lss 3 13 12]
 (.seq (.cond (ae 14) .skip (.exit 0))
 (.seq (.block 1 (aj [af 0 15 13,
 b0 1 16 1 11 13,
 aX 2 17 16,
 af 3 3 15,
 af 4 4 17]
 (.bH [af 0 18 3,
 a6 1 19 .quo 3 18 4,
 af 2 20 3,
 a6 3 21 .quo 3 20 4,
 ao 4 22 (.ff (.arr 64 1) (ae 2) (ae 21)),
 aX 5 23 22,
 ao 6 24 (.bin .shl 76 (ae 23) (.const (.int .u64 8))),
 af 7 25 4,
 ao 8 26 (.ds .u32 (ae 25)),
 bq 9 27 .or 76 24 26,
 ao 10 28 (.ff (.arr 64 1) (ae 2) (ae 19)),
 bG 11 1 28 27])))
 (.bH [a6 0 29 .add 3 13 1,
 af 1 13 29]))))
def WT:aT:=(.seq (aj [af 0 30 5,
 a6 1 31 .lss 3 30 64]
 (.cond (ae 31) .skip (.exit 2)))
 (.seq (.block 3 (aj [af 0 34 5,
 a6 1 35 .sub 3 34 15,
 ao 2 36 (.ff (.arr 64 1) (ae 2) (ae 35)),
 aX 3 37 36,
 af 4 38 5,
 a6 5 39 .sub 3 38 2,
 ao 6 40 (.ff (.arr 64 1) (ae 2) (ae 39)),
 aX 7 41 40,
 af 8 6 37,
 af 9 7 41]
 (aj [af 0 42 6,
 sc 1 43 267 [(ae 42),(.const (.int .i64 (-7)))],
 af 2 44 6,
 sc 3 45 267 [(ae 44),(.const (.int .i64 (-18)))],
 bq 4 46 .xor 76 43 45,
 af 5 47 6,
 ao 6 48 (.bin .shr 76 (ae 47) (.const (.int .u64 3))),
 bq 7 49 .xor 76 46 48,
 af 8 8 49]
 (aj [af 0 50 7,
 sc 1 51 267 [(ae 50),(.const (.int .i64 (-17)))],
 af 2 52 7,
 sc 3 53 267 [(ae 52),(.const (.int .i64 (-19)))],
 bq 4 54 .xor 76 51 53,
 af 5 55 7,
 ao 6 56 (.bin .shr 76 (ae 55) (.const (.int .u64 10))),
 bq 7 57 .xor 76 54 56,
 af 8 9 57]
 (.bH [af 0 58 5,
 af 1 59 5,
 a6 2 60 .sub 3 59 16,
 ao 3 61 (.ff (.arr 64 1) (ae 2) (ae 60)),
 aX 4 62 61,
 af 5 63 5,
 a6 6 64 .sub 3 63 7,
 ao 7 65 (.ff (.arr 64 1) (ae 2) (ae 64)),
 aX 8 66 65,
 bq 9 67 .add 76 62 66,
 af 10 68 8,
 bq 11 69 .add 76 67 68,
 af 12 70 9,
 bq 13 71 .add 76 69 70,
 ao 14 72 (.ff (.arr 64 1) (ae 2) (ae 58)),
 bG 15 1 72 71])))))
 (.bH [af 0 32 5,
 a6 1 33 .add 3 32 1,
 af 2 5 33])))
def QQ:aT:=(aj [ao 0 2 (.alloc (rep 64 (.int .u32 0)))]
 (.seq (aj [af 0 10 0,
 ao 1 11 (.slice (.av 1) (ae 10) none (some (.const (.int .i64 64))) none),
 b1 2 12 1 11,
 aU 3 13 0]
 (.block 0 (.loop WS)))
 (.seq (aj [aU 0 5 16]
 (.block 2 (.loop WT)))
 (aj [bi 0 73 64 2,
 bG 1 64 2 73]
 .ret))))
def aaJ:List bf:=[.eg 64 (ae 2)]
theorem ag8:bx Tryz.prog 265=some QQ:=by kernel_rfl
theorem arQ:bz Tryz.prog 265=some aaJ:=by kernel_rfl
def QR:aT:=(aj [ao 0 8 (.aO (.const (.int .u32 0)))]
 (aj [af 0 9 0,
 af 1 10 1,
 ao 2 11 (.un .neg (ae 10)),
 sc 3 12 267 [(ae 9),(ae 11)],
 af 4 13 0,
 af 5 14 2,
 ao 6 15 (.un .neg (ae 14)),
 sc 7 16 267 [(ae 13),(ae 15)],
 bq 8 17 .xor 76 12 16,
 af 9 18 0,
 af 10 19 3,
 ao 11 20 (.un .neg (ae 19)),
 sc 12 21 267 [(ae 18),(ae 20)],
 bq 13 22 .xor 76 17 21,
 af 14 8 22]
 .ret))
def aaK:List bf:=[.aO (ae 8)]
theorem ag9:bx Tryz.prog 266=some QR:=by kernel_rfl
theorem arR:bz Tryz.prog 266=some aaK:=by kernel_rfl
def QS:aT:=(aj [ao 0 4 (.aO (.const (.int .u32 0)))]
 (aj [af 0 6 1,
 ao 1 7 (.ds .u64 (ae 6)),
 ao 2 8 (.bin .and 194 (ae 7) (.const (.int .u64 31))),
 af 3 5 8]
 (aj [af 0 9 0,
 af 1 10 5,
 bq 2 11 .shl 76 9 10,
 af 3 12 0,
 af 4 13 5,
 ao 5 14 (.bin .sub 194 (.const (.int .u64 32)) (ae 13)),
 bq 6 15 .shr 76 12 14,
 bq 7 16 .or 76 11 15,
 af 8 4 16]
 .ret)))
def aaL:List bf:=[.aO (ae 4)]
theorem aha:bx Tryz.prog 267=some QS:=by kernel_rfl
theorem arS:bz Tryz.prog 267=some aaL:=by kernel_rfl
end Go.ct
