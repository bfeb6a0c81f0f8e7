/-
  The code of the functions, without types, as the canonical machine reads it (printed by program).
-/
import Derived.Test.YtboebmmklamaeaaGreatDoorSg
import Derived.Test.YtboebmmklamaeaaGreatDoorRows
import Derived.ProofKit
set_option linter.unusedVariables false
set_option linter.unusedSimpArgs false
set_option linter.unnecessarySimpa false
namespace Go.cl
open Go Go.Proofs
set_option maxRecDepth 100000
def hF:aX:=(.seq (.al [ad 0 1 (.box (U 0)),
 ad 1 2 (.av (.const (.bool false)))])
 (.seq (.seq (.al [ad 0 8 (.bh 2 (U 1)),
 sc 1 9 22 [(U 8)]])
 (.cond (U 9) (.seq (.al [ad 0 2 (.av (.const (.bool true)))])
 .ret) .skip))
 (.seq (.al [ad 0 10 (.bh 2 (U 1)),
 sc 1 11 23 [(U 10)],
 ad 2 3 (.alloc [.a6,.a6]),
 ch 3 (.st 2 (U 3) (U 11))])
 (.seq (.al [ad 0 13 (.bh 2 (U 3)),
 sc 1 14 24 [(U 13)],
 ag 2 12 14,
 ad 3 15 (.ext (U 12) 0),
 ad 4 16 (.ext (U 12) 1),
 ad 5 4 (.alloc [.a6]),
 ch 6 (.st 1 (U 4) (U 15)),
 ag 7 5 16])
 (.seq (.al [ad 0 18 (.bh 2 (U 1)),
 sc 1 19 25 [(U 18)],
 ag 2 17 19,
 ad 3 20 (.ext (U 17) 0),
 ad 4 21 (.ext (U 17) 1),
 ad 5 6 (.alloc [.a6]),
 ch 6 (.st 1 (U 6) (U 20)),
 ag 7 7 21])
 (.seq (.al [ad 0 22 (.bh 1 (U 4)),
 ad 1 23 (.bh 1 (U 6)),
 sc 2 24 20 [(U 22),(U 23)],
 ag 3 25 24,
 aT 4 26 25 true (.av (U 5)),
 aT 5 27 25 true (.av (U 7)),
 aT 6 28 25 true (.bin .eql 3 (U 26) (U 27)),
 ad 7 29 (.pick (U 25) (U 28) (.const (.bool false))),
 ag 8 30 29,
 aT 9 31 30 true (.bh 2 (U 3)),
 aT 10 32 30 true (.bh 2 (U 1)),
 ⟨11,(some 33),(some ((some 30),true)),.dq 26 [(U 31),(U 32)],[],false⟩,
 ad 12 34 (.pick (U 30) (U 33) (.const (.bool false))),
 ag 13 2 34])
 .ret))))))
def vz:List bb:=[.av (U 2)]
theorem Qh:bB Tryz.prog 4=some hF:=by kernel_rfl
theorem YO:bC Tryz.prog 4=some vz:=by kernel_rfl
def Fu:aX:=(.seq (.al [ad 0 0 (.alloc [.a6])])
 (.seq (.al [ad 0 1 (.gA [.a6] []),
 ch 1 (.st 1 (U 0) (U 1))])
 .ret))
def xB:List bb:=[.bh 1 (U 0)]
theorem PE:bB Tryz.prog 17=some Fu:=by kernel_rfl
theorem X9:bC Tryz.prog 17=some xB:=by kernel_rfl
def Vv:aX:=(.seq (.seq (.al [ag 0 13 5,
 ad 1 14 (.aW 0 (U 2)),
 ad 2 15 (.ld1 (U 14)),
 ad 3 16 (.len (.ao 33) (U 15)),
 ad 4 17 (.bin .lss 3 (U 13) (U 16))])
 (.cond (U 17) .skip (.exit 0)))
 (.seq (.block 1 (.seq (.al [ad 0 20 (.aW 0 (U 2)),
 ad 1 21 (.ld1 (U 20)),
 ag 2 22 5,
 ad 3 23 (.bq (.ao 33) (U 21) (U 22)),
 ad 4 24 (.bh 33 (U 23)),
 ad 5 25 (.aW 0 (U 3)),
 ad 6 26 (.ld1 (U 25)),
 ag 7 27 5,
 ad 8 28 (.bq (.ao 33) (U 26) (U 27)),
 ad 9 29 (.bh 33 (U 28)),
 ad 10 30 (.bin .neq 77 (U 24) (U 29))])
 (.cond (U 30) (.seq (.al [ad 0 4 (.av (.const (.bool false)))])
 .ret) .skip)))
 (.al [ag 0 18 5,
 ad 1 19 (.bin .add 3 (U 18) (.const (.int .i64 1))),
 ag 2 5 19])))
def FU:aX:=(.seq (.al [ad 0 2 (.box (U 0)),
 ad 1 3 (.box (U 1)),
 ad 2 4 (.av (.const (.bool false)))])
 (.seq (.seq (.al [ad 0 6 (.aW 0 (U 2)),
 ad 1 7 (.ld1 (U 6)),
 ad 2 8 (.len (.ao 33) (U 7)),
 ad 3 9 (.aW 0 (U 3)),
 ad 4 10 (.ld1 (U 9)),
 ad 5 11 (.len (.ao 33) (U 10)),
 ad 6 12 (.bin .neq 3 (U 8) (U 11))])
 (.cond (U 12) (.seq (.al [ad 0 4 (.av (.const (.bool false)))])
 .ret) .skip))
 (.seq (.seq (.al [ad 0 5 (.av (.const (.int .i64 0)))])
 (.block 0 (.loop Vv)))
 (.seq (.al [ad 0 4 (.av (.const (.bool true)))])
 .ret))))
def LC:List bb:=[.av (U 4)]
theorem P2:bB Tryz.prog 20=some FU:=by kernel_rfl
theorem Yz:bC Tryz.prog 20=some LC:=by kernel_rfl
def Vw:aX:=(.seq (.seq (.al [ag 0 4 3,
 ad 1 5 (.aW 1 (U 1)),
 ad 2 6 (.ld1 (U 5)),
 ad 3 7 (.len (.ao 11) (U 6)),
 ad 4 8 (.bin .lss 3 (U 4) (U 7)),
 ag 5 9 8,
 aT 6 10 9 true (.av (U 3)),
 aT 7 11 9 true (.bin .leq 3 (U 10) (.const (.int .i64 70))),
 ad 8 12 (.pick (U 9) (U 11) (.const (.bool false)))])
 (.cond (U 12) .skip (.exit 0)))
 (.seq (.block 1 (.seq (.al [ad 0 15 (.aW 1 (U 1)),
 ad 1 16 (.ld1 (U 15)),
 ag 2 17 3,
 ad 3 18 (.bq (.ao 11) (U 16) (U 17)),
 ad 4 19 (.bh 11 (U 18)),
 sc 5 20 53 [(U 19)]])
 (.cond (U 20) (.seq (.al [ad 0 2 (.av (.const (.bool true)))])
 .ret) .skip)))
 (.al [ag 0 13 3,
 ad 1 14 (.bin .add 3 (U 13) (.const (.int .i64 1))),
 ag 2 3 14])))
def FZ:aX:=(.seq (.al [ad 0 1 (.box (U 0)),
 ad 1 2 (.av (.const (.bool false)))])
 (.seq (.seq (.al [ad 0 3 (.av (.const (.int .i64 0)))])
 (.block 0 (.loop Vw)))
 (.seq (.al [ad 0 21 (.aW 1 (U 1)),
 ad 1 22 (.ld1 (U 21)),
 ad 2 23 (.len (.ao 11) (U 22)),
 ad 3 24 (.bin .gtr 3 (U 23) (.const (.int .i64 16))),
 ag 4 25 24,
 aT 5 26 25 true (.aW 1 (U 1)),
 aT 6 27 25 true (.ld1 (U 26)),
 aT 7 28 25 true (.len (.ao 11) (U 27)),
 aT 8 29 25 true (.bin .leq 3 (U 28) (.const (.int .i64 60))),
 ad 9 30 (.pick (U 25) (U 29) (.const (.bool false))),
 ag 10 31 30,
 aT 11 32 31 false (.aW 1 (U 1)),
 aT 12 33 31 false (.ld1 (U 32)),
 aT 13 34 31 false (.len (.ao 11) (U 33)),
 aT 14 35 31 false (.bin .gtr 3 (U 34) (.const (.int .i64 70))),
 ad 15 36 (.pick (U 31) (.const (.bool true)) (U 35)),
 ag 16 37 36,
 aT 17 38 37 false (.aW 0 (U 1)),
 aT 18 39 37 false (.ld1 (U 38)),
 aT 19 40 37 false (.len (.ao 32) (U 39)),
 aT 20 41 37 false (.bin .gtr 3 (U 40) (.const (.int .i64 70))),
 ad 21 42 (.pick (U 37) (.const (.bool true)) (U 41)),
 ag 22 2 42])
 .ret)))
def LI:List bb:=[.av (U 2)]
theorem P3:bB Tryz.prog 22=some FZ:=by kernel_rfl
theorem YA:bC Tryz.prog 22=some LI:=by kernel_rfl
def Vx:aX:=(.seq (.seq (.al [ag 0 10 4,
 ad 1 11 (.aW 1 (U 1)),
 ad 2 12 (.ld1 (U 11)),
 ad 3 13 (.len (.ao 11) (U 12)),
 ad 4 14 (.bin .lss 3 (U 10) (U 13))])
 (.cond (U 14) .skip (.exit 0)))
 (.seq (.block 1 (.ho [ad 0 17 (.aW 1 (U 3)),
 ⟨1,(some 18),none,.c2 (.ld1 (U 17)),[],true⟩,
 ad 2 19 (.aW 1 (U 1)),
 ad 3 20 (.ld1 (U 19)),
 ag 4 21 4,
 ad 5 22 (.bq (.ao 11) (U 20) (U 21)),
 ad 6 23 (.bh 11 (U 22)),
 ⟨7,(some 24),none,.dq 54 [(U 23)],[1],false⟩,
 ad 8 25 (.c5 11 [.int .u32 0,.a6,.int .u64 0,.int .u8 0,.str [],.int .u8 0,.int .i64 0,.int .u64 0,.str [],.int .u32 0,.int .u32 0] 1 [(0,(U 24))]),
 ad 9 26 (.app 11 112 (U 18) (U 25)),
 ad 10 27 (.aW 1 (U 3)),
 ch 11 (.st 1 (U 27) (U 26))]))
 (.al [ag 0 15 4,
 ad 1 16 (.bin .add 3 (U 15) (.const (.int .i64 1))),
 ag 2 4 16])))
def F0:aX:=(.seq (.al [ad 0 1 (.box (U 0)),
 ad 1 2 (.alloc [.a6,.a6])])
 (.seq (.al [ad 0 5 (.c5 32 (rep 32 (.int .u8 0)) 0 []),
 ad 1 6 (.aW 0 (U 1)),
 ad 2 7 (.ld1 (U 6)),
 ad 3 8 (.app 32 32 (U 5) (U 7)),
 ad 4 9 (.gA [.a6,.a6] [(0,1,(U 8))]),
 ad 5 3 (.alloc [.a6,.a6]),
 ch 6 (.st 2 (U 3) (U 9))])
 (.seq (.seq (.al [ad 0 4 (.av (.const (.int .i64 0)))])
 (.block 0 (.loop Vx)))
 (.seq (.al [ad 0 28 (.bh 2 (U 3)),
 ch 1 (.st 2 (U 2) (U 28))])
 .ret))))
def LJ:List bb:=[.bh 2 (U 2)]
theorem P4:bB Tryz.prog 23=some F0:=by kernel_rfl
theorem YB:bC Tryz.prog 23=some LJ:=by kernel_rfl
def Vy:aX:=(.seq (.al [ad 0 48 (.bin .lss 3 (U 47) (U 46))])
 (.seq (.cond (U 48) .skip (.exit 2))
 (.seq (.block 3 (.seq (.al [ad 0 49 (.bq (.ao 32) (U 45) (U 47)),
 ad 1 50 (.bh 32 (U 49)),
 ad 2 11 (.alloc (rep 32 (.int .u8 0))),
 ch 3 (.st 32 (U 11) (U 50))])
 (.al [ag 0 51 5,
 ad 1 52 (.aW 3 (U 7)),
 ad 2 53 (.aW 1 (U 52)),
 ad 3 54 (.ld1 (U 53)),
 ad 4 55 (.bh 32 (U 11)),
 ad 5 56 (.gA ([.str []]++rep 32 (.int .u8 0)) [(0,1,(U 54)),(1,32,(U 55))]),
 ch 6 (.qk 77 (U 51) (U 56) (.const (.bool true)))])))
 (.al [ad 0 57 (.bin .add 3 (U 47) (.const (.int .i64 1))),
 ag 1 47 57]))))
def Vz:aX:=(.seq (.al [ad 0 27 (.bin .lss 3 (U 26) (U 25))])
 (.seq (.cond (U 27) .skip (.exit 0))
 (.seq (.block 1 (.seq (.al [ag 0 28 26,
 ad 1 29 (.bq (.ao 11) (U 24) (U 26)),
 ad 2 30 (.bh 11 (U 29)),
 ad 3 7 (.alloc [.int .u32 0,.a6,.int .u64 0,.int .u8 0,.str [],.int .u8 0,.int .i64 0,.int .u64 0,.str [],.int .u32 0,.int .u32 0]),
 ag 4 6 28,
 ch 5 (.st 11 (U 7) (U 30))])
 (.seq (.seq (.al [ad 0 31 (.aW 3 (U 7)),
 ad 1 32 (.aW 0 (U 31)),
 ad 2 33 (.ld1 (U 32)),
 ad 3 34 (.bin .neq 5 (U 33) (.const (.int .u8 3)))])
 (.cond (U 34) (.exit 1) .skip))
 (.seq (.al [ad 0 36 (.bh 2 (U 1)),
 ad 1 37 (.aW 0 (U 1)),
 ad 2 38 (.ld1 (U 37)),
 ag 3 39 6,
 ad 4 40 (.bq (.ao 32) (U 38) (U 39)),
 ad 5 41 (.bh 32 (U 40)),
 sc 6 42 56 [(U 36),(U 41)],
 ag 7 35 42,
 ad 8 43 (.ext (U 35) 0),
 ad 9 44 (.ext (U 35) 1),
 ag 10 8 43,
 ag 11 9 44])
 (.seq (.al [ag 0 45 8,
 ad 1 46 (.len (.ao 32) (U 45)),
 ad 2 47 (.av (.const (.int .i64 0)))])
 (.block 2 (.loop Vy)))))))
 (.al [ad 0 58 (.bin .add 3 (U 26) (.const (.int .i64 1))),
 ag 1 26 58]))))
def VA:aX:=(.seq (.al [ad 0 63 (.bin .lss 3 (U 62) (U 61))])
 (.seq (.cond (U 63) .skip (.exit 4))
 (.seq (.block 5 (.seq (.al [ag 0 64 62,
 ad 1 65 (.bq (.ao 11) (U 60) (U 62)),
 ad 2 66 (.bh 11 (U 65)),
 ad 3 14 (.alloc [.int .u32 0,.a6,.int .u64 0,.int .u8 0,.str [],.int .u8 0,.int .i64 0,.int .u64 0,.str [],.int .u32 0,.int .u32 0]),
 ag 4 13 64,
 ch 5 (.st 11 (U 14) (U 66))])
 (.seq (.al [ad 0 67 (.aW 3 (U 14)),
 ad 1 68 (.aW 1 (U 67)),
 ad 2 69 (.ld1 (U 68)),
 ad 3 70 (.aW 0 (U 1)),
 ad 4 71 (.ld1 (U 70)),
 ag 5 72 13,
 ad 6 73 (.bq (.ao 32) (U 71) (U 72)),
 ad 7 74 (.bh 32 (U 73)),
 ad 8 75 (.gA ([.str []]++rep 32 (.int .u8 0)) [(0,1,(U 69)),(1,32,(U 74))]),
 ad 9 15 (.alloc ([.str []]++rep 32 (.int .u8 0))),
 ch 10 (.st 33 (U 15) (U 75))])
 (.seq (.al [ad 0 76 (.aW 3 (U 14)),
 ad 1 77 (.aW 0 (U 76)),
 ad 2 78 (.ld1 (U 77)),
 ad 3 79 (.bin .eql 5 (U 78) (.const (.int .u8 2))),
 ag 4 80 79,
 aT 5 81 80 true (.av (U 5)),
 aT 6 82 80 true (.bh 33 (U 15)),
 aT 7 83 80 true (.rQ 77 (.bool false) false (U 81) (U 82)),
 aT 8 84 80 true (.un .not (U 83)),
 ad 9 85 (.pick (U 80) (U 84) (.const (.bool false)))])
 (.cond (U 85) (.al [ad 0 86 (.aW 0 (U 12)),
 ad 1 87 (.ld1 (U 86)),
 ad 2 88 (.bh 33 (U 15)),
 ad 3 89 (.c5 33 ([.str []]++rep 32 (.int .u8 0)) 1 [(0,(U 88))]),
 ad 4 90 (.app 33 48 (U 87) (U 89)),
 ad 5 91 (.aW 0 (U 12)),
 ch 6 (.st 1 (U 91) (U 90))]) .skip)))))
 (.al [ad 0 92 (.bin .add 3 (U 62) (.const (.int .i64 1))),
 ag 1 62 92]))))
def F1:aX:=(.seq (.al [ad 0 1 (.box (U 0)),
 ad 1 2 (.alloc [.a6]),
 ad 2 3 (.av (.const (.int .i64 0)))])
 (.seq (.seq (.al [ad 0 16 (.bh 2 (U 1)),
 sc 1 17 55 [(U 16)],
 ag 2 4 17])
 (.seq (.al [ag 0 18 4,
 ad 1 19 (.bin .neq 38 (U 18) (.const (.int .i64 0)))])
 (.cond (U 19) (.seq (.al [ad 0 20 (.gA [.a6] []),
 ag 1 21 4,
 ch 2 (.st 1 (U 2) (U 20)),
 ag 3 3 21])
 .ret) .skip)))
 (.seq (.al [ad 0 22 (.o9 none),
 ag 1 5 22])
 (.seq (.seq (.al [ad 0 23 (.aW 1 (U 1)),
 ad 1 24 (.ld1 (U 23)),
 ad 2 25 (.len (.ao 11) (U 24)),
 ad 3 26 (.av (.const (.int .i64 0)))])
 (.block 0 (.loop Vz)))
 (.seq (.al [ad 0 12 (.alloc [.a6])])
 (.seq (.seq (.al [ad 0 59 (.aW 1 (U 1)),
 ad 1 60 (.ld1 (U 59)),
 ad 2 61 (.len (.ao 11) (U 60)),
 ad 3 62 (.av (.const (.int .i64 0)))])
 (.block 4 (.loop VA)))
 (.seq (.al [ad 0 93 (.aW 0 (U 12)),
 ad 1 94 (.ld1 (U 93)),
 sc 2 95 57 [(U 94),(.func 41)]])
 (.seq (.al [ad 0 96 (.bh 1 (U 12)),
 ch 1 (.st 1 (U 2) (U 96)),
 ad 2 3 (.av (.const (.int .i64 0)))])
 .ret))))))))
def tD:List bb:=[.bh 1 (U 2),.av (U 3)]
theorem P5:bB Tryz.prog 24=some F1:=by kernel_rfl
theorem YC:bC Tryz.prog 24=some tD:=by kernel_rfl
def VB:aX:=(.seq (.seq (.al [ag 0 18 5,
 ad 1 19 (.aW 1 (U 1)),
 ad 2 20 (.ld1 (U 19)),
 ad 3 21 (.len (.ao 11) (U 20)),
 ad 4 22 (.bin .lss 3 (U 18) (U 21))])
 (.cond (U 22) .skip (.exit 0)))
 (.seq (.block 1 (.al [ag 0 25 4,
 ad 1 26 (.bh 2 (U 1)),
 ad 2 27 (.aW 0 (U 1)),
 ad 3 28 (.ld1 (U 27)),
 ag 4 29 5,
 ad 5 30 (.bq (.ao 32) (U 28) (U 29)),
 ad 6 31 (.bh 32 (U 30)),
 sc 7 32 29 [(U 26),(U 31)],
 ad 8 33 (.c5 1 [.a6] 1 [(0,(U 32))]),
 ad 9 34 (.app 1 24 (U 25) (U 33)),
 ag 10 4 34]))
 (.al [ag 0 23 5,
 ad 1 24 (.bin .add 3 (U 23) (.const (.int .i64 1))),
 ag 2 5 24])))
def VC:aX:=(.seq (.seq (.al [ag 0 51 10,
 ad 1 52 (.aW 1 (U 1)),
 ad 2 53 (.ld1 (U 52)),
 ad 3 54 (.len (.ao 11) (U 53)),
 ad 4 55 (.bin .lss 3 (U 51) (U 54))])
 (.cond (U 55) .skip (.exit 4)))
 (.seq (.block 5 (.seq (.al [ad 0 58 (.aW 1 (U 1)),
 ad 1 59 (.ld1 (U 58)),
 ag 2 60 10,
 ad 3 61 (.bq (.ao 11) (U 59) (U 60)),
 ad 4 62 (.aW 3 (U 61)),
 ad 5 63 (.bh 6 (U 62)),
 ad 6 11 (.alloc [.int .u8 0,.str [],.int .u8 0,.int .i64 0,.int .u64 0,.str []]),
 ch 7 (.st 6 (U 11) (U 63))])
 (.al [ag 0 64 9,
 ag 1 65 64,
 aT 2 66 65 false (.aW 0 (U 11)),
 aT 3 67 65 false (.ld1 (U 66)),
 aT 4 68 65 false (.bin .eql 5 (U 67) (.const (.int .u8 3))),
 aT 5 69 65 false (.av (U 68)),
 aT 6 70 69 true (.aW 1 (U 11)),
 aT 7 71 69 true (.ld1 (U 70)),
 aT 8 72 69 true (.aW 1 (U 8)),
 aT 9 73 69 true (.ld1 (U 72)),
 aT 10 74 69 true (.bin .eql 9 (U 71) (U 73)),
 aT 11 75 65 false (.pick (U 69) (U 74) (.const (.bool false))),
 aT 12 76 65 false (.av (U 75)),
 aT 13 77 76 true (.av (U 4)),
 aT 14 78 76 true (.av (U 10)),
 aT 15 79 76 true (.bq (.ao 1) (U 77) (U 78)),
 aT 16 80 76 true (.ld1 (U 79)),
 aT 17 81 76 true (.aW 0 (U 1)),
 aT 18 82 76 true (.ld1 (U 81)),
 aT 19 83 76 true (.av (U 7)),
 aT 20 84 76 true (.bq (.ao 32) (U 82) (U 83)),
 aT 21 85 76 true (.bh 32 (U 84)),
 ⟨22,(some 86),(some ((some 76),true)),.dq 30 [(U 80),(U 85)],[],false⟩,
 aT 23 87 65 false (.pick (U 76) (U 86) (.const (.bool false))),
 ad 24 88 (.pick (U 65) (.const (.bool true)) (U 87)),
 ag 25 9 88])))
 (.al [ag 0 56 10,
 ad 1 57 (.bin .add 3 (U 56) (.const (.int .i64 1))),
 ag 2 10 57])))
def VD:aX:=(.seq (.seq (.al [ag 0 35 7,
 ad 1 36 (.aW 1 (U 1)),
 ad 2 37 (.ld1 (U 36)),
 ad 3 38 (.len (.ao 11) (U 37)),
 ad 4 39 (.bin .lss 3 (U 35) (U 38))])
 (.cond (U 39) .skip (.exit 2)))
 (.seq (.block 3 (.seq (.al [ad 0 42 (.aW 1 (U 1)),
 ad 1 43 (.ld1 (U 42)),
 ag 2 44 7,
 ad 3 45 (.bq (.ao 11) (U 43) (U 44)),
 ad 4 46 (.aW 3 (U 45)),
 ad 5 47 (.bh 6 (U 46)),
 ad 6 8 (.alloc [.int .u8 0,.str [],.int .u8 0,.int .i64 0,.int .u64 0,.str []]),
 ch 7 (.st 6 (U 8) (U 47))])
 (.seq (.seq (.al [ad 0 48 (.aW 0 (U 8)),
 ad 1 49 (.ld1 (U 48)),
 ad 2 50 (.bin .neq 5 (U 49) (.const (.int .u8 2)))])
 (.cond (U 50) (.exit 3) .skip))
 (.seq (.al [ad 0 9 (.av (.const (.bool false)))])
 (.seq (.seq (.al [ad 0 10 (.av (.const (.int .i64 0)))])
 (.block 4 (.loop VC)))
 (.seq (.al [ag 0 89 9,
 ad 1 90 (.un .not (U 89))])
 (.cond (U 90) (.al [ad 0 91 (.aW 0 (U 6)),
 ad 1 92 (.ld1 (U 91)),
 ad 2 93 (.aW 1 (U 8)),
 ad 3 94 (.ld1 (U 93)),
 ad 4 95 (.aW 0 (U 1)),
 ad 5 96 (.ld1 (U 95)),
 ag 6 97 7,
 ad 7 98 (.bq (.ao 32) (U 96) (U 97)),
 ad 8 99 (.bh 32 (U 98)),
 ad 9 100 (.gA ([.str []]++rep 32 (.int .u8 0)) [(0,1,(U 94)),(1,32,(U 99))]),
 sc 10 101 46 [(U 92),(U 100)],
 ad 11 102 (.aW 0 (U 6)),
 ch 12 (.st 1 (U 102) (U 101))]) .skip)))))))
 (.al [ag 0 40 7,
 ad 1 41 (.bin .add 3 (U 40) (.const (.int .i64 1))),
 ag 2 7 41])))
def F2:aX:=(.seq (.al [ad 0 1 (.box (U 0)),
 ad 1 2 (.alloc [.a6]),
 ad 2 3 (.av (.const (.int .i64 0)))])
 (.seq (.seq (.al [ad 0 12 (.bh 2 (U 1)),
 sc 1 13 28 [(U 12)],
 ad 2 14 (.bin .neq 3 (U 13) (.const (.int .i64 0)))])
 (.cond (U 14) (.seq (.al [ad 0 15 (.gA [.a6] []),
 ad 1 16 (.bh 2 (U 1)),
 sc 2 17 28 [(U 16)],
 ch 3 (.st 1 (U 2) (U 15)),
 ag 4 3 17])
 .ret) .skip))
 (.seq (.al [ad 0 4 (.av (.const (.slice none 0 0)))])
 (.seq (.seq (.al [ad 0 5 (.av (.const (.int .i64 0)))])
 (.block 0 (.loop VB)))
 (.seq (.al [ad 0 6 (.alloc [.a6])])
 (.seq (.seq (.al [ad 0 7 (.av (.const (.int .i64 0)))])
 (.block 2 (.loop VD)))
 (.seq (.al [ad 0 103 (.bh 1 (U 6)),
 ch 1 (.st 1 (U 2) (U 103)),
 ad 2 3 (.av (.const (.int .i64 0)))])
 .ret)))))))
def LK:List bb:=[.bh 1 (U 2),.av (U 3)]
theorem P6:bB Tryz.prog 25=some F2:=by kernel_rfl
theorem YD:bC Tryz.prog 25=some LK:=by kernel_rfl
def VE:aX:=(.seq (.seq (.al [ag 0 21 5,
 ad 1 22 (.aW 1 (U 2)),
 ad 2 23 (.ld1 (U 22)),
 ad 3 24 (.len (.ao 11) (U 23)),
 ad 4 25 (.bin .lss 3 (U 21) (U 24))])
 (.cond (U 25) .skip (.exit 0)))
 (.seq (.block 1 (.seq (.al [ad 0 28 (.aW 1 (U 2)),
 ad 1 29 (.ld1 (U 28)),
 ag 2 30 5,
 ad 3 31 (.bq (.ao 11) (U 29) (U 30)),
 ad 4 32 (.bh 11 (U 31)),
 ad 5 33 (.aW 1 (U 3)),
 ad 6 34 (.ld1 (U 33)),
 ag 7 35 5,
 ad 8 36 (.bq (.ao 11) (U 34) (U 35)),
 ad 9 37 (.bh 11 (U 36)),
 sc 10 38 59 [(U 32),(U 37)],
 ad 11 39 (.un .not (U 38))])
 (.cond (U 39) (.seq (.al [ad 0 4 (.av (.const (.bool false)))])
 .ret) .skip)))
 (.al [ag 0 26 5,
 ad 1 27 (.bin .add 3 (U 26) (.const (.int .i64 1))),
 ag 2 5 27])))
def F3:aX:=(.seq (.al [ad 0 2 (.box (U 0)),
 ad 1 3 (.box (U 1)),
 ad 2 4 (.av (.const (.bool false)))])
 (.seq (.seq (.al [ad 0 6 (.aW 0 (U 2)),
 ad 1 7 (.ld1 (U 6)),
 ad 2 8 (.aW 0 (U 3)),
 ad 3 9 (.ld1 (U 8)),
 sc 4 10 58 [(U 7),(U 9)],
 ad 5 11 (.un .not (U 10)),
 ag 6 12 11,
 aT 7 13 12 false (.aW 1 (U 2)),
 aT 8 14 12 false (.ld1 (U 13)),
 aT 9 15 12 false (.len (.ao 11) (U 14)),
 aT 10 16 12 false (.aW 1 (U 3)),
 aT 11 17 12 false (.ld1 (U 16)),
 aT 12 18 12 false (.len (.ao 11) (U 17)),
 aT 13 19 12 false (.bin .neq 3 (U 15) (U 18)),
 ad 14 20 (.pick (U 12) (.const (.bool true)) (U 19))])
 (.cond (U 20) (.seq (.al [ad 0 4 (.av (.const (.bool false)))])
 .ret) .skip))
 (.seq (.seq (.al [ad 0 5 (.av (.const (.int .i64 0)))])
 (.block 0 (.loop VE)))
 (.seq (.al [ad 0 4 (.av (.const (.bool true)))])
 .ret))))
def LL:List bb:=[.av (U 4)]
theorem P7:bB Tryz.prog 26=some F3:=by kernel_rfl
theorem YE:bC Tryz.prog 26=some LL:=by kernel_rfl
def VF:aX:=(.seq (.seq (.al [ag 0 15 3,
 ad 1 16 (.aW 1 (U 1)),
 ad 2 17 (.ld1 (U 16)),
 ad 3 18 (.len (.ao 11) (U 17)),
 ad 4 19 (.bin .lss 3 (U 15) (U 18))])
 (.cond (U 19) .skip (.exit 0)))
 (.seq (.block 1 (.seq (.ho [ad 0 22 (.aW 1 (U 1)),
 ad 1 23 (.ld1 (U 22)),
 ag 2 24 3,
 ad 3 25 (.bq (.ao 11) (U 23) (U 24)),
 ad 4 26 (.bh 11 (U 25)),
 sc 5 27 61 [(U 26)],
 ad 6 28 (.bin .neq 3 (U 27) (.const (.int .i64 0))),
 ag 7 29 28,
 aT 8 30 29 false (.aW 1 (U 1)),
 aT 9 31 29 false (.ld1 (U 30)),
 aT 10 32 29 false (.av (U 3)),
 aT 11 33 29 false (.bq (.ao 11) (U 31) (U 32)),
 aT 12 34 29 false (.bh 11 (U 33)),
 aT 14 36 29 false (.aW 0 (U 1)),
 ⟨15,(some 37),(some ((some 29),false)),.c2 (.ld1 (U 36)),[],true⟩,
 aT 16 38 29 false (.av (U 3)),
 aT 17 39 29 false (.bq (.ao 32) (U 37) (U 38)),
 ⟨18,(some 40),(some ((some 29),false)),.c2 (.bh 32 (U 39)),[],true⟩,
 ⟨13,(some 35),(some ((some 29),false)),.dq 32 [(U 34)],[18,15],false⟩,
 aT 19 41 29 false (.bin .neq 71 (U 35) (U 40)),
 ad 20 42 (.pick (U 29) (.const (.bool true)) (U 41))])
 (.cond (U 42) (.seq (.al [ad 0 2 (.av (.const (.int .i64 8)))])
 .ret) .skip)))
 (.al [ag 0 20 3,
 ad 1 21 (.bin .add 3 (U 20) (.const (.int .i64 1))),
 ag 2 3 21])))
def F4:aX:=(.seq (.al [ad 0 1 (.box (U 0)),
 ad 1 2 (.av (.const (.int .i64 0)))])
 (.seq (.seq (.al [ad 0 4 (.aW 1 (U 1)),
 ad 1 5 (.ld1 (U 4)),
 ad 2 6 (.len (.ao 11) (U 5)),
 ad 3 7 (.bin .gtr 3 (U 6) (.const (.int .i64 60)))])
 (.cond (U 7) (.seq (.al [ad 0 2 (.av (.const (.int .i64 4)))])
 .ret) .skip))
 (.seq (.seq (.al [ad 0 8 (.aW 0 (U 1)),
 ad 1 9 (.ld1 (U 8)),
 ad 2 10 (.len (.ao 32) (U 9)),
 ad 3 11 (.aW 1 (U 1)),
 ad 4 12 (.ld1 (U 11)),
 ad 5 13 (.len (.ao 11) (U 12)),
 ad 6 14 (.bin .neq 3 (U 10) (U 13))])
 (.cond (U 14) (.seq (.al [ad 0 2 (.av (.const (.int .i64 8)))])
 .ret) .skip))
 (.seq (.seq (.al [ad 0 3 (.av (.const (.int .i64 0)))])
 (.block 0 (.loop VF)))
 (.seq (.al [ad 0 43 (.bh 2 (U 1)),
 sc 1 44 62 [(U 43)],
 ag 2 2 44])
 .ret)))))
def LM:List bb:=[.av (U 2)]
theorem P8:bB Tryz.prog 28=some F4:=by kernel_rfl
theorem YF:bC Tryz.prog 28=some LM:=by kernel_rfl
def VG:aX:=(.seq (.seq (.al [ag 0 21 8,
 ad 1 22 (.aW 1 (U 7)),
 ad 2 23 (.ld1 (U 22)),
 ad 3 24 (.len (.ao 32) (U 23)),
 ad 4 25 (.bin .lss 3 (U 21) (U 24))])
 (.cond (U 25) .skip (.exit 2)))
 (.seq (.block 3 (.seq (.al [ag 0 28 5,
 ad 1 29 (.aW 1 (U 7)),
 ad 2 30 (.ld1 (U 29)),
 ag 3 31 8,
 ad 4 32 (.bq (.ao 32) (U 30) (U 31)),
 ad 5 33 (.bh 32 (U 32)),
 sc 6 34 30 [(U 28),(U 33)],
 ad 7 35 (.un .not (U 34))])
 (.cond (U 35) (.seq (.al [ag 0 36 5,
 ad 1 37 (.aW 1 (U 7)),
 ad 2 38 (.ld1 (U 37)),
 ag 3 39 8,
 ad 4 40 (.bq (.ao 32) (U 38) (U 39)),
 ad 5 41 (.bh 32 (U 40)),
 ad 6 42 (.c5 32 (rep 32 (.int .u8 0)) 1 [(0,(U 41))]),
 ad 7 43 (.app 32 32 (U 36) (U 42)),
 ag 8 5 43])
 (.al [ag 0 44 6,
 ad 1 45 (.aW 1 (U 7)),
 ad 2 46 (.ld1 (U 45)),
 ag 3 47 8,
 ad 4 48 (.bq (.ao 32) (U 46) (U 47)),
 ad 5 49 (.bh 32 (U 48)),
 ad 6 50 (.c5 32 (rep 32 (.int .u8 0)) 1 [(0,(U 49))]),
 ad 7 51 (.app 32 32 (U 44) (U 50)),
 ag 8 6 51])) .skip)))
 (.al [ag 0 26 8,
 ad 1 27 (.bin .add 3 (U 26) (.const (.int .i64 1))),
 ag 2 8 27])))
def VH:aX:=(.seq (.seq (.al [ag 0 11 6,
 ad 1 12 (.len (.ao 32) (U 11)),
 ad 2 13 (.bin .gtr 3 (U 12) (.const (.int .i64 0)))])
 (.cond (U 13) .skip (.exit 0)))
 (.block 1 (.seq (.ho [ad 0 14 (.bh 2 (U 2)),
 ag 1 15 6,
 ad 2 16 (.bq (.ao 32) (U 15) (.const (.int .i64 0))),
 ad 3 17 (.bh 32 (U 16)),
 ⟨5,(some 7),none,.c2 (.alloc [.int .u32 0,.a6,.int .u64 0,.int .u8 0,.str [],.int .u8 0,.int .i64 0,.int .u64 0,.str [],.int .u32 0,.int .u32 0]),[],true⟩,
 ⟨4,(some 18),none,.dq 35 [(U 14),(U 17)],[5],false⟩,
 ch 6 (.st 11 (U 7) (U 18))])
 (.seq (.al [ag 0 19 6,
 ad 1 20 (.slice (.ao 32) (U 19) (some (.const (.int .i64 1))) none none),
 ag 2 6 20])
 (.seq (.al [ad 0 8 (.av (.const (.int .i64 0)))])
 (.block 2 (.loop VG)))))))
def F5:aX:=(.seq (.al [ad 0 2 (.box (U 0)),
 ad 1 3 (.box (U 1)),
 ad 2 4 (.av (.const (.slice none 0 0)))])
 (.seq (.al [ad 0 5 (.av (.const (.slice none 0 0)))])
 (.seq (.al [ad 0 9 (.bh 32 (U 3)),
 ad 1 10 (.c5 32 (rep 32 (.int .u8 0)) 1 [(0,(U 9))]),
 ag 2 6 10])
 (.seq (.block 0 (.loop VH))
 (.seq (.al [ag 0 52 5,
 ag 1 4 52])
 .ret)))))
def LN:List bb:=[.av (U 4)]
theorem P9:bB Tryz.prog 29=some F5:=by kernel_rfl
theorem YG:bC Tryz.prog 29=some LN:=by kernel_rfl
def VI:aX:=(.seq (.seq (.al [ag 0 6 5,
 ag 1 7 0,
 ad 2 8 (.len (.ao 32) (U 7)),
 ad 3 9 (.bin .lss 3 (U 6) (U 8))])
 (.cond (U 9) .skip (.exit 0)))
 (.seq (.block 1 (.seq (.al [ag 0 12 0,
 ag 1 13 5,
 ad 2 14 (.bq (.ao 32) (U 12) (U 13)),
 ad 3 15 (.bh 32 (U 14)),
 ad 4 16 (.bh 32 (U 3)),
 ad 5 17 (.bin .eql 71 (U 15) (U 16))])
 (.cond (U 17) (.seq (.al [ad 0 4 (.av (.const (.bool true)))])
 .ret) .skip)))
 (.al [ag 0 10 5,
 ad 1 11 (.bin .add 3 (U 10) (.const (.int .i64 1))),
 ag 2 5 11])))
def F6:aX:=(.seq (.al [ad 0 3 (.box (U 1)),
 ad 1 4 (.av (.const (.bool false)))])
 (.seq (.seq (.al [ad 0 5 (.av (.const (.int .i64 0)))])
 (.block 0 (.loop VI)))
 (.seq (.al [ad 0 4 (.av (.const (.bool false)))])
 .ret)))
def LO:List bb:=[.av (U 4)]
theorem Qa:bB Tryz.prog 30=some F6:=by kernel_rfl
theorem YH:bC Tryz.prog 30=some LO:=by kernel_rfl
def F7:aX:=(.seq (.al [ad 0 1 (.box (U 0)),
 ad 1 2 (.av (.const (.int .i64 0)))])
 (.seq (.seq (.al [ad 0 3 (.aW 1 (U 1)),
 ad 1 4 (.ld1 (U 3)),
 ad 2 5 (.len (.ao 32) (U 4)),
 ad 3 6 (.bin .gtr 3 (U 5) (.const (.int .i64 4)))])
 (.cond (U 6) (.seq (.al [ad 0 2 (.av (.const (.int .i64 4)))])
 .ret) .skip))
 (.seq (.seq (.al [ad 0 7 (.aW 1 (U 1)),
 ad 1 8 (.ld1 (U 7)),
 sc 2 9 63 [(U 8)],
 ad 3 10 (.un .not (U 9))])
 (.cond (U 10) (.seq (.al [ad 0 2 (.av (.const (.int .i64 32)))])
 .ret) .skip))
 (.seq (.seq (.al [ad 0 11 (.aW 0 (U 1)),
 ad 1 12 (.ld1 (U 11)),
 sc 2 13 64 [(U 12)],
 ad 3 14 (.un .not (U 13)),
 ag 4 15 14,
 aT 5 16 15 false (.aW 2 (U 1)),
 aT 6 17 15 false (.ld1 (U 16)),
 aT 7 18 15 false (.bin .gtr 27 (U 17) (.const (.int .u64 1000000000000))),
 ad 8 19 (.pick (U 15) (.const (.bool true)) (U 18)),
 ag 9 20 19,
 aT 10 21 20 false (.aW 3 (U 1)),
 aT 11 22 20 false (.bh 6 (U 21)),
 ⟨12,(some 23),(some ((some 20),false)),.dq 65 [(U 22)],[],false⟩,
 aT 13 24 20 false (.bin .neq 3 (U 23) (.const (.int .i64 0))),
 ad 14 25 (.pick (U 20) (.const (.bool true)) (U 24)),
 ag 15 26 25,
 aT 16 27 26 false (.aW 9 (U 1)),
 aT 17 28 26 false (.aW 0 (U 27)),
 aT 18 29 26 false (.ld1 (U 28)),
 ⟨19,(some 30),(some ((some 26),false)),.dq 66 [(U 29)],[],false⟩,
 aT 20 31 26 false (.un .not (U 30)),
 ad 21 32 (.pick (U 26) (.const (.bool true)) (U 31)),
 ag 22 33 32,
 aT 23 34 33 false (.aW 9 (U 1)),
 aT 24 35 33 false (.aW 1 (U 34)),
 aT 25 36 33 false (.ld1 (U 35)),
 ⟨26,(some 37),(some ((some 33),false)),.dq 66 [(U 36)],[],false⟩,
 aT 27 38 33 false (.un .not (U 37)),
 ad 28 39 (.pick (U 33) (.const (.bool true)) (U 38))])
 (.cond (U 39) (.seq (.al [ad 0 2 (.av (.const (.int .i64 8)))])
 .ret) .skip))
 (.seq (.al [ad 0 2 (.av (.const (.int .i64 0)))])
 .ret)))))
def LP:List bb:=[.av (U 2)]
theorem Qb:bB Tryz.prog 31=some F7:=by kernel_rfl
theorem YI:bC Tryz.prog 31=some LP:=by kernel_rfl
def F8:aX:=(.seq (.al [ad 0 1 (.box (U 0)),
 ad 1 2 (.alloc (rep 32 (.int .u8 0)))])
 (.seq (.al [ad 0 3 (.bh 11 (U 1)),
 sc 1 4 68 [(U 3)],
 sc 2 5 67 [(U 4)],
 ch 3 (.st 32 (U 2) (U 5))])
 .ret))
def LQ:List bb:=[.bh 32 (U 2)]
theorem Qc:bB Tryz.prog 32=some F8:=by kernel_rfl
theorem YJ:bC Tryz.prog 32=some LQ:=by kernel_rfl
def F9:aX:=(.seq (.al [ad 0 2 (.box (U 0)),
 ad 1 3 (.box (U 1)),
 ad 2 4 (.alloc [.int .u32 0,.a6,.int .u64 0,.int .u8 0,.str [],.int .u8 0,.int .i64 0,.int .u64 0,.str [],.int .u32 0,.int .u32 0])])
 (.seq (.al [ad 0 6 (.aW 0 (U 2)),
 ad 1 7 (.ld1 (U 6)),
 ad 2 8 (.bh 32 (U 3)),
 sc 3 9 70 [(U 7),(U 8)],
 ag 4 5 9])
 (.seq (.seq (.al [ag 0 10 5,
 ad 1 11 (.bin .lss 3 (U 10) (.const (.int .i64 0))),
 ag 2 12 11,
 aT 3 13 12 false (.av (U 5)),
 aT 4 14 12 false (.aW 1 (U 2)),
 aT 5 15 12 false (.ld1 (U 14)),
 aT 6 16 12 false (.len (.ao 11) (U 15)),
 aT 7 17 12 false (.bin .geq 3 (U 13) (U 16)),
 ad 8 18 (.pick (U 12) (.const (.bool true)) (U 17))])
 (.cond (U 18) (.seq (.al [ad 0 19 (.gA [.int .u32 0,.a6,.int .u64 0,.int .u8 0,.str [],.int .u8 0,.int .i64 0,.int .u64 0,.str [],.int .u32 0,.int .u32 0] []),
 ch 1 (.st 11 (U 4) (U 19))])
 .ret) .skip))
 (.seq (.al [ad 0 20 (.aW 1 (U 2)),
 ad 1 21 (.ld1 (U 20)),
 ag 2 22 5,
 ad 3 23 (.bq (.ao 11) (U 21) (U 22)),
 ad 4 24 (.bh 11 (U 23)),
 ch 5 (.st 11 (U 4) (U 24))])
 .ret))))
def LR:List bb:=[.bh 11 (U 4)]
theorem Qd:bB Tryz.prog 35=some F9:=by kernel_rfl
theorem YK:bC Tryz.prog 35=some LR:=by kernel_rfl
def Ga:aX:=(.seq (.al [ad 0 1 (.box (U 0)),
 ad 1 2 (.alloc (rep 32 (.int .u8 0))),
 ad 2 3 (.av (.const (.int .i64 0)))])
 (.seq (.al [ad 0 7 (.bh 11 (U 1)),
 sc 1 8 72 [(U 7)],
 ag 2 6 8,
 ad 3 9 (.ext (U 6) 0),
 ad 4 10 (.ext (U 6) 1),
 ag 5 4 9,
 ag 6 5 10])
 (.seq (.seq (.al [ag 0 11 5,
 ad 1 12 (.bin .neq 38 (U 11) (.const (.int .i64 0)))])
 (.cond (U 12) (.seq (.al [ad 0 13 (.gA (rep 32 (.int .u8 0)) []),
 ag 1 14 5,
 ch 2 (.st 32 (U 2) (U 13)),
 ag 3 3 14])
 .ret) .skip))
 (.seq (.al [ag 0 15 4,
 sc 1 16 73 [(U 15)],
 ad 2 17 (.ext (U 16) 0),
 ad 3 18 (.ext (U 16) 1),
 ch 4 (.st 32 (U 2) (U 17)),
 ag 5 3 18])
 .ret))))
def LS:List bb:=[.bh 32 (U 2),.av (U 3)]
theorem Qe:bB Tryz.prog 38=some Ga:=by kernel_rfl
theorem YL:bC Tryz.prog 38=some LS:=by kernel_rfl
def Gb:aX:=(.seq (.al [ad 0 2 (.box (U 0)),
 ad 1 3 (.box (U 1)),
 ad 2 4 (.av (.const (.int .i64 0)))])
 (.seq (.al [ad 0 5 (.aW 0 (U 2)),
 ad 1 6 (.ld1 (U 5)),
 ad 2 7 (.aW 0 (U 3)),
 ad 3 8 (.ld1 (U 7)),
 ad 5 10 (.aW 1 (U 2)),
 ad 6 11 (.slice (.arr 32 1) (U 10) none none none),
 ad 7 12 (.aW 1 (U 3)),
 ad 8 13 (.slice (.arr 32 1) (U 12) none none none),
 sc 4 9 75 [(U 6),(U 8)],
 sc 9 14 76 [(U 11),(U 13)],
 ad 10 15 (.c5 1 [.int .i64 0] 2 [(0,(U 9)),(1,(U 14))]),
 sc 11 16 74 [(U 15)],
 ag 12 4 16])
 .ret))
def LU:List bb:=[.av (U 4)]
theorem Qf:bB Tryz.prog 41=some Gb:=by kernel_rfl
theorem YM:bC Tryz.prog 41=some LU:=by kernel_rfl
def VJ:aX:=(.seq (.seq (.al [ag 0 16 6,
 ad 1 17 (.bin .gtr 3 (U 16) (.const (.int .i64 0))),
 ag 2 18 17,
 aT 3 19 18 true (.av (U 5)),
 aT 4 20 18 true (.av (U 6)),
 aT 5 21 18 true (.bq (.ao 33) (U 19) (U 20)),
 aT 6 22 18 true (.bh 33 (U 21)),
 aT 7 23 18 true (.av (U 5)),
 aT 8 24 18 true (.av (U 6)),
 aT 9 25 18 true (.bin .sub 3 (U 24) (.const (.int .i64 1))),
 aT 10 26 18 true (.bq (.ao 33) (U 23) (U 25)),
 aT 11 27 18 true (.bh 33 (U 26)),
 ⟨12,(some 28),(some ((some 18),true)),.dq 52 [(U 22),(U 27)],[],false⟩,
 ad 13 29 (.pick (U 18) (U 28) (.const (.bool false)))])
 (.cond (U 29) .skip (.exit 0)))
 (.seq (.block 1 (.al [ag 0 32 5,
 ag 1 33 6,
 ag 2 34 5,
 ag 3 35 6,
 ad 4 36 (.bin .sub 3 (U 35) (.const (.int .i64 1))),
 ag 5 37 5,
 ag 6 38 6,
 ad 7 39 (.bin .sub 3 (U 38) (.const (.int .i64 1))),
 ad 8 40 (.bq (.ao 33) (U 37) (U 39)),
 ad 9 41 (.bh 33 (U 40)),
 ag 10 42 5,
 ag 11 43 6,
 ad 12 44 (.bq (.ao 33) (U 42) (U 43)),
 ad 13 45 (.bh 33 (U 44)),
 ad 14 46 (.bq (.ao 33) (U 32) (U 33)),
 ch 15 (.st 33 (U 46) (U 41)),
 ad 16 47 (.bq (.ao 33) (U 34) (U 36)),
 ch 17 (.st 33 (U 47) (U 45))]))
 (.al [ag 0 30 6,
 ad 1 31 (.bin .sub 3 (U 30) (.const (.int .i64 1))),
 ag 2 6 31])))
def Gc:aX:=(.seq (.al [ad 0 3 (.box (U 1)),
 ad 1 4 (.av (.const (.slice none 0 0)))])
 (.seq (.ho [ad 0 7 (.c5 33 ([.str []]++rep 32 (.int .u8 0)) 0 []),
 ag 1 8 0,
 ⟨3,(some 10),none,.c2 (.bh 33 (U 3)),[],true⟩,
 ⟨4,(some 11),none,.c2 (.c5 33 ([.str []]++rep 32 (.int .u8 0)) 1 [(0,(U 10))]),[],true⟩,
 ⟨2,(some 9),none,.c2 (.app 33 48 (U 7) (U 8)),[4,3],false⟩,
 ad 5 12 (.app 33 48 (U 9) (U 11)),
 ag 6 5 12])
 (.seq (.seq (.al [ag 0 13 5,
 ad 1 14 (.len (.ao 33) (U 13)),
 ad 2 15 (.bin .sub 3 (U 14) (.const (.int .i64 1))),
 ag 3 6 15])
 (.block 0 (.loop VJ)))
 (.seq (.al [ag 0 48 5,
 ag 1 4 48])
 .ret))))
def LV:List bb:=[.av (U 4)]
theorem Qg:bB Tryz.prog 46=some Gc:=by kernel_rfl
theorem YN:bC Tryz.prog 46=some LV:=by kernel_rfl
def Gd:aX:=(.seq (.al [ad 0 1 (.box (U 0)),
 ad 1 2 (.av (.const (.int .i64 0)))])
 (.seq (.al [ad 0 3 (.av (.const (.bool false)))])
 (.seq (.seq (.al [ad 0 4 (.aW 0 (U 1)),
 ad 1 5 (.ld1 (U 4))])
 (.block 0 (.seq (.al [ad 0 7 (.bin .eql 5 (U 5) (.const (.int .u8 1))),
 ag 1 6 7])
 (.cond (U 6) (.al [ad 0 8 (.bh 6 (U 1)),
 ad 1 9 (.gA [.int .u8 0,.str [],.int .u8 0,.int .i64 0,.int .u64 0,.str []] [(0,1,(.const (.int .u8 1)))]),
 ad 2 10 (.bin .eql 31 (U 8) (U 9)),
 ag 3 3 10]) (.seq (.seq (.al [ad 0 12 (.bin .eql 5 (U 5) (.const (.int .u8 2))),
 ag 1 11 12])
 (.cond (U 11) .skip (.al [ad 0 13 (.bin .eql 5 (U 5) (.const (.int .u8 3))),
 ag 1 11 13])))
 (.cond (U 11) (.al [ad 0 14 (.aW 1 (U 1)),
 ad 1 15 (.ld1 (U 14)),
 sc 2 16 82 [(U 15)],
 ag 3 17 16,
 aT 4 18 17 true (.aW 2 (U 1)),
 aT 5 19 17 true (.bh 4 (U 18)),
 aT 6 20 17 true (.gA [.int .u8 0,.int .i64 0,.int .u64 0,.str []] []),
 aT 7 21 17 true (.bin .eql 29 (U 19) (U 20)),
 ad 8 22 (.pick (U 17) (U 21) (.const (.bool false))),
 ag 9 3 22]) (.seq (.al [ad 0 24 (.bin .eql 5 (U 5) (.const (.int .u8 4))),
 ag 1 23 24])
 (.cond (U 23) (.al [ad 0 25 (.aW 1 (U 1)),
 ad 1 26 (.ld1 (U 25)),
 sc 2 27 82 [(U 26)],
 ag 3 28 27,
 aT 4 29 28 true (.aW 2 (U 1)),
 aT 5 30 28 true (.bh 4 (U 29)),
 ⟨6,(some 31),(some ((some 28),true)),.dq 83 [(U 30)],[],false⟩,
 aT 7 32 28 true (.bin .eql 38 (U 31) (.const (.int .i64 0))),
 ad 8 33 (.pick (U 28) (U 32) (.const (.bool false))),
 ag 9 3 33]) .skip))))))))
 (.seq (.seq (.al [ag 0 34 3,
 ad 1 35 (.un .not (U 34))])
 (.cond (U 35) (.seq (.al [ad 0 2 (.av (.const (.int .i64 8)))])
 .ret) .skip))
 (.seq (.al [ad 0 2 (.av (.const (.int .i64 0)))])
 .ret)))))
def LW:List bb:=[.av (U 2)]
theorem Qi:bB Tryz.prog 50=some Gd:=by kernel_rfl
theorem YP:bC Tryz.prog 50=some LW:=by kernel_rfl
def VK:aX:=(.seq (.seq (.al [ag 0 12 3,
 ag 1 13 0,
 ad 2 14 (.len .str (U 13)),
 ad 3 15 (.bin .lss 3 (U 12) (U 14))])
 (.cond (U 15) .skip (.exit 0)))
 (.seq (.block 1 (.seq (.al [ag 0 18 0,
 ag 1 19 3,
 ad 2 20 (.oZ (U 18) (U 19)),
 ad 3 21 (.bin .lss 5 (U 20) (.const (.int .u8 33))),
 ag 4 22 21,
 aT 5 23 22 false (.av (U 0)),
 aT 6 24 22 false (.av (U 3)),
 aT 7 25 22 false (.oZ (U 23) (U 24)),
 aT 8 26 22 false (.bin .gtr 5 (U 25) (.const (.int .u8 126))),
 ad 9 27 (.pick (U 22) (.const (.bool true)) (U 26))])
 (.cond (U 27) (.seq (.al [ad 0 2 (.av (.const (.bool false)))])
 .ret) .skip)))
 (.al [ag 0 16 3,
 ad 1 17 (.bin .add 3 (U 16) (.const (.int .i64 1))),
 ag 2 3 17])))
def Ge:aX:=(.seq (.al [ad 0 2 (.av (.const (.bool false)))])
 (.seq (.seq (.al [ag 0 4 0,
 ad 1 5 (.len .str (U 4)),
 ad 2 6 (.bin .lss 3 (U 5) (.const (.int .i64 1))),
 ag 3 7 6,
 aT 4 8 7 false (.av (U 0)),
 aT 5 9 7 false (.len .str (U 8)),
 aT 6 10 7 false (.bin .gtr 3 (U 9) (.const (.int .i64 20))),
 ad 7 11 (.pick (U 7) (.const (.bool true)) (U 10))])
 (.cond (U 11) (.seq (.al [ad 0 2 (.av (.const (.bool false)))])
 .ret) .skip))
 (.seq (.seq (.al [ad 0 3 (.av (.const (.int .i64 0)))])
 (.block 0 (.loop VK)))
 (.seq (.al [ad 0 2 (.av (.const (.bool true)))])
 .ret))))
def LX:List bb:=[.av (U 2)]
theorem Qj:bB Tryz.prog 51=some Ge:=by kernel_rfl
theorem YQ:bC Tryz.prog 51=some LX:=by kernel_rfl
def Gf:aX:=(.seq (.al [ad 0 2 (.box (U 0)),
 ad 1 3 (.box (U 1)),
 ad 2 4 (.av (.const (.bool false)))])
 (.seq (.seq (.al [ad 0 5 (.aW 0 (U 2)),
 ad 1 6 (.ld1 (U 5)),
 ad 2 7 (.aW 0 (U 3)),
 ad 3 8 (.ld1 (U 7)),
 ad 4 9 (.bin .neq 9 (U 6) (U 8))])
 (.cond (U 9) (.seq (.al [ad 0 10 (.aW 0 (U 2)),
 ad 1 11 (.ld1 (U 10)),
 ad 2 12 (.aW 0 (U 3)),
 ad 3 13 (.ld1 (U 12)),
 ad 4 14 (.bin .lss 9 (U 11) (U 13)),
 ag 5 4 14])
 .ret) .skip))
 (.seq (.al [ad 0 15 (.aW 1 (U 2)),
 ad 1 16 (.bh 32 (U 15)),
 ad 2 17 (.aW 1 (U 3)),
 ad 3 18 (.bh 32 (U 17)),
 sc 4 19 84 [(U 16),(U 18)],
 ad 5 20 (.bin .lss 3 (U 19) (.const (.int .i64 0))),
 ag 6 4 20])
 .ret)))
def LY:List bb:=[.av (U 4)]
theorem Qk:bB Tryz.prog 52=some Gf:=by kernel_rfl
theorem YR:bC Tryz.prog 52=some LY:=by kernel_rfl
def Gg:aX:=(.seq (.al [ad 0 1 (.box (U 0)),
 ad 1 2 (.av (.const (.bool false)))])
 (.seq (.al [ad 0 3 (.aW 1 (U 1)),
 ad 1 4 (.ld1 (U 3)),
 ad 2 5 (.len (.ao 32) (U 4)),
 ad 3 6 (.bin .gtr 3 (U 5) (.const (.int .i64 20))),
 ag 4 7 6,
 aT 5 8 7 false (.aW 3 (U 1)),
 aT 6 9 7 false (.aW 1 (U 8)),
 aT 7 10 7 false (.ld1 (U 9)),
 aT 8 11 7 false (.len .str (U 10)),
 aT 9 12 7 false (.bin .gtr 3 (U 11) (.const (.int .i64 100))),
 ad 10 13 (.pick (U 7) (.const (.bool true)) (U 12)),
 ag 11 14 13,
 aT 12 15 14 false (.aW 3 (U 1)),
 aT 13 16 14 false (.aW 2 (U 15)),
 aT 14 17 14 false (.aW 3 (U 16)),
 aT 15 18 14 false (.ld1 (U 17)),
 aT 16 19 14 false (.len .str (U 18)),
 aT 17 20 14 false (.bin .gtr 3 (U 19) (.const (.int .i64 100))),
 ad 18 21 (.pick (U 14) (.const (.bool true)) (U 20)),
 ag 19 2 21])
 .ret))
def LZ:List bb:=[.av (U 2)]
theorem Ql:bB Tryz.prog 53=some Gg:=by kernel_rfl
theorem YS:bC Tryz.prog 53=some LZ:=by kernel_rfl
def Gh:aX:=(.seq (.al [ad 0 1 (.box (U 0)),
 ad 1 2 (.alloc [.int .u32 0,.a6,.int .u64 0,.int .u8 0,.str [],.int .u8 0,.int .i64 0,.int .u64 0,.str [],.int .u32 0,.int .u32 0])])
 (.seq (.al [ad 0 3 (.c5 32 (rep 32 (.int .u8 0)) 0 []),
 ad 1 4 (.aW 1 (U 1)),
 ad 2 5 (.ld1 (U 4)),
 ad 3 6 (.app 32 32 (U 3) (U 5)),
 ad 4 7 (.aW 1 (U 1)),
 ch 5 (.st 1 (U 7) (U 6))])
 (.seq (.al [ad 0 8 (.bh 11 (U 1)),
 ch 1 (.st 11 (U 2) (U 8))])
 .ret)))
def L0:List bb:=[.bh 11 (U 2)]
theorem Qm:bB Tryz.prog 54=some Gh:=by kernel_rfl
theorem YT:bC Tryz.prog 54=some L0:=by kernel_rfl
def VL:aX:=(.seq (.al [ad 0 22 (.bin .lss 3 (U 21) (U 20))])
 (.seq (.cond (U 22) .skip (.exit 0))
 (.seq (.block 1 (.seq (.al [ag 0 23 21,
 ad 1 24 (.bq (.ao 11) (U 19) (U 21)),
 ad 2 25 (.bh 11 (U 24)),
 ad 3 4 (.alloc [.int .u32 0,.a6,.int .u64 0,.int .u8 0,.str [],.int .u8 0,.int .i64 0,.int .u64 0,.str [],.int .u32 0,.int .u32 0]),
 ag 4 3 23,
 ch 5 (.st 11 (U 4) (U 25))])
 (.seq (.al [ad 0 27 (.bh 11 (U 4)),
 sc 1 28 38 [(U 27)],
 ag 2 26 28,
 ad 3 29 (.ext (U 26) 0),
 ad 4 30 (.ext (U 26) 1),
 ad 5 5 (.alloc (rep 32 (.int .u8 0))),
 ch 6 (.st 32 (U 5) (U 29)),
 ag 7 6 30])
 (.seq (.al [ag 0 31 6,
 ad 1 32 (.bin .neq 38 (U 31) (.const (.int .i64 0))),
 ag 2 33 32,
 aT 3 34 33 false (.bh 32 (U 5)),
 aT 4 35 33 false (.aW 0 (U 1)),
 aT 5 36 33 false (.ld1 (U 35)),
 aT 6 37 33 false (.av (U 3)),
 aT 7 38 33 false (.bq (.ao 32) (U 36) (U 37)),
 aT 8 39 33 false (.bh 32 (U 38)),
 aT 9 40 33 false (.bin .neq 71 (U 34) (U 39)),
 ad 10 41 (.pick (U 33) (.const (.bool true)) (U 40)),
 ag 11 42 41,
 aT 12 43 42 false (.bh 11 (U 4)),
 ⟨13,(some 44),(some ((some 42),false)),.dq 85 [(U 43)],[],false⟩,
 aT 14 45 42 false (.bin .neq 38 (U 44) (.const (.int .i64 0))),
 ad 15 46 (.pick (U 42) (.const (.bool true)) (U 45))])
 (.cond (U 46) (.seq (.al [ad 0 2 (.av (.const (.int .i64 8)))])
 .ret) .skip)))))
 (.al [ad 0 47 (.bin .add 3 (U 21) (.const (.int .i64 1))),
 ag 1 21 47]))))
def Gi:aX:=(.seq (.al [ad 0 1 (.box (U 0)),
 ad 1 2 (.av (.const (.int .i64 0)))])
 (.seq (.seq (.al [ad 0 7 (.aW 1 (U 1)),
 ad 1 8 (.ld1 (U 7)),
 ad 2 9 (.len (.ao 11) (U 8)),
 ad 3 10 (.bin .gtr 3 (U 9) (.const (.int .i64 60)))])
 (.cond (U 10) (.seq (.al [ad 0 2 (.av (.const (.int .i64 4)))])
 .ret) .skip))
 (.seq (.seq (.al [ad 0 11 (.aW 0 (U 1)),
 ad 1 12 (.ld1 (U 11)),
 ad 2 13 (.len (.ao 32) (U 12)),
 ad 3 14 (.aW 1 (U 1)),
 ad 4 15 (.ld1 (U 14)),
 ad 5 16 (.len (.ao 11) (U 15)),
 ad 6 17 (.bin .neq 3 (U 13) (U 16))])
 (.cond (U 17) (.seq (.al [ad 0 2 (.av (.const (.int .i64 8)))])
 .ret) .skip))
 (.seq (.seq (.al [ad 0 18 (.aW 1 (U 1)),
 ad 1 19 (.ld1 (U 18)),
 ad 2 20 (.len (.ao 11) (U 19)),
 ad 3 21 (.av (.const (.int .i64 0)))])
 (.block 0 (.loop VL)))
 (.seq (.al [ad 0 48 (.bh 2 (U 1)),
 sc 1 49 86 [(U 48)],
 ag 2 2 49])
 .ret)))))
def L1:List bb:=[.av (U 2)]
theorem Qn:bB Tryz.prog 55=some Gi:=by kernel_rfl
theorem YU:bC Tryz.prog 55=some L1:=by kernel_rfl
def Gj:aX:=(.seq (.al [ad 0 2 (.box (U 0)),
 ad 1 3 (.box (U 1)),
 ad 2 4 (.av (.const (.slice none 0 0))),
 ad 3 5 (.av (.const (.int .i64 0)))])
 (.seq (.al [ad 0 9 (.bh 2 (U 2)),
 ad 1 10 (.bh 32 (U 3)),
 sc 2 11 87 [(U 9),(U 10)],
 ag 3 8 11,
 ad 4 12 (.ext (U 8) 0),
 ad 5 13 (.ext (U 8) 1),
 ag 6 6 12,
 ag 7 7 13])
 (.seq (.seq (.al [ag 0 14 7,
 ad 1 15 (.bin .neq 38 (U 14) (.const (.int .i64 0)))])
 (.cond (U 15) (.seq (.al [ag 0 16 7,
 ad 1 4 (.av (.const (.slice none 0 0))),
 ag 2 5 16])
 .ret) .skip))
 (.seq (.ho [⟨0,(some 17),none,.c2 (.bh 2 (U 2)),[],true⟩,
 ad 1 18 (.bh 2 (U 2)),
 ad 2 19 (.aW 1 (U 2)),
 ad 3 20 (.ld1 (U 19)),
 ag 4 21 6,
 ad 5 22 (.bq (.ao 11) (U 20) (U 21)),
 ad 6 23 (.aW 1 (U 22)),
 ad 7 24 (.ld1 (U 23)),
 ⟨8,(some 25),none,.dq 89 [(U 18),(U 24)],[0],false⟩,
 sc 9 26 88 [(U 17),(U 25)],
 ag 10 4 26,
 ad 11 5 (.av (.const (.int .i64 0)))])
 .ret))))
def L2:List bb:=[.av (U 4),.av (U 5)]
theorem Qo:bB Tryz.prog 56=some Gj:=by kernel_rfl
theorem YV:bC Tryz.prog 56=some L2:=by kernel_rfl
def Qp:aX:=(.seq (.al [ag 0 5 0,
 ad 1 6 (.len (.ao 33) (U 5)),
 ag 2 4 6])
 (.al [ag 0 7 0,
 ag 1 8 4,
 ag 2 9 4,
 ad 3 10 (.cR .u64 (U 9)),
 sc 4 11 91 [(U 10)],
 ag 5 12 1,
 sc 6 13 90 [(U 7),(.const (.int .i64 0)),(U 8),(U 11),(U 12)]]))
def YW:List bb:=[]
theorem acQ:bB Tryz.prog 57=some Qp:=by kernel_rfl
theorem akh:bC Tryz.prog 57=some YW:=by kernel_rfl
def VM:aX:=(.seq (.seq (.al [ag 0 11 5,
 ag 1 12 0,
 ad 2 13 (.len (.ao 32) (U 12)),
 ad 3 14 (.bin .lss 3 (U 11) (U 13))])
 (.cond (U 14) .skip (.exit 0)))
 (.seq (.block 1 (.seq (.al [ag 0 17 0,
 ag 1 18 5,
 ad 2 19 (.bq (.ao 32) (U 17) (U 18)),
 ad 3 20 (.bh 32 (U 19)),
 ag 4 21 1,
 ag 5 22 5,
 ad 6 23 (.bq (.ao 32) (U 21) (U 22)),
 ad 7 24 (.bh 32 (U 23)),
 ad 8 25 (.bin .neq 71 (U 20) (U 24))])
 (.cond (U 25) (.seq (.al [ad 0 4 (.av (.const (.bool false)))])
 .ret) .skip)))
 (.al [ag 0 15 5,
 ad 1 16 (.bin .add 3 (U 15) (.const (.int .i64 1))),
 ag 2 5 16])))
def Gk:aX:=(.seq (.al [ad 0 4 (.av (.const (.bool false)))])
 (.seq (.seq (.al [ag 0 6 0,
 ad 1 7 (.len (.ao 32) (U 6)),
 ag 2 8 1,
 ad 3 9 (.len (.ao 32) (U 8)),
 ad 4 10 (.bin .neq 3 (U 7) (U 9))])
 (.cond (U 10) (.seq (.al [ad 0 4 (.av (.const (.bool false)))])
 .ret) .skip))
 (.seq (.seq (.al [ad 0 5 (.av (.const (.int .i64 0)))])
 (.block 0 (.loop VM)))
 (.seq (.al [ad 0 4 (.av (.const (.bool true)))])
 .ret))))
def L3:List bb:=[.av (U 4)]
theorem Qq:bB Tryz.prog 58=some Gk:=by kernel_rfl
theorem YX:bC Tryz.prog 58=some L3:=by kernel_rfl
def Gl:aX:=(.seq (.al [ad 0 2 (.box (U 0)),
 ad 1 3 (.box (U 1)),
 ad 2 4 (.av (.const (.bool false)))])
 (.seq (.al [ad 0 5 (.aW 0 (U 2)),
 ad 1 6 (.ld1 (U 5)),
 ad 2 7 (.aW 0 (U 3)),
 ad 3 8 (.ld1 (U 7)),
 ad 4 9 (.bin .eql 25 (U 6) (U 8)),
 ag 5 10 9,
 aT 6 11 10 true (.aW 1 (U 2)),
 aT 7 12 10 true (.ld1 (U 11)),
 aT 8 13 10 true (.aW 1 (U 3)),
 aT 9 14 10 true (.ld1 (U 13)),
 ⟨10,(some 15),(some ((some 10),true)),.dq 58 [(U 12),(U 14)],[],false⟩,
 ad 11 16 (.pick (U 10) (U 15) (.const (.bool false))),
 ag 12 17 16,
 aT 13 18 17 true (.aW 2 (U 2)),
 aT 14 19 17 true (.ld1 (U 18)),
 aT 15 20 17 true (.aW 2 (U 3)),
 aT 16 21 17 true (.ld1 (U 20)),
 aT 17 22 17 true (.bin .eql 27 (U 19) (U 21)),
 ad 18 23 (.pick (U 17) (U 22) (.const (.bool false))),
 ag 19 24 23,
 aT 20 25 24 true (.aW 3 (U 2)),
 aT 21 26 24 true (.bh 6 (U 25)),
 aT 22 27 24 true (.aW 3 (U 3)),
 aT 23 28 24 true (.bh 6 (U 27)),
 aT 24 29 24 true (.bin .eql 31 (U 26) (U 28)),
 ad 25 30 (.pick (U 24) (U 29) (.const (.bool false))),
 ag 26 31 30,
 aT 27 32 31 true (.aW 9 (U 2)),
 aT 28 33 31 true (.bh 2 (U 32)),
 aT 29 34 31 true (.aW 9 (U 3)),
 aT 30 35 31 true (.bh 2 (U 34)),
 aT 31 36 31 true (.bin .eql 33 (U 33) (U 35)),
 ad 32 37 (.pick (U 31) (U 36) (.const (.bool false))),
 ag 33 4 37])
 .ret))
def L4:List bb:=[.av (U 4)]
theorem Qr:bB Tryz.prog 59=some Gl:=by kernel_rfl
theorem YY:bC Tryz.prog 59=some L4:=by kernel_rfl
def Gm:aX:=(.seq (.al [ad 0 1 (.box (U 0)),
 ad 1 2 (.av (.const (.int .i64 0)))])
 (.seq (.seq (.al [ad 0 3 (.bh 11 (U 1)),
 sc 1 4 31 [(U 3)],
 ad 2 5 (.bin .neq 3 (U 4) (.const (.int .i64 0)))])
 (.cond (U 5) (.seq (.al [ad 0 6 (.bh 11 (U 1)),
 sc 1 7 31 [(U 6)],
 ag 2 2 7])
 .ret) .skip))
 (.seq (.seq (.al [ad 0 8 (.bh 11 (U 1)),
 sc 1 9 93 [(U 8)],
 ad 2 10 (.un .not (U 9))])
 (.cond (U 10) (.seq (.al [ad 0 2 (.av (.const (.int .i64 22)))])
 .ret) .skip))
 (.seq (.al [ad 0 2 (.av (.const (.int .i64 0)))])
 .ret))))
def L5:List bb:=[.av (U 2)]
theorem Qt:bB Tryz.prog 61=some Gm:=by kernel_rfl
theorem YZ:bC Tryz.prog 61=some L5:=by kernel_rfl
def VN:aX:=(.seq (.seq (.al [ag 0 8 3,
 ad 1 9 (.aW 1 (U 1)),
 ad 2 10 (.ld1 (U 9)),
 ad 3 11 (.len (.ao 11) (U 10)),
 ad 4 12 (.bin .lss 3 (U 8) (U 11))])
 (.cond (U 12) .skip (.exit 0)))
 (.seq (.block 1 (.seq (.al [ad 0 15 (.aW 0 (U 1)),
 ad 1 16 (.ld1 (U 15)),
 ad 2 17 (.aW 1 (U 1)),
 ad 3 18 (.ld1 (U 17)),
 ag 4 19 3,
 ad 5 20 (.bq (.ao 11) (U 18) (U 19)),
 ad 6 21 (.aW 1 (U 20)),
 ad 7 22 (.ld1 (U 21)),
 sc 8 23 69 [(U 16),(U 22)],
 ad 9 24 (.un .not (U 23))])
 (.cond (U 24) (.seq (.al [ad 0 2 (.av (.const (.int .i64 40)))])
 .ret) .skip)))
 (.al [ag 0 13 3,
 ad 1 14 (.bin .add 3 (U 13) (.const (.int .i64 1))),
 ag 2 3 14])))
def Gn:aX:=(.seq (.al [ad 0 1 (.box (U 0)),
 ad 1 2 (.av (.const (.int .i64 0)))])
 (.seq (.seq (.al [ad 0 4 (.aW 0 (U 1)),
 ad 1 5 (.ld1 (U 4)),
 sc 2 6 63 [(U 5)],
 ad 3 7 (.un .not (U 6))])
 (.cond (U 7) (.seq (.al [ad 0 2 (.av (.const (.int .i64 32)))])
 .ret) .skip))
 (.seq (.seq (.al [ad 0 3 (.av (.const (.int .i64 0)))])
 (.block 0 (.loop VN)))
 (.seq (.seq (.ho [ad 0 25 (.bh 2 (U 1)),
 ad 3 28 (.aW 1 (U 1)),
 ⟨4,(some 29),none,.c2 (.ld1 (U 28)),[],true⟩,
 ad 5 30 (.len (.ao 11) (U 29)),
 ⟨1,(some 26),none,.dq 94 [(U 25)],[4],false⟩,
 ad 2 27 (.len (.ao 1) (U 26)),
 ad 6 31 (.bin .lss 3 (U 27) (U 30))])
 (.cond (U 31) (.seq (.al [ad 0 2 (.av (.const (.int .i64 36)))])
 .ret) .skip))
 (.seq (.al [ad 0 2 (.av (.const (.int .i64 0)))])
 .ret)))))
def L6:List bb:=[.av (U 2)]
theorem Qu:bB Tryz.prog 62=some Gn:=by kernel_rfl
theorem Y0:bC Tryz.prog 62=some L6:=by kernel_rfl
def VO:aX:=(.seq (.seq (.al [ag 0 4 3,
 ag 1 5 0,
 ad 2 6 (.len (.ao 32) (U 5)),
 ad 3 7 (.bin .lss 3 (U 4) (U 6))])
 (.cond (U 7) .skip (.exit 0)))
 (.seq (.block 1 (.seq (.al [ag 0 10 0,
 ag 1 11 3,
 ad 2 12 (.bin .sub 3 (U 11) (.const (.int .i64 1))),
 ad 3 13 (.bq (.ao 32) (U 10) (U 12)),
 ad 4 14 (.bh 32 (U 13)),
 ag 5 15 0,
 ag 6 16 3,
 ad 7 17 (.bq (.ao 32) (U 15) (U 16)),
 ad 8 18 (.bh 32 (U 17)),
 sc 9 19 84 [(U 14),(U 18)],
 ad 10 20 (.bin .geq 3 (U 19) (.const (.int .i64 0)))])
 (.cond (U 20) (.seq (.al [ad 0 2 (.av (.const (.bool false)))])
 .ret) .skip)))
 (.al [ag 0 8 3,
 ad 1 9 (.bin .add 3 (U 8) (.const (.int .i64 1))),
 ag 2 3 9])))
def Gp:aX:=(.seq (.al [ad 0 2 (.av (.const (.bool false)))])
 (.seq (.seq (.al [ad 0 3 (.av (.const (.int .i64 1)))])
 (.block 0 (.loop VO)))
 (.seq (.al [ad 0 2 (.av (.const (.bool true)))])
 .ret)))
def L7:List bb:=[.av (U 2)]
theorem Qv:bB Tryz.prog 63=some Gp:=by kernel_rfl
theorem Y1:bC Tryz.prog 63=some L7:=by kernel_rfl
def Gq:aX:=(.seq (.al [ad 0 2 (.av (.const (.bool false)))])
 (.seq (.al [ag 0 3 0,
 ad 1 4 (.bin .geq 25 (U 3) (.const (.int .u32 1))),
 ag 2 5 4,
 aT 3 6 5 true (.av (U 0)),
 aT 4 7 5 true (.bin .lss 25 (U 6) (.const (.int .u32 1000000007))),
 ad 5 8 (.pick (U 5) (U 7) (.const (.bool false))),
 ag 6 9 8,
 aT 7 10 9 true (.av (U 0)),
 aT 8 11 9 true (.cR .u64 (U 10)),
 ⟨9,(some 12),(some ((some 9),true)),.dq 95 [(U 11),(.const (.int .u64 500000003)),(.const (.int .u64 1000000007))],[],false⟩,
 aT 10 13 9 true (.bin .eql 27 (U 12) (.const (.int .u64 1))),
 ad 11 14 (.pick (U 9) (U 13) (.const (.bool false))),
 ag 12 2 14])
 .ret))
def L8:List bb:=[.av (U 2)]
theorem Qw:bB Tryz.prog 64=some Gq:=by kernel_rfl
theorem Y2:bC Tryz.prog 64=some L8:=by kernel_rfl
def Gr:aX:=(.seq (.al [ad 0 1 (.box (U 0)),
 ad 1 2 (.av (.const (.int .i64 0)))])
 (.seq (.al [ad 0 4 (.aW 2 (U 1)),
 ad 1 5 (.bh 4 (U 4)),
 ad 2 6 (.gA [.int .u8 0,.int .i64 0,.int .u64 0,.str []] []),
 ad 3 7 (.bin .eql 29 (U 5) (U 6)),
 ag 4 3 7])
 (.seq (.seq (.al [ad 0 8 (.aW 0 (U 1)),
 ad 1 9 (.ld1 (U 8))])
 (.block 0 (.seq (.al [ad 0 11 (.bin .eql 5 (U 9) (.const (.int .u8 1))),
 ag 1 10 11])
 (.cond (U 10) (.seq (.al [ad 0 12 (.aW 1 (U 1)),
 ad 1 13 (.ld1 (U 12)),
 ad 2 14 (.bin .eql 9 (U 13) (.const (.string ⟨#[]⟩))),
 ag 3 15 14,
 aT 4 16 15 true (.av (U 3)),
 ad 5 17 (.pick (U 15) (U 16) (.const (.bool false)))])
 (.cond (U 17) (.seq (.al [ad 0 2 (.av (.const (.int .i64 0)))])
 .ret) .skip)) (.seq (.seq (.al [ad 0 19 (.bin .eql 5 (U 9) (.const (.int .u8 2))),
 ag 1 18 19])
 (.cond (U 18) .skip (.al [ad 0 20 (.bin .eql 5 (U 9) (.const (.int .u8 3))),
 ag 1 18 20])))
 (.cond (U 18) (.seq (.al [ad 0 21 (.aW 1 (U 1)),
 ad 1 22 (.ld1 (U 21)),
 sc 2 23 51 [(U 22)],
 ag 3 24 23,
 aT 4 25 24 true (.av (U 3)),
 ad 5 26 (.pick (U 24) (U 25) (.const (.bool false)))])
 (.cond (U 26) (.seq (.al [ad 0 2 (.av (.const (.int .i64 0)))])
 .ret) .skip)) (.seq (.al [ad 0 28 (.bin .eql 5 (U 9) (.const (.int .u8 4))),
 ag 1 27 28])
 (.cond (U 27) (.seq (.al [ad 0 29 (.aW 1 (U 1)),
 ad 1 30 (.ld1 (U 29)),
 sc 2 31 51 [(U 30)],
 ag 3 32 31,
 aT 4 33 32 true (.aW 2 (U 1)),
 aT 5 34 32 true (.bh 4 (U 33)),
 ⟨6,(some 35),(some ((some 32),true)),.dq 96 [(U 34)],[],false⟩,
 aT 7 36 32 true (.bin .eql 3 (U 35) (.const (.int .i64 0))),
 ad 8 37 (.pick (U 32) (U 36) (.const (.bool false)))])
 (.cond (U 37) (.seq (.al [ad 0 2 (.av (.const (.int .i64 0)))])
 .ret) .skip)) .skip))))))))
 (.seq (.al [ad 0 2 (.av (.const (.int .i64 8)))])
 .ret))))
def L9:List bb:=[.av (U 2)]
theorem Qx:bB Tryz.prog 65=some Gr:=by kernel_rfl
theorem Y3:bC Tryz.prog 65=some L9:=by kernel_rfl
def Gs:aX:=(.seq (.al [ad 0 2 (.av (.const (.bool false)))])
 (.seq (.al [ag 0 3 0,
 ad 1 4 (.cR .u64 (U 3)),
 ad 2 5 (.bin .lss 27 (U 4) (.const (.int .u64 500000003))),
 ag 3 2 5])
 .ret))
def Ma:List bb:=[.av (U 2)]
theorem Qy:bB Tryz.prog 66=some Gs:=by kernel_rfl
theorem Y4:bC Tryz.prog 66=some Ma:=by kernel_rfl
def Gt:aX:=(.seq (.al [ad 0 2 (.alloc (rep 32 (.int .u8 0)))])
 (.seq (.al [sc 0 3 99 [],
 ad 1 4 (.c5 1 [.int .u8 0] 0 []),
 ag 2 5 0,
 ad 3 6 (.app 1 1 (U 4) (U 5)),
 ag 4 7 0,
 ad 5 8 (.len (.ao 1) (U 7)),
 sc 6 9 100 [(U 8)],
 ad 7 10 (.app 1 1 (U 6) (U 9)),
 sc 8 11 98 [(U 3),(U 10)],
 sc 9 12 97 [(U 11)],
 ch 10 (.st 32 (U 2) (U 12))])
 .ret))
def Mb:List bb:=[.bh 32 (U 2)]
theorem Qz:bB Tryz.prog 67=some Gt:=by kernel_rfl
theorem Y5:bC Tryz.prog 67=some Mb:=by kernel_rfl
def Gu:aX:=(.seq (.al [ad 0 1 (.box (U 0)),
 ad 1 2 (.av (.const (.slice none 0 0)))])
 (.seq (.ho [ad 0 3 (.bh 11 (U 1)),
 ad 2 5 (.aW 9 (U 1)),
 ad 3 6 (.aW 0 (U 5)),
 ⟨4,(some 7),none,.c2 (.ld1 (U 6)),[],true⟩,
 ⟨5,(some 8),none,.c2 (.cR .u64 (U 7)),[],true⟩,
 ad 8 11 (.aW 9 (U 1)),
 ad 9 12 (.aW 1 (U 11)),
 ⟨10,(some 13),none,.c2 (.ld1 (U 12)),[],true⟩,
 ⟨11,(some 14),none,.c2 (.cR .u64 (U 13)),[],true⟩,
 ⟨1,(some 4),none,.dq 101 [(U 3)],[11,10,5,4],false⟩,
 ⟨6,(some 9),none,.dq 102 [(U 8)],[11,10],false⟩,
 ⟨7,(some 10),none,.c2 (.app 1 1 (U 4) (U 9)),[11,10],false⟩,
 sc 12 15 102 [(U 14)],
 ad 13 16 (.app 1 1 (U 10) (U 15)),
 ag 14 2 16])
 .ret))
def Mc:List bb:=[.av (U 2)]
theorem QA:bB Tryz.prog 68=some Gu:=by kernel_rfl
theorem Y6:bC Tryz.prog 68=some Mc:=by kernel_rfl
def VP:aX:=(.seq (.seq (.al [ag 0 6 5,
 ag 1 7 1,
 ad 2 8 (.len (.ao 32) (U 7)),
 ad 3 9 (.bin .lss 3 (U 6) (U 8))])
 (.cond (U 9) .skip (.exit 0)))
 (.seq (.block 1 (.seq (.al [ag 0 12 0,
 ag 1 13 1,
 ag 2 14 5,
 ad 3 15 (.bq (.ao 32) (U 13) (U 14)),
 ad 4 16 (.bh 32 (U 15)),
 sc 5 17 70 [(U 12),(U 16)],
 ad 6 18 (.bin .lss 3 (U 17) (.const (.int .i64 0)))])
 (.cond (U 18) (.seq (.al [ad 0 4 (.av (.const (.bool false)))])
 .ret) .skip)))
 (.al [ag 0 10 5,
 ad 1 11 (.bin .add 3 (U 10) (.const (.int .i64 1))),
 ag 2 5 11])))
def Gv:aX:=(.seq (.al [ad 0 4 (.av (.const (.bool false)))])
 (.seq (.seq (.al [ad 0 5 (.av (.const (.int .i64 0)))])
 (.block 0 (.loop VP)))
 (.seq (.al [ad 0 4 (.av (.const (.bool true)))])
 .ret)))
def Md:List bb:=[.av (U 4)]
theorem QB:bB Tryz.prog 69=some Gv:=by kernel_rfl
theorem Y7:bC Tryz.prog 69=some Md:=by kernel_rfl
def VR:aX:=(.seq (.seq (.al [ag 0 6 5,
 ag 1 7 0,
 ad 2 8 (.len (.ao 32) (U 7)),
 ad 3 9 (.bin .lss 3 (U 6) (U 8))])
 (.cond (U 9) .skip (.exit 0)))
 (.seq (.block 1 (.seq (.al [ag 0 12 0,
 ag 1 13 5,
 ad 2 14 (.bq (.ao 32) (U 12) (U 13)),
 ad 3 15 (.bh 32 (U 14)),
 ad 4 16 (.bh 32 (U 3)),
 ad 5 17 (.bin .eql 71 (U 15) (U 16))])
 (.cond (U 17) (.seq (.al [ag 0 18 5,
 ag 1 4 18])
 .ret) .skip)))
 (.al [ag 0 10 5,
 ad 1 11 (.bin .add 3 (U 10) (.const (.int .i64 1))),
 ag 2 5 11])))
def Gw:aX:=(.seq (.al [ad 0 3 (.box (U 1)),
 ad 1 4 (.av (.const (.int .i64 0)))])
 (.seq (.seq (.al [ad 0 5 (.av (.const (.int .i64 0)))])
 (.block 0 (.loop VR)))
 (.seq (.al [ad 0 4 (.av (.const (.int .i64 (-1))))])
 .ret)))
def Me:List bb:=[.av (U 4)]
theorem QC:bB Tryz.prog 70=some Gw:=by kernel_rfl
theorem Y8:bC Tryz.prog 70=some Me:=by kernel_rfl
def A1:aX:=(.seq (.al [ad 0 1 (.box (U 0)),
 ad 1 2 (.av (.const (.slice none 0 0))),
 ad 2 3 (.av (.const (.int .i64 0)))])
 (.seq (.seq (.al [ad 0 7 (.bh 11 (U 1)),
 sc 1 8 107 [(U 7)],
 ag 2 4 8])
 (.seq (.al [ag 0 9 4,
 ad 1 10 (.bin .neq 38 (U 9) (.const (.int .i64 0)))])
 (.cond (U 10) (.seq (.al [ag 0 11 4,
 ad 1 2 (.av (.const (.slice none 0 0))),
 ag 2 3 11])
 .ret) .skip)))
 (.seq (.al [ad 0 13 (.bh 11 (U 1)),
 sc 1 14 108 [(U 13)],
 ag 2 12 14,
 ad 3 15 (.ext (U 12) 0),
 ad 4 16 (.ext (U 12) 1),
 ag 5 5 15,
 ag 6 6 16])
 (.seq (.ho [ag 0 17 5,
 ad 1 18 (.aW 9 (U 1)),
 ad 2 19 (.aW 0 (U 18)),
 ad 3 20 (.ld1 (U 19)),
 ad 4 21 (.cR .u64 (U 20)),
 ad 6 23 (.aW 9 (U 1)),
 ad 7 24 (.aW 1 (U 23)),
 ⟨8,(some 25),none,.c2 (.ld1 (U 24)),[],true⟩,
 ⟨9,(some 26),none,.c2 (.cR .u64 (U 25)),[],true⟩,
 ⟨5,(some 22),none,.dq 110 [(U 21)],[9,8],false⟩,
 sc 10 27 110 [(U 26)],
 ad 11 28 (.c5 1 [.a6] 3 [(0,(U 17)),(1,(U 22)),(2,(U 27))]),
 sc 12 29 109 [(U 28)],
 ag 13 2 29,
 ad 14 3 (.av (.const (.int .i64 0)))])
 .ret))))
def Dq:List bb:=[.av (U 2),.av (U 3)]
theorem Gx:bB Tryz.prog 72=some A1:=by kernel_rfl
theorem Mf:bC Tryz.prog 72=some Dq:=by kernel_rfl
def Gy:aX:=(.seq (.al [ad 0 2 (.alloc (rep 32 (.int .u8 0))),
 ad 1 3 (.av (.const (.int .i64 0)))])
 (.seq (.al [ag 0 4 0,
 ad 1 5 (.c5 1 [.a6] 1 [(0,(U 4))]),
 sc 2 6 111 [(U 5)],
 ad 3 7 (.ext (U 6) 0),
 ad 4 8 (.ext (U 6) 1),
 ch 5 (.st 32 (U 2) (U 7)),
 ag 6 3 8])
 .ret))
def Mg:List bb:=[.bh 32 (U 2),.av (U 3)]
theorem QD:bB Tryz.prog 73=some Gy:=by kernel_rfl
theorem Y9:bC Tryz.prog 73=some Mg:=by kernel_rfl
def VS:aX:=(.seq (.al [ad 0 9 (.bin .lss 3 (U 8) (U 7))])
 (.seq (.cond (U 9) .skip (.exit 0))
 (.seq (.block 1 (.seq (.al [ad 0 10 (.bq (.ao 1) (U 6) (U 8)),
 ad 1 11 (.ld1 (U 10)),
 ag 2 5 11])
 (.seq (.al [ag 0 12 5,
 ag 1 13 3,
 ad 2 14 (.bin .neq 3 (U 12) (U 13))])
 (.cond (U 14) (.seq (.al [ag 0 15 5,
 ag 1 2 15])
 .ret) .skip))))
 (.al [ad 0 16 (.bin .add 3 (U 8) (.const (.int .i64 1))),
 ag 1 8 16]))))
def Gz:aX:=(.seq (.al [ad 0 2 (.av (.const (.int .i64 0)))])
 (.seq (.al [ad 0 3 (.av (.const (.int .i64 0)))])
 (.seq (.seq (.al [ag 0 6 0,
 ad 1 7 (.len (.ao 1) (U 6)),
 ad 2 8 (.av (.const (.int .i64 0)))])
 (.block 0 (.loop VS)))
 (.seq (.al [ag 0 17 3,
 ag 1 2 17])
 .ret))))
def Mh:List bb:=[.av (U 2)]
theorem QE:bB Tryz.prog 74=some Gz:=by kernel_rfl
theorem Za:bC Tryz.prog 74=some Mh:=by kernel_rfl
def GC:aX:=(.seq (.al [ad 0 4 (.av (.const (.int .i64 0)))])
 (.seq (.al [ag 0 7 0,
 sc 1 8 112 [(U 7)],
 ag 2 5 8])
 (.seq (.al [ag 0 9 1,
 sc 1 10 112 [(U 9)],
 ag 2 6 10])
 (.seq (.seq (.al [ag 0 11 5])
 (.cond (U 11) (.seq (.seq (.al [ag 0 12 6])
 (.cond (U 12) (.seq (.al [ad 0 4 (.av (.const (.int .i64 0)))])
 .ret) .skip))
 (.seq (.al [ad 0 4 (.av (.const (.int .i64 (-1))))])
 .ret)) .skip))
 (.seq (.seq (.al [ag 0 13 6])
 (.cond (U 13) (.seq (.al [ad 0 4 (.av (.const (.int .i64 1)))])
 .ret) .skip))
 (.seq (.seq (.al [ag 0 14 0,
 ag 1 15 1,
 ad 2 16 (.bin .lss 9 (U 14) (U 15))])
 (.cond (U 16) (.seq (.al [ad 0 4 (.av (.const (.int .i64 (-1))))])
 .ret) .skip))
 (.seq (.seq (.al [ag 0 17 0,
 ag 1 18 1,
 ad 2 19 (.bin .gtr 9 (U 17) (U 18))])
 (.cond (U 19) (.seq (.al [ad 0 4 (.av (.const (.int .i64 1)))])
 .ret) .skip))
 (.seq (.al [ad 0 4 (.av (.const (.int .i64 0)))])
 .ret))))))))
def Mi:List bb:=[.av (U 4)]
theorem QF:bB Tryz.prog 75=some GC:=by kernel_rfl
theorem Zb:bC Tryz.prog 75=some Mi:=by kernel_rfl
def GD:aX:=(.seq (.al [ad 0 4 (.av (.const (.int .i64 0)))])
 (.seq (.al [ag 0 5 0,
 ag 1 6 1,
 ad 2 7 (.cK 113 (.func 113) (U 5) (U 6)),
 ag 3 4 7])
 .ret))
def Mj:List bb:=[.av (U 4)]
theorem QG:bB Tryz.prog 76=some GD:=by kernel_rfl
theorem Zc:bC Tryz.prog 76=some Mj:=by kernel_rfl
def GF:aX:=(.seq (.al [ad 0 2 (.av (.const (.bool false)))])
 (.seq (.al [ag 0 3 0,
 ad 1 4 (.len .str (U 3)),
 ad 2 5 (.bin .geq 3 (U 4) (.const (.int .i64 1))),
 ag 3 6 5,
 aT 4 7 6 true (.av (U 0)),
 aT 5 8 6 true (.len .str (U 7)),
 aT 6 9 6 true (.bin .leq 3 (U 8) (.const (.int .i64 20))),
 ad 7 10 (.pick (U 6) (U 9) (.const (.bool false))),
 ag 8 11 10,
 aT 9 12 11 true (.av (U 0)),
 ⟨10,(some 13),(some ((some 11),true)),.dq 115 [(U 12),(.func 116)],[],false⟩,
 aT 11 14 11 true (.bin .lss 3 (U 13) (.const (.int .i64 0))),
 ad 12 15 (.pick (U 11) (U 14) (.const (.bool false))),
 ag 13 2 15])
 .ret))
def Mk:List bb:=[.av (U 2)]
theorem QH:bB Tryz.prog 82=some GF:=by kernel_rfl
theorem Zd:bC Tryz.prog 82=some Mk:=by kernel_rfl
def GG:aX:=(.seq (.al [ad 0 1 (.box (U 0)),
 ad 1 2 (.av (.const (.int .i64 0)))])
 (.seq (.al [ad 0 3 (.alloc [.int .u8 0,.int .i64 0,.int .u64 0,.str []])])
 (.seq (.seq (.al [ad 0 4 (.aW 0 (U 1)),
 ad 1 5 (.ld1 (U 4))])
 (.block 0 (.seq (.al [ad 0 7 (.bin .eql 5 (U 5) (.const (.int .u8 1))),
 ag 1 6 7])
 (.cond (U 6) (.al [ad 0 8 (.aW 1 (U 1)),
 ad 1 9 (.ld1 (U 8)),
 sc 2 10 117 [(U 9)],
 ch 3 (.st 4 (U 3) (U 10))]) (.seq (.al [ad 0 12 (.bin .eql 5 (U 5) (.const (.int .u8 2))),
 ag 1 11 12])
 (.cond (U 11) (.al [ad 0 13 (.aW 2 (U 1)),
 ad 1 14 (.ld1 (U 13)),
 sc 2 15 118 [(U 14)],
 ch 3 (.st 4 (U 3) (U 15))]) (.seq (.al [ad 0 17 (.bin .eql 5 (U 5) (.const (.int .u8 3))),
 ag 1 16 17])
 (.cond (U 16) (.al [ad 0 19 (.aW 3 (U 1)),
 ad 1 20 (.ld1 (U 19)),
 sc 2 21 119 [(U 20)],
 ag 3 18 21,
 ad 4 22 (.ext (U 18) 0),
 ad 5 23 (.ext (U 18) 1),
 ch 6 (.st 4 (U 3) (U 22))]) .skip))))))))
 (.seq (.seq (.al [ad 0 24 (.bh 4 (U 1)),
 ad 1 25 (.bh 4 (U 3)),
 ad 2 26 (.bin .neq 29 (U 24) (U 25)),
 ag 3 27 26,
 aT 4 28 27 false (.aW 0 (U 1)),
 aT 5 29 27 false (.ld1 (U 28)),
 aT 6 30 27 false (.bin .eql 5 (U 29) (.const (.int .u8 0))),
 ad 7 31 (.pick (U 27) (.const (.bool true)) (U 30))])
 (.cond (U 31) (.seq (.al [ad 0 2 (.av (.const (.int .i64 8)))])
 .ret) .skip))
 (.seq (.al [ad 0 2 (.av (.const (.int .i64 0)))])
 .ret)))))
def Ml:List bb:=[.av (U 2)]
theorem QI:bB Tryz.prog 83=some GG:=by kernel_rfl
theorem Ze:bC Tryz.prog 83=some Ml:=by kernel_rfl
def VT:aX:=(.seq (.seq (.al [ag 0 6 5,
 ad 1 7 (.bin .lss 3 (U 6) (.const (.int .i64 32)))])
 (.cond (U 7) .skip (.exit 0)))
 (.seq (.block 1 (.seq (.seq (.al [ag 0 10 5,
 ad 1 11 (.bq (.arr 32 1) (U 2) (U 10)),
 ad 2 12 (.ld1 (U 11)),
 ag 3 13 5,
 ad 4 14 (.bq (.arr 32 1) (U 3) (U 13)),
 ad 5 15 (.ld1 (U 14)),
 ad 6 16 (.bin .lss 5 (U 12) (U 15))])
 (.cond (U 16) (.seq (.al [ad 0 4 (.av (.const (.int .i64 (-1))))])
 .ret) .skip))
 (.seq (.al [ag 0 17 5,
 ad 1 18 (.bq (.arr 32 1) (U 2) (U 17)),
 ad 2 19 (.ld1 (U 18)),
 ag 3 20 5,
 ad 4 21 (.bq (.arr 32 1) (U 3) (U 20)),
 ad 5 22 (.ld1 (U 21)),
 ad 6 23 (.bin .gtr 5 (U 19) (U 22))])
 (.cond (U 23) (.seq (.al [ad 0 4 (.av (.const (.int .i64 1)))])
 .ret) .skip))))
 (.al [ag 0 8 5,
 ad 1 9 (.bin .add 3 (U 8) (.const (.int .i64 1))),
 ag 2 5 9])))
def GH:aX:=(.seq (.al [ad 0 2 (.box (U 0)),
 ad 1 3 (.box (U 1)),
 ad 2 4 (.av (.const (.int .i64 0)))])
 (.seq (.seq (.al [ad 0 5 (.av (.const (.int .i64 0)))])
 (.block 0 (.loop VT)))
 (.seq (.al [ad 0 4 (.av (.const (.int .i64 0)))])
 .ret)))
def Mm:List bb:=[.av (U 4)]
theorem QJ:bB Tryz.prog 84=some GH:=by kernel_rfl
theorem Zf:bC Tryz.prog 84=some Mm:=by kernel_rfl
def GI:aX:=(.seq (.al [ad 0 1 (.box (U 0)),
 ad 1 2 (.av (.const (.int .i64 0)))])
 (.seq (.seq (.al [ad 0 6 (.bh 11 (U 1)),
 sc 1 7 107 [(U 6)],
 ag 2 3 7])
 (.seq (.al [ag 0 8 3,
 ad 1 9 (.bin .neq 38 (U 8) (.const (.int .i64 0)))])
 (.cond (U 9) (.seq (.al [ag 0 10 3,
 ag 1 2 10])
 .ret) .skip)))
 (.seq (.al [ad 0 12 (.bh 11 (U 1)),
 sc 1 13 108 [(U 12)],
 ag 2 11 13,
 ad 3 14 (.ext (U 11) 0),
 ad 4 15 (.ext (U 11) 1),
 ag 5 4 14,
 ag 6 5 15])
 (.seq (.al [ad 0 16 (.aW 0 (U 1)),
 ad 1 17 (.ld1 (U 16)),
 ag 2 18 4,
 ad 3 19 (.aW 9 (U 1)),
 ad 4 20 (.bh 2 (U 19)),
 sc 5 21 120 [(U 17),(U 18),(U 20)],
 ag 6 2 21])
 .ret))))
def Mn:List bb:=[.av (U 2)]
theorem QK:bB Tryz.prog 85=some GI:=by kernel_rfl
theorem Zg:bC Tryz.prog 85=some Mn:=by kernel_rfl
def VU:aX:=(.seq (.seq (.al [ag 0 16 3,
 ad 1 17 (.aW 0 (U 1)),
 ad 2 18 (.ld1 (U 17)),
 ad 3 19 (.len (.ao 32) (U 18)),
 ad 4 20 (.bin .lss 3 (U 16) (U 19))])
 (.cond (U 20) .skip (.exit 0)))
 (.seq (.block 1 (.seq (.al [ad 0 23 (.aW 0 (U 1)),
 ad 1 24 (.ld1 (U 23)),
 ag 2 25 3,
 ad 3 26 (.bin .sub 3 (U 25) (.const (.int .i64 1))),
 ad 4 27 (.bq (.ao 32) (U 24) (U 26)),
 ad 5 28 (.bh 32 (U 27)),
 ad 6 29 (.aW 0 (U 1)),
 ad 7 30 (.ld1 (U 29)),
 ag 8 31 3,
 ad 9 32 (.bq (.ao 32) (U 30) (U 31)),
 ad 10 33 (.bh 32 (U 32)),
 sc 11 34 121 [(U 28),(U 33)],
 ad 12 35 (.bin .geq 3 (U 34) (.const (.int .i64 0)))])
 (.cond (U 35) (.seq (.al [ad 0 2 (.av (.const (.int .i64 32)))])
 .ret) .skip)))
 (.al [ag 0 21 3,
 ad 1 22 (.bin .add 3 (U 21) (.const (.int .i64 1))),
 ag 2 3 22])))
def VV:aX:=(.seq (.al [ad 0 56 (.bin .lss 3 (U 55) (U 54))])
 (.seq (.cond (U 56) .skip (.exit 4))
 (.seq (.block 5 (.seq (.al [ad 0 57 (.bq (.ao 32) (U 53) (U 55)),
 ad 1 58 (.bh 32 (U 57)),
 ad 2 10 (.alloc (rep 32 (.int .u8 0))),
 ch 3 (.st 32 (U 10) (U 58))])
 (.seq (.al [ad 0 60 (.bh 2 (U 1)),
 ad 1 61 (.bh 32 (U 10)),
 sc 2 62 122 [(U 60),(U 61)],
 ag 3 59 62,
 ad 4 63 (.ext (U 59) 0),
 ad 5 64 (.ext (U 59) 1),
 ag 6 11 63,
 ag 7 12 64])
 (.seq (.seq (.al [ag 0 65 12,
 ad 1 66 (.un .not (U 65))])
 (.cond (U 66) (.seq (.al [ad 0 2 (.av (.const (.int .i64 40)))])
 .ret) .skip))
 (.al [ag 0 67 5,
 ag 1 68 11,
 ag 2 69 5,
 ag 3 70 11,
 ad 4 71 (.bq (.ao 1) (U 69) (U 70)),
 ad 5 72 (.ld1 (U 71)),
 ag 6 73 7,
 ad 7 74 (.c5 1 [.int .i64 0] 1 [(0,(U 73))]),
 ad 8 75 (.app 1 8 (U 72) (U 74)),
 ad 9 76 (.bq (.ao 1) (U 67) (U 68)),
 ch 10 (.st 1 (U 76) (U 75))])))))
 (.al [ad 0 77 (.bin .add 3 (U 55) (.const (.int .i64 1))),
 ag 1 55 77]))))
def VW:aX:=(.seq (.al [ad 0 48 (.bin .lss 3 (U 47) (U 46))])
 (.seq (.cond (U 48) .skip (.exit 2))
 (.seq (.block 3 (.seq (.al [ag 0 49 47,
 ad 1 50 (.bq (.ao 11) (U 45) (U 47)),
 ad 2 51 (.bh 11 (U 50)),
 ad 3 8 (.alloc [.int .u32 0,.a6,.int .u64 0,.int .u8 0,.str [],.int .u8 0,.int .i64 0,.int .u64 0,.str [],.int .u32 0,.int .u32 0]),
 ag 4 7 49,
 ch 5 (.st 11 (U 8) (U 51))])
 (.seq (.seq (.al [ad 0 52 (.aW 1 (U 8)),
 ad 1 53 (.ld1 (U 52)),
 ad 2 54 (.len (.ao 32) (U 53)),
 ad 3 55 (.av (.const (.int .i64 0)))])
 (.block 4 (.loop VV)))
 (.seq (.al [ag 0 78 4,
 ag 1 79 7,
 ad 2 80 (.aW 1 (U 8)),
 ad 3 81 (.ld1 (U 80)),
 ad 4 82 (.len (.ao 32) (U 81)),
 ad 5 83 (.bq (.ao 1) (U 78) (U 79)),
 ch 6 (.st 1 (U 83) (U 82))])
 (.seq (.al [ag 0 84 4,
 ag 1 85 7,
 ad 2 86 (.bq (.ao 1) (U 84) (U 85)),
 ad 3 87 (.ld1 (U 86)),
 ad 4 88 (.bin .eql 3 (U 87) (.const (.int .i64 0)))])
 (.cond (U 88) (.al [ag 0 89 6,
 ag 1 90 7,
 ad 2 91 (.c5 1 [.int .i64 0] 1 [(0,(U 90))]),
 ad 3 92 (.app 1 8 (U 89) (U 91)),
 ag 4 6 92]) .skip))))))
 (.al [ad 0 93 (.bin .add 3 (U 47) (.const (.int .i64 1))),
 ag 1 47 93]))))
def VX:aX:=(.seq (.al [ad 0 109 (.bin .lss 3 (U 108) (U 107))])
 (.seq (.cond (U 109) .skip (.exit 8))
 (.seq (.block 9 (.seq (.al [ad 0 110 (.bq (.ao 1) (U 106) (U 108)),
 ad 1 111 (.ld1 (U 110)),
 ag 2 15 111])
 (.seq (.al [ag 0 112 4,
 ag 1 113 15,
 ad 2 114 (.bq (.ao 1) (U 112) (U 113)),
 ad 3 115 (.ld1 (U 114)),
 ad 4 116 (.bin .sub 3 (U 115) (.const (.int .i64 1))),
 ad 5 117 (.bq (.ao 1) (U 112) (U 113)),
 ch 6 (.st 1 (U 117) (U 116))])
 (.seq (.al [ag 0 118 4,
 ag 1 119 15,
 ad 2 120 (.bq (.ao 1) (U 118) (U 119)),
 ad 3 121 (.ld1 (U 120)),
 ad 4 122 (.bin .eql 3 (U 121) (.const (.int .i64 0)))])
 (.cond (U 122) (.al [ag 0 123 6,
 ag 1 124 15,
 ad 2 125 (.c5 1 [.int .i64 0] 1 [(0,(U 124))]),
 ad 3 126 (.app 1 8 (U 123) (U 125)),
 ag 4 6 126]) .skip)))))
 (.al [ad 0 127 (.bin .add 3 (U 108) (.const (.int .i64 1))),
 ag 1 108 127]))))
def VY:aX:=(.seq (.seq (.al [ag 0 94 13,
 ag 1 95 6,
 ad 2 96 (.len (.ao 1) (U 95)),
 ad 3 97 (.bin .lss 3 (U 94) (U 96))])
 (.cond (U 97) .skip (.exit 6)))
 (.seq (.block 7 (.seq (.al [ag 0 100 5,
 ag 1 101 6,
 ag 2 102 13,
 ad 3 103 (.bq (.ao 1) (U 101) (U 102)),
 ad 4 104 (.ld1 (U 103)),
 ad 5 105 (.bq (.ao 1) (U 100) (U 104)),
 ad 6 106 (.ld1 (U 105)),
 ad 7 107 (.len (.ao 1) (U 106)),
 ad 8 108 (.av (.const (.int .i64 0)))])
 (.block 8 (.loop VX))))
 (.al [ag 0 98 13,
 ad 1 99 (.bin .add 3 (U 98) (.const (.int .i64 1))),
 ag 2 13 99])))
def GJ:aX:=(.seq (.al [ad 0 1 (.box (U 0)),
 ad 1 2 (.av (.const (.int .i64 0)))])
 (.seq (.seq (.al [ad 0 3 (.av (.const (.int .i64 1)))])
 (.block 0 (.loop VU)))
 (.seq (.al [ad 0 36 (.aW 1 (U 1)),
 ad 1 37 (.ld1 (U 36)),
 ad 2 38 (.len (.ao 11) (U 37)),
 ad 3 39 (.k2 1 8 [.int .i64 0] (U 38) (U 38)),
 ag 4 4 39])
 (.seq (.al [ad 0 40 (.aW 1 (U 1)),
 ad 1 41 (.ld1 (U 40)),
 ad 2 42 (.len (.ao 11) (U 41)),
 ad 3 43 (.k2 1 24 [.a6] (U 42) (U 42)),
 ag 4 5 43])
 (.seq (.al [ad 0 6 (.av (.const (.slice none 0 0)))])
 (.seq (.seq (.al [ad 0 44 (.aW 1 (U 1)),
 ad 1 45 (.ld1 (U 44)),
 ad 2 46 (.len (.ao 11) (U 45)),
 ad 3 47 (.av (.const (.int .i64 0)))])
 (.block 2 (.loop VW)))
 (.seq (.al [ad 0 13 (.av (.const (.int .i64 0)))])
 (.seq (.block 6 (.loop VY))
 (.seq (.seq (.al [ag 0 128 13,
 ad 1 129 (.aW 1 (U 1)),
 ad 2 130 (.ld1 (U 129)),
 ad 3 131 (.len (.ao 11) (U 130)),
 ad 4 132 (.bin .lss 3 (U 128) (U 131))])
 (.cond (U 132) (.seq (.al [ad 0 2 (.av (.const (.int .i64 36)))])
 .ret) .skip))
 (.seq (.al [ad 0 2 (.av (.const (.int .i64 0)))])
 .ret))))))))))
def Mo:List bb:=[.av (U 2)]
theorem QL:bB Tryz.prog 86=some GJ:=by kernel_rfl
theorem Zh:bC Tryz.prog 86=some Mo:=by kernel_rfl
def GK:aX:=(.seq (.al [ad 0 2 (.box (U 0)),
 ad 1 3 (.box (U 1)),
 ad 2 4 (.av (.const (.int .i64 0))),
 ad 3 5 (.av (.const (.int .i64 0)))])
 (.seq (.seq (.al [ad 0 9 (.bh 2 (U 2)),
 sc 1 10 55 [(U 9)],
 ag 2 6 10])
 (.seq (.al [ag 0 11 6,
 ad 1 12 (.bin .neq 38 (U 11) (.const (.int .i64 0)))])
 (.cond (U 12) (.seq (.al [ag 0 13 6,
 ad 1 4 (.av (.const (.int .i64 0))),
 ag 2 5 13])
 .ret) .skip)))
 (.seq (.al [ad 0 15 (.aW 0 (U 2)),
 ad 1 16 (.ld1 (U 15)),
 ad 2 17 (.bh 32 (U 3)),
 sc 3 18 123 [(U 16),(U 17),(.func 121)],
 ag 4 14 18,
 ad 5 19 (.ext (U 14) 0),
 ad 6 20 (.ext (U 14) 1),
 ag 7 7 19,
 ag 8 8 20])
 (.seq (.seq (.al [ag 0 21 8,
 ad 1 22 (.un .not (U 21))])
 (.cond (U 22) (.seq (.al [ad 0 4 (.av (.const (.int .i64 0))),
 ad 1 5 (.av (.const (.int .i64 6)))])
 .ret) .skip))
 (.seq (.al [ag 0 23 7,
 ag 1 4 23,
 ad 2 5 (.av (.const (.int .i64 0)))])
 .ret)))))
def Mp:List bb:=[.av (U 4),.av (U 5)]
theorem QM:bB Tryz.prog 87=some GK:=by kernel_rfl
theorem Zi:bC Tryz.prog 87=some Mp:=by kernel_rfl
def VZ:aX:=(.seq (.al [ad 0 10 (.bin .lss 3 (U 9) (U 8))])
 (.seq (.cond (U 10) .skip (.exit 0))
 (.seq (.block 1 (.seq (.al [ag 0 11 9,
 ag 1 6 11])
 (.seq (.al [ag 0 12 1,
 ag 1 13 6,
 ad 2 14 (.bq (.ao 1) (U 12) (U 13)),
 ad 3 15 (.ld1 (U 14))])
 (.cond (U 15) (.al [ag 0 16 5,
 ad 1 17 (.aW 0 (U 2)),
 ad 2 18 (.ld1 (U 17)),
 ag 3 19 6,
 ad 4 20 (.bq (.ao 32) (U 18) (U 19)),
 ad 5 21 (.bh 32 (U 20)),
 ad 6 22 (.c5 32 (rep 32 (.int .u8 0)) 1 [(0,(U 21))]),
 ad 7 23 (.app 32 32 (U 16) (U 22)),
 ag 8 5 23]) .skip))))
 (.al [ad 0 24 (.bin .add 3 (U 9) (.const (.int .i64 1))),
 ag 1 9 24]))))
def GL:aX:=(.seq (.al [ad 0 2 (.box (U 0)),
 ad 1 4 (.av (.const (.slice none 0 0)))])
 (.seq (.al [ad 0 5 (.av (.const (.slice none 0 0)))])
 (.seq (.seq (.al [ag 0 7 1,
 ad 1 8 (.len (.ao 1) (U 7)),
 ad 2 9 (.av (.const (.int .i64 0)))])
 (.block 0 (.loop VZ)))
 (.seq (.al [ag 0 25 5,
 ag 1 4 25])
 .ret))))
def Mq:List bb:=[.av (U 4)]
theorem QN:bB Tryz.prog 88=some GL:=by kernel_rfl
theorem Zj:bC Tryz.prog 88=some Mq:=by kernel_rfl
def V0:aX:=(.seq (.al [ad 0 20 (.bin .lss 3 (U 19) (U 18))])
 (.seq (.cond (U 20) .skip (.exit 0))
 (.seq (.block 1 (.seq (.al [ad 0 21 (.bq (.ao 32) (U 17) (U 19)),
 ad 1 22 (.bh 32 (U 21)),
 ad 2 9 (.alloc (rep 32 (.int .u8 0))),
 ch 3 (.st 32 (U 9) (U 22))])
 (.al [ad 0 23 (.ld1 (U 7)),
 ad 1 24 (.bh 32 (U 9)),
 ⟨2,(some 25),none,.hn (U 23) [(U 24)],[],false⟩])))
 (.al [ad 0 26 (.bin .add 3 (U 19) (.const (.int .i64 1))),
 ag 1 19 26]))))
def GM:aX:=(.seq (.al [ad 0 2 (.box (U 0)),
 ad 1 4 (.av (.const (.slice none 0 0)))])
 (.seq (.al [ad 0 10 (.bh 2 (U 2)),
 sc 1 11 124 [(U 10)],
 ad 2 5 (.alloc [.gJ]),
 ch 3 (.st 1 (U 5) (U 11))])
 (.seq (.al [ad 0 12 (.aW 0 (U 2)),
 ad 1 13 (.ld1 (U 12)),
 ad 2 14 (.len (.ao 32) (U 13)),
 ad 3 15 (.k2 1 1 [.bool false] (U 14) (U 14)),
 ad 4 6 (.alloc [.a6]),
 ch 5 (.st 1 (U 6) (U 15))])
 (.seq (.al [ad 0 7 (.alloc [.hQ])])
 (.seq (.al [ad 0 16 (.qj 125 [] [(U 5),(U 6),(U 2),(U 7)]),
 ch 1 (.st 1 (U 7) (U 16))])
 (.seq (.seq (.al [ag 0 17 1,
 ad 1 18 (.len (.ao 32) (U 17)),
 ad 2 19 (.av (.const (.int .i64 0)))])
 (.block 0 (.loop V0)))
 (.seq (.al [ad 0 27 (.ld1 (U 6)),
 ag 1 4 27])
 .ret)))))))
def Mr:List bb:=[.av (U 4)]
theorem QO:bB Tryz.prog 89=some GM:=by kernel_rfl
theorem Zk:bC Tryz.prog 89=some Mr:=by kernel_rfl
def aiE:aX:=(.block 1 (.seq (.al [ag 0 21 2,
 ag 1 22 1,
 ad 2 23 (.bin .sub 3 (U 21) (U 22)),
 ag 3 12 23])
 (.seq (.seq (.al [ag 0 24 12,
 ad 1 25 (.bin .leq 3 (U 24) (.const (.int .i64 12)))])
 (.cond (U 25) (.seq (.al [ag 0 26 0,
 ag 1 27 1,
 ag 2 28 2,
 ag 3 29 4,
 sc 4 30 126 [(U 26),(U 27),(U 28),(U 29)]])
 .ret) .skip))
 (.seq (.seq (.al [ag 0 31 3,
 ad 1 32 (.bin .eql 3 (U 31) (.const (.int .i64 0)))])
 (.cond (U 32) (.seq (.al [ag 0 33 0,
 ag 1 34 1,
 ag 2 35 2,
 ag 3 36 4,
 sc 4 37 127 [(U 33),(U 34),(U 35),(U 36)]])
 .ret) .skip))
 (.seq (.seq (.al [ag 0 38 10,
 ad 1 39 (.un .not (U 38))])
 (.cond (U 39) (.seq (.al [ag 0 40 0,
 ag 1 41 1,
 ag 2 42 2,
 ag 3 43 4,
 sc 4 44 128 [(U 40),(U 41),(U 42),(U 43)]])
 (.al [ag 0 45 3,
 ad 1 46 (.bin .sub 3 (U 45) (.const (.int .i64 1))),
 ag 2 3 46])) .skip))
 (.seq (.al [ag 0 48 0,
 ag 1 49 1,
 ag 2 50 2,
 ag 3 51 4,
 sc 4 52 129 [(U 48),(U 49),(U 50),(U 51)],
 ag 5 47 52,
 ad 6 53 (.ext (U 47) 0),
 ad 7 54 (.ext (U 47) 1),
 ag 8 13 53,
 ag 9 14 54])
 (.seq (.seq (.al [ag 0 55 14,
 ad 1 56 (.bin .eql 173 (U 55) (.const (.int .i64 2)))])
 (.cond (U 56) (.seq (.al [ag 0 57 0,
 ag 1 58 1,
 ag 2 59 2,
 ag 3 60 4,
 sc 4 61 130 [(U 57),(U 58),(U 59),(U 60)]])
 (.seq (.al [ag 0 62 2,
 ad 1 63 (.bin .sub 3 (U 62) (.const (.int .i64 1))),
 ag 2 64 13,
 ag 3 65 1,
 ad 4 66 (.bin .sub 3 (U 64) (U 65)),
 ad 5 67 (.bin .sub 3 (U 63) (U 66)),
 ag 6 13 67])
 (.al [ad 0 14 (.av (.const (.int .i64 1)))]))) .skip))
 (.seq (.seq (.al [ag 0 68 10,
 ag 1 69 68,
 aT 2 70 69 true (.av (U 11)),
 ad 3 71 (.pick (U 69) (U 70) (.const (.bool false))),
 ag 4 72 71,
 aT 5 73 72 true (.av (U 14)),
 aT 6 74 72 true (.bin .eql 173 (U 73) (.const (.int .i64 1))),
 ad 7 75 (.pick (U 72) (U 74) (.const (.bool false)))])
 (.cond (U 75) (.seq (.al [ag 0 76 0,
 ag 1 77 1,
 ag 2 78 2,
 ag 3 79 4,
 sc 4 80 131 [(U 76),(U 77),(U 78),(U 79)]])
 (.cond (U 80) .ret .skip)) .skip))
 (.seq (.seq (.al [ag 0 81 1,
 ad 1 82 (.bin .gtr 3 (U 81) (.const (.int .i64 0))),
 ag 2 83 82,
 aT 3 84 83 true (.av (U 4)),
 aT 4 85 83 true (.av (U 0)),
 aT 5 86 83 true (.av (U 1)),
 aT 6 87 83 true (.bin .sub 3 (U 86) (.const (.int .i64 1))),
 aT 7 88 83 true (.bq (.ao 33) (U 85) (U 87)),
 aT 8 89 83 true (.bh 33 (U 88)),
 aT 9 90 83 true (.av (U 0)),
 aT 10 91 83 true (.av (U 13)),
 aT 11 92 83 true (.bq (.ao 33) (U 90) (U 91)),
 aT 12 93 83 true (.bh 33 (U 92)),
 ⟨13,(some 94),(some ((some 83),true)),.hn (U 84) [(U 89),(U 93)],[],false⟩,
 aT 14 95 83 true (.bin .lss 3 (U 94) (.const (.int .i64 0))),
 aT 15 96 83 true (.un .not (U 95)),
 ad 16 97 (.pick (U 83) (U 96) (.const (.bool false)))])
 (.cond (U 97) (.seq (.al [ag 0 98 0,
 ag 1 99 1,
 ag 2 100 2,
 ag 3 101 13,
 ag 4 102 4,
 sc 5 103 132 [(U 98),(U 99),(U 100),(U 101),(U 102)],
 ag 6 15 103])
 (.seq (.al [ag 0 104 15,
 ag 1 1 104])
 (.exit 1))) .skip))
 (.seq (.al [ag 0 106 0,
 ag 1 107 1,
 ag 2 108 2,
 ag 3 109 13,
 ag 4 110 4,
 sc 5 111 133 [(U 106),(U 107),(U 108),(U 109),(U 110)],
 ag 6 105 111,
 ad 7 112 (.ext (U 105) 0),
 ad 8 113 (.ext (U 105) 1),
 ag 9 16 112,
 ag 10 17 113])
 (.seq (.al [ag 0 114 17,
 ag 1 11 114])
 (.seq (.al [ag 0 115 16,
 ag 1 116 1,
 ad 2 117 (.bin .sub 3 (U 115) (U 116)),
 ag 3 118 2,
 ag 4 119 16,
 ad 5 120 (.bin .sub 3 (U 118) (U 119)),
 ag 6 18 117,
 ag 7 19 120])
 (.seq (.al [ag 0 121 12,
 ad 1 122 (.bin .quo 3 (U 121) (.const (.int .i64 8))),
 ag 2 20 122])
 (.seq (.al [ag 0 123 18,
 ag 1 124 19,
 ad 2 125 (.bin .lss 3 (U 123) (U 124))])
 (.cond (U 125) (.seq (.al [ag 0 126 18,
 ag 1 127 20,
 ad 2 128 (.bin .geq 3 (U 126) (U 127)),
 ag 3 10 128])
 (.seq (.al [ag 0 129 0,
 ag 1 130 1,
 ag 2 131 16,
 ag 3 132 3,
 ag 4 133 4,
 sc 5 134 90 [(U 129),(U 130),(U 131),(U 132),(U 133)]])
 (.al [ag 0 135 16,
 ad 1 136 (.bin .add 3 (U 135) (.const (.int .i64 1))),
 ag 2 1 136]))) (.seq (.al [ag 0 137 19,
 ag 1 138 20,
 ad 2 139 (.bin .geq 3 (U 137) (U 138)),
 ag 3 10 139])
 (.seq (.al [ag 0 140 0,
 ag 1 141 16,
 ad 2 142 (.bin .add 3 (U 141) (.const (.int .i64 1))),
 ag 3 143 2,
 ag 4 144 3,
 ag 5 145 4,
 sc 6 146 90 [(U 140),(U 142),(U 143),(U 144),(U 145)]])
 (.al [ag 0 147 16,
 ag 1 2 147]))))))))))))))))))
def QP:aX:=(.seq (.al [ad 0 10 (.av (.const (.bool true)))])
 (.seq (.al [ad 0 11 (.av (.const (.bool true)))])
 (.block 0 (.loop aiE))))
def Zl:List bb:=[]
theorem acS:bB Tryz.prog 90=some QP:=by kernel_rfl
theorem aki:bC Tryz.prog 90=some Zl:=by kernel_rfl
def QQ:aX:=(.seq (.al [ad 0 2 (.av (.const (.int .i64 0)))])
 (.seq (.cond (.const (.bool false)) (.seq (.al [ag 0 3 0,
 ad 1 4 (.cR .u32 (U 3)),
 sc 2 5 134 [(U 4)],
 ag 3 2 5])
 .ret) .skip)
 (.seq (.al [ag 0 6 0,
 sc 1 7 135 [(U 6)],
 ag 2 2 7])
 .ret)))
def Zm:List bb:=[.av (U 2)]
theorem acT:bB Tryz.prog 91=some QQ:=by kernel_rfl
theorem akj:bC Tryz.prog 91=some Zm:=by kernel_rfl
def GN:aX:=(.seq (.al [ad 0 1 (.box (U 0)),
 ad 1 2 (.av (.const (.bool false)))])
 (.seq (.ho [ad 0 3 (.aW 0 (U 1)),
 ⟨1,(some 4),none,.c2 (.ld1 (U 3)),[],true⟩,
 ad 2 5 (.bh 11 (U 1)),
 ad 4 7 (.aW 9 (U 1)),
 ⟨5,(some 8),none,.c2 (.bh 2 (U 7)),[],true⟩,
 ⟨3,(some 6),none,.dq 101 [(U 5)],[5,1],false⟩,
 sc 6 9 136 [(U 4),(U 6),(U 8)],
 ag 7 2 9])
 .ret))
def Ms:List bb:=[.av (U 2)]
theorem QR:bB Tryz.prog 93=some GN:=by kernel_rfl
theorem Zn:bC Tryz.prog 93=some Ms:=by kernel_rfl
def V1:aX:=(.seq (.seq (.al [ag 0 13 7,
 ad 1 14 (.aW 1 (U 1)),
 ad 2 15 (.ld1 (U 14)),
 ad 3 16 (.len (.ao 11) (U 15)),
 ad 4 17 (.bin .lss 3 (U 13) (U 16))])
 (.cond (U 17) .skip (.exit 2)))
 (.seq (.block 3 (.seq (.al [ag 0 20 5,
 ag 1 21 7,
 ad 2 22 (.bq (.ao 1) (U 20) (U 21)),
 ad 3 23 (.ld1 (U 22)),
 ad 4 24 (.un .not (U 23)),
 ag 5 25 24,
 aT 6 26 25 true (.av (U 4)),
 aT 7 27 25 true (.aW 1 (U 1)),
 aT 8 28 25 true (.ld1 (U 27)),
 aT 9 29 25 true (.av (U 7)),
 aT 10 30 25 true (.bq (.ao 11) (U 28) (U 29)),
 aT 11 31 25 true (.aW 1 (U 30)),
 aT 12 32 25 true (.ld1 (U 31)),
 ⟨13,(some 33),(some ((some 25),true)),.dq 69 [(U 26),(U 32)],[],false⟩,
 ad 14 34 (.pick (U 25) (U 33) (.const (.bool false)))])
 (.cond (U 34) (.seq (.ho [ag 0 35 5,
 ag 1 36 7,
 ag 2 37 3,
 ag 3 38 7,
 ad 4 39 (.c5 1 [.int .i64 0] 1 [(0,(U 38))]),
 ag 6 41 4,
 ad 7 42 (.aW 0 (U 1)),
 ⟨8,(some 43),none,.c2 (.ld1 (U 42)),[],true⟩,
 ag 9 44 7,
 ad 10 45 (.bq (.ao 32) (U 43) (U 44)),
 ⟨11,(some 46),none,.c2 (.bh 32 (U 45)),[],true⟩,
 ⟨12,(some 47),none,.c2 (.c5 32 (rep 32 (.int .u8 0)) 1 [(0,(U 46))]),[],true⟩,
 ⟨5,(some 40),none,.c2 (.app 1 8 (U 37) (U 39)),[12,11,8],false⟩,
 ad 13 48 (.app 32 32 (U 41) (U 47)),
 ag 14 3 40,
 ag 15 4 48,
 ad 16 49 (.bq (.ao 1) (U 35) (U 36)),
 ch 17 (.st 1 (U 49) (.const (.bool true))),
 ad 18 6 (.av (.const (.bool true)))])
 (.exit 2)) .skip)))
 (.al [ag 0 18 7,
 ad 1 19 (.bin .add 3 (U 18) (.const (.int .i64 1))),
 ag 2 7 19])))
def JD:aX:=(.seq (.seq (.al [ag 0 12 6])
 (.cond (U 12) .skip (.exit 0)))
 (.block 1 (.seq (.al [ad 0 6 (.av (.const (.bool false)))])
 (.seq (.al [ad 0 7 (.av (.const (.int .i64 0)))])
 (.block 2 (.loop V1))))))
def GO:aX:=(.seq (.al [ad 0 1 (.box (U 0)),
 ad 1 2 (.av (.const (.slice none 0 0)))])
 (.seq (.al [ad 0 3 (.av (.const (.slice none 0 0)))])
 (.seq (.al [ad 0 4 (.av (.const (.slice none 0 0)))])
 (.seq (.al [ad 0 8 (.aW 1 (U 1)),
 ad 1 9 (.ld1 (U 8)),
 ad 2 10 (.len (.ao 11) (U 9)),
 ad 3 11 (.k2 1 1 [.bool false] (U 10) (U 10)),
 ag 4 5 11])
 (.seq (.seq (.al [ad 0 6 (.av (.const (.bool true)))])
 (.block 0 (.loop JD)))
 (.seq (.al [ag 0 50 3,
 ag 1 2 50])
 .ret))))))
def Mt:List bb:=[.av (U 2)]
theorem QS:bB Tryz.prog 94=some GO:=by kernel_rfl
theorem Zo:bC Tryz.prog 94=some Mt:=by kernel_rfl
def V2:aX:=(.seq (.seq (.al [ag 0 8 1,
 ad 1 9 (.bin .gtr 27 (U 8) (.const (.int .u64 0)))])
 (.cond (U 9) .skip (.exit 0)))
 (.block 1 (.seq (.seq (.al [ag 0 10 1,
 ad 1 11 (.bin .rem 27 (U 10) (.const (.int .u64 2))),
 ad 2 12 (.bin .eql 27 (U 11) (.const (.int .u64 1)))])
 (.cond (U 12) (.al [ag 0 13 7,
 ag 1 14 0,
 ad 2 15 (.bin .mul 27 (U 13) (U 14)),
 ag 3 16 2,
 ad 4 17 (.bin .rem 27 (U 15) (U 16)),
 ag 5 7 17]) .skip))
 (.seq (.al [ag 0 18 0,
 ag 1 19 0,
 ad 2 20 (.bin .mul 27 (U 18) (U 19)),
 ag 3 21 2,
 ad 4 22 (.bin .rem 27 (U 20) (U 21)),
 ag 5 0 22])
 (.al [ag 0 23 1,
 ad 1 24 (.bin .quo 27 (U 23) (.const (.int .u64 2))),
 ag 2 1 24])))))
def GQ:aX:=(.seq (.al [ad 0 6 (.av (.const (.int .u64 0)))])
 (.seq (.al [ad 0 7 (.av (.const (.int .u64 1)))])
 (.seq (.block 0 (.loop V2))
 (.seq (.al [ag 0 25 7,
 ag 1 6 25])
 .ret))))
def Mu:List bb:=[.av (U 6)]
theorem QT:bB Tryz.prog 95=some GQ:=by kernel_rfl
theorem Zp:bC Tryz.prog 95=some Mu:=by kernel_rfl
def GR:aX:=(.seq (.al [ad 0 1 (.box (U 0)),
 ad 1 2 (.av (.const (.int .i64 0)))])
 (.seq (.seq (.al [ad 0 3 (.aW 0 (U 1)),
 ad 1 4 (.ld1 (U 3))])
 (.block 0 (.seq (.al [ad 0 6 (.bin .eql 5 (U 4) (.const (.int .u8 1))),
 ag 1 5 6])
 (.cond (U 5) (.seq (.al [ad 0 7 (.aW 2 (U 1)),
 ad 1 8 (.ld1 (U 7)),
 ad 2 9 (.bin .eql 27 (U 8) (.const (.int .u64 0))),
 ag 3 10 9,
 aT 4 11 10 true (.aW 3 (U 1)),
 aT 5 12 10 true (.ld1 (U 11)),
 aT 6 13 10 true (.bin .eql 9 (U 12) (.const (.string ⟨#[]⟩))),
 ad 7 14 (.pick (U 10) (U 13) (.const (.bool false)))])
 (.cond (U 14) (.seq (.al [ad 0 2 (.av (.const (.int .i64 0)))])
 .ret) .skip)) (.seq (.al [ad 0 16 (.bin .eql 5 (U 4) (.const (.int .u8 2))),
 ag 1 15 16])
 (.cond (U 15) (.seq (.ho [ad 0 17 (.aW 1 (U 1)),
 ad 1 18 (.ld1 (U 17)),
 ad 2 19 (.bin .eql 2 (U 18) (.const (.int .i64 0))),
 ag 3 20 19,
 aT 4 21 20 true (.aW 3 (U 1)),
 aT 5 22 20 true (.ld1 (U 21)),
 aT 6 23 20 true (.bin .eql 9 (U 22) (.const (.string ⟨#[]⟩))),
 ad 7 24 (.pick (U 20) (U 23) (.const (.bool false))),
 ag 8 25 24,
 aT 9 26 25 true (.aW 2 (U 1)),
 aT 10 27 25 true (.ld1 (U 26)),
 aT 12 29 25 true (.aW 2 (U 1)),
 ⟨13,(some 30),(some ((some 25),true)),.c2 (.ld1 (U 29)),[],true⟩,
 ⟨11,(some 28),(some ((some 25),true)),.dq 137 [(U 27)],[13],false⟩,
 aT 14 31 25 true (.bin .eql 27 (U 28) (U 30)),
 ad 15 32 (.pick (U 25) (U 31) (.const (.bool false)))])
 (.cond (U 32) (.seq (.al [ad 0 2 (.av (.const (.int .i64 0)))])
 .ret) .skip)) (.seq (.al [ad 0 34 (.bin .eql 5 (U 4) (.const (.int .u8 3))),
 ag 1 33 34])
 (.cond (U 33) (.seq (.al [ad 0 35 (.aW 1 (U 1)),
 ad 1 36 (.ld1 (U 35)),
 ad 2 37 (.bin .eql 2 (U 36) (.const (.int .i64 0))),
 ag 3 38 37,
 aT 4 39 38 true (.aW 2 (U 1)),
 aT 5 40 38 true (.ld1 (U 39)),
 aT 6 41 38 true (.bin .eql 27 (U 40) (.const (.int .u64 0))),
 ad 7 42 (.pick (U 38) (U 41) (.const (.bool false))),
 ag 8 43 42,
 aT 9 44 43 true (.aW 3 (U 1)),
 aT 10 45 43 true (.ld1 (U 44)),
 aT 11 46 43 true (.len .str (U 45)),
 aT 12 47 43 true (.bin .leq 3 (U 46) (.const (.int .i64 30))),
 ad 13 48 (.pick (U 43) (U 47) (.const (.bool false))),
 ag 14 49 48,
 aT 15 50 49 true (.aW 3 (U 1)),
 aT 16 51 49 true (.ld1 (U 50)),
 ⟨17,(some 52),(some ((some 49),true)),.dq 138 [(U 51)],[],false⟩,
 ad 18 53 (.pick (U 49) (U 52) (.const (.bool false)))])
 (.cond (U 53) (.seq (.al [ad 0 2 (.av (.const (.int .i64 0)))])
 .ret) .skip)) .skip))))))))
 (.seq (.al [ad 0 2 (.av (.const (.int .i64 8)))])
 .ret)))
def Mv:List bb:=[.av (U 2)]
theorem QU:bB Tryz.prog 96=some GR:=by kernel_rfl
theorem Zq:bC Tryz.prog 96=some Mv:=by kernel_rfl
def V3:aX:=(.seq (.seq (.al [ag 0 5 4,
 ad 1 6 (.bin .lss 3 (U 5) (.const (.int .i64 32)))])
 (.cond (U 6) .skip (.exit 0)))
 (.seq (.block 1 (.al [ag 0 9 4,
 ag 1 10 4,
 ad 2 11 (.bin .quo 3 (U 10) (.const (.int .i64 4))),
 ad 3 12 (.bq (.arr 8 1) (U 1) (U 11)),
 ad 4 13 (.ld1 (U 12)),
 ag 5 14 4,
 ad 6 15 (.bin .rem 3 (U 14) (.const (.int .i64 4))),
 ad 7 16 (.bin .mul 3 (.const (.int .i64 8)) (U 15)),
 ad 8 17 (.bin .sub 3 (.const (.int .i64 24)) (U 16)),
 ad 9 18 (.bin .shr 25 (U 13) (U 17)),
 ad 10 19 (.cR .u8 (U 18)),
 ad 11 20 (.bq (.arr 32 1) (U 3) (U 9)),
 ch 12 (.st 1 (U 20) (U 19))]))
 (.al [ag 0 7 4,
 ad 1 8 (.bin .add 3 (U 7) (.const (.int .i64 1))),
 ag 2 4 8])))
def GU:aX:=(.seq (.al [ad 0 1 (.box (U 0)),
 ad 1 2 (.alloc (rep 32 (.int .u8 0)))])
 (.seq (.al [ad 0 3 (.alloc (rep 32 (.int .u8 0)))])
 (.seq (.seq (.al [ad 0 4 (.av (.const (.int .i64 0)))])
 (.block 0 (.loop V3)))
 (.seq (.al [ad 0 21 (.bh 32 (U 3)),
 ch 1 (.st 32 (U 2) (U 21))])
 .ret))))
def Mw:List bb:=[.bh 32 (U 2)]
theorem QV:bB Tryz.prog 97=some GU:=by kernel_rfl
theorem Zr:bC Tryz.prog 97=some Mw:=by kernel_rfl
def V4:aX:=(.seq (.seq (.al [ag 0 6 5,
 ad 1 7 (.bin .add 3 (U 6) (.const (.int .i64 64))),
 ag 2 8 1,
 ad 3 9 (.len (.ao 1) (U 8)),
 ad 4 10 (.bin .leq 3 (U 7) (U 9))])
 (.cond (U 10) .skip (.exit 0)))
 (.seq (.block 1 (.al [ad 0 13 (.bh 8 (U 2)),
 ag 1 14 1,
 ag 2 15 5,
 ag 3 16 5,
 ad 4 17 (.bin .add 3 (U 16) (.const (.int .i64 64))),
 ad 5 18 (.slice (.ao 1) (U 14) (some (U 15)) (some (U 17)) none),
 sc 6 19 139 [(U 13),(U 18)],
 ch 7 (.st 8 (U 2) (U 19))]))
 (.al [ag 0 11 5,
 ad 1 12 (.bin .add 3 (U 11) (.const (.int .i64 64))),
 ag 2 5 12])))
def GV:aX:=(.seq (.al [ad 0 2 (.box (U 0)),
 ad 1 4 (.alloc [.int .u32 0,.int .u32 0,.int .u32 0,.int .u32 0,.int .u32 0,.int .u32 0,.int .u32 0,.int .u32 0])])
 (.seq (.seq (.al [ad 0 5 (.av (.const (.int .i64 0)))])
 (.block 0 (.loop V4)))
 (.seq (.al [ad 0 20 (.bh 8 (U 2)),
 ch 1 (.st 8 (U 4) (U 20))])
 .ret)))
def Mx:List bb:=[.bh 8 (U 4)]
theorem QW:bB Tryz.prog 98=some GV:=by kernel_rfl
theorem Zs:bC Tryz.prog 98=some Mx:=by kernel_rfl
def GX:aX:=(.seq (.al [ad 0 0 (.alloc [.int .u32 0,.int .u32 0,.int .u32 0,.int .u32 0,.int .u32 0,.int .u32 0,.int .u32 0,.int .u32 0])])
 (.seq (.al [ad 0 1 (.gA [.int .u32 0,.int .u32 0,.int .u32 0,.int .u32 0,.int .u32 0,.int .u32 0,.int .u32 0,.int .u32 0] [(0,1,(.const (.int .u32 1779033703))),(1,1,(.const (.int .u32 3144134277))),(2,1,(.const (.int .u32 1013904242))),(3,1,(.const (.int .u32 2773480762))),(4,1,(.const (.int .u32 1359893119))),(5,1,(.const (.int .u32 2600822924))),(6,1,(.const (.int .u32 528734635))),(7,1,(.const (.int .u32 1541459225)))]),
 ch 1 (.st 8 (U 0) (U 1))])
 .ret))
def My:List bb:=[.bh 8 (U 0)]
theorem QX:bB Tryz.prog 99=some GX:=by kernel_rfl
theorem Zt:bC Tryz.prog 99=some My:=by kernel_rfl
def UU:aX:=(.seq (.seq (.al [ag 0 6 0,
 ag 1 7 3,
 ad 2 8 (.len (.ao 1) (U 7)),
 ad 3 9 (.bin .add 3 (U 6) (U 8)),
 ad 4 10 (.bin .add 3 (U 9) (.const (.int .i64 8))),
 ad 5 11 (.bin .rem 3 (U 10) (.const (.int .i64 64))),
 ad 6 12 (.bin .neq 3 (U 11) (.const (.int .i64 0)))])
 (.cond (U 12) .skip (.exit 0)))
 (.block 1 (.al [ag 0 13 3,
 ad 1 14 (.c5 1 [.int .u8 0] 1 [(0,(.const (.int .u8 0)))]),
 ad 2 15 (.app 1 1 (U 13) (U 14)),
 ag 3 3 15])))
def UV:aX:=(.seq (.seq (.al [ag 0 16 4,
 ad 1 17 (.bin .geq 3 (U 16) (.const (.int .i64 0)))])
 (.cond (U 17) .skip (.exit 2)))
 (.seq (.block 3 (.al [ag 0 20 3,
 ag 1 21 0,
 ad 2 22 (.cR .u64 (U 21)),
 ad 3 23 (.bin .mul 27 (.const (.int .u64 8)) (U 22)),
 ag 4 24 4,
 ad 5 25 (.bin .mul 3 (.const (.int .i64 8)) (U 24)),
 ad 6 26 (.bin .shr 27 (U 23) (U 25)),
 ad 7 27 (.cR .u8 (U 26)),
 ad 8 28 (.c5 1 [.int .u8 0] 1 [(0,(U 27))]),
 ad 9 29 (.app 1 1 (U 20) (U 28)),
 ag 10 3 29]))
 (.al [ag 0 18 4,
 ad 1 19 (.bin .sub 3 (U 18) (.const (.int .i64 1))),
 ag 2 4 19])))
def ED:aX:=(.seq (.al [ad 0 2 (.av (.const (.slice none 0 0)))])
 (.seq (.al [ad 0 5 (.c5 1 [.int .u8 0] 1 [(0,(.const (.int .u8 128)))]),
 ag 1 3 5])
 (.seq (.block 0 (.loop UU))
 (.seq (.seq (.al [ad 0 4 (.av (.const (.int .i64 7)))])
 (.block 2 (.loop UV)))
 (.seq (.al [ag 0 30 3,
 ag 1 2 30])
 .ret)))))
def Ko:List bb:=[.av (U 2)]
theorem OG:bB Tryz.prog 100=some ED:=by kernel_rfl
theorem Xe:bC Tryz.prog 100=some Ko:=by kernel_rfl
def EE:aX:=(.seq (.al [ad 0 1 (.box (U 0)),
 ad 1 2 (.av (.const (.slice none 0 0)))])
 (.seq (.al [ad 0 4 (.c5 1 [.int .u8 0] 1 [(0,(.const (.int .u8 111)))]),
 ad 1 5 (.aW 0 (U 1)),
 ad 2 6 (.ld1 (U 5)),
 ad 3 7 (.cR .u64 (U 6)),
 sc 4 8 102 [(U 7)],
 ad 5 9 (.app 1 1 (U 4) (U 8)),
 ag 6 3 9])
 (.seq (.ho [ag 0 10 3,
 ad 1 11 (.aW 1 (U 1)),
 ad 2 12 (.ld1 (U 11)),
 ad 5 15 (.aW 2 (U 1)),
 ⟨6,(some 16),none,.c2 (.ld1 (U 15)),[],true⟩,
 ⟨3,(some 13),none,.dq 140 [(U 12)],[6],false⟩,
 ⟨4,(some 14),none,.c2 (.app 1 1 (U 10) (U 13)),[6],false⟩,
 sc 7 17 102 [(U 16)],
 ad 8 18 (.app 1 1 (U 14) (U 17)),
 ag 9 3 18])
 (.seq (.al [ag 0 19 3,
 ad 1 20 (.aW 3 (U 1)),
 ad 2 21 (.aW 0 (U 20)),
 ad 3 22 (.ld1 (U 21)),
 ad 4 23 (.c5 1 [.int .u8 0] 1 [(0,(U 22))]),
 ad 5 24 (.app 1 1 (U 19) (U 23)),
 ag 6 3 24])
 (.seq (.seq (.al [ad 0 25 (.aW 3 (U 1)),
 ad 1 26 (.aW 0 (U 25)),
 ad 2 27 (.ld1 (U 26)),
 ad 3 28 (.bin .neq 5 (U 27) (.const (.int .u8 1)))])
 (.cond (U 28) (.al [ag 0 29 3,
 ad 1 30 (.aW 3 (U 1)),
 ad 2 31 (.aW 1 (U 30)),
 ad 3 32 (.ld1 (U 31)),
 ad 4 33 (.pH (U 32)),
 sc 5 34 141 [(U 33)],
 ad 6 35 (.app 1 1 (U 29) (U 34)),
 ag 7 3 35]) .skip))
 (.seq (.seq (.al [ad 0 36 (.aW 3 (U 1)),
 ad 1 37 (.aW 0 (U 36)),
 ad 2 38 (.ld1 (U 37)),
 ad 3 39 (.bin .eql 5 (U 38) (.const (.int .u8 4)))])
 (.cond (U 39) (.al [ag 0 40 3,
 ad 1 41 (.aW 3 (U 1)),
 ad 2 42 (.aW 2 (U 41)),
 ad 3 43 (.bh 4 (U 42)),
 sc 4 44 142 [(U 43)],
 ad 5 45 (.app 1 1 (U 40) (U 44)),
 ag 6 3 45]) .skip))
 (.seq (.al [ag 0 46 3,
 ag 1 2 46])
 .ret)))))))
def Kp:List bb:=[.av (U 2)]
theorem OH:bB Tryz.prog 101=some EE:=by kernel_rfl
theorem Xf:bC Tryz.prog 101=some Kp:=by kernel_rfl
def UW:aX:=(.seq (.seq (.al [ag 0 11 0,
 ad 1 12 (.bin .gtr 27 (U 11) (.const (.int .u64 0)))])
 (.cond (U 12) .skip (.exit 0)))
 (.block 1 (.seq (.al [ag 0 13 3,
 ag 1 14 0,
 ad 2 15 (.bin .rem 27 (U 14) (.const (.int .u64 256))),
 ad 3 16 (.cR .u8 (U 15)),
 ad 4 17 (.c5 1 [.int .u8 0] 1 [(0,(U 16))]),
 ad 5 18 (.app 1 1 (U 13) (U 17)),
 ag 6 3 18])
 (.al [ag 0 19 0,
 ad 1 20 (.bin .quo 27 (U 19) (.const (.int .u64 256))),
 ag 2 0 20]))))
def UX:aX:=(.seq (.seq (.al [ag 0 29 5,
 ad 1 30 (.bin .geq 3 (U 29) (.const (.int .i64 0)))])
 (.cond (U 30) .skip (.exit 2)))
 (.seq (.block 3 (.al [ag 0 33 4,
 ag 1 34 3,
 ag 2 35 5,
 ad 3 36 (.bq (.ao 1) (U 34) (U 35)),
 ad 4 37 (.ld1 (U 36)),
 ad 5 38 (.c5 1 [.int .u8 0] 1 [(0,(U 37))]),
 ad 6 39 (.app 1 1 (U 33) (U 38)),
 ag 7 4 39]))
 (.al [ag 0 31 5,
 ad 1 32 (.bin .sub 3 (U 31) (.const (.int .i64 1))),
 ag 2 5 32])))
def EF:aX:=(.seq (.al [ad 0 2 (.av (.const (.slice none 0 0)))])
 (.seq (.seq (.al [ag 0 6 0,
 ad 1 7 (.bin .leq 27 (U 6) (.const (.int .u64 247)))])
 (.cond (U 7) (.seq (.al [ag 0 8 0,
 ad 1 9 (.cR .u8 (U 8)),
 ad 2 10 (.c5 1 [.int .u8 0] 1 [(0,(U 9))]),
 ag 3 2 10])
 .ret) .skip))
 (.seq (.al [ad 0 3 (.av (.const (.slice none 0 0)))])
 (.seq (.block 0 (.loop UW))
 (.seq (.al [ag 0 21 3,
 ad 1 22 (.len (.ao 1) (U 21)),
 ad 2 23 (.bin .add 3 (.const (.int .i64 247)) (U 22)),
 ad 3 24 (.cR .u8 (U 23)),
 ad 4 25 (.c5 1 [.int .u8 0] 1 [(0,(U 24))]),
 ag 5 4 25])
 (.seq (.seq (.al [ag 0 26 3,
 ad 1 27 (.len (.ao 1) (U 26)),
 ad 2 28 (.bin .sub 3 (U 27) (.const (.int .i64 1))),
 ag 3 5 28])
 (.block 2 (.loop UX)))
 (.seq (.al [ag 0 40 4,
 ag 1 2 40])
 .ret)))))))
def Kq:List bb:=[.av (U 2)]
theorem OI:bB Tryz.prog 102=some EF:=by kernel_rfl
theorem Xg:bC Tryz.prog 102=some Kq:=by kernel_rfl
def EG:aX:=(.seq (.al [ad 0 2 (.av (.const (.int .u32 0)))])
 (.seq (.al [ag 0 3 0,
 ad 1 4 (.cR .u64 (U 3)),
 sc 2 5 143 [(U 4)],
 ag 3 2 5])
 .ret))
def Kr:List bb:=[.av (U 2)]
theorem OJ:bB Tryz.prog 105=some EG:=by kernel_rfl
theorem Xh:bC Tryz.prog 105=some Kr:=by kernel_rfl
def EH:aX:=(.seq (.al [ad 0 1 (.box (U 0)),
 ad 1 2 (.av (.const (.int .i64 0)))])
 (.seq (.block 0 (.seq (.al [ad 0 4 (.aW 1 (U 1)),
 ad 1 5 (.ld1 (U 4)),
 ad 2 6 (.len (.ao 32) (U 5)),
 ad 3 7 (.bin .gtr 3 (U 6) (.const (.int .i64 4))),
 ag 4 3 7])
 (.cond (U 3) (.seq (.al [ad 0 2 (.av (.const (.int .i64 4)))])
 .ret) (.seq (.ho [ad 0 9 (.aW 1 (U 1)),
 ad 1 10 (.ld1 (U 9)),
 sc 2 11 148 [(U 10),(.func 121)],
 ad 3 12 (.un .not (U 11)),
 ag 4 13 12,
 aT 5 14 13 false (.aW 1 (U 1)),
 aT 6 15 13 false (.ld1 (U 14)),
 aT 10 19 13 false (.aW 1 (U 1)),
 ⟨11,(some 20),(some ((some 13),false)),.c2 (.ld1 (U 19)),[],true⟩,
 aT 12 21 13 false (.len (.ao 32) (U 20)),
 ⟨7,(some 16),(some ((some 13),false)),.dq 150 [(U 15)],[11],false⟩,
 ⟨8,(some 17),(some ((some 13),false)),.dq 149 [(U 16)],[11],false⟩,
 aT 9 18 13 false (.len (.ao 32) (U 17)),
 aT 13 22 13 false (.bin .neq 3 (U 18) (U 21)),
 ad 14 23 (.pick (U 13) (.const (.bool true)) (U 22)),
 ag 15 8 23])
 (.cond (U 8) (.seq (.al [ad 0 2 (.av (.const (.int .i64 32)))])
 .ret) (.seq (.al [ad 0 25 (.aW 0 (U 1)),
 ad 1 26 (.ld1 (U 25)),
 sc 2 27 151 [(U 26)],
 ad 3 28 (.un .not (U 27)),
 ag 4 29 28,
 aT 5 30 29 false (.aW 2 (U 1)),
 aT 6 31 29 false (.ld1 (U 30)),
 aT 7 32 29 false (.bin .gtr 27 (U 31) (.const (.int .u64 1000000000000))),
 ad 8 33 (.pick (U 29) (.const (.bool true)) (U 32)),
 ag 9 34 33,
 aT 10 35 34 false (.aW 9 (U 1)),
 aT 11 36 34 false (.aW 0 (U 35)),
 aT 12 37 34 false (.ld1 (U 36)),
 aT 13 38 34 false (.aW 9 (U 1)),
 aT 14 39 34 false (.aW 1 (U 38)),
 aT 15 40 34 false (.ld1 (U 39)),
 aT 16 41 34 false (.max (U 37) (U 40)),
 aT 17 42 34 false (.bin .geq 25 (U 41) (.const (.int .u32 500000003))),
 ad 18 43 (.pick (U 34) (.const (.bool true)) (U 42)),
 ag 19 24 43])
 (.cond (U 24) (.seq (.al [ad 0 2 (.av (.const (.int .i64 8)))])
 .ret) .skip)))))))
 (.seq (.al [ad 0 44 (.aW 3 (U 1)),
 ad 1 45 (.bh 6 (U 44)),
 sc 2 46 50 [(U 45)],
 ag 3 2 46])
 .ret)))
def Ks:List bb:=[.av (U 2)]
theorem OK:bB Tryz.prog 107=some EH:=by kernel_rfl
theorem Xi:bC Tryz.prog 107=some Ks:=by kernel_rfl
def EI:aX:=(.seq (.al [ad 0 1 (.box (U 0)),
 ad 1 2 (.av (.const (.slice none 0 0))),
 ad 2 3 (.av (.const (.int .i64 0)))])
 (.seq (.al [ad 0 12 (.gA [.int .u32 0,.int .u32 0] []),
 ad 1 13 (.aW 9 (U 1)),
 ch 2 (.st 2 (U 13) (U 12))])
 (.seq (.seq (.al [ad 0 14 (.bh 11 (U 1)),
 sc 1 15 107 [(U 14)],
 ag 2 4 15])
 (.seq (.al [ag 0 16 4,
 ad 1 17 (.bin .neq 38 (U 16) (.const (.int .i64 0)))])
 (.cond (U 17) (.seq (.al [ag 0 18 4,
 ad 1 2 (.av (.const (.slice none 0 0))),
 ag 2 3 18])
 .ret) .skip)))
 (.seq (.al [ad 0 20 (.aW 1 (U 1)),
 ad 1 21 (.ld1 (U 20)),
 sc 2 22 152 [(U 21)],
 ag 3 19 22,
 ad 4 23 (.ext (U 19) 0),
 ad 5 24 (.ext (U 19) 1),
 ag 6 5 23,
 ag 7 6 24])
 (.seq (.ho [⟨0,(some 25),none,.c2 (.c5 1 [.int .u8 0] 1 [(0,(.const (.int .u8 111)))]),[],true⟩,
 ad 1 26 (.aW 0 (U 1)),
 ad 2 27 (.ld1 (U 26)),
 ad 3 28 (.cR .u64 (U 27)),
 ag 5 30 5,
 ad 6 31 (.aW 2 (U 1)),
 ⟨7,(some 32),none,.c2 (.ld1 (U 31)),[],true⟩,
 ad 9 34 (.aW 3 (U 1)),
 ad 10 35 (.aW 0 (U 34)),
 ⟨11,(some 36),none,.c2 (.ld1 (U 35)),[],true⟩,
 ⟨12,(some 37),none,.c2 (.c5 1 [.int .u8 0] 1 [(0,(U 36))]),[],true⟩,
 ⟨4,(some 29),none,.dq 110 [(U 28)],[12,11,7,0],false⟩,
 ⟨8,(some 33),none,.dq 110 [(U 32)],[12,11,0],false⟩,
 ad 13 38 (.c5 1 [.a6] 5 [(0,(U 25)),(1,(U 29)),(2,(U 30)),(3,(U 33)),(4,(U 37))]),
 sc 14 39 109 [(U 38)],
 ag 15 7 39])
 (.seq (.seq (.al [ad 0 40 (.aW 3 (U 1)),
 ad 1 41 (.aW 0 (U 40)),
 ad 2 42 (.ld1 (U 41)),
 ad 3 43 (.bin .eql 5 (U 42) (.const (.int .u8 1)))])
 (.cond (U 43) (.seq (.al [ag 0 44 7,
 ag 1 2 44,
 ad 2 3 (.av (.const (.int .i64 0)))])
 .ret) .skip))
 (.seq (.al [ad 0 46 (.aW 3 (U 1)),
 ad 1 47 (.aW 1 (U 46)),
 ad 2 48 (.ld1 (U 47)),
 ad 3 49 (.pH (U 48)),
 sc 4 50 153 [(U 49)],
 ag 5 45 50,
 ad 6 51 (.ext (U 45) 0),
 ad 7 52 (.ext (U 45) 1),
 ag 8 8 51,
 ag 9 9 52])
 (.seq (.al [ag 0 53 7,
 ag 1 54 8,
 ad 2 55 (.app 1 1 (U 53) (U 54)),
 ag 3 7 55])
 (.seq (.seq (.al [ad 0 56 (.aW 3 (U 1)),
 ad 1 57 (.aW 0 (U 56)),
 ad 2 58 (.ld1 (U 57)),
 ad 3 59 (.bin .eql 5 (U 58) (.const (.int .u8 4)))])
 (.cond (U 59) (.seq (.al [ad 0 61 (.aW 3 (U 1)),
 ad 1 62 (.aW 2 (U 61)),
 ad 2 63 (.bh 4 (U 62)),
 sc 3 64 154 [(U 63)],
 ag 4 60 64,
 ad 5 65 (.ext (U 60) 0),
 ad 6 66 (.ext (U 60) 1),
 ag 7 10 65,
 ag 8 11 66])
 (.al [ag 0 67 7,
 ag 1 68 10,
 ad 2 69 (.app 1 1 (U 67) (U 68)),
 ag 3 7 69])) .skip))
 (.seq (.al [ag 0 70 7,
 ag 1 2 70,
 ad 2 3 (.av (.const (.int .i64 0)))])
 .ret))))))))))
def Kt:List bb:=[.av (U 2),.av (U 3)]
theorem OL:bB Tryz.prog 108=some EI:=by kernel_rfl
theorem Xj:bC Tryz.prog 108=some Kt:=by kernel_rfl
def Jz:aX:=(.seq (.al [ad 0 12 (.bin .lss 3 (U 11) (U 10))])
 (.seq (.cond (U 12) .skip (.exit 0))
 (.seq (.block 1 (.seq (.al [ad 0 13 (.bq (.ao 1) (U 9) (U 11)),
 ad 1 14 (.ld1 (U 13)),
 ag 2 5 14])
 (.seq (.al [ag 0 15 3,
 ag 1 16 5,
 ad 2 17 (.len (.ao 1) (U 16)),
 ad 3 18 (.bin .add 3 (U 15) (U 17)),
 ag 4 3 18])
 (.seq (.al [ag 0 19 3,
 ad 1 20 (.bin .lss 3 (U 19) (.const (.int .i64 0)))])
 (.cond (U 20) (.al [ad 0 21 (.rT 9 (.const (.string ⟨#[108,101,110,32,111,117,116,32,111,102,32,114,97,110,103,101]⟩))),
 ch 1 (.stop)]) .skip)))))
 (.al [ad 0 22 (.bin .add 3 (U 11) (.const (.int .i64 1))),
 ag 1 11 22]))))
def JA:aX:=(.seq (.al [ad 0 28 (.bin .lss 3 (U 27) (U 26))])
 (.seq (.cond (U 28) .skip (.exit 2))
 (.seq (.block 3 (.seq (.al [ad 0 29 (.bq (.ao 1) (U 25) (U 27)),
 ad 1 30 (.ld1 (U 29)),
 ag 2 8 30])
 (.al [ag 0 31 6,
 ag 1 32 8,
 ad 2 33 (.app 1 1 (U 31) (U 32)),
 ag 3 6 33])))
 (.al [ad 0 34 (.bin .add 3 (U 27) (.const (.int .i64 1))),
 ag 1 27 34]))))
def AZ:aX:=(.seq (.al [ad 0 2 (.av (.const (.slice none 0 0)))])
 (.seq (.al [ad 0 3 (.av (.const (.int .i64 0)))])
 (.seq (.seq (.al [ag 0 9 0,
 ad 1 10 (.len (.ao 1) (U 9)),
 ad 2 11 (.av (.const (.int .i64 0)))])
 (.block 0 (.loop Jz)))
 (.seq (.al [ag 0 23 3,
 sc 1 24 155 [(.const (.slice none 0 0)),(U 23)],
 ag 2 6 24])
 (.seq (.seq (.al [ag 0 25 0,
 ad 1 26 (.len (.ao 1) (U 25)),
 ad 2 27 (.av (.const (.int .i64 0)))])
 (.block 2 (.loop JA)))
 (.seq (.al [ag 0 35 6,
 ag 1 2 35])
 .ret))))))
def Dn:List bb:=[.av (U 2)]
theorem EJ:bB Tryz.prog 109=some AZ:=by kernel_rfl
theorem Ku:bC Tryz.prog 109=some Dn:=by kernel_rfl
def UY:aX:=(.seq (.al [ad 0 25 (.bin .lss 3 (U 24) (U 23))])
 (.seq (.cond (U 25) .skip (.exit 0))
 (.seq (.block 1 (.seq (.al [ag 0 26 24,
 ag 1 5 26])
 (.al [ag 0 27 4,
 ag 1 28 3,
 ag 2 29 5,
 ad 3 30 (.bin .sub 3 (U 28) (U 29)),
 ag 4 31 0,
 ag 5 32 5,
 ad 6 33 (.bin .mul 3 (.const (.int .i64 8)) (U 32)),
 ad 7 34 (.bin .shr 27 (U 31) (U 33)),
 ad 8 35 (.cR .u8 (U 34)),
 ad 9 36 (.bq (.ao 1) (U 27) (U 30)),
 ch 10 (.st 1 (U 36) (U 35))])))
 (.al [ad 0 37 (.bin .add 3 (U 24) (.const (.int .i64 1))),
 ag 1 24 37]))))
def EK:aX:=(.seq (.al [ad 0 2 (.av (.const (.slice none 0 0)))])
 (.seq (.seq (.al [ag 0 6 0,
 ad 1 7 (.bin .leq 27 (U 6) (.const (.int .u64 247)))])
 (.cond (U 7) (.seq (.al [ag 0 8 0,
 ad 1 9 (.cR .u8 (U 8)),
 ad 2 10 (.c5 1 [.int .u8 0] 1 [(0,(U 9))]),
 ag 3 2 10])
 .ret) .skip))
 (.seq (.al [ag 0 11 0,
 sc 1 12 135 [(U 11)],
 ad 2 13 (.bin .add 3 (U 12) (.const (.int .i64 7))),
 ad 3 14 (.bin .quo 3 (U 13) (.const (.int .i64 8))),
 ag 4 3 14])
 (.seq (.al [ag 0 15 3,
 ad 1 16 (.bin .add 3 (U 15) (.const (.int .i64 1))),
 ad 2 17 (.k2 1 1 [.int .u8 0] (U 16) (U 16)),
 ag 3 4 17])
 (.seq (.al [ag 0 18 4,
 ag 1 19 3,
 ad 2 20 (.bin .add 3 (.const (.int .i64 247)) (U 19)),
 ad 3 21 (.cR .u8 (U 20)),
 ad 4 22 (.bq (.ao 1) (U 18) (.const (.int .i64 0))),
 ch 5 (.st 1 (U 22) (U 21))])
 (.seq (.seq (.al [ag 0 23 3,
 ad 1 24 (.av (.const (.int .i64 0)))])
 (.block 0 (.loop UY)))
 (.seq (.al [ag 0 38 4,
 ag 1 2 38])
 .ret)))))))
def Kv:List bb:=[.av (U 2)]
theorem OM:bB Tryz.prog 110=some EK:=by kernel_rfl
theorem Xk:bC Tryz.prog 110=some Kv:=by kernel_rfl
def UZ:aX:=(.seq (.al [ad 0 19 (.bin .lss 3 (U 18) (U 17))])
 (.seq (.cond (U 19) .skip (.exit 0))
 (.seq (.block 1 (.seq (.al [ad 0 20 (.bq (.ao 1) (U 16) (U 18)),
 ad 1 21 (.ld1 (U 20)),
 ag 2 6 21])
 (.al [ad 0 22 (.bh 10 (U 4)),
 ag 1 23 6,
 sc 2 24 159 [(U 22),(U 23)],
 ch 3 (.st 10 (U 4) (U 24))])))
 (.al [ad 0 25 (.bin .add 3 (U 18) (.const (.int .i64 1))),
 ag 1 18 25]))))
def EL:aX:=(.seq (.al [ad 0 2 (.alloc (rep 32 (.int .u8 0))),
 ad 1 3 (.av (.const (.int .i64 0)))])
 (.seq (.seq (.al [ag 0 7 0,
 ad 1 8 (.len (.ao 1) (U 7)),
 ad 2 9 (.bin .gtr 3 (U 8) (.const (.int .i64 20))),
 ag 3 10 9,
 aT 4 11 10 false (.av (U 0)),
 ⟨5,(some 12),(some ((some 10),false)),.dq 156 [(U 11),(.func 157)],[],false⟩,
 ad 6 13 (.pick (U 10) (.const (.bool true)) (U 12))])
 (.cond (U 13) (.seq (.al [ad 0 14 (.gA (rep 32 (.int .u8 0)) []),
 ch 1 (.st 32 (U 2) (U 14)),
 ad 2 3 (.av (.const (.int .i64 4)))])
 .ret) .skip))
 (.seq (.al [sc 0 15 158 [],
 ad 1 4 (.alloc [.int .u32 0,.int .u32 0,.int .u32 0,.int .u32 0,.int .u32 0,.int .u32 0,.int .u32 0,.int .u32 0,.a6,.int .i64 0]),
 ch 2 (.st 10 (U 4) (U 15))])
 (.seq (.seq (.al [ag 0 16 0,
 ad 1 17 (.len (.ao 1) (U 16)),
 ad 2 18 (.av (.const (.int .i64 0)))])
 (.block 0 (.loop UZ)))
 (.seq (.al [ad 0 26 (.bh 10 (U 4)),
 sc 1 27 160 [(U 26)],
 ch 2 (.st 32 (U 2) (U 27)),
 ad 3 3 (.av (.const (.int .i64 0)))])
 .ret)))))
def Kw:List bb:=[.bh 32 (U 2),.av (U 3)]
theorem ON:bB Tryz.prog 111=some EL:=by kernel_rfl
theorem Xl:bC Tryz.prog 111=some Kw:=by kernel_rfl
def EM:aX:=(.seq (.al [ad 0 2 (.av (.const (.bool false)))])
 (.seq (.al [ag 0 3 0,
 ag 1 4 0,
 ad 2 5 (.bin .neq 9 (U 3) (U 4)),
 ag 3 2 5])
 .ret))
def Kx:List bb:=[.av (U 2)]
theorem OO:bB Tryz.prog 112=some EM:=by kernel_rfl
theorem Xm:bC Tryz.prog 112=some Kx:=by kernel_rfl
def EN:aX:=(.seq (.al [ad 0 4 (.av (.const (.int .i64 0)))])
 (.seq (.al [ag 0 5 0,
 ag 1 6 1,
 sc 2 7 162 [(U 5),(U 6),(.const (.bool true))],
 ag 3 4 7])
 .ret))
def Ky:List bb:=[.av (U 4)]
theorem OP:bB Tryz.prog 115=some EN:=by kernel_rfl
theorem Xn:bC Tryz.prog 115=some Ky:=by kernel_rfl
def EO:aX:=(.seq (.al [ad 0 2 (.av (.const (.bool false)))])
 (.seq (.al [ag 0 3 0,
 ad 1 4 (.bin .lss 21 (U 3) (.const (.int .i32 33))),
 ag 2 5 4,
 aT 3 6 5 false (.av (U 0)),
 aT 4 7 5 false (.bin .gtr 21 (U 6) (.const (.int .i32 126))),
 ad 5 8 (.pick (U 5) (.const (.bool true)) (U 7)),
 ag 6 2 8])
 .ret))
def Kz:List bb:=[.av (U 2)]
theorem OQ:bB Tryz.prog 116=some EO:=by kernel_rfl
theorem Xo:bC Tryz.prog 116=some Kz:=by kernel_rfl
def EP:aX:=(.seq (.al [ad 0 2 (.alloc [.int .u8 0,.int .i64 0,.int .u64 0,.str []])])
 (.seq (.al [ag 0 3 0,
 ad 1 4 (.gA [.int .u8 0,.int .i64 0,.int .u64 0,.str []] [(0,1,(.const (.int .u8 1))),(1,1,(U 3))]),
 ch 2 (.st 4 (U 2) (U 4))])
 .ret))
def KA:List bb:=[.bh 4 (U 2)]
theorem OS:bB Tryz.prog 117=some EP:=by kernel_rfl
theorem Xp:bC Tryz.prog 117=some KA:=by kernel_rfl
def EQ:aX:=(.seq (.al [ad 0 2 (.alloc [.int .u8 0,.int .i64 0,.int .u64 0,.str []])])
 (.seq (.al [ag 0 3 0,
 sc 1 4 163 [(U 3)],
 ad 2 5 (.gA [.int .u8 0,.int .i64 0,.int .u64 0,.str []] [(0,1,(.const (.int .u8 2))),(2,1,(U 4))]),
 ch 3 (.st 4 (U 2) (U 5))])
 .ret))
def KB:List bb:=[.bh 4 (U 2)]
theorem OT:bB Tryz.prog 118=some EQ:=by kernel_rfl
theorem Xq:bC Tryz.prog 118=some KB:=by kernel_rfl
def ER:aX:=(.seq (.al [ad 0 2 (.alloc [.int .u8 0,.int .i64 0,.int .u64 0,.str []]),
 ad 1 3 (.av (.const (.int .i64 0)))])
 (.seq (.seq (.al [ag 0 4 0,
 ad 1 5 (.len .str (U 4)),
 ad 2 6 (.bin .gtr 3 (U 5) (.const (.int .i64 30)))])
 (.cond (U 6) (.seq (.al [ad 0 7 (.gA [.int .u8 0,.int .i64 0,.int .u64 0,.str []] []),
 ch 1 (.st 4 (U 2) (U 7)),
 ad 2 3 (.av (.const (.int .i64 4)))])
 .ret) .skip))
 (.seq (.seq (.al [ag 0 8 0,
 sc 1 9 115 [(U 8),(.func 164)],
 ad 2 10 (.bin .geq 3 (U 9) (.const (.int .i64 0)))])
 (.cond (U 10) (.seq (.al [ad 0 11 (.gA [.int .u8 0,.int .i64 0,.int .u64 0,.str []] []),
 ch 1 (.st 4 (U 2) (U 11)),
 ad 2 3 (.av (.const (.int .i64 8)))])
 .ret) .skip))
 (.seq (.al [ag 0 12 0,
 ad 1 13 (.gA [.int .u8 0,.int .i64 0,.int .u64 0,.str []] [(0,1,(.const (.int .u8 3))),(3,1,(U 12))]),
 ch 2 (.st 4 (U 2) (U 13)),
 ad 3 3 (.av (.const (.int .i64 0)))])
 .ret))))
def KC:List bb:=[.bh 4 (U 2),.av (U 3)]
theorem OU:bB Tryz.prog 119=some ER:=by kernel_rfl
theorem Xr:bC Tryz.prog 119=some KC:=by kernel_rfl
def ES:aX:=(.seq (.al [ad 0 5 (.box (U 2)),
 ad 1 6 (.av (.const (.int .i64 0)))])
 (.seq (.seq (.al [ag 0 13 0,
 sc 1 14 151 [(U 13)],
 ad 2 15 (.un .not (U 14))])
 (.cond (U 15) (.seq (.al [ad 0 6 (.av (.const (.int .i64 2)))])
 .ret) .skip))
 (.seq (.seq (.al [ag 0 16 1,
 ad 1 17 (.len (.ao 1) (U 16)),
 ad 2 18 (.bin .gtr 3 (U 17) (.const (.int .i64 9991)))])
 (.cond (U 18) (.seq (.al [ad 0 6 (.av (.const (.int .i64 4)))])
 .ret) .skip))
 (.seq (.seq (.al [ad 0 19 (.aW 0 (U 5)),
 ad 1 20 (.ld1 (U 19)),
 ad 2 21 (.aW 1 (U 5)),
 ad 3 22 (.ld1 (U 21)),
 ad 4 23 (.max (U 20) (U 22)),
 ad 5 24 (.bin .geq 25 (U 23) (.const (.int .u32 500000003)))])
 (.cond (U 24) (.seq (.al [ad 0 6 (.av (.const (.int .i64 22)))])
 .ret) .skip))
 (.seq (.al [ag 0 26 0,
 ad 1 27 (.aW 0 (U 5)),
 ad 2 28 (.ld1 (U 27)),
 ad 3 29 (.cR .u64 (U 28)),
 ad 4 30 (.bin .sub 27 (.const (.int .u64 500000003)) (U 29)),
 sc 5 31 165 [(U 26),(U 30)],
 ag 6 25 31,
 ad 7 32 (.ext (U 25) 0),
 ad 8 33 (.ext (U 25) 1),
 ag 9 7 32,
 ag 10 8 33])
 (.seq (.al [ad 0 35 (.aW 1 (U 5)),
 ad 1 36 (.ld1 (U 35)),
 ad 2 37 (.cR .u64 (U 36)),
 sc 3 38 167 [(U 37)],
 ag 4 39 7,
 sc 5 40 166 [(U 38),(U 39)],
 ag 6 34 40,
 ad 7 41 (.ext (U 34) 0),
 ad 8 42 (.ext (U 34) 1),
 ag 9 9 41,
 ag 10 10 42])
 (.seq (.seq (.al [ag 0 44 9,
 ag 1 45 0,
 ag 2 46 1,
 sc 3 47 168 [(U 44),(U 45),(U 46)],
 ag 4 43 47,
 ad 5 48 (.ext (U 43) 0),
 ad 6 49 (.ext (U 43) 1),
 ag 7 11 48,
 ag 8 12 49])
 (.seq (.al [ag 0 50 12,
 ad 1 51 (.bin .neq 38 (U 50) (.const (.int .i64 0))),
 ag 2 52 51,
 aT 3 53 52 false (.av (U 11)),
 aT 4 54 52 false (.aW 0 (U 5)),
 aT 5 55 52 false (.ld1 (U 54)),
 aT 6 56 52 false (.bin .neq 25 (U 53) (U 55)),
 ad 7 57 (.pick (U 52) (.const (.bool true)) (U 56))])
 (.cond (U 57) (.seq (.al [ad 0 6 (.av (.const (.int .i64 22)))])
 .ret) .skip)))
 (.seq (.al [ad 0 6 (.av (.const (.int .i64 0)))])
 .ret))))))))
def KD:List bb:=[.av (U 6)]
theorem OV:bB Tryz.prog 120=some ES:=by kernel_rfl
theorem Xs:bC Tryz.prog 120=some KD:=by kernel_rfl
def ET:aX:=(.seq (.al [ad 0 2 (.box (U 0)),
 ad 1 3 (.box (U 1)),
 ad 2 4 (.av (.const (.int .i64 0)))])
 (.seq (.al [ad 0 5 (.slice (.arr 32 1) (U 2) none none none),
 ad 1 6 (.slice (.arr 32 1) (U 3) none none none),
 sc 2 7 76 [(U 5),(U 6)],
 ag 3 4 7])
 .ret))
def KE:List bb:=[.av (U 4)]
theorem OW:bB Tryz.prog 121=some ET:=by kernel_rfl
theorem Xt:bC Tryz.prog 121=some KE:=by kernel_rfl
def EU:aX:=(.seq (.al [ad 0 2 (.box (U 0)),
 ad 1 3 (.box (U 1)),
 ad 2 4 (.av (.const (.int .i64 0))),
 ad 3 5 (.av (.const (.bool false)))])
 (.seq (.al [ad 0 6 (.aW 0 (U 2)),
 ad 1 7 (.ld1 (U 6)),
 ad 2 8 (.bh 32 (U 3)),
 sc 3 9 123 [(U 7),(U 8),(.func 121)],
 ad 4 10 (.ext (U 9) 0),
 ad 5 11 (.ext (U 9) 1),
 ag 6 4 10,
 ag 7 5 11])
 .ret))
def KF:List bb:=[.av (U 4),.av (U 5)]
theorem OX:bB Tryz.prog 122=some EU:=by kernel_rfl
theorem Xu:bC Tryz.prog 122=some KF:=by kernel_rfl
def U0:aX:=(.seq (.seq (.al [ag 0 15 9,
 ag 1 16 10,
 ad 2 17 (.bin .lss 3 (U 15) (U 16))])
 (.cond (U 17) .skip (.exit 0)))
 (.block 1 (.seq (.al [ag 0 18 9,
 ag 1 19 10,
 ad 2 20 (.bin .add 3 (U 18) (U 19)),
 ad 3 21 (.cR .u64 (U 20)),
 ad 4 22 (.bin .shr 125 (U 21) (.const (.int .u64 1))),
 ad 5 23 (.cR .i64 (U 22)),
 ag 6 11 23])
 (.seq (.al [ag 0 24 2,
 ag 1 25 0,
 ag 2 26 11,
 ad 3 27 (.bq (.ao 32) (U 25) (U 26)),
 ad 4 28 (.bh 32 (U 27)),
 ad 5 29 (.bh 32 (U 4)),
 ⟨6,(some 30),none,.hn (U 24) [(U 28),(U 29)],[],false⟩,
 ad 7 31 (.bin .lss 3 (U 30) (.const (.int .i64 0)))])
 (.cond (U 31) (.al [ag 0 32 11,
 ad 1 33 (.bin .add 3 (U 32) (.const (.int .i64 1))),
 ag 2 9 33]) (.al [ag 0 34 11,
 ag 1 10 34]))))))
def EV:aX:=(.seq (.al [ad 0 4 (.box (U 1)),
 ad 1 6 (.av (.const (.int .i64 0))),
 ad 2 7 (.av (.const (.bool false)))])
 (.seq (.al [ag 0 12 0,
 ad 1 13 (.len (.ao 32) (U 12)),
 ag 2 8 13])
 (.seq (.al [ag 0 14 8,
 ad 1 9 (.av (.const (.int .i64 0))),
 ag 2 10 14])
 (.seq (.block 0 (.loop U0))
 (.seq (.al [ag 0 35 9,
 ag 1 36 9,
 ag 2 37 8,
 ad 3 38 (.bin .lss 3 (U 36) (U 37)),
 ag 4 39 38,
 aT 5 40 39 true (.av (U 2)),
 aT 6 41 39 true (.av (U 0)),
 aT 7 42 39 true (.av (U 9)),
 aT 8 43 39 true (.bq (.ao 32) (U 41) (U 42)),
 aT 9 44 39 true (.bh 32 (U 43)),
 aT 10 45 39 true (.bh 32 (U 4)),
 ⟨11,(some 46),(some ((some 39),true)),.hn (U 40) [(U 44),(U 45)],[],false⟩,
 aT 12 47 39 true (.bin .eql 3 (U 46) (.const (.int .i64 0))),
 ad 13 48 (.pick (U 39) (U 47) (.const (.bool false))),
 ag 14 6 35,
 ag 15 7 48])
 .ret)))))
def KG:List bb:=[.av (U 6),.av (U 7)]
theorem OY:bB Tryz.prog 123=some EV:=by kernel_rfl
theorem Xv:bC Tryz.prog 123=some KG:=by kernel_rfl
def U1:aX:=(.seq (.al [ad 0 14 (.bin .lss 3 (U 13) (U 12))])
 (.seq (.cond (U 14) .skip (.exit 0))
 (.seq (.block 1 (.seq (.al [ag 0 15 13,
 ad 1 16 (.bq (.ao 32) (U 11) (U 13)),
 ad 2 17 (.bh 32 (U 16)),
 ad 3 5 (.alloc (rep 32 (.int .u8 0))),
 ag 4 4 15,
 ch 5 (.st 32 (U 5) (U 17))])
 (.al [ag 0 18 3,
 ad 1 19 (.bh 32 (U 5)),
 ag 2 20 4,
 ch 3 (.qk 71 (U 18) (U 19) (U 20))])))
 (.al [ad 0 21 (.bin .add 3 (U 13) (.const (.int .i64 1))),
 ag 1 13 21]))))
def EW:aX:=(.seq (.al [ad 0 1 (.box (U 0)),
 ad 1 2 (.av (.const (.map none)))])
 (.seq (.al [ad 0 6 (.aW 0 (U 1)),
 ad 1 7 (.ld1 (U 6)),
 ad 2 8 (.len (.ao 32) (U 7)),
 ad 3 9 (.o9 (some (U 8))),
 ag 4 3 9])
 (.seq (.seq (.al [ad 0 10 (.aW 0 (U 1)),
 ad 1 11 (.ld1 (U 10)),
 ad 2 12 (.len (.ao 32) (U 11)),
 ad 3 13 (.av (.const (.int .i64 0)))])
 (.block 0 (.loop U1)))
 (.seq (.al [ag 0 22 3,
 ag 1 2 22])
 .ret))))
def KH:List bb:=[.av (U 2)]
theorem OZ:bB Tryz.prog 124=some EW:=by kernel_rfl
theorem Xw:bC Tryz.prog 124=some KH:=by kernel_rfl
def U2:aX:=(.seq (.al [ad 0 27 (.bin .lss 3 (U 26) (U 25))])
 (.seq (.cond (U 27) .skip (.exit 0))
 (.seq (.block 1 (.seq (.al [ad 0 28 (.bq (.ao 32) (U 24) (U 26)),
 ad 1 29 (.bh 32 (U 28)),
 ad 2 8 (.alloc (rep 32 (.int .u8 0))),
 ch 3 (.st 32 (U 8) (U 29))])
 (.al [ad 0 30 (.ld1 (U 4)),
 ad 1 31 (.bh 32 (U 8)),
 ⟨2,(some 32),none,.hn (U 30) [(U 31)],[],false⟩])))
 (.al [ad 0 33 (.bin .add 3 (U 26) (.const (.int .i64 1))),
 ag 1 26 33]))))
def EX:aX:=(.seq (.al [ad 0 5 (.box (U 0))])
 (.seq (.al [ad 0 9 (.ld1 (U 1)),
 ad 1 10 (.bh 32 (U 5)),
 ad 2 11 (.rQ 71 (.int .i64 0) false (U 9) (U 10)),
 ag 3 6 11])
 (.seq (.seq (.al [ad 0 12 (.ld1 (U 2)),
 ag 1 13 6,
 ad 2 14 (.bq (.ao 1) (U 12) (U 13)),
 ad 3 15 (.ld1 (U 14))])
 (.cond (U 15) .ret .skip))
 (.seq (.al [ad 0 16 (.ld1 (U 2)),
 ag 1 17 6,
 ad 2 18 (.bq (.ao 1) (U 16) (U 17)),
 ch 3 (.st 1 (U 18) (.const (.bool true)))])
 (.seq (.al [ad 0 19 (.aW 1 (U 3)),
 ad 1 20 (.ld1 (U 19)),
 ag 2 21 6,
 ad 3 22 (.bq (.ao 11) (U 20) (U 21)),
 ad 4 23 (.aW 1 (U 22)),
 ad 5 24 (.ld1 (U 23)),
 ad 6 25 (.len (.ao 32) (U 24)),
 ad 7 26 (.av (.const (.int .i64 0)))])
 (.block 0 (.loop U2)))))))
def KI:List bb:=[]
theorem O0:bB Tryz.prog 125=some EX:=by kernel_rfl
theorem Xx:bC Tryz.prog 125=some KI:=by kernel_rfl
def aiB:aX:=(.seq (.seq (.al [ag 0 18 9,
 ag 1 19 1,
 ad 2 20 (.bin .gtr 3 (U 18) (U 19)),
 ag 3 21 20,
 aT 4 22 21 true (.av (U 3)),
 aT 5 23 21 true (.av (U 0)),
 aT 6 24 21 true (.av (U 9)),
 aT 7 25 21 true (.bq (.ao 33) (U 23) (U 24)),
 aT 8 26 21 true (.bh 33 (U 25)),
 aT 9 27 21 true (.av (U 0)),
 aT 10 28 21 true (.av (U 9)),
 aT 11 29 21 true (.bin .sub 3 (U 28) (.const (.int .i64 1))),
 aT 12 30 21 true (.bq (.ao 33) (U 27) (U 29)),
 aT 13 31 21 true (.bh 33 (U 30)),
 ⟨14,(some 32),(some ((some 21),true)),.hn (U 22) [(U 26),(U 31)],[],false⟩,
 aT 15 33 21 true (.bin .lss 3 (U 32) (.const (.int .i64 0))),
 ad 16 34 (.pick (U 21) (U 33) (.const (.bool false)))])
 (.cond (U 34) .skip (.exit 2)))
 (.seq (.block 3 (.al [ag 0 37 0,
 ag 1 38 9,
 ag 2 39 0,
 ag 3 40 9,
 ad 4 41 (.bin .sub 3 (U 40) (.const (.int .i64 1))),
 ag 5 42 0,
 ag 6 43 9,
 ad 7 44 (.bin .sub 3 (U 43) (.const (.int .i64 1))),
 ad 8 45 (.bq (.ao 33) (U 42) (U 44)),
 ad 9 46 (.bh 33 (U 45)),
 ag 10 47 0,
 ag 11 48 9,
 ad 12 49 (.bq (.ao 33) (U 47) (U 48)),
 ad 13 50 (.bh 33 (U 49)),
 ad 14 51 (.bq (.ao 33) (U 37) (U 38)),
 ch 15 (.st 33 (U 51) (U 46)),
 ad 16 52 (.bq (.ao 33) (U 39) (U 41)),
 ch 17 (.st 33 (U 52) (U 50))]))
 (.al [ag 0 35 9,
 ad 1 36 (.bin .sub 3 (U 35) (.const (.int .i64 1))),
 ag 2 9 36])))
def aiC:aX:=(.seq (.seq (.al [ag 0 12 8,
 ag 1 13 2,
 ad 2 14 (.bin .lss 3 (U 12) (U 13))])
 (.cond (U 14) .skip (.exit 0)))
 (.seq (.block 1 (.seq (.al [ag 0 17 8,
 ag 1 9 17])
 (.block 2 (.loop aiB))))
 (.al [ag 0 15 8,
 ad 1 16 (.bin .add 3 (U 15) (.const (.int .i64 1))),
 ag 2 8 16])))
def O1:aX:=(.seq (.al [ag 0 10 1,
 ad 1 11 (.bin .add 3 (U 10) (.const (.int .i64 1))),
 ag 2 8 11])
 (.block 0 (.loop aiC)))
def Xy:List bb:=[]
theorem acL:bB Tryz.prog 126=some O1:=by kernel_rfl
theorem ake:bC Tryz.prog 126=some Xy:=by kernel_rfl
def O2:aX:=(.seq (.al [ad 0 2 (.av (.const (.int .i64 0)))])
 (.seq (.seq (.al [ag 0 3 0,
 ad 1 4 (.bin .geq 25 (U 3) (.const (.int .u32 65536)))])
 (.cond (U 4) (.seq (.al [ag 0 5 0,
 ad 1 6 (.bin .shr 25 (U 5) (.const (.int .u64 16))),
 ag 2 0 6])
 (.al [ad 0 2 (.av (.const (.int .i64 16)))])) .skip))
 (.seq (.seq (.al [ag 0 7 0,
 ad 1 8 (.bin .geq 25 (U 7) (.const (.int .u32 256)))])
 (.cond (U 8) (.seq (.al [ag 0 9 0,
 ad 1 10 (.bin .shr 25 (U 9) (.const (.int .u64 8))),
 ag 2 0 10])
 (.al [ag 0 11 2,
 ad 1 12 (.bin .add 3 (U 11) (.const (.int .i64 8))),
 ag 2 2 12])) .skip))
 (.seq (.al [ag 0 13 2,
 ag 1 14 0,
 ad 2 15 (.cR .u8 (U 14)),
 ad 3 16 (.oZ (.const (.string ⟨#[0,1,2,2,3,3,3,3,4,4,4,4,4,4,4,4,5,5,5,5,5,5,5,5,5,5,5,5,5,5,5,5,6,6,6,6,6,6,6,6,6,6,6,6,6,6,6,6,6,6,6,6,6,6,6,6,6,6,6,6,6,6,6,6,7,7,7,7,7,7,7,7,7,7,7,7,7,7,7,7,7,7,7,7,7,7,7,7,7,7,7,7,7,7,7,7,7,7,7,7,7,7,7,7,7,7,7,7,7,7,7,7,7,7,7,7,7,7,7,7,7,7,7,7,7,7,7,7,8,8,8,8,8,8,8,8,8,8,8,8,8,8,8,8,8,8,8,8,8,8,8,8,8,8,8,8,8,8,8,8,8,8,8,8,8,8,8,8,8,8,8,8,8,8,8,8,8,8,8,8,8,8,8,8,8,8,8,8,8,8,8,8,8,8,8,8,8,8,8,8,8,8,8,8,8,8,8,8,8,8,8,8,8,8,8,8,8,8,8,8,8,8,8,8,8,8,8,8,8,8,8,8,8,8,8,8,8,8,8,8,8,8,8,8,8,8,8,8,8,8,8,8,8,8,8,8]⟩)) (U 15)),
 ad 4 17 (.cR .i64 (U 16)),
 ad 5 18 (.bin .add 3 (U 13) (U 17)),
 ag 6 2 18])
 .ret))))
def Xz:List bb:=[.av (U 2)]
theorem acM:bB Tryz.prog 134=some O2:=by kernel_rfl
theorem akf:bC Tryz.prog 134=some Xz:=by kernel_rfl
def EY:aX:=(.seq (.al [ad 0 2 (.av (.const (.int .i64 0)))])
 (.seq (.seq (.al [ag 0 3 0,
 ad 1 4 (.bin .geq 27 (U 3) (.const (.int .u64 4294967296)))])
 (.cond (U 4) (.seq (.al [ag 0 5 0,
 ad 1 6 (.bin .shr 27 (U 5) (.const (.int .u64 32))),
 ag 2 0 6])
 (.al [ad 0 2 (.av (.const (.int .i64 32)))])) .skip))
 (.seq (.seq (.al [ag 0 7 0,
 ad 1 8 (.bin .geq 27 (U 7) (.const (.int .u64 65536)))])
 (.cond (U 8) (.seq (.al [ag 0 9 0,
 ad 1 10 (.bin .shr 27 (U 9) (.const (.int .u64 16))),
 ag 2 0 10])
 (.al [ag 0 11 2,
 ad 1 12 (.bin .add 3 (U 11) (.const (.int .i64 16))),
 ag 2 2 12])) .skip))
 (.seq (.seq (.al [ag 0 13 0,
 ad 1 14 (.bin .geq 27 (U 13) (.const (.int .u64 256)))])
 (.cond (U 14) (.seq (.al [ag 0 15 0,
 ad 1 16 (.bin .shr 27 (U 15) (.const (.int .u64 8))),
 ag 2 0 16])
 (.al [ag 0 17 2,
 ad 1 18 (.bin .add 3 (U 17) (.const (.int .i64 8))),
 ag 2 2 18])) .skip))
 (.seq (.al [ag 0 19 2,
 ag 1 20 0,
 ad 2 21 (.cR .u8 (U 20)),
 ad 3 22 (.oZ (.const (.string ⟨#[0,1,2,2,3,3,3,3,4,4,4,4,4,4,4,4,5,5,5,5,5,5,5,5,5,5,5,5,5,5,5,5,6,6,6,6,6,6,6,6,6,6,6,6,6,6,6,6,6,6,6,6,6,6,6,6,6,6,6,6,6,6,6,6,7,7,7,7,7,7,7,7,7,7,7,7,7,7,7,7,7,7,7,7,7,7,7,7,7,7,7,7,7,7,7,7,7,7,7,7,7,7,7,7,7,7,7,7,7,7,7,7,7,7,7,7,7,7,7,7,7,7,7,7,7,7,7,7,8,8,8,8,8,8,8,8,8,8,8,8,8,8,8,8,8,8,8,8,8,8,8,8,8,8,8,8,8,8,8,8,8,8,8,8,8,8,8,8,8,8,8,8,8,8,8,8,8,8,8,8,8,8,8,8,8,8,8,8,8,8,8,8,8,8,8,8,8,8,8,8,8,8,8,8,8,8,8,8,8,8,8,8,8,8,8,8,8,8,8,8,8,8,8,8,8,8,8,8,8,8,8,8,8,8,8,8,8,8,8,8,8,8,8,8,8,8,8,8,8,8,8,8,8,8,8,8]⟩)) (U 21)),
 ad 4 23 (.cR .i64 (U 22)),
 ad 5 24 (.bin .add 3 (U 19) (U 23)),
 ag 6 2 24])
 .ret)))))
def KJ:List bb:=[.av (U 2)]
theorem O3:bB Tryz.prog 135=some EY:=by kernel_rfl
theorem XA:bC Tryz.prog 135=some KJ:=by kernel_rfl
def EZ:aX:=(.seq (.al [ad 0 5 (.box (U 2)),
 ad 1 6 (.av (.const (.bool false)))])
 (.seq (.seq (.al [ad 0 9 (.aW 0 (U 5)),
 ad 1 10 (.ld1 (U 9)),
 sc 2 11 66 [(U 10)],
 ad 3 12 (.un .not (U 11)),
 ag 4 13 12,
 aT 5 14 13 false (.aW 1 (U 5)),
 aT 6 15 13 false (.ld1 (U 14)),
 ⟨7,(some 16),(some ((some 13),false)),.dq 66 [(U 15)],[],false⟩,
 aT 8 17 13 false (.un .not (U 16)),
 ad 9 18 (.pick (U 13) (.const (.bool true)) (U 17))])
 (.cond (U 18) (.seq (.al [ad 0 6 (.av (.const (.bool false)))])
 .ret) .skip))
 (.seq (.al [ag 0 20 0,
 ad 1 21 (.aW 0 (U 5)),
 ad 2 22 (.ld1 (U 21)),
 ad 3 23 (.cR .u64 (U 22)),
 sc 4 24 175 [(U 20),(U 23)],
 sc 5 25 174 [(U 24)],
 ag 6 19 25,
 ad 7 26 (.ext (U 19) 0),
 ad 8 27 (.ext (U 19) 1),
 ag 9 7 26,
 ag 10 8 27])
 (.seq (.ho [ad 0 28 (.aW 1 (U 5)),
 ad 1 29 (.ld1 (U 28)),
 ag 3 31 7,
 ag 5 33 0,
 ag 6 34 1,
 ad 8 36 (.aW 0 (U 5)),
 ⟨9,(some 37),none,.c2 (.ld1 (U 36)),[],true⟩,
 ⟨2,(some 30),none,.dq 105 [(U 29)],[9],false⟩,
 ⟨4,(some 32),none,.dq 176 [(U 30),(U 31)],[9],false⟩,
 ⟨7,(some 35),none,.dq 145 [(U 32),(U 33),(U 34)],[9],false⟩,
 ad 10 38 (.bin .eql 25 (U 35) (U 37)),
 ag 11 6 38])
 .ret))))
def KK:List bb:=[.av (U 6)]
theorem O4:bB Tryz.prog 136=some EZ:=by kernel_rfl
theorem XB:bC Tryz.prog 136=some KK:=by kernel_rfl
def E0:aX:=(.seq (.al [ad 0 2 (.av (.const (.int .u64 0)))])
 (.seq (.seq (.al [ag 0 3 0,
 sc 1 4 177 [(U 3)],
 ad 2 5 (.bin .eql 5 (U 4) (.const (.int .u8 5)))])
 (.cond (U 5) (.seq (.al [ad 0 2 (.av (.const (.int .u64 9221120237041090560)))])
 .ret) .skip))
 (.seq (.al [ag 0 6 0,
 ag 1 2 6])
 .ret)))
def KL:List bb:=[.av (U 2)]
theorem O5:bB Tryz.prog 137=some E0:=by kernel_rfl
theorem XC:bC Tryz.prog 137=some KL:=by kernel_rfl
def U3:aX:=(.seq (.seq (.al [ag 0 4 3,
 ag 1 5 0,
 ad 2 6 (.len .str (U 5)),
 ad 3 7 (.bin .lss 3 (U 4) (U 6))])
 (.cond (U 7) .skip (.exit 0)))
 (.seq (.block 1 (.seq (.al [ag 0 10 0,
 ag 1 11 3,
 ad 2 12 (.oZ (U 10) (U 11)),
 ad 3 13 (.bin .lss 5 (U 12) (.const (.int .u8 32))),
 ag 4 14 13,
 aT 5 15 14 false (.av (U 0)),
 aT 6 16 14 false (.av (U 3)),
 aT 7 17 14 false (.oZ (U 15) (U 16)),
 aT 8 18 14 false (.bin .gtr 5 (U 17) (.const (.int .u8 126))),
 ad 9 19 (.pick (U 14) (.const (.bool true)) (U 18))])
 (.cond (U 19) (.seq (.al [ad 0 2 (.av (.const (.bool false)))])
 .ret) .skip)))
 (.al [ag 0 8 3,
 ad 1 9 (.bin .add 3 (U 8) (.const (.int .i64 1))),
 ag 2 3 9])))
def E1:aX:=(.seq (.al [ad 0 2 (.av (.const (.bool false)))])
 (.seq (.seq (.al [ad 0 3 (.av (.const (.int .i64 0)))])
 (.block 0 (.loop U3)))
 (.seq (.al [ad 0 2 (.av (.const (.bool true)))])
 .ret)))
def KM:List bb:=[.av (U 2)]
theorem O6:bB Tryz.prog 138=some E1:=by kernel_rfl
theorem XD:bC Tryz.prog 138=some KM:=by kernel_rfl
def U4:aX:=(.seq (.seq (.al [ag 0 22 6,
 ad 1 23 (.bin .lss 3 (U 22) (.const (.int .i64 16)))])
 (.cond (U 23) .skip (.exit 0)))
 (.seq (.block 1 (.al [ag 0 26 5,
 ag 1 27 1,
 ag 2 28 6,
 ad 3 29 (.bin .mul 3 (.const (.int .i64 4)) (U 28)),
 ad 4 30 (.bq (.ao 1) (U 27) (U 29)),
 ad 5 31 (.ld1 (U 30)),
 ad 6 32 (.cR .u32 (U 31)),
 ad 7 33 (.bin .mul 25 (U 32) (.const (.int .u32 256))),
 ag 8 34 1,
 ag 9 35 6,
 ad 10 36 (.bin .mul 3 (.const (.int .i64 4)) (U 35)),
 ad 11 37 (.bin .add 3 (U 36) (.const (.int .i64 1))),
 ad 12 38 (.bq (.ao 1) (U 34) (U 37)),
 ad 13 39 (.ld1 (U 38)),
 ad 14 40 (.cR .u32 (U 39)),
 ad 15 41 (.bin .add 25 (U 33) (U 40)),
 ad 16 42 (.bin .mul 25 (U 41) (.const (.int .u32 256))),
 ag 17 43 1,
 ag 18 44 6,
 ad 19 45 (.bin .mul 3 (.const (.int .i64 4)) (U 44)),
 ad 20 46 (.bin .add 3 (U 45) (.const (.int .i64 2))),
 ad 21 47 (.bq (.ao 1) (U 43) (U 46)),
 ad 22 48 (.ld1 (U 47)),
 ad 23 49 (.cR .u32 (U 48)),
 ad 24 50 (.bin .add 25 (U 42) (U 49)),
 ad 25 51 (.bin .mul 25 (U 50) (.const (.int .u32 256))),
 ag 26 52 1,
 ag 27 53 6,
 ad 28 54 (.bin .mul 3 (.const (.int .i64 4)) (U 53)),
 ad 29 55 (.bin .add 3 (U 54) (.const (.int .i64 3))),
 ad 30 56 (.bq (.ao 1) (U 52) (U 55)),
 ad 31 57 (.ld1 (U 56)),
 ad 32 58 (.cR .u32 (U 57)),
 ad 33 59 (.bin .add 25 (U 51) (U 58)),
 ad 34 60 (.c5 1 [.int .u32 0] 1 [(0,(U 59))]),
 ad 35 61 (.app 1 4 (U 26) (U 60)),
 ag 36 5 61]))
 (.al [ag 0 24 6,
 ad 1 25 (.bin .add 3 (U 24) (.const (.int .i64 1))),
 ag 2 6 25])))
def U5:aX:=(.seq (.seq (.al [ag 0 62 7,
 ad 1 63 (.bin .lss 3 (U 62) (.const (.int .i64 64)))])
 (.cond (U 63) .skip (.exit 2)))
 (.seq (.block 3 (.seq (.al [ag 0 66 5,
 ag 1 67 7,
 ad 2 68 (.bin .sub 3 (U 67) (.const (.int .i64 15))),
 ad 3 69 (.bq (.ao 1) (U 66) (U 68)),
 ad 4 70 (.ld1 (U 69)),
 ag 5 71 5,
 ag 6 72 7,
 ad 7 73 (.bin .sub 3 (U 72) (.const (.int .i64 2))),
 ad 8 74 (.bq (.ao 1) (U 71) (U 73)),
 ad 9 75 (.ld1 (U 74)),
 ag 10 8 70,
 ag 11 9 75])
 (.ho [ag 0 76 5,
 ag 1 77 5,
 ag 2 78 7,
 ad 3 79 (.bin .sub 3 (U 78) (.const (.int .i64 16))),
 ad 4 80 (.bq (.ao 1) (U 77) (U 79)),
 ⟨5,(some 81),none,.c2 (.ld1 (U 80)),[],true⟩,
 ag 6 82 5,
 ag 7 83 7,
 ad 8 84 (.bin .sub 3 (U 83) (.const (.int .i64 7))),
 ad 9 85 (.bq (.ao 1) (U 82) (U 84)),
 ⟨10,(some 86),none,.c2 (.ld1 (U 85)),[],true⟩,
 ad 11 87 (.bin .add 25 (U 81) (U 86)),
 ag 12 88 8,
 ag 14 90 8,
 ag 17 93 8,
 ad 18 94 (.bin .shr 25 (U 93) (.const (.int .u64 3))),
 ag 21 97 9,
 ag 23 99 9,
 ag 26 102 9,
 ad 27 103 (.bin .shr 25 (U 102) (.const (.int .u64 10))),
 ⟨13,(some 89),none,.dq 178 [(U 88),(.const (.int .i64 7))],[10,5],false⟩,
 ⟨15,(some 91),none,.dq 178 [(U 90),(.const (.int .i64 18))],[10,5],false⟩,
 ad 16 92 (.bin .xor 25 (U 89) (U 91)),
 ad 19 95 (.bin .xor 25 (U 92) (U 94)),
 ad 20 96 (.bin .add 25 (U 87) (U 95)),
 ⟨22,(some 98),none,.dq 178 [(U 97),(.const (.int .i64 17))],[10,5],false⟩,
 ⟨24,(some 100),none,.dq 178 [(U 99),(.const (.int .i64 19))],[10,5],false⟩,
 ad 25 101 (.bin .xor 25 (U 98) (U 100)),
 ad 28 104 (.bin .xor 25 (U 101) (U 103)),
 ad 29 105 (.bin .add 25 (U 96) (U 104)),
 ad 30 106 (.c5 1 [.int .u32 0] 1 [(0,(U 105))]),
 ad 31 107 (.app 1 4 (U 76) (U 106)),
 ag 32 5 107])))
 (.al [ag 0 64 7,
 ad 1 65 (.bin .add 3 (U 64) (.const (.int .i64 1))),
 ag 2 7 65])))
def U6:aX:=(.seq (.seq (.al [ag 0 110 12,
 ad 1 111 (.bin .lss 3 (U 110) (.const (.int .i64 64)))])
 (.cond (U 111) .skip (.exit 4)))
 (.seq (.block 5 (.seq (.al [ad 0 114 (.bq (.arr 8 1) (U 11) (.const (.int .i64 0))),
 ad 1 115 (.ld1 (U 114)),
 ad 2 116 (.bq (.arr 8 1) (U 11) (.const (.int .i64 1))),
 ad 3 117 (.ld1 (U 116)),
 ad 4 118 (.bq (.arr 8 1) (U 11) (.const (.int .i64 2))),
 ad 5 119 (.ld1 (U 118)),
 ad 6 120 (.bq (.arr 8 1) (U 11) (.const (.int .i64 4))),
 ad 7 121 (.ld1 (U 120)),
 ad 8 122 (.bq (.arr 8 1) (U 11) (.const (.int .i64 5))),
 ad 9 123 (.ld1 (U 122)),
 ad 10 124 (.bq (.arr 8 1) (U 11) (.const (.int .i64 6))),
 ad 11 125 (.ld1 (U 124)),
 ag 12 13 115,
 ag 13 14 117,
 ag 14 15 119,
 ag 15 16 121,
 ag 16 17 123,
 ag 17 18 125])
 (.seq (.ho [ad 0 126 (.bq (.arr 8 1) (U 11) (.const (.int .i64 7))),
 ⟨1,(some 127),none,.c2 (.ld1 (U 126)),[],true⟩,
 ag 2 128 16,
 ag 4 130 16,
 ag 7 133 16,
 ag 11 137 16,
 ag 12 138 17,
 ad 13 139 (.bin .and 25 (U 137) (U 138)),
 ag 14 140 16,
 ad 15 141 (.un .xor (U 140)),
 ag 16 142 18,
 ad 17 143 (.bin .and 25 (U 141) (U 142)),
 ad 18 144 (.bin .xor 25 (U 139) (U 143)),
 ag 20 146 10,
 ag 21 147 12,
 ad 22 148 (.bq (.ao 1) (U 146) (U 147)),
 ⟨23,(some 149),none,.c2 (.ld1 (U 148)),[],true⟩,
 ag 25 151 5,
 ag 26 152 12,
 ad 27 153 (.bq (.ao 1) (U 151) (U 152)),
 ⟨28,(some 154),none,.c2 (.ld1 (U 153)),[],true⟩,
 ⟨3,(some 129),none,.dq 178 [(U 128),(.const (.int .i64 6))],[28,23,1],false⟩,
 ⟨5,(some 131),none,.dq 178 [(U 130),(.const (.int .i64 11))],[28,23,1],false⟩,
 ad 6 132 (.bin .xor 25 (U 129) (U 131)),
 ⟨8,(some 134),none,.dq 178 [(U 133),(.const (.int .i64 25))],[28,23,1],false⟩,
 ad 9 135 (.bin .xor 25 (U 132) (U 134)),
 ad 10 136 (.bin .add 25 (U 127) (U 135)),
 ad 19 145 (.bin .add 25 (U 136) (U 144)),
 ad 24 150 (.bin .add 25 (U 145) (U 149)),
 ad 29 155 (.bin .add 25 (U 150) (U 154)),
 ag 30 19 155])
 (.seq (.al [ag 0 156 13,
 sc 1 157 178 [(U 156),(.const (.int .i64 2))],
 ag 2 158 13,
 sc 3 159 178 [(U 158),(.const (.int .i64 13))],
 ad 4 160 (.bin .xor 25 (U 157) (U 159)),
 ag 5 161 13,
 sc 6 162 178 [(U 161),(.const (.int .i64 22))],
 ad 7 163 (.bin .xor 25 (U 160) (U 162)),
 ag 8 164 13,
 ag 9 165 14,
 ad 10 166 (.bin .and 25 (U 164) (U 165)),
 ag 11 167 13,
 ag 12 168 15,
 ad 13 169 (.bin .and 25 (U 167) (U 168)),
 ad 14 170 (.bin .xor 25 (U 166) (U 169)),
 ag 15 171 14,
 ag 16 172 15,
 ad 17 173 (.bin .and 25 (U 171) (U 172)),
 ad 18 174 (.bin .xor 25 (U 170) (U 173)),
 ad 19 175 (.bin .add 25 (U 163) (U 174)),
 ag 20 20 175])
 (.al [ag 0 176 19,
 ag 1 177 20,
 ad 2 178 (.bin .add 25 (U 176) (U 177)),
 ag 3 179 13,
 ag 4 180 14,
 ag 5 181 15,
 ad 6 182 (.bq (.arr 8 1) (U 11) (.const (.int .i64 3))),
 ad 7 183 (.ld1 (U 182)),
 ag 8 184 19,
 ad 9 185 (.bin .add 25 (U 183) (U 184)),
 ag 10 186 16,
 ag 11 187 17,
 ag 12 188 18,
 ad 13 189 (.gA [.int .u32 0,.int .u32 0,.int .u32 0,.int .u32 0,.int .u32 0,.int .u32 0,.int .u32 0,.int .u32 0] [(0,1,(U 178)),(1,1,(U 179)),(2,1,(U 180)),(3,1,(U 181)),(4,1,(U 185)),(5,1,(U 186)),(6,1,(U 187)),(7,1,(U 188))]),
 ch 14 (.st 8 (U 11) (U 189))])))))
 (.al [ag 0 112 12,
 ad 1 113 (.bin .add 3 (U 112) (.const (.int .i64 1))),
 ag 2 12 113])))
def U7:aX:=(.seq (.seq (.al [ag 0 190 21,
 ad 1 191 (.bin .lss 3 (U 190) (.const (.int .i64 8)))])
 (.cond (U 191) .skip (.exit 6)))
 (.seq (.block 7 (.al [ag 0 194 21,
 ad 1 195 (.bq (.arr 8 1) (U 2) (U 194)),
 ad 2 196 (.ld1 (U 195)),
 ag 3 197 21,
 ad 4 198 (.bq (.arr 8 1) (U 11) (U 197)),
 ad 5 199 (.ld1 (U 198)),
 ad 6 200 (.bin .add 25 (U 196) (U 199)),
 ad 7 201 (.bq (.arr 8 1) (U 2) (U 194)),
 ch 8 (.st 1 (U 201) (U 200))]))
 (.al [ag 0 192 21,
 ad 1 193 (.bin .add 3 (U 192) (.const (.int .i64 1))),
 ag 2 21 193])))
def E2:aX:=(.seq (.al [ad 0 2 (.box (U 0)),
 ad 1 4 (.alloc [.int .u32 0,.int .u32 0,.int .u32 0,.int .u32 0,.int .u32 0,.int .u32 0,.int .u32 0,.int .u32 0])])
 (.seq (.al [ad 0 5 (.av (.const (.slice none 0 0)))])
 (.seq (.seq (.al [ad 0 6 (.av (.const (.int .i64 0)))])
 (.block 0 (.loop U4)))
 (.seq (.seq (.al [ad 0 7 (.av (.const (.int .i64 16)))])
 (.block 2 (.loop U5)))
 (.seq (.al [sc 0 108 179 [],
 ag 1 10 108])
 (.seq (.al [ad 0 109 (.bh 8 (U 2)),
 ad 1 11 (.alloc [.int .u32 0,.int .u32 0,.int .u32 0,.int .u32 0,.int .u32 0,.int .u32 0,.int .u32 0,.int .u32 0]),
 ch 2 (.st 8 (U 11) (U 109))])
 (.seq (.seq (.al [ad 0 12 (.av (.const (.int .i64 0)))])
 (.block 4 (.loop U6)))
 (.seq (.seq (.al [ad 0 21 (.av (.const (.int .i64 0)))])
 (.block 6 (.loop U7)))
 (.seq (.al [ad 0 202 (.bh 8 (U 2)),
 ch 1 (.st 8 (U 4) (U 202))])
 .ret)))))))))
def KN:List bb:=[.bh 8 (U 4)]
theorem O7:bB Tryz.prog 139=some E2:=by kernel_rfl
theorem XE:bC Tryz.prog 139=some KN:=by kernel_rfl
def U8:aX:=(.seq (.seq (.al [ag 0 9 4,
 ag 1 10 0,
 ad 2 11 (.len (.ao 32) (U 10)),
 ad 3 12 (.bin .lss 3 (U 9) (U 11))])
 (.cond (U 12) .skip (.exit 0)))
 (.seq (.block 1 (.al [ag 0 15 3,
 ag 1 16 0,
 ag 2 17 4,
 ad 3 18 (.bq (.ao 32) (U 16) (U 17)),
 ad 4 19 (.slice (.arr 32 1) (U 18) none none none),
 ad 5 20 (.app 1 1 (U 15) (U 19)),
 ag 6 3 20]))
 (.al [ag 0 13 4,
 ad 1 14 (.bin .add 3 (U 13) (.const (.int .i64 1))),
 ag 2 4 14])))
def E3:aX:=(.seq (.al [ad 0 2 (.av (.const (.slice none 0 0)))])
 (.seq (.al [ag 0 5 0,
 ad 1 6 (.len (.ao 32) (U 5)),
 ad 2 7 (.cR .u64 (U 6)),
 sc 3 8 102 [(U 7)],
 ag 4 3 8])
 (.seq (.seq (.al [ad 0 4 (.av (.const (.int .i64 0)))])
 (.block 0 (.loop U8)))
 (.seq (.al [ag 0 21 3,
 ag 1 2 21])
 .ret))))
def KO:List bb:=[.av (U 2)]
theorem O8:bB Tryz.prog 140=some E3:=by kernel_rfl
theorem XF:bC Tryz.prog 140=some KO:=by kernel_rfl
def E4:aX:=(.seq (.al [ad 0 2 (.av (.const (.slice none 0 0)))])
 (.seq (.al [ag 0 3 0,
 ad 1 4 (.len (.ao 1) (U 3)),
 ad 2 5 (.cR .u64 (U 4)),
 sc 3 6 102 [(U 5)],
 ag 4 7 0,
 ad 5 8 (.app 1 1 (U 6) (U 7)),
 ag 6 2 8])
 .ret))
def KP:List bb:=[.av (U 2)]
theorem O9:bB Tryz.prog 141=some E4:=by kernel_rfl
theorem XG:bC Tryz.prog 141=some KP:=by kernel_rfl
def U9:aX:=(.seq (.seq (.al [ag 0 19 4,
 ad 1 20 (.bin .geq 3 (U 19) (.const (.int .i64 0)))])
 (.cond (U 20) .skip (.exit 1)))
 (.seq (.block 2 (.al [ag 0 23 3,
 ad 1 24 (.aW 2 (U 1)),
 ad 2 25 (.ld1 (U 24)),
 ag 3 26 4,
 ad 4 27 (.bin .mul 3 (.const (.int .i64 8)) (U 26)),
 ad 5 28 (.bin .shr 27 (U 25) (U 27)),
 ad 6 29 (.cR .u8 (U 28)),
 ad 7 30 (.c5 1 [.int .u8 0] 1 [(0,(U 29))]),
 ad 8 31 (.app 1 1 (U 23) (U 30)),
 ag 9 3 31]))
 (.al [ag 0 21 4,
 ad 1 22 (.bin .sub 3 (U 21) (.const (.int .i64 1))),
 ag 2 4 22])))
def E5:aX:=(.seq (.al [ad 0 1 (.box (U 0)),
 ad 1 2 (.av (.const (.slice none 0 0)))])
 (.seq (.al [ad 0 5 (.aW 0 (U 1)),
 ad 1 6 (.ld1 (U 5)),
 ad 2 7 (.c5 1 [.int .u8 0] 1 [(0,(U 6))]),
 ag 3 3 7])
 (.seq (.seq (.al [ad 0 8 (.aW 0 (U 1)),
 ad 1 9 (.ld1 (U 8))])
 (.block 0 (.seq (.al [ad 0 11 (.bin .eql 5 (U 9) (.const (.int .u8 1))),
 ag 1 10 11])
 (.cond (U 10) (.seq (.al [ag 0 12 3,
 ad 1 13 (.aW 1 (U 1)),
 ad 2 14 (.ld1 (U 13)),
 sc 3 15 180 [(U 14)],
 ad 4 16 (.app 1 1 (U 12) (U 15)),
 ag 5 2 16])
 .ret) (.seq (.al [ad 0 18 (.bin .eql 5 (U 9) (.const (.int .u8 2))),
 ag 1 17 18])
 (.cond (U 17) (.seq (.seq (.al [ad 0 4 (.av (.const (.int .i64 7)))])
 (.block 1 (.loop U9)))
 (.seq (.al [ag 0 32 3,
 ag 1 2 32])
 .ret)) .skip))))))
 (.seq (.al [ag 0 33 3,
 ad 1 34 (.aW 3 (U 1)),
 ad 2 35 (.ld1 (U 34)),
 ad 3 36 (.pH (U 35)),
 sc 4 37 141 [(U 36)],
 ad 5 38 (.app 1 1 (U 33) (U 37)),
 ag 6 2 38])
 .ret))))
def KQ:List bb:=[.av (U 2)]
theorem Pb:bB Tryz.prog 142=some E5:=by kernel_rfl
theorem XH:bC Tryz.prog 142=some KQ:=by kernel_rfl
def E6:aX:=(.seq (.al [ad 0 2 (.av (.const (.int .u32 0)))])
 (.seq (.al [ag 0 3 0,
 sc 1 4 175 [(.const (.int .u32 4)),(U 3)],
 ag 2 2 4])
 .ret))
def KR:List bb:=[.av (U 2)]
theorem Pc:bB Tryz.prog 143=some E6:=by kernel_rfl
theorem XI:bC Tryz.prog 143=some KR:=by kernel_rfl
def E7:aX:=(.seq (.al [ad 0 6 (.av (.const (.int .u32 0)))])
 (.seq (.al [ad 0 8 (.c5 1 [.int .u8 0] 1 [(0,(.const (.int .u8 99)))]),
 ag 1 9 0,
 sc 2 10 181 [(U 9)],
 ad 3 11 (.app 1 1 (U 8) (U 10)),
 ag 4 12 1,
 sc 5 13 181 [(U 12)],
 ad 6 14 (.app 1 1 (U 11) (U 13)),
 ag 7 7 14])
 (.seq (.al [ag 0 15 7,
 ag 1 16 2,
 ad 2 17 (.app 1 1 (U 15) (U 16)),
 sc 3 18 182 [(U 17)],
 ad 4 19 (.bin .rem 27 (U 18) (.const (.int .u64 500000003))),
 ad 5 20 (.cR .u32 (U 19)),
 ag 6 6 20])
 .ret)))
def KS:List bb:=[.av (U 6)]
theorem Pd:bB Tryz.prog 145=some E7:=by kernel_rfl
theorem XJ:bC Tryz.prog 145=some KS:=by kernel_rfl
def Va:aX:=(.seq (.seq (.al [ag 0 9 5,
 ad 1 10 (.bin .gtr 3 (U 9) (.const (.int .i64 0)))])
 (.cond (U 10) .skip (.exit 0)))
 (.seq (.block 1 (.seq (.al [ag 0 13 1,
 ag 1 14 0,
 ag 2 15 5,
 ad 3 16 (.bq (.ao 32) (U 14) (U 15)),
 ad 4 17 (.bh 32 (U 16)),
 ag 5 18 0,
 ag 6 19 5,
 ad 7 20 (.bin .sub 3 (U 19) (.const (.int .i64 1))),
 ad 8 21 (.bq (.ao 32) (U 18) (U 20)),
 ad 9 22 (.bh 32 (U 21)),
 ⟨10,(some 23),none,.hn (U 13) [(U 17),(U 22)],[],false⟩,
 ad 11 24 (.bin .lss 3 (U 23) (.const (.int .i64 0)))])
 (.cond (U 24) (.seq (.al [ad 0 4 (.av (.const (.bool false)))])
 .ret) .skip)))
 (.al [ag 0 11 5,
 ad 1 12 (.bin .sub 3 (U 11) (.const (.int .i64 1))),
 ag 2 5 12])))
def E8:aX:=(.seq (.al [ad 0 4 (.av (.const (.bool false)))])
 (.seq (.seq (.al [ag 0 6 0,
 ad 1 7 (.len (.ao 32) (U 6)),
 ad 2 8 (.bin .sub 3 (U 7) (.const (.int .i64 1))),
 ag 3 5 8])
 (.block 0 (.loop Va)))
 (.seq (.al [ad 0 4 (.av (.const (.bool true)))])
 .ret)))
def KT:List bb:=[.av (U 4)]
theorem Pe:bB Tryz.prog 148=some E8:=by kernel_rfl
theorem XK:bC Tryz.prog 148=some KT:=by kernel_rfl
def Vb:aX:=(.seq (.seq (.al [ag 0 29 5,
 ag 1 30 4,
 ad 2 31 (.len (.ao 32) (U 30)),
 ad 3 32 (.bin .lss 3 (U 29) (U 31))])
 (.cond (U 32) .skip (.exit 2)))
 (.seq (.block 3 (.seq (.al [ag 0 35 4,
 ag 1 36 5,
 ad 2 37 (.bq (.ao 32) (U 35) (U 36)),
 ad 3 38 (.bh 32 (U 37)),
 ag 4 39 4,
 ag 5 40 5,
 ad 6 41 (.bin .sub 3 (U 40) (.const (.int .i64 1))),
 ad 7 42 (.bq (.ao 32) (U 39) (U 41)),
 ad 8 43 (.bh 32 (U 42)),
 ad 9 44 (.bin .neq 71 (U 38) (U 43))])
 (.cond (U 44) (.seq (.al [ag 0 45 0,
 ag 1 46 3,
 ag 2 47 4,
 ag 3 48 5,
 ad 4 49 (.bq (.ao 32) (U 47) (U 48)),
 ad 5 50 (.bh 32 (U 49)),
 ad 6 51 (.bq (.ao 32) (U 45) (U 46)),
 ch 7 (.st 32 (U 51) (U 50))])
 (.al [ag 0 52 3,
 ad 1 53 (.bin .add 3 (U 52) (.const (.int .i64 1))),
 ag 2 3 53])) .skip)))
 (.al [ag 0 33 5,
 ad 1 34 (.bin .add 3 (U 33) (.const (.int .i64 1))),
 ag 2 5 34])))
def Vc:aX:=(.seq (.seq (.al [ag 0 10 3,
 ag 1 11 0,
 ad 2 12 (.len (.ao 32) (U 11)),
 ad 3 13 (.bin .lss 3 (U 10) (U 12))])
 (.cond (U 13) .skip (.exit 0)))
 (.seq (.block 1 (.seq (.al [ag 0 16 0,
 ag 1 17 3,
 ad 2 18 (.bq (.ao 32) (U 16) (U 17)),
 ad 3 19 (.bh 32 (U 18)),
 ag 4 20 0,
 ag 5 21 3,
 ad 6 22 (.bin .sub 3 (U 21) (.const (.int .i64 1))),
 ad 7 23 (.bq (.ao 32) (U 20) (U 22)),
 ad 8 24 (.bh 32 (U 23)),
 ad 9 25 (.bin .eql 71 (U 19) (U 24))])
 (.cond (U 25) (.seq (.al [ag 0 26 0,
 ag 1 27 3,
 ad 2 28 (.slice (.ao 32) (U 26) (some (U 27)) none none),
 ag 3 4 28])
 (.seq (.seq (.al [ad 0 5 (.av (.const (.int .i64 1)))])
 (.block 2 (.loop Vb)))
 (.seq (.al [ag 0 54 0,
 ag 1 55 3,
 ad 2 56 (.slice (.ao 32) (U 54) (some (U 55)) none none),
 ch 3 (.qZ (rep 32 (.int .u8 0)) (U 56))])
 (.seq (.al [ag 0 57 0,
 ag 1 58 3,
 ad 2 59 (.slice (.ao 32) (U 57) none (some (U 58)) none),
 ag 3 2 59])
 .ret)))) .skip)))
 (.al [ag 0 14 3,
 ad 1 15 (.bin .add 3 (U 14) (.const (.int .i64 1))),
 ag 2 3 15])))
def E9:aX:=(.seq (.al [ad 0 2 (.av (.const (.slice none 0 0)))])
 (.seq (.seq (.al [ag 0 6 0,
 ad 1 7 (.len (.ao 32) (U 6)),
 ad 2 8 (.bin .lss 3 (U 7) (.const (.int .i64 2)))])
 (.cond (U 8) (.seq (.al [ag 0 9 0,
 ag 1 2 9])
 .ret) .skip))
 (.seq (.seq (.al [ad 0 3 (.av (.const (.int .i64 1)))])
 (.block 0 (.loop Vc)))
 (.seq (.al [ag 0 60 0,
 ag 1 2 60])
 .ret))))
def KU:List bb:=[.av (U 2)]
theorem Pf:bB Tryz.prog 149=some E9:=by kernel_rfl
theorem XL:bC Tryz.prog 149=some KU:=by kernel_rfl
def Fa:aX:=(.seq (.al [ad 0 2 (.av (.const (.slice none 0 0)))])
 (.seq (.seq (.al [ag 0 3 0,
 ad 1 4 (.bin .eql 26 (U 3) (.const (.slice none 0 0)))])
 (.cond (U 4) (.seq (.al [ad 0 2 (.av (.const (.slice none 0 0)))])
 .ret) .skip))
 (.seq (.al [ad 0 5 (.c5 32 (rep 32 (.int .u8 0)) 0 []),
 ag 1 6 0,
 ad 2 7 (.app 32 32 (U 5) (U 6)),
 ag 3 2 7])
 .ret)))
def KV:List bb:=[.av (U 2)]
theorem Pg:bB Tryz.prog 150=some Fa:=by kernel_rfl
theorem XM:bC Tryz.prog 150=some KV:=by kernel_rfl
def Fb:aX:=(.seq (.al [ad 0 2 (.av (.const (.bool false)))])
 (.seq (.al [ag 0 3 0,
 ad 1 4 (.bin .gtr 25 (U 3) (.const (.int .u32 0))),
 ag 2 5 4,
 aT 3 6 5 true (.av (U 0)),
 aT 4 7 5 true (.bin .lss 25 (U 6) (.const (.int .u32 1000000007))),
 ad 5 8 (.pick (U 5) (U 7) (.const (.bool false))),
 ag 6 9 8,
 aT 7 10 9 true (.av (U 0)),
 ⟨8,(some 11),(some ((some 9),true)),.dq 183 [(U 10),(.const (.int .u64 500000003))],[],false⟩,
 aT 9 12 9 true (.bin .eql 25 (U 11) (.const (.int .u32 1))),
 ad 10 13 (.pick (U 9) (U 12) (.const (.bool false))),
 ag 11 2 13])
 .ret))
def KW:List bb:=[.av (U 2)]
theorem Ph:bB Tryz.prog 151=some Fb:=by kernel_rfl
theorem XN:bC Tryz.prog 151=some KW:=by kernel_rfl
def Vd:aX:=(.seq (.al [ad 0 20 (.bin .lss 3 (U 19) (U 18))])
 (.seq (.cond (U 20) .skip (.exit 0))
 (.seq (.block 1 (.seq (.al [ad 0 21 (.bq (.ao 32) (U 17) (U 19)),
 ad 1 22 (.bh 32 (U 21)),
 ad 2 6 (.alloc (rep 32 (.int .u8 0))),
 ch 3 (.st 32 (U 6) (U 22))])
 (.al [ag 0 23 4,
 ad 1 24 (.slice (.arr 32 1) (U 6) none none none),
 ad 2 25 (.app 1 1 (U 23) (U 24)),
 ag 3 4 25])))
 (.al [ad 0 26 (.bin .add 3 (U 19) (.const (.int .i64 1))),
 ag 1 19 26]))))
def Fc:aX:=(.seq (.al [ad 0 2 (.av (.const (.slice none 0 0))),
 ad 1 3 (.av (.const (.int .i64 0)))])
 (.seq (.seq (.al [ag 0 7 0,
 ad 1 8 (.len (.ao 32) (U 7)),
 ad 2 9 (.bin .gtr 3 (U 8) (.const (.int .i64 60)))])
 (.cond (U 9) (.seq (.al [ad 0 2 (.av (.const (.slice none 0 0))),
 ad 1 3 (.av (.const (.int .i64 4)))])
 .ret) .skip))
 (.seq (.seq (.al [ag 0 10 0,
 sc 1 11 184 [(U 10)],
 ad 2 12 (.un .not (U 11))])
 (.cond (U 12) (.seq (.al [ad 0 2 (.av (.const (.slice none 0 0))),
 ad 1 3 (.av (.const (.int .i64 32)))])
 .ret) .skip))
 (.seq (.al [ag 0 13 0,
 ad 1 14 (.len (.ao 32) (U 13)),
 ad 2 15 (.cR .u64 (U 14)),
 sc 3 16 110 [(U 15)],
 ag 4 4 16])
 (.seq (.seq (.al [ag 0 17 0,
 ad 1 18 (.len (.ao 32) (U 17)),
 ad 2 19 (.av (.const (.int .i64 0)))])
 (.block 0 (.loop Vd)))
 (.seq (.al [ag 0 27 4,
 ag 1 2 27,
 ad 2 3 (.av (.const (.int .i64 0)))])
 .ret))))))
def KX:List bb:=[.av (U 2),.av (U 3)]
theorem Pj:bB Tryz.prog 152=some Fc:=by kernel_rfl
theorem XO:bC Tryz.prog 152=some KX:=by kernel_rfl
def Fe:aX:=(.seq (.al [ad 0 2 (.av (.const (.slice none 0 0))),
 ad 1 3 (.av (.const (.int .i64 0)))])
 (.seq (.seq (.al [ag 0 4 0,
 ad 1 5 (.len (.ao 1) (U 4)),
 ad 2 6 (.bin .gtr 3 (U 5) (.const (.int .i64 10000)))])
 (.cond (U 6) (.seq (.al [ad 0 2 (.av (.const (.slice none 0 0))),
 ad 1 3 (.av (.const (.int .i64 4)))])
 .ret) .skip))
 (.seq (.al [ag 0 7 0,
 ad 1 8 (.len (.ao 1) (U 7)),
 ad 2 9 (.cR .u64 (U 8)),
 sc 3 10 110 [(U 9)],
 ag 4 11 0,
 ad 5 12 (.app 1 1 (U 10) (U 11)),
 ag 6 2 12,
 ad 7 3 (.av (.const (.int .i64 0)))])
 .ret)))
def KY:List bb:=[.av (U 2),.av (U 3)]
theorem Pk:bB Tryz.prog 153=some Fe:=by kernel_rfl
theorem XP:bC Tryz.prog 153=some KY:=by kernel_rfl
def Ve:aX:=(.seq (.seq (.al [ag 0 28 6,
 ad 1 29 (.bin .geq 3 (U 28) (.const (.int .i64 0)))])
 (.cond (U 29) .skip (.exit 1)))
 (.seq (.block 2 (.al [ag 0 32 5,
 ad 1 33 (.aW 2 (U 1)),
 ad 2 34 (.ld1 (U 33)),
 ag 3 35 6,
 ad 4 36 (.bin .shr 27 (U 34) (U 35)),
 ad 5 37 (.cR .u8 (U 36)),
 ad 6 38 (.c5 1 [.int .u8 0] 1 [(0,(U 37))]),
 ad 7 39 (.app 1 1 (U 32) (U 38)),
 ag 8 5 39]))
 (.al [ag 0 30 6,
 ad 1 31 (.bin .sub 3 (U 30) (.const (.int .i64 8))),
 ag 2 6 31])))
def Ff:aX:=(.seq (.al [ad 0 1 (.box (U 0)),
 ad 1 2 (.av (.const (.slice none 0 0))),
 ad 2 3 (.av (.const (.int .i64 0)))])
 (.seq (.seq (.al [ad 0 9 (.bh 4 (U 1)),
 sc 1 10 83 [(U 9)],
 ag 2 4 10])
 (.seq (.al [ag 0 11 4,
 ad 1 12 (.bin .neq 38 (U 11) (.const (.int .i64 0)))])
 (.cond (U 12) (.seq (.al [ag 0 13 4,
 ad 1 2 (.av (.const (.slice none 0 0))),
 ag 2 3 13])
 .ret) .skip)))
 (.seq (.al [ad 0 14 (.aW 0 (U 1)),
 ad 1 15 (.ld1 (U 14)),
 ad 2 16 (.c5 1 [.int .u8 0] 1 [(0,(U 15))]),
 ag 3 5 16])
 (.seq (.seq (.al [ad 0 17 (.aW 0 (U 1)),
 ad 1 18 (.ld1 (U 17))])
 (.block 0 (.seq (.al [ad 0 20 (.bin .eql 5 (U 18) (.const (.int .u8 1))),
 ag 1 19 20])
 (.cond (U 19) (.al [ag 0 21 5,
 ad 1 22 (.aW 1 (U 1)),
 ad 2 23 (.ld1 (U 22)),
 sc 3 24 185 [(U 23)],
 ad 4 25 (.app 1 1 (U 21) (U 24)),
 ag 5 5 25]) (.seq (.al [ad 0 27 (.bin .eql 5 (U 18) (.const (.int .u8 2))),
 ag 1 26 27])
 (.cond (U 26) (.seq (.al [ad 0 6 (.av (.const (.int .i64 56)))])
 (.block 1 (.loop Ve))) (.seq (.al [ad 0 41 (.bin .eql 5 (U 18) (.const (.int .u8 3))),
 ag 1 40 41])
 (.cond (U 40) (.seq (.al [ad 0 43 (.aW 3 (U 1)),
 ad 1 44 (.ld1 (U 43)),
 ad 2 45 (.pH (U 44)),
 sc 3 46 153 [(U 45)],
 ag 4 42 46,
 ad 5 47 (.ext (U 42) 0),
 ad 6 48 (.ext (U 42) 1),
 ag 7 7 47,
 ag 8 8 48])
 (.al [ag 0 49 5,
 ag 1 50 7,
 ad 2 51 (.app 1 1 (U 49) (U 50)),
 ag 3 5 51])) .skip))))))))
 (.seq (.al [ag 0 52 5,
 ag 1 2 52,
 ad 2 3 (.av (.const (.int .i64 0)))])
 .ret)))))
def KZ:List bb:=[.av (U 2),.av (U 3)]
theorem Pl:bB Tryz.prog 154=some Ff:=by kernel_rfl
theorem XQ:bC Tryz.prog 154=some KZ:=by kernel_rfl
def A0:aX:=(.seq (.al [ad 0 4 (.av (.const (.slice none 0 0)))])
 (.seq (.seq (.al [ag 0 5 1,
 ad 1 6 (.bin .lss 3 (U 5) (.const (.int .i64 0)))])
 (.cond (U 6) (.al [ad 0 7 (.rT 9 (.const (.string ⟨#[99,97,110,110,111,116,32,98,101,32,110,101,103,97,116,105,118,101]⟩))),
 ch 1 (.stop)]) .skip))
 (.seq (.seq (.al [ag 0 8 1,
 ag 1 9 0,
 ad 2 10 (.cap (.ao 1) (U 9)),
 ag 3 11 0,
 ad 4 12 (.len (.ao 1) (U 11)),
 ad 5 13 (.bin .sub 3 (U 10) (U 12)),
 ad 6 14 (.bin .sub 3 (U 8) (U 13)),
 ag 7 1 14])
 (.seq (.al [ag 0 15 1,
 ad 1 16 (.bin .gtr 3 (U 15) (.const (.int .i64 0)))])
 (.cond (U 16) (.al [ag 0 17 0,
 ag 1 18 0,
 ad 2 19 (.cap (.ao 1) (U 18)),
 ad 3 20 (.slice (.ao 1) (U 17) none (some (U 19)) none),
 ag 4 21 1,
 ad 5 22 (.pA 1 1 [.int .u8 0] (U 20) (U 21)),
 ag 6 23 0,
 ad 7 24 (.len (.ao 1) (U 23)),
 ad 8 25 (.slice (.ao 1) (U 22) none (some (U 24)) none),
 ag 9 0 25]) .skip)))
 (.seq (.al [ag 0 26 0,
 ag 1 4 26])
 .ret))))
def Do:List bb:=[.av (U 4)]
theorem Fg:bB Tryz.prog 155=some A0:=by kernel_rfl
theorem K0:bC Tryz.prog 155=some Do:=by kernel_rfl
def Fh:aX:=(.seq (.al [ad 0 4 (.av (.const (.bool false)))])
 (.seq (.al [ag 0 5 0,
 ag 1 6 1,
 sc 2 7 186 [(U 5),(U 6)],
 ad 3 8 (.bin .geq 3 (U 7) (.const (.int .i64 0))),
 ag 4 4 8])
 .ret))
def K1:List bb:=[.av (U 4)]
theorem Pm:bB Tryz.prog 156=some Fh:=by kernel_rfl
theorem XR:bC Tryz.prog 156=some K1:=by kernel_rfl
def Fi:aX:=(.seq (.al [ad 0 2 (.av (.const (.bool false)))])
 (.seq (.al [ag 0 3 0,
 ad 1 4 (.len (.ao 1) (U 3)),
 ad 2 5 (.bin .gtr 3 (U 4) (.const (.int .i64 10000))),
 ag 3 2 5])
 .ret))
def K2:List bb:=[.av (U 2)]
theorem Pn:bB Tryz.prog 157=some Fi:=by kernel_rfl
theorem XS:bC Tryz.prog 157=some K2:=by kernel_rfl
def Fj:aX:=(.seq (.al [ad 0 0 (.alloc [.int .u32 0,.int .u32 0,.int .u32 0,.int .u32 0,.int .u32 0,.int .u32 0,.int .u32 0,.int .u32 0,.a6,.int .i64 0])])
 (.seq (.al [ad 0 1 (.gA [.int .u32 0,.int .u32 0,.int .u32 0,.int .u32 0,.int .u32 0,.int .u32 0,.int .u32 0,.int .u32 0] [(0,1,(.const (.int .u32 1779033703))),(1,1,(.const (.int .u32 3144134277))),(2,1,(.const (.int .u32 1013904242))),(3,1,(.const (.int .u32 2773480762))),(4,1,(.const (.int .u32 1359893119))),(5,1,(.const (.int .u32 2600822924))),(6,1,(.const (.int .u32 528734635))),(7,1,(.const (.int .u32 1541459225)))]),
 ad 1 2 (.gA [.int .u32 0,.int .u32 0,.int .u32 0,.int .u32 0,.int .u32 0,.int .u32 0,.int .u32 0,.int .u32 0,.a6,.int .i64 0] [(0,8,(U 1))]),
 ch 2 (.st 10 (U 0) (U 2))])
 .ret))
def K3:List bb:=[.bh 10 (U 0)]
theorem Po:bB Tryz.prog 158=some Fj:=by kernel_rfl
theorem XT:bC Tryz.prog 158=some K3:=by kernel_rfl
def Vf:aX:=(.seq (.seq (.al [ag 0 11 5,
 ad 1 12 (.len (.ao 1) (U 11)),
 ad 2 13 (.bin .geq 3 (U 12) (.const (.int .i64 64)))])
 (.cond (U 13) .skip (.exit 0)))
 (.block 1 (.seq (.al [ad 0 14 (.aW 0 (U 2)),
 ag 1 15 5,
 sc 2 16 187 [(U 14),(U 15)]])
 (.al [ag 0 17 5,
 ad 1 18 (.slice (.ao 1) (U 17) (some (.const (.int .i64 64))) none none),
 ag 2 5 18]))))
def Fk:aX:=(.seq (.al [ad 0 2 (.box (U 0)),
 ad 1 4 (.alloc [.int .u32 0,.int .u32 0,.int .u32 0,.int .u32 0,.int .u32 0,.int .u32 0,.int .u32 0,.int .u32 0,.a6,.int .i64 0])])
 (.seq (.al [ad 0 6 (.aW 8 (U 2)),
 ad 1 7 (.ld1 (U 6)),
 ag 2 8 1,
 ad 3 9 (.c5 1 [.a6] 2 [(0,(U 7)),(1,(U 8))]),
 sc 4 10 109 [(U 9)],
 ag 5 5 10])
 (.seq (.block 0 (.loop Vf))
 (.seq (.ho [ad 0 19 (.aW 9 (U 2)),
 ⟨1,(some 20),none,.c2 (.ld1 (U 19)),[],true⟩,
 ag 2 21 1,
 ad 3 22 (.len (.ao 1) (U 21)),
 ad 4 23 (.bin .add 3 (U 20) (U 22)),
 ag 5 24 5,
 ⟨6,(some 25),none,.dq 188 [(U 24)],[1],false⟩,
 ad 7 26 (.aW 9 (U 2)),
 ch 8 (.st 1 (U 26) (U 23)),
 ad 9 27 (.aW 8 (U 2)),
 ch 10 (.st 1 (U 27) (U 25))])
 (.seq (.al [ad 0 28 (.bh 10 (U 2)),
 ch 1 (.st 10 (U 4) (U 28))])
 .ret)))))
def K4:List bb:=[.bh 10 (U 4)]
theorem Pp:bB Tryz.prog 159=some Fk:=by kernel_rfl
theorem XU:bC Tryz.prog 159=some K4:=by kernel_rfl
def Vg:aX:=(.seq (.seq (.al [ag 0 19 5,
 ad 1 20 (.bin .geq 3 (U 19) (.const (.int .i64 0)))])
 (.cond (U 20) .skip (.exit 0)))
 (.seq (.block 1 (.al [ag 0 23 4,
 ag 1 24 3,
 ag 2 25 5,
 ad 3 26 (.bin .shr 27 (U 24) (U 25)),
 ad 4 27 (.cR .u8 (U 26)),
 ad 5 28 (.c5 1 [.int .u8 0] 1 [(0,(U 27))]),
 ad 6 29 (.app 1 1 (U 23) (U 28)),
 ag 7 4 29]))
 (.al [ag 0 21 5,
 ad 1 22 (.bin .sub 3 (U 21) (.const (.int .i64 8))),
 ag 2 5 22])))
def Vh:aX:=(.seq (.al [ad 0 35 (.bin .lss 3 (U 34) (.const (.int .i64 8)))])
 (.seq (.cond (U 35) .skip (.exit 2))
 (.seq (.block 3 (.seq (.al [ag 0 36 34,
 ad 1 37 (.vf 8 1 (U 33) (U 34)),
 ag 2 6 36,
 ag 3 7 37])
 (.al [ag 0 38 6,
 ad 1 39 (.bin .mul 3 (.const (.int .i64 4)) (U 38)),
 ag 2 40 6,
 ad 3 41 (.bin .mul 3 (.const (.int .i64 4)) (U 40)),
 ad 4 42 (.bin .add 3 (U 41) (.const (.int .i64 1))),
 ag 5 43 6,
 ad 6 44 (.bin .mul 3 (.const (.int .i64 4)) (U 43)),
 ad 7 45 (.bin .add 3 (U 44) (.const (.int .i64 2))),
 ag 8 46 6,
 ad 9 47 (.bin .mul 3 (.const (.int .i64 4)) (U 46)),
 ad 10 48 (.bin .add 3 (U 47) (.const (.int .i64 3))),
 ag 11 49 7,
 ad 12 50 (.bin .shr 25 (U 49) (.const (.int .u64 24))),
 ad 13 51 (.cR .u8 (U 50)),
 ag 14 52 7,
 ad 15 53 (.bin .shr 25 (U 52) (.const (.int .u64 16))),
 ad 16 54 (.cR .u8 (U 53)),
 ag 17 55 7,
 ad 18 56 (.bin .shr 25 (U 55) (.const (.int .u64 8))),
 ad 19 57 (.cR .u8 (U 56)),
 ag 20 58 7,
 ad 21 59 (.cR .u8 (U 58)),
 ad 22 60 (.bq (.arr 32 1) (U 2) (U 39)),
 ch 23 (.st 1 (U 60) (U 51)),
 ad 24 61 (.bq (.arr 32 1) (U 2) (U 42)),
 ch 25 (.st 1 (U 61) (U 54)),
 ad 26 62 (.bq (.arr 32 1) (U 2) (U 45)),
 ch 27 (.st 1 (U 62) (U 57)),
 ad 28 63 (.bq (.arr 32 1) (U 2) (U 48)),
 ch 29 (.st 1 (U 63) (U 59))])))
 (.al [ad 0 64 (.bin .add 3 (U 34) (.const (.int .i64 1))),
 ag 1 34 64]))))
def Fl:aX:=(.seq (.al [ad 0 1 (.box (U 0)),
 ad 1 2 (.alloc (rep 32 (.int .u8 0)))])
 (.seq (.al [ad 0 8 (.aW 9 (U 1)),
 ad 1 9 (.ld1 (U 8)),
 ad 2 10 (.cR .u64 (U 9)),
 ad 3 11 (.bin .mul 27 (U 10) (.const (.int .u64 8))),
 ag 4 3 11])
 (.seq (.al [ad 0 12 (.c5 1 [.int .u8 0] 1 [(0,(.const (.int .u8 128)))]),
 ad 1 13 (.aW 9 (U 1)),
 ad 2 14 (.ld1 (U 13)),
 ad 3 15 (.bin .rem 3 (U 14) (.const (.int .i64 64))),
 ad 4 16 (.bin .sub 3 (.const (.int .i64 119)) (U 15)),
 ad 5 17 (.bin .rem 3 (U 16) (.const (.int .i64 64))),
 ad 6 18 (.pA 1 1 [.int .u8 0] (U 12) (U 17)),
 ag 7 4 18])
 (.seq (.seq (.al [ad 0 5 (.av (.const (.int .i64 56)))])
 (.block 0 (.loop Vg)))
 (.seq (.seq (.al [ad 0 30 (.bh 10 (U 1)),
 ag 1 31 4,
 sc 2 32 159 [(U 30),(U 31)],
 ad 3 33 (.ww 8 0 (U 32)),
 ad 4 34 (.av (.const (.int .i64 0)))])
 (.block 2 (.loop Vh)))
 (.seq (.al [ad 0 65 (.bh 32 (U 2)),
 ch 1 (.st 32 (U 2) (U 65))])
 .ret))))))
def K5:List bb:=[.bh 32 (U 2)]
theorem Pq:bB Tryz.prog 160=some Fl:=by kernel_rfl
theorem XV:bC Tryz.prog 160=some K5:=by kernel_rfl
def Vi:aX:=(.seq (.al [ad 0 11 (.rW (U 10)),
 ad 1 12 (.ext (U 11) 0)])
 (.seq (.cond (U 12) .skip (.exit 0))
 (.block 1 (.seq (.al [ad 0 13 (.ext (U 11) 1),
 ad 1 14 (.ext (U 11) 2),
 ag 2 7 13,
 ag 3 8 14])
 (.seq (.al [ag 0 15 1,
 ag 1 16 8,
 ⟨2,(some 17),none,.hn (U 15) [(U 16)],[],false⟩,
 ag 3 18 2,
 ad 4 19 (.bin .eql 4 (U 17) (U 18))])
 (.cond (U 19) (.seq (.al [ag 0 20 7,
 ag 1 6 20])
 .ret) .skip))))))
def Fm:aX:=(.seq (.al [ad 0 6 (.av (.const (.int .i64 0)))])
 (.seq (.seq (.al [ag 0 9 0,
 ad 1 10 (.r5 (U 9))])
 (.block 0 (.loop Vi)))
 (.seq (.al [ad 0 6 (.av (.const (.int .i64 (-1))))])
 .ret)))
def K6:List bb:=[.av (U 6)]
theorem Pr:bB Tryz.prog 162=some Fm:=by kernel_rfl
theorem XW:bC Tryz.prog 162=some K6:=by kernel_rfl
def Fo:aX:=(.seq (.al [ad 0 2 (.av (.const (.int .u64 0)))])
 (.seq (.seq (.al [ag 0 3 0,
 sc 1 4 189 [(U 3)],
 ad 2 5 (.bin .eql 5 (U 4) (.const (.int .u8 5)))])
 (.cond (U 5) (.seq (.al [ad 0 2 (.av (.const (.int .u64 9221120237041090560)))])
 .ret) .skip))
 (.seq (.al [ag 0 6 0,
 ag 1 2 6])
 .ret)))
def K7:List bb:=[.av (U 2)]
theorem Ps:bB Tryz.prog 163=some Fo:=by kernel_rfl
theorem XX:bC Tryz.prog 163=some K7:=by kernel_rfl
def Fp:aX:=(.seq (.al [ad 0 2 (.av (.const (.bool false)))])
 (.seq (.al [ag 0 3 0,
 ad 1 4 (.bin .lss 21 (U 3) (.const (.int .i32 32))),
 ag 2 5 4,
 aT 3 6 5 false (.av (U 0)),
 aT 4 7 5 false (.bin .gtr 21 (U 6) (.const (.int .i32 126))),
 ad 5 8 (.pick (U 5) (.const (.bool true)) (U 7)),
 ag 6 2 8])
 .ret))
def K8:List bb:=[.av (U 2)]
theorem Pt:bB Tryz.prog 164=some Fp:=by kernel_rfl
theorem XY:bC Tryz.prog 164=some K8:=by kernel_rfl
def Fq:aX:=(.seq (.al [ad 0 4 (.av (.const (.int .u32 0))),
 ad 1 5 (.av (.const (.int .i64 0)))])
 (.seq (.seq (.al [ag 0 6 0,
 ad 1 7 (.c5 1 [.int .u32 0] 1 [(0,(U 6))]),
 sc 2 8 190 [(U 7)],
 ad 3 9 (.un .not (U 8))])
 (.cond (U 9) (.seq (.al [ad 0 4 (.av (.const (.int .u32 0))),
 ad 1 5 (.av (.const (.int .i64 2)))])
 .ret) .skip))
 (.seq (.al [ag 0 10 0,
 ag 1 11 1,
 sc 2 12 183 [(U 10),(U 11)],
 ag 3 4 12,
 ad 4 5 (.av (.const (.int .i64 0)))])
 .ret)))
def K9:List bb:=[.av (U 4),.av (U 5)]
theorem Pu:bB Tryz.prog 165=some Fq:=by kernel_rfl
theorem XZ:bC Tryz.prog 165=some K9:=by kernel_rfl
def Fr:aX:=(.seq (.al [ad 0 4 (.av (.const (.int .u32 0))),
 ad 1 5 (.av (.const (.int .i64 0)))])
 (.seq (.seq (.al [ag 0 6 0,
 ag 1 7 1,
 ad 2 8 (.c5 1 [.int .u32 0] 2 [(0,(U 6)),(1,(U 7))]),
 sc 3 9 190 [(U 8)],
 ad 4 10 (.un .not (U 9))])
 (.cond (U 10) (.seq (.al [ad 0 4 (.av (.const (.int .u32 0))),
 ad 1 5 (.av (.const (.int .i64 2)))])
 .ret) .skip))
 (.seq (.al [ag 0 11 0,
 ag 1 12 1,
 ad 2 13 (.c5 1 [.int .u32 0] 2 [(0,(U 11)),(1,(U 12))]),
 sc 3 14 191 [(.const (.int .u64 1000000007)),(U 13)],
 ag 4 4 14,
 ad 5 5 (.av (.const (.int .i64 0)))])
 .ret)))
def La:List bb:=[.av (U 4),.av (U 5)]
theorem Pv:bB Tryz.prog 166=some Fr:=by kernel_rfl
theorem X0:bC Tryz.prog 166=some La:=by kernel_rfl
def Fs:aX:=(.seq (.al [ad 0 2 (.av (.const (.int .u32 0)))])
 (.seq (.al [ag 0 3 0,
 sc 1 4 183 [(.const (.int .u32 4)),(U 3)],
 ag 2 2 4])
 .ret))
def Lb:List bb:=[.av (U 2)]
theorem Pw:bB Tryz.prog 167=some Fs:=by kernel_rfl
theorem X1:bC Tryz.prog 167=some Lb:=by kernel_rfl
def Ft:aX:=(.seq (.al [ad 0 6 (.av (.const (.int .u32 0))),
 ad 1 7 (.av (.const (.int .i64 0)))])
 (.seq (.al [ag 0 11 2,
 ag 1 12 0,
 ag 2 13 1,
 ad 3 14 (.c5 1 [.int .u32 0] 2 [(0,(U 12)),(1,(U 13))]),
 sc 4 15 192 [(.const (.int .u8 99)),(U 11),(U 14)],
 ag 5 10 15,
 ad 6 16 (.ext (U 10) 0),
 ad 7 17 (.ext (U 10) 1),
 ag 8 8 16,
 ag 9 9 17])
 (.seq (.seq (.al [ag 0 18 9,
 ad 1 19 (.bin .neq 38 (U 18) (.const (.int .i64 0)))])
 (.cond (U 19) (.seq (.al [ag 0 20 9,
 ad 1 6 (.av (.const (.int .u32 0))),
 ag 2 7 20])
 .ret) .skip))
 (.seq (.al [ag 0 21 8,
 ad 1 22 (.bin .rem 27 (U 21) (.const (.int .u64 500000003))),
 ad 2 23 (.cR .u32 (U 22)),
 ag 3 6 23,
 ad 4 7 (.av (.const (.int .i64 0)))])
 .ret))))
def Lc:List bb:=[.av (U 6),.av (U 7)]
theorem Px:bB Tryz.prog 168=some Ft:=by kernel_rfl
theorem X2:bC Tryz.prog 168=some Lc:=by kernel_rfl
def Fv:aX:=(.seq (.al [ad 0 2 (.av (.const (.int .u32 0))),
 ad 1 3 (.av (.const (.int .i64 0)))])
 (.seq (.seq (.al [ag 0 4 0,
 sc 1 5 64 [(U 4)],
 ad 2 6 (.un .not (U 5))])
 (.cond (U 6) (.seq (.al [ad 0 2 (.av (.const (.int .u32 0))),
 ad 1 3 (.av (.const (.int .i64 2)))])
 .ret) .skip))
 (.seq (.al [ag 0 7 0,
 sc 1 8 175 [(U 7),(.const (.int .u64 500000002))],
 ag 2 2 8,
 ad 3 3 (.av (.const (.int .i64 0)))])
 .ret)))
def Ld:List bb:=[.av (U 2),.av (U 3)]
theorem Py:bB Tryz.prog 174=some Fv:=by kernel_rfl
theorem X3:bC Tryz.prog 174=some Ld:=by kernel_rfl
def Fw:aX:=(.seq (.al [ad 0 4 (.av (.const (.int .u32 0)))])
 (.seq (.al [ag 0 5 0,
 ad 1 6 (.cR .u64 (U 5)),
 ag 2 7 1,
 sc 3 8 95 [(U 6),(U 7),(.const (.int .u64 1000000007))],
 ad 4 9 (.cR .u32 (U 8)),
 ag 5 4 9])
 .ret))
def Le:List bb:=[.av (U 4)]
theorem Pz:bB Tryz.prog 175=some Fw:=by kernel_rfl
theorem X4:bC Tryz.prog 175=some Le:=by kernel_rfl
def Fx:aX:=(.seq (.al [ad 0 4 (.av (.const (.int .u32 0)))])
 (.seq (.al [ag 0 5 0,
 ad 1 6 (.cR .u64 (U 5)),
 ag 2 7 1,
 ad 3 8 (.cR .u64 (U 7)),
 ad 4 9 (.bin .mul 27 (U 6) (U 8)),
 ad 5 10 (.bin .rem 27 (U 9) (.const (.int .u64 1000000007))),
 ad 6 11 (.cR .u32 (U 10)),
 ag 7 4 11])
 .ret))
def Lf:List bb:=[.av (U 4)]
theorem PA:bB Tryz.prog 176=some Fx:=by kernel_rfl
theorem X5:bC Tryz.prog 176=some Lf:=by kernel_rfl
def Fy:aX:=(.seq (.al [ad 0 2 (.av (.const (.int .u8 0)))])
 (.seq (.al [ag 0 5 0,
 sc 1 6 194 [(U 5)],
 ag 2 7 0,
 sc 3 8 195 [(U 7)],
 ag 4 3 6,
 ag 5 4 8])
 (.seq (.seq (.al [ag 0 9 3,
 ad 1 10 (.bin .eql 3 (U 9) (.const (.int .i64 0))),
 ag 2 11 10,
 aT 3 12 11 true (.av (U 4)),
 aT 4 13 11 true (.bin .eql 27 (U 12) (.const (.int .u64 0))),
 ad 5 14 (.pick (U 11) (U 13) (.const (.bool false)))])
 (.cond (U 14) (.seq (.al [ad 0 2 (.av (.const (.int .u8 1)))])
 .ret) .skip))
 (.seq (.seq (.al [ag 0 15 3,
 ad 1 16 (.bin .eql 3 (U 15) (.const (.int .i64 0)))])
 (.cond (U 16) (.seq (.al [ad 0 2 (.av (.const (.int .u8 2)))])
 .ret) .skip))
 (.seq (.seq (.al [ag 0 17 3,
 ad 1 18 (.bin .lss 3 (U 17) (.const (.int .i64 2047)))])
 (.cond (U 18) (.seq (.al [ad 0 2 (.av (.const (.int .u8 3)))])
 .ret) .skip))
 (.seq (.seq (.al [ag 0 19 4,
 ad 1 20 (.bin .eql 27 (U 19) (.const (.int .u64 0)))])
 (.cond (U 20) (.seq (.al [ad 0 2 (.av (.const (.int .u8 4)))])
 .ret) .skip))
 (.seq (.al [ad 0 2 (.av (.const (.int .u8 5)))])
 .ret)))))))
def Lg:List bb:=[.av (U 2)]
theorem PB:bB Tryz.prog 177=some Fy:=by kernel_rfl
theorem X6:bC Tryz.prog 177=some Lg:=by kernel_rfl
def Fz:aX:=(.seq (.al [ad 0 4 (.av (.const (.int .u32 0)))])
 (.seq (.al [ag 0 5 0,
 ag 1 6 1,
 ad 2 7 (.bin .shr 25 (U 5) (U 6)),
 ag 3 8 0,
 ag 4 9 1,
 ad 5 10 (.bin .sub 3 (.const (.int .i64 32)) (U 9)),
 ad 6 11 (.bin .shl 25 (U 8) (U 10)),
 ad 7 12 (.bin .or 25 (U 7) (U 11)),
 ag 8 4 12])
 .ret))
def Lh:List bb:=[.av (U 4)]
theorem PC:bB Tryz.prog 178=some Fz:=by kernel_rfl
theorem X7:bC Tryz.prog 178=some Lh:=by kernel_rfl
def PD:aX:=(.seq (.al [ad 0 0 (.av (.const (.slice none 0 0)))])
 (.seq (.al [ad 0 1 (.c5 1 [.int .u32 0] 64 [(0,(.const (.int .u32 1116352408))),(1,(.const (.int .u32 1899447441))),(2,(.const (.int .u32 3049323471))),(3,(.const (.int .u32 3921009573))),(4,(.const (.int .u32 961987163))),(5,(.const (.int .u32 1508970993))),(6,(.const (.int .u32 2453635748))),(7,(.const (.int .u32 2870763221))),(8,(.const (.int .u32 3624381080))),(9,(.const (.int .u32 310598401))),(10,(.const (.int .u32 607225278))),(11,(.const (.int .u32 1426881987))),(12,(.const (.int .u32 1925078388))),(13,(.const (.int .u32 2162078206))),(14,(.const (.int .u32 2614888103))),(15,(.const (.int .u32 3248222580))),(16,(.const (.int .u32 3835390401))),(17,(.const (.int .u32 4022224774))),(18,(.const (.int .u32 264347078))),(19,(.const (.int .u32 604807628))),(20,(.const (.int .u32 770255983))),(21,(.const (.int .u32 1249150122))),(22,(.const (.int .u32 1555081692))),(23,(.const (.int .u32 1996064986))),(24,(.const (.int .u32 2554220882))),(25,(.const (.int .u32 2821834349))),(26,(.const (.int .u32 2952996808))),(27,(.const (.int .u32 3210313671))),(28,(.const (.int .u32 3336571891))),(29,(.const (.int .u32 3584528711))),(30,(.const (.int .u32 113926993))),(31,(.const (.int .u32 338241895))),(32,(.const (.int .u32 666307205))),(33,(.const (.int .u32 773529912))),(34,(.const (.int .u32 1294757372))),(35,(.const (.int .u32 1396182291))),(36,(.const (.int .u32 1695183700))),(37,(.const (.int .u32 1986661051))),(38,(.const (.int .u32 2177026350))),(39,(.const (.int .u32 2456956037))),(40,(.const (.int .u32 2730485921))),(41,(.const (.int .u32 2820302411))),(42,(.const (.int .u32 3259730800))),(43,(.const (.int .u32 3345764771))),(44,(.const (.int .u32 3516065817))),(45,(.const (.int .u32 3600352804))),(46,(.const (.int .u32 4094571909))),(47,(.const (.int .u32 275423344))),(48,(.const (.int .u32 430227734))),(49,(.const (.int .u32 506948616))),(50,(.const (.int .u32 659060556))),(51,(.const (.int .u32 883997877))),(52,(.const (.int .u32 958139571))),(53,(.const (.int .u32 1322822218))),(54,(.const (.int .u32 1537002063))),(55,(.const (.int .u32 1747873779))),(56,(.const (.int .u32 1955562222))),(57,(.const (.int .u32 2024104815))),(58,(.const (.int .u32 2227730452))),(59,(.const (.int .u32 2361852424))),(60,(.const (.int .u32 2428436474))),(61,(.const (.int .u32 2756734187))),(62,(.const (.int .u32 3204031479))),(63,(.const (.int .u32 3329325298)))]),
 ag 1 0 1])
 .ret))
def X8:List bb:=[.av (U 0)]
theorem acO:bB Tryz.prog 179=some PD:=by kernel_rfl
theorem akg:bC Tryz.prog 179=some X8:=by kernel_rfl
def FA:aX:=(.seq (.al [ad 0 2 (.av (.const (.slice none 0 0)))])
 (.seq (.seq (.al [ag 0 3 0,
 ad 1 4 (.bin .geq 2 (U 3) (.const (.int .i64 0)))])
 (.cond (U 4) (.seq (.al [ag 0 5 0,
 ad 1 6 (.cR .u64 (U 5)),
 ad 2 7 (.bin .mul 27 (.const (.int .u64 2)) (U 6)),
 sc 3 8 102 [(U 7)],
 ag 4 2 8])
 .ret) .skip))
 (.seq (.al [ag 0 9 0,
 ad 1 10 (.bin .add 2 (U 9) (.const (.int .i64 1))),
 ad 2 11 (.un .neg (U 10)),
 ad 3 12 (.cR .u64 (U 11)),
 ad 4 13 (.bin .mul 27 (.const (.int .u64 2)) (U 12)),
 ad 5 14 (.bin .add 27 (U 13) (.const (.int .u64 1))),
 sc 6 15 102 [(U 14)],
 ag 7 2 15])
 .ret)))
def Li:List bb:=[.av (U 2)]
theorem PF:bB Tryz.prog 180=some FA:=by kernel_rfl
theorem Yb:bC Tryz.prog 180=some Li:=by kernel_rfl
def FB:aX:=(.seq (.al [ad 0 2 (.av (.const (.slice none 0 0)))])
 (.seq (.al [ag 0 3 0,
 ad 1 4 (.bin .quo 25 (U 3) (.const (.int .u32 16777216))),
 ad 2 5 (.cR .u8 (U 4)),
 ag 3 6 0,
 ad 4 7 (.bin .quo 25 (U 6) (.const (.int .u32 65536))),
 ad 5 8 (.bin .rem 25 (U 7) (.const (.int .u32 256))),
 ad 6 9 (.cR .u8 (U 8)),
 ag 7 10 0,
 ad 8 11 (.bin .quo 25 (U 10) (.const (.int .u32 256))),
 ad 9 12 (.bin .rem 25 (U 11) (.const (.int .u32 256))),
 ad 10 13 (.cR .u8 (U 12)),
 ag 11 14 0,
 ad 12 15 (.bin .rem 25 (U 14) (.const (.int .u32 256))),
 ad 13 16 (.cR .u8 (U 15)),
 ad 14 17 (.c5 1 [.int .u8 0] 4 [(0,(U 5)),(1,(U 9)),(2,(U 13)),(3,(U 16))]),
 ag 15 2 17])
 .ret))
def Lj:List bb:=[.av (U 2)]
theorem PG:bB Tryz.prog 181=some FB:=by kernel_rfl
theorem Yc:bC Tryz.prog 181=some Lj:=by kernel_rfl
def Vj:aX:=(.seq (.seq (.al [ag 0 8 5,
 ad 1 9 (.bin .lss 3 (U 8) (.const (.int .i64 8)))])
 (.cond (U 9) .skip (.exit 0)))
 (.seq (.block 1 (.al [ag 0 12 4,
 ad 1 13 (.bin .mul 27 (.const (.int .u64 256)) (U 12)),
 ag 2 14 5,
 ad 3 15 (.bq (.arr 32 1) (U 3) (U 14)),
 ad 4 16 (.ld1 (U 15)),
 ad 5 17 (.cR .u64 (U 16)),
 ad 6 18 (.bin .add 27 (U 13) (U 17)),
 ag 7 4 18]))
 (.al [ag 0 10 5,
 ad 1 11 (.bin .add 3 (U 10) (.const (.int .i64 1))),
 ag 2 5 11])))
def FC:aX:=(.seq (.al [ad 0 2 (.av (.const (.int .u64 0)))])
 (.seq (.al [ag 0 6 0,
 sc 1 7 67 [(U 6)],
 ad 2 3 (.alloc (rep 32 (.int .u8 0))),
 ch 3 (.st 32 (U 3) (U 7))])
 (.seq (.al [ad 0 4 (.av (.const (.int .u64 0)))])
 (.seq (.seq (.al [ad 0 5 (.av (.const (.int .i64 0)))])
 (.block 0 (.loop Vj)))
 (.seq (.al [ag 0 19 4,
 ag 1 2 19])
 .ret)))))
def Lk:List bb:=[.av (U 2)]
theorem PH:bB Tryz.prog 182=some FC:=by kernel_rfl
theorem Yd:bC Tryz.prog 182=some Lk:=by kernel_rfl
def Vk:aX:=(.seq (.al [ad 0 10 (.bin .lss 3 (U 9) (.const (.int .i64 64)))])
 (.seq (.cond (U 10) .skip (.exit 0))
 (.seq (.block 1 (.seq (.al [ag 0 11 9,
 ag 1 7 11])
 (.seq (.al [ag 0 12 6,
 ⟨1,(some 13),none,.hn (U 12) [],[],false⟩])
 (.seq (.al [ag 0 14 1,
 ag 1 15 7,
 ad 2 16 (.bin .sub 3 (.const (.int .i64 63)) (U 15)),
 ad 3 17 (.bin .shr 27 (U 14) (U 16)),
 ad 4 18 (.bin .and 27 (U 17) (.const (.int .u64 1))),
 ad 5 19 (.bin .eql 27 (U 18) (.const (.int .u64 1)))])
 (.cond (U 19) (.al [ad 0 20 (.ld1 (U 5)),
 ag 1 21 0,
 ad 2 22 (.c5 1 [.int .u32 0] 2 [(0,(U 20)),(1,(U 21))]),
 sc 3 23 191 [(.const (.int .u64 1000000007)),(U 22)],
 ch 4 (.st 1 (U 5) (U 23))]) .skip)))))
 (.al [ad 0 24 (.bin .add 3 (U 9) (.const (.int .i64 1))),
 ag 1 9 24]))))
def FD:aX:=(.seq (.al [ad 0 4 (.av (.const (.int .u32 0)))])
 (.seq (.al [ad 0 5 (.alloc [.int .u32 0]),
 ch 1 (.st 1 (U 5) (.const (.int .u32 1)))])
 (.seq (.al [ad 0 8 (.qj 196 [] [(U 5)]),
 ag 1 6 8])
 (.seq (.seq (.al [ad 0 9 (.av (.const (.int .i64 0)))])
 (.block 0 (.loop Vk)))
 (.seq (.al [ad 0 25 (.ld1 (U 5)),
 ag 1 4 25])
 .ret)))))
def Ll:List bb:=[.av (U 4)]
theorem PI:bB Tryz.prog 183=some FD:=by kernel_rfl
theorem Ye:bC Tryz.prog 183=some Ll:=by kernel_rfl
def FE:aX:=(.seq (.al [ad 0 1 (.box (U 0)),
 ad 1 2 (.av (.const (.bool false)))])
 (.seq (.al [ad 0 3 (.alloc [.int .i64 0]),
 ch 1 (.st 1 (U 3) (.const (.int .i64 0)))])
 (.seq (.al [ad 0 4 (.ld1 (U 1)),
 ad 1 5 (.qj 198 [] [(U 3),(U 1)]),
 sc 2 6 197 [(U 4),(U 5)],
 ad 3 7 (.un .not (U 6)),
 ag 4 2 7])
 .ret)))
def Lm:List bb:=[.av (U 2)]
theorem PJ:bB Tryz.prog 184=some FE:=by kernel_rfl
theorem Yf:bC Tryz.prog 184=some Lm:=by kernel_rfl
def FF:aX:=(.seq (.al [ad 0 2 (.av (.const (.slice none 0 0)))])
 (.seq (.al [ag 0 3 0,
 ad 1 4 (.cR .u64 (U 3)),
 ad 2 5 (.bin .shl 27 (U 4) (.const (.int .u64 1))),
 ag 3 6 0,
 ad 4 7 (.bin .shr 2 (U 6) (.const (.int .u64 63))),
 ad 5 8 (.cR .u64 (U 7)),
 ad 6 9 (.bin .xor 27 (U 5) (U 8)),
 sc 7 10 110 [(U 9)],
 ag 8 2 10])
 .ret))
def Ln:List bb:=[.av (U 2)]
theorem PK:bB Tryz.prog 185=some FF:=by kernel_rfl
theorem Yg:bC Tryz.prog 185=some Ln:=by kernel_rfl
def Vl:aX:=(.seq (.al [ad 0 9 (.bin .lss 3 (U 8) (U 7))])
 (.seq (.cond (U 9) .skip (.exit 0))
 (.seq (.block 1 (.seq (.al [ag 0 10 8,
 ag 1 5 10])
 (.seq (.al [ag 0 11 1,
 ag 1 12 0,
 ag 2 13 5,
 ad 3 14 (.bq (.ao 1) (U 12) (U 13)),
 ad 4 15 (.ld1 (U 14)),
 ⟨5,(some 16),none,.hn (U 11) [(U 15)],[],false⟩])
 (.cond (U 16) (.seq (.al [ag 0 17 5,
 ag 1 4 17])
 .ret) .skip))))
 (.al [ad 0 18 (.bin .add 3 (U 8) (.const (.int .i64 1))),
 ag 1 8 18]))))
def FG:aX:=(.seq (.al [ad 0 4 (.av (.const (.int .i64 0)))])
 (.seq (.seq (.al [ag 0 6 0,
 ad 1 7 (.len (.ao 1) (U 6)),
 ad 2 8 (.av (.const (.int .i64 0)))])
 (.block 0 (.loop Vl)))
 (.seq (.al [ad 0 4 (.av (.const (.int .i64 (-1))))])
 .ret)))
def Lo:List bb:=[.av (U 4)]
theorem PL:bB Tryz.prog 186=some FG:=by kernel_rfl
theorem Yh:bC Tryz.prog 186=some Lo:=by kernel_rfl
def Vm:aX:=(.seq (.al [ad 0 53 (.bin .lss 3 (U 52) (.const (.int .i64 64)))])
 (.seq (.cond (U 53) .skip (.exit 0))
 (.seq (.block 1 (.seq (.al [ag 0 54 52,
 ag 1 13 54])
 (.seq (.ho [ag 0 55 12,
 ag 1 56 9,
 ag 4 59 9,
 ag 5 60 10,
 ad 6 61 (.bin .and 25 (U 59) (U 60)),
 ag 7 62 9,
 ad 8 63 (.un .xor (U 62)),
 ag 9 64 11,
 ad 10 65 (.bin .and 25 (U 63) (U 64)),
 ad 11 66 (.bin .xor 25 (U 61) (U 65)),
 ag 13 68 13,
 ad 14 69 (.bq (.arr 64 1) (.global 1) (U 68)),
 ⟨15,(some 70),none,.c2 (.ld1 (U 69)),[],true⟩,
 ag 17 72 13,
 ad 18 73 (.bq (.arr 64 1) (U 4) (U 72)),
 ⟨19,(some 74),none,.c2 (.ld1 (U 73)),[],true⟩,
 ⟨2,(some 57),none,.dq 200 [(U 56),(.const (.int .i64 6)),(.const (.int .i64 11)),(.const (.int .i64 25))],[19,15],false⟩,
 ad 3 58 (.bin .add 25 (U 55) (U 57)),
 ad 12 67 (.bin .add 25 (U 58) (U 66)),
 ad 16 71 (.bin .add 25 (U 67) (U 70)),
 ad 20 75 (.bin .add 25 (U 71) (U 74)),
 ag 21 14 75])
 (.seq (.al [ag 0 76 5,
 sc 1 77 200 [(U 76),(.const (.int .i64 2)),(.const (.int .i64 13)),(.const (.int .i64 22))],
 ag 2 78 5,
 ag 3 79 6,
 ad 4 80 (.bin .and 25 (U 78) (U 79)),
 ag 5 81 5,
 ag 6 82 7,
 ad 7 83 (.bin .and 25 (U 81) (U 82)),
 ad 8 84 (.bin .xor 25 (U 80) (U 83)),
 ag 9 85 6,
 ag 10 86 7,
 ad 11 87 (.bin .and 25 (U 85) (U 86)),
 ad 12 88 (.bin .xor 25 (U 84) (U 87)),
 ad 13 89 (.bin .add 25 (U 77) (U 88)),
 ag 14 15 89])
 (.al [ag 0 90 14,
 ag 1 91 15,
 ad 2 92 (.bin .add 25 (U 90) (U 91)),
 ag 3 93 5,
 ag 4 94 6,
 ag 5 95 7,
 ag 6 96 8,
 ag 7 97 14,
 ad 8 98 (.bin .add 25 (U 96) (U 97)),
 ag 9 99 9,
 ag 10 100 10,
 ag 11 101 11,
 ag 12 5 92,
 ag 13 6 93,
 ag 14 7 94,
 ag 15 8 95,
 ag 16 9 98,
 ag 17 10 99,
 ag 18 11 100,
 ag 19 12 101])))))
 (.al [ad 0 102 (.bin .add 3 (U 52) (.const (.int .i64 1))),
 ag 1 52 102]))))
def Vn:aX:=(.seq (.al [ad 0 113 (.bin .lss 3 (U 112) (.const (.int .i64 8)))])
 (.seq (.cond (U 113) .skip (.exit 2))
 (.seq (.block 3 (.seq (.al [ag 0 114 112,
 ad 1 115 (.vf 8 1 (U 111) (U 112)),
 ag 2 16 114,
 ag 3 17 115])
 (.al [ag 0 116 0,
 ag 1 117 16,
 ad 2 118 (.lF (U 116)),
 ad 3 119 (.bq (.arr 8 1) (U 118) (U 117)),
 ad 4 120 (.ld1 (U 119)),
 ag 5 121 17,
 ad 6 122 (.bin .add 25 (U 120) (U 121)),
 ad 7 123 (.lF (U 116)),
 ad 8 124 (.bq (.arr 8 1) (U 123) (U 117)),
 ch 9 (.st 1 (U 124) (U 122))])))
 (.al [ad 0 125 (.bin .add 3 (U 112) (.const (.int .i64 1))),
 ag 1 112 125]))))
def FH:aX:=(.seq (.al [ag 0 18 1,
 sc 1 19 199 [(U 18)],
 ad 2 4 (.alloc (rep 64 (.int .u32 0))),
 ch 3 (.st 64 (U 4) (U 19))])
 (.seq (.al [ag 0 20 0,
 ad 1 21 (.lF (U 20)),
 ad 2 22 (.bq (.arr 8 1) (U 21) (.const (.int .i64 0))),
 ad 3 23 (.ld1 (U 22)),
 ag 4 24 0,
 ad 5 25 (.lF (U 24)),
 ad 6 26 (.bq (.arr 8 1) (U 25) (.const (.int .i64 1))),
 ad 7 27 (.ld1 (U 26)),
 ag 8 28 0,
 ad 9 29 (.lF (U 28)),
 ad 10 30 (.bq (.arr 8 1) (U 29) (.const (.int .i64 2))),
 ad 11 31 (.ld1 (U 30)),
 ag 12 32 0,
 ad 13 33 (.lF (U 32)),
 ad 14 34 (.bq (.arr 8 1) (U 33) (.const (.int .i64 3))),
 ad 15 35 (.ld1 (U 34)),
 ag 16 36 0,
 ad 17 37 (.lF (U 36)),
 ad 18 38 (.bq (.arr 8 1) (U 37) (.const (.int .i64 4))),
 ad 19 39 (.ld1 (U 38)),
 ag 20 40 0,
 ad 21 41 (.lF (U 40)),
 ad 22 42 (.bq (.arr 8 1) (U 41) (.const (.int .i64 5))),
 ad 23 43 (.ld1 (U 42)),
 ag 24 44 0,
 ad 25 45 (.lF (U 44)),
 ad 26 46 (.bq (.arr 8 1) (U 45) (.const (.int .i64 6))),
 ad 27 47 (.ld1 (U 46)),
 ag 28 48 0,
 ad 29 49 (.lF (U 48)),
 ad 30 50 (.bq (.arr 8 1) (U 49) (.const (.int .i64 7))),
 ad 31 51 (.ld1 (U 50)),
 ag 32 5 23,
 ag 33 6 27,
 ag 34 7 31,
 ag 35 8 35,
 ag 36 9 39,
 ag 37 10 43,
 ag 38 11 47,
 ag 39 12 51])
 (.seq (.seq (.al [ad 0 52 (.av (.const (.int .i64 0)))])
 (.block 0 (.loop Vm)))
 (.seq (.al [ag 0 103 5,
 ag 1 104 6,
 ag 2 105 7,
 ag 3 106 8,
 ag 4 107 9,
 ag 5 108 10,
 ag 6 109 11,
 ag 7 110 12,
 ad 8 111 (.gA [.int .u32 0,.int .u32 0,.int .u32 0,.int .u32 0,.int .u32 0,.int .u32 0,.int .u32 0,.int .u32 0] [(0,1,(U 103)),(1,1,(U 104)),(2,1,(U 105)),(3,1,(U 106)),(4,1,(U 107)),(5,1,(U 108)),(6,1,(U 109)),(7,1,(U 110))]),
 ad 9 112 (.av (.const (.int .i64 0)))])
 (.block 2 (.loop Vn))))))
def Lp:List bb:=[]
theorem PM:bB Tryz.prog 187=some FH:=by kernel_rfl
theorem Yi:bC Tryz.prog 187=some Lp:=by kernel_rfl
def FI:aX:=(.seq (.al [ad 0 2 (.av (.const (.slice none 0 0)))])
 (.seq (.seq (.al [ag 0 3 0,
 ad 1 4 (.bin .eql 117 (U 3) (.const (.slice none 0 0)))])
 (.cond (U 4) (.seq (.al [ad 0 2 (.av (.const (.slice none 0 0)))])
 .ret) .skip))
 (.seq (.al [ad 0 5 (.c5 1 [.int .u8 0] 0 []),
 ag 1 6 0,
 ad 2 7 (.app 1 1 (U 5) (U 6)),
 ag 3 2 7])
 .ret)))
def Lq:List bb:=[.av (U 2)]
theorem PN:bB Tryz.prog 188=some FI:=by kernel_rfl
theorem Yj:bC Tryz.prog 188=some Lq:=by kernel_rfl
def FJ:aX:=(.seq (.al [ad 0 2 (.av (.const (.int .u8 0)))])
 (.seq (.al [ag 0 6 0,
 sc 1 7 201 [(U 6)],
 ag 2 5 7,
 ad 3 8 (.ext (U 5) 0),
 ad 4 9 (.ext (U 5) 1),
 ag 5 3 8,
 ag 6 4 9])
 (.seq (.block 0 (.seq (.al [ag 0 11 3,
 ad 1 12 (.bin .eql 3 (U 11) (.const (.int .i64 2047))),
 ag 2 13 12,
 aT 3 14 13 true (.av (U 4)),
 aT 4 15 13 true (.bin .neq 27 (U 14) (.const (.int .u64 0))),
 ad 5 16 (.pick (U 13) (U 15) (.const (.bool false))),
 ag 6 10 16])
 (.cond (U 10) (.seq (.al [ad 0 2 (.av (.const (.int .u8 5)))])
 .ret) (.seq (.al [ag 0 18 3,
 ad 1 19 (.bin .eql 3 (U 18) (.const (.int .i64 2047))),
 ag 2 17 19])
 (.cond (U 17) (.seq (.al [ad 0 2 (.av (.const (.int .u8 4)))])
 .ret) (.seq (.al [ag 0 21 3,
 ad 1 22 (.bin .neq 3 (U 21) (.const (.int .i64 0))),
 ag 2 20 22])
 (.cond (U 20) (.seq (.al [ad 0 2 (.av (.const (.int .u8 3)))])
 .ret) (.seq (.al [ag 0 24 4,
 ad 1 25 (.bin .neq 27 (U 24) (.const (.int .u64 0))),
 ag 2 23 25])
 (.cond (U 23) (.seq (.al [ad 0 2 (.av (.const (.int .u8 2)))])
 .ret) .skip)))))))))
 (.seq (.al [ad 0 2 (.av (.const (.int .u8 1)))])
 .ret))))
def Lr:List bb:=[.av (U 2)]
theorem PO:bB Tryz.prog 189=some FJ:=by kernel_rfl
theorem Yk:bC Tryz.prog 189=some Lr:=by kernel_rfl
def Vo:aX:=(.seq (.al [ad 0 8 (.bin .lss 3 (U 7) (U 6))])
 (.seq (.cond (U 8) .skip (.exit 0))
 (.seq (.block 1 (.seq (.al [ad 0 9 (.bq (.ao 1) (U 5) (U 7)),
 ad 1 10 (.ld1 (U 9)),
 ag 2 4 10])
 (.seq (.al [ag 0 11 4,
 sc 1 12 151 [(U 11)],
 ad 2 13 (.un .not (U 12))])
 (.cond (U 13) (.seq (.al [ad 0 2 (.av (.const (.bool false)))])
 .ret) .skip))))
 (.al [ad 0 14 (.bin .add 3 (U 7) (.const (.int .i64 1))),
 ag 1 7 14]))))
def FK:aX:=(.seq (.al [ad 0 2 (.av (.const (.bool false)))])
 (.seq (.seq (.al [ag 0 5 0,
 ad 1 6 (.len (.ao 1) (U 5)),
 ad 2 7 (.av (.const (.int .i64 0)))])
 (.block 0 (.loop Vo)))
 (.seq (.al [ad 0 2 (.av (.const (.bool true)))])
 .ret)))
def Ls:List bb:=[.av (U 2)]
theorem PP:bB Tryz.prog 190=some FK:=by kernel_rfl
theorem Ym:bC Tryz.prog 190=some Ls:=by kernel_rfl
def Vp:aX:=(.seq (.al [ad 0 11 (.bin .lss 3 (U 10) (U 9))])
 (.seq (.cond (U 11) .skip (.exit 0))
 (.seq (.block 1 (.seq (.al [ad 0 12 (.bq (.ao 1) (U 8) (U 10)),
 ad 1 13 (.ld1 (U 12)),
 ag 2 7 13])
 (.al [ag 0 14 5,
 ag 1 15 7,
 ad 2 16 (.cR .u64 (U 15)),
 ad 3 17 (.bin .mul 27 (U 14) (U 16)),
 ag 4 18 0,
 ad 5 19 (.bin .rem 27 (U 17) (U 18)),
 ag 6 5 19])))
 (.al [ad 0 20 (.bin .add 3 (U 10) (.const (.int .i64 1))),
 ag 1 10 20]))))
def FL:aX:=(.seq (.al [ad 0 4 (.av (.const (.int .u32 0)))])
 (.seq (.al [ad 0 5 (.av (.const (.int .u64 1)))])
 (.seq (.seq (.al [ag 0 8 1,
 ad 1 9 (.len (.ao 1) (U 8)),
 ad 2 10 (.av (.const (.int .i64 0)))])
 (.block 0 (.loop Vp)))
 (.seq (.al [ag 0 21 5,
 ad 1 22 (.cR .u32 (U 21)),
 ag 2 4 22])
 .ret))))
def Lt:List bb:=[.av (U 4)]
theorem PQ:bB Tryz.prog 191=some FL:=by kernel_rfl
theorem Yn:bC Tryz.prog 191=some Lt:=by kernel_rfl
def Vq:aX:=(.seq (.al [ad 0 24 (.bin .lss 3 (U 23) (U 22))])
 (.seq (.cond (U 24) .skip (.exit 0))
 (.seq (.block 1 (.seq (.al [ad 0 25 (.bq (.ao 1) (U 21) (U 23)),
 ad 1 26 (.ld1 (U 25)),
 ag 2 10 26])
 (.al [ag 0 27 8,
 ag 1 28 10,
 ad 2 29 (.bin .shr 25 (U 28) (.const (.int .u64 24))),
 ad 3 30 (.cR .u8 (U 29)),
 ag 4 31 10,
 ad 5 32 (.bin .shr 25 (U 31) (.const (.int .u64 16))),
 ad 6 33 (.cR .u8 (U 32)),
 ag 7 34 10,
 ad 8 35 (.bin .shr 25 (U 34) (.const (.int .u64 8))),
 ad 9 36 (.cR .u8 (U 35)),
 ag 10 37 10,
 ad 11 38 (.cR .u8 (U 37)),
 ad 12 39 (.c5 1 [.int .u8 0] 4 [(0,(U 30)),(1,(U 33)),(2,(U 36)),(3,(U 38))]),
 ad 13 40 (.app 1 1 (U 27) (U 39)),
 ag 14 8 40])))
 (.al [ad 0 41 (.bin .add 3 (U 23) (.const (.int .i64 1))),
 ag 1 23 41]))))
def Vr:aX:=(.seq (.al [ad 0 52 (.bin .lss 3 (U 51) (U 50))])
 (.seq (.cond (U 52) .skip (.exit 2))
 (.seq (.block 3 (.seq (.al [ad 0 53 (.bq (.ao 1) (U 49) (U 51)),
 ad 1 54 (.ld1 (U 53)),
 ag 2 15 54])
 (.al [ag 0 55 13,
 ad 1 56 (.bin .shl 27 (U 55) (.const (.int .u64 8))),
 ag 2 57 15,
 ad 3 58 (.cR .u64 (U 57)),
 ad 4 59 (.bin .or 27 (U 56) (U 58)),
 ag 5 13 59])))
 (.al [ad 0 60 (.bin .add 3 (U 51) (.const (.int .i64 1))),
 ag 1 51 60]))))
def FM:aX:=(.seq (.al [ad 0 6 (.av (.const (.int .u64 0))),
 ad 1 7 (.av (.const (.int .i64 0)))])
 (.seq (.seq (.al [ag 0 16 1,
 ad 1 17 (.len (.ao 1) (U 16)),
 ad 2 18 (.bin .gtr 3 (U 17) (.const (.int .i64 9991)))])
 (.cond (U 18) (.seq (.al [ad 0 6 (.av (.const (.int .u64 0))),
 ad 1 7 (.av (.const (.int .i64 4)))])
 .ret) .skip))
 (.seq (.al [ag 0 19 0,
 ad 1 20 (.c5 1 [.int .u8 0] 1 [(0,(U 19))]),
 ag 2 8 20])
 (.seq (.seq (.al [ag 0 21 2,
 ad 1 22 (.len (.ao 1) (U 21)),
 ad 2 23 (.av (.const (.int .i64 0)))])
 (.block 0 (.loop Vq)))
 (.seq (.al [ag 0 43 8,
 ag 1 44 1,
 ad 2 45 (.c5 1 [.a6] 2 [(0,(U 43)),(1,(U 44))]),
 sc 3 46 111 [(U 45)],
 ag 4 42 46,
 ad 5 47 (.ext (U 42) 0),
 ad 6 48 (.ext (U 42) 1),
 ad 7 11 (.alloc (rep 32 (.int .u8 0))),
 ch 8 (.st 32 (U 11) (U 47)),
 ag 9 12 48])
 (.seq (.al [ad 0 13 (.av (.const (.int .u64 0)))])
 (.seq (.seq (.al [ad 0 49 (.slice (.arr 32 1) (U 11) none (some (.const (.int .i64 8))) none),
 ad 1 50 (.len (.ao 1) (U 49)),
 ad 2 51 (.av (.const (.int .i64 0)))])
 (.block 2 (.loop Vr)))
 (.seq (.al [ag 0 61 13,
 ag 1 62 12,
 ag 2 6 61,
 ag 3 7 62])
 .ret))))))))
def Lu:List bb:=[.av (U 6),.av (U 7)]
theorem PR:bB Tryz.prog 192=some FM:=by kernel_rfl
theorem Yo:bC Tryz.prog 192=some Lu:=by kernel_rfl
def FN:aX:=(.seq (.al [ad 0 2 (.av (.const (.int .i64 0)))])
 (.seq (.al [ag 0 3 0,
 ad 1 4 (.bin .rem 27 (U 3) (.const (.int .u64 9223372036854775808))),
 ad 2 5 (.bin .quo 27 (U 4) (.const (.int .u64 4503599627370496))),
 ad 3 6 (.cR .i64 (U 5)),
 ag 4 2 6])
 .ret))
def Lv:List bb:=[.av (U 2)]
theorem PS:bB Tryz.prog 194=some FN:=by kernel_rfl
theorem Yp:bC Tryz.prog 194=some Lv:=by kernel_rfl
def FO:aX:=(.seq (.al [ad 0 2 (.av (.const (.int .u64 0)))])
 (.seq (.al [ag 0 3 0,
 ad 1 4 (.bin .rem 27 (U 3) (.const (.int .u64 4503599627370496))),
 ag 2 2 4])
 .ret))
def Lw:List bb:=[.av (U 2)]
theorem PT:bB Tryz.prog 195=some FO:=by kernel_rfl
theorem Yq:bC Tryz.prog 195=some Lw:=by kernel_rfl
def FP:aX:=(.al [ad 0 1 (.ld1 (U 0)),
 ad 1 2 (.ld1 (U 0)),
 ad 2 3 (.c5 1 [.int .u32 0] 2 [(0,(U 1)),(1,(U 2))]),
 sc 3 4 191 [(.const (.int .u64 1000000007)),(U 3)],
 ch 4 (.st 1 (U 0) (U 4))])
def Lx:List bb:=[]
theorem PU:bB Tryz.prog 196=some FP:=by kernel_rfl
theorem Yr:bC Tryz.prog 196=some Lx:=by kernel_rfl
def FQ:aX:=(.seq (.al [ad 0 4 (.av (.const (.bool false)))])
 (.seq (.al [ag 0 5 0,
 ag 1 6 1,
 sc 2 7 202 [(U 5),(U 6)],
 ad 3 8 (.bin .geq 3 (U 7) (.const (.int .i64 0))),
 ag 4 4 8])
 .ret))
def Ly:List bb:=[.av (U 4)]
theorem PV:bB Tryz.prog 197=some FQ:=by kernel_rfl
theorem Ys:bC Tryz.prog 197=some Ly:=by kernel_rfl
def FR:aX:=(.seq (.al [ad 0 3 (.box (U 0)),
 ad 1 4 (.av (.const (.bool false)))])
 (.seq (.al [ad 0 5 (.ld1 (U 1)),
 ad 1 6 (.bin .add 3 (U 5) (.const (.int .i64 1))),
 ch 2 (.st 1 (U 1) (U 6))])
 (.seq (.al [ad 0 7 (.ld1 (U 1)),
 ad 1 8 (.ld1 (U 2)),
 ad 2 9 (.len (.ao 32) (U 8)),
 ad 3 10 (.bin .lss 3 (U 7) (U 9)),
 ag 4 11 10,
 aT 5 12 11 true (.ld1 (U 2)),
 aT 6 13 11 true (.ld1 (U 1)),
 aT 7 14 11 true (.bin .sub 3 (U 13) (.const (.int .i64 1))),
 aT 8 15 11 true (.bq (.ao 32) (U 12) (U 14)),
 aT 9 16 11 true (.bh 32 (U 15)),
 aT 10 17 11 true (.ld1 (U 2)),
 aT 11 18 11 true (.ld1 (U 1)),
 aT 12 19 11 true (.bq (.ao 32) (U 17) (U 18)),
 aT 13 20 11 true (.bh 32 (U 19)),
 ⟨14,(some 21),(some ((some 11),true)),.dq 121 [(U 16),(U 20)],[],false⟩,
 aT 15 22 11 true (.bin .geq 3 (U 21) (.const (.int .i64 0))),
 ad 16 23 (.pick (U 11) (U 22) (.const (.bool false))),
 ag 17 4 23])
 .ret)))
def LA:List bb:=[.av (U 4)]
theorem PW:bB Tryz.prog 198=some FR:=by kernel_rfl
theorem Yt:bC Tryz.prog 198=some LA:=by kernel_rfl
def Vs:aX:=(.seq (.al [ad 0 14 (.bin .lss 3 (U 13) (U 12))])
 (.seq (.cond (U 14) .skip (.exit 0))
 (.seq (.block 1 (.seq (.al [ag 0 15 13,
 ad 1 16 (.bq (.ao 1) (U 11) (U 13)),
 ad 2 17 (.ld1 (U 16)),
 ag 3 3 15,
 ag 4 4 17])
 (.al [ag 0 18 3,
 ad 1 19 (.bin .quo 3 (U 18) (.const (.int .i64 4))),
 ag 2 20 3,
 ad 3 21 (.bin .quo 3 (U 20) (.const (.int .i64 4))),
 ad 4 22 (.bq (.arr 64 1) (U 2) (U 21)),
 ad 5 23 (.ld1 (U 22)),
 ad 6 24 (.bin .shl 25 (U 23) (.const (.int .u64 8))),
 ag 7 25 4,
 ad 8 26 (.cR .u32 (U 25)),
 ad 9 27 (.bin .or 25 (U 24) (U 26)),
 ad 10 28 (.bq (.arr 64 1) (U 2) (U 19)),
 ch 11 (.st 1 (U 28) (U 27))])))
 (.al [ad 0 29 (.bin .add 3 (U 13) (.const (.int .i64 1))),
 ag 1 13 29]))))
def Vt:aX:=(.seq (.seq (.al [ag 0 30 5,
 ad 1 31 (.bin .lss 3 (U 30) (.const (.int .i64 64)))])
 (.cond (U 31) .skip (.exit 2)))
 (.seq (.block 3 (.seq (.al [ag 0 34 5,
 ad 1 35 (.bin .sub 3 (U 34) (.const (.int .i64 15))),
 ad 2 36 (.bq (.arr 64 1) (U 2) (U 35)),
 ad 3 37 (.ld1 (U 36)),
 ag 4 38 5,
 ad 5 39 (.bin .sub 3 (U 38) (.const (.int .i64 2))),
 ad 6 40 (.bq (.arr 64 1) (U 2) (U 39)),
 ad 7 41 (.ld1 (U 40)),
 ag 8 6 37,
 ag 9 7 41])
 (.seq (.al [ag 0 42 6,
 sc 1 43 203 [(U 42),(.const (.int .i64 (-7)))],
 ag 2 44 6,
 sc 3 45 203 [(U 44),(.const (.int .i64 (-18)))],
 ad 4 46 (.bin .xor 25 (U 43) (U 45)),
 ag 5 47 6,
 ad 6 48 (.bin .shr 25 (U 47) (.const (.int .u64 3))),
 ad 7 49 (.bin .xor 25 (U 46) (U 48)),
 ag 8 8 49])
 (.seq (.al [ag 0 50 7,
 sc 1 51 203 [(U 50),(.const (.int .i64 (-17)))],
 ag 2 52 7,
 sc 3 53 203 [(U 52),(.const (.int .i64 (-19)))],
 ad 4 54 (.bin .xor 25 (U 51) (U 53)),
 ag 5 55 7,
 ad 6 56 (.bin .shr 25 (U 55) (.const (.int .u64 10))),
 ad 7 57 (.bin .xor 25 (U 54) (U 56)),
 ag 8 9 57])
 (.al [ag 0 58 5,
 ag 1 59 5,
 ad 2 60 (.bin .sub 3 (U 59) (.const (.int .i64 16))),
 ad 3 61 (.bq (.arr 64 1) (U 2) (U 60)),
 ad 4 62 (.ld1 (U 61)),
 ag 5 63 5,
 ad 6 64 (.bin .sub 3 (U 63) (.const (.int .i64 7))),
 ad 7 65 (.bq (.arr 64 1) (U 2) (U 64)),
 ad 8 66 (.ld1 (U 65)),
 ad 9 67 (.bin .add 25 (U 62) (U 66)),
 ag 10 68 8,
 ad 11 69 (.bin .add 25 (U 67) (U 68)),
 ag 12 70 9,
 ad 13 71 (.bin .add 25 (U 69) (U 70)),
 ad 14 72 (.bq (.arr 64 1) (U 2) (U 58)),
 ch 15 (.st 1 (U 72) (U 71))])))))
 (.al [ag 0 32 5,
 ad 1 33 (.bin .add 3 (U 32) (.const (.int .i64 1))),
 ag 2 5 33])))
def FS:aX:=(.seq (.al [ad 0 2 (.alloc (rep 64 (.int .u32 0)))])
 (.seq (.seq (.al [ag 0 10 0,
 ad 1 11 (.slice (.ao 1) (U 10) none (some (.const (.int .i64 64))) none),
 ad 2 12 (.len (.ao 1) (U 11)),
 ad 3 13 (.av (.const (.int .i64 0)))])
 (.block 0 (.loop Vs)))
 (.seq (.seq (.al [ad 0 5 (.av (.const (.int .i64 16)))])
 (.block 2 (.loop Vt)))
 (.seq (.al [ad 0 73 (.bh 64 (U 2)),
 ch 1 (.st 64 (U 2) (U 73))])
 .ret))))
def LB:List bb:=[.bh 64 (U 2)]
theorem PX:bB Tryz.prog 199=some FS:=by kernel_rfl
theorem Yu:bC Tryz.prog 199=some LB:=by kernel_rfl
def FV:aX:=(.seq (.al [ad 0 8 (.av (.const (.int .u32 0)))])
 (.seq (.al [ag 0 9 0,
 ag 1 10 1,
 ad 2 11 (.un .neg (U 10)),
 sc 3 12 203 [(U 9),(U 11)],
 ag 4 13 0,
 ag 5 14 2,
 ad 6 15 (.un .neg (U 14)),
 sc 7 16 203 [(U 13),(U 15)],
 ad 8 17 (.bin .xor 25 (U 12) (U 16)),
 ag 9 18 0,
 ag 10 19 3,
 ad 11 20 (.un .neg (U 19)),
 sc 12 21 203 [(U 18),(U 20)],
 ad 13 22 (.bin .xor 25 (U 17) (U 21)),
 ag 14 8 22])
 .ret))
def LD:List bb:=[.av (U 8)]
theorem PY:bB Tryz.prog 200=some FV:=by kernel_rfl
theorem Yv:bC Tryz.prog 200=some LD:=by kernel_rfl
def FW:aX:=(.seq (.al [ad 0 2 (.av (.const (.int .i64 0))),
 ad 1 3 (.av (.const (.int .u64 0)))])
 (.seq (.al [ag 0 4 0,
 ad 1 5 (.bin .shr 27 (U 4) (.const (.int .u64 52))),
 ad 2 6 (.cR .i64 (U 5)),
 ad 3 7 (.bin .and 3 (U 6) (.const (.int .i64 2047))),
 ag 4 8 0,
 ad 5 9 (.bin .and 27 (U 8) (.const (.int .u64 4503599627370495))),
 ag 6 2 7,
 ag 7 3 9])
 .ret))
def LF:List bb:=[.av (U 2),.av (U 3)]
theorem PZ:bB Tryz.prog 201=some FW:=by kernel_rfl
theorem Yw:bC Tryz.prog 201=some LF:=by kernel_rfl
def Vu:aX:=(.seq (.al [ad 0 9 (.bin .lss 3 (U 8) (U 7))])
 (.seq (.cond (U 9) .skip (.exit 0))
 (.seq (.block 1 (.seq (.al [ag 0 10 8,
 ag 1 5 10])
 (.seq (.al [ag 0 11 1,
 ag 1 12 0,
 ag 2 13 5,
 ad 3 14 (.bq (.ao 32) (U 12) (U 13)),
 ad 4 15 (.bh 32 (U 14)),
 ⟨5,(some 16),none,.hn (U 11) [(U 15)],[],false⟩])
 (.cond (U 16) (.seq (.al [ag 0 17 5,
 ag 1 4 17])
 .ret) .skip))))
 (.al [ad 0 18 (.bin .add 3 (U 8) (.const (.int .i64 1))),
 ag 1 8 18]))))
def FX:aX:=(.seq (.al [ad 0 4 (.av (.const (.int .i64 0)))])
 (.seq (.seq (.al [ag 0 6 0,
 ad 1 7 (.len (.ao 32) (U 6)),
 ad 2 8 (.av (.const (.int .i64 0)))])
 (.block 0 (.loop Vu)))
 (.seq (.al [ad 0 4 (.av (.const (.int .i64 (-1))))])
 .ret)))
def LG:List bb:=[.av (U 4)]
theorem P0:bB Tryz.prog 202=some FX:=by kernel_rfl
theorem Yx:bC Tryz.prog 202=some LG:=by kernel_rfl
def FY:aX:=(.seq (.al [ad 0 4 (.av (.const (.int .u32 0)))])
 (.seq (.al [ag 0 6 1,
 ad 1 7 (.cR .u64 (U 6)),
 ad 2 8 (.bin .and 125 (U 7) (.const (.int .u64 31))),
 ag 3 5 8])
 (.seq (.al [ag 0 9 0,
 ag 1 10 5,
 ad 2 11 (.bin .shl 25 (U 9) (U 10)),
 ag 3 12 0,
 ag 4 13 5,
 ad 5 14 (.bin .sub 125 (.const (.int .u64 32)) (U 13)),
 ad 6 15 (.bin .shr 25 (U 12) (U 14)),
 ad 7 16 (.bin .or 25 (U 11) (U 15)),
 ag 8 4 16])
 .ret)))
def LH:List bb:=[.av (U 4)]
theorem P1:bB Tryz.prog 203=some FY:=by kernel_rfl
theorem Yy:bC Tryz.prog 203=some LH:=by kernel_rfl
def aaG:cy (aX × List bb) :=(.node (.node (.node (.node (.node (.node (.node .nil (some (Gp,L7)) (.node .nil (some (FL,Lt)) .nil)) (some (F7,LP)) (.node (.node .nil (some (Fk,K4)) .nil) (some (GQ,Mu)) .nil)) none (.node (.node (.node .nil (some (E6,KR)) .nil) none .nil) none (.node (.node .nil (some (Fw,Le)) .nil) (some (EL,Kw)) .nil))) none (.node (.node (.node (.node .nil (some (EY,KJ)) .nil) none (.node .nil (some (FS,LB)) .nil)) none (.node (.node .nil (some (Fs,Lb)) .nil) none .nil)) (some (F0,LJ)) (.node (.node (.node .nil (some (Fb,KW)) .nil) (some (GK,Mp)) .nil) (some (Gi,L1)) (.node (.node .nil (some (FD,Ll)) .nil) (some (ER,KC)) .nil)))) none (.node (.node (.node (.node .nil (some (Gt,Mb)) (.node .nil (some (FO,Lw)) .nil)) (some (F9,LR)) (.node (.node .nil (some (Fo,K7)) .nil) (some (GX,My)) .nil)) none (.node (.node .nil (some (GG,Ml)) .nil) (some (Ge,LX)) (.node (.node .nil (some (PD,X8)) .nil) (some (EN,Ky)) .nil))) none (.node (.node (.node (.node .nil (some (E2,KN)) .nil) (some (GC,Mi)) (.node .nil (some (FY,LH)) .nil)) none (.node .nil (some (EH,Ks)) .nil)) none (.node (.node (.node .nil (some (A0,Do)) .nil) (some (QQ,Zm)) .nil) (some (Gl,L4)) (.node (.node .nil (some (FH,Lp)) .nil) (some (EV,KG)) .nil))))) none (.node (.node (.node (.node (.node .nil (some (Gr,L9)) .nil) none (.node .nil (some (GU,Mw)) .nil)) (some (Fu,xB)) (.node (.node (.node .nil (some (E7,KS)) .nil) none .nil) none (.node (.node .nil (some (Fy,Lg)) .nil) none .nil))) none (.node (.node (.node (.node .nil (some (E0,KL)) .nil) (some (Gy,Mg)) (.node .nil (some (FW,LF)) .nil)) (some (Gb,LU)) (.node .nil (some (EG,Kr)) .nil)) (some (F2,LK)) (.node (.node (.node .nil (some (Fe,KY)) .nil) (some (GM,Mr)) .nil) (some (Qp,YW)) (.node (.node .nil (some (FF,Ln)) .nil) (some (ET,KE)) .nil)))) none (.node (.node (.node (.node .nil (some (Gv,Md)) (.node .nil (some (FQ,Ly)) .nil)) none (.node (.node .nil (some (Fq,K9)) .nil) (some (EE,Kp)) .nil)) none (.node (.node (.node .nil (some (E9,KU)) .nil) (some (GI,Mn)) .nil) (some (Gg,LZ)) (.node (.node .nil (some (FB,Lj)) .nil) (some (EP,KA)) .nil))) none (.node (.node (.node (.node .nil (some (E4,KP)) .nil) none .nil) none (.node .nil (some (AZ,Dn)) .nil)) (some (F5,LN)) (.node (.node (.node .nil (some (Fi,K2)) .nil) (some (GN,Ms)) .nil) (some (Gm,L5)) (.node (.node .nil (some (FJ,Lr)) .nil) (some (EX,KI)) .nil)))))) none (.node (.node (.node (.node (.node (.node .nil (some (Gq,L8)) (.node .nil (some (FM,Lu)) .nil)) (some (F8,LQ)) (.node (.node .nil (some (Fl,K5)) .nil) (some (GR,Mv)) .nil)) none (.node .nil none (.node (.node .nil (some (Fx,Lf)) .nil) (some (EM,Kx)) .nil))) none (.node (.node (.node (.node .nil (some (EZ,KK)) .nil) (some (A1,Dq)) (.node .nil (some (FV,LD)) .nil)) none (.node (.node .nil (some (Ft,Lc)) .nil) none .nil)) (some (F1,tD)) (.node (.node (.node .nil (some (Fc,KX)) .nil) (some (GL,Mq)) .nil) (some (Gj,L2)) (.node (.node .nil (some (FE,Lm)) .nil) (some (ES,KD)) .nil)))) (some (hF,vz)) (.node (.node (.node (.node .nil (some (Gu,Mc)) (.node .nil (some (FP,Lx)) .nil)) none (.node (.node .nil (some (Fp,K8)) .nil) (some (ED,Ko)) .nil)) (some (FU,LC)) (.node (.node (.node .nil (some (E8,KT)) .nil) (some (GH,Mm)) .nil) (some (Gf,LY)) (.node (.node .nil (some (FA,Li)) .nil) (some (EO,Kz)) .nil))) none (.node (.node (.node (.node .nil (some (E3,KO)) .nil) (some (GD,Mj)) .nil) none (.node .nil (some (EI,Kt)) .nil)) (some (F4,LM)) (.node (.node (.node .nil (some (Fh,K1)) .nil) none .nil) none (.node (.node .nil (some (FI,Lq)) .nil) (some (EW,KH)) .nil))))) none (.node (.node (.node (.node (.node .nil (some (Gs,Ma)) (.node .nil (some (FN,Lv)) .nil)) none (.node (.node .nil (some (Fm,K6)) .nil) (some (GV,Mx)) .nil)) none (.node (.node .nil (some (GF,Mk)) .nil) (some (Gd,LW)) (.node (.node .nil (some (Fz,Lh)) .nil) none .nil))) none (.node (.node (.node (.node .nil (some (E1,KM)) .nil) (some (Gz,Mh)) (.node .nil (some (FX,LG)) .nil)) none .nil) (some (F3,LL)) (.node (.node (.node .nil (some (Ff,KZ)) .nil) (some (QP,Zl)) .nil) (some (Gk,L3)) (.node (.node .nil (some (FG,Lo)) .nil) (some (EU,KF)) .nil)))) none (.node (.node (.node (.node (.node .nil (some (O2,Xz)) .nil) (some (Gw,Me)) (.node .nil (some (FR,LA)) .nil)) (some (Ga,LS)) (.node (.node .nil (some (Fr,La)) .nil) (some (EF,Kq)) .nil)) (some (FZ,LI)) (.node (.node (.node .nil (some (Fa,KV)) .nil) (some (GJ,Mo)) .nil) (some (Gh,L0)) (.node (.node .nil (some (FC,Lk)) .nil) (some (EQ,KB)) .nil))) none (.node (.node (.node (.node .nil (some (E5,KQ)) .nil) none .nil) (some (Gc,LV)) (.node (.node .nil (some (Fv,Ld)) .nil) (some (EK,Kv)) .nil)) (some (F6,LO)) (.node (.node (.node .nil (some (Fj,K3)) .nil) (some (GO,Mt)) .nil) (some (Gn,L6)) (.node (.node .nil (some (FK,Ls)) .nil) (some (O1,Xy)) .nil)))))))
theorem amr:np (NI Tryz.prog) aaG:=(eC (eC (eC (eC (eC (bF ⟨Qb,YI⟩ (bF ⟨Qv,Y1⟩ bi (bF ⟨PQ,Yn⟩ bi bi)) (bF ⟨QT,Zp⟩ (bF ⟨Pp,XU⟩ bi bi) bi)) (eC (eC (bF ⟨Pc,XI⟩ bi bi) bi) (bF ⟨ON,Xl⟩ (bF ⟨Pz,X4⟩ bi bi) bi))) (bF ⟨P4,YB⟩ (eC (eC (bF ⟨O3,XA⟩ bi bi) (bF ⟨PX,Yu⟩ bi bi)) (eC (bF ⟨Pw,X1⟩ bi bi) bi)) (bF ⟨Qn,YU⟩ (bF ⟨QM,Zi⟩ (bF ⟨Ph,XN⟩ bi bi) bi) (bF ⟨OU,Xr⟩ (bF ⟨PI,Ye⟩ bi bi) bi)))) (eC (eC (bF ⟨Qd,YK⟩ (bF ⟨Qz,Y5⟩ bi (bF ⟨PT,Yq⟩ bi bi)) (bF ⟨QX,Zt⟩ (bF ⟨Ps,XX⟩ bi bi) bi)) (bF ⟨Qj,YQ⟩ (bF ⟨QI,Ze⟩ bi bi) (bF ⟨OP,Xn⟩ (bF ⟨acO,akg⟩ bi bi) bi))) (eC (eC (bF ⟨QF,Zb⟩ (bF ⟨O7,XE⟩ bi bi) (bF ⟨P1,Yy⟩ bi bi)) (bF ⟨OK,Xi⟩ bi bi)) (bF ⟨Qr,YY⟩ (bF ⟨acT,akj⟩ (bF ⟨Fg,K0⟩ bi bi) bi) (bF ⟨OY,Xv⟩ (bF ⟨PM,Yi⟩ bi bi) bi))))) (eC (eC (bF ⟨PE,X9⟩ (eC (bF ⟨Qx,Y3⟩ bi bi) (bF ⟨QV,Zr⟩ bi bi)) (eC (eC (bF ⟨Pd,XJ⟩ bi bi) bi) (eC (bF ⟨PB,X6⟩ bi bi) bi))) (bF ⟨P6,YD⟩ (bF ⟨Qf,YM⟩ (bF ⟨QD,Y9⟩ (bF ⟨O5,XC⟩ bi bi) (bF ⟨PZ,Yw⟩ bi bi)) (bF ⟨OJ,Xh⟩ bi bi)) (bF ⟨acQ,akh⟩ (bF ⟨QO,Zk⟩ (bF ⟨Pk,XP⟩ bi bi) bi) (bF ⟨OW,Xt⟩ (bF ⟨PK,Yg⟩ bi bi) bi)))) (eC (eC (eC (bF ⟨QB,Y7⟩ bi (bF ⟨PV,Ys⟩ bi bi)) (bF ⟨OH,Xf⟩ (bF ⟨Pu,XZ⟩ bi bi) bi)) (bF ⟨Ql,YS⟩ (bF ⟨QK,Zg⟩ (bF ⟨Pf,XL⟩ bi bi) bi) (bF ⟨OS,Xp⟩ (bF ⟨PG,Yc⟩ bi bi) bi))) (bF ⟨P9,YG⟩ (eC (eC (bF ⟨O9,XG⟩ bi bi) bi) (bF ⟨EJ,Ku⟩ bi bi)) (bF ⟨Qt,YZ⟩ (bF ⟨QR,Zn⟩ (bF ⟨Pn,XS⟩ bi bi) bi) (bF ⟨O0,Xx⟩ (bF ⟨PO,Yk⟩ bi bi) bi)))))) (eC (bF ⟨Qh,YO⟩ (eC (eC (bF ⟨Qc,YJ⟩ (bF ⟨Qw,Y2⟩ bi (bF ⟨PR,Yo⟩ bi bi)) (bF ⟨QU,Zq⟩ (bF ⟨Pq,XV⟩ bi bi) bi)) (eC bi (bF ⟨OO,Xm⟩ (bF ⟨PA,X5⟩ bi bi) bi))) (bF ⟨P5,YC⟩ (eC (bF ⟨Gx,Mf⟩ (bF ⟨O4,XB⟩ bi bi) (bF ⟨PY,Yv⟩ bi bi)) (eC (bF ⟨Px,X2⟩ bi bi) bi)) (bF ⟨Qo,YV⟩ (bF ⟨QN,Zj⟩ (bF ⟨Pj,XO⟩ bi bi) bi) (bF ⟨OV,Xs⟩ (bF ⟨PJ,Yf⟩ bi bi) bi)))) (eC (bF ⟨P2,Yz⟩ (eC (bF ⟨QA,Y6⟩ bi (bF ⟨PU,Yr⟩ bi bi)) (bF ⟨OG,Xe⟩ (bF ⟨Pt,XY⟩ bi bi) bi)) (bF ⟨Qk,YR⟩ (bF ⟨QJ,Zf⟩ (bF ⟨Pe,XK⟩ bi bi) bi) (bF ⟨OQ,Xo⟩ (bF ⟨PF,Yb⟩ bi bi) bi))) (bF ⟨P8,YF⟩ (eC (bF ⟨QG,Zc⟩ (bF ⟨O8,XF⟩ bi bi) bi) (bF ⟨OL,Xj⟩ bi bi)) (eC (eC (bF ⟨Pm,XR⟩ bi bi) bi) (bF ⟨OZ,Xw⟩ (bF ⟨PN,Yj⟩ bi bi) bi))))) (eC (eC (eC (eC (bF ⟨Qy,Y4⟩ bi (bF ⟨PS,Yp⟩ bi bi)) (bF ⟨QW,Zs⟩ (bF ⟨Pr,XW⟩ bi bi) bi)) (bF ⟨Qi,YP⟩ (bF ⟨QH,Zd⟩ bi bi) (eC (bF ⟨PC,X7⟩ bi bi) bi))) (bF ⟨P7,YE⟩ (eC (bF ⟨QE,Za⟩ (bF ⟨O6,XD⟩ bi bi) (bF ⟨P0,Yx⟩ bi bi)) bi) (bF ⟨Qq,YX⟩ (bF ⟨acS,aki⟩ (bF ⟨Pl,XQ⟩ bi bi) bi) (bF ⟨OX,Xu⟩ (bF ⟨PL,Yh⟩ bi bi) bi)))) (eC (bF ⟨P3,YA⟩ (bF ⟨Qe,YL⟩ (bF ⟨QC,Y8⟩ (bF ⟨acM,akf⟩ bi bi) (bF ⟨PW,Yt⟩ bi bi)) (bF ⟨OI,Xg⟩ (bF ⟨Pv,X0⟩ bi bi) bi)) (bF ⟨Qm,YT⟩ (bF ⟨QL,Zh⟩ (bF ⟨Pg,XM⟩ bi bi) bi) (bF ⟨OT,Xq⟩ (bF ⟨PH,Yd⟩ bi bi) bi))) (bF ⟨Qa,YH⟩ (bF ⟨Qg,YN⟩ (eC (bF ⟨Pb,XH⟩ bi bi) bi) (bF ⟨OM,Xk⟩ (bF ⟨Py,X3⟩ bi bi) bi)) (bF ⟨Qu,Y0⟩ (bF ⟨QS,Zo⟩ (bF ⟨Po,XT⟩ bi bi) bi) (bF ⟨acL,ake⟩ (bF ⟨PP,Ym⟩ bi bi) bi)))))))
theorem aaH:AD Tryz.prog (fun f=>aaG.get f) :=amq amr
end Go.cl
