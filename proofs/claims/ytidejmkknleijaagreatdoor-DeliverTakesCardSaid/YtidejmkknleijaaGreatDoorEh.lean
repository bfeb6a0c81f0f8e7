/-
  The code of the functions, without types, as the canonical machine reads it (printed by program).
-/
import Derived.Test.YtidejmkknleijaaGreatDoorEg
import Derived.Test.YtidejmkknleijaaGreatDoorRows
import Derived.ProofKit
set_option linter.unusedVariables false
set_option linter.unusedSimpArgs false
set_option linter.unnecessarySimpa false
namespace Go.CM
open Go Go.Proofs
set_option maxRecDepth 100000
def c11 : Cd := (.seq (.reg [sm 0 2 (.box (tm 0)),
 sm 1 3 (.box (tm 1)),
 sm 2 4 (.mv (.const (.bool false))),
 sm 3 5 (.mv (.const (.int .i64 0)))])
 (.seq (.reg [sm 0 10 (.ldA 5 (tm 2)),
 sm 1 11 (.ldA 3 (tm 3)),
 sc 2 12 43 [(tm 10), (tm 11)],
 sv 3 9 12,
 sm 4 13 (.ext (tm 9) 0),
 sm 5 14 (.ext (tm 9) 1),
 sm 6 15 (.ext (tm 9) 2),
 sv 7 6 13,
 sv 8 7 14,
 sv 9 8 15])
 (.seq (.reg [sv 0 16 8,
 sm 1 17 (.bin .eql 32 (tm 16) (.const (.int .i64 0))),
 sv 2 18 17,
 sg 3 19 18 true (.mv (tm 7)),
 sg 4 20 18 true (.un .not (tm 19)),
 sm 5 21 (.pick (tm 18) (tm 20) (.const (.bool false))),
 sv 6 22 8,
 sv 7 4 21,
 sv 8 5 22])
 .ret)))
def r11 : List Mo := [.mv (tm 4), .mv (tm 5)]
theorem c11_eq : compF Tryz.prog 11 = some c11 := by kernel_rfl
theorem r11_eq : compRs Tryz.prog 11 = some r11 := by kernel_rfl
def c13 : Cd := (.seq (.reg [sm 0 2 (.box (tm 0)),
 sm 1 3 (.box (tm 1)),
 sm 2 4 (.mv (.const (.int .i64 0))),
 sm 3 5 (.mv (.const (.int .i64 0)))])
 (.seq (.reg [sm 0 10 (.ldA 5 (tm 2)),
 sm 1 11 (.ldA 3 (tm 3)),
 sc 2 12 43 [(tm 10), (tm 11)],
 sv 3 9 12,
 sm 4 13 (.ext (tm 9) 0),
 sm 5 14 (.ext (tm 9) 1),
 sm 6 15 (.ext (tm 9) 2),
 sv 7 6 13,
 sv 8 7 14,
 sv 9 8 15])
 (.seq (.seq (.reg [sv 0 16 8,
 sm 1 17 (.bin .eql 32 (tm 16) (.const (.int .i64 0))),
 sv 2 18 17,
 sg 3 19 18 true (.mv (tm 7)),
 sg 4 20 18 true (.un .not (tm 19)),
 sm 5 21 (.pick (tm 18) (tm 20) (.const (.bool false)))])
 (.cond (tm 21) (.reg [sm 0 8 (.mv (.const (.int .i64 6)))]) .skip))
 (.seq (.reg [sv 0 22 6,
 sv 1 23 8,
 sv 2 4 22,
 sv 3 5 23])
 .ret))))
def r13 : List Mo := [.mv (tm 4), .mv (tm 5)]
theorem c13_eq : compF Tryz.prog 13 = some c13 := by kernel_rfl
theorem r13_eq : compRs Tryz.prog 13 = some r13 := by kernel_rfl
def c15 : Cd := (.seq (.reg [sm 0 2 (.box (tm 0)),
 sm 1 3 (.box (tm 1)),
 sm 2 4 (.mv (.const (.slice none 0 0))),
 sm 3 5 (.mv (.const (.int .i64 0)))])
 (.seq (.seq (.reg [sm 0 7 (.ldA 5 (tm 2)),
 sm 1 8 (.ldA 3 (tm 3)),
 sc 2 9 46 [(tm 7), (tm 8)],
 sv 3 6 9])
 (.seq (.reg [sv 0 10 6,
 sm 1 11 (.bin .neq 32 (tm 10) (.const (.int .i64 0)))])
 (.cond (tm 11) (.seq (.reg [sv 0 12 6,
 sm 1 4 (.mv (.const (.slice none 0 0))),
 sv 2 5 12])
 .ret) .skip)))
 (.seq (.reg [sm 0 13 (.ldA 5 (tm 2)),
 sm 1 14 (.fa 0 (tm 3)),
 sm 2 15 (.ld1 (tm 14)),
 sm 3 16 (.fa 1 (tm 3)),
 sm 4 17 (.ld1 (tm 16)),
 sm 5 18 (.len (.sl 32) (tm 17)),
 sm 6 19 (.bin .add 3 (tm 15) (tm 18)),
 sc 7 20 32 [(tm 13), (tm 19)],
 sm 8 21 (.ext (tm 20) 0),
 sm 9 22 (.ext (tm 20) 1),
 sv 10 4 21,
 sv 11 5 22])
 .ret)))
def r15 : List Mo := [.mv (tm 4), .mv (tm 5)]
theorem c15_eq : compF Tryz.prog 15 = some c15 := by kernel_rfl
theorem r15_eq : compRs Tryz.prog 15 = some r15 := by kernel_rfl
def l17_0 : Cd := (.seq (.reg [sm 0 42 (.bin .lss 3 (tm 41) (tm 40))])
 (.seq (.cond (tm 42) .skip (.exit 0))
 (.seq (.block 1 (.seq (.reg [sv 0 43 41,
 sm 1 44 (.ia (.sl 32) (tm 39) (tm 41)),
 sm 2 45 (.ldA 32 (tm 44)),
 sm 3 12 (.alloc (rep 32 (.int .u8 0))),
 sv 4 11 43,
 se 5 (.st 32 (tm 12) (tm 45))])
 (.seq (.reg [sv 0 46 9,
 sm 1 47 (.ldA 32 (tm 12)),
 sc 2 48 48 [(tm 46), (tm 47)]])
 (.cond (tm 48) (.seq (.reg [sm 0 49 (.fa 0 (tm 10)),
 sm 1 50 (.ld1 (tm 49)),
 sm 2 51 (.ldA 32 (tm 12)),
 sm 3 52 (.bsl 32 (rep 32 (.int .u8 0)) 1 [(0, (tm 51))]),
 sm 4 53 (.app 32 32 (tm 50) (tm 52)),
 sm 5 54 (.fa 0 (tm 10)),
 se 6 (.st 1 (tm 54) (tm 53))])
 (.reg [sm 0 55 (.fa 1 (tm 10)),
 sm 1 56 (.ld1 (tm 55)),
 sm 2 57 (.fa 1 (tm 7)),
 sm 3 58 (.ld1 (tm 57)),
 sv 4 59 11,
 sm 5 60 (.ia (.sl 11) (tm 58) (tm 59)),
 sm 6 61 (.ldA 11 (tm 60)),
 sm 7 62 (.bsl 11 [.int .u32 0, .nilS, .int .u64 0, .int .u8 0, .str [], .int .u8 0, .int .i64 0, .int .u64 0, .str [], .int .u32 0, .int .u32 0] 1 [(0, (tm 61))]),
 sm 8 63 (.app 11 112 (tm 56) (tm 62)),
 sm 9 64 (.fa 1 (tm 10)),
 se 10 (.st 1 (tm 64) (tm 63))])) .skip))))
 (.reg [sm 0 65 (.bin .add 3 (tm 41) (.const (.int .i64 1))),
 sv 1 41 65]))))
def c17 : Cd := (.seq (.reg [sm 0 2 (.box (tm 0)),
 sm 1 3 (.box (tm 1)),
 sm 2 4 (.alloc [.nilS, .nilS]),
 sm 3 5 (.mv (.const (.int .i64 0)))])
 (.seq (.seq (.reg [sm 0 13 (.ldA 5 (tm 2)),
 sm 1 14 (.ldA 3 (tm 3)),
 sc 2 15 46 [(tm 13), (tm 14)],
 sv 3 6 15])
 (.seq (.reg [sv 0 16 6,
 sm 1 17 (.bin .neq 32 (tm 16) (.const (.int .i64 0)))])
 (.cond (tm 17) (.seq (.reg [sm 0 18 (.bld [.nilS, .nilS] []),
 sv 1 19 6,
 se 2 (.st 2 (tm 4) (tm 18)),
 sv 3 5 19])
 .ret) .skip)))
 (.seq (.reg [sm 0 21 (.ldA 5 (tm 2)),
 sc 1 22 37 [(tm 21)],
 sv 2 20 22,
 sm 3 23 (.ext (tm 20) 0),
 sm 4 24 (.ext (tm 20) 1),
 sm 5 7 (.alloc [.nilS, .nilS]),
 se 6 (.st 2 (tm 7) (tm 23)),
 sv 7 8 24])
 (.seq (.seq (.reg [sv 0 25 8,
 sm 1 26 (.bin .neq 32 (tm 25) (.const (.int .i64 0)))])
 (.cond (tm 26) (.seq (.reg [sm 0 27 (.bld [.nilS, .nilS] []),
 sv 1 28 8,
 se 2 (.st 2 (tm 4) (tm 27)),
 sv 3 5 28])
 .ret) .skip))
 (.seq (.reg [sm 0 29 (.fa 4 (tm 2)),
 sm 1 30 (.ld1 (tm 29)),
 sm 2 31 (.fa 0 (tm 3)),
 sm 3 32 (.ld1 (tm 31)),
 sm 4 33 (.fa 1 (tm 3)),
 sm 5 34 (.ld1 (tm 33)),
 sm 6 35 (.len (.sl 32) (tm 34)),
 sm 7 36 (.bin .add 3 (tm 32) (tm 35)),
 sm 8 37 (.slice (.sl 32) (tm 30) none (some (tm 36)) none),
 sv 9 9 37])
 (.seq (.reg [sm 0 10 (.alloc [.nilS, .nilS])])
 (.seq (.seq (.reg [sm 0 38 (.fa 0 (tm 7)),
 sm 1 39 (.ld1 (tm 38)),
 sm 2 40 (.len (.sl 32) (tm 39)),
 sm 3 41 (.mv (.const (.int .i64 0)))])
 (.block 0 (.loop l17_0)))
 (.seq (.reg [sm 0 66 (.ldA 2 (tm 10)),
 se 1 (.st 2 (tm 4) (tm 66)),
 sm 2 5 (.mv (.const (.int .i64 0)))])
 .ret))))))))
def r17 : List Mo := [.ldA 2 (tm 4), .mv (tm 5)]
theorem c17_eq : compF Tryz.prog 17 = some c17 := by kernel_rfl
theorem r17_eq : compRs Tryz.prog 17 = some r17 := by kernel_rfl
def c19 : Cd := (.seq (.reg [sm 0 1 (.box (tm 0)),
 sm 1 2 (.mv (.const (.int .i64 0)))])
 (.seq (.seq (.reg [sm 0 3 (.fa 0 (tm 1)),
 sm 1 4 (.ld1 (tm 3)),
 sm 2 5 (.bin .lss 3 (tm 4) (.const (.int .i64 0))),
 sv 3 6 5,
 sg 4 7 6 false (.fa 0 (tm 1)),
 sg 5 8 6 false (.ld1 (tm 7)),
 sg 6 9 6 false (.bin .gtr 3 (tm 8) (.const (.int .i64 60))),
 sm 7 10 (.pick (tm 6) (.const (.bool true)) (tm 9))])
 (.cond (tm 10) (.seq (.reg [sm 0 2 (.mv (.const (.int .i64 2)))])
 .ret) .skip))
 (.seq (.seq (.reg [sm 0 11 (.fa 1 (tm 1)),
 sm 1 12 (.ld1 (tm 11)),
 sm 2 13 (.len (.sl 32) (tm 12)),
 sm 3 14 (.bin .gtr 3 (tm 13) (.const (.int .i64 60)))])
 (.cond (tm 14) (.seq (.reg [sm 0 2 (.mv (.const (.int .i64 4)))])
 .ret) .skip))
 (.seq (.reg [sm 0 2 (.mv (.const (.int .i64 0)))])
 .ret))))
def r19 : List Mo := [.mv (tm 2)]
theorem c19_eq : compF Tryz.prog 19 = some c19 := by kernel_rfl
theorem r19_eq : compRs Tryz.prog 19 = some r19 := by kernel_rfl
def l21_0 : Cd := (.seq (.seq (.reg [sv 0 11 5,
 sv 1 12 0,
 sm 2 13 (.len (.sl 32) (tm 12)),
 sm 3 14 (.bin .lss 3 (tm 11) (tm 13))])
 (.cond (tm 14) .skip (.exit 0)))
 (.seq (.block 1 (.seq (.reg [sv 0 17 0,
 sv 1 18 5,
 sm 2 19 (.ia (.sl 32) (tm 17) (tm 18)),
 sm 3 20 (.ldA 32 (tm 19)),
 sv 4 21 1,
 sv 5 22 5,
 sm 6 23 (.ia (.sl 32) (tm 21) (tm 22)),
 sm 7 24 (.ldA 32 (tm 23)),
 sm 8 25 (.bin .neq 61 (tm 20) (tm 24))])
 (.cond (tm 25) (.seq (.reg [sm 0 4 (.mv (.const (.bool false)))])
 .ret) .skip)))
 (.reg [sv 0 15 5,
 sm 1 16 (.bin .add 3 (tm 15) (.const (.int .i64 1))),
 sv 2 5 16])))
def c21 : Cd := (.seq (.reg [sm 0 4 (.mv (.const (.bool false)))])
 (.seq (.seq (.reg [sv 0 6 0,
 sm 1 7 (.len (.sl 32) (tm 6)),
 sv 2 8 1,
 sm 3 9 (.len (.sl 32) (tm 8)),
 sm 4 10 (.bin .neq 3 (tm 7) (tm 9))])
 (.cond (tm 10) (.seq (.reg [sm 0 4 (.mv (.const (.bool false)))])
 .ret) .skip))
 (.seq (.seq (.reg [sm 0 5 (.mv (.const (.int .i64 0)))])
 (.block 0 (.loop l21_0)))
 (.seq (.reg [sm 0 4 (.mv (.const (.bool true)))])
 .ret))))
def r21 : List Mo := [.mv (tm 4)]
theorem c21_eq : compF Tryz.prog 21 = some c21 := by kernel_rfl
theorem r21_eq : compRs Tryz.prog 21 = some r21 := by kernel_rfl
def l24_0 : Cd := (.seq (.seq (.reg [sv 0 17 5,
 sm 1 18 (.bin .lss 86 (tm 17) (.const (.int .u64 3)))])
 (.cond (tm 18) .skip (.exit 0)))
 (.seq (.block 1 (.seq (.reg [sv 0 22 4,
 sv 1 23 5,
 sm 2 24 (.bld [.int .u8 0, .str [], .int .u8 0, .int .i64 0, .int .u64 0, .str []] [(0, 1, (.const (.int .u8 1)))]),
 sm 3 25 (.bld [.int .u32 0, .nilS, .int .u64 0, .int .u8 0, .str [], .int .u8 0, .int .i64 0, .int .u64 0, .str [], .int .u32 0, .int .u32 0] [(1, 1, (tm 22)), (2, 1, (tm 23)), (3, 6, (tm 24))]),
 sc 4 26 54 [(.const (.int .u32 1)), (tm 25)],
 sv 5 21 26,
 sm 6 27 (.ext (tm 21) 0),
 sm 7 28 (.ext (tm 21) 1),
 sm 8 6 (.alloc [.int .u32 0, .nilS, .int .u64 0, .int .u8 0, .str [], .int .u8 0, .int .i64 0, .int .u64 0, .str [], .int .u32 0, .int .u32 0]),
 se 9 (.st 11 (tm 6) (tm 27)),
 sv 10 7 28])
 (.seq (.reg [sm 0 30 (.ldA 11 (tm 6)),
 sc 1 31 55 [(tm 30)],
 sv 2 29 31,
 sm 3 32 (.ext (tm 29) 0),
 sm 4 33 (.ext (tm 29) 1),
 sm 5 8 (.alloc (rep 32 (.int .u8 0))),
 se 6 (.st 32 (tm 8) (tm 32)),
 sv 7 9 33])
 (.seq (.reg [sm 0 35 (.ldA 5 (tm 2)),
 sm 1 36 (.ldA 11 (tm 6)),
 sc 2 37 56 [(tm 35), (tm 36)],
 sv 3 34 37,
 sm 4 38 (.ext (tm 34) 0),
 sm 5 39 (.ext (tm 34) 1),
 sm 6 40 (.ext (tm 34) 2),
 sm 7 10 (.alloc [.int .i64 0, .nilS, .nilS, .int .i64 0, .nilS]),
 se 8 (.st 5 (tm 10) (tm 38)),
 sv 9 11 39,
 sv 10 12 40])
 (.seq (.seq (.reg [sv 0 41 3,
 sm 1 42 (.bin .neq 32 (tm 41) (.const (.int .i64 0))),
 sv 2 43 42,
 sg 3 44 43 false (.mv (tm 7)),
 sg 4 45 43 false (.bin .neq 32 (tm 44) (.const (.int .i64 0))),
 sm 5 46 (.pick (tm 43) (.const (.bool true)) (tm 45)),
 sv 6 47 46,
 sg 7 48 47 false (.mv (tm 9)),
 sg 8 49 47 false (.bin .neq 32 (tm 48) (.const (.int .i64 0))),
 sm 9 50 (.pick (tm 47) (.const (.bool true)) (tm 49)),
 sv 10 51 50,
 sg 11 52 51 false (.mv (tm 12)),
 sg 12 53 51 false (.bin .neq 32 (tm 52) (.const (.int .i64 0))),
 sm 13 54 (.pick (tm 51) (.const (.bool true)) (tm 53)),
 sv 14 55 54,
 sg 15 56 55 false (.mv (tm 11)),
 sg 16 57 55 false (.bin .neq 5 (tm 56) (.const (.int .u8 1))),
 sm 17 58 (.pick (tm 55) (.const (.bool true)) (tm 57))])
 (.cond (tm 58) (.seq (.reg [sm 0 59 (.bld [.int .i64 0, .nilS, .nilS, .int .i64 0, .nilS] []),
 se 1 (.st 5 (tm 0) (tm 59)),
 sm 2 1 (.mv (.const (.bool false)))])
 .ret) .skip))
 (.dreg [sm 0 60 (.ldA 5 (tm 10)),
 ⟨1, (some 61), none, .mo (.ldA 32 (tm 8)), [], true⟩,
 ⟨2, (some 62), none, .mo (.bsl 32 (rep 32 (.int .u8 0)) 1 [(0, (tm 61))]), [], true⟩,
 ⟨3, none, none, .mo (.st 5 (tm 2) (tm 60)), [2, 1], false⟩,
 sv 4 4 62]))))))
 (.reg [sv 0 19 5,
 sm 1 20 (.bin .add 86 (tm 19) (.const (.int .u64 1))),
 sv 2 5 20])))
def c24 : Cd := (.seq (.reg [sm 0 0 (.alloc [.int .i64 0, .nilS, .nilS, .int .i64 0, .nilS]),
 sm 1 1 (.mv (.const (.bool false)))])
 (.seq (.reg [sc 0 14 53 [(.const (.int .i64 5)), (.const (.int .i64 2))],
 sv 1 13 14,
 sm 2 15 (.ext (tm 13) 0),
 sm 3 16 (.ext (tm 13) 1),
 sm 4 2 (.alloc [.int .i64 0, .nilS, .nilS, .int .i64 0, .nilS]),
 se 5 (.st 5 (tm 2) (tm 15)),
 sv 6 3 16])
 (.seq (.reg [sm 0 4 (.mv (.const (.slice none 0 0)))])
 (.seq (.seq (.reg [sm 0 5 (.mv (.const (.int .u64 0)))])
 (.block 0 (.loop l24_0)))
 (.seq (.dreg [sm 0 63 (.ldA 5 (tm 2)),
 sm 1 64 (.fa 4 (tm 2)),
 ⟨2, (some 65), none, .mo (.ld1 (tm 64)), [], true⟩,
 sm 3 66 (.len (.sl 32) (tm 65)),
 sm 4 67 (.bin .eql 3 (tm 66) (.const (.int .i64 3))),
 ⟨5, none, none, .mo (.st 5 (tm 0) (tm 63)), [2], false⟩,
 sv 6 1 67])
 .ret)))))
def r24 : List Mo := [.ldA 5 (tm 0), .mv (tm 1)]
theorem c24_eq : compF Tryz.prog 24 = some c24 := by kernel_rfl
theorem r24_eq : compRs Tryz.prog 24 = some r24 := by kernel_rfl
def c25 : Cd := (.seq (.reg [sm 0 3 (.box (tm 0)),
 sm 1 4 (.box (tm 1)),
 sm 2 6 (.mv (.const (.bool false)))])
 (.seq (.reg [sm 0 16 (.ldA 5 (tm 3)),
 sm 1 17 (.ldA 3 (tm 4)),
 sc 2 18 11 [(tm 16), (tm 17)],
 sv 3 15 18,
 sm 4 19 (.ext (tm 15) 0),
 sm 5 20 (.ext (tm 15) 1),
 sv 6 7 19,
 sv 7 8 20])
 (.seq (.reg [sm 0 22 (.ldA 5 (tm 3)),
 sm 1 23 (.ldA 3 (tm 4)),
 sc 2 24 13 [(tm 22), (tm 23)],
 sv 3 21 24,
 sm 4 25 (.ext (tm 21) 0),
 sm 5 26 (.ext (tm 21) 1),
 sv 6 9 25,
 sv 7 10 26])
 (.seq (.reg [sm 0 28 (.ldA 5 (tm 3)),
 sm 1 29 (.ldA 3 (tm 4)),
 sc 2 30 15 [(tm 28), (tm 29)],
 sv 3 27 30,
 sm 4 31 (.ext (tm 27) 0),
 sm 5 32 (.ext (tm 27) 1),
 sv 6 11 31,
 sv 7 12 32])
 (.seq (.reg [sm 0 34 (.ldA 5 (tm 3)),
 sm 1 35 (.ldA 3 (tm 4)),
 sc 2 36 17 [(tm 34), (tm 35)],
 sv 3 33 36,
 sm 4 37 (.ext (tm 33) 0),
 sm 5 38 (.ext (tm 33) 1),
 sm 6 13 (.alloc [.nilS, .nilS]),
 se 7 (.st 2 (tm 13) (tm 37)),
 sv 8 14 38])
 (.seq (.reg [sv 0 39 8,
 sm 1 40 (.bin .eql 32 (tm 39) (.const (.int .i64 0))),
 sv 2 41 40,
 sg 3 42 41 true (.mv (tm 7)),
 sg 4 43 41 true (.un .not (tm 42)),
 sm 5 44 (.pick (tm 41) (tm 43) (.const (.bool false))),
 sv 6 45 44,
 sg 7 46 45 true (.mv (tm 10)),
 sg 8 47 45 true (.bin .eql 32 (tm 46) (.const (.int .i64 0))),
 sm 9 48 (.pick (tm 45) (tm 47) (.const (.bool false))),
 sv 10 49 48,
 sg 11 50 49 true (.mv (tm 9)),
 sg 12 51 49 true (.mv (tm 2)),
 sg 13 52 49 true (.bin .eql 3 (tm 50) (tm 51)),
 sm 14 53 (.pick (tm 49) (tm 52) (.const (.bool false))),
 sv 15 54 53,
 sg 16 55 54 true (.mv (tm 12)),
 sg 17 56 54 true (.bin .eql 32 (tm 55) (.const (.int .i64 22))),
 sm 18 57 (.pick (tm 54) (tm 56) (.const (.bool false))),
 sv 19 58 57,
 sg 20 59 58 true (.mv (tm 14)),
 sg 21 60 58 true (.bin .eql 32 (tm 59) (.const (.int .i64 22))),
 sm 22 61 (.pick (tm 58) (tm 60) (.const (.bool false))),
 sv 23 6 61])
 .ret))))))
def r25 : List Mo := [.mv (tm 6)]
theorem c25_eq : compF Tryz.prog 25 = some c25 := by kernel_rfl
theorem r25_eq : compRs Tryz.prog 25 = some r25 := by kernel_rfl
def c26 : Cd := (.seq (.reg [sm 0 2 (.box (tm 0)),
 sm 1 3 (.box (tm 1)),
 sm 2 4 (.mv (.const (.bool false)))])
 (.seq (.reg [sm 0 10 (.ldA 5 (tm 2)),
 sm 1 11 (.ldA 3 (tm 3)),
 sc 2 12 11 [(tm 10), (tm 11)],
 sv 3 9 12,
 sm 4 13 (.ext (tm 9) 0),
 sm 5 14 (.ext (tm 9) 1),
 sv 6 5 13,
 sv 7 6 14])
 (.seq (.reg [sm 0 16 (.ldA 5 (tm 2)),
 sm 1 17 (.ldA 3 (tm 3)),
 sc 2 18 13 [(tm 16), (tm 17)],
 sv 3 15 18,
 sm 4 19 (.ext (tm 15) 0),
 sm 5 20 (.ext (tm 15) 1),
 sv 6 7 19,
 sv 7 8 20])
 (.seq (.reg [sv 0 21 6,
 sm 1 22 (.bin .eql 32 (tm 21) (.const (.int .i64 0))),
 sv 2 23 22,
 sg 3 24 23 true (.mv (tm 5)),
 sm 4 25 (.pick (tm 23) (tm 24) (.const (.bool false))),
 sv 5 26 25,
 sg 6 27 26 true (.mv (tm 8)),
 sg 7 28 26 true (.bin .eql 32 (tm 27) (.const (.int .i64 6))),
 sm 8 29 (.pick (tm 26) (tm 28) (.const (.bool false))),
 sv 9 4 29])
 .ret))))
def r26 : List Mo := [.mv (tm 4)]
theorem c26_eq : compF Tryz.prog 26 = some c26 := by kernel_rfl
theorem r26_eq : compRs Tryz.prog 26 = some r26 := by kernel_rfl
def l27_0 : Cd := (.seq (.reg [sm 0 64 (.bin .lss 3 (tm 63) (tm 62))])
 (.seq (.cond (tm 64) .skip (.exit 0))
 (.seq (.block 1 (.seq (.reg [sm 0 65 (.ia (.sl 1) (tm 61) (tm 63)),
 sm 1 66 (.ld1 (tm 65)),
 sv 2 15 66])
 (.seq (.seq (.reg [sv 0 67 15,
 sm 1 68 (.un .not (tm 67))])
 (.cond (tm 68) (.seq (.seq (.reg [sv 0 69 2,
 sm 1 70 (.len (.sl 32) (tm 69)),
 sm 2 71 (.bin .gtr 3 (tm 70) (.const (.int .i64 0)))])
 (.cond (tm 71) (.seq (.seq (.reg [sm 0 73 (.ldA 3 (tm 10)),
 sv 1 74 2,
 sm 2 75 (.slice (.sl 32) (tm 74) none (some (.const (.int .i64 1))) none),
 sc 3 76 35 [(tm 73), (tm 75)],
 sv 4 72 76,
 sm 5 77 (.ext (tm 72) 0),
 sm 6 78 (.ext (tm 72) 1),
 se 7 (.st 3 (tm 10) (tm 77)),
 sv 8 11 78])
 (.seq (.reg [sv 0 79 11,
 sm 1 80 (.bin .neq 32 (tm 79) (.const (.int .i64 0)))])
 (.cond (tm 80) (.seq (.reg [sm 0 81 (.bld [.int .i64 0, .nilS, .bool false] []),
 sv 1 82 11,
 se 2 (.st 3 (tm 8) (tm 81)),
 sv 3 9 82])
 .ret) .skip)))
 (.reg [sv 0 83 2,
 sm 1 84 (.slice (.sl 32) (tm 83) (some (.const (.int .i64 1))) none none),
 sv 2 2 84])) .skip))
 (.exit 1)) .skip))
 (.seq (.reg [sm 0 86 (.ldA 3 (tm 10)),
 sv 1 87 12,
 sc 2 88 36 [(tm 86), (tm 87)],
 sv 3 85 88,
 sm 4 89 (.ext (tm 85) 0),
 sm 5 90 (.ext (tm 85) 1),
 sm 6 91 (.ext (tm 85) 2),
 sm 7 92 (.ext (tm 85) 3),
 sm 8 93 (.ext (tm 85) 4),
 sm 9 16 (.alloc [.int .i64 0, .int .i64 0, .nilS]),
 sm 10 19 (.alloc [.int .u8 0, .int .u8 0, .int .u8 0, .int .u8 0, .int .u8 0, .int .u8 0, .int .u8 0, .int .u8 0, .int .u8 0, .int .u8 0, .int .u8 0, .int .u8 0, .int .u8 0, .int .u8 0, .int .u8 0, .int .u8 0, .int .u8 0, .int .u8 0, .int .u8 0, .int .u8 0, .int .u8 0, .int .u8 0, .int .u8 0, .int .u8 0, .int .u8 0, .int .u8 0, .int .u8 0, .int .u8 0, .int .u8 0, .int .u8 0, .int .u8 0, .int .u8 0]),
 se 11 (.st 3 (tm 16) (tm 89)),
 sv 12 17 90,
 sv 13 18 91,
 se 14 (.st 32 (tm 19) (tm 92)),
 sv 15 20 93])
 (.seq (.seq (.reg [sv 0 94 20,
 sm 1 95 (.bin .eql 32 (tm 94) (.const (.int .i64 38))),
 sv 2 96 95,
 sg 3 97 96 false (.mv (tm 20)),
 sg 4 98 96 false (.bin .eql 32 (tm 97) (.const (.int .i64 34))),
 sm 5 99 (.pick (tm 96) (.const (.bool true)) (tm 98))])
 (.cond (tm 99) (.exit 1) .skip))
 (.seq (.seq (.reg [sv 0 100 20,
 sm 1 101 (.bin .neq 32 (tm 100) (.const (.int .i64 0)))])
 (.cond (tm 101) (.seq (.reg [sm 0 102 (.bld [.int .i64 0, .nilS, .bool false] []),
 sv 1 103 20,
 se 2 (.st 3 (tm 8) (tm 102)),
 sv 3 9 103])
 .ret) .skip))
 (.seq (.reg [sm 0 104 (.ldA 3 (tm 16)),
 se 1 (.st 3 (tm 10) (tm 104))])
 (.seq (.reg [sv 0 105 17,
 sm 1 106 (.bin .eql 5 (tm 105) (.const (.int .u8 2)))])
 (.cond (tm 106) (.reg [sm 0 107 (.fa 2 (tm 13)),
 se 1 (.st 1 (tm 107) (.const (.bool true)))]) (.reg [sm 0 108 (.fa 1 (tm 13)),
 sm 1 109 (.ld1 (tm 108)),
 sm 2 110 (.ldA 32 (tm 19)),
 sm 3 111 (.bsl 32 [.int .u8 0, .int .u8 0, .int .u8 0, .int .u8 0, .int .u8 0, .int .u8 0, .int .u8 0, .int .u8 0, .int .u8 0, .int .u8 0, .int .u8 0, .int .u8 0, .int .u8 0, .int .u8 0, .int .u8 0, .int .u8 0, .int .u8 0, .int .u8 0, .int .u8 0, .int .u8 0, .int .u8 0, .int .u8 0, .int .u8 0, .int .u8 0, .int .u8 0, .int .u8 0, .int .u8 0, .int .u8 0, .int .u8 0, .int .u8 0, .int .u8 0, .int .u8 0] 1 [(0, (tm 110))]),
 sm 4 112 (.app 32 32 (tm 109) (tm 111)),
 sm 5 113 (.fa 1 (tm 13)),
 se 6 (.st 1 (tm 113) (tm 112))]))))))))))
 (.reg [sm 0 114 (.bin .add 3 (tm 63) (.const (.int .i64 1))),
 sv 1 63 114]))))
def c27 : Cd := (.seq (.reg [sm 0 8 (.alloc [.int .i64 0, .nilS, .bool false]),
 sm 1 9 (.mv (.const (.int .i64 0)))])
 (.seq (.seq (.reg [sv 0 21 1,
 sm 1 22 (.bin .lss 3 (tm 21) (.const (.int .i64 0))),
 sv 2 23 22,
 sg 3 24 23 false (.mv (tm 1)),
 sg 4 25 23 false (.bin .gtr 3 (tm 24) (.const (.int .i64 60))),
 sm 5 26 (.pick (tm 23) (.const (.bool true)) (tm 25))])
 (.cond (tm 26) (.seq (.reg [sm 0 27 (.bld [.int .i64 0, .nilS, .bool false] []),
 se 1 (.st 3 (tm 8) (tm 27)),
 sm 2 9 (.mv (.const (.int .i64 2)))])
 .ret) .skip))
 (.seq (.reg [sv 0 29 0,
 sc 1 30 33 [(tm 29)],
 sv 2 28 30,
 sm 3 31 (.ext (tm 28) 0),
 sm 4 32 (.ext (tm 28) 1),
 sm 5 10 (.alloc [.int .i64 0, .int .i64 0, .nilS]),
 se 6 (.st 3 (tm 10) (tm 31)),
 sv 7 11 32])
 (.seq (.seq (.reg [sv 0 33 11,
 sm 1 34 (.bin .neq 32 (tm 33) (.const (.int .i64 0)))])
 (.cond (tm 34) (.seq (.reg [sm 0 35 (.bld [.int .i64 0, .nilS, .bool false] []),
 sv 1 36 11,
 se 2 (.st 3 (tm 8) (tm 35)),
 sv 3 9 36])
 .ret) .skip))
 (.seq (.seq (.reg [sv 0 37 2,
 sm 1 38 (.len (.sl 32) (tm 37)),
 sm 2 39 (.bin .gtr 3 (tm 38) (.const (.int .i64 60))),
 sv 3 40 39,
 sg 4 41 40 false (.mv (tm 3)),
 sg 5 42 40 false (.len (.sl 1) (tm 41)),
 sg 6 43 40 false (.bin .gtr 3 (tm 42) (.const (.int .i64 200))),
 sm 7 44 (.pick (tm 40) (.const (.bool true)) (tm 43))])
 (.cond (tm 44) (.seq (.reg [sm 0 45 (.bld [.int .i64 0, .nilS, .bool false] []),
 se 1 (.st 3 (tm 8) (tm 45)),
 sm 2 9 (.mv (.const (.int .i64 4)))])
 .ret) .skip))
 (.seq (.reg [sv 0 46 1,
 sm 1 47 (.fa 1 (tm 10)),
 se 2 (.st 1 (tm 47) (tm 46))])
 (.seq (.reg [sm 0 49 (.ldA 3 (tm 10)),
 sv 1 50 1,
 sc 2 51 34 [(tm 49), (tm 50)],
 sv 3 48 51,
 sm 4 52 (.ext (tm 48) 0),
 sm 5 53 (.ext (tm 48) 1),
 sm 6 54 (.ext (tm 48) 2),
 se 7 (.st 3 (tm 10) (tm 52)),
 sv 8 12 53,
 sv 9 11 54])
 (.seq (.seq (.reg [sv 0 55 11,
 sm 1 56 (.bin .neq 32 (tm 55) (.const (.int .i64 0)))])
 (.cond (tm 56) (.seq (.reg [sm 0 57 (.bld [.int .i64 0, .nilS, .bool false] []),
 sv 1 58 11,
 se 2 (.st 3 (tm 8) (tm 57)),
 sv 3 9 58])
 .ret) .skip))
 (.seq (.reg [sv 0 59 1,
 sm 1 60 (.bld [.int .i64 0, .nilS, .bool false] [(0, 1, (tm 59))]),
 sm 2 13 (.alloc [.int .i64 0, .nilS, .bool false]),
 se 3 (.st 3 (tm 13) (tm 60))])
 (.seq (.seq (.reg [sv 0 61 3,
 sm 1 62 (.len (.sl 1) (tm 61)),
 sm 2 63 (.mv (.const (.int .i64 0)))])
 (.block 0 (.loop l27_0)))
 (.seq (.reg [sm 0 115 (.ldA 3 (tm 13)),
 se 1 (.st 3 (tm 8) (tm 115)),
 sm 2 9 (.mv (.const (.int .i64 0)))])
 .ret)))))))))))
def r27 : List Mo := [.ldA 3 (tm 8), .mv (tm 9)]
theorem c27_eq : compF Tryz.prog 27 = some c27 := by kernel_rfl
theorem r27_eq : compRs Tryz.prog 27 = some r27 := by kernel_rfl
def c28 : Cd := (.seq (.reg [sm 0 2 (.box (tm 0)),
 sm 1 3 (.box (tm 1)),
 sm 2 4 (.mv (.const (.bool false)))])
 (.seq (.reg [sm 0 5 (.fa 0 (tm 2)),
 sm 1 6 (.ld1 (tm 5)),
 sm 2 7 (.fa 0 (tm 3)),
 sm 3 8 (.ld1 (tm 7)),
 sm 4 9 (.bin .eql 3 (tm 6) (tm 8)),
 sv 5 10 9,
 sg 6 11 10 true (.fa 2 (tm 2)),
 sg 7 12 10 true (.ld1 (tm 11)),
 sg 8 13 10 true (.fa 2 (tm 3)),
 sg 9 14 10 true (.ld1 (tm 13)),
 sg 10 15 10 true (.bin .eql 4 (tm 12) (tm 14)),
 sm 11 16 (.pick (tm 10) (tm 15) (.const (.bool false))),
 sv 12 17 16,
 sg 13 18 17 true (.fa 1 (tm 2)),
 sg 14 19 17 true (.ld1 (tm 18)),
 sg 15 20 17 true (.fa 1 (tm 3)),
 sg 16 21 17 true (.ld1 (tm 20)),
 ⟨17, (some 22), (some ((some 17), true)), .callF 21 [(tm 19), (tm 21)], [], false⟩,
 sm 18 23 (.pick (tm 17) (tm 22) (.const (.bool false))),
 sv 19 4 23])
 .ret))
def r28 : List Mo := [.mv (tm 4)]
theorem c28_eq : compF Tryz.prog 28 = some c28 := by kernel_rfl
theorem r28_eq : compRs Tryz.prog 28 = some r28 := by kernel_rfl
def c29 : Cd := (.seq (.reg [sm 0 0 (.mv (.const (.bool false)))])
 (.seq (.reg [sc 0 9 24 [],
 sv 1 8 9,
 sm 2 10 (.ext (tm 8) 0),
 sm 3 11 (.ext (tm 8) 1),
 sm 4 1 (.alloc [.int .i64 0, .nilS, .nilS, .int .i64 0, .nilS]),
 se 5 (.st 5 (tm 1) (tm 10)),
 sv 6 2 11])
 (.seq (.seq (.reg [sv 0 12 2,
 sm 1 13 (.un .not (tm 12))])
 (.cond (tm 13) (.seq (.reg [sm 0 0 (.mv (.const (.bool false)))])
 .ret) .skip))
 (.seq (.dreg [sm 0 14 (.fa 4 (tm 1)),
 sm 1 15 (.ld1 (tm 14)),
 sm 2 16 (.ia (.sl 32) (tm 15) (.const (.int .i64 0))),
 sm 3 17 (.ldA 32 (tm 16)),
 sm 4 18 (.fa 4 (tm 1)),
 ⟨5, (some 19), none, .mo (.ld1 (tm 18)), [], true⟩,
 sm 6 20 (.ia (.sl 32) (tm 19) (.const (.int .i64 1))),
 ⟨7, (some 21), none, .mo (.ldA 32 (tm 20)), [], true⟩,
 sm 8 22 (.fa 4 (tm 1)),
 ⟨9, (some 23), none, .mo (.ld1 (tm 22)), [], true⟩,
 sm 10 24 (.ia (.sl 32) (tm 23) (.const (.int .i64 2))),
 ⟨11, (some 25), none, .mo (.ldA 32 (tm 24)), [], true⟩,
 sm 12 3 (.alloc (rep 32 (.int .u8 0))),
 sm 13 4 (.alloc (rep 32 (.int .u8 0))),
 sm 14 5 (.alloc (rep 32 (.int .u8 0))),
 ⟨15, none, none, .mo (.st 32 (tm 3) (tm 17)), [11, 9, 7, 5], false⟩,
 ⟨16, none, none, .mo (.st 32 (tm 4) (tm 21)), [11, 9], false⟩,
 se 17 (.st 32 (tm 5) (tm 25))])
 (.seq (.reg [sm 0 27 (.ldA 32 (tm 3)),
 sm 1 28 (.ldA 32 (tm 4)),
 sm 2 29 (.ldA 32 (tm 5)),
 sm 3 30 (.bsl 32 (rep 32 (.int .u8 0)) 3 [(0, (tm 27)), (1, (tm 28)), (2, (tm 29))]),
 sm 4 31 (.bsl 1 [.bool false] 4 [(0, (.const (.bool false))), (1, (.const (.bool false))), (2, (.const (.bool true))), (3, (.const (.bool true)))]),
 sc 5 32 27 [(.const (.int .i64 1)), (.const (.int .i64 0)), (tm 30), (tm 31)],
 sv 6 26 32,
 sm 7 33 (.ext (tm 26) 0),
 sm 8 34 (.ext (tm 26) 1),
 sm 9 6 (.alloc [.int .i64 0, .nilS, .bool false]),
 se 10 (.st 3 (tm 6) (tm 33)),
 sv 11 7 34])
 (.seq (.reg [sm 0 35 (.ldA 5 (tm 1)),
 sm 1 36 (.ldA 32 (tm 4)),
 sm 2 37 (.bsl 32 (rep 32 (.int .u8 0)) 1 [(0, (tm 36))]),
 sm 3 38 (.bld [.int .i64 0, .nilS, .bool false] [(0, 1, (.const (.int .i64 1))), (1, 1, (tm 37))]),
 sc 4 39 26 [(tm 35), (tm 38)],
 sv 5 40 39,
 sg 6 41 40 true (.ldA 5 (tm 1)),
 sg 7 42 40 true (.ldA 32 (tm 4)),
 sg 8 43 40 true (.ldA 32 (tm 5)),
 sg 9 44 40 true (.bsl 32 (rep 32 (.int .u8 0)) 2 [(0, (tm 42)), (1, (tm 43))]),
 sg 10 45 40 true (.bld [.int .i64 0, .nilS, .bool false] [(0, 1, (.const (.int .i64 1))), (1, 1, (tm 44))]),
 ⟨11, (some 46), (some ((some 40), true)), .callF 26 [(tm 41), (tm 45)], [], false⟩,
 sm 12 47 (.pick (tm 40) (tm 46) (.const (.bool false))),
 sv 13 48 47,
 sg 14 49 48 true (.ldA 5 (tm 1)),
 sg 15 50 48 true (.bld [.int .i64 0, .nilS, .bool false] [(0, 1, (.const (.int .i64 3)))]),
 ⟨16, (some 51), (some ((some 48), true)), .callF 26 [(tm 49), (tm 50)], [], false⟩,
 sm 17 52 (.pick (tm 48) (tm 51) (.const (.bool false))),
 sv 18 53 52,
 sg 19 54 53 true (.ldA 5 (tm 1)),
 sg 20 55 53 true (.ldA 32 (tm 5)),
 sg 21 56 53 true (.bsl 32 (rep 32 (.int .u8 0)) 1 [(0, (tm 55))]),
 sg 22 57 53 true (.bld [.int .i64 0, .nilS, .bool false] [(0, 1, (.const (.int .i64 1))), (1, 1, (tm 56))]),
 ⟨23, (some 58), (some ((some 53), true)), .callF 25 [(tm 54), (tm 57), (.const (.int .i64 0))], [], false⟩,
 sm 24 59 (.pick (tm 53) (tm 58) (.const (.bool false))),
 sv 25 60 59,
 sg 26 61 60 true (.ldA 5 (tm 1)),
 sg 27 62 60 true (.ldA 32 (tm 5)),
 sg 28 63 60 true (.bsl 32 (rep 32 (.int .u8 0)) 1 [(0, (tm 62))]),
 sg 29 64 60 true (.bld [.int .i64 0, .nilS, .bool false] [(0, 1, (.const (.int .i64 2))), (1, 1, (tm 63)), (2, 1, (.const (.bool true)))]),
 ⟨30, (some 65), (some ((some 60), true)), .callF 25 [(tm 61), (tm 64), (.const (.int .i64 1))], [], false⟩,
 sm 31 66 (.pick (tm 60) (tm 65) (.const (.bool false))),
 sv 32 67 66,
 sg 33 68 67 true (.mv (tm 7)),
 sg 34 69 67 true (.bin .eql 32 (tm 68) (.const (.int .i64 0))),
 sm 35 70 (.pick (tm 67) (tm 69) (.const (.bool false))),
 sv 36 71 70,
 sg 37 72 71 true (.ldA 3 (tm 6)),
 sg 38 73 71 true (.ldA 32 (tm 3)),
 sg 39 74 71 true (.bsl 32 (rep 32 (.int .u8 0)) 1 [(0, (tm 73))]),
 sg 40 75 71 true (.bld [.int .i64 0, .nilS, .bool false] [(1, 1, (tm 74)), (2, 1, (.const (.bool true)))]),
 ⟨41, (some 76), (some ((some 71), true)), .callF 28 [(tm 72), (tm 75)], [], false⟩,
 sm 42 77 (.pick (tm 71) (tm 76) (.const (.bool false))),
 sv 43 0 77])
 .ret))))))
def r29 : List Mo := [.mv (tm 0)]
theorem c29_eq : compF Tryz.prog 29 = some c29 := by kernel_rfl
theorem r29_eq : compRs Tryz.prog 29 = some r29 := by kernel_rfl
def c33 : Cd := (.seq (.reg [sm 0 2 (.alloc [.int .i64 0, .int .i64 0, .nilS]),
 sm 1 3 (.mv (.const (.int .i64 0)))])
 (.seq (.seq (.reg [sv 0 4 0,
 sm 1 5 (.bin .lss 3 (tm 4) (.const (.int .i64 1))),
 sv 2 6 5,
 sg 3 7 6 false (.mv (tm 0)),
 sg 4 8 6 false (.bin .gtr 3 (tm 7) (.const (.int .i64 8))),
 sm 5 9 (.pick (tm 6) (.const (.bool true)) (tm 8))])
 (.cond (tm 9) (.seq (.reg [sm 0 10 (.bld [.int .i64 0, .int .i64 0, .nilS] []),
 se 1 (.st 3 (tm 2) (tm 10)),
 sm 2 3 (.mv (.const (.int .i64 2)))])
 .ret) .skip))
 (.seq (.reg [sv 0 11 0,
 sm 1 12 (.bld [.int .i64 0, .int .i64 0, .nilS] [(0, 1, (tm 11))]),
 se 2 (.st 3 (tm 2) (tm 12)),
 sm 3 3 (.mv (.const (.int .i64 0)))])
 .ret)))
def r33 : List Mo := [.ldA 3 (tm 2), .mv (tm 3)]
theorem c33_eq : compF Tryz.prog 33 = some c33 := by kernel_rfl
theorem r33_eq : compRs Tryz.prog 33 = some r33 := by kernel_rfl
def c34 : Cd := (.seq (.reg [sm 0 2 (.box (tm 0)),
 sm 1 4 (.alloc [.int .i64 0, .int .i64 0, .nilS]),
 sm 2 5 (.mv (.const (.int .i64 0))),
 sm 3 6 (.mv (.const (.int .i64 0)))])
 (.seq (.seq (.reg [sm 0 9 (.ldA 3 (tm 2)),
 sc 1 10 62 [(tm 9)],
 sv 2 7 10])
 (.seq (.reg [sv 0 11 7,
 sm 1 12 (.bin .neq 32 (tm 11) (.const (.int .i64 0)))])
 (.cond (tm 12) (.seq (.reg [sm 0 13 (.bld [.int .i64 0, .int .i64 0, .nilS] []),
 sv 1 14 7,
 se 2 (.st 3 (tm 4) (tm 13)),
 sm 3 5 (.mv (.const (.int .i64 0))),
 sv 4 6 14])
 .ret) .skip)))
 (.seq (.seq (.reg [sv 0 15 1,
 sm 1 16 (.fa 1 (tm 2)),
 sm 2 17 (.ld1 (tm 16)),
 sm 3 18 (.bin .lss 3 (tm 15) (tm 17)),
 sv 4 19 18,
 sg 5 20 19 false (.mv (tm 1)),
 sg 6 21 19 false (.bin .gtr 3 (tm 20) (.const (.int .i64 1000000000))),
 sm 7 22 (.pick (tm 19) (.const (.bool true)) (tm 21))])
 (.cond (tm 22) (.seq (.reg [sm 0 23 (.bld [.int .i64 0, .int .i64 0, .nilS] []),
 se 1 (.st 3 (tm 4) (tm 23)),
 sm 2 5 (.mv (.const (.int .i64 0))),
 sm 3 6 (.mv (.const (.int .i64 2)))])
 .ret) .skip))
 (.seq (.seq (.reg [sm 0 24 (.fa 2 (tm 2)),
 sm 1 25 (.ld1 (tm 24)),
 sm 2 26 (.len (.sl 4) (tm 25)),
 sm 3 27 (.bin .eql 3 (tm 26) (.const (.int .i64 60))),
 sv 4 28 27,
 sg 5 29 28 false (.ldA 3 (tm 2)),
 ⟨6, (some 30), (some ((some 28), false)), .callF 63 [(tm 29)], [], false⟩,
 sg 7 31 28 false (.bin .eql 3 (tm 30) (.const (.int .i64 4))),
 sm 8 32 (.pick (tm 28) (.const (.bool true)) (tm 31))])
 (.cond (tm 32) (.seq (.reg [sm 0 33 (.bld [.int .i64 0, .int .i64 0, .nilS] []),
 se 1 (.st 3 (tm 4) (tm 33)),
 sm 2 5 (.mv (.const (.int .i64 0))),
 sm 3 6 (.mv (.const (.int .i64 18)))])
 .ret) .skip))
 (.seq (.reg [sm 0 34 (.ldA 3 (tm 2)),
 sc 1 35 64 [(tm 34)],
 sm 2 8 (.alloc [.int .i64 0, .int .i64 0, .nilS]),
 se 3 (.st 3 (tm 8) (tm 35))])
 (.seq (.reg [sm 0 36 (.fa 2 (tm 8)),
 sm 1 37 (.ld1 (tm 36)),
 sv 2 38 1,
 sm 3 39 (.bld [.int .i64 0, .nilS, .bool false, .bool false] [(0, 1, (tm 38))]),
 sm 4 40 (.bsl 4 [.int .i64 0, .nilS, .bool false, .bool false] 1 [(0, (tm 39))]),
 sm 5 41 (.app 4 40 (tm 37) (tm 40)),
 sm 6 42 (.fa 2 (tm 8)),
 se 7 (.st 1 (tm 42) (tm 41))])
 (.seq (.dreg [sm 0 43 (.ldA 3 (tm 8)),
 sm 1 44 (.fa 2 (tm 2)),
 ⟨2, (some 45), none, .mo (.ld1 (tm 44)), [], true⟩,
 sm 3 46 (.len (.sl 4) (tm 45)),
 ⟨4, none, none, .mo (.st 3 (tm 4) (tm 43)), [2], false⟩,
 sv 5 5 46,
 sm 6 6 (.mv (.const (.int .i64 0)))])
 .ret)))))))
def r34 : List Mo := [.ldA 3 (tm 4), .mv (tm 5), .mv (tm 6)]
theorem c34_eq : compF Tryz.prog 34 = some c34 := by kernel_rfl
theorem r34_eq : compRs Tryz.prog 34 = some r34 := by kernel_rfl
def l35_0 : Cd := (.seq (.reg [sm 0 42 (.bin .lss 3 (tm 41) (tm 40))])
 (.seq (.cond (tm 42) .skip (.exit 2))
 (.seq (.block 3 (.seq (.reg [sv 0 43 41,
 sv 1 10 43])
 (.seq (.reg [sm 0 44 (.fa 2 (tm 7)),
 sm 1 45 (.ld1 (tm 44)),
 sv 2 46 10,
 sm 3 47 (.ia (.sl 4) (tm 45) (tm 46)),
 sv 4 11 47])
 (.block 4 (.seq (.reg [sv 0 59 11,
 sm 1 60 (.nilc (tm 59)),
 sm 2 61 (.fa 3 (tm 60)),
 sm 3 62 (.ld1 (tm 61)),
 sv 4 63 62,
 sg 5 64 63 false (.mv (tm 11)),
 sg 6 65 63 false (.nilc (tm 64)),
 sg 7 66 63 false (.fa 2 (tm 65)),
 sg 8 67 63 false (.ld1 (tm 66)),
 sm 9 68 (.pick (tm 63) (.const (.bool true)) (tm 67)),
 sv 10 69 68,
 sg 11 70 69 false (.mv (tm 11)),
 sg 12 71 69 false (.nilc (tm 70)),
 sg 13 72 69 false (.fa 0 (tm 71)),
 sg 14 73 69 false (.ld1 (tm 72)),
 sg 15 74 69 false (.fa 1 (tm 7)),
 sg 16 75 69 false (.ld1 (tm 74)),
 sg 17 76 69 false (.bin .gtr 3 (tm 73) (tm 75)),
 sm 18 77 (.pick (tm 69) (.const (.bool true)) (tm 76)),
 sv 19 58 77])
 (.cond (tm 58) (.exit 3) (.seq (.reg [sv 0 79 11,
 sm 1 80 (.nilc (tm 79)),
 sm 2 81 (.fa 1 (tm 80)),
 sm 3 82 (.ld1 (tm 81)),
 sm 4 83 (.len (.sl 32) (tm 82)),
 sm 5 84 (.fa 0 (tm 7)),
 sm 6 85 (.ld1 (tm 84)),
 sm 7 86 (.bin .eql 3 (tm 83) (tm 85)),
 sv 8 78 86])
 (.cond (tm 78) (.reg [sv 0 87 11,
 sm 1 88 (.nilc (tm 87)),
 sm 2 89 (.fa 2 (tm 88)),
 se 3 (.st 1 (tm 89) (.const (.bool true)))]) (.reg [sv 0 48 11,
 sv 1 49 11,
 sm 2 50 (.nilc (tm 49)),
 sm 3 51 (.fa 1 (tm 50)),
 sm 4 52 (.ld1 (tm 51)),
 sm 5 53 (.ldA 32 (tm 9)),
 sm 6 54 (.bsl 32 [.int .u8 0, .int .u8 0, .int .u8 0, .int .u8 0, .int .u8 0, .int .u8 0, .int .u8 0, .int .u8 0, .int .u8 0, .int .u8 0, .int .u8 0, .int .u8 0, .int .u8 0, .int .u8 0, .int .u8 0, .int .u8 0, .int .u8 0, .int .u8 0, .int .u8 0, .int .u8 0, .int .u8 0, .int .u8 0, .int .u8 0, .int .u8 0, .int .u8 0, .int .u8 0, .int .u8 0, .int .u8 0, .int .u8 0, .int .u8 0, .int .u8 0, .int .u8 0] 1 [(0, (tm 53))]),
 sm 7 55 (.app 32 32 (tm 52) (tm 54)),
 sm 8 56 (.nilc (tm 48)),
 sm 9 57 (.fa 1 (tm 56)),
 se 10 (.st 1 (tm 57) (tm 55))])))))))))
 (.reg [sm 0 90 (.bin .add 3 (tm 41) (.const (.int .i64 1))),
 sv 1 41 90]))))
def l35_1 : Cd := (.seq (.reg [sm 0 35 (.bin .lss 3 (tm 34) (tm 33))])
 (.seq (.cond (tm 35) .skip (.exit 0))
 (.seq (.block 1 (.seq (.reg [sm 0 36 (.ia (.sl 32) (tm 32) (tm 34)),
 sm 1 37 (.ldA 32 (tm 36)),
 sm 2 9 (.alloc [.int .u8 0, .int .u8 0, .int .u8 0, .int .u8 0, .int .u8 0, .int .u8 0, .int .u8 0, .int .u8 0, .int .u8 0, .int .u8 0, .int .u8 0, .int .u8 0, .int .u8 0, .int .u8 0, .int .u8 0, .int .u8 0, .int .u8 0, .int .u8 0, .int .u8 0, .int .u8 0, .int .u8 0, .int .u8 0, .int .u8 0, .int .u8 0, .int .u8 0, .int .u8 0, .int .u8 0, .int .u8 0, .int .u8 0, .int .u8 0, .int .u8 0, .int .u8 0]),
 se 3 (.st 32 (tm 9) (tm 37))])
 (.seq (.seq (.reg [sm 0 38 (.fa 2 (tm 7)),
 sm 1 39 (.ld1 (tm 38)),
 sm 2 40 (.len (.sl 4) (tm 39)),
 sm 3 41 (.mv (.const (.int .i64 0)))])
 (.block 2 (.loop l35_0)))
 (.reg [sm 0 91 (.fa 1 (tm 7)),
 sm 1 92 (.ld1 (tm 91)),
 sm 2 93 (.bin .add 3 (tm 92) (.const (.int .i64 1))),
 sm 3 94 (.fa 1 (tm 7)),
 se 4 (.st 1 (tm 94) (tm 93))]))))
 (.reg [sm 0 95 (.bin .add 3 (tm 34) (.const (.int .i64 1))),
 sv 1 34 95]))))
def c35 : Cd := (.seq (.reg [sm 0 2 (.box (tm 0)),
 sm 1 4 (.alloc [.int .i64 0, .int .i64 0, .nilS]),
 sm 2 5 (.mv (.const (.int .i64 0)))])
 (.seq (.seq (.reg [sm 0 12 (.ldA 3 (tm 2)),
 sc 1 13 62 [(tm 12)],
 sv 2 6 13])
 (.seq (.reg [sv 0 14 6,
 sm 1 15 (.bin .neq 32 (tm 14) (.const (.int .i64 0)))])
 (.cond (tm 15) (.seq (.reg [sm 0 16 (.bld [.int .i64 0, .int .i64 0, .nilS] []),
 sv 1 17 6,
 se 2 (.st 3 (tm 4) (tm 16)),
 sv 3 5 17])
 .ret) .skip)))
 (.seq (.seq (.reg [sv 0 18 1,
 sm 1 19 (.len (.sl 32) (tm 18)),
 sm 2 20 (.bin .gtr 3 (tm 19) (.const (.int .i64 60))),
 sv 3 21 20,
 sg 4 22 21 false (.fa 1 (tm 2)),
 sg 5 23 21 false (.ld1 (tm 22)),
 sg 6 24 21 false (.mv (tm 1)),
 sg 7 25 21 false (.len (.sl 32) (tm 24)),
 sg 8 26 21 false (.bin .sub 3 (.const (.int .i64 1000000000)) (tm 25)),
 sg 9 27 21 false (.bin .gtr 3 (tm 23) (tm 26)),
 sm 10 28 (.pick (tm 21) (.const (.bool true)) (tm 27))])
 (.cond (tm 28) (.seq (.reg [sm 0 29 (.bld [.int .i64 0, .int .i64 0, .nilS] []),
 se 1 (.st 3 (tm 4) (tm 29)),
 sm 2 5 (.mv (.const (.int .i64 4)))])
 .ret) .skip))
 (.seq (.reg [sm 0 30 (.ldA 3 (tm 2)),
 sc 1 31 64 [(tm 30)],
 sm 2 7 (.alloc [.int .i64 0, .int .i64 0, .nilS]),
 se 3 (.st 3 (tm 7) (tm 31))])
 (.seq (.seq (.reg [sv 0 32 1,
 sm 1 33 (.len (.sl 32) (tm 32)),
 sm 2 34 (.mv (.const (.int .i64 0)))])
 (.block 0 (.loop l35_1)))
 (.seq (.reg [sm 0 96 (.ldA 3 (tm 7)),
 se 1 (.st 3 (tm 4) (tm 96)),
 sm 2 5 (.mv (.const (.int .i64 0)))])
 .ret))))))
def r35 : List Mo := [.ldA 3 (tm 4), .mv (tm 5)]
theorem c35_eq : compF Tryz.prog 35 = some c35 := by kernel_rfl
theorem r35_eq : compRs Tryz.prog 35 = some r35 := by kernel_rfl
def c36 : Cd := (.seq (.reg [sm 0 2 (.box (tm 0)),
 sm 1 4 (.alloc [.int .i64 0, .int .i64 0, .nilS]),
 sm 2 5 (.mv (.const (.int .u8 0))),
 sm 3 6 (.mv (.const (.int .i64 0))),
 sm 4 7 (.alloc [.int .u8 0, .int .u8 0, .int .u8 0, .int .u8 0, .int .u8 0, .int .u8 0, .int .u8 0, .int .u8 0, .int .u8 0, .int .u8 0, .int .u8 0, .int .u8 0, .int .u8 0, .int .u8 0, .int .u8 0, .int .u8 0, .int .u8 0, .int .u8 0, .int .u8 0, .int .u8 0, .int .u8 0, .int .u8 0, .int .u8 0, .int .u8 0, .int .u8 0, .int .u8 0, .int .u8 0, .int .u8 0, .int .u8 0, .int .u8 0, .int .u8 0, .int .u8 0]),
 sm 5 8 (.mv (.const (.int .i64 0)))])
 (.seq (.seq (.reg [sm 0 11 (.ldA 3 (tm 2)),
 sv 1 12 1,
 sc 2 13 65 [(tm 11), (tm 12)],
 sv 3 9 13])
 (.seq (.reg [sv 0 14 9,
 sm 1 15 (.bin .neq 32 (tm 14) (.const (.int .i64 0)))])
 (.cond (tm 15) (.seq (.reg [sm 0 16 (.bld [.int .i64 0, .int .i64 0, .nilS] []),
 sm 1 17 (.bld [.int .u8 0, .int .u8 0, .int .u8 0, .int .u8 0, .int .u8 0, .int .u8 0, .int .u8 0, .int .u8 0, .int .u8 0, .int .u8 0, .int .u8 0, .int .u8 0, .int .u8 0, .int .u8 0, .int .u8 0, .int .u8 0, .int .u8 0, .int .u8 0, .int .u8 0, .int .u8 0, .int .u8 0, .int .u8 0, .int .u8 0, .int .u8 0, .int .u8 0, .int .u8 0, .int .u8 0, .int .u8 0, .int .u8 0, .int .u8 0, .int .u8 0, .int .u8 0] []),
 sv 2 18 9,
 se 3 (.st 3 (tm 4) (tm 16)),
 sm 4 5 (.mv (.const (.int .u8 0))),
 sm 5 6 (.mv (.const (.int .i64 0))),
 se 6 (.st 32 (tm 7) (tm 17)),
 sv 7 8 18])
 .ret) .skip)))
 (.seq (.reg [sm 0 19 (.ldA 3 (tm 2)),
 sc 1 20 64 [(tm 19)],
 se 2 (.st 3 (tm 4) (tm 20))])
 (.seq (.reg [sm 0 21 (.fa 2 (tm 4)),
 sm 1 22 (.ld1 (tm 21)),
 sv 2 23 1,
 sm 3 24 (.ia (.sl 4) (tm 22) (tm 23)),
 sv 4 10 24])
 (.seq (.reg [sv 0 25 10,
 sm 1 26 (.nilc (tm 25)),
 sm 2 27 (.fa 0 (tm 26)),
 sm 3 28 (.ld1 (tm 27)),
 sv 4 6 28])
 (.seq (.block 0 (.seq (.reg [sv 0 30 10,
 sm 1 31 (.nilc (tm 30)),
 sm 2 32 (.fa 1 (tm 31)),
 sm 3 33 (.ld1 (tm 32)),
 sm 4 34 (.len (.sl 32) (tm 33)),
 sm 5 35 (.bin .gtr 3 (tm 34) (.const (.int .i64 0))),
 sv 6 29 35])
 (.cond (tm 29) (.seq (.reg [sv 0 36 10,
 sm 1 37 (.nilc (tm 36)),
 sm 2 38 (.fa 1 (tm 37)),
 sm 3 39 (.ld1 (tm 38)),
 sm 4 40 (.ia (.sl 32) (tm 39) (.const (.int .i64 0))),
 sm 5 41 (.ldA 32 (tm 40)),
 se 6 (.st 32 (tm 7) (tm 41))])
 (.seq (.reg [sv 0 42 10,
 sv 1 43 10,
 sm 2 44 (.nilc (tm 43)),
 sm 3 45 (.fa 1 (tm 44)),
 sm 4 46 (.ld1 (tm 45)),
 sm 5 47 (.slice (.sl 32) (tm 46) (some (.const (.int .i64 1))) none none),
 sm 6 48 (.nilc (tm 42)),
 sm 7 49 (.fa 1 (tm 48)),
 se 8 (.st 1 (tm 49) (tm 47))])
 (.seq (.reg [sv 0 50 10,
 sm 1 51 (.nilc (tm 50)),
 sm 2 52 (.fa 0 (tm 51)),
 sm 3 53 (.ld1 (tm 52)),
 sm 4 54 (.bin .add 3 (tm 53) (.const (.int .i64 1))),
 sm 5 55 (.nilc (tm 50)),
 sm 6 56 (.fa 0 (tm 55)),
 se 7 (.st 1 (tm 56) (tm 54))])
 (.seq (.dreg [sm 0 57 (.ldA 3 (tm 4)),
 sv 1 58 6,
 ⟨2, (some 59), none, .mo (.ldA 32 (tm 7)), [], true⟩,
 ⟨3, none, none, .mo (.st 3 (tm 4) (tm 57)), [2], false⟩,
 sm 4 5 (.mv (.const (.int .u8 1))),
 sv 5 6 58,
 se 6 (.st 32 (tm 7) (tm 59)),
 sm 7 8 (.mv (.const (.int .i64 0)))])
 .ret)))) (.seq (.reg [sv 0 61 10,
 sm 1 62 (.nilc (tm 61)),
 sm 2 63 (.fa 2 (tm 62)),
 sm 3 64 (.ld1 (tm 63)),
 sv 4 60 64])
 (.cond (tm 60) (.seq (.reg [sv 0 65 10,
 sv 1 66 10,
 sm 2 67 (.nilc (tm 65)),
 sm 3 68 (.fa 2 (tm 67)),
 se 4 (.st 1 (tm 68) (.const (.bool false))),
 sm 5 69 (.nilc (tm 66)),
 sm 6 70 (.fa 3 (tm 69)),
 se 7 (.st 1 (tm 70) (.const (.bool true)))])
 (.seq (.dreg [sm 0 71 (.ldA 3 (tm 4)),
 sv 1 72 6,
 ⟨2, (some 73), none, .mo (.ldA 32 (tm 7)), [], true⟩,
 ⟨3, none, none, .mo (.st 3 (tm 4) (tm 71)), [2], false⟩,
 sm 4 5 (.mv (.const (.int .u8 2))),
 sv 5 6 72,
 se 6 (.st 32 (tm 7) (tm 73)),
 sm 7 8 (.mv (.const (.int .i64 0)))])
 .ret)) .skip)))))
 (.seq (.reg [sm 0 74 (.bld [.int .i64 0, .int .i64 0, .nilS] []),
 sm 1 75 (.bld [.int .u8 0, .int .u8 0, .int .u8 0, .int .u8 0, .int .u8 0, .int .u8 0, .int .u8 0, .int .u8 0, .int .u8 0, .int .u8 0, .int .u8 0, .int .u8 0, .int .u8 0, .int .u8 0, .int .u8 0, .int .u8 0, .int .u8 0, .int .u8 0, .int .u8 0, .int .u8 0, .int .u8 0, .int .u8 0, .int .u8 0, .int .u8 0, .int .u8 0, .int .u8 0, .int .u8 0, .int .u8 0, .int .u8 0, .int .u8 0, .int .u8 0, .int .u8 0] []),
 se 2 (.st 3 (tm 4) (tm 74)),
 sm 3 5 (.mv (.const (.int .u8 0))),
 sm 4 6 (.mv (.const (.int .i64 0))),
 se 5 (.st 32 (tm 7) (tm 75)),
 sm 6 8 (.mv (.const (.int .i64 38)))])
 .ret)))))))
def r36 : List Mo := [.ldA 3 (tm 4), .mv (tm 5), .mv (tm 6), .ldA 32 (tm 7), .mv (tm 8)]
theorem c36_eq : compF Tryz.prog 36 = some c36 := by kernel_rfl
theorem r36_eq : compRs Tryz.prog 36 = some r36 := by kernel_rfl
def l38_0 : Cd := (.seq (.reg [sm 0 22 (.bin .lss 3 (tm 21) (tm 20))])
 (.seq (.cond (tm 22) .skip (.exit 0))
 (.seq (.block 1 (.seq (.reg [sv 0 23 21,
 sm 1 24 (.ia (.sl 11) (tm 19) (tm 21)),
 sm 2 25 (.ldA 11 (tm 24)),
 sm 3 4 (.alloc [.int .u32 0, .nilS, .int .u64 0, .int .u8 0, .str [], .int .u8 0, .int .i64 0, .int .u64 0, .str [], .int .u32 0, .int .u32 0]),
 sv 4 3 23,
 se 5 (.st 11 (tm 4) (tm 25))])
 (.seq (.reg [sm 0 27 (.ldA 11 (tm 4)),
 sc 1 28 55 [(tm 27)],
 sv 2 26 28,
 sm 3 29 (.ext (tm 26) 0),
 sm 4 30 (.ext (tm 26) 1),
 sm 5 5 (.alloc (rep 32 (.int .u8 0))),
 se 6 (.st 32 (tm 5) (tm 29)),
 sv 7 6 30])
 (.seq (.reg [sv 0 31 6,
 sm 1 32 (.bin .neq 32 (tm 31) (.const (.int .i64 0))),
 sv 2 33 32,
 sg 3 34 33 false (.ldA 32 (tm 5)),
 sg 4 35 33 false (.fa 0 (tm 1)),
 sg 5 36 33 false (.ld1 (tm 35)),
 sg 6 37 33 false (.mv (tm 3)),
 sg 7 38 33 false (.ia (.sl 32) (tm 36) (tm 37)),
 sg 8 39 33 false (.ldA 32 (tm 38)),
 sg 9 40 33 false (.bin .neq 61 (tm 34) (tm 39)),
 sm 10 41 (.pick (tm 33) (.const (.bool true)) (tm 40)),
 sv 11 42 41,
 sg 12 43 42 false (.ldA 11 (tm 4)),
 ⟨13, (some 44), (some ((some 42), false)), .callF 67 [(tm 43)], [], false⟩,
 sg 14 45 42 false (.bin .neq 32 (tm 44) (.const (.int .i64 0))),
 sm 15 46 (.pick (tm 42) (.const (.bool true)) (tm 45))])
 (.cond (tm 46) (.seq (.reg [sm 0 2 (.mv (.const (.int .i64 8)))])
 .ret) .skip)))))
 (.reg [sm 0 47 (.bin .add 3 (tm 21) (.const (.int .i64 1))),
 sv 1 21 47]))))
def c38 : Cd := (.seq (.reg [sm 0 1 (.box (tm 0)),
 sm 1 2 (.mv (.const (.int .i64 0)))])
 (.seq (.seq (.reg [sm 0 7 (.fa 1 (tm 1)),
 sm 1 8 (.ld1 (tm 7)),
 sm 2 9 (.len (.sl 11) (tm 8)),
 sm 3 10 (.bin .gtr 3 (tm 9) (.const (.int .i64 60)))])
 (.cond (tm 10) (.seq (.reg [sm 0 2 (.mv (.const (.int .i64 4)))])
 .ret) .skip))
 (.seq (.seq (.reg [sm 0 11 (.fa 0 (tm 1)),
 sm 1 12 (.ld1 (tm 11)),
 sm 2 13 (.len (.sl 32) (tm 12)),
 sm 3 14 (.fa 1 (tm 1)),
 sm 4 15 (.ld1 (tm 14)),
 sm 5 16 (.len (.sl 11) (tm 15)),
 sm 6 17 (.bin .neq 3 (tm 13) (tm 16))])
 (.cond (tm 17) (.seq (.reg [sm 0 2 (.mv (.const (.int .i64 8)))])
 .ret) .skip))
 (.seq (.seq (.reg [sm 0 18 (.fa 1 (tm 1)),
 sm 1 19 (.ld1 (tm 18)),
 sm 2 20 (.len (.sl 11) (tm 19)),
 sm 3 21 (.mv (.const (.int .i64 0)))])
 (.block 0 (.loop l38_0)))
 (.seq (.reg [sm 0 48 (.ldA 2 (tm 1)),
 sc 1 49 68 [(tm 48)],
 sv 2 2 49])
 .ret)))))
def r38 : List Mo := [.mv (tm 2)]
theorem c38_eq : compF Tryz.prog 38 = some c38 := by kernel_rfl
theorem r38_eq : compRs Tryz.prog 38 = some r38 := by kernel_rfl
def l43_0 : Cd := (.seq (.reg [sm 0 35 (.bin .lss 3 (tm 34) (tm 33))])
 (.seq (.cond (tm 35) .skip (.exit 0))
 (.seq (.block 1 (.seq (.reg [sv 0 36 34,
 sm 1 37 (.ia (.sl 32) (tm 32) (tm 34)),
 sm 2 38 (.ldA 32 (tm 37)),
 sm 3 11 (.alloc (rep 32 (.int .u8 0))),
 sv 4 10 36,
 se 5 (.st 32 (tm 11) (tm 38))])
 (.seq (.reg [sv 0 39 10,
 sv 1 40 9,
 sm 2 41 (.len (.sl 32) (tm 40)),
 sm 3 42 (.bin .geq 3 (tm 39) (tm 41)),
 sv 4 43 42,
 sg 5 44 43 false (.mv (tm 9)),
 sg 6 45 43 false (.mv (tm 10)),
 sg 7 46 43 false (.ia (.sl 32) (tm 44) (tm 45)),
 sg 8 47 43 false (.ldA 32 (tm 46)),
 sg 9 48 43 false (.ldA 32 (tm 11)),
 sg 10 49 43 false (.bin .neq 61 (tm 47) (tm 48)),
 sm 11 50 (.pick (tm 43) (.const (.bool true)) (tm 49))])
 (.cond (tm 50) (.seq (.reg [sv 0 51 10,
 sv 1 4 51,
 sm 2 5 (.mv (.const (.bool true))),
 sm 3 6 (.mv (.const (.int .i64 0)))])
 .ret) .skip))))
 (.reg [sm 0 52 (.bin .add 3 (tm 34) (.const (.int .i64 1))),
 sv 1 34 52]))))
def c43 : Cd := (.seq (.reg [sm 0 2 (.box (tm 0)),
 sm 1 3 (.box (tm 1)),
 sm 2 4 (.mv (.const (.int .i64 0))),
 sm 3 5 (.mv (.const (.bool false))),
 sm 4 6 (.mv (.const (.int .i64 0)))])
 (.seq (.seq (.reg [sm 0 12 (.ldA 5 (tm 2)),
 sc 1 13 60 [(tm 12)],
 sv 2 7 13])
 (.seq (.reg [sv 0 14 7,
 sm 1 15 (.bin .neq 32 (tm 14) (.const (.int .i64 0)))])
 (.cond (tm 15) (.seq (.reg [sv 0 16 7,
 sm 1 4 (.mv (.const (.int .i64 0))),
 sm 2 5 (.mv (.const (.bool false))),
 sv 3 6 16])
 .ret) .skip)))
 (.seq (.seq (.reg [sm 0 17 (.ldA 3 (tm 3)),
 sc 1 18 19 [(tm 17)],
 sv 2 8 18])
 (.seq (.reg [sv 0 19 8,
 sm 1 20 (.bin .neq 32 (tm 19) (.const (.int .i64 0)))])
 (.cond (tm 20) (.seq (.reg [sv 0 21 8,
 sm 1 4 (.mv (.const (.int .i64 0))),
 sm 2 5 (.mv (.const (.bool false))),
 sv 3 6 21])
 .ret) .skip)))
 (.seq (.reg [sm 0 22 (.fa 4 (tm 2)),
 sm 1 23 (.ld1 (tm 22)),
 sm 2 24 (.fa 0 (tm 3)),
 sm 3 25 (.ld1 (tm 24)),
 sm 4 26 (.fa 4 (tm 2)),
 sm 5 27 (.ld1 (tm 26)),
 sm 6 28 (.len (.sl 32) (tm 27)),
 sm 7 29 (.min (tm 25) (tm 28)),
 sm 8 30 (.slice (.sl 32) (tm 23) (some (tm 29)) none none),
 sv 9 9 30])
 (.seq (.seq (.reg [sm 0 31 (.fa 1 (tm 3)),
 sm 1 32 (.ld1 (tm 31)),
 sm 2 33 (.len (.sl 32) (tm 32)),
 sm 3 34 (.mv (.const (.int .i64 0)))])
 (.block 0 (.loop l43_0)))
 (.seq (.seq (.reg [sm 0 53 (.fa 0 (tm 3)),
 sm 1 54 (.ld1 (tm 53)),
 sm 2 55 (.fa 4 (tm 2)),
 sm 3 56 (.ld1 (tm 55)),
 sm 4 57 (.len (.sl 32) (tm 56)),
 sm 5 58 (.bin .gtr 3 (tm 54) (tm 57)),
 sv 6 59 58,
 sg 7 60 59 false (.fa 2 (tm 3)),
 sg 8 61 59 false (.ld1 (tm 60)),
 sg 9 62 59 false (.mv (tm 61)),
 sg 10 63 62 true (.mv (tm 9)),
 sg 11 64 62 true (.len (.sl 32) (tm 63)),
 sg 12 65 62 true (.fa 1 (tm 3)),
 sg 13 66 62 true (.ld1 (tm 65)),
 sg 14 67 62 true (.len (.sl 32) (tm 66)),
 sg 15 68 62 true (.bin .eql 3 (tm 64) (tm 67)),
 sg 16 69 59 false (.pick (tm 62) (tm 68) (.const (.bool false))),
 sm 17 70 (.pick (tm 59) (.const (.bool true)) (tm 69))])
 (.cond (tm 70) (.seq (.reg [sm 0 71 (.fa 1 (tm 3)),
 sm 1 72 (.ld1 (tm 71)),
 sm 2 73 (.len (.sl 32) (tm 72)),
 sv 3 4 73,
 sm 4 5 (.mv (.const (.bool true))),
 sm 5 6 (.mv (.const (.int .i64 0)))])
 .ret) .skip))
 (.seq (.reg [sm 0 4 (.mv (.const (.int .i64 0))),
 sm 1 5 (.mv (.const (.bool false))),
 sm 2 6 (.mv (.const (.int .i64 0)))])
 .ret)))))))
def r43 : List Mo := [.mv (tm 4), .mv (tm 5), .mv (tm 6)]
theorem c43_eq : compF Tryz.prog 43 = some c43 := by kernel_rfl
theorem r43_eq : compRs Tryz.prog 43 = some r43 := by kernel_rfl
def c46 : Cd := (.seq (.reg [sm 0 2 (.box (tm 0)),
 sm 1 3 (.box (tm 1)),
 sm 2 4 (.mv (.const (.int .i64 0)))])
 (.seq (.reg [sm 0 9 (.ldA 5 (tm 2)),
 sm 1 10 (.ldA 3 (tm 3)),
 sc 2 11 43 [(tm 9), (tm 10)],
 sv 3 8 11,
 sm 4 12 (.ext (tm 8) 0),
 sm 5 13 (.ext (tm 8) 1),
 sm 6 14 (.ext (tm 8) 2),
 sv 7 5 12,
 sv 8 6 13,
 sv 9 7 14])
 (.seq (.seq (.reg [sv 0 15 7,
 sm 1 16 (.bin .eql 32 (tm 15) (.const (.int .i64 0))),
 sv 2 17 16,
 sg 3 18 17 true (.mv (tm 6)),
 sm 4 19 (.pick (tm 17) (tm 18) (.const (.bool false)))])
 (.cond (tm 19) (.seq (.reg [sm 0 4 (.mv (.const (.int .i64 22)))])
 .ret) .skip))
 (.seq (.reg [sv 0 20 7,
 sv 1 4 20])
 .ret))))
def r46 : List Mo := [.mv (tm 4)]
theorem c46_eq : compF Tryz.prog 46 = some c46 := by kernel_rfl
theorem r46_eq : compRs Tryz.prog 46 = some r46 := by kernel_rfl
def c48 : Cd := (.seq (.reg [sm 0 3 (.box (tm 1)),
 sm 1 4 (.mv (.const (.bool false)))])
 (.seq (.reg [sv 0 5 0,
 sm 1 6 (.ldA 32 (tm 3)),
 sc 2 7 78 [(tm 5), (tm 6)],
 sm 3 8 (.bin .geq 3 (tm 7) (.const (.int .i64 0))),
 sv 4 4 8])
 .ret))
def r48 : List Mo := [.mv (tm 4)]
theorem c48_eq : compF Tryz.prog 48 = some c48 := by kernel_rfl
theorem r48_eq : compRs Tryz.prog 48 = some r48 := by kernel_rfl
def c53 : Cd := (.seq (.reg [sm 0 4 (.alloc [.int .i64 0, .nilS, .nilS, .int .i64 0, .nilS]),
 sm 1 5 (.mv (.const (.int .i64 0)))])
 (.seq (.reg [sv 0 9 1,
 sc 1 10 80 [(tm 9)],
 sv 2 8 10,
 sm 3 11 (.ext (tm 8) 0),
 sm 4 12 (.ext (tm 8) 1),
 sm 5 6 (.alloc [.nilS, .nilS, .int .i64 0]),
 se 6 (.st 3 (tm 6) (tm 11)),
 sv 7 7 12])
 (.seq (.seq (.reg [sv 0 13 0,
 sm 1 14 (.bin .lss 3 (tm 13) (.const (.int .i64 1))),
 sv 2 15 14,
 sg 3 16 15 false (.mv (tm 0)),
 sg 4 17 15 false (.bin .gtr 3 (tm 16) (.const (.int .i64 40))),
 sm 5 18 (.pick (tm 15) (.const (.bool true)) (tm 17)),
 sv 6 19 18,
 sg 7 20 19 false (.mv (tm 7)),
 sg 8 21 19 false (.bin .neq 32 (tm 20) (.const (.int .i64 0))),
 sm 9 22 (.pick (tm 19) (.const (.bool true)) (tm 21))])
 (.cond (tm 22) (.seq (.reg [sm 0 23 (.bld [.int .i64 0, .nilS, .nilS, .int .i64 0, .nilS] []),
 se 1 (.st 5 (tm 4) (tm 23)),
 sm 2 5 (.mv (.const (.int .i64 2)))])
 .ret) .skip))
 (.seq (.reg [sv 0 24 0,
 sm 1 25 (.ldA 3 (tm 6)),
 sm 2 26 (.bld [.int .i64 0, .nilS, .nilS, .int .i64 0, .nilS] [(0, 1, (tm 24)), (1, 3, (tm 25))]),
 se 3 (.st 5 (tm 4) (tm 26)),
 sm 4 5 (.mv (.const (.int .i64 0)))])
 .ret))))
def r53 : List Mo := [.ldA 5 (tm 4), .mv (tm 5)]
theorem c53_eq : compF Tryz.prog 53 = some c53 := by kernel_rfl
theorem r53_eq : compRs Tryz.prog 53 = some r53 := by kernel_rfl
def c54 : Cd := (.seq (.reg [sm 0 3 (.box (tm 1)),
 sm 1 4 (.alloc [.int .u32 0, .nilS, .int .u64 0, .int .u8 0, .str [], .int .u8 0, .int .i64 0, .int .u64 0, .str [], .int .u32 0, .int .u32 0]),
 sm 2 5 (.mv (.const (.int .i64 0)))])
 (.seq (.reg [sv 0 10 0,
 sc 1 11 81 [(tm 10)],
 sv 2 9 11,
 sm 3 12 (.ext (tm 9) 0),
 sm 4 13 (.ext (tm 9) 1),
 sv 5 6 12,
 sv 6 7 13])
 (.seq (.seq (.reg [sv 0 14 7,
 sm 1 15 (.bin .neq 32 (tm 14) (.const (.int .i64 0)))])
 (.cond (tm 15) (.seq (.reg [sm 0 16 (.bld [.int .u32 0, .nilS, .int .u64 0, .int .u8 0, .str [], .int .u8 0, .int .i64 0, .int .u64 0, .str [], .int .u32 0, .int .u32 0] []),
 sv 1 17 7,
 se 2 (.st 11 (tm 4) (tm 16)),
 sv 3 5 17])
 .ret) .skip))
 (.seq (.reg [sv 0 18 6,
 sm 1 19 (.fa 1 (tm 3)),
 sm 2 20 (.ld1 (tm 19)),
 sc 3 21 61 [(tm 20)],
 sm 4 22 (.fa 0 (tm 3)),
 se 5 (.st 1 (tm 22) (tm 18)),
 sm 6 23 (.fa 1 (tm 3)),
 se 7 (.st 1 (tm 23) (tm 21))])
 (.seq (.reg [sm 0 25 (.ldA 11 (tm 3)),
 sc 1 26 82 [(tm 25)],
 sv 2 24 26,
 sm 3 27 (.ext (tm 24) 0),
 sm 4 28 (.ext (tm 24) 1),
 sv 5 8 27,
 sv 6 7 28])
 (.seq (.seq (.reg [sv 0 29 7,
 sm 1 30 (.bin .neq 32 (tm 29) (.const (.int .i64 0)))])
 (.cond (tm 30) (.seq (.reg [sm 0 31 (.bld [.int .u32 0, .nilS, .int .u64 0, .int .u8 0, .str [], .int .u8 0, .int .i64 0, .int .u64 0, .str [], .int .u32 0, .int .u32 0] []),
 sv 1 32 7,
 se 2 (.st 11 (tm 4) (tm 31)),
 sv 3 5 32])
 .ret) .skip))
 (.seq (.reg [sv 0 34 0,
 sv 1 35 8,
 sc 2 36 83 [(tm 34), (tm 35)],
 sv 3 33 36,
 sm 4 37 (.ext (tm 33) 0),
 sm 5 38 (.ext (tm 33) 1),
 sm 6 39 (.fa 9 (tm 3)),
 se 7 (.st 2 (tm 39) (tm 37))])
 (.seq (.reg [sm 0 40 (.ldA 11 (tm 3)),
 se 1 (.st 11 (tm 4) (tm 40)),
 sm 2 5 (.mv (.const (.int .i64 0)))])
 .ret))))))))
def r54 : List Mo := [.ldA 11 (tm 4), .mv (tm 5)]
theorem c54_eq : compF Tryz.prog 54 = some c54 := by kernel_rfl
theorem r54_eq : compRs Tryz.prog 54 = some r54 := by kernel_rfl
def c55 : Cd := (.seq (.reg [sm 0 1 (.box (tm 0)),
 sm 1 2 (.alloc (rep 32 (.int .u8 0))),
 sm 2 3 (.mv (.const (.int .i64 0)))])
 (.seq (.reg [sm 0 7 (.ldA 11 (tm 1)),
 sc 1 8 84 [(tm 7)],
 sv 2 6 8,
 sm 3 9 (.ext (tm 6) 0),
 sm 4 10 (.ext (tm 6) 1),
 sv 5 4 9,
 sv 6 5 10])
 (.seq (.seq (.reg [sv 0 11 5,
 sm 1 12 (.bin .neq 32 (tm 11) (.const (.int .i64 0)))])
 (.cond (tm 12) (.seq (.reg [sm 0 13 (.bld (rep 32 (.int .u8 0)) []),
 sv 1 14 5,
 se 2 (.st 32 (tm 2) (tm 13)),
 sv 3 3 14])
 .ret) .skip))
 (.seq (.reg [sv 0 15 4,
 sc 1 16 85 [(tm 15)],
 sm 2 17 (.ext (tm 16) 0),
 sm 3 18 (.ext (tm 16) 1),
 se 4 (.st 32 (tm 2) (tm 17)),
 sv 5 3 18])
 .ret))))
def r55 : List Mo := [.ldA 32 (tm 2), .mv (tm 3)]
theorem c55_eq : compF Tryz.prog 55 = some c55 := by kernel_rfl
theorem r55_eq : compRs Tryz.prog 55 = some r55 := by kernel_rfl
def c56 : Cd := (.seq (.reg [sm 0 2 (.box (tm 0)),
 sm 1 3 (.box (tm 1)),
 sm 2 4 (.alloc [.int .i64 0, .nilS, .nilS, .int .i64 0, .nilS]),
 sm 3 5 (.mv (.const (.int .u8 0))),
 sm 4 6 (.mv (.const (.int .i64 0)))])
 (.seq (.seq (.reg [sm 0 15 (.ldA 5 (tm 2)),
 sm 1 16 (.ldA 11 (tm 3)),
 sc 2 17 86 [(tm 15), (tm 16)],
 sv 3 7 17])
 (.seq (.reg [sv 0 18 7,
 sm 1 19 (.bin .neq 32 (tm 18) (.const (.int .i64 0)))])
 (.cond (tm 19) (.seq (.reg [sm 0 20 (.bld [.int .i64 0, .nilS, .nilS, .int .i64 0, .nilS] []),
 sv 1 21 7,
 se 2 (.st 5 (tm 4) (tm 20)),
 sm 3 5 (.mv (.const (.int .u8 0))),
 sv 4 6 21])
 .ret) .skip)))
 (.seq (.reg [sm 0 23 (.ldA 11 (tm 3)),
 sc 1 24 55 [(tm 23)],
 sv 2 22 24,
 sm 3 25 (.ext (tm 22) 0),
 sm 4 26 (.ext (tm 22) 1),
 sm 5 8 (.alloc (rep 32 (.int .u8 0))),
 se 6 (.st 32 (tm 8) (tm 25)),
 sv 7 9 26])
 (.seq (.reg [sm 0 27 (.ldA 5 (tm 2)),
 sm 1 28 (.ldA 11 (tm 3)),
 sm 2 29 (.ldA 32 (tm 8)),
 sc 3 30 87 [(tm 27), (tm 28), (tm 29)],
 sv 4 10 30])
 (.seq (.reg [sm 0 31 (.ldA 5 (tm 2)),
 sc 1 32 88 [(tm 31)],
 sm 2 11 (.alloc [.int .i64 0, .nilS, .nilS, .int .i64 0, .nilS]),
 se 3 (.st 5 (tm 11) (tm 32))])
 (.seq (.seq (.reg [sv 0 33 10,
 sm 1 34 (.bin .eql 5 (tm 33) (.const (.int .u8 1)))])
 (.cond (tm 34) (.seq (.reg [sm 0 36 (.fa 1 (tm 2)),
 sm 1 37 (.ldA 3 (tm 36)),
 sm 2 38 (.ldA 11 (tm 3)),
 sc 3 39 89 [(tm 37), (tm 38)],
 sv 4 35 39,
 sm 5 40 (.ext (tm 35) 0),
 sm 6 41 (.ext (tm 35) 1),
 sm 7 42 (.ext (tm 35) 2),
 sm 8 12 (.alloc [.nilS, .nilS, .int .i64 0]),
 sm 9 13 (.alloc (rep 32 (.int .u8 0))),
 se 10 (.st 3 (tm 12) (tm 40)),
 se 11 (.st 32 (tm 13) (tm 41)),
 sv 12 14 42])
 (.seq (.seq (.reg [sv 0 43 14,
 sm 1 44 (.bin .neq 32 (tm 43) (.const (.int .i64 0)))])
 (.cond (tm 44) (.seq (.reg [sm 0 45 (.bld [.int .i64 0, .nilS, .nilS, .int .i64 0, .nilS] []),
 sv 1 46 14,
 se 2 (.st 5 (tm 4) (tm 45)),
 sm 3 5 (.mv (.const (.int .u8 0))),
 sv 4 6 46])
 .ret) .skip))
 (.dreg [⟨0, (some 47), none, .mo (.ldA 3 (tm 12)), [], true⟩,
 sm 1 48 (.fa 4 (tm 11)),
 sm 2 49 (.ld1 (tm 48)),
 sm 3 50 (.ldA 32 (tm 8)),
 sm 4 51 (.bsl 32 (rep 32 (.int .u8 0)) 1 [(0, (tm 50))]),
 sm 6 53 (.fa 1 (tm 11)),
 ⟨5, (some 52), none, .mo (.app 32 32 (tm 49) (tm 51)), [0], false⟩,
 se 7 (.st 3 (tm 53) (tm 47)),
 sm 8 54 (.fa 4 (tm 11)),
 se 9 (.st 1 (tm 54) (tm 52))]))) .skip))
 (.seq (.reg [sm 0 55 (.ldA 5 (tm 11)),
 sv 1 56 10,
 se 2 (.st 5 (tm 4) (tm 55)),
 sv 3 5 56,
 sm 4 6 (.mv (.const (.int .i64 0)))])
 .ret)))))))
def r56 : List Mo := [.ldA 5 (tm 4), .mv (tm 5), .mv (tm 6)]
theorem c56_eq : compF Tryz.prog 56 = some c56 := by kernel_rfl
theorem r56_eq : compRs Tryz.prog 56 = some r56 := by kernel_rfl
def c60 : Cd := (.seq (.reg [sm 0 1 (.box (tm 0)),
 sm 1 2 (.mv (.const (.int .i64 0)))])
 (.seq (.reg [sm 0 6 (.ldA 5 (tm 1)),
 sc 1 7 66 [(tm 6)],
 sv 2 5 7,
 sm 3 8 (.ext (tm 5) 0),
 sm 4 9 (.ext (tm 5) 1),
 sm 5 3 (.alloc [.nilS, .nilS]),
 se 6 (.st 2 (tm 3) (tm 8)),
 sv 7 4 9])
 (.seq (.reg [sv 0 10 4,
 sv 1 2 10])
 .ret)))
def r60 : List Mo := [.mv (tm 2)]
theorem c60_eq : compF Tryz.prog 60 = some c60 := by kernel_rfl
theorem r60_eq : compRs Tryz.prog 60 = some r60 := by kernel_rfl
def c61 : Cd := (.seq (.reg [sm 0 2 (.mv (.const (.slice none 0 0)))])
 (.seq (.seq (.reg [sv 0 3 0,
 sm 1 4 (.bin .eql 23 (tm 3) (.const (.slice none 0 0)))])
 (.cond (tm 4) (.seq (.reg [sm 0 2 (.mv (.const (.slice none 0 0)))])
 .ret) .skip))
 (.seq (.reg [sm 0 5 (.bsl 32 (rep 32 (.int .u8 0)) 0 []),
 sv 1 6 0,
 sm 2 7 (.app 32 32 (tm 5) (tm 6)),
 sv 3 2 7])
 .ret)))
def r61 : List Mo := [.mv (tm 2)]
theorem c61_eq : compF Tryz.prog 61 = some c61 := by kernel_rfl
theorem r61_eq : compRs Tryz.prog 61 = some r61 := by kernel_rfl
def l62_0 : Cd := (.seq (.reg [sm 0 38 (.bin .lss 3 (tm 37) (tm 36))])
 (.seq (.cond (tm 38) .skip (.exit 0))
 (.seq (.block 1 (.seq (.reg [sm 0 39 (.ia (.sl 4) (tm 35) (tm 37)),
 sm 1 40 (.ldA 4 (tm 39)),
 sm 2 4 (.alloc [.int .i64 0, .nilS, .bool false, .bool false]),
 se 3 (.st 4 (tm 4) (tm 40))])
 (.seq (.reg [sm 0 41 (.ldA 3 (tm 1)),
 sm 1 42 (.ldA 4 (tm 4)),
 sc 2 43 93 [(tm 41), (tm 42)],
 sm 3 44 (.un .not (tm 43))])
 (.cond (tm 44) (.seq (.reg [sm 0 2 (.mv (.const (.int .i64 8)))])
 .ret) .skip))))
 (.reg [sm 0 45 (.bin .add 3 (tm 37) (.const (.int .i64 1))),
 sv 1 37 45]))))
def c62 : Cd := (.seq (.reg [sm 0 1 (.box (tm 0)),
 sm 1 2 (.mv (.const (.int .i64 0)))])
 (.seq (.seq (.reg [sm 0 5 (.fa 0 (tm 1)),
 sm 1 6 (.ld1 (tm 5)),
 sm 2 7 (.bin .lss 3 (tm 6) (.const (.int .i64 1))),
 sv 3 8 7,
 sg 4 9 8 false (.fa 0 (tm 1)),
 sg 5 10 8 false (.ld1 (tm 9)),
 sg 6 11 8 false (.bin .gtr 3 (tm 10) (.const (.int .i64 8))),
 sm 7 12 (.pick (tm 8) (.const (.bool true)) (tm 11)),
 sv 8 13 12,
 sg 9 14 13 false (.fa 1 (tm 1)),
 sg 10 15 13 false (.ld1 (tm 14)),
 sg 11 16 13 false (.bin .lss 3 (tm 15) (.const (.int .i64 0))),
 sm 12 17 (.pick (tm 13) (.const (.bool true)) (tm 16)),
 sv 13 18 17,
 sg 14 19 18 false (.fa 1 (tm 1)),
 sg 15 20 18 false (.ld1 (tm 19)),
 sg 16 21 18 false (.bin .gtr 3 (tm 20) (.const (.int .i64 1000000000))),
 sm 17 22 (.pick (tm 18) (.const (.bool true)) (tm 21)),
 sv 18 23 22,
 sg 19 24 23 false (.fa 2 (tm 1)),
 sg 20 25 23 false (.ld1 (tm 24)),
 sg 21 26 23 false (.len (.sl 4) (tm 25)),
 sg 22 27 23 false (.bin .gtr 3 (tm 26) (.const (.int .i64 60))),
 sm 23 28 (.pick (tm 23) (.const (.bool true)) (tm 27)),
 sv 24 29 28,
 sg 25 30 29 false (.ldA 3 (tm 1)),
 ⟨26, (some 31), (some ((some 29), false)), .callF 63 [(tm 30)], [], false⟩,
 sg 27 32 29 false (.bin .gtr 3 (tm 31) (.const (.int .i64 4))),
 sm 28 33 (.pick (tm 29) (.const (.bool true)) (tm 32))])
 (.cond (tm 33) (.seq (.reg [sm 0 2 (.mv (.const (.int .i64 8)))])
 .ret) .skip))
 (.seq (.seq (.reg [sm 0 34 (.fa 2 (tm 1)),
 sm 1 35 (.ld1 (tm 34)),
 sm 2 36 (.len (.sl 4) (tm 35)),
 sm 3 37 (.mv (.const (.int .i64 0)))])
 (.block 0 (.loop l62_0)))
 (.seq (.reg [sm 0 2 (.mv (.const (.int .i64 0)))])
 .ret))))
def r62 : List Mo := [.mv (tm 2)]
theorem c62_eq : compF Tryz.prog 62 = some c62 := by kernel_rfl
theorem r62_eq : compRs Tryz.prog 62 = some r62 := by kernel_rfl
def l63_0 : Cd := (.seq (.reg [sm 0 10 (.bin .lss 3 (tm 9) (tm 8))])
 (.seq (.cond (tm 10) .skip (.exit 0))
 (.seq (.block 1 (.seq (.reg [sm 0 11 (.ia (.sl 4) (tm 7) (tm 9)),
 sm 1 12 (.ldA 4 (tm 11)),
 sm 2 5 (.alloc [.int .i64 0, .nilS, .bool false, .bool false]),
 se 3 (.st 4 (tm 5) (tm 12))])
 (.seq (.reg [sm 0 13 (.fa 3 (tm 5)),
 sm 1 14 (.ld1 (tm 13)),
 sm 2 15 (.un .not (tm 14))])
 (.cond (tm 15) (.reg [sv 0 16 3,
 sm 1 17 (.bin .add 3 (tm 16) (.const (.int .i64 1))),
 sv 2 3 17]) .skip))))
 (.reg [sm 0 18 (.bin .add 3 (tm 9) (.const (.int .i64 1))),
 sv 1 9 18]))))
def c63 : Cd := (.seq (.reg [sm 0 1 (.box (tm 0)),
 sm 1 2 (.mv (.const (.int .i64 0)))])
 (.seq (.reg [sm 0 3 (.mv (.const (.int .i64 0)))])
 (.seq (.seq (.reg [sm 0 6 (.fa 2 (tm 1)),
 sm 1 7 (.ld1 (tm 6)),
 sm 2 8 (.len (.sl 4) (tm 7)),
 sm 3 9 (.mv (.const (.int .i64 0)))])
 (.block 0 (.loop l63_0)))
 (.seq (.reg [sv 0 19 3,
 sv 1 2 19])
 .ret))))
def r63 : List Mo := [.mv (tm 2)]
theorem c63_eq : compF Tryz.prog 63 = some c63 := by kernel_rfl
theorem r63_eq : compRs Tryz.prog 63 = some r63 := by kernel_rfl
def l64_0 : Cd := (.seq (.reg [sm 0 12 (.bin .lss 3 (tm 11) (tm 10))])
 (.seq (.cond (tm 12) .skip (.exit 0))
 (.seq (.block 1 (.seq (.reg [sv 0 13 11,
 sv 1 3 13])
 (.dreg [sm 0 14 (.fa 2 (tm 1)),
 ⟨1, (some 15), none, .mo (.ld1 (tm 14)), [], true⟩,
 sv 2 16 3,
 sm 3 17 (.fa 2 (tm 1)),
 sm 4 18 (.ld1 (tm 17)),
 sv 5 19 3,
 sm 6 20 (.ia (.sl 4) (tm 18) (tm 19)),
 sm 7 21 (.fa 1 (tm 20)),
 sm 8 22 (.ld1 (tm 21)),
 ⟨9, (some 23), none, .callF 61 [(tm 22)], [1], false⟩,
 sm 10 24 (.ia (.sl 4) (tm 15) (tm 16)),
 sm 11 25 (.fa 1 (tm 24)),
 se 12 (.st 1 (tm 25) (tm 23))])))
 (.reg [sm 0 26 (.bin .add 3 (tm 11) (.const (.int .i64 1))),
 sv 1 11 26]))))
def c64 : Cd := (.seq (.reg [sm 0 1 (.box (tm 0)),
 sm 1 2 (.alloc [.int .i64 0, .int .i64 0, .nilS])])
 (.seq (.reg [sm 0 4 (.fa 2 (tm 1)),
 sm 1 5 (.ld1 (tm 4)),
 sc 2 6 94 [(tm 5)],
 sm 3 7 (.fa 2 (tm 1)),
 se 4 (.st 1 (tm 7) (tm 6))])
 (.seq (.seq (.reg [sm 0 8 (.fa 2 (tm 1)),
 sm 1 9 (.ld1 (tm 8)),
 sm 2 10 (.len (.sl 4) (tm 9)),
 sm 3 11 (.mv (.const (.int .i64 0)))])
 (.block 0 (.loop l64_0)))
 (.seq (.reg [sm 0 27 (.ldA 3 (tm 1)),
 se 1 (.st 3 (tm 2) (tm 27))])
 .ret))))
def r64 : List Mo := [.ldA 3 (tm 2)]
theorem c64_eq : compF Tryz.prog 64 = some c64 := by kernel_rfl
theorem r64_eq : compRs Tryz.prog 64 = some r64 := by kernel_rfl
def c65 : Cd := (.seq (.reg [sm 0 2 (.box (tm 0)),
 sm 1 4 (.mv (.const (.int .i64 0)))])
 (.seq (.seq (.reg [sm 0 6 (.ldA 3 (tm 2)),
 sc 1 7 62 [(tm 6)],
 sv 2 5 7])
 (.seq (.reg [sv 0 8 5,
 sm 1 9 (.bin .neq 32 (tm 8) (.const (.int .i64 0)))])
 (.cond (tm 9) (.seq (.reg [sv 0 10 5,
 sv 1 4 10])
 .ret) .skip)))
 (.seq (.seq (.reg [sv 0 11 1,
 sm 1 12 (.bin .lss 3 (tm 11) (.const (.int .i64 0))),
 sv 2 13 12,
 sg 3 14 13 false (.mv (tm 1)),
 sg 4 15 13 false (.fa 2 (tm 2)),
 sg 5 16 13 false (.ld1 (tm 15)),
 sg 6 17 13 false (.len (.sl 4) (tm 16)),
 sg 7 18 13 false (.bin .geq 3 (tm 14) (tm 17)),
 sm 8 19 (.pick (tm 13) (.const (.bool true)) (tm 18))])
 (.cond (tm 19) (.seq (.reg [sm 0 4 (.mv (.const (.int .i64 2)))])
 .ret) .skip))
 (.seq (.seq (.reg [sm 0 20 (.fa 2 (tm 2)),
 sm 1 21 (.ld1 (tm 20)),
 sv 2 22 1,
 sm 3 23 (.ia (.sl 4) (tm 21) (tm 22)),
 sm 4 24 (.fa 3 (tm 23)),
 sm 5 25 (.ld1 (tm 24))])
 (.cond (tm 25) (.seq (.reg [sm 0 4 (.mv (.const (.int .i64 34)))])
 .ret) .skip))
 (.seq (.reg [sm 0 4 (.mv (.const (.int .i64 0)))])
 .ret)))))
def r65 : List Mo := [.mv (tm 4)]
theorem c65_eq : compF Tryz.prog 65 = some c65 := by kernel_rfl
theorem r65_eq : compRs Tryz.prog 65 = some r65 := by kernel_rfl
def l66_0 : Cd := (.seq (.reg [sm 0 51 (.bin .lss 3 (tm 50) (tm 49))])
 (.seq (.cond (tm 51) .skip (.exit 0))
 (.seq (.block 1 (.seq (.reg [sv 0 52 50,
 sm 1 53 (.ia (.sl 32) (tm 48) (tm 50)),
 sm 2 54 (.ldA 32 (tm 53)),
 sm 3 7 (.alloc (rep 32 (.int .u8 0))),
 sv 4 6 52,
 se 5 (.st 32 (tm 7) (tm 54))])
 (.seq (.reg [sm 0 55 (.fa 4 (tm 1)),
 sm 1 56 (.ld1 (tm 55)),
 sv 2 57 6,
 sv 3 58 6,
 sm 4 59 (.slice (.sl 32) (tm 56) none (some (tm 57)) (some (tm 58))),
 sm 5 8 (.alloc [.nilS]),
 se 6 (.st 1 (tm 8) (tm 59))])
 (.seq (.reg [sm 0 61 (.fa 0 (tm 4)),
 sm 1 62 (.ld1 (tm 61)),
 sm 2 63 (.ldA 32 (tm 7)),
 sc 3 64 96 [(tm 62), (tm 63), (.func 75)],
 sv 4 60 64,
 sm 5 65 (.ext (tm 60) 0),
 sm 6 66 (.ext (tm 60) 1),
 sv 7 9 65,
 sv 8 10 66])
 (.seq (.reg [sv 0 67 10,
 sm 1 68 (.un .not (tm 67)),
 sv 2 69 68,
 sg 3 70 69 false (.ld1 (tm 8)),
 sg 4 71 69 false (.ldA 32 (tm 7)),
 ⟨5, (some 72), (some ((some 69), false)), .callF 48 [(tm 70), (tm 71)], [], false⟩,
 sm 6 73 (.pick (tm 69) (.const (.bool true)) (tm 72)),
 sv 7 74 73,
 sg 8 75 74 false (.fa 1 (tm 4)),
 sg 9 76 74 false (.ld1 (tm 75)),
 sg 10 77 74 false (.mv (tm 9)),
 sg 11 78 74 false (.ia (.sl 11) (tm 76) (tm 77)),
 sg 12 79 74 false (.fa 1 (tm 78)),
 sg 13 80 74 false (.ld1 (tm 79)),
 sg 14 81 74 false (.mkF 98 [] [(tm 8)]),
 ⟨15, (some 82), (some ((some 74), false)), .callF 97 [(tm 80), (tm 81)], [], false⟩,
 sm 16 83 (.pick (tm 74) (.const (.bool true)) (tm 82))])
 (.cond (tm 83) (.seq (.reg [sm 0 84 (.bld [.nilS, .nilS] []),
 se 1 (.st 2 (tm 2) (tm 84)),
 sm 2 3 (.mv (.const (.int .i64 8)))])
 .ret) .skip))))))
 (.reg [sm 0 85 (.bin .add 3 (tm 50) (.const (.int .i64 1))),
 sv 1 50 85]))))
def c66 : Cd := (.seq (.reg [sm 0 1 (.box (tm 0)),
 sm 1 2 (.alloc [.nilS, .nilS]),
 sm 2 3 (.mv (.const (.int .i64 0)))])
 (.seq (.reg [sm 0 12 (.fa 1 (tm 1)),
 sm 1 13 (.ldA 3 (tm 12)),
 sc 2 14 95 [(tm 13)],
 sv 3 11 14,
 sm 4 15 (.ext (tm 11) 0),
 sm 5 16 (.ext (tm 11) 1),
 sm 6 4 (.alloc [.nilS, .nilS]),
 se 7 (.st 2 (tm 4) (tm 15)),
 sv 8 5 16])
 (.seq (.seq (.reg [sv 0 17 5,
 sm 1 18 (.bin .neq 32 (tm 17) (.const (.int .i64 0))),
 sv 2 19 18,
 sg 3 20 19 false (.fa 0 (tm 1)),
 sg 4 21 19 false (.ld1 (tm 20)),
 sg 5 22 19 false (.bin .lss 3 (tm 21) (.const (.int .i64 1))),
 sm 6 23 (.pick (tm 19) (.const (.bool true)) (tm 22)),
 sv 7 24 23,
 sg 8 25 24 false (.fa 0 (tm 1)),
 sg 9 26 24 false (.ld1 (tm 25)),
 sg 10 27 24 false (.bin .gtr 3 (tm 26) (.const (.int .i64 40))),
 sm 11 28 (.pick (tm 24) (.const (.bool true)) (tm 27)),
 sv 12 29 28,
 sg 13 30 29 false (.fa 1 (tm 1)),
 sg 14 31 29 false (.fa 2 (tm 30)),
 sg 15 32 29 false (.ld1 (tm 31)),
 sg 16 33 29 false (.fa 0 (tm 1)),
 sg 17 34 29 false (.ld1 (tm 33)),
 sg 18 35 29 false (.bin .gtr 3 (tm 32) (tm 34)),
 sm 19 36 (.pick (tm 29) (.const (.bool true)) (tm 35)),
 sv 20 37 36,
 sg 21 38 37 false (.fa 4 (tm 1)),
 sg 22 39 37 false (.ld1 (tm 38)),
 sg 23 40 37 false (.len (.sl 32) (tm 39)),
 sg 24 41 37 false (.fa 0 (tm 4)),
 sg 25 42 37 false (.ld1 (tm 41)),
 sg 26 43 37 false (.len (.sl 32) (tm 42)),
 sg 27 44 37 false (.bin .neq 3 (tm 40) (tm 43)),
 sm 28 45 (.pick (tm 37) (.const (.bool true)) (tm 44))])
 (.cond (tm 45) (.seq (.reg [sm 0 46 (.bld [.nilS, .nilS] []),
 se 1 (.st 2 (tm 2) (tm 46)),
 sm 2 3 (.mv (.const (.int .i64 8)))])
 .ret) .skip))
 (.seq (.seq (.reg [sm 0 47 (.fa 4 (tm 1)),
 sm 1 48 (.ld1 (tm 47)),
 sm 2 49 (.len (.sl 32) (tm 48)),
 sm 3 50 (.mv (.const (.int .i64 0)))])
 (.block 0 (.loop l66_0)))
 (.seq (.reg [sm 0 86 (.ldA 2 (tm 4)),
 se 1 (.st 2 (tm 2) (tm 86)),
 sm 2 3 (.mv (.const (.int .i64 0)))])
 .ret)))))
def r66 : List Mo := [.ldA 2 (tm 2), .mv (tm 3)]
theorem c66_eq : compF Tryz.prog 66 = some c66 := by kernel_rfl
theorem r66_eq : compRs Tryz.prog 66 = some r66 := by kernel_rfl
def c67 : Cd := (.seq (.reg [sm 0 1 (.box (tm 0)),
 sm 1 2 (.mv (.const (.int .i64 0)))])
 (.seq (.seq (.reg [sm 0 6 (.ldA 11 (tm 1)),
 sc 1 7 99 [(tm 6)],
 sv 2 3 7])
 (.seq (.reg [sv 0 8 3,
 sm 1 9 (.bin .neq 32 (tm 8) (.const (.int .i64 0)))])
 (.cond (tm 9) (.seq (.reg [sv 0 10 3,
 sv 1 2 10])
 .ret) .skip)))
 (.seq (.reg [sm 0 12 (.ldA 11 (tm 1)),
 sc 1 13 82 [(tm 12)],
 sv 2 11 13,
 sm 3 14 (.ext (tm 11) 0),
 sm 4 15 (.ext (tm 11) 1),
 sv 5 4 14,
 sv 6 5 15])
 (.seq (.reg [sm 0 16 (.fa 0 (tm 1)),
 sm 1 17 (.ld1 (tm 16)),
 sv 2 18 4,
 sm 3 19 (.fa 9 (tm 1)),
 sm 4 20 (.ldA 2 (tm 19)),
 sc 5 21 100 [(tm 17), (tm 18), (tm 20)],
 sv 6 2 21])
 .ret))))
def r67 : List Mo := [.mv (tm 2)]
theorem c67_eq : compF Tryz.prog 67 = some c67 := by kernel_rfl
theorem r67_eq : compRs Tryz.prog 67 = some r67 := by kernel_rfl
def l68_0 : Cd := (.seq (.seq (.reg [sv 0 16 3,
 sm 1 17 (.fa 0 (tm 1)),
 sm 2 18 (.ld1 (tm 17)),
 sm 3 19 (.len (.sl 32) (tm 18)),
 sm 4 20 (.bin .lss 3 (tm 16) (tm 19))])
 (.cond (tm 20) .skip (.exit 0)))
 (.seq (.block 1 (.seq (.reg [sm 0 23 (.fa 0 (tm 1)),
 sm 1 24 (.ld1 (tm 23)),
 sv 2 25 3,
 sm 3 26 (.bin .sub 3 (tm 25) (.const (.int .i64 1))),
 sm 4 27 (.ia (.sl 32) (tm 24) (tm 26)),
 sm 5 28 (.ldA 32 (tm 27)),
 sm 6 29 (.fa 0 (tm 1)),
 sm 7 30 (.ld1 (tm 29)),
 sv 8 31 3,
 sm 9 32 (.ia (.sl 32) (tm 30) (tm 31)),
 sm 10 33 (.ldA 32 (tm 32)),
 sc 11 34 75 [(tm 28), (tm 33)],
 sm 12 35 (.bin .geq 3 (tm 34) (.const (.int .i64 0)))])
 (.cond (tm 35) (.seq (.reg [sm 0 2 (.mv (.const (.int .i64 32)))])
 .ret) .skip)))
 (.reg [sv 0 21 3,
 sm 1 22 (.bin .add 3 (tm 21) (.const (.int .i64 1))),
 sv 2 3 22])))
def l68_1 : Cd := (.seq (.reg [sm 0 56 (.bin .lss 3 (tm 55) (tm 54))])
 (.seq (.cond (tm 56) .skip (.exit 4))
 (.seq (.block 5 (.seq (.reg [sm 0 57 (.ia (.sl 32) (tm 53) (tm 55)),
 sm 1 58 (.ldA 32 (tm 57)),
 sm 2 10 (.alloc (rep 32 (.int .u8 0))),
 se 3 (.st 32 (tm 10) (tm 58))])
 (.seq (.reg [sm 0 60 (.ldA 2 (tm 1)),
 sm 1 61 (.ldA 32 (tm 10)),
 sc 2 62 69 [(tm 60), (tm 61)],
 sv 3 59 62,
 sm 4 63 (.ext (tm 59) 0),
 sm 5 64 (.ext (tm 59) 1),
 sv 6 11 63,
 sv 7 12 64])
 (.seq (.seq (.reg [sv 0 65 12,
 sm 1 66 (.un .not (tm 65))])
 (.cond (tm 66) (.seq (.reg [sm 0 2 (.mv (.const (.int .i64 40)))])
 .ret) .skip))
 (.reg [sv 0 67 5,
 sv 1 68 11,
 sv 2 69 5,
 sv 3 70 11,
 sm 4 71 (.ia (.sl 1) (tm 69) (tm 70)),
 sm 5 72 (.ld1 (tm 71)),
 sv 6 73 7,
 sm 7 74 (.bsl 1 [.int .i64 0] 1 [(0, (tm 73))]),
 sm 8 75 (.app 1 8 (tm 72) (tm 74)),
 sm 9 76 (.ia (.sl 1) (tm 67) (tm 68)),
 se 10 (.st 1 (tm 76) (tm 75))])))))
 (.reg [sm 0 77 (.bin .add 3 (tm 55) (.const (.int .i64 1))),
 sv 1 55 77]))))
def l68_2 : Cd := (.seq (.reg [sm 0 48 (.bin .lss 3 (tm 47) (tm 46))])
 (.seq (.cond (tm 48) .skip (.exit 2))
 (.seq (.block 3 (.seq (.reg [sv 0 49 47,
 sm 1 50 (.ia (.sl 11) (tm 45) (tm 47)),
 sm 2 51 (.ldA 11 (tm 50)),
 sm 3 8 (.alloc [.int .u32 0, .nilS, .int .u64 0, .int .u8 0, .str [], .int .u8 0, .int .i64 0, .int .u64 0, .str [], .int .u32 0, .int .u32 0]),
 sv 4 7 49,
 se 5 (.st 11 (tm 8) (tm 51))])
 (.seq (.seq (.reg [sm 0 52 (.fa 1 (tm 8)),
 sm 1 53 (.ld1 (tm 52)),
 sm 2 54 (.len (.sl 32) (tm 53)),
 sm 3 55 (.mv (.const (.int .i64 0)))])
 (.block 4 (.loop l68_1)))
 (.seq (.reg [sv 0 78 4,
 sv 1 79 7,
 sm 2 80 (.fa 1 (tm 8)),
 sm 3 81 (.ld1 (tm 80)),
 sm 4 82 (.len (.sl 32) (tm 81)),
 sm 5 83 (.ia (.sl 1) (tm 78) (tm 79)),
 se 6 (.st 1 (tm 83) (tm 82))])
 (.seq (.reg [sv 0 84 4,
 sv 1 85 7,
 sm 2 86 (.ia (.sl 1) (tm 84) (tm 85)),
 sm 3 87 (.ld1 (tm 86)),
 sm 4 88 (.bin .eql 3 (tm 87) (.const (.int .i64 0)))])
 (.cond (tm 88) (.reg [sv 0 89 6,
 sv 1 90 7,
 sm 2 91 (.bsl 1 [.int .i64 0] 1 [(0, (tm 90))]),
 sm 3 92 (.app 1 8 (tm 89) (tm 91)),
 sv 4 6 92]) .skip))))))
 (.reg [sm 0 93 (.bin .add 3 (tm 47) (.const (.int .i64 1))),
 sv 1 47 93]))))
def l68_3 : Cd := (.seq (.reg [sm 0 109 (.bin .lss 3 (tm 108) (tm 107))])
 (.seq (.cond (tm 109) .skip (.exit 8))
 (.seq (.block 9 (.seq (.reg [sm 0 110 (.ia (.sl 1) (tm 106) (tm 108)),
 sm 1 111 (.ld1 (tm 110)),
 sv 2 15 111])
 (.seq (.reg [sv 0 112 4,
 sv 1 113 15,
 sm 2 114 (.ia (.sl 1) (tm 112) (tm 113)),
 sm 3 115 (.ld1 (tm 114)),
 sm 4 116 (.bin .sub 3 (tm 115) (.const (.int .i64 1))),
 sm 5 117 (.ia (.sl 1) (tm 112) (tm 113)),
 se 6 (.st 1 (tm 117) (tm 116))])
 (.seq (.reg [sv 0 118 4,
 sv 1 119 15,
 sm 2 120 (.ia (.sl 1) (tm 118) (tm 119)),
 sm 3 121 (.ld1 (tm 120)),
 sm 4 122 (.bin .eql 3 (tm 121) (.const (.int .i64 0)))])
 (.cond (tm 122) (.reg [sv 0 123 6,
 sv 1 124 15,
 sm 2 125 (.bsl 1 [.int .i64 0] 1 [(0, (tm 124))]),
 sm 3 126 (.app 1 8 (tm 123) (tm 125)),
 sv 4 6 126]) .skip)))))
 (.reg [sm 0 127 (.bin .add 3 (tm 108) (.const (.int .i64 1))),
 sv 1 108 127]))))
def l68_4 : Cd := (.seq (.seq (.reg [sv 0 94 13,
 sv 1 95 6,
 sm 2 96 (.len (.sl 1) (tm 95)),
 sm 3 97 (.bin .lss 3 (tm 94) (tm 96))])
 (.cond (tm 97) .skip (.exit 6)))
 (.seq (.block 7 (.seq (.reg [sv 0 100 5,
 sv 1 101 6,
 sv 2 102 13,
 sm 3 103 (.ia (.sl 1) (tm 101) (tm 102)),
 sm 4 104 (.ld1 (tm 103)),
 sm 5 105 (.ia (.sl 1) (tm 100) (tm 104)),
 sm 6 106 (.ld1 (tm 105)),
 sm 7 107 (.len (.sl 1) (tm 106)),
 sm 8 108 (.mv (.const (.int .i64 0)))])
 (.block 8 (.loop l68_3))))
 (.reg [sv 0 98 13,
 sm 1 99 (.bin .add 3 (tm 98) (.const (.int .i64 1))),
 sv 2 13 99])))
def c68 : Cd := (.seq (.reg [sm 0 1 (.box (tm 0)),
 sm 1 2 (.mv (.const (.int .i64 0)))])
 (.seq (.seq (.reg [sm 0 3 (.mv (.const (.int .i64 1)))])
 (.block 0 (.loop l68_0)))
 (.seq (.reg [sm 0 36 (.fa 1 (tm 1)),
 sm 1 37 (.ld1 (tm 36)),
 sm 2 38 (.len (.sl 11) (tm 37)),
 sm 3 39 (.mks 1 8 [.int .i64 0] (tm 38) (tm 38)),
 sv 4 4 39])
 (.seq (.reg [sm 0 40 (.fa 1 (tm 1)),
 sm 1 41 (.ld1 (tm 40)),
 sm 2 42 (.len (.sl 11) (tm 41)),
 sm 3 43 (.mks 1 24 [.nilS] (tm 42) (tm 42)),
 sv 4 5 43])
 (.seq (.reg [sm 0 6 (.mv (.const (.slice none 0 0)))])
 (.seq (.seq (.reg [sm 0 44 (.fa 1 (tm 1)),
 sm 1 45 (.ld1 (tm 44)),
 sm 2 46 (.len (.sl 11) (tm 45)),
 sm 3 47 (.mv (.const (.int .i64 0)))])
 (.block 2 (.loop l68_2)))
 (.seq (.reg [sm 0 13 (.mv (.const (.int .i64 0)))])
 (.seq (.block 6 (.loop l68_4))
 (.seq (.seq (.reg [sv 0 128 13,
 sm 1 129 (.fa 1 (tm 1)),
 sm 2 130 (.ld1 (tm 129)),
 sm 3 131 (.len (.sl 11) (tm 130)),
 sm 4 132 (.bin .lss 3 (tm 128) (tm 131))])
 (.cond (tm 132) (.seq (.reg [sm 0 2 (.mv (.const (.int .i64 36)))])
 .ret) .skip))
 (.seq (.reg [sm 0 2 (.mv (.const (.int .i64 0)))])
 .ret))))))))))
def r68 : List Mo := [.mv (tm 2)]
theorem c68_eq : compF Tryz.prog 68 = some c68 := by kernel_rfl
theorem r68_eq : compRs Tryz.prog 68 = some r68 := by kernel_rfl
def c69 : Cd := (.seq (.reg [sm 0 2 (.box (tm 0)),
 sm 1 3 (.box (tm 1)),
 sm 2 4 (.mv (.const (.int .i64 0))),
 sm 3 5 (.mv (.const (.bool false)))])
 (.seq (.reg [sm 0 6 (.fa 0 (tm 2)),
 sm 1 7 (.ld1 (tm 6)),
 sm 2 8 (.ldA 32 (tm 3)),
 sc 3 9 96 [(tm 7), (tm 8), (.func 75)],
 sm 4 10 (.ext (tm 9) 0),
 sm 5 11 (.ext (tm 9) 1),
 sv 6 4 10,
 sv 7 5 11])
 .ret))
def r69 : List Mo := [.mv (tm 4), .mv (tm 5)]
theorem c69_eq : compF Tryz.prog 69 = some c69 := by kernel_rfl
theorem r69_eq : compRs Tryz.prog 69 = some r69 := by kernel_rfl
def l71_0 : Cd := (.seq (.reg [sm 0 14 (.bin .lss 3 (tm 13) (tm 12))])
 (.seq (.cond (tm 14) .skip (.exit 0))
 (.seq (.block 1 (.seq (.reg [sv 0 15 13,
 sm 1 16 (.ia (.sl 32) (tm 11) (tm 13)),
 sm 2 17 (.ldA 32 (tm 16)),
 sm 3 5 (.alloc (rep 32 (.int .u8 0))),
 sv 4 4 15,
 se 5 (.st 32 (tm 5) (tm 17))])
 (.reg [sv 0 18 3,
 sm 1 19 (.ldA 32 (tm 5)),
 sv 2 20 4,
 se 3 (.mup 61 (tm 18) (tm 19) (tm 20))])))
 (.reg [sm 0 21 (.bin .add 3 (tm 13) (.const (.int .i64 1))),
 sv 1 13 21]))))
def c71 : Cd := (.seq (.reg [sm 0 1 (.box (tm 0)),
 sm 1 2 (.mv (.const (.map none)))])
 (.seq (.reg [sm 0 6 (.fa 0 (tm 1)),
 sm 1 7 (.ld1 (tm 6)),
 sm 2 8 (.len (.sl 32) (tm 7)),
 sm 3 9 (.mkM (some (tm 8))),
 sv 4 3 9])
 (.seq (.seq (.reg [sm 0 10 (.fa 0 (tm 1)),
 sm 1 11 (.ld1 (tm 10)),
 sm 2 12 (.len (.sl 32) (tm 11)),
 sm 3 13 (.mv (.const (.int .i64 0)))])
 (.block 0 (.loop l71_0)))
 (.seq (.reg [sv 0 22 3,
 sv 1 2 22])
 .ret))))
def r71 : List Mo := [.mv (tm 2)]
theorem c71_eq : compF Tryz.prog 71 = some c71 := by kernel_rfl
theorem r71_eq : compRs Tryz.prog 71 = some r71 := by kernel_rfl
def l72_0 : Cd := (.seq (.seq (.reg [sv 0 16 6,
 sv 1 17 0,
 sm 2 18 (.len (.sl 32) (tm 17)),
 sm 3 19 (.bin .lss 3 (tm 16) (tm 18))])
 (.cond (tm 19) .skip (.exit 0)))
 (.seq (.block 1 (.seq (.reg [sv 0 22 0,
 sv 1 23 6,
 sm 2 24 (.ia (.sl 32) (tm 22) (tm 23)),
 sm 3 25 (.ldA 32 (tm 24)),
 sm 4 7 (.alloc (rep 32 (.int .u8 0))),
 se 5 (.st 32 (tm 7) (tm 25))])
 (.seq (.reg [sv 0 26 1,
 sm 1 27 (.ldA 32 (tm 7)),
 ⟨2, (some 28), none, .callV (tm 26) [(tm 27)], [], false⟩,
 sm 3 29 (.un .not (tm 28))])
 (.cond (tm 29) (.seq (.reg [sv 0 30 0,
 sv 1 31 5,
 sm 2 32 (.ldA 32 (tm 7)),
 sm 3 33 (.ia (.sl 32) (tm 30) (tm 31)),
 se 4 (.st 32 (tm 33) (tm 32))])
 (.reg [sv 0 34 5,
 sm 1 35 (.bin .add 3 (tm 34) (.const (.int .i64 1))),
 sv 2 5 35])) .skip))))
 (.reg [sv 0 20 6,
 sm 1 21 (.bin .add 3 (tm 20) (.const (.int .i64 1))),
 sv 2 6 21])))
def c72 : Cd := (.seq (.reg [sm 0 4 (.mv (.const (.slice none 0 0)))])
 (.seq (.reg [sv 0 8 0,
 sv 1 9 1,
 sc 2 10 101 [(tm 8), (tm 9)],
 sv 3 5 10])
 (.seq (.seq (.reg [sv 0 11 5,
 sm 1 12 (.bin .eql 3 (tm 11) (.const (.int .i64 (-1))))])
 (.cond (tm 12) (.seq (.reg [sv 0 13 0,
 sv 1 4 13])
 .ret) .skip))
 (.seq (.seq (.reg [sv 0 14 5,
 sm 1 15 (.bin .add 3 (tm 14) (.const (.int .i64 1))),
 sv 2 6 15])
 (.block 0 (.loop l72_0)))
 (.seq (.reg [sv 0 36 0,
 sv 1 37 5,
 sm 2 38 (.slice (.sl 32) (tm 36) (some (tm 37)) none none),
 se 3 (.clr (rep 32 (.int .u8 0)) (tm 38))])
 (.seq (.reg [sv 0 39 0,
 sv 1 40 5,
 sm 2 41 (.slice (.sl 32) (tm 39) none (some (tm 40)) none),
 sv 3 4 41])
 .ret))))))
def r72 : List Mo := [.mv (tm 4)]
theorem c72_eq : compF Tryz.prog 72 = some c72 := by kernel_rfl
theorem r72_eq : compRs Tryz.prog 72 = some r72 := by kernel_rfl
def c75 : Cd := (.seq (.reg [sm 0 2 (.box (tm 0)),
 sm 1 3 (.box (tm 1)),
 sm 2 4 (.mv (.const (.int .i64 0)))])
 (.seq (.reg [sm 0 5 (.slice (.arr 32 1) (tm 2) none none none),
 sm 1 6 (.slice (.arr 32 1) (tm 3) none none none),
 sc 2 7 104 [(tm 5), (tm 6)],
 sv 3 4 7])
 .ret))
def r75 : List Mo := [.mv (tm 4)]
theorem c75_eq : compF Tryz.prog 75 = some c75 := by kernel_rfl
theorem r75_eq : compRs Tryz.prog 75 = some r75 := by kernel_rfl
def l76_0 : Cd := (.seq (.seq (.reg [sv 0 29 5,
 sv 1 30 4,
 sm 2 31 (.len (.sl 32) (tm 30)),
 sm 3 32 (.bin .lss 3 (tm 29) (tm 31))])
 (.cond (tm 32) .skip (.exit 2)))
 (.seq (.block 3 (.seq (.reg [sv 0 35 4,
 sv 1 36 5,
 sm 2 37 (.ia (.sl 32) (tm 35) (tm 36)),
 sm 3 38 (.ldA 32 (tm 37)),
 sv 4 39 4,
 sv 5 40 5,
 sm 6 41 (.bin .sub 3 (tm 40) (.const (.int .i64 1))),
 sm 7 42 (.ia (.sl 32) (tm 39) (tm 41)),
 sm 8 43 (.ldA 32 (tm 42)),
 sm 9 44 (.bin .neq 61 (tm 38) (tm 43))])
 (.cond (tm 44) (.seq (.reg [sv 0 45 0,
 sv 1 46 3,
 sv 2 47 4,
 sv 3 48 5,
 sm 4 49 (.ia (.sl 32) (tm 47) (tm 48)),
 sm 5 50 (.ldA 32 (tm 49)),
 sm 6 51 (.ia (.sl 32) (tm 45) (tm 46)),
 se 7 (.st 32 (tm 51) (tm 50))])
 (.reg [sv 0 52 3,
 sm 1 53 (.bin .add 3 (tm 52) (.const (.int .i64 1))),
 sv 2 3 53])) .skip)))
 (.reg [sv 0 33 5,
 sm 1 34 (.bin .add 3 (tm 33) (.const (.int .i64 1))),
 sv 2 5 34])))
def l76_1 : Cd := (.seq (.seq (.reg [sv 0 10 3,
 sv 1 11 0,
 sm 2 12 (.len (.sl 32) (tm 11)),
 sm 3 13 (.bin .lss 3 (tm 10) (tm 12))])
 (.cond (tm 13) .skip (.exit 0)))
 (.seq (.block 1 (.seq (.reg [sv 0 16 0,
 sv 1 17 3,
 sm 2 18 (.ia (.sl 32) (tm 16) (tm 17)),
 sm 3 19 (.ldA 32 (tm 18)),
 sv 4 20 0,
 sv 5 21 3,
 sm 6 22 (.bin .sub 3 (tm 21) (.const (.int .i64 1))),
 sm 7 23 (.ia (.sl 32) (tm 20) (tm 22)),
 sm 8 24 (.ldA 32 (tm 23)),
 sm 9 25 (.bin .eql 61 (tm 19) (tm 24))])
 (.cond (tm 25) (.seq (.reg [sv 0 26 0,
 sv 1 27 3,
 sm 2 28 (.slice (.sl 32) (tm 26) (some (tm 27)) none none),
 sv 3 4 28])
 (.seq (.seq (.reg [sm 0 5 (.mv (.const (.int .i64 1)))])
 (.block 2 (.loop l76_0)))
 (.seq (.reg [sv 0 54 0,
 sv 1 55 3,
 sm 2 56 (.slice (.sl 32) (tm 54) (some (tm 55)) none none),
 se 3 (.clr (rep 32 (.int .u8 0)) (tm 56))])
 (.seq (.reg [sv 0 57 0,
 sv 1 58 3,
 sm 2 59 (.slice (.sl 32) (tm 57) none (some (tm 58)) none),
 sv 3 2 59])
 .ret)))) .skip)))
 (.reg [sv 0 14 3,
 sm 1 15 (.bin .add 3 (tm 14) (.const (.int .i64 1))),
 sv 2 3 15])))
def c76 : Cd := (.seq (.reg [sm 0 2 (.mv (.const (.slice none 0 0)))])
 (.seq (.seq (.reg [sv 0 6 0,
 sm 1 7 (.len (.sl 32) (tm 6)),
 sm 2 8 (.bin .lss 3 (tm 7) (.const (.int .i64 2)))])
 (.cond (tm 8) (.seq (.reg [sv 0 9 0,
 sv 1 2 9])
 .ret) .skip))
 (.seq (.seq (.reg [sm 0 3 (.mv (.const (.int .i64 1)))])
 (.block 0 (.loop l76_1)))
 (.seq (.reg [sv 0 60 0,
 sv 1 2 60])
 .ret))))
def r76 : List Mo := [.mv (tm 2)]
theorem c76_eq : compF Tryz.prog 76 = some c76 := by kernel_rfl
theorem r76_eq : compRs Tryz.prog 76 = some r76 := by kernel_rfl
def l78_0 : Cd := (.seq (.reg [sm 0 9 (.bin .lss 3 (tm 8) (tm 7))])
 (.seq (.cond (tm 9) .skip (.exit 0))
 (.seq (.block 1 (.seq (.reg [sv 0 10 8,
 sv 1 5 10])
 (.seq (.reg [sm 0 11 (.ldA 32 (tm 3)),
 sv 1 12 0,
 sv 2 13 5,
 sm 3 14 (.ia (.sl 32) (tm 12) (tm 13)),
 sm 4 15 (.ldA 32 (tm 14)),
 sm 5 16 (.bin .eql 61 (tm 11) (tm 15))])
 (.cond (tm 16) (.seq (.reg [sv 0 17 5,
 sv 1 4 17])
 .ret) .skip))))
 (.reg [sm 0 18 (.bin .add 3 (tm 8) (.const (.int .i64 1))),
 sv 1 8 18]))))
def c78 : Cd := (.seq (.reg [sm 0 3 (.box (tm 1)),
 sm 1 4 (.mv (.const (.int .i64 0)))])
 (.seq (.seq (.reg [sv 0 6 0,
 sm 1 7 (.len (.sl 32) (tm 6)),
 sm 2 8 (.mv (.const (.int .i64 0)))])
 (.block 0 (.loop l78_0)))
 (.seq (.reg [sm 0 4 (.mv (.const (.int .i64 (-1))))])
 .ret)))
def r78 : List Mo := [.mv (tm 4)]
theorem c78_eq : compF Tryz.prog 78 = some c78 := by kernel_rfl
theorem r78_eq : compRs Tryz.prog 78 = some r78 := by kernel_rfl
def c80 : Cd := (.seq (.reg [sm 0 2 (.alloc [.nilS, .nilS, .int .i64 0]),
 sm 1 3 (.mv (.const (.int .i64 0)))])
 (.seq (.seq (.reg [sv 0 4 0,
 sm 1 5 (.bin .lss 3 (tm 4) (.const (.int .i64 1))),
 sv 2 6 5,
 sg 3 7 6 false (.mv (tm 0)),
 sg 4 8 6 false (.bin .gtr 3 (tm 7) (.const (.int .i64 4))),
 sm 5 9 (.pick (tm 6) (.const (.bool true)) (tm 8))])
 (.cond (tm 9) (.seq (.reg [sm 0 10 (.bld [.nilS, .nilS, .int .i64 0] []),
 se 1 (.st 3 (tm 2) (tm 10)),
 sm 2 3 (.mv (.const (.int .i64 2)))])
 .ret) .skip))
 (.seq (.reg [sv 0 11 0,
 sm 1 12 (.mks 2 48 [.nilS, .nilS] (tm 11) (tm 11)),
 sm 2 13 (.bld [.nilS, .nilS, .int .i64 0] [(0, 1, (tm 12))]),
 se 3 (.st 3 (tm 2) (tm 13)),
 sm 4 3 (.mv (.const (.int .i64 0)))])
 .ret)))
def r80 : List Mo := [.ldA 3 (tm 2), .mv (tm 3)]
theorem c80_eq : compF Tryz.prog 80 = some c80 := by kernel_rfl
theorem r80_eq : compRs Tryz.prog 80 = some r80 := by kernel_rfl
def c81 : Cd := (.seq (.reg [sm 0 2 (.mv (.const (.int .u32 0))),
 sm 1 3 (.mv (.const (.int .i64 0)))])
 (.seq (.seq (.reg [sv 0 5 0,
 sc 1 6 107 [(tm 5)],
 sv 2 4 6])
 (.seq (.reg [sv 0 7 4,
 sm 1 8 (.bin .neq 32 (tm 7) (.const (.int .i64 0)))])
 (.cond (tm 8) (.seq (.reg [sv 0 9 4,
 sm 1 2 (.mv (.const (.int .u32 0))),
 sv 2 3 9])
 .ret) .skip)))
 (.seq (.reg [sv 0 10 0,
 sm 1 11 (.cint .u64 (tm 10)),
 sc 2 12 108 [(tm 11)],
 sv 3 2 12,
 sm 4 3 (.mv (.const (.int .i64 0)))])
 .ret)))
def r81 : List Mo := [.mv (tm 2), .mv (tm 3)]
theorem c81_eq : compF Tryz.prog 81 = some c81 := by kernel_rfl
theorem r81_eq : compRs Tryz.prog 81 = some r81 := by kernel_rfl
def c82 : Cd := (.seq (.reg [sm 0 1 (.box (tm 0)),
 sm 1 2 (.mv (.const (.slice none 0 0))),
 sm 2 3 (.mv (.const (.int .i64 0)))])
 (.seq (.reg [sm 0 12 (.bld [.int .u32 0, .int .u32 0] []),
 sm 1 13 (.fa 9 (tm 1)),
 se 2 (.st 2 (tm 13) (tm 12))])
 (.seq (.seq (.reg [sm 0 14 (.ldA 11 (tm 1)),
 sc 1 15 99 [(tm 14)],
 sv 2 4 15])
 (.seq (.reg [sv 0 16 4,
 sm 1 17 (.bin .neq 32 (tm 16) (.const (.int .i64 0)))])
 (.cond (tm 17) (.seq (.reg [sv 0 18 4,
 sm 1 2 (.mv (.const (.slice none 0 0))),
 sv 2 3 18])
 .ret) .skip)))
 (.seq (.reg [sm 0 20 (.fa 1 (tm 1)),
 sm 1 21 (.ld1 (tm 20)),
 sc 2 22 109 [(tm 21)],
 sv 3 19 22,
 sm 4 23 (.ext (tm 19) 0),
 sm 5 24 (.ext (tm 19) 1),
 sv 6 5 23,
 sv 7 6 24])
 (.seq (.dreg [⟨0, (some 25), none, .mo (.bsl 1 [.int .u8 0] 1 [(0, (.const (.int .u8 111)))]), [], true⟩,
 sm 1 26 (.fa 0 (tm 1)),
 sm 2 27 (.ld1 (tm 26)),
 sm 3 28 (.cint .u64 (tm 27)),
 sv 5 30 5,
 sm 6 31 (.fa 2 (tm 1)),
 ⟨7, (some 32), none, .mo (.ld1 (tm 31)), [], true⟩,
 sm 9 34 (.fa 3 (tm 1)),
 sm 10 35 (.fa 0 (tm 34)),
 ⟨11, (some 36), none, .mo (.ld1 (tm 35)), [], true⟩,
 ⟨12, (some 37), none, .mo (.bsl 1 [.int .u8 0] 1 [(0, (tm 36))]), [], true⟩,
 ⟨4, (some 29), none, .callF 111 [(tm 28)], [12, 11, 7, 0], false⟩,
 ⟨8, (some 33), none, .callF 111 [(tm 32)], [12, 11, 0], false⟩,
 sm 13 38 (.bsl 1 [.nilS] 5 [(0, (tm 25)), (1, (tm 29)), (2, (tm 30)), (3, (tm 33)), (4, (tm 37))]),
 sc 14 39 110 [(tm 38)],
 sv 15 7 39])
 (.seq (.seq (.reg [sm 0 40 (.fa 3 (tm 1)),
 sm 1 41 (.fa 0 (tm 40)),
 sm 2 42 (.ld1 (tm 41)),
 sm 3 43 (.bin .eql 5 (tm 42) (.const (.int .u8 1)))])
 (.cond (tm 43) (.seq (.reg [sv 0 44 7,
 sv 1 2 44,
 sm 2 3 (.mv (.const (.int .i64 0)))])
 .ret) .skip))
 (.seq (.reg [sm 0 46 (.fa 3 (tm 1)),
 sm 1 47 (.fa 1 (tm 46)),
 sm 2 48 (.ld1 (tm 47)),
 sm 3 49 (.csb (tm 48)),
 sc 4 50 112 [(tm 49)],
 sv 5 45 50,
 sm 6 51 (.ext (tm 45) 0),
 sm 7 52 (.ext (tm 45) 1),
 sv 8 8 51,
 sv 9 9 52])
 (.seq (.reg [sv 0 53 7,
 sv 1 54 8,
 sm 2 55 (.app 1 1 (tm 53) (tm 54)),
 sv 3 7 55])
 (.seq (.seq (.reg [sm 0 56 (.fa 3 (tm 1)),
 sm 1 57 (.fa 0 (tm 56)),
 sm 2 58 (.ld1 (tm 57)),
 sm 3 59 (.bin .eql 5 (tm 58) (.const (.int .u8 4)))])
 (.cond (tm 59) (.seq (.reg [sm 0 61 (.fa 3 (tm 1)),
 sm 1 62 (.fa 2 (tm 61)),
 sm 2 63 (.ldA 4 (tm 62)),
 sc 3 64 113 [(tm 63)],
 sv 4 60 64,
 sm 5 65 (.ext (tm 60) 0),
 sm 6 66 (.ext (tm 60) 1),
 sv 7 10 65,
 sv 8 11 66])
 (.reg [sv 0 67 7,
 sv 1 68 10,
 sm 2 69 (.app 1 1 (tm 67) (tm 68)),
 sv 3 7 69])) .skip))
 (.seq (.reg [sv 0 70 7,
 sv 1 2 70,
 sm 2 3 (.mv (.const (.int .i64 0)))])
 .ret))))))))))
def r82 : List Mo := [.mv (tm 2), .mv (tm 3)]
theorem c82_eq : compF Tryz.prog 82 = some c82 := by kernel_rfl
theorem r82_eq : compRs Tryz.prog 82 = some r82 := by kernel_rfl
def c83 : Cd := (.seq (.reg [sm 0 4 (.alloc [.int .u32 0, .int .u32 0]),
 sm 1 5 (.mv (.const (.int .i64 0)))])
 (.seq (.reg [sv 0 17 0,
 sv 1 18 1,
 sc 2 19 114 [(tm 17), (tm 18)],
 sv 3 16 19,
 sm 4 20 (.ext (tm 16) 0),
 sm 5 21 (.ext (tm 16) 1),
 sv 6 6 20,
 sv 7 7 21])
 (.seq (.seq (.reg [sv 0 22 7,
 sm 1 23 (.bin .neq 32 (tm 22) (.const (.int .i64 0)))])
 (.cond (tm 23) (.seq (.reg [sm 0 24 (.bld [.int .u32 0, .int .u32 0] []),
 sv 1 25 7,
 se 2 (.st 2 (tm 4) (tm 24)),
 sv 3 5 25])
 .ret) .skip))
 (.seq (.reg [sv 0 27 0,
 sc 1 28 81 [(tm 27)],
 sv 2 26 28,
 sm 3 29 (.ext (tm 26) 0),
 sm 4 30 (.ext (tm 26) 1),
 sv 5 8 29,
 sv 6 9 30])
 (.seq (.reg [sv 0 32 6,
 sm 1 33 (.cint .u64 (tm 32)),
 sc 2 34 108 [(tm 33)],
 sv 3 35 8,
 sv 4 36 1,
 sc 5 37 115 [(tm 34), (tm 35), (tm 36)],
 sv 6 31 37,
 sm 7 38 (.ext (tm 31) 0),
 sm 8 39 (.ext (tm 31) 1),
 sv 9 10 38,
 sv 10 11 39])
 (.seq (.reg [sv 0 41 10,
 sv 1 42 0,
 sc 2 43 116 [(tm 41), (tm 42)],
 sv 3 40 43,
 sm 4 44 (.ext (tm 40) 0),
 sm 5 45 (.ext (tm 40) 1),
 sv 6 12 44,
 sv 7 13 45])
 (.seq (.reg [sv 0 47 6,
 sv 1 48 12,
 sc 2 49 117 [(tm 47), (tm 48)],
 sv 3 46 49,
 sm 4 50 (.ext (tm 46) 0),
 sm 5 51 (.ext (tm 46) 1),
 sv 6 14 50,
 sv 7 15 51])
 (.seq (.reg [sv 0 52 10,
 sv 1 53 14,
 sm 2 54 (.bld [.int .u32 0, .int .u32 0] [(0, 1, (tm 52)), (1, 1, (tm 53))]),
 se 3 (.st 2 (tm 4) (tm 54)),
 sm 4 5 (.mv (.const (.int .i64 0)))])
 .ret))))))))
def r83 : List Mo := [.ldA 2 (tm 4), .mv (tm 5)]
theorem c83_eq : compF Tryz.prog 83 = some c83 := by kernel_rfl
theorem r83_eq : compRs Tryz.prog 83 = some r83 := by kernel_rfl
def c84 : Cd := (.seq (.reg [sm 0 1 (.box (tm 0)),
 sm 1 2 (.mv (.const (.slice none 0 0))),
 sm 2 3 (.mv (.const (.int .i64 0)))])
 (.seq (.seq (.reg [sm 0 7 (.ldA 11 (tm 1)),
 sc 1 8 99 [(tm 7)],
 sv 2 4 8])
 (.seq (.reg [sv 0 9 4,
 sm 1 10 (.bin .neq 32 (tm 9) (.const (.int .i64 0)))])
 (.cond (tm 10) (.seq (.reg [sv 0 11 4,
 sm 1 2 (.mv (.const (.slice none 0 0))),
 sv 2 3 11])
 .ret) .skip)))
 (.seq (.reg [sm 0 13 (.ldA 11 (tm 1)),
 sc 1 14 82 [(tm 13)],
 sv 2 12 14,
 sm 3 15 (.ext (tm 12) 0),
 sm 4 16 (.ext (tm 12) 1),
 sv 5 5 15,
 sv 6 6 16])
 (.seq (.dreg [sv 0 17 5,
 sm 1 18 (.fa 9 (tm 1)),
 sm 2 19 (.fa 0 (tm 18)),
 sm 3 20 (.ld1 (tm 19)),
 sm 4 21 (.cint .u64 (tm 20)),
 sm 6 23 (.fa 9 (tm 1)),
 sm 7 24 (.fa 1 (tm 23)),
 ⟨8, (some 25), none, .mo (.ld1 (tm 24)), [], true⟩,
 ⟨9, (some 26), none, .mo (.cint .u64 (tm 25)), [], true⟩,
 ⟨5, (some 22), none, .callF 111 [(tm 21)], [9, 8], false⟩,
 sc 10 27 111 [(tm 26)],
 sm 11 28 (.bsl 1 [.nilS] 3 [(0, (tm 17)), (1, (tm 22)), (2, (tm 27))]),
 sc 12 29 110 [(tm 28)],
 sv 13 2 29,
 sm 14 3 (.mv (.const (.int .i64 0)))])
 .ret))))
def r84 : List Mo := [.mv (tm 2), .mv (tm 3)]
theorem c84_eq : compF Tryz.prog 84 = some c84 := by kernel_rfl
theorem r84_eq : compRs Tryz.prog 84 = some r84 := by kernel_rfl
def c85 : Cd := (.seq (.reg [sm 0 2 (.alloc (rep 32 (.int .u8 0))),
 sm 1 3 (.mv (.const (.int .i64 0)))])
 (.seq (.reg [sv 0 4 0,
 sm 1 5 (.bsl 1 [.nilS] 1 [(0, (tm 4))]),
 sc 2 6 118 [(tm 5)],
 sm 3 7 (.ext (tm 6) 0),
 sm 4 8 (.ext (tm 6) 1),
 se 5 (.st 32 (tm 2) (tm 7)),
 sv 6 3 8])
 .ret))
def r85 : List Mo := [.ldA 32 (tm 2), .mv (tm 3)]
theorem c85_eq : compF Tryz.prog 85 = some c85 := by kernel_rfl
theorem r85_eq : compRs Tryz.prog 85 = some r85 := by kernel_rfl
def c86 : Cd := (.seq (.reg [sm 0 2 (.box (tm 0)),
 sm 1 3 (.box (tm 1)),
 sm 2 4 (.mv (.const (.int .i64 0)))])
 (.seq (.seq (.reg [sm 0 6 (.ldA 5 (tm 2)),
 sc 1 7 60 [(tm 6)],
 sv 2 5 7])
 (.seq (.reg [sv 0 8 5,
 sm 1 9 (.bin .neq 32 (tm 8) (.const (.int .i64 0)))])
 (.cond (tm 9) (.seq (.reg [sv 0 10 5,
 sv 1 4 10])
 .ret) .skip)))
 (.seq (.reg [sm 0 11 (.ldA 11 (tm 3)),
 sc 1 12 67 [(tm 11)],
 sv 2 4 12])
 .ret)))
def r86 : List Mo := [.mv (tm 4)]
theorem c86_eq : compF Tryz.prog 86 = some c86 := by kernel_rfl
theorem r86_eq : compRs Tryz.prog 86 = some r86 := by kernel_rfl
def l88_0 : Cd := (.seq (.reg [sm 0 56 (.bin .lss 3 (tm 55) (tm 54))])
 (.seq (.cond (tm 56) .skip (.exit 2))
 (.seq (.block 3 (.seq (.reg [sv 0 57 55,
 sv 1 5 57])
 (.dreg [sv 0 58 4,
 sm 1 59 (.nilc (tm 58)),
 sm 2 60 (.fa 1 (tm 59)),
 ⟨3, (some 61), none, .mo (.ld1 (tm 60)), [], true⟩,
 sv 4 62 5,
 sv 5 63 4,
 sm 6 64 (.nilc (tm 63)),
 sm 7 65 (.fa 1 (tm 64)),
 sm 8 66 (.ld1 (tm 65)),
 sv 9 67 5,
 sm 10 68 (.ia (.sl 11) (tm 66) (tm 67)),
 sm 11 69 (.fa 1 (tm 68)),
 sm 12 70 (.ld1 (tm 69)),
 ⟨13, (some 71), none, .callF 61 [(tm 70)], [3], false⟩,
 sm 14 72 (.ia (.sl 11) (tm 61) (tm 62)),
 sm 15 73 (.fa 1 (tm 72)),
 se 16 (.st 1 (tm 73) (tm 71))])))
 (.reg [sm 0 74 (.bin .add 3 (tm 55) (.const (.int .i64 1))),
 sv 1 55 74]))))
def l88_1 : Cd := (.seq (.reg [sm 0 27 (.bin .lss 3 (tm 26) (tm 25))])
 (.seq (.cond (tm 27) .skip (.exit 0))
 (.seq (.block 1 (.seq (.reg [sv 0 28 26,
 sv 1 3 28])
 (.seq (.reg [sm 0 29 (.fa 1 (tm 1)),
 sm 1 30 (.fa 0 (tm 29)),
 sm 2 31 (.ld1 (tm 30)),
 sv 3 32 3,
 sm 4 33 (.ia (.sl 2) (tm 31) (tm 32)),
 sv 5 4 33])
 (.seq (.dreg [sv 0 34 4,
 sv 1 35 4,
 sv 2 36 4,
 sm 3 37 (.nilc (tm 36)),
 sm 4 38 (.fa 0 (tm 37)),
 sm 5 39 (.ld1 (tm 38)),
 sv 7 41 4,
 sm 8 42 (.nilc (tm 41)),
 sm 9 43 (.fa 1 (tm 42)),
 ⟨10, (some 44), none, .mo (.ld1 (tm 43)), [], true⟩,
 ⟨6, (some 40), none, .callF 61 [(tm 39)], [10], false⟩,
 sc 11 45 121 [(tm 44)],
 sm 12 46 (.nilc (tm 34)),
 sm 13 47 (.fa 0 (tm 46)),
 se 14 (.st 1 (tm 47) (tm 40)),
 sm 15 48 (.nilc (tm 35)),
 sm 16 49 (.fa 1 (tm 48)),
 se 17 (.st 1 (tm 49) (tm 45))])
 (.seq (.reg [sv 0 50 4,
 sm 1 51 (.nilc (tm 50)),
 sm 2 52 (.fa 1 (tm 51)),
 sm 3 53 (.ld1 (tm 52)),
 sm 4 54 (.len (.sl 11) (tm 53)),
 sm 5 55 (.mv (.const (.int .i64 0)))])
 (.block 2 (.loop l88_0)))))))
 (.reg [sm 0 75 (.bin .add 3 (tm 26) (.const (.int .i64 1))),
 sv 1 26 75]))))
def c88 : Cd := (.seq (.reg [sm 0 1 (.box (tm 0)),
 sm 1 2 (.alloc [.int .i64 0, .nilS, .nilS, .int .i64 0, .nilS])])
 (.seq (.dreg [sm 0 6 (.fa 1 (tm 1)),
 sm 1 7 (.fa 1 (tm 6)),
 sm 2 8 (.ld1 (tm 7)),
 sm 4 10 (.fa 4 (tm 1)),
 ⟨5, (some 11), none, .mo (.ld1 (tm 10)), [], true⟩,
 ⟨3, (some 9), none, .callF 61 [(tm 8)], [5], false⟩,
 sm 7 13 (.fa 1 (tm 1)),
 sm 8 14 (.fa 1 (tm 13)),
 sc 6 12 61 [(tm 11)],
 se 9 (.st 1 (tm 14) (tm 9)),
 sm 10 15 (.fa 4 (tm 1)),
 se 11 (.st 1 (tm 15) (tm 12))])
 (.seq (.reg [sm 0 16 (.fa 1 (tm 1)),
 sm 1 17 (.fa 0 (tm 16)),
 sm 2 18 (.ld1 (tm 17)),
 sc 3 19 120 [(tm 18)],
 sm 4 20 (.fa 1 (tm 1)),
 sm 5 21 (.fa 0 (tm 20)),
 se 6 (.st 1 (tm 21) (tm 19))])
 (.seq (.seq (.reg [sm 0 22 (.fa 1 (tm 1)),
 sm 1 23 (.fa 0 (tm 22)),
 sm 2 24 (.ld1 (tm 23)),
 sm 3 25 (.len (.sl 2) (tm 24)),
 sm 4 26 (.mv (.const (.int .i64 0)))])
 (.block 0 (.loop l88_1)))
 (.seq (.reg [sm 0 76 (.ldA 5 (tm 1)),
 se 1 (.st 5 (tm 2) (tm 76))])
 .ret)))))
def r88 : List Mo := [.ldA 5 (tm 2)]
theorem c88_eq : compF Tryz.prog 88 = some c88 := by kernel_rfl
theorem r88_eq : compRs Tryz.prog 88 = some r88 := by kernel_rfl
def l89_0 : Cd := (.seq (.reg [sm 0 69 (.bin .lss 3 (tm 68) (tm 67))])
 (.seq (.cond (tm 69) .skip (.exit 1))
 (.seq (.block 2 (.seq (.reg [sm 0 70 (.ia (.sl 2) (tm 66) (tm 68)),
 sm 1 71 (.ldA 2 (tm 70)),
 sm 2 16 (.alloc [.nilS, .nilS]),
 se 3 (.st 2 (tm 16) (tm 71))])
 (.dreg [sm 0 72 (.fa 0 (tm 14)),
 ⟨1, (some 73), none, .mo (.ld1 (tm 72)), [], true⟩,
 sm 2 74 (.ldA 2 (tm 16)),
 ⟨3, (some 75), none, .callF 125 [(tm 74)], [1], false⟩,
 sm 4 76 (.bsl 2 [.nilS, .nilS] 1 [(0, (tm 75))]),
 sm 5 77 (.app 2 48 (tm 73) (tm 76)),
 sm 6 78 (.fa 0 (tm 14)),
 se 7 (.st 1 (tm 78) (tm 77))])))
 (.reg [sm 0 79 (.bin .add 3 (tm 68) (.const (.int .i64 1))),
 sv 1 68 79]))))
def c89 : Cd := (.seq (.reg [sm 0 2 (.box (tm 0)),
 sm 1 3 (.box (tm 1)),
 sm 2 4 (.alloc [.nilS, .nilS, .int .i64 0]),
 sm 3 5 (.alloc (rep 32 (.int .u8 0))),
 sm 4 6 (.mv (.const (.int .i64 0)))])
 (.seq (.reg [sm 0 20 (.ldA 3 (tm 2)),
 sc 1 21 122 [(tm 20)],
 sv 2 7 21])
 (.seq (.seq (.reg [sv 0 22 7,
 sm 1 23 (.bin .eql 32 (tm 22) (.const (.int .i64 0)))])
 (.cond (tm 23) (.reg [sm 0 24 (.ldA 11 (tm 3)),
 sc 1 25 67 [(tm 24)],
 sv 2 7 25]) .skip))
 (.seq (.seq (.reg [sv 0 26 7,
 sm 1 27 (.bin .neq 32 (tm 26) (.const (.int .i64 0)))])
 (.cond (tm 27) (.seq (.reg [sm 0 28 (.bld [.nilS, .nilS, .int .i64 0] []),
 sm 1 29 (.bld (rep 32 (.int .u8 0)) []),
 sv 2 30 7,
 se 3 (.st 3 (tm 4) (tm 28)),
 se 4 (.st 32 (tm 5) (tm 29)),
 sv 5 6 30])
 .ret) .skip))
 (.seq (.reg [sm 0 32 (.ldA 11 (tm 3)),
 sc 1 33 55 [(tm 32)],
 sv 2 31 33,
 sm 3 34 (.ext (tm 31) 0),
 sm 4 35 (.ext (tm 31) 1),
 sm 5 8 (.alloc (rep 32 (.int .u8 0))),
 se 6 (.st 32 (tm 8) (tm 34)),
 sv 7 9 35])
 (.seq (.reg [sm 0 37 (.ldA 3 (tm 2)),
 sm 1 38 (.ldA 32 (tm 8)),
 sc 2 39 123 [(tm 37), (tm 38)],
 sv 3 36 39,
 sm 4 40 (.ext (tm 36) 0),
 sm 5 41 (.ext (tm 36) 1),
 sm 6 42 (.ext (tm 36) 2),
 sv 7 10 40,
 sv 8 11 41,
 sv 9 12 42])
 (.seq (.reg [sm 0 43 (.mkF 124 [] [(tm 2)]),
 sv 1 13 43])
 (.seq (.block 0 (.seq (.reg [sv 0 45 12,
 sv 1 44 45])
 (.cond (tm 44) (.seq (.reg [sm 0 46 (.bld [.nilS, .nilS, .int .i64 0] []),
 sm 1 47 (.bld (rep 32 (.int .u8 0)) []),
 se 2 (.st 3 (tm 4) (tm 46)),
 se 3 (.st 32 (tm 5) (tm 47)),
 sm 4 6 (.mv (.const (.int .i64 14)))])
 .ret) (.seq (.reg [sm 0 49 (.fa 1 (tm 3)),
 sm 1 50 (.ld1 (tm 49)),
 sv 2 51 13,
 sc 3 52 97 [(tm 50), (tm 51)],
 sv 4 48 52])
 (.cond (tm 48) (.seq (.reg [sm 0 53 (.bld [.nilS, .nilS, .int .i64 0] []),
 sm 1 54 (.bld (rep 32 (.int .u8 0)) []),
 se 2 (.st 3 (tm 4) (tm 53)),
 se 3 (.st 32 (tm 5) (tm 54)),
 sm 4 6 (.mv (.const (.int .i64 40)))])
 .ret) (.seq (.reg [sm 0 56 (.fa 2 (tm 2)),
 sm 1 57 (.ld1 (tm 56)),
 sm 2 58 (.bin .eql 3 (tm 57) (.const (.int .i64 60))),
 sv 3 55 58])
 (.cond (tm 55) (.seq (.reg [sm 0 59 (.bld [.nilS, .nilS, .int .i64 0] []),
 sm 1 60 (.bld (rep 32 (.int .u8 0)) []),
 se 2 (.st 3 (tm 4) (tm 59)),
 se 3 (.st 32 (tm 5) (tm 60)),
 sm 4 6 (.mv (.const (.int .i64 18)))])
 .ret) .skip)))))))
 (.seq (.reg [sm 0 61 (.fa 2 (tm 2)),
 sm 1 62 (.ld1 (tm 61)),
 sm 2 63 (.bin .add 3 (tm 62) (.const (.int .i64 1))),
 sm 3 64 (.bld [.nilS, .nilS, .int .i64 0] [(2, 1, (tm 63))]),
 sm 4 14 (.alloc [.nilS, .nilS, .int .i64 0]),
 se 5 (.st 3 (tm 14) (tm 64))])
 (.seq (.seq (.reg [sm 0 65 (.fa 0 (tm 2)),
 sm 1 66 (.ld1 (tm 65)),
 sm 2 67 (.len (.sl 2) (tm 66)),
 sm 3 68 (.mv (.const (.int .i64 0)))])
 (.block 1 (.loop l89_0)))
 (.seq (.reg [sm 0 80 (.fa 1 (tm 3)),
 sm 1 81 (.ld1 (tm 80)),
 sc 2 82 61 [(tm 81)],
 sm 3 83 (.fa 1 (tm 3)),
 se 4 (.st 1 (tm 83) (tm 82))])
 (.seq (.reg [sm 0 84 (.fa 0 (tm 14)),
 sm 1 85 (.ld1 (tm 84)),
 sv 2 86 10,
 sm 3 87 (.ia (.sl 2) (tm 85) (tm 86)),
 sv 4 17 87])
 (.seq (.dreg [sv 0 88 17,
 sv 1 89 17,
 sv 2 90 17,
 sm 3 91 (.nilc (tm 90)),
 sm 4 92 (.fa 0 (tm 91)),
 sm 5 93 (.ld1 (tm 92)),
 sv 6 94 11,
 sm 7 95 (.ldA 32 (tm 8)),
 sm 8 96 (.bsl 32 (rep 32 (.int .u8 0)) 1 [(0, (tm 95))]),
 sv 10 98 17,
 sm 11 99 (.nilc (tm 98)),
 sm 12 100 (.fa 1 (tm 99)),
 ⟨13, (some 101), none, .mo (.ld1 (tm 100)), [], true⟩,
 sv 14 102 11,
 ⟨15, (some 103), none, .mo (.ldA 11 (tm 3)), [], true⟩,
 ⟨16, (some 104), none, .mo (.bsl 11 [.int .u32 0, .nilS, .int .u64 0, .int .u8 0, .str [], .int .u8 0, .int .i64 0, .int .u64 0, .str [], .int .u32 0, .int .u32 0] 1 [(0, (tm 103))]), [], true⟩,
 ⟨9, (some 97), none, .callF 126 [(tm 93), (tm 94), (tm 96)], [16, 15, 13], false⟩,
 sc 17 105 127 [(tm 101), (tm 102), (tm 104)],
 sm 18 106 (.nilc (tm 88)),
 sm 19 107 (.fa 0 (tm 106)),
 se 20 (.st 1 (tm 107) (tm 97)),
 sm 21 108 (.nilc (tm 89)),
 sm 22 109 (.fa 1 (tm 108)),
 se 23 (.st 1 (tm 109) (tm 105))])
 (.seq (.reg [sm 0 110 (.fa 1 (tm 2)),
 sm 1 111 (.ld1 (tm 110)),
 sc 2 112 61 [(tm 111)],
 sm 3 113 (.mkF 128 [] [(tm 3)]),
 sc 4 114 72 [(tm 112), (tm 113)],
 sm 5 115 (.fa 1 (tm 14)),
 se 6 (.st 1 (tm 115) (tm 114))])
 (.seq (.reg [sm 0 117 (.fa 1 (tm 14)),
 sm 1 118 (.ld1 (tm 117)),
 sm 2 119 (.ldA 32 (tm 8)),
 sc 3 120 96 [(tm 118), (tm 119), (.func 75)],
 sv 4 116 120,
 sm 5 121 (.ext (tm 116) 0),
 sm 6 122 (.ext (tm 116) 1),
 sv 7 18 121,
 sv 8 19 122])
 (.seq (.reg [sm 0 123 (.fa 1 (tm 14)),
 sm 1 124 (.ld1 (tm 123)),
 sv 2 125 18,
 sm 3 126 (.ldA 32 (tm 8)),
 sm 4 127 (.bsl 32 (rep 32 (.int .u8 0)) 1 [(0, (tm 126))]),
 sc 5 128 126 [(tm 124), (tm 125), (tm 127)],
 sm 6 129 (.fa 1 (tm 14)),
 se 7 (.st 1 (tm 129) (tm 128))])
 (.seq (.dreg [sm 0 130 (.ldA 3 (tm 14)),
 ⟨1, (some 131), none, .mo (.ldA 32 (tm 8)), [], true⟩,
 ⟨2, none, none, .mo (.st 3 (tm 4) (tm 130)), [1], false⟩,
 se 3 (.st 32 (tm 5) (tm 131)),
 sm 4 6 (.mv (.const (.int .i64 0)))])
 .ret)))))))))))))))))
def r89 : List Mo := [.ldA 3 (tm 4), .ldA 32 (tm 5), .mv (tm 6)]
theorem c89_eq : compF Tryz.prog 89 = some c89 := by kernel_rfl
theorem r89_eq : compRs Tryz.prog 89 = some r89 := by kernel_rfl
def c93 : Cd := (.seq (.reg [sm 0 2 (.box (tm 0)),
 sm 1 3 (.box (tm 1)),
 sm 2 4 (.mv (.const (.bool false)))])
 (.seq (.reg [sm 0 6 (.fa 1 (tm 3)),
 sm 1 7 (.ld1 (tm 6)),
 sm 2 8 (.len (.sl 32) (tm 7)),
 sv 3 5 8])
 (.seq (.seq (.reg [sm 0 9 (.fa 0 (tm 3)),
 sm 1 10 (.ld1 (tm 9)),
 sm 2 11 (.bin .lss 3 (tm 10) (.const (.int .i64 0))),
 sv 3 12 11,
 sg 4 13 12 false (.fa 0 (tm 3)),
 sg 5 14 12 false (.ld1 (tm 13)),
 sg 6 15 12 false (.bin .gtr 3 (tm 14) (.const (.int .i64 1000000000))),
 sm 7 16 (.pick (tm 12) (.const (.bool true)) (tm 15)),
 sv 8 17 16,
 sg 9 18 17 false (.mv (tm 5)),
 sg 10 19 17 false (.fa 0 (tm 2)),
 sg 11 20 17 false (.ld1 (tm 19)),
 sg 12 21 17 false (.bin .gtr 3 (tm 18) (tm 20)),
 sm 13 22 (.pick (tm 17) (.const (.bool true)) (tm 21))])
 (.cond (tm 22) (.seq (.reg [sm 0 4 (.mv (.const (.bool false)))])
 .ret) .skip))
 (.seq (.block 0 (.seq (.reg [sm 0 24 (.fa 3 (tm 3)),
 sm 1 25 (.ld1 (tm 24)),
 sv 2 23 25])
 (.cond (tm 23) (.seq (.reg [sv 0 26 5,
 sm 1 27 (.bin .eql 3 (tm 26) (.const (.int .i64 0))),
 sv 2 28 27,
 sg 3 29 28 true (.fa 2 (tm 3)),
 sg 4 30 28 true (.ld1 (tm 29)),
 sg 5 31 28 true (.un .not (tm 30)),
 sm 6 32 (.pick (tm 28) (tm 31) (.const (.bool false))),
 sv 7 4 32])
 .ret) (.seq (.reg [sm 0 34 (.fa 2 (tm 3)),
 sm 1 35 (.ld1 (tm 34)),
 sv 2 33 35])
 (.cond (tm 33) (.seq (.reg [sm 0 36 (.fa 0 (tm 3)),
 sm 1 37 (.ld1 (tm 36)),
 sv 2 38 5,
 sm 3 39 (.bin .add 3 (tm 37) (tm 38)),
 sm 4 40 (.fa 1 (tm 2)),
 sm 5 41 (.ld1 (tm 40)),
 sm 6 42 (.bin .leq 3 (tm 39) (tm 41)),
 sv 7 4 42])
 .ret) .skip)))))
 (.seq (.reg [sm 0 43 (.fa 0 (tm 3)),
 sm 1 44 (.ld1 (tm 43)),
 sv 2 45 5,
 sm 3 46 (.bin .add 3 (tm 44) (tm 45)),
 sm 4 47 (.fa 1 (tm 2)),
 sm 5 48 (.ld1 (tm 47)),
 sm 6 49 (.bin .eql 3 (tm 46) (tm 48)),
 sv 7 50 49,
 sg 8 51 50 false (.mv (tm 5)),
 sg 9 52 50 false (.bin .eql 3 (tm 51) (.const (.int .i64 0))),
 sg 10 53 50 false (.mv (tm 52)),
 sg 11 54 53 true (.fa 0 (tm 3)),
 sg 12 55 53 true (.ld1 (tm 54)),
 sg 13 56 53 true (.fa 1 (tm 2)),
 sg 14 57 53 true (.ld1 (tm 56)),
 sg 15 58 53 true (.bin .gtr 3 (tm 55) (tm 57)),
 sg 16 59 50 false (.pick (tm 53) (tm 58) (.const (.bool false))),
 sm 17 60 (.pick (tm 50) (.const (.bool true)) (tm 59)),
 sv 18 4 60])
 .ret)))))
def r93 : List Mo := [.mv (tm 4)]
theorem c93_eq : compF Tryz.prog 93 = some c93 := by kernel_rfl
theorem r93_eq : compRs Tryz.prog 93 = some r93 := by kernel_rfl
def c94 : Cd := (.seq (.reg [sm 0 2 (.mv (.const (.slice none 0 0)))])
 (.seq (.seq (.reg [sv 0 3 0,
 sm 1 4 (.bin .eql 72 (tm 3) (.const (.slice none 0 0)))])
 (.cond (tm 4) (.seq (.reg [sm 0 2 (.mv (.const (.slice none 0 0)))])
 .ret) .skip))
 (.seq (.reg [sm 0 5 (.bsl 4 [.int .i64 0, .nilS, .bool false, .bool false] 0 []),
 sv 1 6 0,
 sm 2 7 (.app 4 40 (tm 5) (tm 6)),
 sv 3 2 7])
 .ret)))
def r94 : List Mo := [.mv (tm 2)]
theorem c94_eq : compF Tryz.prog 94 = some c94 := by kernel_rfl
theorem r94_eq : compRs Tryz.prog 94 = some r94 := by kernel_rfl
def c95 : Cd := (.seq (.reg [sm 0 1 (.box (tm 0)),
 sm 1 2 (.alloc [.nilS, .nilS]),
 sm 2 3 (.mv (.const (.int .i64 0)))])
 (.seq (.reg [sm 0 4 (.ldA 3 (tm 1)),
 sc 1 5 134 [(tm 4)],
 sm 2 6 (.ext (tm 5) 0),
 sm 3 7 (.ext (tm 5) 1),
 se 4 (.st 2 (tm 2) (tm 6)),
 sv 5 3 7])
 .ret))
def r95 : List Mo := [.ldA 2 (tm 2), .mv (tm 3)]
theorem c95_eq : compF Tryz.prog 95 = some c95 := by kernel_rfl
theorem r95_eq : compRs Tryz.prog 95 = some r95 := by kernel_rfl
def l96_0 : Cd := (.seq (.seq (.reg [sv 0 15 9,
 sv 1 16 10,
 sm 2 17 (.bin .lss 3 (tm 15) (tm 16))])
 (.cond (tm 17) .skip (.exit 0)))
 (.block 1 (.seq (.reg [sv 0 18 9,
 sv 1 19 10,
 sm 2 20 (.bin .add 3 (tm 18) (tm 19)),
 sm 3 21 (.cint .u64 (tm 20)),
 sm 4 22 (.bin .shr 167 (tm 21) (.const (.int .u64 1))),
 sm 5 23 (.cint .i64 (tm 22)),
 sv 6 11 23])
 (.seq (.reg [sv 0 24 2,
 sv 1 25 0,
 sv 2 26 11,
 sm 3 27 (.ia (.sl 32) (tm 25) (tm 26)),
 sm 4 28 (.ldA 32 (tm 27)),
 sm 5 29 (.ldA 32 (tm 4)),
 ⟨6, (some 30), none, .callV (tm 24) [(tm 28), (tm 29)], [], false⟩,
 sm 7 31 (.bin .lss 3 (tm 30) (.const (.int .i64 0)))])
 (.cond (tm 31) (.reg [sv 0 32 11,
 sm 1 33 (.bin .add 3 (tm 32) (.const (.int .i64 1))),
 sv 2 9 33]) (.reg [sv 0 34 11,
 sv 1 10 34]))))))
def c96 : Cd := (.seq (.reg [sm 0 4 (.box (tm 1)),
 sm 1 6 (.mv (.const (.int .i64 0))),
 sm 2 7 (.mv (.const (.bool false)))])
 (.seq (.reg [sv 0 12 0,
 sm 1 13 (.len (.sl 32) (tm 12)),
 sv 2 8 13])
 (.seq (.reg [sv 0 14 8,
 sm 1 9 (.mv (.const (.int .i64 0))),
 sv 2 10 14])
 (.seq (.block 0 (.loop l96_0))
 (.seq (.reg [sv 0 35 9,
 sv 1 36 9,
 sv 2 37 8,
 sm 3 38 (.bin .lss 3 (tm 36) (tm 37)),
 sv 4 39 38,
 sg 5 40 39 true (.mv (tm 2)),
 sg 6 41 39 true (.mv (tm 0)),
 sg 7 42 39 true (.mv (tm 9)),
 sg 8 43 39 true (.ia (.sl 32) (tm 41) (tm 42)),
 sg 9 44 39 true (.ldA 32 (tm 43)),
 sg 10 45 39 true (.ldA 32 (tm 4)),
 ⟨11, (some 46), (some ((some 39), true)), .callV (tm 40) [(tm 44), (tm 45)], [], false⟩,
 sg 12 47 39 true (.bin .eql 3 (tm 46) (.const (.int .i64 0))),
 sm 13 48 (.pick (tm 39) (tm 47) (.const (.bool false))),
 sv 14 6 35,
 sv 15 7 48])
 .ret)))))
def r96 : List Mo := [.mv (tm 6), .mv (tm 7)]
theorem c96_eq : compF Tryz.prog 96 = some c96 := by kernel_rfl
theorem r96_eq : compRs Tryz.prog 96 = some r96 := by kernel_rfl
def c97 : Cd := (.seq (.reg [sm 0 4 (.mv (.const (.bool false)))])
 (.seq (.reg [sv 0 5 0,
 sv 1 6 1,
 sc 2 7 101 [(tm 5), (tm 6)],
 sm 3 8 (.bin .geq 3 (tm 7) (.const (.int .i64 0))),
 sv 4 4 8])
 .ret))
def r97 : List Mo := [.mv (tm 4)]
theorem c97_eq : compF Tryz.prog 97 = some c97 := by kernel_rfl
theorem r97_eq : compRs Tryz.prog 97 = some r97 := by kernel_rfl
def c98 : Cd := (.seq (.reg [sm 0 2 (.box (tm 0)),
 sm 1 3 (.mv (.const (.bool false)))])
 (.seq (.reg [sm 0 4 (.ld1 (tm 1)),
 sm 1 5 (.ldA 32 (tm 2)),
 sc 2 6 48 [(tm 4), (tm 5)],
 sm 3 7 (.un .not (tm 6)),
 sv 4 3 7])
 .ret))
def r98 : List Mo := [.mv (tm 3)]
theorem c98_eq : compF Tryz.prog 98 = some c98 := by kernel_rfl
theorem r98_eq : compRs Tryz.prog 98 = some r98 := by kernel_rfl
def c99 : Cd := (.seq (.reg [sm 0 1 (.box (tm 0)),
 sm 1 2 (.mv (.const (.int .i64 0)))])
 (.seq (.block 0 (.seq (.reg [sm 0 4 (.fa 1 (tm 1)),
 sm 1 5 (.ld1 (tm 4)),
 sm 2 6 (.len (.sl 32) (tm 5)),
 sm 3 7 (.bin .gtr 3 (tm 6) (.const (.int .i64 4))),
 sv 4 3 7])
 (.cond (tm 3) (.seq (.reg [sm 0 2 (.mv (.const (.int .i64 4)))])
 .ret) (.seq (.dreg [sm 0 9 (.fa 1 (tm 1)),
 sm 1 10 (.ld1 (tm 9)),
 sc 2 11 135 [(tm 10), (.func 75)],
 sm 3 12 (.un .not (tm 11)),
 sv 4 13 12,
 sg 5 14 13 false (.fa 1 (tm 1)),
 sg 6 15 13 false (.ld1 (tm 14)),
 sg 10 19 13 false (.fa 1 (tm 1)),
 ⟨11, (some 20), (some ((some 13), false)), .mo (.ld1 (tm 19)), [], true⟩,
 sg 12 21 13 false (.len (.sl 32) (tm 20)),
 ⟨7, (some 16), (some ((some 13), false)), .callF 61 [(tm 15)], [11], false⟩,
 ⟨8, (some 17), (some ((some 13), false)), .callF 76 [(tm 16)], [11], false⟩,
 sg 9 18 13 false (.len (.sl 32) (tm 17)),
 sg 13 22 13 false (.bin .neq 3 (tm 18) (tm 21)),
 sm 14 23 (.pick (tm 13) (.const (.bool true)) (tm 22)),
 sv 15 8 23])
 (.cond (tm 8) (.seq (.reg [sm 0 2 (.mv (.const (.int .i64 32)))])
 .ret) (.seq (.reg [sm 0 25 (.fa 0 (tm 1)),
 sm 1 26 (.ld1 (tm 25)),
 sc 2 27 136 [(tm 26)],
 sm 3 28 (.un .not (tm 27)),
 sv 4 29 28,
 sg 5 30 29 false (.fa 2 (tm 1)),
 sg 6 31 29 false (.ld1 (tm 30)),
 sg 7 32 29 false (.bin .gtr 86 (tm 31) (.const (.int .u64 1000000000000))),
 sm 8 33 (.pick (tm 29) (.const (.bool true)) (tm 32)),
 sv 9 34 33,
 sg 10 35 34 false (.fa 9 (tm 1)),
 sg 11 36 34 false (.fa 0 (tm 35)),
 sg 12 37 34 false (.ld1 (tm 36)),
 sg 13 38 34 false (.fa 9 (tm 1)),
 sg 14 39 34 false (.fa 1 (tm 38)),
 sg 15 40 34 false (.ld1 (tm 39)),
 sg 16 41 34 false (.max (tm 37) (tm 40)),
 sg 17 42 34 false (.bin .geq 85 (tm 41) (.const (.int .u32 500000003))),
 sm 18 43 (.pick (tm 34) (.const (.bool true)) (tm 42)),
 sv 19 24 43])
 (.cond (tm 24) (.seq (.reg [sm 0 2 (.mv (.const (.int .i64 8)))])
 .ret) .skip)))))))
 (.seq (.reg [sm 0 44 (.fa 3 (tm 1)),
 sm 1 45 (.ldA 6 (tm 44)),
 sc 2 46 137 [(tm 45)],
 sv 3 2 46])
 .ret)))
def r99 : List Mo := [.mv (tm 2)]
theorem c99_eq : compF Tryz.prog 99 = some c99 := by kernel_rfl
theorem r99_eq : compRs Tryz.prog 99 = some r99 := by kernel_rfl
def c100 : Cd := (.seq (.reg [sm 0 5 (.box (tm 2)),
 sm 1 6 (.mv (.const (.int .i64 0)))])
 (.seq (.seq (.reg [sv 0 13 0,
 sc 1 14 136 [(tm 13)],
 sm 2 15 (.un .not (tm 14))])
 (.cond (tm 15) (.seq (.reg [sm 0 6 (.mv (.const (.int .i64 2)))])
 .ret) .skip))
 (.seq (.seq (.reg [sv 0 16 1,
 sm 1 17 (.len (.sl 1) (tm 16)),
 sm 2 18 (.bin .gtr 3 (tm 17) (.const (.int .i64 9991)))])
 (.cond (tm 18) (.seq (.reg [sm 0 6 (.mv (.const (.int .i64 4)))])
 .ret) .skip))
 (.seq (.seq (.reg [sm 0 19 (.fa 0 (tm 5)),
 sm 1 20 (.ld1 (tm 19)),
 sm 2 21 (.fa 1 (tm 5)),
 sm 3 22 (.ld1 (tm 21)),
 sm 4 23 (.max (tm 20) (tm 22)),
 sm 5 24 (.bin .geq 85 (tm 23) (.const (.int .u32 500000003)))])
 (.cond (tm 24) (.seq (.reg [sm 0 6 (.mv (.const (.int .i64 22)))])
 .ret) .skip))
 (.seq (.reg [sv 0 26 0,
 sm 1 27 (.fa 0 (tm 5)),
 sm 2 28 (.ld1 (tm 27)),
 sm 3 29 (.cint .u64 (tm 28)),
 sm 4 30 (.bin .sub 86 (.const (.int .u64 500000003)) (tm 29)),
 sc 5 31 138 [(tm 26), (tm 30)],
 sv 6 25 31,
 sm 7 32 (.ext (tm 25) 0),
 sm 8 33 (.ext (tm 25) 1),
 sv 9 7 32,
 sv 10 8 33])
 (.seq (.reg [sm 0 35 (.fa 1 (tm 5)),
 sm 1 36 (.ld1 (tm 35)),
 sm 2 37 (.cint .u64 (tm 36)),
 sc 3 38 108 [(tm 37)],
 sv 4 39 7,
 sc 5 40 139 [(tm 38), (tm 39)],
 sv 6 34 40,
 sm 7 41 (.ext (tm 34) 0),
 sm 8 42 (.ext (tm 34) 1),
 sv 9 9 41,
 sv 10 10 42])
 (.seq (.seq (.reg [sv 0 44 9,
 sv 1 45 0,
 sv 2 46 1,
 sc 3 47 115 [(tm 44), (tm 45), (tm 46)],
 sv 4 43 47,
 sm 5 48 (.ext (tm 43) 0),
 sm 6 49 (.ext (tm 43) 1),
 sv 7 11 48,
 sv 8 12 49])
 (.seq (.reg [sv 0 50 12,
 sm 1 51 (.bin .neq 32 (tm 50) (.const (.int .i64 0))),
 sv 2 52 51,
 sg 3 53 52 false (.mv (tm 11)),
 sg 4 54 52 false (.fa 0 (tm 5)),
 sg 5 55 52 false (.ld1 (tm 54)),
 sg 6 56 52 false (.bin .neq 85 (tm 53) (tm 55)),
 sm 7 57 (.pick (tm 52) (.const (.bool true)) (tm 56))])
 (.cond (tm 57) (.seq (.reg [sm 0 6 (.mv (.const (.int .i64 22)))])
 .ret) .skip)))
 (.seq (.reg [sm 0 6 (.mv (.const (.int .i64 0)))])
 .ret))))))))
def r100 : List Mo := [.mv (tm 6)]
theorem c100_eq : compF Tryz.prog 100 = some c100 := by kernel_rfl
theorem r100_eq : compRs Tryz.prog 100 = some r100 := by kernel_rfl
def l101_0 : Cd := (.seq (.reg [sm 0 9 (.bin .lss 3 (tm 8) (tm 7))])
 (.seq (.cond (tm 9) .skip (.exit 0))
 (.seq (.block 1 (.seq (.reg [sv 0 10 8,
 sv 1 5 10])
 (.seq (.reg [sv 0 11 1,
 sv 1 12 0,
 sv 2 13 5,
 sm 3 14 (.ia (.sl 32) (tm 12) (tm 13)),
 sm 4 15 (.ldA 32 (tm 14)),
 ⟨5, (some 16), none, .callV (tm 11) [(tm 15)], [], false⟩])
 (.cond (tm 16) (.seq (.reg [sv 0 17 5,
 sv 1 4 17])
 .ret) .skip))))
 (.reg [sm 0 18 (.bin .add 3 (tm 8) (.const (.int .i64 1))),
 sv 1 8 18]))))
def c101 : Cd := (.seq (.reg [sm 0 4 (.mv (.const (.int .i64 0)))])
 (.seq (.seq (.reg [sv 0 6 0,
 sm 1 7 (.len (.sl 32) (tm 6)),
 sm 2 8 (.mv (.const (.int .i64 0)))])
 (.block 0 (.loop l101_0)))
 (.seq (.reg [sm 0 4 (.mv (.const (.int .i64 (-1))))])
 .ret)))
def r101 : List Mo := [.mv (tm 4)]
theorem c101_eq : compF Tryz.prog 101 = some c101 := by kernel_rfl
theorem r101_eq : compRs Tryz.prog 101 = some r101 := by kernel_rfl
def c104 : Cd := (.seq (.reg [sm 0 4 (.mv (.const (.int .i64 0)))])
 (.seq (.reg [sv 0 5 0,
 sv 1 6 1,
 sm 2 7 (.cmpB 150 (.func 150) (tm 5) (tm 6)),
 sv 3 4 7])
 .ret))
def r104 : List Mo := [.mv (tm 4)]
theorem c104_eq : compF Tryz.prog 104 = some c104 := by kernel_rfl
theorem r104_eq : compRs Tryz.prog 104 = some r104 := by kernel_rfl
def l106_0 : Cd := (.seq (.seq (.reg [sv 0 6 5,
 sm 1 7 (.bin .lss 3 (tm 6) (.const (.int .i64 32)))])
 (.cond (tm 7) .skip (.exit 0)))
 (.seq (.block 1 (.seq (.seq (.reg [sv 0 10 5,
 sm 1 11 (.ia (.arr 32 1) (tm 2) (tm 10)),
 sm 2 12 (.ld1 (tm 11)),
 sv 3 13 5,
 sm 4 14 (.ia (.arr 32 1) (tm 3) (tm 13)),
 sm 5 15 (.ld1 (tm 14)),
 sm 6 16 (.bin .lss 5 (tm 12) (tm 15))])
 (.cond (tm 16) (.seq (.reg [sm 0 4 (.mv (.const (.int .i64 (-1))))])
 .ret) .skip))
 (.seq (.reg [sv 0 17 5,
 sm 1 18 (.ia (.arr 32 1) (tm 2) (tm 17)),
 sm 2 19 (.ld1 (tm 18)),
 sv 3 20 5,
 sm 4 21 (.ia (.arr 32 1) (tm 3) (tm 20)),
 sm 5 22 (.ld1 (tm 21)),
 sm 6 23 (.bin .gtr 5 (tm 19) (tm 22))])
 (.cond (tm 23) (.seq (.reg [sm 0 4 (.mv (.const (.int .i64 1)))])
 .ret) .skip))))
 (.reg [sv 0 8 5,
 sm 1 9 (.bin .add 3 (tm 8) (.const (.int .i64 1))),
 sv 2 5 9])))
def c106 : Cd := (.seq (.reg [sm 0 2 (.box (tm 0)),
 sm 1 3 (.box (tm 1)),
 sm 2 4 (.mv (.const (.int .i64 0)))])
 (.seq (.seq (.reg [sm 0 5 (.mv (.const (.int .i64 0)))])
 (.block 0 (.loop l106_0)))
 (.seq (.reg [sm 0 4 (.mv (.const (.int .i64 0)))])
 .ret)))
def r106 : List Mo := [.mv (tm 4)]
theorem c106_eq : compF Tryz.prog 106 = some c106 := by kernel_rfl
theorem r106_eq : compRs Tryz.prog 106 = some r106 := by kernel_rfl
def c107 : Cd := (.seq (.reg [sm 0 2 (.mv (.const (.int .i64 0)))])
 (.seq (.seq (.reg [sv 0 3 0,
 sm 1 4 (.bin .sub 85 (tm 3) (.const (.int .u32 1))),
 sm 2 5 (.bin .geq 85 (tm 4) (.const (.int .u32 500000002)))])
 (.cond (tm 5) (.seq (.reg [sm 0 2 (.mv (.const (.int .i64 2)))])
 .ret) .skip))
 (.seq (.reg [sm 0 2 (.mv (.const (.int .i64 0)))])
 .ret)))
def r107 : List Mo := [.mv (tm 2)]
theorem c107_eq : compF Tryz.prog 107 = some c107 := by kernel_rfl
theorem r107_eq : compRs Tryz.prog 107 = some r107 := by kernel_rfl
def c108 : Cd := (.seq (.reg [sm 0 2 (.mv (.const (.int .u32 0)))])
 (.seq (.reg [sv 0 3 0,
 sc 1 4 151 [(.const (.int .u32 4)), (tm 3)],
 sv 2 2 4])
 .ret))
def r108 : List Mo := [.mv (tm 2)]
theorem c108_eq : compF Tryz.prog 108 = some c108 := by kernel_rfl
theorem r108_eq : compRs Tryz.prog 108 = some r108 := by kernel_rfl
def l109_0 : Cd := (.seq (.reg [sm 0 20 (.bin .lss 3 (tm 19) (tm 18))])
 (.seq (.cond (tm 20) .skip (.exit 0))
 (.seq (.block 1 (.seq (.reg [sm 0 21 (.ia (.sl 32) (tm 17) (tm 19)),
 sm 1 22 (.ldA 32 (tm 21)),
 sm 2 6 (.alloc (rep 32 (.int .u8 0))),
 se 3 (.st 32 (tm 6) (tm 22))])
 (.reg [sv 0 23 4,
 sm 1 24 (.slice (.arr 32 1) (tm 6) none none none),
 sm 2 25 (.app 1 1 (tm 23) (tm 24)),
 sv 3 4 25])))
 (.reg [sm 0 26 (.bin .add 3 (tm 19) (.const (.int .i64 1))),
 sv 1 19 26]))))
def c109 : Cd := (.seq (.reg [sm 0 2 (.mv (.const (.slice none 0 0))),
 sm 1 3 (.mv (.const (.int .i64 0)))])
 (.seq (.seq (.reg [sv 0 7 0,
 sm 1 8 (.len (.sl 32) (tm 7)),
 sm 2 9 (.bin .gtr 3 (tm 8) (.const (.int .i64 60)))])
 (.cond (tm 9) (.seq (.reg [sm 0 2 (.mv (.const (.slice none 0 0))),
 sm 1 3 (.mv (.const (.int .i64 4)))])
 .ret) .skip))
 (.seq (.seq (.reg [sv 0 10 0,
 sc 1 11 152 [(tm 10)],
 sm 2 12 (.un .not (tm 11))])
 (.cond (tm 12) (.seq (.reg [sm 0 2 (.mv (.const (.slice none 0 0))),
 sm 1 3 (.mv (.const (.int .i64 32)))])
 .ret) .skip))
 (.seq (.reg [sv 0 13 0,
 sm 1 14 (.len (.sl 32) (tm 13)),
 sm 2 15 (.cint .u64 (tm 14)),
 sc 3 16 111 [(tm 15)],
 sv 4 4 16])
 (.seq (.seq (.reg [sv 0 17 0,
 sm 1 18 (.len (.sl 32) (tm 17)),
 sm 2 19 (.mv (.const (.int .i64 0)))])
 (.block 0 (.loop l109_0)))
 (.seq (.reg [sv 0 27 4,
 sv 1 2 27,
 sm 2 3 (.mv (.const (.int .i64 0)))])
 .ret))))))
def r109 : List Mo := [.mv (tm 2), .mv (tm 3)]
theorem c109_eq : compF Tryz.prog 109 = some c109 := by kernel_rfl
theorem r109_eq : compRs Tryz.prog 109 = some r109 := by kernel_rfl
def l110_0 : Cd := (.seq (.reg [sm 0 12 (.bin .lss 3 (tm 11) (tm 10))])
 (.seq (.cond (tm 12) .skip (.exit 0))
 (.seq (.block 1 (.seq (.reg [sm 0 13 (.ia (.sl 1) (tm 9) (tm 11)),
 sm 1 14 (.ld1 (tm 13)),
 sv 2 5 14])
 (.seq (.reg [sv 0 15 3,
 sv 1 16 5,
 sm 2 17 (.len (.sl 1) (tm 16)),
 sm 3 18 (.bin .add 3 (tm 15) (tm 17)),
 sv 4 3 18])
 (.seq (.reg [sv 0 19 3,
 sm 1 20 (.bin .lss 3 (tm 19) (.const (.int .i64 0)))])
 (.cond (tm 20) (.reg [sm 0 21 (.mkI 9 (.const (.string ⟨#[108, 101, 110, 32, 111, 117, 116, 32, 111, 102, 32, 114, 97, 110, 103, 101]⟩))),
 se 1 (.stop)]) .skip)))))
 (.reg [sm 0 22 (.bin .add 3 (tm 11) (.const (.int .i64 1))),
 sv 1 11 22]))))
def l110_1 : Cd := (.seq (.reg [sm 0 28 (.bin .lss 3 (tm 27) (tm 26))])
 (.seq (.cond (tm 28) .skip (.exit 2))
 (.seq (.block 3 (.seq (.reg [sm 0 29 (.ia (.sl 1) (tm 25) (tm 27)),
 sm 1 30 (.ld1 (tm 29)),
 sv 2 8 30])
 (.reg [sv 0 31 6,
 sv 1 32 8,
 sm 2 33 (.app 1 1 (tm 31) (tm 32)),
 sv 3 6 33])))
 (.reg [sm 0 34 (.bin .add 3 (tm 27) (.const (.int .i64 1))),
 sv 1 27 34]))))
def c110 : Cd := (.seq (.reg [sm 0 2 (.mv (.const (.slice none 0 0)))])
 (.seq (.reg [sm 0 3 (.mv (.const (.int .i64 0)))])
 (.seq (.seq (.reg [sv 0 9 0,
 sm 1 10 (.len (.sl 1) (tm 9)),
 sm 2 11 (.mv (.const (.int .i64 0)))])
 (.block 0 (.loop l110_0)))
 (.seq (.reg [sv 0 23 3,
 sc 1 24 153 [(.const (.slice none 0 0)), (tm 23)],
 sv 2 6 24])
 (.seq (.seq (.reg [sv 0 25 0,
 sm 1 26 (.len (.sl 1) (tm 25)),
 sm 2 27 (.mv (.const (.int .i64 0)))])
 (.block 2 (.loop l110_1)))
 (.seq (.reg [sv 0 35 6,
 sv 1 2 35])
 .ret))))))
def r110 : List Mo := [.mv (tm 2)]
theorem c110_eq : compF Tryz.prog 110 = some c110 := by kernel_rfl
theorem r110_eq : compRs Tryz.prog 110 = some r110 := by kernel_rfl
def l111_0 : Cd := (.seq (.reg [sm 0 25 (.bin .lss 3 (tm 24) (tm 23))])
 (.seq (.cond (tm 25) .skip (.exit 0))
 (.seq (.block 1 (.seq (.reg [sv 0 26 24,
 sv 1 5 26])
 (.reg [sv 0 27 4,
 sv 1 28 3,
 sv 2 29 5,
 sm 3 30 (.bin .sub 3 (tm 28) (tm 29)),
 sv 4 31 0,
 sv 5 32 5,
 sm 6 33 (.bin .mul 3 (.const (.int .i64 8)) (tm 32)),
 sm 7 34 (.bin .shr 86 (tm 31) (tm 33)),
 sm 8 35 (.cint .u8 (tm 34)),
 sm 9 36 (.ia (.sl 1) (tm 27) (tm 30)),
 se 10 (.st 1 (tm 36) (tm 35))])))
 (.reg [sm 0 37 (.bin .add 3 (tm 24) (.const (.int .i64 1))),
 sv 1 24 37]))))
def c111 : Cd := (.seq (.reg [sm 0 2 (.mv (.const (.slice none 0 0)))])
 (.seq (.seq (.reg [sv 0 6 0,
 sm 1 7 (.bin .leq 86 (tm 6) (.const (.int .u64 247)))])
 (.cond (tm 7) (.seq (.reg [sv 0 8 0,
 sm 1 9 (.cint .u8 (tm 8)),
 sm 2 10 (.bsl 1 [.int .u8 0] 1 [(0, (tm 9))]),
 sv 3 2 10])
 .ret) .skip))
 (.seq (.reg [sv 0 11 0,
 sc 1 12 149 [(tm 11)],
 sm 2 13 (.bin .add 3 (tm 12) (.const (.int .i64 7))),
 sm 3 14 (.bin .quo 3 (tm 13) (.const (.int .i64 8))),
 sv 4 3 14])
 (.seq (.reg [sv 0 15 3,
 sm 1 16 (.bin .add 3 (tm 15) (.const (.int .i64 1))),
 sm 2 17 (.mks 1 1 [.int .u8 0] (tm 16) (tm 16)),
 sv 3 4 17])
 (.seq (.reg [sv 0 18 4,
 sv 1 19 3,
 sm 2 20 (.bin .add 3 (.const (.int .i64 247)) (tm 19)),
 sm 3 21 (.cint .u8 (tm 20)),
 sm 4 22 (.ia (.sl 1) (tm 18) (.const (.int .i64 0))),
 se 5 (.st 1 (tm 22) (tm 21))])
 (.seq (.seq (.reg [sv 0 23 3,
 sm 1 24 (.mv (.const (.int .i64 0)))])
 (.block 0 (.loop l111_0)))
 (.seq (.reg [sv 0 38 4,
 sv 1 2 38])
 .ret)))))))
def r111 : List Mo := [.mv (tm 2)]
theorem c111_eq : compF Tryz.prog 111 = some c111 := by kernel_rfl
theorem r111_eq : compRs Tryz.prog 111 = some r111 := by kernel_rfl
def c112 : Cd := (.seq (.reg [sm 0 2 (.mv (.const (.slice none 0 0))),
 sm 1 3 (.mv (.const (.int .i64 0)))])
 (.seq (.seq (.reg [sv 0 4 0,
 sm 1 5 (.len (.sl 1) (tm 4)),
 sm 2 6 (.bin .gtr 3 (tm 5) (.const (.int .i64 10000)))])
 (.cond (tm 6) (.seq (.reg [sm 0 2 (.mv (.const (.slice none 0 0))),
 sm 1 3 (.mv (.const (.int .i64 4)))])
 .ret) .skip))
 (.seq (.reg [sv 0 7 0,
 sm 1 8 (.len (.sl 1) (tm 7)),
 sm 2 9 (.cint .u64 (tm 8)),
 sc 3 10 111 [(tm 9)],
 sv 4 11 0,
 sm 5 12 (.app 1 1 (tm 10) (tm 11)),
 sv 6 2 12,
 sm 7 3 (.mv (.const (.int .i64 0)))])
 .ret)))
def r112 : List Mo := [.mv (tm 2), .mv (tm 3)]
theorem c112_eq : compF Tryz.prog 112 = some c112 := by kernel_rfl
theorem r112_eq : compRs Tryz.prog 112 = some r112 := by kernel_rfl
def c114 : Cd := (.seq (.reg [sm 0 4 (.mv (.const (.int .u32 0))),
 sm 1 5 (.mv (.const (.int .i64 0)))])
 (.seq (.seq (.reg [sv 0 9 0,
 sc 1 10 107 [(tm 9)],
 sv 2 6 10])
 (.seq (.reg [sv 0 11 6,
 sm 1 12 (.bin .neq 32 (tm 11) (.const (.int .i64 0)))])
 (.cond (tm 12) (.seq (.reg [sv 0 13 6,
 sm 1 4 (.mv (.const (.int .u32 0))),
 sv 2 5 13])
 .ret) .skip)))
 (.seq (.reg [sv 0 15 1,
 sv 1 16 0,
 sm 2 17 (.bsl 1 [.int .u32 0] 1 [(0, (tm 16))]),
 sc 3 18 156 [(.const (.int .u8 110)), (tm 15), (tm 17)],
 sv 4 14 18,
 sm 5 19 (.ext (tm 14) 0),
 sm 6 20 (.ext (tm 14) 1),
 sv 7 7 19,
 sv 8 8 20])
 (.seq (.seq (.reg [sv 0 21 8,
 sm 1 22 (.bin .neq 32 (tm 21) (.const (.int .i64 0)))])
 (.cond (tm 22) (.seq (.reg [sv 0 23 8,
 sm 1 4 (.mv (.const (.int .u32 0))),
 sv 2 5 23])
 .ret) .skip))
 (.seq (.reg [sv 0 24 7,
 sm 1 25 (.bin .rem 86 (tm 24) (.const (.int .u64 500000002))),
 sm 2 26 (.cint .u32 (tm 25)),
 sm 3 27 (.bin .add 85 (tm 26) (.const (.int .u32 1))),
 sv 4 4 27,
 sm 5 5 (.mv (.const (.int .i64 0)))])
 .ret)))))
def r114 : List Mo := [.mv (tm 4), .mv (tm 5)]
theorem c114_eq : compF Tryz.prog 114 = some c114 := by kernel_rfl
theorem r114_eq : compRs Tryz.prog 114 = some r114 := by kernel_rfl
def c115 : Cd := (.seq (.reg [sm 0 6 (.mv (.const (.int .u32 0))),
 sm 1 7 (.mv (.const (.int .i64 0)))])
 (.seq (.reg [sv 0 11 2,
 sv 1 12 0,
 sv 2 13 1,
 sm 3 14 (.bsl 1 [.int .u32 0] 2 [(0, (tm 12)), (1, (tm 13))]),
 sc 4 15 156 [(.const (.int .u8 99)), (tm 11), (tm 14)],
 sv 5 10 15,
 sm 6 16 (.ext (tm 10) 0),
 sm 7 17 (.ext (tm 10) 1),
 sv 8 8 16,
 sv 9 9 17])
 (.seq (.seq (.reg [sv 0 18 9,
 sm 1 19 (.bin .neq 32 (tm 18) (.const (.int .i64 0)))])
 (.cond (tm 19) (.seq (.reg [sv 0 20 9,
 sm 1 6 (.mv (.const (.int .u32 0))),
 sv 2 7 20])
 .ret) .skip))
 (.seq (.reg [sv 0 21 8,
 sm 1 22 (.bin .rem 86 (tm 21) (.const (.int .u64 500000003))),
 sm 2 23 (.cint .u32 (tm 22)),
 sv 3 6 23,
 sm 4 7 (.mv (.const (.int .i64 0)))])
 .ret))))
def r115 : List Mo := [.mv (tm 6), .mv (tm 7)]
theorem c115_eq : compF Tryz.prog 115 = some c115 := by kernel_rfl
theorem r115_eq : compRs Tryz.prog 115 = some r115 := by kernel_rfl
def c116 : Cd := (.seq (.reg [sm 0 4 (.mv (.const (.int .u32 0))),
 sm 1 5 (.mv (.const (.int .i64 0)))])
 (.seq (.seq (.reg [sv 0 6 0,
 sv 1 7 1,
 sm 2 8 (.max (tm 6) (tm 7)),
 sm 3 9 (.bin .geq 85 (tm 8) (.const (.int .u32 500000003)))])
 (.cond (tm 9) (.seq (.reg [sm 0 4 (.mv (.const (.int .u32 0))),
 sm 1 5 (.mv (.const (.int .i64 2)))])
 .ret) .skip))
 (.seq (.reg [sv 0 10 0,
 sv 1 11 1,
 sm 2 12 (.bsl 1 [.int .u32 0] 2 [(0, (tm 10)), (1, (tm 11))]),
 sc 3 13 157 [(.const (.int .u64 500000003)), (tm 12)],
 sv 4 4 13,
 sm 5 5 (.mv (.const (.int .i64 0)))])
 .ret)))
def r116 : List Mo := [.mv (tm 4), .mv (tm 5)]
theorem c116_eq : compF Tryz.prog 116 = some c116 := by kernel_rfl
theorem r116_eq : compRs Tryz.prog 116 = some r116 := by kernel_rfl
def c117 : Cd := (.seq (.reg [sm 0 4 (.mv (.const (.int .u32 0))),
 sm 1 5 (.mv (.const (.int .i64 0)))])
 (.seq (.seq (.reg [sv 0 6 0,
 sv 1 7 1,
 sm 2 8 (.max (tm 6) (tm 7)),
 sm 3 9 (.bin .geq 85 (tm 8) (.const (.int .u32 500000003)))])
 (.cond (tm 9) (.seq (.reg [sm 0 4 (.mv (.const (.int .u32 0))),
 sm 1 5 (.mv (.const (.int .i64 2)))])
 .ret) .skip))
 (.seq (.reg [sv 0 10 0,
 sv 1 11 1,
 sm 2 12 (.bin .add 85 (tm 10) (tm 11)),
 sm 3 13 (.bin .rem 85 (tm 12) (.const (.int .u32 500000003))),
 sv 4 4 13,
 sm 5 5 (.mv (.const (.int .i64 0)))])
 .ret)))
def r117 : List Mo := [.mv (tm 4), .mv (tm 5)]
theorem c117_eq : compF Tryz.prog 117 = some c117 := by kernel_rfl
theorem r117_eq : compRs Tryz.prog 117 = some r117 := by kernel_rfl
def l118_0 : Cd := (.seq (.reg [sm 0 19 (.bin .lss 3 (tm 18) (tm 17))])
 (.seq (.cond (tm 19) .skip (.exit 0))
 (.seq (.block 1 (.seq (.reg [sm 0 20 (.ia (.sl 1) (tm 16) (tm 18)),
 sm 1 21 (.ld1 (tm 20)),
 sv 2 6 21])
 (.reg [sm 0 22 (.ldA 10 (tm 4)),
 sv 1 23 6,
 sc 2 24 161 [(tm 22), (tm 23)],
 se 3 (.st 10 (tm 4) (tm 24))])))
 (.reg [sm 0 25 (.bin .add 3 (tm 18) (.const (.int .i64 1))),
 sv 1 18 25]))))
def c118 : Cd := (.seq (.reg [sm 0 2 (.alloc (rep 32 (.int .u8 0))),
 sm 1 3 (.mv (.const (.int .i64 0)))])
 (.seq (.seq (.reg [sv 0 7 0,
 sm 1 8 (.len (.sl 1) (tm 7)),
 sm 2 9 (.bin .gtr 3 (tm 8) (.const (.int .i64 20))),
 sv 3 10 9,
 sg 4 11 10 false (.mv (tm 0)),
 ⟨5, (some 12), (some ((some 10), false)), .callF 158 [(tm 11), (.func 159)], [], false⟩,
 sm 6 13 (.pick (tm 10) (.const (.bool true)) (tm 12))])
 (.cond (tm 13) (.seq (.reg [sm 0 14 (.bld (rep 32 (.int .u8 0)) []),
 se 1 (.st 32 (tm 2) (tm 14)),
 sm 2 3 (.mv (.const (.int .i64 4)))])
 .ret) .skip))
 (.seq (.reg [sc 0 15 160 [],
 sm 1 4 (.alloc [.int .u32 0, .int .u32 0, .int .u32 0, .int .u32 0, .int .u32 0, .int .u32 0, .int .u32 0, .int .u32 0, .nilS, .int .i64 0]),
 se 2 (.st 10 (tm 4) (tm 15))])
 (.seq (.seq (.reg [sv 0 16 0,
 sm 1 17 (.len (.sl 1) (tm 16)),
 sm 2 18 (.mv (.const (.int .i64 0)))])
 (.block 0 (.loop l118_0)))
 (.seq (.reg [sm 0 26 (.ldA 10 (tm 4)),
 sc 1 27 162 [(tm 26)],
 se 2 (.st 32 (tm 2) (tm 27)),
 sm 3 3 (.mv (.const (.int .i64 0)))])
 .ret)))))
def r118 : List Mo := [.ldA 32 (tm 2), .mv (tm 3)]
theorem c118_eq : compF Tryz.prog 118 = some c118 := by kernel_rfl
theorem r118_eq : compRs Tryz.prog 118 = some r118 := by kernel_rfl
def c119 : Cd := (.seq (.reg [sm 0 2 (.box (tm 0)),
 sm 1 3 (.box (tm 1)),
 sm 2 4 (.mv (.const .nilFunc))])
 (.seq (.reg [sm 0 5 (.mkF 163 [] [(tm 3), (tm 2)]),
 sv 1 4 5])
 .ret))
def r119 : List Mo := [.mv (tm 4)]
theorem c119_eq : compF Tryz.prog 119 = some c119 := by kernel_rfl
theorem r119_eq : compRs Tryz.prog 119 = some r119 := by kernel_rfl
def c120 : Cd := (.seq (.reg [sm 0 2 (.mv (.const (.slice none 0 0)))])
 (.seq (.seq (.reg [sv 0 3 0,
 sm 1 4 (.bin .eql 22 (tm 3) (.const (.slice none 0 0)))])
 (.cond (tm 4) (.seq (.reg [sm 0 2 (.mv (.const (.slice none 0 0)))])
 .ret) .skip))
 (.seq (.reg [sm 0 5 (.bsl 2 [.nilS, .nilS] 0 []),
 sv 1 6 0,
 sm 2 7 (.app 2 48 (tm 5) (tm 6)),
 sv 3 2 7])
 .ret)))
def r120 : List Mo := [.mv (tm 2)]
theorem c120_eq : compF Tryz.prog 120 = some c120 := by kernel_rfl
theorem r120_eq : compRs Tryz.prog 120 = some r120 := by kernel_rfl
def c121 : Cd := (.seq (.reg [sm 0 2 (.mv (.const (.slice none 0 0)))])
 (.seq (.seq (.reg [sv 0 3 0,
 sm 1 4 (.bin .eql 45 (tm 3) (.const (.slice none 0 0)))])
 (.cond (tm 4) (.seq (.reg [sm 0 2 (.mv (.const (.slice none 0 0)))])
 .ret) .skip))
 (.seq (.reg [sm 0 5 (.bsl 11 [.int .u32 0, .nilS, .int .u64 0, .int .u8 0, .str [], .int .u8 0, .int .i64 0, .int .u64 0, .str [], .int .u32 0, .int .u32 0] 0 []),
 sv 1 6 0,
 sm 2 7 (.app 11 112 (tm 5) (tm 6)),
 sv 3 2 7])
 .ret)))
def r121 : List Mo := [.mv (tm 2)]
theorem c121_eq : compF Tryz.prog 121 = some c121 := by kernel_rfl
theorem r121_eq : compRs Tryz.prog 121 = some r121 := by kernel_rfl
def c122 : Cd := (.seq (.reg [sm 0 1 (.box (tm 0)),
 sm 1 2 (.mv (.const (.int .i64 0)))])
 (.seq (.reg [sm 0 6 (.ldA 3 (tm 1)),
 sc 1 7 134 [(tm 6)],
 sv 2 5 7,
 sm 3 8 (.ext (tm 5) 0),
 sm 4 9 (.ext (tm 5) 1),
 sm 5 3 (.alloc [.nilS, .nilS]),
 se 6 (.st 2 (tm 3) (tm 8)),
 sv 7 4 9])
 (.seq (.reg [sv 0 10 4,
 sv 1 2 10])
 .ret)))
def r122 : List Mo := [.mv (tm 2)]
theorem c122_eq : compF Tryz.prog 122 = some c122 := by kernel_rfl
theorem r122_eq : compRs Tryz.prog 122 = some r122 := by kernel_rfl
def c123 : Cd := (.seq (.reg [sm 0 2 (.box (tm 0)),
 sm 1 3 (.box (tm 1)),
 sm 2 4 (.mv (.const (.int .i64 0))),
 sm 3 5 (.mv (.const (.int .i64 0))),
 sm 4 6 (.mv (.const (.bool false)))])
 (.seq (.reg [sm 0 7 (.ldA 32 (tm 3)),
 sm 1 8 (.fa 0 (tm 2)),
 sm 2 9 (.ld1 (tm 8)),
 sm 3 10 (.len (.sl 2) (tm 9)),
 sc 4 11 164 [(tm 7), (tm 10)],
 sv 5 4 11])
 (.seq (.reg [sm 0 13 (.fa 0 (tm 2)),
 sm 1 14 (.ld1 (tm 13)),
 sv 2 15 4,
 sm 3 16 (.ia (.sl 2) (tm 14) (tm 15)),
 sm 4 17 (.fa 0 (tm 16)),
 sm 5 18 (.ld1 (tm 17)),
 sm 6 19 (.ldA 32 (tm 3)),
 sc 7 20 96 [(tm 18), (tm 19), (.func 75)],
 sv 8 12 20,
 sm 9 21 (.ext (tm 12) 0),
 sm 10 22 (.ext (tm 12) 1),
 sv 11 5 21,
 sv 12 6 22])
 (.seq (.reg [sv 0 23 4,
 sv 1 24 5,
 sv 2 25 6,
 sv 3 4 23,
 sv 4 5 24,
 sv 5 6 25])
 .ret))))
def r123 : List Mo := [.mv (tm 4), .mv (tm 5), .mv (tm 6)]
theorem c123_eq : compF Tryz.prog 123 = some c123 := by kernel_rfl
theorem r123_eq : compRs Tryz.prog 123 = some r123 := by kernel_rfl
def c124 : Cd := (.seq (.reg [sm 0 2 (.box (tm 0)),
 sm 1 3 (.mv (.const (.bool false)))])
 (.seq (.reg [sm 0 8 (.ldA 3 (tm 1)),
 sm 1 9 (.ldA 32 (tm 2)),
 sc 2 10 123 [(tm 8), (tm 9)],
 sv 3 7 10,
 sm 4 11 (.ext (tm 7) 0),
 sm 5 12 (.ext (tm 7) 1),
 sm 6 13 (.ext (tm 7) 2),
 sv 7 4 11,
 sv 8 5 12,
 sv 9 6 13])
 (.seq (.reg [sv 0 14 6,
 sm 1 15 (.un .not (tm 14)),
 sv 2 3 15])
 .ret)))
def r124 : List Mo := [.mv (tm 3)]
theorem c124_eq : compF Tryz.prog 124 = some c124 := by kernel_rfl
theorem r124_eq : compRs Tryz.prog 124 = some r124 := by kernel_rfl
def l125_0 : Cd := (.seq (.reg [sm 0 16 (.bin .lss 3 (tm 15) (tm 14))])
 (.seq (.cond (tm 16) .skip (.exit 0))
 (.seq (.block 1 (.seq (.reg [sv 0 17 15,
 sv 1 4 17])
 (.dreg [sm 0 18 (.fa 1 (tm 3)),
 ⟨1, (some 19), none, .mo (.ld1 (tm 18)), [], true⟩,
 sv 2 20 4,
 sm 3 21 (.fa 1 (tm 3)),
 sm 4 22 (.ld1 (tm 21)),
 sv 5 23 4,
 sm 6 24 (.ia (.sl 11) (tm 22) (tm 23)),
 sm 7 25 (.fa 1 (tm 24)),
 sm 8 26 (.ld1 (tm 25)),
 ⟨9, (some 27), none, .callF 61 [(tm 26)], [1], false⟩,
 sm 10 28 (.ia (.sl 11) (tm 19) (tm 20)),
 sm 11 29 (.fa 1 (tm 28)),
 se 12 (.st 1 (tm 29) (tm 27))])))
 (.reg [sm 0 30 (.bin .add 3 (tm 15) (.const (.int .i64 1))),
 sv 1 15 30]))))
def c125 : Cd := (.seq (.reg [sm 0 1 (.box (tm 0)),
 sm 1 2 (.alloc [.nilS, .nilS])])
 (.seq (.dreg [sm 0 5 (.fa 0 (tm 1)),
 sm 1 6 (.ld1 (tm 5)),
 sm 3 8 (.fa 1 (tm 1)),
 ⟨4, (some 9), none, .mo (.ld1 (tm 8)), [], true⟩,
 ⟨7, (some 3), none, .mo (.alloc [.nilS, .nilS]), [], true⟩,
 ⟨2, (some 7), none, .callF 61 [(tm 6)], [7, 4], false⟩,
 ⟨5, (some 10), none, .callF 121 [(tm 9)], [7], false⟩,
 sm 6 11 (.bld [.nilS, .nilS] [(0, 1, (tm 7)), (1, 1, (tm 10))]),
 se 8 (.st 2 (tm 3) (tm 11))])
 (.seq (.seq (.reg [sm 0 12 (.fa 1 (tm 3)),
 sm 1 13 (.ld1 (tm 12)),
 sm 2 14 (.len (.sl 11) (tm 13)),
 sm 3 15 (.mv (.const (.int .i64 0)))])
 (.block 0 (.loop l125_0)))
 (.seq (.reg [sm 0 31 (.ldA 2 (tm 3)),
 se 1 (.st 2 (tm 2) (tm 31))])
 .ret))))
def r125 : List Mo := [.ldA 2 (tm 2)]
theorem c125_eq : compF Tryz.prog 125 = some c125 := by kernel_rfl
theorem r125_eq : compRs Tryz.prog 125 = some r125 := by kernel_rfl
def c128 : Cd := (.seq (.reg [sm 0 2 (.box (tm 0)),
 sm 1 3 (.mv (.const (.bool false)))])
 (.seq (.reg [sm 0 4 (.fa 1 (tm 1)),
 sm 1 5 (.ld1 (tm 4)),
 sm 2 6 (.ldA 32 (tm 2)),
 sc 3 7 48 [(tm 5), (tm 6)],
 sv 4 3 7])
 .ret))
def r128 : List Mo := [.mv (tm 3)]
theorem c128_eq : compF Tryz.prog 128 = some c128 := by kernel_rfl
theorem r128_eq : compRs Tryz.prog 128 = some r128 := by kernel_rfl
def l134_0 : Cd := (.seq (.reg [sm 0 25 (.bin .lss 3 (tm 24) (tm 23))])
 (.seq (.cond (tm 25) .skip (.exit 0))
 (.seq (.block 1 (.seq (.reg [sv 0 26 24,
 sm 1 27 (.ia (.sl 2) (tm 22) (tm 24)),
 sm 2 28 (.ldA 2 (tm 27)),
 sm 3 5 (.alloc [.int .i64 0]),
 sm 4 6 (.alloc [.nilS, .nilS]),
 se 5 (.st 1 (tm 5) (tm 26)),
 se 6 (.st 2 (tm 6) (tm 28))])
 (.seq (.reg [sm 0 29 (.fa 0 (tm 6)),
 sm 1 30 (.ld1 (tm 29)),
 sm 2 31 (.mkF 175 [] [(tm 4), (tm 5)]),
 sc 3 32 97 [(tm 30), (tm 31)]])
 (.cond (tm 32) (.seq (.reg [sm 0 33 (.bld [.nilS, .nilS] []),
 se 1 (.st 2 (tm 2) (tm 33)),
 sm 2 3 (.mv (.const (.int .i64 8)))])
 .ret) .skip))))
 (.reg [sm 0 34 (.bin .add 3 (tm 24) (.const (.int .i64 1))),
 sv 1 24 34]))))
def c134 : Cd := (.seq (.reg [sm 0 1 (.box (tm 0)),
 sm 1 2 (.alloc [.nilS, .nilS]),
 sm 2 3 (.mv (.const (.int .i64 0)))])
 (.seq (.reg [sm 0 11 (.fa 0 (tm 1)),
 sm 1 12 (.ld1 (tm 11)),
 sm 2 13 (.len (.sl 2) (tm 12)),
 sm 3 4 (.alloc [.int .i64 0]),
 se 4 (.st 1 (tm 4) (tm 13))])
 (.seq (.seq (.reg [sm 0 14 (.ld1 (tm 4)),
 sm 1 15 (.bin .lss 3 (tm 14) (.const (.int .i64 1))),
 sv 2 16 15,
 sg 3 17 16 false (.ld1 (tm 4)),
 sg 4 18 16 false (.bin .gtr 3 (tm 17) (.const (.int .i64 4))),
 sm 5 19 (.pick (tm 16) (.const (.bool true)) (tm 18))])
 (.cond (tm 19) (.seq (.reg [sm 0 20 (.bld [.nilS, .nilS] []),
 se 1 (.st 2 (tm 2) (tm 20)),
 sm 2 3 (.mv (.const (.int .i64 8)))])
 .ret) .skip))
 (.seq (.seq (.reg [sm 0 21 (.fa 0 (tm 1)),
 sm 1 22 (.ld1 (tm 21)),
 sm 2 23 (.len (.sl 2) (tm 22)),
 sm 3 24 (.mv (.const (.int .i64 0)))])
 (.block 0 (.loop l134_0)))
 (.seq (.reg [sm 0 36 (.ldA 3 (tm 1)),
 sc 1 37 176 [(tm 36)],
 sv 2 35 37,
 sm 3 38 (.ext (tm 35) 0),
 sm 4 39 (.ext (tm 35) 1),
 sm 5 7 (.alloc [.nilS, .nilS]),
 se 6 (.st 2 (tm 7) (tm 38)),
 sv 7 8 39])
 (.seq (.seq (.reg [sv 0 40 8,
 sm 1 41 (.un .not (tm 40)),
 sv 2 42 41,
 sg 3 43 42 false (.ldA 2 (tm 7)),
 ⟨4, (some 44), (some ((some 42), false)), .callF 38 [(tm 43)], [], false⟩,
 sg 5 45 42 false (.bin .neq 32 (tm 44) (.const (.int .i64 0))),
 sm 6 46 (.pick (tm 42) (.const (.bool true)) (tm 45)),
 sv 7 47 46,
 sg 8 48 47 false (.fa 2 (tm 1)),
 sg 9 49 47 false (.ld1 (tm 48)),
 sg 10 50 47 false (.fa 0 (tm 7)),
 sg 11 51 47 false (.ld1 (tm 50)),
 sg 12 52 47 false (.len (.sl 32) (tm 51)),
 sg 13 53 47 false (.bin .neq 3 (tm 49) (tm 52)),
 sm 14 54 (.pick (tm 47) (.const (.bool true)) (tm 53))])
 (.cond (tm 54) (.seq (.reg [sm 0 55 (.bld [.nilS, .nilS] []),
 se 1 (.st 2 (tm 2) (tm 55)),
 sm 2 3 (.mv (.const (.int .i64 8)))])
 .ret) .skip))
 (.seq (.seq (.reg [sm 0 57 (.ldA 2 (tm 7)),
 sc 1 58 177 [(tm 57)],
 sv 2 56 58,
 sm 3 59 (.ext (tm 56) 0),
 sm 4 60 (.ext (tm 56) 1),
 sv 5 9 59,
 sv 6 10 60])
 (.seq (.reg [sv 0 61 10,
 sm 1 62 (.bin .neq 32 (tm 61) (.const (.int .i64 0))),
 sv 2 63 62,
 sg 3 64 63 false (.mv (tm 9)),
 sg 4 65 63 false (.fa 1 (tm 1)),
 sg 5 66 63 false (.ld1 (tm 65)),
 ⟨6, (some 67), (some ((some 63), false)), .callF 178 [(tm 64), (tm 66)], [], false⟩,
 sg 7 68 63 false (.un .not (tm 67)),
 sm 8 69 (.pick (tm 63) (.const (.bool true)) (tm 68))])
 (.cond (tm 69) (.seq (.reg [sm 0 70 (.bld [.nilS, .nilS] []),
 se 1 (.st 2 (tm 2) (tm 70)),
 sm 2 3 (.mv (.const (.int .i64 8)))])
 .ret) .skip)))
 (.seq (.reg [sm 0 71 (.ldA 2 (tm 7)),
 se 1 (.st 2 (tm 2) (tm 71)),
 sm 2 3 (.mv (.const (.int .i64 0)))])
 .ret))))))))
def r134 : List Mo := [.ldA 2 (tm 2), .mv (tm 3)]
theorem c134_eq : compF Tryz.prog 134 = some c134 := by kernel_rfl
theorem r134_eq : compRs Tryz.prog 134 = some r134 := by kernel_rfl
def l135_0 : Cd := (.seq (.seq (.reg [sv 0 9 5,
 sm 1 10 (.bin .gtr 3 (tm 9) (.const (.int .i64 0)))])
 (.cond (tm 10) .skip (.exit 0)))
 (.seq (.block 1 (.seq (.reg [sv 0 13 1,
 sv 1 14 0,
 sv 2 15 5,
 sm 3 16 (.ia (.sl 32) (tm 14) (tm 15)),
 sm 4 17 (.ldA 32 (tm 16)),
 sv 5 18 0,
 sv 6 19 5,
 sm 7 20 (.bin .sub 3 (tm 19) (.const (.int .i64 1))),
 sm 8 21 (.ia (.sl 32) (tm 18) (tm 20)),
 sm 9 22 (.ldA 32 (tm 21)),
 ⟨10, (some 23), none, .callV (tm 13) [(tm 17), (tm 22)], [], false⟩,
 sm 11 24 (.bin .lss 3 (tm 23) (.const (.int .i64 0)))])
 (.cond (tm 24) (.seq (.reg [sm 0 4 (.mv (.const (.bool false)))])
 .ret) .skip)))
 (.reg [sv 0 11 5,
 sm 1 12 (.bin .sub 3 (tm 11) (.const (.int .i64 1))),
 sv 2 5 12])))
def c135 : Cd := (.seq (.reg [sm 0 4 (.mv (.const (.bool false)))])
 (.seq (.seq (.reg [sv 0 6 0,
 sm 1 7 (.len (.sl 32) (tm 6)),
 sm 2 8 (.bin .sub 3 (tm 7) (.const (.int .i64 1))),
 sv 3 5 8])
 (.block 0 (.loop l135_0)))
 (.seq (.reg [sm 0 4 (.mv (.const (.bool true)))])
 .ret)))
def r135 : List Mo := [.mv (tm 4)]
theorem c135_eq : compF Tryz.prog 135 = some c135 := by kernel_rfl
theorem r135_eq : compRs Tryz.prog 135 = some r135 := by kernel_rfl
def c136 : Cd := (.seq (.reg [sm 0 2 (.mv (.const (.bool false)))])
 (.seq (.reg [sv 0 3 0,
 sm 1 4 (.bin .gtr 85 (tm 3) (.const (.int .u32 0))),
 sv 2 5 4,
 sg 3 6 5 true (.mv (tm 0)),
 sg 4 7 5 true (.bin .lss 85 (tm 6) (.const (.int .u32 1000000007))),
 sm 5 8 (.pick (tm 5) (tm 7) (.const (.bool false))),
 sv 6 9 8,
 sg 7 10 9 true (.mv (tm 0)),
 ⟨8, (some 11), (some ((some 9), true)), .callF 151 [(tm 10), (.const (.int .u64 500000003))], [], false⟩,
 sg 9 12 9 true (.bin .eql 85 (tm 11) (.const (.int .u32 1))),
 sm 10 13 (.pick (tm 9) (tm 12) (.const (.bool false))),
 sv 11 2 13])
 .ret))
def r136 : List Mo := [.mv (tm 2)]
theorem c136_eq : compF Tryz.prog 136 = some c136 := by kernel_rfl
theorem r136_eq : compRs Tryz.prog 136 = some r136 := by kernel_rfl
def c137 : Cd := (.seq (.reg [sm 0 1 (.box (tm 0)),
 sm 1 2 (.mv (.const (.int .i64 0)))])
 (.seq (.reg [sm 0 3 (.mv (.const (.bool false)))])
 (.seq (.seq (.reg [sm 0 4 (.fa 0 (tm 1)),
 sm 1 5 (.ld1 (tm 4))])
 (.block 0 (.seq (.reg [sm 0 7 (.bin .eql 5 (tm 5) (.const (.int .u8 1))),
 sv 1 6 7])
 (.cond (tm 6) (.reg [sm 0 8 (.ldA 6 (tm 1)),
 sm 1 9 (.bld [.int .u8 0, .str [], .int .u8 0, .int .i64 0, .int .u64 0, .str []] [(0, 1, (.const (.int .u8 1)))]),
 sm 2 10 (.bin .eql 90 (tm 8) (tm 9)),
 sv 3 3 10]) (.seq (.seq (.reg [sm 0 12 (.bin .eql 5 (tm 5) (.const (.int .u8 2))),
 sv 1 11 12])
 (.cond (tm 11) .skip (.reg [sm 0 13 (.bin .eql 5 (tm 5) (.const (.int .u8 3))),
 sv 1 11 13])))
 (.cond (tm 11) (.reg [sm 0 14 (.fa 1 (tm 1)),
 sm 1 15 (.ld1 (tm 14)),
 sc 2 16 179 [(tm 15)],
 sv 3 17 16,
 sg 4 18 17 true (.fa 2 (tm 1)),
 sg 5 19 17 true (.ldA 4 (tm 18)),
 sg 6 20 17 true (.bld [.int .u8 0, .int .i64 0, .int .u64 0, .str []] []),
 sg 7 21 17 true (.bin .eql 88 (tm 19) (tm 20)),
 sm 8 22 (.pick (tm 17) (tm 21) (.const (.bool false))),
 sv 9 3 22]) (.seq (.reg [sm 0 24 (.bin .eql 5 (tm 5) (.const (.int .u8 4))),
 sv 1 23 24])
 (.cond (tm 23) (.reg [sm 0 25 (.fa 1 (tm 1)),
 sm 1 26 (.ld1 (tm 25)),
 sc 2 27 179 [(tm 26)],
 sv 3 28 27,
 sg 4 29 28 true (.fa 2 (tm 1)),
 sg 5 30 28 true (.ldA 4 (tm 29)),
 ⟨6, (some 31), (some ((some 28), true)), .callF 154 [(tm 30)], [], false⟩,
 sg 7 32 28 true (.bin .eql 32 (tm 31) (.const (.int .i64 0))),
 sm 8 33 (.pick (tm 28) (tm 32) (.const (.bool false))),
 sv 9 3 33]) .skip))))))))
 (.seq (.seq (.reg [sv 0 34 3,
 sm 1 35 (.un .not (tm 34))])
 (.cond (tm 35) (.seq (.reg [sm 0 2 (.mv (.const (.int .i64 8)))])
 .ret) .skip))
 (.seq (.reg [sm 0 2 (.mv (.const (.int .i64 0)))])
 .ret)))))
def r137 : List Mo := [.mv (tm 2)]
theorem c137_eq : compF Tryz.prog 137 = some c137 := by kernel_rfl
theorem r137_eq : compRs Tryz.prog 137 = some r137 := by kernel_rfl
def c138 : Cd := (.seq (.reg [sm 0 4 (.mv (.const (.int .u32 0))),
 sm 1 5 (.mv (.const (.int .i64 0)))])
 (.seq (.seq (.reg [sv 0 6 0,
 sm 1 7 (.bsl 1 [.int .u32 0] 1 [(0, (tm 6))]),
 sc 2 8 180 [(tm 7)],
 sm 3 9 (.un .not (tm 8))])
 (.cond (tm 9) (.seq (.reg [sm 0 4 (.mv (.const (.int .u32 0))),
 sm 1 5 (.mv (.const (.int .i64 2)))])
 .ret) .skip))
 (.seq (.reg [sv 0 10 0,
 sv 1 11 1,
 sc 2 12 151 [(tm 10), (tm 11)],
 sv 3 4 12,
 sm 4 5 (.mv (.const (.int .i64 0)))])
 .ret)))
def r138 : List Mo := [.mv (tm 4), .mv (tm 5)]
theorem c138_eq : compF Tryz.prog 138 = some c138 := by kernel_rfl
theorem r138_eq : compRs Tryz.prog 138 = some r138 := by kernel_rfl
def c139 : Cd := (.seq (.reg [sm 0 4 (.mv (.const (.int .u32 0))),
 sm 1 5 (.mv (.const (.int .i64 0)))])
 (.seq (.seq (.reg [sv 0 6 0,
 sv 1 7 1,
 sm 2 8 (.bsl 1 [.int .u32 0] 2 [(0, (tm 6)), (1, (tm 7))]),
 sc 3 9 180 [(tm 8)],
 sm 4 10 (.un .not (tm 9))])
 (.cond (tm 10) (.seq (.reg [sm 0 4 (.mv (.const (.int .u32 0))),
 sm 1 5 (.mv (.const (.int .i64 2)))])
 .ret) .skip))
 (.seq (.reg [sv 0 11 0,
 sv 1 12 1,
 sm 2 13 (.bsl 1 [.int .u32 0] 2 [(0, (tm 11)), (1, (tm 12))]),
 sc 3 14 157 [(.const (.int .u64 1000000007)), (tm 13)],
 sv 4 4 14,
 sm 5 5 (.mv (.const (.int .i64 0)))])
 .ret)))
def r139 : List Mo := [.mv (tm 4), .mv (tm 5)]
theorem c139_eq : compF Tryz.prog 139 = some c139 := by kernel_rfl
theorem r139_eq : compRs Tryz.prog 139 = some r139 := by kernel_rfl
def c149 : Cd := (.seq (.reg [sm 0 2 (.mv (.const (.int .i64 0)))])
 (.seq (.seq (.reg [sv 0 3 0,
 sm 1 4 (.bin .geq 86 (tm 3) (.const (.int .u64 4294967296)))])
 (.cond (tm 4) (.seq (.reg [sv 0 5 0,
 sm 1 6 (.bin .shr 86 (tm 5) (.const (.int .u64 32))),
 sv 2 0 6])
 (.reg [sm 0 2 (.mv (.const (.int .i64 32)))])) .skip))
 (.seq (.seq (.reg [sv 0 7 0,
 sm 1 8 (.bin .geq 86 (tm 7) (.const (.int .u64 65536)))])
 (.cond (tm 8) (.seq (.reg [sv 0 9 0,
 sm 1 10 (.bin .shr 86 (tm 9) (.const (.int .u64 16))),
 sv 2 0 10])
 (.reg [sv 0 11 2,
 sm 1 12 (.bin .add 3 (tm 11) (.const (.int .i64 16))),
 sv 2 2 12])) .skip))
 (.seq (.seq (.reg [sv 0 13 0,
 sm 1 14 (.bin .geq 86 (tm 13) (.const (.int .u64 256)))])
 (.cond (tm 14) (.seq (.reg [sv 0 15 0,
 sm 1 16 (.bin .shr 86 (tm 15) (.const (.int .u64 8))),
 sv 2 0 16])
 (.reg [sv 0 17 2,
 sm 1 18 (.bin .add 3 (tm 17) (.const (.int .i64 8))),
 sv 2 2 18])) .skip))
 (.seq (.reg [sv 0 19 2,
 sv 1 20 0,
 sm 2 21 (.cint .u8 (tm 20)),
 sm 3 22 (.ixT (.const (.string ⟨#[0, 1, 2, 2, 3, 3, 3, 3, 4, 4, 4, 4, 4, 4, 4, 4, 5, 5, 5, 5, 5, 5, 5, 5, 5, 5, 5, 5, 5, 5, 5, 5, 6, 6, 6, 6, 6, 6, 6, 6, 6, 6, 6, 6, 6, 6, 6, 6, 6, 6, 6, 6, 6, 6, 6, 6, 6, 6, 6, 6, 6, 6, 6, 6, 7, 7, 7, 7, 7, 7, 7, 7, 7, 7, 7, 7, 7, 7, 7, 7, 7, 7, 7, 7, 7, 7, 7, 7, 7, 7, 7, 7, 7, 7, 7, 7, 7, 7, 7, 7, 7, 7, 7, 7, 7, 7, 7, 7, 7, 7, 7, 7, 7, 7, 7, 7, 7, 7, 7, 7, 7, 7, 7, 7, 7, 7, 7, 7, 8, 8, 8, 8, 8, 8, 8, 8, 8, 8, 8, 8, 8, 8, 8, 8, 8, 8, 8, 8, 8, 8, 8, 8, 8, 8, 8, 8, 8, 8, 8, 8, 8, 8, 8, 8, 8, 8, 8, 8, 8, 8, 8, 8, 8, 8, 8, 8, 8, 8, 8, 8, 8, 8, 8, 8, 8, 8, 8, 8, 8, 8, 8, 8, 8, 8, 8, 8, 8, 8, 8, 8, 8, 8, 8, 8, 8, 8, 8, 8, 8, 8, 8, 8, 8, 8, 8, 8, 8, 8, 8, 8, 8, 8, 8, 8, 8, 8, 8, 8, 8, 8, 8, 8, 8, 8, 8, 8, 8, 8, 8, 8, 8, 8, 8, 8, 8, 8, 8, 8, 8, 8, 8, 8, 8, 8, 8, 8]⟩)) (tm 21)),
 sm 4 23 (.cint .i64 (tm 22)),
 sm 5 24 (.bin .add 3 (tm 19) (tm 23)),
 sv 6 2 24])
 .ret)))))
def r149 : List Mo := [.mv (tm 2)]
theorem c149_eq : compF Tryz.prog 149 = some c149 := by kernel_rfl
theorem r149_eq : compRs Tryz.prog 149 = some r149 := by kernel_rfl
def l151_0 : Cd := (.seq (.reg [sm 0 10 (.bin .lss 3 (tm 9) (.const (.int .i64 64)))])
 (.seq (.cond (tm 10) .skip (.exit 0))
 (.seq (.block 1 (.seq (.reg [sv 0 11 9,
 sv 1 7 11])
 (.seq (.reg [sv 0 12 6,
 ⟨1, (some 13), none, .callV (tm 12) [], [], false⟩])
 (.seq (.reg [sv 0 14 1,
 sv 1 15 7,
 sm 2 16 (.bin .sub 3 (.const (.int .i64 63)) (tm 15)),
 sm 3 17 (.bin .shr 86 (tm 14) (tm 16)),
 sm 4 18 (.bin .and 86 (tm 17) (.const (.int .u64 1))),
 sm 5 19 (.bin .eql 86 (tm 18) (.const (.int .u64 1)))])
 (.cond (tm 19) (.reg [sm 0 20 (.ld1 (tm 5)),
 sv 1 21 0,
 sm 2 22 (.bsl 1 [.int .u32 0] 2 [(0, (tm 20)), (1, (tm 21))]),
 sc 3 23 157 [(.const (.int .u64 1000000007)), (tm 22)],
 se 4 (.st 1 (tm 5) (tm 23))]) .skip)))))
 (.reg [sm 0 24 (.bin .add 3 (tm 9) (.const (.int .i64 1))),
 sv 1 9 24]))))
def c151 : Cd := (.seq (.reg [sm 0 4 (.mv (.const (.int .u32 0)))])
 (.seq (.reg [sm 0 5 (.alloc [.int .u32 0]),
 se 1 (.st 1 (tm 5) (.const (.int .u32 1)))])
 (.seq (.reg [sm 0 8 (.mkF 186 [] [(tm 5)]),
 sv 1 6 8])
 (.seq (.seq (.reg [sm 0 9 (.mv (.const (.int .i64 0)))])
 (.block 0 (.loop l151_0)))
 (.seq (.reg [sm 0 25 (.ld1 (tm 5)),
 sv 1 4 25])
 .ret)))))
def r151 : List Mo := [.mv (tm 4)]
theorem c151_eq : compF Tryz.prog 151 = some c151 := by kernel_rfl
theorem r151_eq : compRs Tryz.prog 151 = some r151 := by kernel_rfl
def c152 : Cd := (.seq (.reg [sm 0 1 (.box (tm 0)),
 sm 1 2 (.mv (.const (.bool false)))])
 (.seq (.reg [sm 0 3 (.alloc [.int .i64 0]),
 se 1 (.st 1 (tm 3) (.const (.int .i64 0)))])
 (.seq (.reg [sm 0 4 (.ld1 (tm 1)),
 sm 1 5 (.mkF 187 [] [(tm 3), (tm 1)]),
 sc 2 6 97 [(tm 4), (tm 5)],
 sm 3 7 (.un .not (tm 6)),
 sv 4 2 7])
 .ret)))
def r152 : List Mo := [.mv (tm 2)]
theorem c152_eq : compF Tryz.prog 152 = some c152 := by kernel_rfl
theorem r152_eq : compRs Tryz.prog 152 = some r152 := by kernel_rfl
def c153 : Cd := (.seq (.reg [sm 0 4 (.mv (.const (.slice none 0 0)))])
 (.seq (.seq (.reg [sv 0 5 1,
 sm 1 6 (.bin .lss 3 (tm 5) (.const (.int .i64 0)))])
 (.cond (tm 6) (.reg [sm 0 7 (.mkI 9 (.const (.string ⟨#[99, 97, 110, 110, 111, 116, 32, 98, 101, 32, 110, 101, 103, 97, 116, 105, 118, 101]⟩))),
 se 1 (.stop)]) .skip))
 (.seq (.seq (.reg [sv 0 8 1,
 sv 1 9 0,
 sm 2 10 (.cap (.sl 1) (tm 9)),
 sv 3 11 0,
 sm 4 12 (.len (.sl 1) (tm 11)),
 sm 5 13 (.bin .sub 3 (tm 10) (tm 12)),
 sm 6 14 (.bin .sub 3 (tm 8) (tm 13)),
 sv 7 1 14])
 (.seq (.reg [sv 0 15 1,
 sm 1 16 (.bin .gtr 3 (tm 15) (.const (.int .i64 0)))])
 (.cond (tm 16) (.reg [sv 0 17 0,
 sv 1 18 0,
 sm 2 19 (.cap (.sl 1) (tm 18)),
 sm 3 20 (.slice (.sl 1) (tm 17) none (some (tm 19)) none),
 sv 4 21 1,
 sm 5 22 (.appZ 1 1 [.int .u8 0] (tm 20) (tm 21)),
 sv 6 23 0,
 sm 7 24 (.len (.sl 1) (tm 23)),
 sm 8 25 (.slice (.sl 1) (tm 22) none (some (tm 24)) none),
 sv 9 0 25]) .skip)))
 (.seq (.reg [sv 0 26 0,
 sv 1 4 26])
 .ret))))
def r153 : List Mo := [.mv (tm 4)]
theorem c153_eq : compF Tryz.prog 153 = some c153 := by kernel_rfl
theorem r153_eq : compRs Tryz.prog 153 = some r153 := by kernel_rfl
def c155 : Cd := (.seq (.reg [sm 0 2 (.mv (.const (.slice none 0 0)))])
 (.seq (.reg [sv 0 3 0,
 sm 1 4 (.cint .u64 (tm 3)),
 sm 2 5 (.bin .shl 86 (tm 4) (.const (.int .u64 1))),
 sv 3 6 0,
 sm 4 7 (.bin .shr 2 (tm 6) (.const (.int .u64 63))),
 sm 5 8 (.cint .u64 (tm 7)),
 sm 6 9 (.bin .xor 86 (tm 5) (tm 8)),
 sc 7 10 111 [(tm 9)],
 sv 8 2 10])
 .ret))
def r155 : List Mo := [.mv (tm 2)]
theorem c155_eq : compF Tryz.prog 155 = some c155 := by kernel_rfl
theorem r155_eq : compRs Tryz.prog 155 = some r155 := by kernel_rfl
def l156_0 : Cd := (.seq (.reg [sm 0 24 (.bin .lss 3 (tm 23) (tm 22))])
 (.seq (.cond (tm 24) .skip (.exit 0))
 (.seq (.block 1 (.seq (.reg [sm 0 25 (.ia (.sl 1) (tm 21) (tm 23)),
 sm 1 26 (.ld1 (tm 25)),
 sv 2 10 26])
 (.reg [sv 0 27 8,
 sv 1 28 10,
 sm 2 29 (.bin .shr 85 (tm 28) (.const (.int .u64 24))),
 sm 3 30 (.cint .u8 (tm 29)),
 sv 4 31 10,
 sm 5 32 (.bin .shr 85 (tm 31) (.const (.int .u64 16))),
 sm 6 33 (.cint .u8 (tm 32)),
 sv 7 34 10,
 sm 8 35 (.bin .shr 85 (tm 34) (.const (.int .u64 8))),
 sm 9 36 (.cint .u8 (tm 35)),
 sv 10 37 10,
 sm 11 38 (.cint .u8 (tm 37)),
 sm 12 39 (.bsl 1 [.int .u8 0] 4 [(0, (tm 30)), (1, (tm 33)), (2, (tm 36)), (3, (tm 38))]),
 sm 13 40 (.app 1 1 (tm 27) (tm 39)),
 sv 14 8 40])))
 (.reg [sm 0 41 (.bin .add 3 (tm 23) (.const (.int .i64 1))),
 sv 1 23 41]))))
def l156_1 : Cd := (.seq (.reg [sm 0 52 (.bin .lss 3 (tm 51) (tm 50))])
 (.seq (.cond (tm 52) .skip (.exit 2))
 (.seq (.block 3 (.seq (.reg [sm 0 53 (.ia (.sl 1) (tm 49) (tm 51)),
 sm 1 54 (.ld1 (tm 53)),
 sv 2 15 54])
 (.reg [sv 0 55 13,
 sm 1 56 (.bin .shl 86 (tm 55) (.const (.int .u64 8))),
 sv 2 57 15,
 sm 3 58 (.cint .u64 (tm 57)),
 sm 4 59 (.bin .or 86 (tm 56) (tm 58)),
 sv 5 13 59])))
 (.reg [sm 0 60 (.bin .add 3 (tm 51) (.const (.int .i64 1))),
 sv 1 51 60]))))
def c156 : Cd := (.seq (.reg [sm 0 6 (.mv (.const (.int .u64 0))),
 sm 1 7 (.mv (.const (.int .i64 0)))])
 (.seq (.seq (.reg [sv 0 16 1,
 sm 1 17 (.len (.sl 1) (tm 16)),
 sm 2 18 (.bin .gtr 3 (tm 17) (.const (.int .i64 9991)))])
 (.cond (tm 18) (.seq (.reg [sm 0 6 (.mv (.const (.int .u64 0))),
 sm 1 7 (.mv (.const (.int .i64 4)))])
 .ret) .skip))
 (.seq (.reg [sv 0 19 0,
 sm 1 20 (.bsl 1 [.int .u8 0] 1 [(0, (tm 19))]),
 sv 2 8 20])
 (.seq (.seq (.reg [sv 0 21 2,
 sm 1 22 (.len (.sl 1) (tm 21)),
 sm 2 23 (.mv (.const (.int .i64 0)))])
 (.block 0 (.loop l156_0)))
 (.seq (.reg [sv 0 43 8,
 sv 1 44 1,
 sm 2 45 (.bsl 1 [.nilS] 2 [(0, (tm 43)), (1, (tm 44))]),
 sc 3 46 118 [(tm 45)],
 sv 4 42 46,
 sm 5 47 (.ext (tm 42) 0),
 sm 6 48 (.ext (tm 42) 1),
 sm 7 11 (.alloc (rep 32 (.int .u8 0))),
 se 8 (.st 32 (tm 11) (tm 47)),
 sv 9 12 48])
 (.seq (.reg [sm 0 13 (.mv (.const (.int .u64 0)))])
 (.seq (.seq (.reg [sm 0 49 (.slice (.arr 32 1) (tm 11) none (some (.const (.int .i64 8))) none),
 sm 1 50 (.len (.sl 1) (tm 49)),
 sm 2 51 (.mv (.const (.int .i64 0)))])
 (.block 2 (.loop l156_1)))
 (.seq (.reg [sv 0 61 13,
 sv 1 62 12,
 sv 2 6 61,
 sv 3 7 62])
 .ret))))))))
def r156 : List Mo := [.mv (tm 6), .mv (tm 7)]
theorem c156_eq : compF Tryz.prog 156 = some c156 := by kernel_rfl
theorem r156_eq : compRs Tryz.prog 156 = some r156 := by kernel_rfl
def l157_0 : Cd := (.seq (.reg [sm 0 11 (.bin .lss 3 (tm 10) (tm 9))])
 (.seq (.cond (tm 11) .skip (.exit 0))
 (.seq (.block 1 (.seq (.reg [sm 0 12 (.ia (.sl 1) (tm 8) (tm 10)),
 sm 1 13 (.ld1 (tm 12)),
 sv 2 7 13])
 (.reg [sv 0 14 5,
 sv 1 15 7,
 sm 2 16 (.cint .u64 (tm 15)),
 sm 3 17 (.bin .mul 86 (tm 14) (tm 16)),
 sv 4 18 0,
 sm 5 19 (.bin .rem 86 (tm 17) (tm 18)),
 sv 6 5 19])))
 (.reg [sm 0 20 (.bin .add 3 (tm 10) (.const (.int .i64 1))),
 sv 1 10 20]))))
def c157 : Cd := (.seq (.reg [sm 0 4 (.mv (.const (.int .u32 0)))])
 (.seq (.reg [sm 0 5 (.mv (.const (.int .u64 1)))])
 (.seq (.seq (.reg [sv 0 8 1,
 sm 1 9 (.len (.sl 1) (tm 8)),
 sm 2 10 (.mv (.const (.int .i64 0)))])
 (.block 0 (.loop l157_0)))
 (.seq (.reg [sv 0 21 5,
 sm 1 22 (.cint .u32 (tm 21)),
 sv 2 4 22])
 .ret))))
def r157 : List Mo := [.mv (tm 4)]
theorem c157_eq : compF Tryz.prog 157 = some c157 := by kernel_rfl
theorem r157_eq : compRs Tryz.prog 157 = some r157 := by kernel_rfl
def c158 : Cd := (.seq (.reg [sm 0 4 (.mv (.const (.bool false)))])
 (.seq (.reg [sv 0 5 0,
 sv 1 6 1,
 sc 2 7 191 [(tm 5), (tm 6)],
 sm 3 8 (.bin .geq 3 (tm 7) (.const (.int .i64 0))),
 sv 4 4 8])
 .ret))
def r158 : List Mo := [.mv (tm 4)]
theorem c158_eq : compF Tryz.prog 158 = some c158 := by kernel_rfl
theorem r158_eq : compRs Tryz.prog 158 = some r158 := by kernel_rfl
def c159 : Cd := (.seq (.reg [sm 0 2 (.mv (.const (.bool false)))])
 (.seq (.reg [sv 0 3 0,
 sm 1 4 (.len (.sl 1) (tm 3)),
 sm 2 5 (.bin .gtr 3 (tm 4) (.const (.int .i64 10000))),
 sv 3 2 5])
 .ret))
def r159 : List Mo := [.mv (tm 2)]
theorem c159_eq : compF Tryz.prog 159 = some c159 := by kernel_rfl
theorem r159_eq : compRs Tryz.prog 159 = some r159 := by kernel_rfl
def c160 : Cd := (.seq (.reg [sm 0 0 (.alloc [.int .u32 0, .int .u32 0, .int .u32 0, .int .u32 0, .int .u32 0, .int .u32 0, .int .u32 0, .int .u32 0, .nilS, .int .i64 0])])
 (.seq (.reg [sm 0 1 (.bld [.int .u32 0, .int .u32 0, .int .u32 0, .int .u32 0, .int .u32 0, .int .u32 0, .int .u32 0, .int .u32 0] [(0, 1, (.const (.int .u32 1779033703))), (1, 1, (.const (.int .u32 3144134277))), (2, 1, (.const (.int .u32 1013904242))), (3, 1, (.const (.int .u32 2773480762))), (4, 1, (.const (.int .u32 1359893119))), (5, 1, (.const (.int .u32 2600822924))), (6, 1, (.const (.int .u32 528734635))), (7, 1, (.const (.int .u32 1541459225)))]),
 sm 1 2 (.bld [.int .u32 0, .int .u32 0, .int .u32 0, .int .u32 0, .int .u32 0, .int .u32 0, .int .u32 0, .int .u32 0, .nilS, .int .i64 0] [(0, 8, (tm 1))]),
 se 2 (.st 10 (tm 0) (tm 2))])
 .ret))
def r160 : List Mo := [.ldA 10 (tm 0)]
theorem c160_eq : compF Tryz.prog 160 = some c160 := by kernel_rfl
theorem r160_eq : compRs Tryz.prog 160 = some r160 := by kernel_rfl
def l161_0 : Cd := (.seq (.seq (.reg [sv 0 11 5,
 sm 1 12 (.len (.sl 1) (tm 11)),
 sm 2 13 (.bin .geq 3 (tm 12) (.const (.int .i64 64)))])
 (.cond (tm 13) .skip (.exit 0)))
 (.block 1 (.seq (.reg [sm 0 14 (.fa 0 (tm 2)),
 sv 1 15 5,
 sc 2 16 192 [(tm 14), (tm 15)]])
 (.reg [sv 0 17 5,
 sm 1 18 (.slice (.sl 1) (tm 17) (some (.const (.int .i64 64))) none none),
 sv 2 5 18]))))
def c161 : Cd := (.seq (.reg [sm 0 2 (.box (tm 0)),
 sm 1 4 (.alloc [.int .u32 0, .int .u32 0, .int .u32 0, .int .u32 0, .int .u32 0, .int .u32 0, .int .u32 0, .int .u32 0, .nilS, .int .i64 0])])
 (.seq (.reg [sm 0 6 (.fa 8 (tm 2)),
 sm 1 7 (.ld1 (tm 6)),
 sv 2 8 1,
 sm 3 9 (.bsl 1 [.nilS] 2 [(0, (tm 7)), (1, (tm 8))]),
 sc 4 10 110 [(tm 9)],
 sv 5 5 10])
 (.seq (.block 0 (.loop l161_0))
 (.seq (.dreg [sm 0 19 (.fa 9 (tm 2)),
 ⟨1, (some 20), none, .mo (.ld1 (tm 19)), [], true⟩,
 sv 2 21 1,
 sm 3 22 (.len (.sl 1) (tm 21)),
 sm 4 23 (.bin .add 3 (tm 20) (tm 22)),
 sv 5 24 5,
 ⟨6, (some 25), none, .callF 193 [(tm 24)], [1], false⟩,
 sm 7 26 (.fa 9 (tm 2)),
 se 8 (.st 1 (tm 26) (tm 23)),
 sm 9 27 (.fa 8 (tm 2)),
 se 10 (.st 1 (tm 27) (tm 25))])
 (.seq (.reg [sm 0 28 (.ldA 10 (tm 2)),
 se 1 (.st 10 (tm 4) (tm 28))])
 .ret)))))
def r161 : List Mo := [.ldA 10 (tm 4)]
theorem c161_eq : compF Tryz.prog 161 = some c161 := by kernel_rfl
theorem r161_eq : compRs Tryz.prog 161 = some r161 := by kernel_rfl
def l162_0 : Cd := (.seq (.seq (.reg [sv 0 19 5,
 sm 1 20 (.bin .geq 3 (tm 19) (.const (.int .i64 0)))])
 (.cond (tm 20) .skip (.exit 0)))
 (.seq (.block 1 (.reg [sv 0 23 4,
 sv 1 24 3,
 sv 2 25 5,
 sm 3 26 (.bin .shr 86 (tm 24) (tm 25)),
 sm 4 27 (.cint .u8 (tm 26)),
 sm 5 28 (.bsl 1 [.int .u8 0] 1 [(0, (tm 27))]),
 sm 6 29 (.app 1 1 (tm 23) (tm 28)),
 sv 7 4 29]))
 (.reg [sv 0 21 5,
 sm 1 22 (.bin .sub 3 (tm 21) (.const (.int .i64 8))),
 sv 2 5 22])))
def l162_1 : Cd := (.seq (.reg [sm 0 35 (.bin .lss 3 (tm 34) (.const (.int .i64 8)))])
 (.seq (.cond (tm 35) .skip (.exit 2))
 (.seq (.block 3 (.seq (.reg [sv 0 36 34,
 sm 1 37 (.ix1 8 1 (tm 33) (tm 34)),
 sv 2 6 36,
 sv 3 7 37])
 (.reg [sv 0 38 6,
 sm 1 39 (.bin .mul 3 (.const (.int .i64 4)) (tm 38)),
 sv 2 40 6,
 sm 3 41 (.bin .mul 3 (.const (.int .i64 4)) (tm 40)),
 sm 4 42 (.bin .add 3 (tm 41) (.const (.int .i64 1))),
 sv 5 43 6,
 sm 6 44 (.bin .mul 3 (.const (.int .i64 4)) (tm 43)),
 sm 7 45 (.bin .add 3 (tm 44) (.const (.int .i64 2))),
 sv 8 46 6,
 sm 9 47 (.bin .mul 3 (.const (.int .i64 4)) (tm 46)),
 sm 10 48 (.bin .add 3 (tm 47) (.const (.int .i64 3))),
 sv 11 49 7,
 sm 12 50 (.bin .shr 85 (tm 49) (.const (.int .u64 24))),
 sm 13 51 (.cint .u8 (tm 50)),
 sv 14 52 7,
 sm 15 53 (.bin .shr 85 (tm 52) (.const (.int .u64 16))),
 sm 16 54 (.cint .u8 (tm 53)),
 sv 17 55 7,
 sm 18 56 (.bin .shr 85 (tm 55) (.const (.int .u64 8))),
 sm 19 57 (.cint .u8 (tm 56)),
 sv 20 58 7,
 sm 21 59 (.cint .u8 (tm 58)),
 sm 22 60 (.ia (.arr 32 1) (tm 2) (tm 39)),
 se 23 (.st 1 (tm 60) (tm 51)),
 sm 24 61 (.ia (.arr 32 1) (tm 2) (tm 42)),
 se 25 (.st 1 (tm 61) (tm 54)),
 sm 26 62 (.ia (.arr 32 1) (tm 2) (tm 45)),
 se 27 (.st 1 (tm 62) (tm 57)),
 sm 28 63 (.ia (.arr 32 1) (tm 2) (tm 48)),
 se 29 (.st 1 (tm 63) (tm 59))])))
 (.reg [sm 0 64 (.bin .add 3 (tm 34) (.const (.int .i64 1))),
 sv 1 34 64]))))
def c162 : Cd := (.seq (.reg [sm 0 1 (.box (tm 0)),
 sm 1 2 (.alloc (rep 32 (.int .u8 0)))])
 (.seq (.reg [sm 0 8 (.fa 9 (tm 1)),
 sm 1 9 (.ld1 (tm 8)),
 sm 2 10 (.cint .u64 (tm 9)),
 sm 3 11 (.bin .mul 86 (tm 10) (.const (.int .u64 8))),
 sv 4 3 11])
 (.seq (.reg [sm 0 12 (.bsl 1 [.int .u8 0] 1 [(0, (.const (.int .u8 128)))]),
 sm 1 13 (.fa 9 (tm 1)),
 sm 2 14 (.ld1 (tm 13)),
 sm 3 15 (.bin .rem 3 (tm 14) (.const (.int .i64 64))),
 sm 4 16 (.bin .sub 3 (.const (.int .i64 119)) (tm 15)),
 sm 5 17 (.bin .rem 3 (tm 16) (.const (.int .i64 64))),
 sm 6 18 (.appZ 1 1 [.int .u8 0] (tm 12) (tm 17)),
 sv 7 4 18])
 (.seq (.seq (.reg [sm 0 5 (.mv (.const (.int .i64 56)))])
 (.block 0 (.loop l162_0)))
 (.seq (.seq (.reg [sm 0 30 (.ldA 10 (tm 1)),
 sv 1 31 4,
 sc 2 32 161 [(tm 30), (tm 31)],
 sm 3 33 (.fldA 8 0 (tm 32)),
 sm 4 34 (.mv (.const (.int .i64 0)))])
 (.block 2 (.loop l162_1)))
 (.seq (.reg [sm 0 65 (.ldA 32 (tm 2)),
 se 1 (.st 32 (tm 2) (tm 65))])
 .ret))))))
def r162 : List Mo := [.ldA 32 (tm 2)]
theorem c162_eq : compF Tryz.prog 162 = some c162 := by kernel_rfl
theorem r162_eq : compRs Tryz.prog 162 = some r162 := by kernel_rfl
def l163_0 : Cd := (.seq (.reg [sm 0 10 (.bin .lss 3 (tm 9) (tm 8))])
 (.seq (.cond (tm 10) .skip (.exit 0))
 (.seq (.block 1 (.seq (.reg [sm 0 11 (.ia (.sl 32) (tm 7) (tm 9)),
 sm 1 12 (.ldA 32 (tm 11)),
 sm 2 5 (.alloc (rep 32 (.int .u8 0))),
 se 3 (.st 32 (tm 5) (tm 12))])
 (.seq (.reg [sm 0 13 (.fa 4 (tm 2)),
 sm 1 14 (.ld1 (tm 13)),
 sm 2 15 (.ldA 32 (tm 5)),
 sc 3 16 48 [(tm 14), (tm 15)],
 sm 4 17 (.un .not (tm 16)),
 sv 5 18 17,
 sg 6 19 18 true (.mv (tm 0)),
 sg 7 20 18 true (.ldA 32 (tm 5)),
 ⟨8, (some 21), (some ((some 18), true)), .callV (tm 19) [(tm 20)], [], false⟩,
 sg 9 22 18 true (.un .not (tm 21)),
 sm 10 23 (.pick (tm 18) (tm 22) (.const (.bool false)))])
 (.cond (tm 23) .ret .skip))))
 (.reg [sm 0 24 (.bin .add 3 (tm 9) (.const (.int .i64 1))),
 sv 1 9 24]))))
def c163 : Cd := (.seq (.reg [sm 0 6 (.fa 1 (tm 1)),
 sm 1 7 (.ld1 (tm 6)),
 sm 2 8 (.len (.sl 32) (tm 7)),
 sm 3 9 (.mv (.const (.int .i64 0)))])
 (.block 0 (.loop l163_0)))
def r163 : List Mo := []
theorem c163_eq : compF Tryz.prog 163 = some c163 := by kernel_rfl
theorem r163_eq : compRs Tryz.prog 163 = some r163 := by kernel_rfl
def c164 : Cd := (.seq (.reg [sm 0 2 (.box (tm 0)),
 sm 1 4 (.mv (.const (.int .i64 0)))])
 (.seq (.reg [sm 0 5 (.ia (.arr 32 1) (tm 2) (.const (.int .i64 0))),
 sm 1 6 (.ld1 (tm 5)),
 sm 2 7 (.cint .i64 (tm 6)),
 sv 3 8 1,
 sm 4 9 (.bin .rem 3 (tm 7) (tm 8)),
 sv 5 4 9])
 .ret))
def r164 : List Mo := [.mv (tm 4)]
theorem c164_eq : compF Tryz.prog 164 = some c164 := by kernel_rfl
theorem r164_eq : compRs Tryz.prog 164 = some r164 := by kernel_rfl
def c171 : Cd := (.seq (.reg [sm 0 2 (.alloc (rep 32 (.int .u8 0)))])
 (.seq (.reg [sc 0 3 203 [],
 sm 1 4 (.bsl 1 [.int .u8 0] 0 []),
 sv 2 5 0,
 sm 3 6 (.app 1 1 (tm 4) (tm 5)),
 sv 4 7 0,
 sm 5 8 (.len (.sl 1) (tm 7)),
 sc 6 9 204 [(tm 8)],
 sm 7 10 (.app 1 1 (tm 6) (tm 9)),
 sc 8 11 202 [(tm 3), (tm 10)],
 sc 9 12 201 [(tm 11)],
 se 10 (.st 32 (tm 2) (tm 12))])
 .ret))
def r171 : List Mo := [.ldA 32 (tm 2)]
theorem c171_eq : compF Tryz.prog 171 = some c171 := by kernel_rfl
theorem r171_eq : compRs Tryz.prog 171 = some r171 := by kernel_rfl
def c175 : Cd := (.seq (.reg [sm 0 3 (.box (tm 0)),
 sm 1 4 (.mv (.const (.bool false)))])
 (.seq (.dreg [sm 0 5 (.ldA 32 (tm 3)),
 sm 1 6 (.ld1 (tm 1)),
 ⟨3, (some 8), none, .mo (.ld1 (tm 2)), [], true⟩,
 ⟨2, (some 7), none, .callF 164 [(tm 5), (tm 6)], [3], false⟩,
 sm 4 9 (.bin .neq 3 (tm 7) (tm 8)),
 sv 5 4 9])
 .ret))
def r175 : List Mo := [.mv (tm 4)]
theorem c175_eq : compF Tryz.prog 175 = some c175 := by kernel_rfl
theorem r175_eq : compRs Tryz.prog 175 = some r175 := by kernel_rfl
def l176_0 : Cd := (.seq (.seq (.reg [sv 0 31 8,
 sm 1 32 (.fa 0 (tm 7)),
 sm 2 33 (.ld1 (tm 32)),
 sm 3 34 (.len (.sl 32) (tm 33)),
 sm 4 35 (.bin .lss 3 (tm 31) (tm 34))])
 (.cond (tm 35) .skip (.exit 2)))
 (.seq (.block 3 (.seq (.reg [sm 0 38 (.fa 0 (tm 7)),
 sm 1 39 (.ld1 (tm 38)),
 sv 2 40 8,
 sm 3 41 (.bin .sub 3 (tm 40) (.const (.int .i64 1))),
 sm 4 42 (.ia (.sl 32) (tm 39) (tm 41)),
 sm 5 43 (.ldA 32 (tm 42)),
 sm 6 44 (.fa 0 (tm 7)),
 sm 7 45 (.ld1 (tm 44)),
 sv 8 46 8,
 sm 9 47 (.ia (.sl 32) (tm 45) (tm 46)),
 sm 10 48 (.ldA 32 (tm 47)),
 sc 11 49 75 [(tm 43), (tm 48)],
 sm 12 50 (.bin .geq 3 (tm 49) (.const (.int .i64 0)))])
 (.cond (tm 50) (.seq (.reg [sm 0 51 (.ldA 2 (tm 4)),
 se 1 (.st 2 (tm 2) (tm 51)),
 sm 2 3 (.mv (.const (.bool false)))])
 .ret) .skip)))
 (.reg [sv 0 36 8,
 sm 1 37 (.bin .add 3 (tm 36) (.const (.int .i64 1))),
 sv 2 8 37])))
def l176_1 : Cd := (.seq (.reg [sm 0 20 (.bin .lss 3 (tm 19) (tm 18))])
 (.seq (.cond (tm 20) .skip (.exit 0))
 (.seq (.block 1 (.seq (.reg [sm 0 21 (.ia (.sl 2) (tm 17) (tm 19)),
 sm 1 22 (.ldA 2 (tm 21)),
 sm 2 7 (.alloc [.nilS, .nilS]),
 se 3 (.st 2 (tm 7) (tm 22))])
 (.seq (.seq (.reg [sm 0 23 (.fa 0 (tm 7)),
 sm 1 24 (.ld1 (tm 23)),
 sm 2 25 (.len (.sl 32) (tm 24)),
 sm 3 26 (.fa 1 (tm 7)),
 sm 4 27 (.ld1 (tm 26)),
 sm 5 28 (.len (.sl 11) (tm 27)),
 sm 6 29 (.bin .neq 3 (tm 25) (tm 28))])
 (.cond (tm 29) (.seq (.reg [sm 0 30 (.ldA 2 (tm 4)),
 se 1 (.st 2 (tm 2) (tm 30)),
 sm 2 3 (.mv (.const (.bool false)))])
 .ret) .skip))
 (.seq (.reg [sm 0 8 (.mv (.const (.int .i64 1)))])
 (.block 2 (.loop l176_0))))))
 (.reg [sm 0 52 (.bin .add 3 (tm 19) (.const (.int .i64 1))),
 sv 1 19 52]))))
def l176_2 : Cd := (.seq (.reg [sm 0 57 (.bin .lss 3 (tm 56) (tm 55))])
 (.seq (.cond (tm 57) .skip (.exit 6))
 (.seq (.block 7 (.seq (.reg [sv 0 58 56,
 sm 1 59 (.ia (.sl 2) (tm 54) (tm 56)),
 sm 2 60 (.ldA 2 (tm 59)),
 sm 3 11 (.alloc [.nilS, .nilS]),
 sv 4 10 58,
 se 5 (.st 2 (tm 11) (tm 60))])
 (.seq (.reg [sv 0 61 5,
 sv 1 62 10,
 sm 2 63 (.ia (.sl 1) (tm 61) (tm 62)),
 sm 3 64 (.ld1 (tm 63)),
 sm 4 65 (.fa 0 (tm 11)),
 sm 5 66 (.ld1 (tm 65)),
 sm 6 67 (.len (.sl 32) (tm 66)),
 sm 7 68 (.bin .lss 3 (tm 64) (tm 67)),
 sv 8 69 68,
 sg 9 70 69 true (.mv (tm 9)),
 sg 10 71 69 true (.bin .lss 3 (tm 70) (.const (.int .i64 0))),
 sg 11 72 69 true (.mv (tm 71)),
 sg 12 73 72 false (.fa 0 (tm 11)),
 sg 13 74 72 false (.ld1 (tm 73)),
 sg 14 75 72 false (.mv (tm 5)),
 sg 15 76 72 false (.mv (tm 10)),
 sg 16 77 72 false (.ia (.sl 1) (tm 75) (tm 76)),
 sg 17 78 72 false (.ld1 (tm 77)),
 sg 18 79 72 false (.ia (.sl 32) (tm 74) (tm 78)),
 sg 19 80 72 false (.ldA 32 (tm 79)),
 sg 20 81 72 false (.fa 0 (tm 1)),
 sg 21 82 72 false (.ld1 (tm 81)),
 sg 22 83 72 false (.mv (tm 9)),
 sg 23 84 72 false (.ia (.sl 2) (tm 82) (tm 83)),
 sg 24 85 72 false (.fa 0 (tm 84)),
 sg 25 86 72 false (.ld1 (tm 85)),
 sg 26 87 72 false (.mv (tm 5)),
 sg 27 88 72 false (.mv (tm 9)),
 sg 28 89 72 false (.ia (.sl 1) (tm 87) (tm 88)),
 sg 29 90 72 false (.ld1 (tm 89)),
 sg 30 91 72 false (.ia (.sl 32) (tm 86) (tm 90)),
 sg 31 92 72 false (.ldA 32 (tm 91)),
 ⟨32, (some 93), (some ((some 72), false)), .callF 75 [(tm 80), (tm 92)], [], false⟩,
 sg 33 94 72 false (.bin .lss 3 (tm 93) (.const (.int .i64 0))),
 sg 34 95 69 true (.pick (tm 72) (.const (.bool true)) (tm 94)),
 sm 35 96 (.pick (tm 69) (tm 95) (.const (.bool false)))])
 (.cond (tm 96) (.reg [sv 0 97 10,
 sv 1 9 97]) .skip))))
 (.reg [sm 0 98 (.bin .add 3 (tm 56) (.const (.int .i64 1))),
 sv 1 56 98]))))
def l176_3 : Cd := (.block 5 (.seq (.reg [sm 0 9 (.mv (.const (.int .i64 (-1))))])
 (.seq (.seq (.reg [sm 0 53 (.fa 0 (tm 1)),
 sm 1 54 (.ld1 (tm 53)),
 sm 2 55 (.len (.sl 2) (tm 54)),
 sm 3 56 (.mv (.const (.int .i64 0)))])
 (.block 6 (.loop l176_2)))
 (.seq (.seq (.reg [sv 0 99 9,
 sm 1 100 (.bin .lss 3 (tm 99) (.const (.int .i64 0)))])
 (.cond (tm 100) (.seq (.reg [sm 0 101 (.ldA 2 (tm 4)),
 sc 1 102 125 [(tm 101)],
 se 2 (.st 2 (tm 2) (tm 102)),
 sm 3 3 (.mv (.const (.bool true)))])
 .ret) .skip))
 (.seq (.dreg [sm 0 103 (.fa 0 (tm 4)),
 sm 1 104 (.ld1 (tm 103)),
 sm 2 105 (.fa 0 (tm 1)),
 sm 3 106 (.ld1 (tm 105)),
 sv 4 107 9,
 sm 5 108 (.ia (.sl 2) (tm 106) (tm 107)),
 sm 6 109 (.fa 0 (tm 108)),
 sm 7 110 (.ld1 (tm 109)),
 sv 8 111 5,
 sv 9 112 9,
 sm 10 113 (.ia (.sl 1) (tm 111) (tm 112)),
 sm 11 114 (.ld1 (tm 113)),
 sm 12 115 (.ia (.sl 32) (tm 110) (tm 114)),
 sm 13 116 (.ldA 32 (tm 115)),
 sm 14 117 (.bsl 32 (rep 32 (.int .u8 0)) 1 [(0, (tm 116))]),
 sm 16 119 (.fa 1 (tm 4)),
 ⟨17, (some 120), none, .mo (.ld1 (tm 119)), [], true⟩,
 sm 18 121 (.fa 0 (tm 1)),
 ⟨19, (some 122), none, .mo (.ld1 (tm 121)), [], true⟩,
 sv 20 123 9,
 sm 21 124 (.ia (.sl 2) (tm 122) (tm 123)),
 sm 22 125 (.fa 1 (tm 124)),
 ⟨23, (some 126), none, .mo (.ld1 (tm 125)), [], true⟩,
 sv 24 127 5,
 sv 25 128 9,
 sm 26 129 (.ia (.sl 1) (tm 127) (tm 128)),
 ⟨27, (some 130), none, .mo (.ld1 (tm 129)), [], true⟩,
 sm 28 131 (.ia (.sl 11) (tm 126) (tm 130)),
 ⟨29, (some 132), none, .mo (.ldA 11 (tm 131)), [], true⟩,
 ⟨30, (some 133), none, .mo (.bsl 11 [.int .u32 0, .nilS, .int .u64 0, .int .u8 0, .str [], .int .u8 0, .int .i64 0, .int .u64 0, .str [], .int .u32 0, .int .u32 0] 1 [(0, (tm 132))]), [], true⟩,
 ⟨15, (some 118), none, .mo (.app 32 32 (tm 104) (tm 117)), [30, 29, 27, 23, 19, 17], false⟩,
 sm 32 135 (.fa 0 (tm 4)),
 sm 31 134 (.app 11 112 (tm 120) (tm 133)),
 se 33 (.st 1 (tm 135) (tm 118)),
 sm 34 136 (.fa 1 (tm 4)),
 se 35 (.st 1 (tm 136) (tm 134))])
 (.reg [sv 0 137 5,
 sv 1 138 9,
 sm 2 139 (.ia (.sl 1) (tm 137) (tm 138)),
 sm 3 140 (.ld1 (tm 139)),
 sm 4 141 (.bin .add 3 (tm 140) (.const (.int .i64 1))),
 sm 5 142 (.ia (.sl 1) (tm 137) (tm 138)),
 se 6 (.st 1 (tm 142) (tm 141))]))))))
def c176 : Cd := (.seq (.reg [sm 0 1 (.box (tm 0)),
 sm 1 2 (.alloc [.nilS, .nilS]),
 sm 2 3 (.mv (.const (.bool false)))])
 (.seq (.reg [sm 0 4 (.alloc [.nilS, .nilS])])
 (.seq (.reg [sm 0 12 (.fa 0 (tm 1)),
 sm 1 13 (.ld1 (tm 12)),
 sm 2 14 (.len (.sl 2) (tm 13)),
 sm 3 15 (.mks 1 8 [.int .i64 0] (tm 14) (tm 14)),
 sv 4 5 15])
 (.seq (.seq (.reg [sm 0 16 (.fa 0 (tm 1)),
 sm 1 17 (.ld1 (tm 16)),
 sm 2 18 (.len (.sl 2) (tm 17)),
 sm 3 19 (.mv (.const (.int .i64 0)))])
 (.block 0 (.loop l176_1)))
 (.block 4 (.loop l176_3))))))
def r176 : List Mo := [.ldA 2 (tm 2), .mv (tm 3)]
theorem c176_eq : compF Tryz.prog 176 = some c176 := by kernel_rfl
theorem r176_eq : compRs Tryz.prog 176 = some r176 := by kernel_rfl
def l177_0 : Cd := (.seq (.reg [sm 0 26 (.bin .lss 3 (tm 25) (tm 24))])
 (.seq (.cond (tm 26) .skip (.exit 0))
 (.seq (.block 1 (.seq (.reg [sv 0 27 25,
 sv 1 7 27])
 (.reg [sv 0 28 6,
 sv 1 29 7,
 sm 2 30 (.ia (.sl 1) (tm 28) (tm 29)),
 se 3 (.st 1 (tm 30) (.const (.bool true)))])))
 (.reg [sm 0 31 (.bin .add 3 (tm 25) (.const (.int .i64 1))),
 sv 1 25 31]))))
def l177_1 : Cd := (.seq (.reg [sm 0 43 (.bin .lss 3 (tm 42) (tm 41))])
 (.seq (.cond (tm 43) .skip (.exit 4))
 (.seq (.block 5 (.seq (.reg [sm 0 44 (.ia (.sl 32) (tm 40) (tm 42)),
 sm 1 45 (.ldA 32 (tm 44)),
 sm 2 11 (.alloc (rep 32 (.int .u8 0))),
 se 3 (.st 32 (tm 11) (tm 45))])
 (.reg [sv 0 46 6,
 sv 1 47 5,
 sm 2 48 (.ldA 32 (tm 11)),
 sm 3 49 (.lkp 61 (.int .i64 0) false (tm 47) (tm 48)),
 sm 4 50 (.ia (.sl 1) (tm 46) (tm 49)),
 se 5 (.st 1 (tm 50) (.const (.bool false)))])))
 (.reg [sm 0 51 (.bin .add 3 (tm 42) (.const (.int .i64 1))),
 sv 1 42 51]))))
def l177_2 : Cd := (.seq (.reg [sm 0 36 (.bin .lss 3 (tm 35) (tm 34))])
 (.seq (.cond (tm 36) .skip (.exit 2))
 (.seq (.block 3 (.seq (.reg [sm 0 37 (.ia (.sl 11) (tm 33) (tm 35)),
 sm 1 38 (.ldA 11 (tm 37)),
 sm 2 9 (.alloc [.int .u32 0, .nilS, .int .u64 0, .int .u8 0, .str [], .int .u8 0, .int .i64 0, .int .u64 0, .str [], .int .u32 0, .int .u32 0]),
 se 3 (.st 11 (tm 9) (tm 38))])
 (.seq (.reg [sm 0 39 (.fa 1 (tm 9)),
 sm 1 40 (.ld1 (tm 39)),
 sm 2 41 (.len (.sl 32) (tm 40)),
 sm 3 42 (.mv (.const (.int .i64 0)))])
 (.block 4 (.loop l177_1)))))
 (.reg [sm 0 52 (.bin .add 3 (tm 35) (.const (.int .i64 1))),
 sv 1 35 52]))))
def c177 : Cd := (.seq (.reg [sm 0 1 (.box (tm 0)),
 sm 1 2 (.mv (.const (.slice none 0 0))),
 sm 2 3 (.mv (.const (.int .i64 0)))])
 (.seq (.seq (.reg [sm 0 12 (.ldA 2 (tm 1)),
 sc 1 13 38 [(tm 12)],
 sv 2 4 13])
 (.seq (.reg [sv 0 14 4,
 sm 1 15 (.bin .neq 32 (tm 14) (.const (.int .i64 0)))])
 (.cond (tm 15) (.seq (.reg [sv 0 16 4,
 sm 1 2 (.mv (.const (.slice none 0 0))),
 sv 2 3 16])
 .ret) .skip)))
 (.seq (.reg [sm 0 17 (.ldA 2 (tm 1)),
 sc 1 18 71 [(tm 17)],
 sv 2 5 18])
 (.seq (.reg [sm 0 19 (.fa 0 (tm 1)),
 sm 1 20 (.ld1 (tm 19)),
 sm 2 21 (.len (.sl 32) (tm 20)),
 sm 3 22 (.mks 1 1 [.bool false] (tm 21) (tm 21)),
 sv 4 6 22])
 (.seq (.seq (.reg [sv 0 23 6,
 sm 1 24 (.len (.sl 1) (tm 23)),
 sm 2 25 (.mv (.const (.int .i64 0)))])
 (.block 0 (.loop l177_0)))
 (.seq (.seq (.reg [sm 0 32 (.fa 1 (tm 1)),
 sm 1 33 (.ld1 (tm 32)),
 sm 2 34 (.len (.sl 11) (tm 33)),
 sm 3 35 (.mv (.const (.int .i64 0)))])
 (.block 2 (.loop l177_2)))
 (.seq (.reg [sm 0 53 (.ldA 2 (tm 1)),
 sv 1 54 6,
 sc 2 55 206 [(tm 53), (tm 54)],
 sv 3 2 55,
 sm 4 3 (.mv (.const (.int .i64 0)))])
 .ret)))))))
def r177 : List Mo := [.mv (tm 2), .mv (tm 3)]
theorem c177_eq : compF Tryz.prog 177 = some c177 := by kernel_rfl
theorem r177_eq : compRs Tryz.prog 177 = some r177 := by kernel_rfl
def l178_0 : Cd := (.seq (.reg [sm 0 14 (.bin .lss 3 (tm 13) (tm 12))])
 (.seq (.cond (tm 14) .skip (.exit 0))
 (.seq (.block 1 (.seq (.reg [sv 0 15 13,
 sv 1 5 15])
 (.seq (.reg [sv 0 16 0,
 sv 1 17 5,
 sm 2 18 (.ia (.sl 32) (tm 16) (tm 17)),
 sm 3 19 (.ldA 32 (tm 18)),
 sv 4 20 1,
 sv 5 21 5,
 sm 6 22 (.ia (.sl 32) (tm 20) (tm 21)),
 sm 7 23 (.ldA 32 (tm 22)),
 sm 8 24 (.bin .neq 61 (tm 19) (tm 23))])
 (.cond (tm 24) (.seq (.reg [sm 0 4 (.mv (.const (.bool false)))])
 .ret) .skip))))
 (.reg [sm 0 25 (.bin .add 3 (tm 13) (.const (.int .i64 1))),
 sv 1 13 25]))))
def c178 : Cd := (.seq (.reg [sm 0 4 (.mv (.const (.bool false)))])
 (.seq (.seq (.reg [sv 0 6 0,
 sm 1 7 (.len (.sl 32) (tm 6)),
 sv 2 8 1,
 sm 3 9 (.len (.sl 32) (tm 8)),
 sm 4 10 (.bin .neq 3 (tm 7) (tm 9))])
 (.cond (tm 10) (.seq (.reg [sm 0 4 (.mv (.const (.bool false)))])
 .ret) .skip))
 (.seq (.seq (.reg [sv 0 11 0,
 sm 1 12 (.len (.sl 32) (tm 11)),
 sm 2 13 (.mv (.const (.int .i64 0)))])
 (.block 0 (.loop l178_0)))
 (.seq (.reg [sm 0 4 (.mv (.const (.bool true)))])
 .ret))))
def r178 : List Mo := [.mv (tm 4)]
theorem c178_eq : compF Tryz.prog 178 = some c178 := by kernel_rfl
theorem r178_eq : compRs Tryz.prog 178 = some r178 := by kernel_rfl
def l180_0 : Cd := (.seq (.reg [sm 0 8 (.bin .lss 3 (tm 7) (tm 6))])
 (.seq (.cond (tm 8) .skip (.exit 0))
 (.seq (.block 1 (.seq (.reg [sm 0 9 (.ia (.sl 1) (tm 5) (tm 7)),
 sm 1 10 (.ld1 (tm 9)),
 sv 2 4 10])
 (.seq (.reg [sv 0 11 4,
 sc 1 12 136 [(tm 11)],
 sm 2 13 (.un .not (tm 12))])
 (.cond (tm 13) (.seq (.reg [sm 0 2 (.mv (.const (.bool false)))])
 .ret) .skip))))
 (.reg [sm 0 14 (.bin .add 3 (tm 7) (.const (.int .i64 1))),
 sv 1 7 14]))))
def c180 : Cd := (.seq (.reg [sm 0 2 (.mv (.const (.bool false)))])
 (.seq (.seq (.reg [sv 0 5 0,
 sm 1 6 (.len (.sl 1) (tm 5)),
 sm 2 7 (.mv (.const (.int .i64 0)))])
 (.block 0 (.loop l180_0)))
 (.seq (.reg [sm 0 2 (.mv (.const (.bool true)))])
 .ret)))
def r180 : List Mo := [.mv (tm 2)]
theorem c180_eq : compF Tryz.prog 180 = some c180 := by kernel_rfl
theorem r180_eq : compRs Tryz.prog 180 = some r180 := by kernel_rfl
def c186 : Cd := (.reg [sm 0 1 (.ld1 (tm 0)),
 sm 1 2 (.ld1 (tm 0)),
 sm 2 3 (.bsl 1 [.int .u32 0] 2 [(0, (tm 1)), (1, (tm 2))]),
 sc 3 4 157 [(.const (.int .u64 1000000007)), (tm 3)],
 se 4 (.st 1 (tm 0) (tm 4))])
def r186 : List Mo := []
theorem c186_eq : compF Tryz.prog 186 = some c186 := by kernel_rfl
theorem r186_eq : compRs Tryz.prog 186 = some r186 := by kernel_rfl
def c187 : Cd := (.seq (.reg [sm 0 3 (.box (tm 0)),
 sm 1 4 (.mv (.const (.bool false)))])
 (.seq (.reg [sm 0 5 (.ld1 (tm 1)),
 sm 1 6 (.bin .add 3 (tm 5) (.const (.int .i64 1))),
 se 2 (.st 1 (tm 1) (tm 6))])
 (.seq (.reg [sm 0 7 (.ld1 (tm 1)),
 sm 1 8 (.ld1 (tm 2)),
 sm 2 9 (.len (.sl 32) (tm 8)),
 sm 3 10 (.bin .lss 3 (tm 7) (tm 9)),
 sv 4 11 10,
 sg 5 12 11 true (.ld1 (tm 2)),
 sg 6 13 11 true (.ld1 (tm 1)),
 sg 7 14 11 true (.bin .sub 3 (tm 13) (.const (.int .i64 1))),
 sg 8 15 11 true (.ia (.sl 32) (tm 12) (tm 14)),
 sg 9 16 11 true (.ldA 32 (tm 15)),
 sg 10 17 11 true (.ld1 (tm 2)),
 sg 11 18 11 true (.ld1 (tm 1)),
 sg 12 19 11 true (.ia (.sl 32) (tm 17) (tm 18)),
 sg 13 20 11 true (.ldA 32 (tm 19)),
 ⟨14, (some 21), (some ((some 11), true)), .callF 75 [(tm 16), (tm 20)], [], false⟩,
 sg 15 22 11 true (.bin .geq 3 (tm 21) (.const (.int .i64 0))),
 sm 16 23 (.pick (tm 11) (tm 22) (.const (.bool false))),
 sv 17 4 23])
 .ret)))
def r187 : List Mo := [.mv (tm 4)]
theorem c187_eq : compF Tryz.prog 187 = some c187 := by kernel_rfl
theorem r187_eq : compRs Tryz.prog 187 = some r187 := by kernel_rfl
def l191_0 : Cd := (.seq (.reg [sm 0 9 (.bin .lss 3 (tm 8) (tm 7))])
 (.seq (.cond (tm 9) .skip (.exit 0))
 (.seq (.block 1 (.seq (.reg [sv 0 10 8,
 sv 1 5 10])
 (.seq (.reg [sv 0 11 1,
 sv 1 12 0,
 sv 2 13 5,
 sm 3 14 (.ia (.sl 1) (tm 12) (tm 13)),
 sm 4 15 (.ld1 (tm 14)),
 ⟨5, (some 16), none, .callV (tm 11) [(tm 15)], [], false⟩])
 (.cond (tm 16) (.seq (.reg [sv 0 17 5,
 sv 1 4 17])
 .ret) .skip))))
 (.reg [sm 0 18 (.bin .add 3 (tm 8) (.const (.int .i64 1))),
 sv 1 8 18]))))
def c191 : Cd := (.seq (.reg [sm 0 4 (.mv (.const (.int .i64 0)))])
 (.seq (.seq (.reg [sv 0 6 0,
 sm 1 7 (.len (.sl 1) (tm 6)),
 sm 2 8 (.mv (.const (.int .i64 0)))])
 (.block 0 (.loop l191_0)))
 (.seq (.reg [sm 0 4 (.mv (.const (.int .i64 (-1))))])
 .ret)))
def r191 : List Mo := [.mv (tm 4)]
theorem c191_eq : compF Tryz.prog 191 = some c191 := by kernel_rfl
theorem r191_eq : compRs Tryz.prog 191 = some r191 := by kernel_rfl
def l192_0 : Cd := (.seq (.reg [sm 0 53 (.bin .lss 3 (tm 52) (.const (.int .i64 64)))])
 (.seq (.cond (tm 53) .skip (.exit 0))
 (.seq (.block 1 (.seq (.reg [sv 0 54 52,
 sv 1 13 54])
 (.seq (.dreg [sv 0 55 12,
 sv 1 56 9,
 sv 4 59 9,
 sv 5 60 10,
 sm 6 61 (.bin .and 85 (tm 59) (tm 60)),
 sv 7 62 9,
 sm 8 63 (.un .xor (tm 62)),
 sv 9 64 11,
 sm 10 65 (.bin .and 85 (tm 63) (tm 64)),
 sm 11 66 (.bin .xor 85 (tm 61) (tm 65)),
 sv 13 68 13,
 sm 14 69 (.ia (.arr 64 1) (.global 1) (tm 68)),
 ⟨15, (some 70), none, .mo (.ld1 (tm 69)), [], true⟩,
 sv 17 72 13,
 sm 18 73 (.ia (.arr 64 1) (tm 4) (tm 72)),
 ⟨19, (some 74), none, .mo (.ld1 (tm 73)), [], true⟩,
 ⟨2, (some 57), none, .callF 213 [(tm 56), (.const (.int .i64 6)), (.const (.int .i64 11)), (.const (.int .i64 25))], [19, 15], false⟩,
 sm 3 58 (.bin .add 85 (tm 55) (tm 57)),
 sm 12 67 (.bin .add 85 (tm 58) (tm 66)),
 sm 16 71 (.bin .add 85 (tm 67) (tm 70)),
 sm 20 75 (.bin .add 85 (tm 71) (tm 74)),
 sv 21 14 75])
 (.seq (.reg [sv 0 76 5,
 sc 1 77 213 [(tm 76), (.const (.int .i64 2)), (.const (.int .i64 13)), (.const (.int .i64 22))],
 sv 2 78 5,
 sv 3 79 6,
 sm 4 80 (.bin .and 85 (tm 78) (tm 79)),
 sv 5 81 5,
 sv 6 82 7,
 sm 7 83 (.bin .and 85 (tm 81) (tm 82)),
 sm 8 84 (.bin .xor 85 (tm 80) (tm 83)),
 sv 9 85 6,
 sv 10 86 7,
 sm 11 87 (.bin .and 85 (tm 85) (tm 86)),
 sm 12 88 (.bin .xor 85 (tm 84) (tm 87)),
 sm 13 89 (.bin .add 85 (tm 77) (tm 88)),
 sv 14 15 89])
 (.reg [sv 0 90 14,
 sv 1 91 15,
 sm 2 92 (.bin .add 85 (tm 90) (tm 91)),
 sv 3 93 5,
 sv 4 94 6,
 sv 5 95 7,
 sv 6 96 8,
 sv 7 97 14,
 sm 8 98 (.bin .add 85 (tm 96) (tm 97)),
 sv 9 99 9,
 sv 10 100 10,
 sv 11 101 11,
 sv 12 5 92,
 sv 13 6 93,
 sv 14 7 94,
 sv 15 8 95,
 sv 16 9 98,
 sv 17 10 99,
 sv 18 11 100,
 sv 19 12 101])))))
 (.reg [sm 0 102 (.bin .add 3 (tm 52) (.const (.int .i64 1))),
 sv 1 52 102]))))
def l192_1 : Cd := (.seq (.reg [sm 0 113 (.bin .lss 3 (tm 112) (.const (.int .i64 8)))])
 (.seq (.cond (tm 113) .skip (.exit 2))
 (.seq (.block 3 (.seq (.reg [sv 0 114 112,
 sm 1 115 (.ix1 8 1 (tm 111) (tm 112)),
 sv 2 16 114,
 sv 3 17 115])
 (.reg [sv 0 116 0,
 sv 1 117 16,
 sm 2 118 (.nilc (tm 116)),
 sm 3 119 (.ia (.arr 8 1) (tm 118) (tm 117)),
 sm 4 120 (.ld1 (tm 119)),
 sv 5 121 17,
 sm 6 122 (.bin .add 85 (tm 120) (tm 121)),
 sm 7 123 (.nilc (tm 116)),
 sm 8 124 (.ia (.arr 8 1) (tm 123) (tm 117)),
 se 9 (.st 1 (tm 124) (tm 122))])))
 (.reg [sm 0 125 (.bin .add 3 (tm 112) (.const (.int .i64 1))),
 sv 1 112 125]))))
def c192 : Cd := (.seq (.reg [sv 0 18 1,
 sc 1 19 212 [(tm 18)],
 sm 2 4 (.alloc (rep 64 (.int .u32 0))),
 se 3 (.st 64 (tm 4) (tm 19))])
 (.seq (.reg [sv 0 20 0,
 sm 1 21 (.nilc (tm 20)),
 sm 2 22 (.ia (.arr 8 1) (tm 21) (.const (.int .i64 0))),
 sm 3 23 (.ld1 (tm 22)),
 sv 4 24 0,
 sm 5 25 (.nilc (tm 24)),
 sm 6 26 (.ia (.arr 8 1) (tm 25) (.const (.int .i64 1))),
 sm 7 27 (.ld1 (tm 26)),
 sv 8 28 0,
 sm 9 29 (.nilc (tm 28)),
 sm 10 30 (.ia (.arr 8 1) (tm 29) (.const (.int .i64 2))),
 sm 11 31 (.ld1 (tm 30)),
 sv 12 32 0,
 sm 13 33 (.nilc (tm 32)),
 sm 14 34 (.ia (.arr 8 1) (tm 33) (.const (.int .i64 3))),
 sm 15 35 (.ld1 (tm 34)),
 sv 16 36 0,
 sm 17 37 (.nilc (tm 36)),
 sm 18 38 (.ia (.arr 8 1) (tm 37) (.const (.int .i64 4))),
 sm 19 39 (.ld1 (tm 38)),
 sv 20 40 0,
 sm 21 41 (.nilc (tm 40)),
 sm 22 42 (.ia (.arr 8 1) (tm 41) (.const (.int .i64 5))),
 sm 23 43 (.ld1 (tm 42)),
 sv 24 44 0,
 sm 25 45 (.nilc (tm 44)),
 sm 26 46 (.ia (.arr 8 1) (tm 45) (.const (.int .i64 6))),
 sm 27 47 (.ld1 (tm 46)),
 sv 28 48 0,
 sm 29 49 (.nilc (tm 48)),
 sm 30 50 (.ia (.arr 8 1) (tm 49) (.const (.int .i64 7))),
 sm 31 51 (.ld1 (tm 50)),
 sv 32 5 23,
 sv 33 6 27,
 sv 34 7 31,
 sv 35 8 35,
 sv 36 9 39,
 sv 37 10 43,
 sv 38 11 47,
 sv 39 12 51])
 (.seq (.seq (.reg [sm 0 52 (.mv (.const (.int .i64 0)))])
 (.block 0 (.loop l192_0)))
 (.seq (.reg [sv 0 103 5,
 sv 1 104 6,
 sv 2 105 7,
 sv 3 106 8,
 sv 4 107 9,
 sv 5 108 10,
 sv 6 109 11,
 sv 7 110 12,
 sm 8 111 (.bld [.int .u32 0, .int .u32 0, .int .u32 0, .int .u32 0, .int .u32 0, .int .u32 0, .int .u32 0, .int .u32 0] [(0, 1, (tm 103)), (1, 1, (tm 104)), (2, 1, (tm 105)), (3, 1, (tm 106)), (4, 1, (tm 107)), (5, 1, (tm 108)), (6, 1, (tm 109)), (7, 1, (tm 110))]),
 sm 9 112 (.mv (.const (.int .i64 0)))])
 (.block 2 (.loop l192_1))))))
def r192 : List Mo := []
theorem c192_eq : compF Tryz.prog 192 = some c192 := by kernel_rfl
theorem r192_eq : compRs Tryz.prog 192 = some r192 := by kernel_rfl
def c193 : Cd := (.seq (.reg [sm 0 2 (.mv (.const (.slice none 0 0)))])
 (.seq (.seq (.reg [sv 0 3 0,
 sm 1 4 (.bin .eql 143 (tm 3) (.const (.slice none 0 0)))])
 (.cond (tm 4) (.seq (.reg [sm 0 2 (.mv (.const (.slice none 0 0)))])
 .ret) .skip))
 (.seq (.reg [sm 0 5 (.bsl 1 [.int .u8 0] 0 []),
 sv 1 6 0,
 sm 2 7 (.app 1 1 (tm 5) (tm 6)),
 sv 3 2 7])
 .ret)))
def r193 : List Mo := [.mv (tm 2)]
theorem c193_eq : compF Tryz.prog 193 = some c193 := by kernel_rfl
theorem r193_eq : compRs Tryz.prog 193 = some r193 := by kernel_rfl
def c196 : Cd := (.seq (.reg [sm 0 2 (.mv (.const (.bool false)))])
 (.seq (.reg [sv 0 3 0,
 sm 1 4 (.bin .geq 85 (tm 3) (.const (.int .u32 1))),
 sv 2 5 4,
 sg 3 6 5 true (.mv (tm 0)),
 sg 4 7 5 true (.bin .lss 85 (tm 6) (.const (.int .u32 1000000007))),
 sm 5 8 (.pick (tm 5) (tm 7) (.const (.bool false))),
 sv 6 9 8,
 sg 7 10 9 true (.mv (tm 0)),
 sg 8 11 9 true (.cint .u64 (tm 10)),
 ⟨9, (some 12), (some ((some 9), true)), .callF 216 [(tm 11), (.const (.int .u64 500000003)), (.const (.int .u64 1000000007))], [], false⟩,
 sg 10 13 9 true (.bin .eql 86 (tm 12) (.const (.int .u64 1))),
 sm 11 14 (.pick (tm 9) (tm 13) (.const (.bool false))),
 sv 12 2 14])
 .ret))
def r196 : List Mo := [.mv (tm 2)]
theorem c196_eq : compF Tryz.prog 196 = some c196 := by kernel_rfl
theorem r196_eq : compRs Tryz.prog 196 = some r196 := by kernel_rfl
def c198 : Cd := (.seq (.reg [sm 0 2 (.mv (.const (.bool false)))])
 (.seq (.reg [sv 0 3 0,
 sm 1 4 (.cint .u64 (tm 3)),
 sm 2 5 (.bin .lss 86 (tm 4) (.const (.int .u64 500000003))),
 sv 3 2 5])
 .ret))
def r198 : List Mo := [.mv (tm 2)]
theorem c198_eq : compF Tryz.prog 198 = some c198 := by kernel_rfl
theorem r198_eq : compRs Tryz.prog 198 = some r198 := by kernel_rfl
def l201_0 : Cd := (.seq (.seq (.reg [sv 0 5 4,
 sm 1 6 (.bin .lss 3 (tm 5) (.const (.int .i64 32)))])
 (.cond (tm 6) .skip (.exit 0)))
 (.seq (.block 1 (.reg [sv 0 9 4,
 sv 1 10 4,
 sm 2 11 (.bin .quo 3 (tm 10) (.const (.int .i64 4))),
 sm 3 12 (.ia (.arr 8 1) (tm 1) (tm 11)),
 sm 4 13 (.ld1 (tm 12)),
 sv 5 14 4,
 sm 6 15 (.bin .rem 3 (tm 14) (.const (.int .i64 4))),
 sm 7 16 (.bin .mul 3 (.const (.int .i64 8)) (tm 15)),
 sm 8 17 (.bin .sub 3 (.const (.int .i64 24)) (tm 16)),
 sm 9 18 (.bin .shr 85 (tm 13) (tm 17)),
 sm 10 19 (.cint .u8 (tm 18)),
 sm 11 20 (.ia (.arr 32 1) (tm 3) (tm 9)),
 se 12 (.st 1 (tm 20) (tm 19))]))
 (.reg [sv 0 7 4,
 sm 1 8 (.bin .add 3 (tm 7) (.const (.int .i64 1))),
 sv 2 4 8])))
def c201 : Cd := (.seq (.reg [sm 0 1 (.box (tm 0)),
 sm 1 2 (.alloc (rep 32 (.int .u8 0)))])
 (.seq (.reg [sm 0 3 (.alloc (rep 32 (.int .u8 0)))])
 (.seq (.seq (.reg [sm 0 4 (.mv (.const (.int .i64 0)))])
 (.block 0 (.loop l201_0)))
 (.seq (.reg [sm 0 21 (.ldA 32 (tm 3)),
 se 1 (.st 32 (tm 2) (tm 21))])
 .ret))))
def r201 : List Mo := [.ldA 32 (tm 2)]
theorem c201_eq : compF Tryz.prog 201 = some c201 := by kernel_rfl
theorem r201_eq : compRs Tryz.prog 201 = some r201 := by kernel_rfl
def l202_0 : Cd := (.seq (.seq (.reg [sv 0 6 5,
 sm 1 7 (.bin .add 3 (tm 6) (.const (.int .i64 64))),
 sv 2 8 1,
 sm 3 9 (.len (.sl 1) (tm 8)),
 sm 4 10 (.bin .leq 3 (tm 7) (tm 9))])
 (.cond (tm 10) .skip (.exit 0)))
 (.seq (.block 1 (.reg [sm 0 13 (.ldA 8 (tm 2)),
 sv 1 14 1,
 sv 2 15 5,
 sv 3 16 5,
 sm 4 17 (.bin .add 3 (tm 16) (.const (.int .i64 64))),
 sm 5 18 (.slice (.sl 1) (tm 14) (some (tm 15)) (some (tm 17)) none),
 sc 6 19 227 [(tm 13), (tm 18)],
 se 7 (.st 8 (tm 2) (tm 19))]))
 (.reg [sv 0 11 5,
 sm 1 12 (.bin .add 3 (tm 11) (.const (.int .i64 64))),
 sv 2 5 12])))
def c202 : Cd := (.seq (.reg [sm 0 2 (.box (tm 0)),
 sm 1 4 (.alloc [.int .u32 0, .int .u32 0, .int .u32 0, .int .u32 0, .int .u32 0, .int .u32 0, .int .u32 0, .int .u32 0])])
 (.seq (.seq (.reg [sm 0 5 (.mv (.const (.int .i64 0)))])
 (.block 0 (.loop l202_0)))
 (.seq (.reg [sm 0 20 (.ldA 8 (tm 2)),
 se 1 (.st 8 (tm 4) (tm 20))])
 .ret)))
def r202 : List Mo := [.ldA 8 (tm 4)]
theorem c202_eq : compF Tryz.prog 202 = some c202 := by kernel_rfl
theorem r202_eq : compRs Tryz.prog 202 = some r202 := by kernel_rfl
def c203 : Cd := (.seq (.reg [sm 0 0 (.alloc [.int .u32 0, .int .u32 0, .int .u32 0, .int .u32 0, .int .u32 0, .int .u32 0, .int .u32 0, .int .u32 0])])
 (.seq (.reg [sm 0 1 (.bld [.int .u32 0, .int .u32 0, .int .u32 0, .int .u32 0, .int .u32 0, .int .u32 0, .int .u32 0, .int .u32 0] [(0, 1, (.const (.int .u32 1779033703))), (1, 1, (.const (.int .u32 3144134277))), (2, 1, (.const (.int .u32 1013904242))), (3, 1, (.const (.int .u32 2773480762))), (4, 1, (.const (.int .u32 1359893119))), (5, 1, (.const (.int .u32 2600822924))), (6, 1, (.const (.int .u32 528734635))), (7, 1, (.const (.int .u32 1541459225)))]),
 se 1 (.st 8 (tm 0) (tm 1))])
 .ret))
def r203 : List Mo := [.ldA 8 (tm 0)]
theorem c203_eq : compF Tryz.prog 203 = some c203 := by kernel_rfl
theorem r203_eq : compRs Tryz.prog 203 = some r203 := by kernel_rfl
def l204_0 : Cd := (.seq (.seq (.reg [sv 0 6 0,
 sv 1 7 3,
 sm 2 8 (.len (.sl 1) (tm 7)),
 sm 3 9 (.bin .add 3 (tm 6) (tm 8)),
 sm 4 10 (.bin .add 3 (tm 9) (.const (.int .i64 8))),
 sm 5 11 (.bin .rem 3 (tm 10) (.const (.int .i64 64))),
 sm 6 12 (.bin .neq 3 (tm 11) (.const (.int .i64 0)))])
 (.cond (tm 12) .skip (.exit 0)))
 (.block 1 (.reg [sv 0 13 3,
 sm 1 14 (.bsl 1 [.int .u8 0] 1 [(0, (.const (.int .u8 0)))]),
 sm 2 15 (.app 1 1 (tm 13) (tm 14)),
 sv 3 3 15])))
def l204_1 : Cd := (.seq (.seq (.reg [sv 0 16 4,
 sm 1 17 (.bin .geq 3 (tm 16) (.const (.int .i64 0)))])
 (.cond (tm 17) .skip (.exit 2)))
 (.seq (.block 3 (.reg [sv 0 20 3,
 sv 1 21 0,
 sm 2 22 (.cint .u64 (tm 21)),
 sm 3 23 (.bin .mul 86 (.const (.int .u64 8)) (tm 22)),
 sv 4 24 4,
 sm 5 25 (.bin .mul 3 (.const (.int .i64 8)) (tm 24)),
 sm 6 26 (.bin .shr 86 (tm 23) (tm 25)),
 sm 7 27 (.cint .u8 (tm 26)),
 sm 8 28 (.bsl 1 [.int .u8 0] 1 [(0, (tm 27))]),
 sm 9 29 (.app 1 1 (tm 20) (tm 28)),
 sv 10 3 29]))
 (.reg [sv 0 18 4,
 sm 1 19 (.bin .sub 3 (tm 18) (.const (.int .i64 1))),
 sv 2 4 19])))
def c204 : Cd := (.seq (.reg [sm 0 2 (.mv (.const (.slice none 0 0)))])
 (.seq (.reg [sm 0 5 (.bsl 1 [.int .u8 0] 1 [(0, (.const (.int .u8 128)))]),
 sv 1 3 5])
 (.seq (.block 0 (.loop l204_0))
 (.seq (.seq (.reg [sm 0 4 (.mv (.const (.int .i64 7)))])
 (.block 2 (.loop l204_1)))
 (.seq (.reg [sv 0 30 3,
 sv 1 2 30])
 .ret)))))
def r204 : List Mo := [.mv (tm 2)]
theorem c204_eq : compF Tryz.prog 204 = some c204 := by kernel_rfl
theorem r204_eq : compRs Tryz.prog 204 = some r204 := by kernel_rfl
def l206_0 : Cd := (.seq (.reg [sm 0 10 (.bin .lss 3 (tm 9) (tm 8))])
 (.seq (.cond (tm 10) .skip (.exit 0))
 (.seq (.block 1 (.seq (.reg [sv 0 11 9,
 sv 1 6 11])
 (.seq (.reg [sv 0 12 1,
 sv 1 13 6,
 sm 2 14 (.ia (.sl 1) (tm 12) (tm 13)),
 sm 3 15 (.ld1 (tm 14))])
 (.cond (tm 15) (.reg [sv 0 16 5,
 sm 1 17 (.fa 0 (tm 2)),
 sm 2 18 (.ld1 (tm 17)),
 sv 3 19 6,
 sm 4 20 (.ia (.sl 32) (tm 18) (tm 19)),
 sm 5 21 (.ldA 32 (tm 20)),
 sm 6 22 (.bsl 32 (rep 32 (.int .u8 0)) 1 [(0, (tm 21))]),
 sm 7 23 (.app 32 32 (tm 16) (tm 22)),
 sv 8 5 23]) .skip))))
 (.reg [sm 0 24 (.bin .add 3 (tm 9) (.const (.int .i64 1))),
 sv 1 9 24]))))
def c206 : Cd := (.seq (.reg [sm 0 2 (.box (tm 0)),
 sm 1 4 (.mv (.const (.slice none 0 0)))])
 (.seq (.reg [sm 0 5 (.mv (.const (.slice none 0 0)))])
 (.seq (.seq (.reg [sv 0 7 1,
 sm 1 8 (.len (.sl 1) (tm 7)),
 sm 2 9 (.mv (.const (.int .i64 0)))])
 (.block 0 (.loop l206_0)))
 (.seq (.reg [sv 0 25 5,
 sv 1 4 25])
 .ret))))
def r206 : List Mo := [.mv (tm 4)]
theorem c206_eq : compF Tryz.prog 206 = some c206 := by kernel_rfl
theorem r206_eq : compRs Tryz.prog 206 = some r206 := by kernel_rfl
def l212_0 : Cd := (.seq (.reg [sm 0 14 (.bin .lss 3 (tm 13) (tm 12))])
 (.seq (.cond (tm 14) .skip (.exit 0))
 (.seq (.block 1 (.seq (.reg [sv 0 15 13,
 sm 1 16 (.ia (.sl 1) (tm 11) (tm 13)),
 sm 2 17 (.ld1 (tm 16)),
 sv 3 3 15,
 sv 4 4 17])
 (.reg [sv 0 18 3,
 sm 1 19 (.bin .quo 3 (tm 18) (.const (.int .i64 4))),
 sv 2 20 3,
 sm 3 21 (.bin .quo 3 (tm 20) (.const (.int .i64 4))),
 sm 4 22 (.ia (.arr 64 1) (tm 2) (tm 21)),
 sm 5 23 (.ld1 (tm 22)),
 sm 6 24 (.bin .shl 85 (tm 23) (.const (.int .u64 8))),
 sv 7 25 4,
 sm 8 26 (.cint .u32 (tm 25)),
 sm 9 27 (.bin .or 85 (tm 24) (tm 26)),
 sm 10 28 (.ia (.arr 64 1) (tm 2) (tm 19)),
 se 11 (.st 1 (tm 28) (tm 27))])))
 (.reg [sm 0 29 (.bin .add 3 (tm 13) (.const (.int .i64 1))),
 sv 1 13 29]))))
def l212_1 : Cd := (.seq (.seq (.reg [sv 0 30 5,
 sm 1 31 (.bin .lss 3 (tm 30) (.const (.int .i64 64)))])
 (.cond (tm 31) .skip (.exit 2)))
 (.seq (.block 3 (.seq (.reg [sv 0 34 5,
 sm 1 35 (.bin .sub 3 (tm 34) (.const (.int .i64 15))),
 sm 2 36 (.ia (.arr 64 1) (tm 2) (tm 35)),
 sm 3 37 (.ld1 (tm 36)),
 sv 4 38 5,
 sm 5 39 (.bin .sub 3 (tm 38) (.const (.int .i64 2))),
 sm 6 40 (.ia (.arr 64 1) (tm 2) (tm 39)),
 sm 7 41 (.ld1 (tm 40)),
 sv 8 6 37,
 sv 9 7 41])
 (.seq (.reg [sv 0 42 6,
 sc 1 43 230 [(tm 42), (.const (.int .i64 (-7)))],
 sv 2 44 6,
 sc 3 45 230 [(tm 44), (.const (.int .i64 (-18)))],
 sm 4 46 (.bin .xor 85 (tm 43) (tm 45)),
 sv 5 47 6,
 sm 6 48 (.bin .shr 85 (tm 47) (.const (.int .u64 3))),
 sm 7 49 (.bin .xor 85 (tm 46) (tm 48)),
 sv 8 8 49])
 (.seq (.reg [sv 0 50 7,
 sc 1 51 230 [(tm 50), (.const (.int .i64 (-17)))],
 sv 2 52 7,
 sc 3 53 230 [(tm 52), (.const (.int .i64 (-19)))],
 sm 4 54 (.bin .xor 85 (tm 51) (tm 53)),
 sv 5 55 7,
 sm 6 56 (.bin .shr 85 (tm 55) (.const (.int .u64 10))),
 sm 7 57 (.bin .xor 85 (tm 54) (tm 56)),
 sv 8 9 57])
 (.reg [sv 0 58 5,
 sv 1 59 5,
 sm 2 60 (.bin .sub 3 (tm 59) (.const (.int .i64 16))),
 sm 3 61 (.ia (.arr 64 1) (tm 2) (tm 60)),
 sm 4 62 (.ld1 (tm 61)),
 sv 5 63 5,
 sm 6 64 (.bin .sub 3 (tm 63) (.const (.int .i64 7))),
 sm 7 65 (.ia (.arr 64 1) (tm 2) (tm 64)),
 sm 8 66 (.ld1 (tm 65)),
 sm 9 67 (.bin .add 85 (tm 62) (tm 66)),
 sv 10 68 8,
 sm 11 69 (.bin .add 85 (tm 67) (tm 68)),
 sv 12 70 9,
 sm 13 71 (.bin .add 85 (tm 69) (tm 70)),
 sm 14 72 (.ia (.arr 64 1) (tm 2) (tm 58)),
 se 15 (.st 1 (tm 72) (tm 71))])))))
 (.reg [sv 0 32 5,
 sm 1 33 (.bin .add 3 (tm 32) (.const (.int .i64 1))),
 sv 2 5 33])))
def c212 : Cd := (.seq (.reg [sm 0 2 (.alloc (rep 64 (.int .u32 0)))])
 (.seq (.seq (.reg [sv 0 10 0,
 sm 1 11 (.slice (.sl 1) (tm 10) none (some (.const (.int .i64 64))) none),
 sm 2 12 (.len (.sl 1) (tm 11)),
 sm 3 13 (.mv (.const (.int .i64 0)))])
 (.block 0 (.loop l212_0)))
 (.seq (.seq (.reg [sm 0 5 (.mv (.const (.int .i64 16)))])
 (.block 2 (.loop l212_1)))
 (.seq (.reg [sm 0 73 (.ldA 64 (tm 2)),
 se 1 (.st 64 (tm 2) (tm 73))])
 .ret))))
def r212 : List Mo := [.ldA 64 (tm 2)]
theorem c212_eq : compF Tryz.prog 212 = some c212 := by kernel_rfl
theorem r212_eq : compRs Tryz.prog 212 = some r212 := by kernel_rfl
def c213 : Cd := (.seq (.reg [sm 0 8 (.mv (.const (.int .u32 0)))])
 (.seq (.reg [sv 0 9 0,
 sv 1 10 1,
 sm 2 11 (.un .neg (tm 10)),
 sc 3 12 230 [(tm 9), (tm 11)],
 sv 4 13 0,
 sv 5 14 2,
 sm 6 15 (.un .neg (tm 14)),
 sc 7 16 230 [(tm 13), (tm 15)],
 sm 8 17 (.bin .xor 85 (tm 12) (tm 16)),
 sv 9 18 0,
 sv 10 19 3,
 sm 11 20 (.un .neg (tm 19)),
 sc 12 21 230 [(tm 18), (tm 20)],
 sm 13 22 (.bin .xor 85 (tm 17) (tm 21)),
 sv 14 8 22])
 .ret))
def r213 : List Mo := [.mv (tm 8)]
theorem c213_eq : compF Tryz.prog 213 = some c213 := by kernel_rfl
theorem r213_eq : compRs Tryz.prog 213 = some r213 := by kernel_rfl
def l216_0 : Cd := (.seq (.seq (.reg [sv 0 8 1,
 sm 1 9 (.bin .gtr 86 (tm 8) (.const (.int .u64 0)))])
 (.cond (tm 9) .skip (.exit 0)))
 (.block 1 (.seq (.seq (.reg [sv 0 10 1,
 sm 1 11 (.bin .rem 86 (tm 10) (.const (.int .u64 2))),
 sm 2 12 (.bin .eql 86 (tm 11) (.const (.int .u64 1)))])
 (.cond (tm 12) (.reg [sv 0 13 7,
 sv 1 14 0,
 sm 2 15 (.bin .mul 86 (tm 13) (tm 14)),
 sv 3 16 2,
 sm 4 17 (.bin .rem 86 (tm 15) (tm 16)),
 sv 5 7 17]) .skip))
 (.seq (.reg [sv 0 18 0,
 sv 1 19 0,
 sm 2 20 (.bin .mul 86 (tm 18) (tm 19)),
 sv 3 21 2,
 sm 4 22 (.bin .rem 86 (tm 20) (tm 21)),
 sv 5 0 22])
 (.reg [sv 0 23 1,
 sm 1 24 (.bin .quo 86 (tm 23) (.const (.int .u64 2))),
 sv 2 1 24])))))
def c216 : Cd := (.seq (.reg [sm 0 6 (.mv (.const (.int .u64 0)))])
 (.seq (.reg [sm 0 7 (.mv (.const (.int .u64 1)))])
 (.seq (.block 0 (.loop l216_0))
 (.seq (.reg [sv 0 25 7,
 sv 1 6 25])
 .ret))))
def r216 : List Mo := [.mv (tm 6)]
theorem c216_eq : compF Tryz.prog 216 = some c216 := by kernel_rfl
theorem r216_eq : compRs Tryz.prog 216 = some r216 := by kernel_rfl
def c225 : Cd := (.seq (.reg [sm 0 2 (.mv (.const (.slice none 0 0)))])
 (.seq (.reg [sv 0 3 0,
 sm 1 4 (.len (.sl 1) (tm 3)),
 sm 2 5 (.cint .u64 (tm 4)),
 sc 3 6 205 [(tm 5)],
 sv 4 7 0,
 sm 5 8 (.app 1 1 (tm 6) (tm 7)),
 sv 6 2 8])
 .ret))
def r225 : List Mo := [.mv (tm 2)]
theorem c225_eq : compF Tryz.prog 225 = some c225 := by kernel_rfl
theorem r225_eq : compRs Tryz.prog 225 = some r225 := by kernel_rfl
def l227_0 : Cd := (.seq (.seq (.reg [sv 0 22 6,
 sm 1 23 (.bin .lss 3 (tm 22) (.const (.int .i64 16)))])
 (.cond (tm 23) .skip (.exit 0)))
 (.seq (.block 1 (.reg [sv 0 26 5,
 sv 1 27 1,
 sv 2 28 6,
 sm 3 29 (.bin .mul 3 (.const (.int .i64 4)) (tm 28)),
 sm 4 30 (.ia (.sl 1) (tm 27) (tm 29)),
 sm 5 31 (.ld1 (tm 30)),
 sm 6 32 (.cint .u32 (tm 31)),
 sm 7 33 (.bin .mul 85 (tm 32) (.const (.int .u32 256))),
 sv 8 34 1,
 sv 9 35 6,
 sm 10 36 (.bin .mul 3 (.const (.int .i64 4)) (tm 35)),
 sm 11 37 (.bin .add 3 (tm 36) (.const (.int .i64 1))),
 sm 12 38 (.ia (.sl 1) (tm 34) (tm 37)),
 sm 13 39 (.ld1 (tm 38)),
 sm 14 40 (.cint .u32 (tm 39)),
 sm 15 41 (.bin .add 85 (tm 33) (tm 40)),
 sm 16 42 (.bin .mul 85 (tm 41) (.const (.int .u32 256))),
 sv 17 43 1,
 sv 18 44 6,
 sm 19 45 (.bin .mul 3 (.const (.int .i64 4)) (tm 44)),
 sm 20 46 (.bin .add 3 (tm 45) (.const (.int .i64 2))),
 sm 21 47 (.ia (.sl 1) (tm 43) (tm 46)),
 sm 22 48 (.ld1 (tm 47)),
 sm 23 49 (.cint .u32 (tm 48)),
 sm 24 50 (.bin .add 85 (tm 42) (tm 49)),
 sm 25 51 (.bin .mul 85 (tm 50) (.const (.int .u32 256))),
 sv 26 52 1,
 sv 27 53 6,
 sm 28 54 (.bin .mul 3 (.const (.int .i64 4)) (tm 53)),
 sm 29 55 (.bin .add 3 (tm 54) (.const (.int .i64 3))),
 sm 30 56 (.ia (.sl 1) (tm 52) (tm 55)),
 sm 31 57 (.ld1 (tm 56)),
 sm 32 58 (.cint .u32 (tm 57)),
 sm 33 59 (.bin .add 85 (tm 51) (tm 58)),
 sm 34 60 (.bsl 1 [.int .u32 0] 1 [(0, (tm 59))]),
 sm 35 61 (.app 1 4 (tm 26) (tm 60)),
 sv 36 5 61]))
 (.reg [sv 0 24 6,
 sm 1 25 (.bin .add 3 (tm 24) (.const (.int .i64 1))),
 sv 2 6 25])))
def l227_1 : Cd := (.seq (.seq (.reg [sv 0 62 7,
 sm 1 63 (.bin .lss 3 (tm 62) (.const (.int .i64 64)))])
 (.cond (tm 63) .skip (.exit 2)))
 (.seq (.block 3 (.seq (.reg [sv 0 66 5,
 sv 1 67 7,
 sm 2 68 (.bin .sub 3 (tm 67) (.const (.int .i64 15))),
 sm 3 69 (.ia (.sl 1) (tm 66) (tm 68)),
 sm 4 70 (.ld1 (tm 69)),
 sv 5 71 5,
 sv 6 72 7,
 sm 7 73 (.bin .sub 3 (tm 72) (.const (.int .i64 2))),
 sm 8 74 (.ia (.sl 1) (tm 71) (tm 73)),
 sm 9 75 (.ld1 (tm 74)),
 sv 10 8 70,
 sv 11 9 75])
 (.dreg [sv 0 76 5,
 sv 1 77 5,
 sv 2 78 7,
 sm 3 79 (.bin .sub 3 (tm 78) (.const (.int .i64 16))),
 sm 4 80 (.ia (.sl 1) (tm 77) (tm 79)),
 ⟨5, (some 81), none, .mo (.ld1 (tm 80)), [], true⟩,
 sv 6 82 5,
 sv 7 83 7,
 sm 8 84 (.bin .sub 3 (tm 83) (.const (.int .i64 7))),
 sm 9 85 (.ia (.sl 1) (tm 82) (tm 84)),
 ⟨10, (some 86), none, .mo (.ld1 (tm 85)), [], true⟩,
 sm 11 87 (.bin .add 85 (tm 81) (tm 86)),
 sv 12 88 8,
 sv 14 90 8,
 sv 17 93 8,
 sm 18 94 (.bin .shr 85 (tm 93) (.const (.int .u64 3))),
 sv 21 97 9,
 sv 23 99 9,
 sv 26 102 9,
 sm 27 103 (.bin .shr 85 (tm 102) (.const (.int .u64 10))),
 ⟨13, (some 89), none, .callF 237 [(tm 88), (.const (.int .i64 7))], [10, 5], false⟩,
 ⟨15, (some 91), none, .callF 237 [(tm 90), (.const (.int .i64 18))], [10, 5], false⟩,
 sm 16 92 (.bin .xor 85 (tm 89) (tm 91)),
 sm 19 95 (.bin .xor 85 (tm 92) (tm 94)),
 sm 20 96 (.bin .add 85 (tm 87) (tm 95)),
 ⟨22, (some 98), none, .callF 237 [(tm 97), (.const (.int .i64 17))], [10, 5], false⟩,
 ⟨24, (some 100), none, .callF 237 [(tm 99), (.const (.int .i64 19))], [10, 5], false⟩,
 sm 25 101 (.bin .xor 85 (tm 98) (tm 100)),
 sm 28 104 (.bin .xor 85 (tm 101) (tm 103)),
 sm 29 105 (.bin .add 85 (tm 96) (tm 104)),
 sm 30 106 (.bsl 1 [.int .u32 0] 1 [(0, (tm 105))]),
 sm 31 107 (.app 1 4 (tm 76) (tm 106)),
 sv 32 5 107])))
 (.reg [sv 0 64 7,
 sm 1 65 (.bin .add 3 (tm 64) (.const (.int .i64 1))),
 sv 2 7 65])))
def l227_2 : Cd := (.seq (.seq (.reg [sv 0 110 12,
 sm 1 111 (.bin .lss 3 (tm 110) (.const (.int .i64 64)))])
 (.cond (tm 111) .skip (.exit 4)))
 (.seq (.block 5 (.seq (.reg [sm 0 114 (.ia (.arr 8 1) (tm 11) (.const (.int .i64 0))),
 sm 1 115 (.ld1 (tm 114)),
 sm 2 116 (.ia (.arr 8 1) (tm 11) (.const (.int .i64 1))),
 sm 3 117 (.ld1 (tm 116)),
 sm 4 118 (.ia (.arr 8 1) (tm 11) (.const (.int .i64 2))),
 sm 5 119 (.ld1 (tm 118)),
 sm 6 120 (.ia (.arr 8 1) (tm 11) (.const (.int .i64 4))),
 sm 7 121 (.ld1 (tm 120)),
 sm 8 122 (.ia (.arr 8 1) (tm 11) (.const (.int .i64 5))),
 sm 9 123 (.ld1 (tm 122)),
 sm 10 124 (.ia (.arr 8 1) (tm 11) (.const (.int .i64 6))),
 sm 11 125 (.ld1 (tm 124)),
 sv 12 13 115,
 sv 13 14 117,
 sv 14 15 119,
 sv 15 16 121,
 sv 16 17 123,
 sv 17 18 125])
 (.seq (.dreg [sm 0 126 (.ia (.arr 8 1) (tm 11) (.const (.int .i64 7))),
 ⟨1, (some 127), none, .mo (.ld1 (tm 126)), [], true⟩,
 sv 2 128 16,
 sv 4 130 16,
 sv 7 133 16,
 sv 11 137 16,
 sv 12 138 17,
 sm 13 139 (.bin .and 85 (tm 137) (tm 138)),
 sv 14 140 16,
 sm 15 141 (.un .xor (tm 140)),
 sv 16 142 18,
 sm 17 143 (.bin .and 85 (tm 141) (tm 142)),
 sm 18 144 (.bin .xor 85 (tm 139) (tm 143)),
 sv 20 146 10,
 sv 21 147 12,
 sm 22 148 (.ia (.sl 1) (tm 146) (tm 147)),
 ⟨23, (some 149), none, .mo (.ld1 (tm 148)), [], true⟩,
 sv 25 151 5,
 sv 26 152 12,
 sm 27 153 (.ia (.sl 1) (tm 151) (tm 152)),
 ⟨28, (some 154), none, .mo (.ld1 (tm 153)), [], true⟩,
 ⟨3, (some 129), none, .callF 237 [(tm 128), (.const (.int .i64 6))], [28, 23, 1], false⟩,
 ⟨5, (some 131), none, .callF 237 [(tm 130), (.const (.int .i64 11))], [28, 23, 1], false⟩,
 sm 6 132 (.bin .xor 85 (tm 129) (tm 131)),
 ⟨8, (some 134), none, .callF 237 [(tm 133), (.const (.int .i64 25))], [28, 23, 1], false⟩,
 sm 9 135 (.bin .xor 85 (tm 132) (tm 134)),
 sm 10 136 (.bin .add 85 (tm 127) (tm 135)),
 sm 19 145 (.bin .add 85 (tm 136) (tm 144)),
 sm 24 150 (.bin .add 85 (tm 145) (tm 149)),
 sm 29 155 (.bin .add 85 (tm 150) (tm 154)),
 sv 30 19 155])
 (.seq (.reg [sv 0 156 13,
 sc 1 157 237 [(tm 156), (.const (.int .i64 2))],
 sv 2 158 13,
 sc 3 159 237 [(tm 158), (.const (.int .i64 13))],
 sm 4 160 (.bin .xor 85 (tm 157) (tm 159)),
 sv 5 161 13,
 sc 6 162 237 [(tm 161), (.const (.int .i64 22))],
 sm 7 163 (.bin .xor 85 (tm 160) (tm 162)),
 sv 8 164 13,
 sv 9 165 14,
 sm 10 166 (.bin .and 85 (tm 164) (tm 165)),
 sv 11 167 13,
 sv 12 168 15,
 sm 13 169 (.bin .and 85 (tm 167) (tm 168)),
 sm 14 170 (.bin .xor 85 (tm 166) (tm 169)),
 sv 15 171 14,
 sv 16 172 15,
 sm 17 173 (.bin .and 85 (tm 171) (tm 172)),
 sm 18 174 (.bin .xor 85 (tm 170) (tm 173)),
 sm 19 175 (.bin .add 85 (tm 163) (tm 174)),
 sv 20 20 175])
 (.reg [sv 0 176 19,
 sv 1 177 20,
 sm 2 178 (.bin .add 85 (tm 176) (tm 177)),
 sv 3 179 13,
 sv 4 180 14,
 sv 5 181 15,
 sm 6 182 (.ia (.arr 8 1) (tm 11) (.const (.int .i64 3))),
 sm 7 183 (.ld1 (tm 182)),
 sv 8 184 19,
 sm 9 185 (.bin .add 85 (tm 183) (tm 184)),
 sv 10 186 16,
 sv 11 187 17,
 sv 12 188 18,
 sm 13 189 (.bld [.int .u32 0, .int .u32 0, .int .u32 0, .int .u32 0, .int .u32 0, .int .u32 0, .int .u32 0, .int .u32 0] [(0, 1, (tm 178)), (1, 1, (tm 179)), (2, 1, (tm 180)), (3, 1, (tm 181)), (4, 1, (tm 185)), (5, 1, (tm 186)), (6, 1, (tm 187)), (7, 1, (tm 188))]),
 se 14 (.st 8 (tm 11) (tm 189))])))))
 (.reg [sv 0 112 12,
 sm 1 113 (.bin .add 3 (tm 112) (.const (.int .i64 1))),
 sv 2 12 113])))
def l227_3 : Cd := (.seq (.seq (.reg [sv 0 190 21,
 sm 1 191 (.bin .lss 3 (tm 190) (.const (.int .i64 8)))])
 (.cond (tm 191) .skip (.exit 6)))
 (.seq (.block 7 (.reg [sv 0 194 21,
 sm 1 195 (.ia (.arr 8 1) (tm 2) (tm 194)),
 sm 2 196 (.ld1 (tm 195)),
 sv 3 197 21,
 sm 4 198 (.ia (.arr 8 1) (tm 11) (tm 197)),
 sm 5 199 (.ld1 (tm 198)),
 sm 6 200 (.bin .add 85 (tm 196) (tm 199)),
 sm 7 201 (.ia (.arr 8 1) (tm 2) (tm 194)),
 se 8 (.st 1 (tm 201) (tm 200))]))
 (.reg [sv 0 192 21,
 sm 1 193 (.bin .add 3 (tm 192) (.const (.int .i64 1))),
 sv 2 21 193])))
def c227 : Cd := (.seq (.reg [sm 0 2 (.box (tm 0)),
 sm 1 4 (.alloc [.int .u32 0, .int .u32 0, .int .u32 0, .int .u32 0, .int .u32 0, .int .u32 0, .int .u32 0, .int .u32 0])])
 (.seq (.reg [sm 0 5 (.mv (.const (.slice none 0 0)))])
 (.seq (.seq (.reg [sm 0 6 (.mv (.const (.int .i64 0)))])
 (.block 0 (.loop l227_0)))
 (.seq (.seq (.reg [sm 0 7 (.mv (.const (.int .i64 16)))])
 (.block 2 (.loop l227_1)))
 (.seq (.reg [sc 0 108 238 [],
 sv 1 10 108])
 (.seq (.reg [sm 0 109 (.ldA 8 (tm 2)),
 sm 1 11 (.alloc [.int .u32 0, .int .u32 0, .int .u32 0, .int .u32 0, .int .u32 0, .int .u32 0, .int .u32 0, .int .u32 0]),
 se 2 (.st 8 (tm 11) (tm 109))])
 (.seq (.seq (.reg [sm 0 12 (.mv (.const (.int .i64 0)))])
 (.block 4 (.loop l227_2)))
 (.seq (.seq (.reg [sm 0 21 (.mv (.const (.int .i64 0)))])
 (.block 6 (.loop l227_3)))
 (.seq (.reg [sm 0 202 (.ldA 8 (tm 2)),
 se 1 (.st 8 (tm 4) (tm 202))])
 .ret)))))))))
def r227 : List Mo := [.ldA 8 (tm 4)]
theorem c227_eq : compF Tryz.prog 227 = some c227 := by kernel_rfl
theorem r227_eq : compRs Tryz.prog 227 = some r227 := by kernel_rfl
def c230 : Cd := (.seq (.reg [sm 0 4 (.mv (.const (.int .u32 0)))])
 (.seq (.reg [sv 0 6 1,
 sm 1 7 (.cint .u64 (tm 6)),
 sm 2 8 (.bin .and 167 (tm 7) (.const (.int .u64 31))),
 sv 3 5 8])
 (.seq (.reg [sv 0 9 0,
 sv 1 10 5,
 sm 2 11 (.bin .shl 85 (tm 9) (tm 10)),
 sv 3 12 0,
 sv 4 13 5,
 sm 5 14 (.bin .sub 167 (.const (.int .u64 32)) (tm 13)),
 sm 6 15 (.bin .shr 85 (tm 12) (tm 14)),
 sm 7 16 (.bin .or 85 (tm 11) (tm 15)),
 sv 8 4 16])
 .ret)))
def r230 : List Mo := [.mv (tm 4)]
theorem c230_eq : compF Tryz.prog 230 = some c230 := by kernel_rfl
theorem r230_eq : compRs Tryz.prog 230 = some r230 := by kernel_rfl
def c236 : Cd := (.seq (.reg [sm 0 2 (.mv (.const (.slice none 0 0)))])
 (.seq (.seq (.reg [sv 0 3 0,
 sm 1 4 (.bin .geq 2 (tm 3) (.const (.int .i64 0)))])
 (.cond (tm 4) (.seq (.reg [sv 0 5 0,
 sm 1 6 (.cint .u64 (tm 5)),
 sm 2 7 (.bin .mul 86 (.const (.int .u64 2)) (tm 6)),
 sc 3 8 205 [(tm 7)],
 sv 4 2 8])
 .ret) .skip))
 (.seq (.reg [sv 0 9 0,
 sm 1 10 (.bin .add 2 (tm 9) (.const (.int .i64 1))),
 sm 2 11 (.un .neg (tm 10)),
 sm 3 12 (.cint .u64 (tm 11)),
 sm 4 13 (.bin .mul 86 (.const (.int .u64 2)) (tm 12)),
 sm 5 14 (.bin .add 86 (tm 13) (.const (.int .u64 1))),
 sc 6 15 205 [(tm 14)],
 sv 7 2 15])
 .ret)))
def r236 : List Mo := [.mv (tm 2)]
theorem c236_eq : compF Tryz.prog 236 = some c236 := by kernel_rfl
theorem r236_eq : compRs Tryz.prog 236 = some r236 := by kernel_rfl
def c237 : Cd := (.seq (.reg [sm 0 4 (.mv (.const (.int .u32 0)))])
 (.seq (.reg [sv 0 5 0,
 sv 1 6 1,
 sm 2 7 (.bin .shr 85 (tm 5) (tm 6)),
 sv 3 8 0,
 sv 4 9 1,
 sm 5 10 (.bin .sub 3 (.const (.int .i64 32)) (tm 9)),
 sm 6 11 (.bin .shl 85 (tm 8) (tm 10)),
 sm 7 12 (.bin .or 85 (tm 7) (tm 11)),
 sv 8 4 12])
 .ret))
def r237 : List Mo := [.mv (tm 4)]
theorem c237_eq : compF Tryz.prog 237 = some c237 := by kernel_rfl
theorem r237_eq : compRs Tryz.prog 237 = some r237 := by kernel_rfl
def c238 : Cd := (.seq (.reg [sm 0 0 (.mv (.const (.slice none 0 0)))])
 (.seq (.reg [sm 0 1 (.bsl 1 [.int .u32 0] 64 [(0, (.const (.int .u32 1116352408))), (1, (.const (.int .u32 1899447441))), (2, (.const (.int .u32 3049323471))), (3, (.const (.int .u32 3921009573))), (4, (.const (.int .u32 961987163))), (5, (.const (.int .u32 1508970993))), (6, (.const (.int .u32 2453635748))), (7, (.const (.int .u32 2870763221))), (8, (.const (.int .u32 3624381080))), (9, (.const (.int .u32 310598401))), (10, (.const (.int .u32 607225278))), (11, (.const (.int .u32 1426881987))), (12, (.const (.int .u32 1925078388))), (13, (.const (.int .u32 2162078206))), (14, (.const (.int .u32 2614888103))), (15, (.const (.int .u32 3248222580))), (16, (.const (.int .u32 3835390401))), (17, (.const (.int .u32 4022224774))), (18, (.const (.int .u32 264347078))), (19, (.const (.int .u32 604807628))), (20, (.const (.int .u32 770255983))), (21, (.const (.int .u32 1249150122))), (22, (.const (.int .u32 1555081692))), (23, (.const (.int .u32 1996064986))), (24, (.const (.int .u32 2554220882))), (25, (.const (.int .u32 2821834349))), (26, (.const (.int .u32 2952996808))), (27, (.const (.int .u32 3210313671))), (28, (.const (.int .u32 3336571891))), (29, (.const (.int .u32 3584528711))), (30, (.const (.int .u32 113926993))), (31, (.const (.int .u32 338241895))), (32, (.const (.int .u32 666307205))), (33, (.const (.int .u32 773529912))), (34, (.const (.int .u32 1294757372))), (35, (.const (.int .u32 1396182291))), (36, (.const (.int .u32 1695183700))), (37, (.const (.int .u32 1986661051))), (38, (.const (.int .u32 2177026350))), (39, (.const (.int .u32 2456956037))), (40, (.const (.int .u32 2730485921))), (41, (.const (.int .u32 2820302411))), (42, (.const (.int .u32 3259730800))), (43, (.const (.int .u32 3345764771))), (44, (.const (.int .u32 3516065817))), (45, (.const (.int .u32 3600352804))), (46, (.const (.int .u32 4094571909))), (47, (.const (.int .u32 275423344))), (48, (.const (.int .u32 430227734))), (49, (.const (.int .u32 506948616))), (50, (.const (.int .u32 659060556))), (51, (.const (.int .u32 883997877))), (52, (.const (.int .u32 958139571))), (53, (.const (.int .u32 1322822218))), (54, (.const (.int .u32 1537002063))), (55, (.const (.int .u32 1747873779))), (56, (.const (.int .u32 1955562222))), (57, (.const (.int .u32 2024104815))), (58, (.const (.int .u32 2227730452))), (59, (.const (.int .u32 2361852424))), (60, (.const (.int .u32 2428436474))), (61, (.const (.int .u32 2756734187))), (62, (.const (.int .u32 3204031479))), (63, (.const (.int .u32 3329325298)))]),
 sv 1 0 1])
 .ret))
def r238 : List Mo := [.mv (tm 0)]
theorem c238_eq : compF Tryz.prog 238 = some c238 := by kernel_rfl
theorem r238_eq : compRs Tryz.prog 238 = some r238 := by kernel_rfl
def l7_0 : Cd := (.seq (.seq (.reg [sv 0 94 18,
 sv 1 95 3,
 sm 2 96 (.len (.sl 1) (tm 95)),
 sm 3 97 (.bin .lss 3 (tm 94) (tm 96))])
 (.cond (tm 97) .skip (.exit 0)))
 (.seq (.block 1 (.seq (.seq (.reg [sv 0 100 3,
 sv 1 101 18,
 sm 2 102 (.ia (.sl 1) (tm 100) (tm 101)),
 sm 3 103 (.ld1 (tm 102)),
 sm 4 104 (.un .not (tm 103))])
 (.cond (tm 104) (.seq (.seq (.reg [sv 0 105 17,
 sv 1 106 2,
 sm 2 107 (.len (.sl 32) (tm 106)),
 sm 3 108 (.bin .lss 3 (tm 105) (tm 107))])
 (.cond (tm 108) (.seq (.dreg [sm 0 110 (.ldA 3 (tm 10)),
 sv 1 111 2,
 sv 2 112 17,
 sv 3 113 17,
 sm 4 114 (.bin .add 3 (tm 113) (.const (.int .i64 1))),
 sm 5 115 (.slice (.sl 32) (tm 111) (some (tm 112)) (some (tm 114)) none),
 ⟨10, (some 19), none, .mo (.alloc [.int .i64 0, .int .i64 0, .nilS]), [], true⟩,
 ⟨6, (some 116), none, .callF 35 [(tm 110), (tm 115)], [10], false⟩,
 sv 7 109 116,
 sm 8 117 (.ext (tm 109) 0),
 sm 9 118 (.ext (tm 109) 1),
 se 11 (.st 3 (tm 19) (tm 117)),
 sv 12 20 118])
 (.seq (.seq (.reg [sv 0 119 20,
 sm 1 120 (.bin .neq 32 (tm 119) (.const (.int .i64 0)))])
 (.cond (tm 120) (.seq (.reg [sm 0 8 (.mv (.const (.bool false)))])
 .ret) .skip))
 (.seq (.reg [sm 0 121 (.ldA 3 (tm 19)),
 se 1 (.st 3 (tm 10) (tm 121))])
 (.reg [sv 0 122 17,
 sm 1 123 (.bin .add 3 (tm 122) (.const (.int .i64 1))),
 sv 2 17 123])))) .skip))
 (.exit 1)) .skip))
 (.seq (.reg [sm 0 125 (.ldA 3 (tm 10)),
 sc 1 126 36 [(tm 125), (.const (.int .i64 0))],
 sv 2 124 126,
 sm 3 127 (.ext (tm 124) 0),
 sm 4 128 (.ext (tm 124) 1),
 sm 5 129 (.ext (tm 124) 2),
 sm 6 130 (.ext (tm 124) 3),
 sm 7 131 (.ext (tm 124) 4),
 sm 8 21 (.alloc [.int .i64 0, .int .i64 0, .nilS]),
 sm 9 24 (.alloc [.int .u8 0, .int .u8 0, .int .u8 0, .int .u8 0, .int .u8 0, .int .u8 0, .int .u8 0, .int .u8 0, .int .u8 0, .int .u8 0, .int .u8 0, .int .u8 0, .int .u8 0, .int .u8 0, .int .u8 0, .int .u8 0, .int .u8 0, .int .u8 0, .int .u8 0, .int .u8 0, .int .u8 0, .int .u8 0, .int .u8 0, .int .u8 0, .int .u8 0, .int .u8 0, .int .u8 0, .int .u8 0, .int .u8 0, .int .u8 0, .int .u8 0, .int .u8 0]),
 se 10 (.st 3 (tm 21) (tm 127)),
 sv 11 22 128,
 sv 12 23 129,
 se 13 (.st 32 (tm 24) (tm 130)),
 sv 14 25 131])
 (.seq (.seq (.reg [sv 0 132 25,
 sm 1 133 (.bin .neq 32 (tm 132) (.const (.int .i64 0)))])
 (.cond (tm 133) (.seq (.seq (.reg [sv 0 134 25,
 sm 1 135 (.bin .neq 32 (tm 134) (.const (.int .i64 38))),
 sv 2 136 135,
 sg 3 137 136 true (.mv (tm 25)),
 sg 4 138 136 true (.bin .neq 32 (tm 137) (.const (.int .i64 34))),
 sm 5 139 (.pick (tm 136) (tm 138) (.const (.bool false)))])
 (.cond (tm 139) (.seq (.reg [sm 0 8 (.mv (.const (.bool false)))])
 .ret) .skip))
 (.exit 1)) .skip))
 (.seq (.reg [sm 0 140 (.ldA 3 (tm 21)),
 se 1 (.st 3 (tm 10) (tm 140))])
 (.seq (.seq (.reg [sv 0 141 23,
 sv 1 142 1,
 sm 2 143 (.fa 1 (tm 16)),
 sm 3 144 (.ld1 (tm 143)),
 sm 4 145 (.len (.sl 32) (tm 144)),
 sm 5 146 (.bin .add 3 (tm 142) (tm 145)),
 sm 6 147 (.bin .neq 3 (tm 141) (tm 146)),
 sv 7 148 147,
 sg 8 149 148 false (.mv (tm 22)),
 sg 9 150 148 false (.bin .neq 5 (tm 149) (.const (.int .u8 1))),
 sg 10 151 148 false (.mv (tm 150)),
 sg 11 152 151 true (.mv (tm 22)),
 sg 12 153 151 true (.bin .neq 5 (tm 152) (.const (.int .u8 2))),
 sg 13 154 148 false (.pick (tm 151) (tm 153) (.const (.bool false))),
 sm 14 155 (.pick (tm 148) (.const (.bool true)) (tm 154))])
 (.cond (tm 155) (.seq (.reg [sm 0 8 (.mv (.const (.bool false)))])
 .ret) .skip))
 (.seq (.reg [sv 0 156 22,
 sm 1 157 (.bin .eql 5 (tm 156) (.const (.int .u8 1)))])
 (.cond (tm 157) (.reg [sm 0 158 (.fa 1 (tm 16)),
 sm 1 159 (.ld1 (tm 158)),
 sm 2 160 (.ldA 32 (tm 24)),
 sm 3 161 (.bsl 32 [.int .u8 0, .int .u8 0, .int .u8 0, .int .u8 0, .int .u8 0, .int .u8 0, .int .u8 0, .int .u8 0, .int .u8 0, .int .u8 0, .int .u8 0, .int .u8 0, .int .u8 0, .int .u8 0, .int .u8 0, .int .u8 0, .int .u8 0, .int .u8 0, .int .u8 0, .int .u8 0, .int .u8 0, .int .u8 0, .int .u8 0, .int .u8 0, .int .u8 0, .int .u8 0, .int .u8 0, .int .u8 0, .int .u8 0, .int .u8 0, .int .u8 0, .int .u8 0] 1 [(0, (tm 160))]),
 sm 4 162 (.app 32 32 (tm 159) (tm 161)),
 sm 5 163 (.fa 1 (tm 16)),
 se 6 (.st 1 (tm 163) (tm 162))]) (.reg [sm 0 164 (.fa 2 (tm 16)),
 se 1 (.st 1 (tm 164) (.const (.bool true)))])))))))))
 (.reg [sv 0 98 18,
 sm 1 99 (.bin .add 3 (tm 98) (.const (.int .i64 1))),
 sv 2 18 99])))
def c7 : Cd := (.seq (.reg [sm 0 8 (.mv (.const (.bool false)))])
 (.seq (.reg [sc 0 26 29 [],
 sv 1 9 26])
 (.seq (.seq (.reg [sv 0 27 0,
 sm 1 28 (.bin .lss 3 (tm 27) (.const (.int .i64 1))),
 sv 2 29 28,
 sg 3 30 29 false (.mv (tm 0)),
 sg 4 31 29 false (.bin .gtr 3 (tm 30) (.const (.int .i64 8))),
 sm 5 32 (.pick (tm 29) (.const (.bool true)) (tm 31)),
 sv 6 33 32,
 sg 7 34 33 false (.mv (tm 1)),
 sg 8 35 33 false (.bin .lss 3 (tm 34) (.const (.int .i64 0))),
 sm 9 36 (.pick (tm 33) (.const (.bool true)) (tm 35)),
 sv 10 37 36,
 sg 11 38 37 false (.mv (tm 1)),
 sg 12 39 37 false (.bin .gtr 3 (tm 38) (.const (.int .i64 60))),
 sm 13 40 (.pick (tm 37) (.const (.bool true)) (tm 39)),
 sv 14 41 40,
 sg 15 42 41 false (.mv (tm 2)),
 sg 16 43 41 false (.len (.sl 32) (tm 42)),
 sg 17 44 41 false (.bin .gtr 3 (tm 43) (.const (.int .i64 30))),
 sm 18 45 (.pick (tm 41) (.const (.bool true)) (tm 44)),
 sv 19 46 45,
 sg 20 47 46 false (.mv (tm 3)),
 sg 21 48 46 false (.len (.sl 1) (tm 47)),
 sg 22 49 46 false (.bin .gtr 3 (tm 48) (.const (.int .i64 100))),
 sm 23 50 (.pick (tm 46) (.const (.bool true)) (tm 49)),
 sv 24 51 50,
 sg 25 52 51 false (.mv (tm 9)),
 sg 26 53 51 false (.un .not (tm 52)),
 sm 27 54 (.pick (tm 51) (.const (.bool true)) (tm 53))])
 (.cond (tm 54) (.seq (.reg [sv 0 55 9,
 sv 1 8 55])
 .ret) .skip))
 (.seq (.reg [sv 0 57 0,
 sc 1 58 33 [(tm 57)],
 sv 2 56 58,
 sm 3 59 (.ext (tm 56) 0),
 sm 4 60 (.ext (tm 56) 1),
 sm 5 10 (.alloc [.int .i64 0, .int .i64 0, .nilS]),
 se 6 (.st 3 (tm 10) (tm 59)),
 sv 7 11 60])
 (.seq (.reg [sv 0 61 1,
 sm 1 62 (.fa 1 (tm 10)),
 se 2 (.st 1 (tm 62) (tm 61))])
 (.seq (.reg [sm 0 64 (.ldA 3 (tm 10)),
 sv 1 65 1,
 sc 2 66 34 [(tm 64), (tm 65)],
 sv 3 63 66,
 sm 4 67 (.ext (tm 63) 0),
 sm 5 68 (.ext (tm 63) 1),
 sm 6 69 (.ext (tm 63) 2),
 se 7 (.st 3 (tm 10) (tm 67)),
 sv 8 12 68,
 sv 9 13 69])
 (.seq (.reg [sv 0 71 0,
 sv 1 72 1,
 sv 2 73 2,
 sv 3 74 3,
 sc 4 75 27 [(tm 71), (tm 72), (tm 73), (tm 74)],
 sv 5 70 75,
 sm 6 76 (.ext (tm 70) 0),
 sm 7 77 (.ext (tm 70) 1),
 sm 8 14 (.alloc [.int .i64 0, .nilS, .bool false]),
 se 9 (.st 3 (tm 14) (tm 76)),
 sv 10 15 77])
 (.seq (.seq (.reg [sv 0 78 11,
 sm 1 79 (.bin .neq 32 (tm 78) (.const (.int .i64 0))),
 sv 2 80 79,
 sg 3 81 80 false (.mv (tm 13)),
 sg 4 82 80 false (.bin .neq 32 (tm 81) (.const (.int .i64 0))),
 sm 5 83 (.pick (tm 80) (.const (.bool true)) (tm 82)),
 sv 6 84 83,
 sg 7 85 84 false (.mv (tm 15)),
 sg 8 86 84 false (.bin .neq 32 (tm 85) (.const (.int .i64 0))),
 sm 9 87 (.pick (tm 84) (.const (.bool true)) (tm 86)),
 sv 10 88 87,
 sg 11 89 88 false (.mv (tm 12)),
 sg 12 90 88 false (.bin .neq 3 (tm 89) (.const (.int .i64 0))),
 sm 13 91 (.pick (tm 88) (.const (.bool true)) (tm 90))])
 (.cond (tm 91) (.seq (.reg [sm 0 8 (.mv (.const (.bool false)))])
 .ret) .skip))
 (.seq (.reg [sv 0 92 1,
 sm 1 93 (.bld [.int .i64 0, .nilS, .bool false] [(0, 1, (tm 92))]),
 sm 2 16 (.alloc [.int .i64 0, .nilS, .bool false]),
 se 3 (.st 3 (tm 16) (tm 93))])
 (.seq (.reg [sm 0 17 (.mv (.const (.int .i64 0)))])
 (.seq (.seq (.reg [sm 0 18 (.mv (.const (.int .i64 0)))])
 (.block 0 (.loop l7_0)))
 (.seq (.reg [sv 0 165 9,
 sv 1 166 165,
 sg 2 167 166 true (.ldA 3 (tm 16)),
 sg 3 168 166 true (.ldA 3 (tm 14)),
 ⟨4, (some 169), (some ((some 166), true)), .callF 28 [(tm 167), (tm 168)], [], false⟩,
 sm 5 170 (.pick (tm 166) (tm 169) (.const (.bool false))),
 sv 6 8 170])
 .ret))))))))))))
def r7 : List Mo := [.mv (tm 8)]
theorem c7_eq : compF Tryz.prog 7 = some c7 := by kernel_rfl
theorem r7_eq : compRs Tryz.prog 7 = some r7 := by kernel_rfl
def tblT : Tr (Cd × List Mo) := (.node (.node (.node (.node (.node (.node (.node .nil (some (c63, r63)) (.node .nil (some (c191, r191)) .nil)) none (.node (.node .nil (some (c159, r159)) .nil) (some (c95, r95)) .nil)) (some (c15, r15)) (.node .nil none (.node (.node .nil (some (c175, r175)) .nil) (some (c111, r111)) .nil))) (some (c7, r7)) (.node (.node (.node (.node .nil (some (c135, r135)) .nil) (some (c71, r71)) .nil) none .nil) none (.node (.node (.node .nil (some (c151, r151)) .nil) none .nil) (some (c55, r55)) (.node .nil (some (c119, r119)) .nil)))) none (.node (.node (.node (.node .nil (some (c67, r67)) .nil) (some (c35, r35)) (.node (.node .nil (some (c163, r163)) .nil) (some (c99, r99)) (.node .nil (some (c227, r227)) .nil))) (some (c19, r19)) (.node (.node .nil (some (c83, r83)) .nil) none (.node .nil (some (c115, r115)) .nil))) (some (c11, r11)) (.node (.node (.node (.node .nil (some (c139, r139)) .nil) (some (c75, r75)) (.node .nil (some (c203, r203)) .nil)) (some (c43, r43)) (.node (.node .nil (some (c171, r171)) .nil) (some (c107, r107)) .nil)) (some (c27, r27)) (.node (.node (.node .nil (some (c155, r155)) .nil) none .nil) none (.node (.node .nil (some (c187, r187)) .nil) (some (c123, r123)) .nil))))) none (.node (.node (.node (.node (.node .nil (some (c65, r65)) (.node .nil (some (c193, r193)) .nil)) (some (c33, r33)) (.node (.node .nil (some (c161, r161)) .nil) (some (c97, r97)) (.node .nil (some (c225, r225)) .nil))) (some (c17, r17)) (.node (.node .nil (some (c81, r81)) .nil) none (.node (.node .nil (some (c177, r177)) .nil) none .nil))) none (.node (.node (.node (.node .nil (some (c137, r137)) .nil) none (.node .nil (some (c201, r201)) .nil)) none .nil) (some (c25, r25)) (.node (.node (.node .nil (some (c153, r153)) .nil) (some (c89, r89)) .nil) none (.node .nil (some (c121, r121)) .nil)))) none (.node (.node (.node (.node .nil (some (c69, r69)) .nil) none (.node .nil (some (c101, r101)) .nil)) (some (c21, r21)) (.node (.node (.node .nil (some (c149, r149)) .nil) (some (c85, r85)) (.node .nil (some (c213, r213)) .nil)) (some (c53, r53)) (.node .nil (some (c117, r117)) .nil))) (some (c13, r13)) (.node (.node .nil none (.node .nil (some (c109, r109)) (.node .nil (some (c237, r237)) .nil))) (some (c29, r29)) (.node (.node (.node .nil (some (c157, r157)) .nil) (some (c93, r93)) .nil) (some (c61, r61)) (.node .nil (some (c125, r125)) .nil)))))) none (.node (.node (.node (.node (.node (.node (.node .nil (some (c128, r128)) .nil) (some (c64, r64)) (.node .nil (some (c192, r192)) .nil)) none (.node (.node .nil (some (c160, r160)) .nil) (some (c96, r96)) .nil)) none (.node (.node .nil (some (c80, r80)) .nil) (some (c48, r48)) (.node (.node .nil (some (c176, r176)) .nil) (some (c112, r112)) .nil))) none (.node (.node (.node (.node .nil (some (c136, r136)) .nil) (some (c72, r72)) .nil) none (.node .nil (some (c104, r104)) .nil)) (some (c24, r24)) (.node (.node (.node .nil (some (c152, r152)) .nil) (some (c88, r88)) (.node .nil (some (c216, r216)) .nil)) (some (c56, r56)) (.node .nil (some (c120, r120)) .nil)))) none (.node (.node (.node (.node .nil (some (c68, r68)) (.node .nil (some (c196, r196)) .nil)) (some (c36, r36)) (.node (.node .nil (some (c164, r164)) .nil) (some (c100, r100)) .nil)) none (.node (.node .nil (some (c84, r84)) (.node .nil (some (c212, r212)) .nil)) none (.node (.node .nil (some (c180, r180)) .nil) (some (c116, r116)) .nil))) none (.node (.node (.node .nil (some (c76, r76)) (.node .nil (some (c204, r204)) .nil)) none (.node .nil (some (c108, r108)) (.node .nil (some (c236, r236)) .nil))) (some (c28, r28)) (.node (.node (.node .nil (some (c156, r156)) .nil) none .nil) (some (c60, r60)) (.node .nil (some (c124, r124)) .nil))))) none (.node (.node (.node (.node (.node .nil (some (c66, r66)) .nil) (some (c34, r34)) (.node (.node .nil (some (c162, r162)) .nil) (some (c98, r98)) .nil)) none (.node (.node .nil (some (c82, r82)) .nil) none (.node (.node .nil (some (c178, r178)) .nil) (some (c114, r114)) .nil))) none (.node (.node (.node (.node .nil (some (c138, r138)) .nil) none (.node .nil (some (c202, r202)) .nil)) none (.node .nil (some (c106, r106)) .nil)) (some (c26, r26)) (.node .nil none (.node (.node .nil (some (c186, r186)) .nil) (some (c122, r122)) .nil)))) none (.node (.node (.node (.node (.node .nil (some (c134, r134)) .nil) none (.node .nil (some (c198, r198)) .nil)) (some (c38, r38)) (.node .nil none (.node .nil (some (c230, r230)) .nil))) none (.node (.node .nil (some (c86, r86)) .nil) (some (c54, r54)) (.node .nil (some (c118, r118)) .nil))) none (.node (.node (.node .nil (some (c78, r78)) (.node .nil (some (c206, r206)) .nil)) (some (c46, r46)) (.node .nil (some (c110, r110)) (.node .nil (some (c238, r238)) .nil))) none (.node (.node (.node .nil (some (c158, r158)) .nil) (some (c94, r94)) .nil) (some (c62, r62)) .nil))))))
theorem tbl_all : AllT (TblP Tryz.prog) tblT := (allT_none (allT_none (allT_none (allT_some ⟨c7_eq, r7_eq⟩ (allT_some ⟨c15_eq, r15_eq⟩ (allT_none (allT_some ⟨c63_eq, r63_eq⟩ allT_nil (allT_some ⟨c191_eq, r191_eq⟩ allT_nil allT_nil)) (allT_some ⟨c95_eq, r95_eq⟩ (allT_some ⟨c159_eq, r159_eq⟩ allT_nil allT_nil) allT_nil)) (allT_none allT_nil (allT_some ⟨c111_eq, r111_eq⟩ (allT_some ⟨c175_eq, r175_eq⟩ allT_nil allT_nil) allT_nil))) (allT_none (allT_none (allT_some ⟨c71_eq, r71_eq⟩ (allT_some ⟨c135_eq, r135_eq⟩ allT_nil allT_nil) allT_nil) allT_nil) (allT_some ⟨c55_eq, r55_eq⟩ (allT_none (allT_some ⟨c151_eq, r151_eq⟩ allT_nil allT_nil) allT_nil) (allT_some ⟨c119_eq, r119_eq⟩ allT_nil allT_nil)))) (allT_some ⟨c11_eq, r11_eq⟩ (allT_some ⟨c19_eq, r19_eq⟩ (allT_some ⟨c35_eq, r35_eq⟩ (allT_some ⟨c67_eq, r67_eq⟩ allT_nil allT_nil) (allT_some ⟨c99_eq, r99_eq⟩ (allT_some ⟨c163_eq, r163_eq⟩ allT_nil allT_nil) (allT_some ⟨c227_eq, r227_eq⟩ allT_nil allT_nil))) (allT_none (allT_some ⟨c83_eq, r83_eq⟩ allT_nil allT_nil) (allT_some ⟨c115_eq, r115_eq⟩ allT_nil allT_nil))) (allT_some ⟨c27_eq, r27_eq⟩ (allT_some ⟨c43_eq, r43_eq⟩ (allT_some ⟨c75_eq, r75_eq⟩ (allT_some ⟨c139_eq, r139_eq⟩ allT_nil allT_nil) (allT_some ⟨c203_eq, r203_eq⟩ allT_nil allT_nil)) (allT_some ⟨c107_eq, r107_eq⟩ (allT_some ⟨c171_eq, r171_eq⟩ allT_nil allT_nil) allT_nil)) (allT_none (allT_none (allT_some ⟨c155_eq, r155_eq⟩ allT_nil allT_nil) allT_nil) (allT_some ⟨c123_eq, r123_eq⟩ (allT_some ⟨c187_eq, r187_eq⟩ allT_nil allT_nil) allT_nil))))) (allT_none (allT_none (allT_some ⟨c17_eq, r17_eq⟩ (allT_some ⟨c33_eq, r33_eq⟩ (allT_some ⟨c65_eq, r65_eq⟩ allT_nil (allT_some ⟨c193_eq, r193_eq⟩ allT_nil allT_nil)) (allT_some ⟨c97_eq, r97_eq⟩ (allT_some ⟨c161_eq, r161_eq⟩ allT_nil allT_nil) (allT_some ⟨c225_eq, r225_eq⟩ allT_nil allT_nil))) (allT_none (allT_some ⟨c81_eq, r81_eq⟩ allT_nil allT_nil) (allT_none (allT_some ⟨c177_eq, r177_eq⟩ allT_nil allT_nil) allT_nil))) (allT_some ⟨c25_eq, r25_eq⟩ (allT_none (allT_none (allT_some ⟨c137_eq, r137_eq⟩ allT_nil allT_nil) (allT_some ⟨c201_eq, r201_eq⟩ allT_nil allT_nil)) allT_nil) (allT_none (allT_some ⟨c89_eq, r89_eq⟩ (allT_some ⟨c153_eq, r153_eq⟩ allT_nil allT_nil) allT_nil) (allT_some ⟨c121_eq, r121_eq⟩ allT_nil allT_nil)))) (allT_some ⟨c13_eq, r13_eq⟩ (allT_some ⟨c21_eq, r21_eq⟩ (allT_none (allT_some ⟨c69_eq, r69_eq⟩ allT_nil allT_nil) (allT_some ⟨c101_eq, r101_eq⟩ allT_nil allT_nil)) (allT_some ⟨c53_eq, r53_eq⟩ (allT_some ⟨c85_eq, r85_eq⟩ (allT_some ⟨c149_eq, r149_eq⟩ allT_nil allT_nil) (allT_some ⟨c213_eq, r213_eq⟩ allT_nil allT_nil)) (allT_some ⟨c117_eq, r117_eq⟩ allT_nil allT_nil))) (allT_some ⟨c29_eq, r29_eq⟩ (allT_none allT_nil (allT_some ⟨c109_eq, r109_eq⟩ allT_nil (allT_some ⟨c237_eq, r237_eq⟩ allT_nil allT_nil))) (allT_some ⟨c61_eq, r61_eq⟩ (allT_some ⟨c93_eq, r93_eq⟩ (allT_some ⟨c157_eq, r157_eq⟩ allT_nil allT_nil) allT_nil) (allT_some ⟨c125_eq, r125_eq⟩ allT_nil allT_nil)))))) (allT_none (allT_none (allT_none (allT_none (allT_none (allT_some ⟨c64_eq, r64_eq⟩ (allT_some ⟨c128_eq, r128_eq⟩ allT_nil allT_nil) (allT_some ⟨c192_eq, r192_eq⟩ allT_nil allT_nil)) (allT_some ⟨c96_eq, r96_eq⟩ (allT_some ⟨c160_eq, r160_eq⟩ allT_nil allT_nil) allT_nil)) (allT_some ⟨c48_eq, r48_eq⟩ (allT_some ⟨c80_eq, r80_eq⟩ allT_nil allT_nil) (allT_some ⟨c112_eq, r112_eq⟩ (allT_some ⟨c176_eq, r176_eq⟩ allT_nil allT_nil) allT_nil))) (allT_some ⟨c24_eq, r24_eq⟩ (allT_none (allT_some ⟨c72_eq, r72_eq⟩ (allT_some ⟨c136_eq, r136_eq⟩ allT_nil allT_nil) allT_nil) (allT_some ⟨c104_eq, r104_eq⟩ allT_nil allT_nil)) (allT_some ⟨c56_eq, r56_eq⟩ (allT_some ⟨c88_eq, r88_eq⟩ (allT_some ⟨c152_eq, r152_eq⟩ allT_nil allT_nil) (allT_some ⟨c216_eq, r216_eq⟩ allT_nil allT_nil)) (allT_some ⟨c120_eq, r120_eq⟩ allT_nil allT_nil)))) (allT_none (allT_none (allT_some ⟨c36_eq, r36_eq⟩ (allT_some ⟨c68_eq, r68_eq⟩ allT_nil (allT_some ⟨c196_eq, r196_eq⟩ allT_nil allT_nil)) (allT_some ⟨c100_eq, r100_eq⟩ (allT_some ⟨c164_eq, r164_eq⟩ allT_nil allT_nil) allT_nil)) (allT_none (allT_some ⟨c84_eq, r84_eq⟩ allT_nil (allT_some ⟨c212_eq, r212_eq⟩ allT_nil allT_nil)) (allT_some ⟨c116_eq, r116_eq⟩ (allT_some ⟨c180_eq, r180_eq⟩ allT_nil allT_nil) allT_nil))) (allT_some ⟨c28_eq, r28_eq⟩ (allT_none (allT_some ⟨c76_eq, r76_eq⟩ allT_nil (allT_some ⟨c204_eq, r204_eq⟩ allT_nil allT_nil)) (allT_some ⟨c108_eq, r108_eq⟩ allT_nil (allT_some ⟨c236_eq, r236_eq⟩ allT_nil allT_nil))) (allT_some ⟨c60_eq, r60_eq⟩ (allT_none (allT_some ⟨c156_eq, r156_eq⟩ allT_nil allT_nil) allT_nil) (allT_some ⟨c124_eq, r124_eq⟩ allT_nil allT_nil))))) (allT_none (allT_none (allT_none (allT_some ⟨c34_eq, r34_eq⟩ (allT_some ⟨c66_eq, r66_eq⟩ allT_nil allT_nil) (allT_some ⟨c98_eq, r98_eq⟩ (allT_some ⟨c162_eq, r162_eq⟩ allT_nil allT_nil) allT_nil)) (allT_none (allT_some ⟨c82_eq, r82_eq⟩ allT_nil allT_nil) (allT_some ⟨c114_eq, r114_eq⟩ (allT_some ⟨c178_eq, r178_eq⟩ allT_nil allT_nil) allT_nil))) (allT_some ⟨c26_eq, r26_eq⟩ (allT_none (allT_none (allT_some ⟨c138_eq, r138_eq⟩ allT_nil allT_nil) (allT_some ⟨c202_eq, r202_eq⟩ allT_nil allT_nil)) (allT_some ⟨c106_eq, r106_eq⟩ allT_nil allT_nil)) (allT_none allT_nil (allT_some ⟨c122_eq, r122_eq⟩ (allT_some ⟨c186_eq, r186_eq⟩ allT_nil allT_nil) allT_nil)))) (allT_none (allT_none (allT_some ⟨c38_eq, r38_eq⟩ (allT_none (allT_some ⟨c134_eq, r134_eq⟩ allT_nil allT_nil) (allT_some ⟨c198_eq, r198_eq⟩ allT_nil allT_nil)) (allT_none allT_nil (allT_some ⟨c230_eq, r230_eq⟩ allT_nil allT_nil))) (allT_some ⟨c54_eq, r54_eq⟩ (allT_some ⟨c86_eq, r86_eq⟩ allT_nil allT_nil) (allT_some ⟨c118_eq, r118_eq⟩ allT_nil allT_nil))) (allT_none (allT_some ⟨c46_eq, r46_eq⟩ (allT_some ⟨c78_eq, r78_eq⟩ allT_nil (allT_some ⟨c206_eq, r206_eq⟩ allT_nil allT_nil)) (allT_some ⟨c110_eq, r110_eq⟩ allT_nil (allT_some ⟨c238_eq, r238_eq⟩ allT_nil allT_nil))) (allT_some ⟨c62_eq, r62_eq⟩ (allT_some ⟨c94_eq, r94_eq⟩ (allT_some ⟨c158_eq, r158_eq⟩ allT_nil allT_nil) allT_nil) allT_nil))))))
theorem tbl_ok : TblOk Tryz.prog (fun f => tblT.get f) := tblOk_of tbl_all
end Go.CM
