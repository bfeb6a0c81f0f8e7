/-
  Values and acts, checked: walked in both texts.
-/
import Derived.Test.YtginfboibgolaaaKg
namespace Go.CM
open Go Go.Proofs
set_option linter.unusedVariables false
set_option linter.unusedSimpArgs false
set_option maxRecDepth 100000
namespace Op
open Sha

structure Val where
  kind : B
  num : Int
  bits : Q
  text : List UInt8
def encV (v : Val) : List CV := [e8 v.kind, .int .i64 v.num, e64 v.bits, .str v.text]
def zeroVal : Val := ⟨0#8, 0, 0#64, []⟩
def expo (b : Q) : Nat := b.toNat / 4503599627370496 % 2048
def frac (b : Q) : Q := b % 4503599627370496#64
def cls (b : Q) : B := if expo b = 2047 then (if frac b = 0#64 then 4#8 else 5#8) else if expo b = 0 then (if frac b = 0#64 then 1#8 else 2#8) else 3#8
def canon (b : Q) : Q := if cls b = 5#8 then 9221120237041090560#64 else b

theorem u_1 (k : B) : ((u k : Int) = 1) ↔ k = 1#8 := u_inj k 1#8
theorem u_2 (k : B) : ((u k : Int) = 2) ↔ k = 2#8 := u_inj k 2#8
theorem u_3 (k : B) : ((u k : Int) = 3) ↔ k = 3#8 := u_inj k 3#8
theorem u_4 (k : B) : ((u k : Int) = 4) ↔ k = 4#8 := u_inj k 4#8
theorem u_5 (k : B) : ((u k : Int) = 5) ↔ k = 5#8 := u_inj k 5#8
theorem u_0 (k : B) : ((u k : Int) = 0) ↔ k = 0#8 := u_inj k 0#8
theorem q_0 (k : Q) : ((u k : Int) = 0) ↔ k = 0#64 := u_inj k 0#64
theorem expo_lt (b : Q) : expo b < 2048 := Nat.mod_lt _ (by decide)
theorem and_2047 (n : Nat) (h : n < 9223372036854775808) : binInt .and .i64 (n : Int) .i64 2047 = some (.int .i64 ((n % 2048 : Nat) : Int)) := by
  show some (CV.int .i64 (IntKind.i64.wrap ((BitVec.ofInt 64 (n : Int) &&& BitVec.ofInt 64 (2047 : Int)).toNat : Int))) = _
  have h1 : (BitVec.ofInt 64 (n : Int) &&& BitVec.ofInt 64 (2047 : Int)).toNat = n % 2048 := by
    rw [BitVec.ofInt_natCast, BitVec.toNat_and, BitVec.toNat_ofNat, Nat.mod_eq_of_lt (by omega)]
    exact Nat.and_two_pow_sub_one_eq_mod n 11
  have h2 := Nat.mod_lt n (show 2048 > 0 by decide)
  rw [h1]
  generalize n % 2048 = q at h2
  rw [wrap_i64 (by omega) (by omega)]
theorem frac_and (b : Q) : b &&& 4503599627370495#64 = frac b := by
  apply BitVec.eq_of_toNat_eq
  unfold frac
  rw [BitVec.toNat_and, BitVec.toNat_umod]
  exact Nat.and_two_pow_sub_one_eq_mod b.toNat 52
theorem split_ok (b : Q) : PureC Try.prog GS 62 [e64 b] (.tu [.int .i64 (expo b), e64 (frac b)]) := by
  refine pure_of Try.checked.mixed GS_closed ?_
  apply call_intro c62_eq r62_eq
  unfold c62 r62
  have hb := b.isLt
  have h1 : IntKind.i64.wrap (u (b >>> 52)) = ((b.toNat / 4503599627370496 : Nat) : Int) := by
    have : u (b >>> 52) = ((b.toNat / 4503599627370496 : Nat) : Int) := by unfold u; rw [BitVec.toNat_ushiftRight, Nat.shiftRight_eq_div_pow]
    rw [this, wrap_i64 (by omega) (by omega)]
  have h2 := and_2047 (b.toNat / 4503599627370496) (by omega)
  have he : expo b = b.toNat / 4503599627370496 % 2048 := rfl
  rw [← he] at h2
  obtain ⟨q, hq⟩ : ∃ q, b.toNat / 4503599627370496 = q := ⟨_, rfl⟩
  rw [hq] at h1 h2
  have h3 : binInt .and .u64 (u b) .u64 4503599627370495 = some (e64 (frac b)) := by
    rw [band_u64, ofInt_u, ← frac_and]; rfl
  have h4 : binInt .shr .u64 (u b) .u64 52 = some (.int .u64 (u (b >>> 52))) := bshrn_u64 b .u64 52
  simp [h4, h1, h2, h3, -band_u64]
  exact rd_eq rfl rfl
theorem refExpo_ok (b : Q) : PureC Try.prog GS 60 [e64 b] (.int .i64 (expo b)) := by
  refine pure_of Try.checked.mixed GS_closed ?_
  apply call_intro c60_eq r60_eq
  unfold c60 r60
  have hb := b.isLt
  have h1 : binInt .rem .u64 (u b) .u64 9223372036854775808 = some (e64 (b % 9223372036854775808#64)) := brem_u64 b 9223372036854775808#64 (by decide)
  have h2 : binInt .quo .u64 (u (b % 9223372036854775808#64)) .u64 4503599627370496 = some (e64 (b % 9223372036854775808#64 / 4503599627370496#64)) := quo_u64 _ 4503599627370496#64 (by decide)
  have h3 : IntKind.i64.wrap (u (b % 9223372036854775808#64 / 4503599627370496#64)) = (expo b : Int) := by
    have : u (b % 9223372036854775808#64 / 4503599627370496#64) = (expo b : Int) := by
      unfold u expo
      rw [BitVec.toNat_udiv, BitVec.toNat_umod]
      show (((b.toNat % 9223372036854775808) / 4503599627370496 : Nat) : Int) = _
      congr 1
      omega
    have h4 := expo_lt b
    rw [this, wrap_i64 (by omega) (by omega)]
  simp [h1, h2, h3]
  exact rd_eq rfl rfl
theorem refFrac_ok (b : Q) : PureC Try.prog GS 61 [e64 b] (e64 (frac b)) := by
  refine pure_of Try.checked.mixed GS_closed ?_
  apply call_intro c61_eq r61_eq
  unfold c61 r61
  have h1 : binInt .rem .u64 (u b) .u64 4503599627370496 = some (e64 (frac b)) := brem_u64 b 4503599627370496#64 (by decide)
  simp [h1]
  exact rd_eq rfl rfl
theorem class_ok (b : Q) : PureC Try.prog GS 59 [e64 b] (e8 (cls b)) := by
  refine pure_of Try.checked.mixed GS_closed ?_
  apply call_intro c59_eq r59_eq
  unfold c59 r59 cls
  simp
  refine pure_call (split_ok b) rfl ?_
  have h1 : ((expo b : Int) = 2047) ↔ expo b = 2047 := by omega
  have h2 : ((expo b : Int) = 0) ↔ expo b = 0 := by omega
  by_cases g1 : expo b = 2047
  · by_cases g2 : frac b = 0#64
    · simp [h1, g1, g2]
      exact rd_eq rfl rfl
    · simp [h1, g1, g2, q_0]
      exact rd_eq rfl rfl
  · by_cases g3 : expo b = 0
    · by_cases g2 : frac b = 0#64
      · simp [h1, h2, g1, g2, g3]
        exact rd_eq rfl rfl
      · simp [h1, h2, g1, g2, g3, q_0]
        exact rd_eq rfl rfl
    · simp [h1, h2, g1, g3]
      exact rd_eq rfl rfl
theorem refClass_ok (b : Q) : PureC Try.prog GS 58 [e64 b] (e8 (cls b)) := by
  refine pure_of Try.checked.mixed GS_closed ?_
  apply call_intro c58_eq r58_eq
  unfold c58 r58 cls
  simp
  refine pure_call (refExpo_ok b) rfl ?_
  simp
  refine pure_call (refFrac_ok b) rfl ?_
  have h2 : ((expo b : Int) = 0) ↔ expo b = 0 := by omega
  have h3 : ((expo b : Int) < 2047) ↔ ¬ expo b = 2047 := by have := expo_lt b; omega
  by_cases g3 : expo b = 0
  · by_cases g2 : frac b = 0#64
    · simp [h2, g2, g3]
      exact rd_eq rfl rfl
    · simp [h2, g2, g3, q_0]
      exact rd_eq rfl rfl
  · by_cases g1 : expo b = 2047
    · by_cases g2 : frac b = 0#64
      · simp [h2, h3, g1, g2]
        exact rd_eq rfl rfl
      · simp [h2, h3, g1, g2, q_0]
        exact rd_eq rfl rfl
    · simp [h2, h3, g1, g3]
      exact rd_eq rfl rfl
theorem canon_ok (b : Q) : PureC Try.prog GS 56 [e64 b] (e64 (canon b)) := by
  refine pure_of Try.checked.mixed GS_closed ?_
  apply call_intro c56_eq r56_eq
  unfold c56 r56 canon
  simp
  refine pure_call (class_ok b) rfl ?_
  by_cases h : cls b = 5#8
  · simp [u_5, h]
    exact rd_eq rfl rfl
  · simp [u_5, h]
    exact rd_eq rfl rfl
theorem refCanon_ok (b : Q) : PureC Try.prog GS 53 [e64 b] (e64 (canon b)) := by
  refine pure_of Try.checked.mixed GS_closed ?_
  apply call_intro c53_eq r53_eq
  unfold c53 r53 canon
  simp
  refine pure_call (refClass_ok b) rfl ?_
  by_cases h : cls b = 5#8
  · simp [u_5, h]
    exact rd_eq rfl rfl
  · simp [u_5, h]
    exact rd_eq rfl rfl

theorem vNumber_ok (n : Int) : PureC Try.prog GS 50 [.int .i64 n] (.ag (encV ⟨1#8, n, 0#64, []⟩)) := by
  refine pure_of Try.checked.mixed GS_closed ?_
  apply call_intro c50_eq r50_eq
  unfold c50 r50
  simp
  exact rd_eq rfl rfl
theorem vFloat_ok (b : Q) : PureC Try.prog GS 51 [e64 b] (.ag (encV ⟨2#8, 0, canon b, []⟩)) := by
  refine pure_of Try.checked.mixed GS_closed ?_
  apply call_intro c51_eq r51_eq
  unfold c51 r51
  simp
  refine pure_call (canon_ok b) rfl ?_
  simp
  exact rd_eq rfl rfl
def textV (s : List UInt8) : Val × Int := if s.length ≤ 30 then (if s.all (okC 32) then (⟨3#8, 0, 0#64, s⟩, 0) else (zeroVal, 8)) else (zeroVal, 4)
theorem vText_ok (s : List UInt8) : PureC Try.prog GS 52 [.str s] (.tu [.ag (encV (textV s).1), .int .i64 (textV s).2]) := by
  refine pure_of Try.checked.mixed GS_closed ?_
  apply call_intro c52_eq r52_eq
  unfold c52 r52 textV
  have h2 : ((30 : Int) < s.length) ↔ ¬ s.length ≤ 30 := by omega
  by_cases g2 : s.length ≤ 30
  · simp [h2, g2]
    refine pure_call (strIndex_ok fn_textR textR_ok s) rfl ?_
    have h3 := ixR_all 32 (by omega) s s.length 0 (by omega)
    rw [List.drop_zero] at h3
    have h4 : ((0 : Int) ≤ ixR (badR 32) s s.length 0) ↔ ¬ (s.all (okC 32) = true) := by rw [← h3]; omega
    cases hb : s.all (okC 32) with
    | true =>
      have h5 : ¬ (0 : Int) ≤ ixR (badR 32) s s.length 0 := by rw [h4, hb]; simp
      simp [h5]
      exact rd_eq (by simp [g2]; rfl) rfl
    | false =>
      have h5 : (0 : Int) ≤ ixR (badR 32) s s.length 0 := by rw [h4, hb]; simp
      simp [h5]
      exact rd_eq (by simp [g2]; rfl) rfl
  · simp [h2, g2]
    exact rd_eq rfl rfl

def valB (v : Val) : Bool :=
  if v.kind = 1#8 then decide (v.bits = 0#64) && decide (v.text = [])
  else if v.kind = 2#8 then decide (v.num = 0) && decide (v.text = []) && decide (canon v.bits = v.bits)
  else if v.kind = 3#8 then decide (v.num = 0) && decide (v.bits = 0#64) && decide (v.text.length ≤ 30) && v.text.all (okC 32)
  else false
def errB (b : Bool) : Int := if b then 0 else 8
def kV : List Tk := [.i .u8, .i .i64, .i .u64, .s]
theorem kinds_V : kindsT Try.prog 20 25 = some kV := by kernel_rfl
theorem v_eql (a b : Val) : binC Try.prog .eql 25 (.ag (encV a)) (.ag (encV b)) = some (.bool (beqL (encV a) (encV b))) := bin_plain_eql kinds_V (by kernel_rfl) (by kernel_rfl) rfl rfl
theorem v_neq (a b : Val) : binC Try.prog .neq 25 (.ag (encV a)) (.ag (encV b)) = some (.bool (!beqL (encV a) (encV b))) := bin_plain_neq kinds_V (by kernel_rfl) (by kernel_rfl) rfl rfl
theorem beq_encV (a b : Val) : beqL (encV a) (encV b) = (decide (a.kind = b.kind) && (decide (a.num = b.num) && (decide (a.bits = b.bits) && decide (a.text = b.text)))) := by
  simp [encV, beqL, CV.beq]
theorem valB1 {v : Val} (k : v.kind = 1#8) : valB v = (decide (v.bits = 0#64) && decide (v.text = [])) := by simp [valB, k]
theorem valB2 {v : Val} (k : v.kind = 2#8) : valB v = (decide (v.num = 0) && (decide (v.bits = canon v.bits) && decide (v.text = []))) := by
  unfold valB
  rw [if_neg (by rw [k]; decide), if_pos k, show decide (canon v.bits = v.bits) = decide (v.bits = canon v.bits) from decide_eq_decide.2 eq_comm]
  cases decide (v.num = 0) <;> cases decide (v.text = []) <;> cases decide (v.bits = canon v.bits) <;> rfl
theorem valB3 {v : Val} (k : v.kind = 3#8) : valB v = (decide (v.kind = (textV v.text).1.kind) && (decide (v.num = (textV v.text).1.num) && (decide (v.bits = (textV v.text).1.bits) && decide (v.text = (textV v.text).1.text)))) := by
  unfold valB textV
  rw [if_neg (by rw [k]; decide), if_neg (by rw [k]; decide), if_pos k]
  by_cases h1 : v.text.length ≤ 30
  · cases h2 : v.text.all (okC 32) with
    | true => simp [h1, k]
    | false => simp [h1, k, zeroVal]
  · simp [h1, k, zeroVal]
theorem valB4 {v : Val} (k1 : v.kind ≠ 1#8) (k2 : v.kind ≠ 2#8) (k3 : v.kind ≠ 3#8) : valB v = false := by simp [valB, k1, k2, k3]
theorem vCheck_ok (v : Val) : PureC Try.prog GS 37 [.ag (encV v)] (.int .i64 (errB (valB v))) := by
  refine pure_of Try.checked.mixed GS_closed ?_
  apply call_intro c37_eq r37_eq
  unfold c37 r37
  have hz : ∀ (k : B) (n : Int) (b : Q) (t : List UInt8), binC Try.prog .neq 25 (.ag [e8 v.kind, .int .i64 v.num, e64 v.bits, .str v.text]) (.ag [e8 k, .int .i64 n, e64 b, .str t]) = some (.bool (!(decide (v.kind = k) && (decide (v.num = n) && (decide (v.bits = b) && decide (v.text = t)))))) := fun k n b t => by rw [← beq_encV v ⟨k, n, b, t⟩]; exact v_neq v ⟨k, n, b, t⟩
  by_cases k1 : v.kind = 1#8
  · have h1 := hz 1#8 v.num 0#64 []
    simp only [k1] at h1
    unfold encV
    simp [u_1, k1]
    refine pure_call (vNumber_ok v.num) rfl ?_
    unfold encV
    simp [h1]
    rw [valB1 k1]
    cases decide (v.bits = 0#64) <;> cases decide (v.text = []) <;> simp [k1] <;> exact rd_eq rfl rfl
  · by_cases k2 : v.kind = 2#8
    · have h1 := hz 2#8 0 (canon v.bits) []
      simp only [k2] at h1
      unfold encV
      simp [u_1, u_2, k2]
      refine pure_call (vFloat_ok v.bits) rfl ?_
      unfold encV
      simp [h1]
      rw [valB2 k2]
      cases decide (v.num = 0) <;> cases decide (v.bits = canon v.bits) <;> cases decide (v.text = []) <;> simp [k2] <;> exact rd_eq rfl rfl
    · by_cases k3 : v.kind = 3#8
      · obtain ⟨w, hw⟩ : ∃ w, w = (textV v.text).1 := ⟨_, rfl⟩
        have h1 := hz w.kind w.num w.bits w.text
        have h3 := valB3 k3
        rw [← hw] at h3
        simp only [k3] at h1 h3
        unfold encV
        simp [u_1, u_2, u_3, k3]
        refine pure_call (vText_ok v.text) rfl ?_
        rw [← hw]
        unfold encV
        simp [h1]
        rw [h3]
        cases decide (3#8 = w.kind) <;> cases decide (v.num = w.num) <;> cases decide (v.bits = w.bits) <;> cases decide (v.text = w.text) <;> simp [k3] <;> exact rd_eq rfl rfl
      · have h1 : binC Try.prog .neq 25 (.ag [e8 v.kind, .int .i64 v.num, e64 v.bits, .str v.text]) (.ag [.int .u8 0, .int .i64 0, .int .u64 0, .str []]) = some (.bool (!(decide (v.kind = 0#8) && (decide (v.num = 0) && (decide (v.bits = 0#64) && decide (v.text = [])))))) := hz 0#8 0 0#64 []
        rw [valB4 k1 k2 k3]
        unfold encV
        simp [u_1, u_2, u_3, k1, k2, k3]
        by_cases k0 : v.kind = 0#8
        · simp only [k0, decide_true, Bool.true_and] at h1
          simp [k0, h1]
          cases decide (v.num = 0) <;> cases decide (v.bits = 0#64) <;> cases decide (v.text = []) <;> simp [k0] <;> exact rd_eq rfl rfl
        · simp only [k0, decide_false, Bool.false_and, Bool.not_false] at h1
          simp [h1]
          exact rd_eq rfl rfl
theorem refVCheck_ok (v : Val) : PureC Try.prog GS 40 [.ag (encV v)] (.int .i64 (errB (valB v))) := by
  refine pure_of Try.checked.mixed GS_closed ?_
  apply call_intro c40_eq r40_eq
  unfold c40 r40
  by_cases k1 : v.kind = 1#8
  · rw [valB1 k1]
    unfold encV
    simp [u_1, k1, q_0]
    by_cases g1 : v.bits = 0#64 <;> by_cases g2 : v.text = [] <;> simp [g1, g2, q_0] <;> exact rd_eq rfl rfl
  · by_cases k2 : v.kind = 2#8
    · rw [valB2 k2]
      unfold encV
      simp [u_1, u_2, k2]
      by_cases g1 : v.num = 0
      · by_cases g2 : v.text = []
        · simp [g1, g2]
          refine pure_call (refCanon_ok v.bits) rfl ?_
          by_cases g3 : v.bits = canon v.bits
          · have g4 : canon v.bits = v.bits := g3.symm
            simp [g4]
            exact rd_eq (by simp [errB, g1, g2, g4]) rfl
          · have g4 : ¬ canon v.bits = v.bits := fun h => g3 h.symm
            simp [g3, g4]
            exact rd_eq (by simp [errB, g3]) rfl
        · simp [g1, g2]
          exact rd_eq rfl rfl
      · simp [g1]
        exact rd_eq rfl rfl
    · by_cases k3 : v.kind = 3#8
      · have hv : valB v = (decide (v.num = 0) && decide (v.bits = 0#64) && decide (v.text.length ≤ 30) && v.text.all (okC 32)) := by simp [valB, k3]
        have h2 : ((v.text.length : Int) ≤ 30) ↔ v.text.length ≤ 30 := by omega
        rw [hv]
        unfold encV
        simp [u_1, u_2, u_3, k3, q_0]
        by_cases g1 : v.num = 0
        · by_cases g2 : v.bits = 0#64
          · by_cases g3 : v.text.length ≤ 30
            · simp [g1, g2, h2, g3]
              refine pure_call (printable_ok v.text (by omega)) rfl ?_
              cases v.text.all (okC 32) <;> simp <;> exact rd_eq (by simp [errB, g1, g2, g3]) rfl
            · simp [g1, g2, h2, g3]
              exact rd_eq rfl rfl
          · simp [g1, g2, q_0]
            exact rd_eq rfl rfl
        · simp [g1]
          exact rd_eq rfl rfl
      · rw [valB4 k1 k2 k3]
        unfold encV
        simp [u_1, u_2, u_3, k1, k2, k3]
        exact rd_eq rfl rfl

/-! acts -/
structure Act where
  kind : B
  key : List UInt8
  val : Val
def encA (a : Act) : List CV := [e8 a.kind, .str a.key, e8 a.val.kind, .int .i64 a.val.num, e64 a.val.bits, .str a.val.text]
def isZero (v : Val) : Bool := decide (v.kind = 0#8) && (decide (v.num = 0) && (decide (v.bits = 0#64) && decide (v.text = [])))
def actB (a : Act) : Bool :=
  if a.kind = 1#8 then decide (a.key = []) && isZero a.val
  else if a.kind = 2#8 ∨ a.kind = 3#8 then keyB a.key && isZero a.val
  else if a.kind = 4#8 then keyB a.key && valB a.val
  else false
def kA : List Tk := [.i .u8, .s, .i .u8, .i .i64, .i .u64, .s]
theorem kinds_A : kindsT Try.prog 20 27 = some kA := by kernel_rfl
theorem a_eql (a b : Act) : binC Try.prog .eql 27 (.ag (encA a)) (.ag (encA b)) = some (.bool (beqL (encA a) (encA b))) := bin_plain_eql kinds_A (by kernel_rfl) (by kernel_rfl) rfl rfl
theorem a_none (a : Act) (h : a.kind = 1#8) : binC Try.prog .eql 27 (.ag [.int .u8 1, .str a.key, e8 a.val.kind, .int .i64 a.val.num, e64 a.val.bits, .str a.val.text]) (.ag [.int .u8 1, .str [], .int .u8 0, .int .i64 0, .int .u64 0, .str []]) = some (.bool (decide (a.key = []) && isZero a.val)) := by
  have := a_eql a ⟨1#8, [], zeroVal⟩
  simp only [encA, h] at this
  refine Eq.trans this ?_
  simp [beqL, CV.beq, isZero, zeroVal, u_0, q_0]
  congr
theorem v_zero (v : Val) : binC Try.prog .eql 25 (.ag [e8 v.kind, .int .i64 v.num, e64 v.bits, .str v.text]) (.ag [.int .u8 0, .int .i64 0, .int .u64 0, .str []]) = some (.bool (isZero v)) := by
  have := v_eql v zeroVal
  rw [beq_encV] at this
  exact this
theorem act1 {a : Act} (k : a.kind = 1#8) : actB a = (decide (a.key = []) && isZero a.val) := by simp [actB, k]
theorem act2 {a : Act} (k : a.kind = 2#8) : actB a = (keyB a.key && isZero a.val) := by simp [actB, k]
theorem act3 {a : Act} (k : a.kind = 3#8) : actB a = (keyB a.key && isZero a.val) := by simp [actB, k]
theorem act4 {a : Act} (k : a.kind = 4#8) : actB a = (keyB a.key && valB a.val) := by simp [actB, k]
theorem act5 {a : Act} (k1 : a.kind ≠ 1#8) (k2 : a.kind ≠ 2#8) (k3 : a.kind ≠ 3#8) (k4 : a.kind ≠ 4#8) : actB a = false := by simp [actB, k1, k2, k3, k4]
theorem checkAct_ok (a : Act) : PureC Try.prog GS 23 [.ag (encA a)] (.int .i64 (errB (actB a))) := by
  refine pure_of Try.checked.mixed GS_closed ?_
  apply call_intro c23_eq r23_eq
  unfold c23 r23
  by_cases k1 : a.kind = 1#8
  · have h1 := a_none a k1
    have e1 : e8 (1#8) = .int .u8 1 := rfl
    rw [act1 k1]
    unfold encA
    simp [u_1, k1, e1, h1]
    by_cases g1 : a.key = [] <;> cases g2 : isZero a.val <;> simp [g1, g2] <;> exact rd_eq rfl rfl
  · have h1 := v_zero a.val
    by_cases k2 : a.kind = 2#8
    · rw [act2 k2]
      unfold encA
      simp [u_1, u_2, u_3, k1, k2]
      refine pure_call (key_ok a.key) rfl ?_
      cases keyB a.key with
      | true => simp [h1]; cases isZero a.val <;> simp <;> exact rd_eq rfl rfl
      | false => simp; exact rd_eq rfl rfl
    · by_cases k3 : a.kind = 3#8
      · rw [act3 k3]
        unfold encA
        simp [u_1, u_2, u_3, k1, k3]
        refine pure_call (key_ok a.key) rfl ?_
        cases keyB a.key with
        | true => simp [h1]; cases isZero a.val <;> simp <;> exact rd_eq rfl rfl
        | false => simp; exact rd_eq rfl rfl
      · by_cases k4 : a.kind = 4#8
        · rw [act4 k4]
          unfold encA
          simp [u_1, u_2, u_3, u_4, k4]
          refine pure_call (key_ok a.key) rfl ?_
          cases keyB a.key with
          | true =>
            simp
            refine pure_call (vCheck_ok a.val) rfl ?_
            cases valB a.val <;> simp [errB] <;> exact rd_eq rfl rfl
          | false => simp; exact rd_eq rfl rfl
        · rw [act5 k1 k2 k3 k4]
          unfold encA
          simp [u_1, u_2, u_3, u_4, k1, k2, k3, k4]
          exact rd_eq rfl rfl
theorem refCheckAct_ok (a : Act) : PureC Try.prog GS 27 [.ag (encA a)] (.int .i64 (errB (actB a))) := by
  refine pure_of Try.checked.mixed GS_closed ?_
  apply call_intro c27_eq r27_eq
  unfold c27 r27
  have h1 := v_zero a.val
  by_cases k1 : a.kind = 1#8
  · rw [act1 k1]
    unfold encA
    simp [u_1, k1, h1]
    by_cases g1 : a.key = [] <;> cases g2 : isZero a.val <;> simp [g1, g2] <;> exact rd_eq rfl rfl
  · by_cases k2 : a.kind = 2#8
    · rw [act2 k2]
      unfold encA
      simp [u_1, u_2, u_3, k1, k2, h1]
      refine pure_call (name_ok a.key) rfl ?_
      cases keyB a.key with
      | true => simp; cases isZero a.val <;> simp <;> exact rd_eq rfl rfl
      | false => simp; exact rd_eq rfl rfl
    · by_cases k3 : a.kind = 3#8
      · rw [act3 k3]
        unfold encA
        simp [u_1, u_2, u_3, k1, k3, h1]
        refine pure_call (name_ok a.key) rfl ?_
        cases keyB a.key with
        | true => simp; cases isZero a.val <;> simp <;> exact rd_eq rfl rfl
        | false => simp; exact rd_eq rfl rfl
      · by_cases k4 : a.kind = 4#8
        · rw [act4 k4]
          unfold encA
          simp [u_1, u_2, u_3, u_4, k4, h1]
          refine pure_call (name_ok a.key) rfl ?_
          cases keyB a.key with
          | true =>
            simp
            refine pure_call (refVCheck_ok a.val) rfl ?_
            cases valB a.val <;> simp [errB] <;> exact rd_eq rfl rfl
          | false => simp; exact rd_eq rfl rfl
        · rw [act5 k1 k2 k3 k4]
          unfold encA
          simp [u_1, u_2, u_3, u_4, k1, k2, k3, k4, h1]
          exact rd_eq rfl rfl
end Op
end Go.CM

/-
  Calls: data; clean, same, Check, walked in both texts.
-/
namespace Go.CM
open Go Go.Proofs
set_option linter.unusedVariables false
set_option linter.unusedSimpArgs false
set_option maxRecDepth 100000
namespace Ca
open Sha Op

structure Call where
  kind : B
  bytes : Bs
  act : Op.Act
  stamp : Q
  key : List UInt8
def encC (c : Call) : List CV := [e8 c.kind, encBs c.bytes, e8 c.act.kind, .str c.act.key, e8 c.act.val.kind, .int .i64 c.act.val.num, e64 c.act.val.bits, .str c.act.val.text, e64 c.stamp, .str c.key]
def zeroAct : Op.Act := ⟨0#8, [], zeroVal⟩
theorem closed_C (c : Call) : (CV.ag (encC c)).closed = true := by simp [CV.closed, encC, closedL, closed_Bs]
def clean (c : Call) : Call := ⟨c.kind, if c.kind = 1#8 then c.bytes else none, if c.kind = 2#8 then c.act else zeroAct, if c.kind = 2#8 then c.stamp else 0#64, if c.kind = 3#8 then c.key else []⟩
set_option maxHeartbeats 4000000 in
theorem clean_ok (c : Call) : PureC Try.prog GS 25 [.ag (encC c)] (.ag (encC (clean c))) := by
  refine pure_of Try.checked.mixed GS_closed ?_
  apply call_intro c25_eq r25_eq
  unfold c25 r25 encC
  have hc := closed_Bs c.bytes
  by_cases k1 : c.kind = 1#8
  · simp [u_1, k1, clean, zeroAct, zeroVal]
    exact rd_eq rfl (by simp [CV.closed, closedL, hc])
  · by_cases k2 : c.kind = 2#8
    · simp [u_1, u_2, k2, clean]
      exact rd_eq rfl rfl
    · by_cases k3 : c.kind = 3#8
      · simp [u_1, u_2, u_3, k3, clean, zeroAct, zeroVal]
        exact rd_eq rfl rfl
      · simp [u_1, u_2, u_3, k1, k2, k3, clean, zeroAct, zeroVal]
        exact rd_eq rfl rfl
/-- Bytes as a string. -/
def strB (s : List B) : List UInt8 := s.map fun x => UInt8.ofNat x.toNat
theorem strB_inj : ∀ {a b : List B}, strB a = strB b → a = b
  | [], [], _ => rfl
  | [], _ :: _, h => by simp [strB] at h
  | _ :: _, [], h => by simp [strB] at h
  | x :: a, y :: b, h => by
    simp only [strB, List.map_cons, List.cons.injEq] at h
    have h1 := congrArg UInt8.toNat h.1
    simp only [UInt8.toNat_ofNat'] at h1
    have hx := x.isLt
    have hy := y.isLt
    rw [strB_inj (a := a) (b := b) h.2, BitVec.eq_of_toNat_eq (x := x) (y := y) (by omega)]
theorem strB_iff (a b : List B) : (strB a = strB b) ↔ a = b := ⟨strB_inj, fun h => by rw [h]⟩
theorem bytesC_e8 : ∀ a : List B, bytesOfC (a.map e8) = some (strB a)
  | [] => rfl
  | x :: a => by
    simp only [List.map_cons, bytesOfC, bytesC_e8 a, Option.map_some]
    simp [u, strB]
theorem flatB : ∀ a : List B, (a.map enc8).flatten = a.map e8
  | [] => rfl
  | x :: a => by rw [List.map_cons, List.flatten_cons, flatB a]; rfl
theorem cbs_Bs (l : Hl) (s : Bs) : cbsC l (encBs s) = some (.str (strB s.l)) := by
  cases s with
  | none => rfl
  | some a =>
    have h : contentsL l 1 (encBs (some a)) = some (a.map e8, a.length) := by
      have := contents_encS l 1 enc8 (some a)
      rw [this]; simp [flatB]
    simp only [encS] at h ⊢
    unfold cbsC
    simp only [h, bytesC_e8]
    rfl
theorem bEqual_ok (a b : Bs) : PureC Try.prog GS 38 [encBs a, encBs b] (.bool (decide (a.l = b.l))) := by
  refine pure_of Try.checked.mixed GS_closed ?_
  apply call_intro c38_eq r38_eq
  unfold c38 r38
  simp [cbs_Bs, strB_iff]
  exact rd_eq rfl rfl
def actEq (a b : Op.Act) : Bool := beqL (encA a) (encA b)
theorem actEq_def (a b : Op.Act) : actEq a b = (decide (a.kind = b.kind) && (decide (a.key = b.key) && (decide (a.val.kind = b.val.kind) && (decide (a.val.num = b.val.num) && (decide (a.val.bits = b.val.bits) && decide (a.val.text = b.val.text)))))) := by
  simp [actEq, encA, beqL, CV.beq]
theorem actEq_self (a : Op.Act) : actEq a a = true := by simp [actEq_def]
theorem act_eql (a b : Op.Act) : binC Try.prog .eql 27 (.ag [e8 a.kind, .str a.key, e8 a.val.kind, .int .i64 a.val.num, e64 a.val.bits, .str a.val.text]) (.ag [e8 b.kind, .str b.key, e8 b.val.kind, .int .i64 b.val.num, e64 b.val.bits, .str b.val.text]) = some (.bool (actEq a b)) := a_eql a b
def sameB (a b : Call) : Bool := decide (a.kind = b.kind) && (decide (a.bytes.l = b.bytes.l) && (actEq a.act b.act && (decide (a.stamp = b.stamp) && decide (a.key = b.key))))
set_option maxHeartbeats 4000000 in
theorem same_ok (a b : Call) : PureC Try.prog GS 24 [.ag (encC a), .ag (encC b)] (.bool (sameB a b)) := by
  refine pure_of Try.checked.mixed GS_closed ?_
  apply call_intro c24_eq r24_eq
  unfold c24 r24 encC sameB
  have h1 := act_eql a.act b.act
  by_cases g1 : a.kind = b.kind
  · simp [g1]
    refine pure_call (bEqual_ok a.bytes b.bytes) (by simp [closedL, closed_Bs]) ?_
    by_cases g2 : a.bytes.l = b.bytes.l
    · simp [g2, h1]
      cases actEq a.act b.act with
      | true =>
        by_cases g3 : a.stamp = b.stamp
        · simp [g3]
          exact rd_eq (by simp [g1, g2, g3]) rfl
        · simp [g3]
          exact rd_eq (by simp [g1, g2, g3]) rfl
      | false =>
        simp
        exact rd_eq rfl rfl
    · simp [g2]
      exact rd_eq rfl rfl
  · simp [g1]
    exact rd_eq rfl rfl
set_option maxHeartbeats 4000000 in
theorem sameCall_ok (a b : Call) : PureC Try.prog GS 28 [.ag (encC a), .ag (encC b)] (.bool (sameB a b)) := by
  refine pure_of Try.checked.mixed GS_closed ?_
  apply call_intro c28_eq r28_eq
  unfold c28 r28 encC sameB
  have h1 := act_eql a.act b.act
  by_cases g1 : a.kind = b.kind
  · by_cases g2 : a.bytes.l = b.bytes.l
    · simp [g1, g2, h1, cbs_Bs, strB_iff]
      cases actEq a.act b.act with
      | true =>
        by_cases g3 : a.stamp = b.stamp
        · simp [g3]
          exact rd_eq (by simp [g1, g2, g3]) rfl
        · simp [g3]
          exact rd_eq (by simp [g1, g2, g3]) rfl
      | false =>
        simp
        exact rd_eq rfl rfl
    · simp [g1, g2, cbs_Bs, strB_iff]
      exact rd_eq rfl rfl
  · simp [g1]
    exact rd_eq rfl rfl

/-! Check -/
def bareB (c : Call) : Bool := (decide (c.bytes.l = []) || decide (c.kind = 1#8)) && (((actEq c.act zeroAct && decide (c.stamp = 0#64)) || decide (c.kind = 2#8)) && (decide (c.key = []) || decide (c.kind = 3#8)))
def kindB (c : Call) : Bool := decide (1 ≤ c.kind.toNat) && decide (c.kind.toNat ≤ 6)
def chkC (c : Call) : Bool := kindB c && (bareB c && (decide (c.bytes.l.length ≤ 2000) && (decide (c.stamp.toNat ≤ 1000000000000) && ((!decide (c.kind = 3#8) || keyB c.key) && (!decide (c.kind = 2#8) || actB c.act)))))
theorem same_clean (c : Call) : sameB c (clean c) = bareB c := by
  unfold sameB bareB clean
  by_cases k1 : c.kind = 1#8
  · simp [k1, Bool.and_assoc]
  · by_cases k2 : c.kind = 2#8
    · simp [k2, actEq_self]
    · by_cases k3 : c.kind = 3#8
      · simp [k3]
      · simp [k1, k2, k3, Bool.and_assoc]
def keyAct (k : B) (s : List UInt8)   : Op.Act := ⟨k, s, zeroVal⟩
theorem isZero_zero : isZero zeroVal = true := rfl
theorem keyAct2 (s : List UInt8) : actB (keyAct 2#8 s) = keyB s := by rw [act2 rfl]; simp [keyAct, isZero_zero]
theorem keyAct3 (s : List UInt8) : actB (keyAct 3#8 s) = keyB s := by rw [act3 rfl]; simp [keyAct, isZero_zero]
theorem errB_0 (b : Bool) : (errB b = 0) ↔ b = true := by cases b <;> simp [errB]
theorem check1_ok (s : List UInt8) : PureC Try.prog GS 22 [.str s] (.bool (keyB s)) := by
  refine pure_of Try.checked.mixed GS_closed ?_
  apply call_intro c22_eq r22_eq
  unfold c22 r22
  simp
  refine pure_call (checkAct_ok (keyAct 3#8 s)) rfl ?_
  rw [keyAct3]
  simp
  exact rd_eq (by cases keyB s <;> simp [errB]) rfl
theorem fn_check1 : funOkB Try.prog 22 = true := by kernel_rfl
theorem kindB_lo (c : Call) : ((u c.kind : Int) < 1) ↔ ¬ 1 ≤ c.kind.toNat := by unfold u; omega
theorem kindB_hi (c : Call) : ((6 : Int) < u c.kind) ↔ ¬ c.kind.toNat ≤ 6 := by unfold u; omega
theorem stamp_hi (c : Call) : ((1000000000000 : Int) < u c.stamp) ↔ ¬ c.stamp.toNat ≤ 1000000000000 := by unfold u; omega
set_option maxHeartbeats 8000000 in
theorem check_ok (c : Call) : PureC Try.prog GS 13 [.ag (encC c)] (.int .i64 (errB (chkC c))) := by
  refine pure_of Try.checked.mixed GS_closed ?_
  apply call_intro c13_eq r13_eq
  unfold c13 r13
  have hcl := clean_ok c
  have hsm := same_ok c (clean c)
  rw [same_clean] at hsm
  have hc1 := closed_C c
  have hc2 := closed_C (clean c)
  have hlen : lenM (.sl 1) (encBs c.bytes) = some (.int .i64 c.bytes.l.length) := len_encS _
  have hl2 : ((2000 : Int) < c.bytes.l.length) ↔ ¬ c.bytes.l.length ≤ 2000 := by omega
  obtain ⟨E, hE⟩ : ∃ E, E = CV.ag (encC (clean c)) := ⟨_, rfl⟩
  rw [← hE] at hcl hsm hc2
  by_cases g1 : 1 ≤ c.kind.toNat
  · by_cases g2 : c.kind.toNat ≤ 6
    · have hk : kindB c = true := by simp [kindB, g1, g2]
      unfold encC at hcl hsm hc1 ⊢
      simp [kindB_lo, kindB_hi, g1, g2]
      refine pure_call hcl (by simpa [closedL] using hc1) ?_
      simp
      refine pure_call hsm (by simpa [closedL, hc2] using hc1) ?_
      cases hb : bareB c with
      | false =>
        simp
        exact rd_eq (by simp [chkC, hk, hb, errB]) rfl
      | true =>
        by_cases g3 : c.bytes.l.length ≤ 2000
        · by_cases g4 : c.stamp.toNat ≤ 1000000000000
          · have hchk : chkC c = ((!decide (c.kind = 3#8) || keyB c.key) && (!decide (c.kind = 2#8) || actB c.act)) := by simp [chkC, hk, hb, g3, g4]
            rw [hchk]
            by_cases k3 : c.kind = 3#8
            · have k2 : ¬ c.kind = 2#8 := by rw [k3]; decide
              simp [hlen, hl2, g3, stamp_hi, g4, u_3, u_2, k3]
              refine ⟨fn_check1, pure_call (check1_ok c.key) rfl ?_⟩
              cases keyB c.key <;> simp <;> exact rd_eq (by simp [errB, k3]) rfl
            · by_cases k2 : c.kind = 2#8
              · simp [hlen, hl2, g3, stamp_hi, g4, u_3, u_2, k2]
                refine pure_call (checkAct_ok c.act) rfl ?_
                cases actB c.act <;> simp [errB] <;> exact rd_eq (by simp [errB, k2]) rfl
              · simp [hlen, hl2, g3, stamp_hi, g4, u_3, u_2, k3, k2]
                exact rd_eq (by simp [errB, k2, k3]) rfl
          · simp [hlen, hl2, g3, stamp_hi, g4]
            exact rd_eq (by simp [chkC, g4, errB]) rfl
        · simp [hlen, hl2, g3]
          exact rd_eq (by simp [chkC, g3, errB]) rfl
    · have hk : chkC c = false := by simp [chkC, kindB, g2]
      rw [hk]
      unfold encC
      simp [kindB_lo, kindB_hi, g1, g2]
      exact rd_eq rfl rfl
  · have hk : chkC c = false := by simp [chkC, kindB, g1]
    rw [hk]
    unfold encC
    simp [kindB_lo, g1]
    exact rd_eq rfl rfl

/-! the reference -/
theorem actZ (a : Op.Act) : binC Try.prog .eql 27 (.ag [e8 a.kind, .str a.key, e8 a.val.kind, .int .i64 a.val.num, e64 a.val.bits, .str a.val.text]) (.ag [.int .u8 0, .str [], .int .u8 0, .int .i64 0, .int .u64 0, .str []]) = some (.bool (actEq a zeroAct)) := act_eql a zeroAct
set_option maxHeartbeats 8000000 in
theorem bare_ok (c : Call) : PureC Try.prog GS 26 [.ag (encC c)] (.bool (bareB c)) := by
  refine pure_of Try.checked.mixed GS_closed ?_
  apply call_intro c26_eq r26_eq
  unfold c26 r26 encC
  have hlen : lenM (.sl 1) (encBs c.bytes) = some (.int .i64 c.bytes.l.length) := len_encS _
  have h1 := actZ c.act
  have hl0 : ((c.bytes.l.length : Int) = 0) ↔ c.bytes.l = [] := by rw [← List.length_eq_zero_iff]; omega
  have q0 : ((u c.stamp : Int) = 0) ↔ c.stamp = 0#64 := q_0 c.stamp
  unfold bareB
  by_cases g1 : c.bytes.l = []
  · simp [hlen, hl0, g1, h1]
    cases hz : actEq c.act zeroAct with
    | true =>
      by_cases g2 : c.stamp = 0#64
      · by_cases g3 : c.key = []
        · simp [g2, g3]; exact rd_eq (by simp [g1, hz, g2, g3]) rfl
        · simp [g2, g3, u_3]; exact rd_eq (by simp [g1, hz, g2, g3]) rfl
      · by_cases g3 : c.key = []
        · by_cases k2 : c.kind = 2#8
          · simp [g2, g3, q0, u_2, k2]; exact rd_eq (by simp [g1, hz, g2, g3, k2]) rfl
          · simp [g2, g3, q0, u_2, k2]; exact rd_eq (by simp [g1, hz, g2, g3, k2]) rfl
        · by_cases k2 : c.kind = 2#8
          · simp [g2, g3, q0, u_2, u_3, k2]; exact rd_eq (by simp [g1, hz, g2, g3, k2]) rfl
          · simp [g2, g3, q0, u_2, u_3, k2]; exact rd_eq (by simp [g1, hz, g2, g3, k2]) rfl
    | false =>
      by_cases k2 : c.kind = 2#8
      · by_cases g3 : c.key = []
        · simp [g3, u_2, k2]; exact rd_eq (by simp [g1, hz, g3, k2]) rfl
        · simp [g3, u_2, u_3, k2]; exact rd_eq (by simp [g1, hz, g3, k2]) rfl
      · simp [u_2, k2]; exact rd_eq (by simp [g1, hz, k2]) rfl
  · by_cases k1 : c.kind = 1#8
    · simp [hlen, hl0, g1, h1, u_1, k1]
      cases hz : actEq c.act zeroAct with
      | true =>
        by_cases g2 : c.stamp = 0#64
        · by_cases g3 : c.key = []
          · simp [g2, g3]; exact rd_eq (by simp [g1, hz, g2, g3, k1]) rfl
          · simp [g2, g3, u_3, k1]; exact rd_eq (by simp [g1, hz, g2, g3, k1]) rfl
        · simp [g2, q0, u_2, k1]; exact rd_eq (by simp [g1, hz, g2, k1]) rfl
      | false =>
        simp [u_2, k1]; exact rd_eq (by simp [g1, hz, k1]) rfl
    · simp [hlen, hl0, g1, h1, u_1, k1]
      cases hz : actEq c.act zeroAct with
      | true =>
        by_cases g2 : c.stamp = 0#64
        · simp [g2]; exact rd_eq (by simp [g1, k1]) rfl
        · simp [g2, q0]; exact rd_eq (by simp [g1, k1]) rfl
      | false => simp; exact rd_eq (by simp [g1, k1]) rfl
set_option maxHeartbeats 8000000 in
theorem refCheck_ok (c : Call) : PureC Try.prog GS 14 [.ag (encC c)] (.int .i64 (errB (chkC c))) := by
  refine pure_of Try.checked.mixed GS_closed ?_
  apply call_intro c14_eq r14_eq
  unfold c14 r14
  have hba := bare_ok c
  have hc1 := closed_C c
  have hlen : lenM (.sl 1) (encBs c.bytes) = some (.int .i64 c.bytes.l.length) := len_encS _
  have hl2 : ((2000 : Int) < c.bytes.l.length) ↔ ¬ c.bytes.l.length ≤ 2000 := by omega
  by_cases g1 : 1 ≤ c.kind.toNat
  · by_cases g2 : c.kind.toNat ≤ 6
    · have hk : kindB c = true := by simp [kindB, g1, g2]
      unfold encC at hba hc1 ⊢
      simp [kindB_lo, kindB_hi, g1, g2]
      refine pure_call hba (by simpa [closedL] using hc1) ?_
      cases hb : bareB c with
      | false =>
        simp
        exact rd_eq (by simp [chkC, hk, hb, errB]) rfl
      | true =>
        by_cases g3 : c.bytes.l.length ≤ 2000
        · by_cases g4 : c.stamp.toNat ≤ 1000000000000
          · have hchk : chkC c = ((!decide (c.kind = 3#8) || keyB c.key) && (!decide (c.kind = 2#8) || actB c.act)) := by simp [chkC, hk, hb, g3, g4]
            rw [hchk]
            by_cases k3 : c.kind = 3#8
            · simp [hlen, hl2, g3, stamp_hi, g4, u_3, u_2, k3]
              refine pure_call (refCheckAct_ok (keyAct 2#8 c.key)) rfl ?_
              rw [keyAct2]
              cases keyB c.key <;> simp [errB] <;> exact rd_eq (by simp [errB, k3]) rfl
            · by_cases k2 : c.kind = 2#8
              · simp [hlen, hl2, g3, stamp_hi, g4, u_3, u_2, k2]
                refine pure_call (refCheckAct_ok c.act) rfl ?_
                cases actB c.act <;> simp [errB] <;> exact rd_eq (by simp [errB, k2]) rfl
              · simp [hlen, hl2, g3, stamp_hi, g4, u_3, u_2, k3, k2]
                exact rd_eq (by simp [errB, k2, k3]) rfl
          · simp [hlen, hl2, g3, stamp_hi, g4]
            exact rd_eq (by simp [chkC, g4, errB]) rfl
        · simp [hlen, hl2, g3]
          exact rd_eq (by simp [chkC, g3, errB]) rfl
    · have hk : chkC c = false := by simp [chkC, kindB, g2]
      rw [hk]
      unfold encC
      simp [kindB_lo, kindB_hi, g1, g2]
      exact rd_eq rfl rfl
  · have hk : chkC c = false := by simp [chkC, kindB, g1]
    rw [hk]
    unfold encC
    simp [kindB_lo, g1]
    exact rd_eq rfl rfl
end Ca
end Go.CM

/-
  Open calls: data; what is valid, walked in both texts.
-/
namespace Go.CM
open Go Go.Proofs
set_option linter.unusedVariables false
set_option linter.unusedSimpArgs false
set_option maxRecDepth 100000
namespace Ca
open Sha Op

def eId (i : List B) : List CV := i.map e8
abbrev Ids := Sv (List B)
def encIds (s : Ids) : CV := encS 32 eId s
def okIds (s : Ids) : Prop := ∀ i ∈ s.l, i.length = 32
theorem closed_eId (i : List B) : closedL (eId i) = true := closedL_map e8 (fun _ => rfl) _
theorem closed_ids (s : Ids) : (encIds s).closed = true := closed_encS closed_eId s
structure Ans where
  verdict : B
  id : List B
  version : Int
  inn : Bool
  val : Val
  heads : Ids
  sub : Int
def encAn (a : Ans) : List CV := e8 a.verdict :: (a.id.map e8 ++ [.int .i64 a.version, .bool a.inn, e8 a.val.kind, .int .i64 a.val.num, e64 a.val.bits, .str a.val.text, encIds a.heads, .int .i64 a.sub])
structure Opn where
  call : Call
  at_ : B
  base : Int
  bytes : Bs
  ticket : Int
  ans : Ans
def encO (o : Opn) : List CV := encC o.call ++ ([e8 o.at_, .int .i64 o.base, encBs o.bytes, .int .i64 o.ticket] ++ encAn o.ans)
def okA (a : Ans) : Prop := a.id.length = 32 ∧ okIds a.heads
theorem len_An {a : Ans} (h : okA a) : (encAn a).length = 41 := by simp [encAn, h.1]
theorem closed_An (a : Ans) : closedL (encAn a) = true := by
  have h := closedL_map e8 (fun _ => rfl) a.id
  have h2 : ∀ (x y : List CV), closedL x = true → closedL y = true → closedL (x ++ y) = true := by
    intro x
    induction x with
    | nil => intro y _ hy; exact hy
    | cons c x ih => intro y hx hy; simp only [closedL, Bool.and_eq_true, List.cons_append] at hx ⊢; exact ⟨hx.1, ih y hx.2 hy⟩
  unfold encAn
  simp only [closedL, CV.closed, Bool.true_and]
  exact h2 _ _ h (by simp [closedL, CV.closed, closed_ids])
theorem closed_O (o : Opn) : (CV.ag (encO o)).closed = true := by
  have h := closed_An o.ans
  have h2 := closed_C o.call
  simp only [CV.closed] at h2 ⊢
  unfold encO encC at *
  simp only [closedL, CV.closed, closed_Bs, List.cons_append, List.nil_append, h, Bool.and_self, Bool.true_and]
/-- What is read of the cells of an open call. -/
structure OF (L : List CV) (o : Opn) : Prop where
  len : L.length = 55
  c0 : ∃ h : 0 < L.length, L[0]'h = e8 o.call.kind
  c1 : ∃ h : 1 < L.length, L[1]'h = encBs o.call.bytes
  c3 : ∃ h : 3 < L.length, L[3]'h = .str o.call.act.key
  c9 : ∃ h : 9 < L.length, L[9]'h = .str o.call.key
  c10 : ∃ h : 10 < L.length, L[10]'h = e8 o.at_
  c11 : ∃ h : 11 < L.length, L[11]'h = .int .i64 o.base
  c12 : ∃ h : 12 < L.length, L[12]'h = encBs o.bytes
  c13 : ∃ h : 13 < L.length, L[13]'h = .int .i64 o.ticket
  c53 : ∃ h : 53 < L.length, L[53]'h = encIds o.ans.heads
  t55 : L.take 55 = L
  t10 : L.take 10 = encC o.call
  t41 : (L.drop 14).take 41 = encAn o.ans
  cl : closedL L = true
theorem len_O {o : Opn} (h : okA o.ans) : (encO o).length = 55 := by simp [encO, encC, len_An h]
theorem at_of {L : List CV} {i : Nat} {c : CV} (h : L[i]? = some c) : ∃ h : i < L.length, L[i]'h = c := List.getElem?_eq_some_iff.1 h
theorem of_O {o : Opn} (h : okA o.ans) : OF (encO o) o := by
  have hl := len_O h
  refine ⟨hl, at_of rfl, at_of rfl, at_of rfl, at_of rfl, at_of rfl, at_of rfl, at_of rfl, at_of rfl, at_of ?_, List.take_of_length_le (by omega), rfl, ?_, closed_O o⟩
  · show (encAn o.ans)[39]? = _
    unfold encAn
    rw [show (39 : Nat) = 38 + 1 from rfl, List.getElem?_cons_succ, List.getElem?_append_right (by simp [h.1])]
    simp [h.1]
  · show (encAn o.ans).take 41 = _
    exact List.take_of_length_le (by have := len_An h; omega)

/-! kinds and needs -/
def kindI (k : B) : CV := if k = 1#8 then .ifc 87 (.ag []) else if k = 5#8 then .ifc 89 (.ag []) else if k = 6#8 then .ifc 90 (.ag []) else .ifc 88 (.ag [])
theorem u_6 (k : B) : ((u k : Int) = 6) ↔ k = 6#8 := u_inj k 6#8
theorem kind_ok (c : Call) : PureC Try.prog GS 43 [.ag (encC c)] (kindI c.kind) := by
  refine pure_of Try.checked.mixed GS_closed ?_
  apply call_intro c43_eq r43_eq
  unfold c43 r43 encC kindI
  by_cases k1 : c.kind = 1#8
  · simp [u_1, k1]
    exact rd_eq rfl rfl
  · by_cases k5 : c.kind = 5#8
    · simp [u_1, u_5, k5]
      exact rd_eq rfl rfl
    · by_cases k6 : c.kind = 6#8
      · simp [u_1, u_5, u_6, k6]
        exact rd_eq rfl rfl
      · simp [u_1, u_5, u_6, k1, k5, k6]
        exact rd_eq rfl rfl
def firstB (k : B) : B := if k = 1#8 then 2#8 else if k = 5#8 then 3#8 else if k = 6#8 then 4#8 else 1#8
def needB (o : Opn) : B := if o.at_ = 4#8 then 6#8 else if o.at_ = 3#8 then 5#8 else if o.at_ = 2#8 then 2#8 else firstB o.call.kind
theorem m_put : methC Try.prog 87 "braid/calls.first" = some 79 := by kernel_rfl
theorem m_load : methC Try.prog 88 "braid/calls.first" = some 80 := by kernel_rfl
theorem m_sub : methC Try.prog 89 "braid/calls.first" = some 81 := by kernel_rfl
theorem m_clo : methC Try.prog 90 "braid/calls.first" = some 82 := by kernel_rfl
theorem f_put : funOkB Try.prog 79 = true := by kernel_rfl
theorem f_load : funOkB Try.prog 80 = true := by kernel_rfl
theorem f_sub : funOkB Try.prog 81 = true := by kernel_rfl
theorem f_clo : funOkB Try.prog 82 = true := by kernel_rfl
theorem put_ok : PureC Try.prog GS 79 [.ag []] (e8 2#8) := by
  refine pure_of Try.checked.mixed GS_closed ?_
  apply call_intro c79_eq r79_eq
  unfold c79 r79
  simp
  exact rd_eq rfl rfl
theorem load_ok : PureC Try.prog GS 80 [.ag []] (e8 1#8) := by
  refine pure_of Try.checked.mixed GS_closed ?_
  apply call_intro c80_eq r80_eq
  unfold c80 r80
  simp
  exact rd_eq rfl rfl
theorem sub_ok : PureC Try.prog GS 81 [.ag []] (e8 3#8) := by
  refine pure_of Try.checked.mixed GS_closed ?_
  apply call_intro c81_eq r81_eq
  unfold c81 r81
  simp
  exact rd_eq rfl rfl
theorem clo_ok : PureC Try.prog GS 82 [.ag []] (e8 4#8) := by
  refine pure_of Try.checked.mixed GS_closed ?_
  apply call_intro c82_eq r82_eq
  unfold c82 r82
  simp
  exact rd_eq rfl rfl
theorem needs_ok (o : Opn) (ho : okA o.ans) : PureC Try.prog GS 33 [.ag (encO o)] (e8 (needB o)) := by
  refine pure_of Try.checked.mixed GS_closed ?_
  apply call_intro c33_eq r33_eq
  unfold c33 r33 needB
  have hkd := kind_ok o.call
  have hcc := closed_C o.call
  have F := of_O ho
  obtain ⟨L, hL⟩ : ∃ L, L = encO o := ⟨_, rfl⟩
  rw [← hL] at F ⊢
  obtain ⟨hl, _, _, _, _, ⟨_, c10⟩, _, _, _, _, _, t10, _, cl⟩ := F
  by_cases k4 : o.at_ = 4#8
  · simp [hl, c10, u_4, k4]
    exact rd_eq rfl rfl
  · by_cases k3 : o.at_ = 3#8
    · simp [hl, c10, u_4, u_3, k3]
      exact rd_eq rfl rfl
    · by_cases k2 : o.at_ = 2#8
      · simp [hl, c10, u_4, u_3, u_2, k2]
        exact rd_eq rfl rfl
      · simp [hl, c10, t10, u_4, u_3, u_2, k2, k3, k4]
        refine pure_call hkd (by simpa [closedL] using hcc) ?_
        unfold kindI firstB
        by_cases j1 : o.call.kind = 1#8
        · simp [j1, m_put]
          refine ⟨f_put, pure_call put_ok rfl ?_⟩
          simp
          exact rd_eq (by simp [k2, k3, k4, j1]) rfl
        · by_cases j5 : o.call.kind = 5#8
          · simp [j5, m_sub]
            refine ⟨f_sub, pure_call sub_ok rfl ?_⟩
            simp
            exact rd_eq (by simp [k2, k3, k4, j1, j5]) rfl
          · by_cases j6 : o.call.kind = 6#8
            · simp [j6, m_clo]
              refine ⟨f_clo, pure_call clo_ok rfl ?_⟩
              simp
              exact rd_eq (by simp [k2, k3, k4, j1, j5, j6]) rfl
            · simp [j1, j5, j6, m_load]
              refine ⟨f_load, pure_call load_ok rfl ?_⟩
              simp
              exact rd_eq (by simp [k2, k3, k4, j1, j5, j6]) rfl

/-! what is valid -/
def freshB (o : Opn) : Bool := decide (o.base = 0) && (decide (o.ticket = -1) && decide (o.bytes.l = o.call.bytes.l))
theorem fresh_ok (o : Opn) (ho : okA o.ans) : PureC Try.prog GS 41 [.ag (encO o)] (.bool (freshB o)) := by
  refine pure_of Try.checked.mixed GS_closed ?_
  apply call_intro c41_eq r41_eq
  unfold c41 r41 freshB
  have F := of_O ho
  obtain ⟨L, hL⟩ : ∃ L, L = encO o := ⟨_, rfl⟩
  rw [← hL] at F ⊢
  obtain ⟨hl, _, ⟨_, c1⟩, _, _, _, ⟨_, c11⟩, ⟨_, c12⟩, ⟨_, c13⟩, _, _, _, _, cl⟩ := F
  by_cases g1 : o.base = 0
  · by_cases g2 : o.ticket = -1
    · simp [hl, c11, c13, c12, c1, g1, g2]
      refine pure_call (bEqual_ok o.bytes o.call.bytes) (by simp [closedL, closed_Bs]) ?_
      simp
      exact rd_eq (by simp [g1, g2]) rfl
    · simp [hl, c11, c13, g1, g2]
      exact rd_eq (by simp [g1, g2]) rfl
  · simp [hl, c11, g1]
    exact rd_eq (by simp [g1]) rfl
def openedB (o : Opn) : Bool := decide (o.base = 0) && (decide (o.ticket = -1) && (if o.call.kind = 1#8 then decide (o.bytes.l = o.call.bytes.l) else decide (o.bytes.l = [])))
theorem len0 (s : Bs) : ((s.l.length : Int) = 0) ↔ s.l = [] := by rw [← List.length_eq_zero_iff]; omega
theorem opened_ok (o : Opn) (ho : okA o.ans) : PureC Try.prog GS 44 [.ag (encO o)] (.bool (openedB o)) := by
  refine pure_of Try.checked.mixed GS_closed ?_
  apply call_intro c44_eq r44_eq
  unfold c44 r44 openedB
  have F := of_O ho
  have hlen : lenM (.sl 1) (encBs o.bytes) = some (.int .i64 o.bytes.l.length) := len_encS _
  obtain ⟨L, hL⟩ : ∃ L, L = encO o := ⟨_, rfl⟩
  rw [← hL] at F ⊢
  obtain ⟨hl, ⟨_, c0⟩, ⟨_, c1⟩, _, _, _, ⟨_, c11⟩, ⟨_, c12⟩, ⟨_, c13⟩, _, _, _, _, cl⟩ := F
  by_cases k1 : o.call.kind = 1#8
  · by_cases g1 : o.base = 0
    · by_cases g2 : o.ticket = -1
      · simp [hl, c0, u_1, k1, c11, c13, c12, c1, g1, g2, cbs_Bs, strB_iff]
        exact rd_eq (by simp [g1, g2, k1]) rfl
      · simp [hl, c0, u_1, k1, c11, c13, g1, g2]
        exact rd_eq (by simp [g1, g2]) rfl
    · simp [hl, c0, u_1, k1, c11, g1]
      exact rd_eq (by simp [g1]) rfl
  · by_cases g1 : o.base = 0
    · by_cases g2 : o.ticket = -1
      · simp [hl, c0, u_1, k1, c11, c13, c12, g1, g2, hlen, len0]
        exact rd_eq (by simp [g1, g2, k1]) rfl
      · simp [hl, c0, u_1, k1, c11, c13, g1, g2]
        exact rd_eq (by simp [g1, g2]) rfl
    · simp [hl, c0, u_1, k1, c11, g1]
      exact rd_eq (by simp [g1]) rfl
def readyB (o : Opn) : Bool := if o.call.kind = 1#8 then decide (o.base = 0) && decide (o.bytes.l = o.call.bytes.l) else decide (o.call.kind = 2#8) && (decide (0 ≤ o.base) && decide (o.bytes.l.length ≤ 2000))
theorem ready_ok (o : Opn) (ho : okA o.ans) : PureC Try.prog GS 42 [.ag (encO o)] (.bool (readyB o)) := by
  refine pure_of Try.checked.mixed GS_closed ?_
  apply call_intro c42_eq r42_eq
  unfold c42 r42 readyB
  have F := of_O ho
  have hkd := kind_ok o.call
  have hcc := closed_C o.call
  have hlen : lenM (.sl 1) (encBs o.bytes) = some (.int .i64 o.bytes.l.length) := len_encS _
  have hl2 : ((o.bytes.l.length : Int) ≤ 2000) ↔ o.bytes.l.length ≤ 2000 := by omega
  obtain ⟨L, hL⟩ : ∃ L, L = encO o := ⟨_, rfl⟩
  rw [← hL] at F ⊢
  obtain ⟨hl, ⟨_, c0⟩, ⟨_, c1⟩, _, _, _, ⟨_, c11⟩, ⟨_, c12⟩, ⟨_, c13⟩, _, _, t10, _, cl⟩ := F
  simp [hl, t10]
  refine pure_call hkd (by simpa [closedL] using hcc) ?_
  unfold kindI
  have n1 : Nat.beq 87 87 = true := rfl
  by_cases k1 : o.call.kind = 1#8
  · by_cases g1 : o.base = 0
    · simp [k1, tasC, hl, c11, c12, c1, g1]
      refine pure_call (bEqual_ok o.bytes o.call.bytes) (by simp [closedL, closed_Bs]) ?_
      simp
      exact rd_eq (by simp [g1, k1]) rfl
    · simp [k1, tasC, hl, c11, g1]
      exact rd_eq (by simp [g1, k1]) rfl
  · by_cases k2 : o.call.kind = 2#8
    · by_cases g1 : 0 ≤ o.base
      · simp [k2, tasC, hl, c0, u_2, c11, c12, g1, hlen, hl2]
        exact rd_eq (by simp [g1, k2]) rfl
      · simp [k2, tasC, hl, c0, u_2, c11, g1]
        exact rd_eq (by simp [g1, k2]) rfl
    · by_cases k5 : o.call.kind = 5#8
      · simp [k5, tasC]
        exact rd_eq (by simp [k5]) rfl
      · by_cases k6 : o.call.kind = 6#8
        · simp [k6, tasC]
          exact rd_eq (by simp [k6]) rfl
        · simp [k1, k2, k5, k6, tasC, hl, c0, u_2]
          exact rd_eq (by simp [k1, k2]) rfl
theorem built_ok (o : Opn) (ho : okA o.ans) : PureC Try.prog GS 45 [.ag (encO o)] (.bool (readyB o)) := by
  refine pure_of Try.checked.mixed GS_closed ?_
  apply call_intro c45_eq r45_eq
  unfold c45 r45 readyB
  have F := of_O ho
  have hlen : lenM (.sl 1) (encBs o.bytes) = some (.int .i64 o.bytes.l.length) := len_encS _
  have hl2 : ((o.bytes.l.length : Int) ≤ 2000) ↔ o.bytes.l.length ≤ 2000 := by omega
  obtain ⟨L, hL⟩ : ∃ L, L = encO o := ⟨_, rfl⟩
  rw [← hL] at F ⊢
  obtain ⟨hl, ⟨_, c0⟩, ⟨_, c1⟩, _, _, _, ⟨_, c11⟩, ⟨_, c12⟩, ⟨_, c13⟩, _, _, t10, _, cl⟩ := F
  by_cases k1 : o.call.kind = 1#8
  · by_cases g1 : o.base = 0
    · simp [hl, c0, u_1, k1, c11, c12, c1, g1, cbs_Bs, strB_iff]
      exact rd_eq (by simp [g1, k1]) rfl
    · simp [hl, c0, u_1, k1, c11, g1]
      exact rd_eq (by simp [g1, k1]) rfl
  · by_cases k2 : o.call.kind = 2#8
    · by_cases g1 : 0 ≤ o.base
      · simp [k2, hl, c0, u_1, u_2, c11, c12, g1, hlen, hl2]
        exact rd_eq (by simp [g1, k2]) rfl
      · simp [k2, hl, c0, u_1, u_2, c11, g1]
        exact rd_eq (by simp [g1, k2]) rfl
    · simp [k1, k2, hl, c0, u_1, u_2]
      exact rd_eq (by simp [k1, k2]) rfl
def sentB (n : Int) : Bool := decide (0 ≤ n) && decide (n ≤ 1000000000)
theorem sent_ok (n : Int) : PureC Try.prog GS 46 [.int .i64 n] (.bool (sentB n)) := by
  refine pure_of Try.checked.mixed GS_closed ?_
  apply call_intro c46_eq r46_eq
  unfold c46 r46 sentB
  by_cases g1 : 0 ≤ n
  · simp [g1]
    exact rd_eq (by simp [g1]) rfl
  · simp [g1]
    exact rd_eq (by simp [g1]) rfl

/-! answers -/
theorem beq_e8 : ∀ a b : List B, a.length = b.length → beqL (a.map e8) (b.map e8) = decide (a = b)
  | [], [], _ => rfl
  | [], _ :: _, h => by simp at h
  | _ :: _, [], h => by simp at h
  | x :: a, y :: b, h => by
    have ih := beq_e8 a b (by simpa using h)
    simp only [List.map_cons, beqL, ih, CV.beq, decide_true, Bool.true_and]
    by_cases h1 : x = y
    · by_cases h2 : a = b <;> simp [h1, h2]
    · have : ¬ u x = u y := fun h => h1 ((u_inj x y).1 h)
      simp [h1]
theorem okK_e8 : ∀ a : List B, okK (List.replicate a.length (.i .u8)) (a.map e8) = true
  | [] => rfl
  | x :: a => by
    rw [List.length_cons, List.replicate_succ, List.map_cons]
    simp only [okK, okK_e8 a, tkOk, decide_true, Bool.and_self]
theorem kinds_ID : kindsT Try.prog 20 31 = some (List.replicate 32 (.i .u8)) := by kernel_rfl
theorem id_eql {a b : List B} (ha : a.length = 32) (hb : b.length = 32) : binC Try.prog .eql 31 (.ag (a.map e8)) (.ag (b.map e8)) = some (.bool (decide (a = b))) := by
  rw [bin_plain_eql kinds_ID (by kernel_rfl) (by kernel_rfl) (by have := okK_e8 a; rwa [ha] at this) (by have := okK_e8 b; rwa [hb] at this), beq_e8 a b (by omega)]
theorem id_neq {a b : List B} (ha : a.length = 32) (hb : b.length = 32) : binC Try.prog .neq 31 (.ag (a.map e8)) (.ag (b.map e8)) = some (.bool (!decide (a = b))) := by
  rw [bin_plain_neq kinds_ID (by kernel_rfl) (by kernel_rfl) (by have := okK_e8 a; rwa [ha] at this) (by have := okK_e8 b; rwa [hb] at this), beq_e8 a b (by omega)]
def zid : List B := List.replicate 32 0#8
theorem zid_rep : rep 32 (.int .u8 0) = zid.map e8 := rfl
structure AF (M : List CV) (a : Ans) : Prop where
  len : M.length = 41
  c0 : ∃ h : 0 < M.length, M[0]'h = e8 a.verdict
  c33 : ∃ h : 33 < M.length, M[33]'h = .int .i64 a.version
  c34 : ∃ h : 34 < M.length, M[34]'h = .bool a.inn
  c39 : ∃ h : 39 < M.length, M[39]'h = encIds a.heads
  c40 : ∃ h : 40 < M.length, M[40]'h = .int .i64 a.sub
  t1 : M.tail.take 32 = a.id.map e8
  t35 : (M.drop 35).take 4 = encV a.val
  t41 : M.take 41 = M
  cl : closedL M = true
theorem get_An {a : Ans} (h : okA a) (j : Nat) : (encAn a)[33 + j]? = ([CV.int .i64 a.version, .bool a.inn, e8 a.val.kind, .int .i64 a.val.num, e64 a.val.bits, .str a.val.text, encIds a.heads, .int .i64 a.sub] : List CV)[j]? := by
  unfold encAn
  rw [show 33 + j = (32 + j) + 1 by omega, List.getElem?_cons_succ, List.getElem?_append_right (by simp [h.1])]
  simp [h.1]
theorem af_of {a : Ans} (h : okA a) : AF (encAn a) a := by
  have hl := len_An h
  refine ⟨hl, at_of rfl, at_of (get_An h 0), at_of (get_An h 1), at_of (get_An h 6), at_of (get_An h 7), ?_, ?_, List.take_of_length_le (by omega), closed_An a⟩
  · unfold encAn
    rw [List.tail_cons, List.take_append_of_le_length (by simp [h.1]), List.take_of_length_le (by simp [h.1])]
  · unfold encAn
    rw [show (35 : Nat) = 34 + 1 from rfl, List.drop_succ_cons, List.drop_append, List.drop_of_length_le (by simp [h.1])]
    simp [h.1, encV]
def noAns (a : Ans) : Bool := decide (a.verdict = 0#8) && (decide (a.id = zid) && (decide (a.version = 0) && (!a.inn && (isZero a.val && (decide (a.heads.l = []) && decide (a.sub = 0))))))
theorem len0' (s : Ids) : ((s.l.length : Int) = 0) ↔ s.l = [] := by rw [← List.length_eq_zero_iff]; omega
set_option maxHeartbeats 4000000 in
theorem noAnswer_ok (a : Ans) (ha : okA a) : PureC Try.prog GS 47 [.ag (encAn a)] (.bool (noAns a)) := by
  refine pure_of Try.checked.mixed GS_closed ?_
  apply call_intro c47_eq r47_eq
  unfold c47 r47 noAns
  have F := af_of ha
  have hid := id_eql ha.1 (show zid.length = 32 from rfl)
  have hvz := v_zero a.val
  have hev : encV a.val = [e8 a.val.kind, .int .i64 a.val.num, e64 a.val.bits, .str a.val.text] := rfl
  rw [← hev] at hvz
  have hlen : lenM (.sl 32) (encIds a.heads) = some (.int .i64 a.heads.l.length) := len_encS _
  obtain ⟨V, hV⟩ : ∃ V, V = encV a.val := ⟨_, rfl⟩
  obtain ⟨I, hI⟩ : ∃ I, I = a.id.map e8 := ⟨_, rfl⟩
  obtain ⟨Z, hZ⟩ : ∃ Z, Z = zid.map e8 := ⟨_, rfl⟩
  obtain ⟨M, hM⟩ : ∃ M, M = encAn a := ⟨_, rfl⟩
  rw [← hM] at F ⊢
  obtain ⟨hl, ⟨_, c0⟩, ⟨_, c33⟩, ⟨_, c34⟩, ⟨_, c39⟩, ⟨_, c40⟩, t1, t35, _, cl⟩ := F
  rw [← hI] at t1 hid
  rw [← hV] at t35 hvz
  rw [← hZ] at hid
  rw [zid_rep, ← hZ]
  have u0 := u_0 a.verdict
  by_cases g1 : a.verdict = 0#8
  · by_cases g2 : a.id = zid
    · by_cases g3 : a.version = 0
      · cases g4 : a.inn with
        | false =>
          cases g5 : isZero a.val with
          | true =>
            by_cases g6 : a.heads.l = []
            · simp [hl, c0, c33, c34, c39, c40, t1, t35, hid, hvz, hlen, len0', u0, g1, g2, g3, g4, g5, g6]
              exact rd_eq (by simp [g1, g2, g3, g4, g5, g6]) rfl
            · simp [hl, c0, c33, c34, c39, c40, t1, t35, hid, hvz, hlen, len0', u0, g1, g2, g3, g4, g5, g6]
              exact rd_eq (by simp [g1, g2, g3, g4, g5, g6]) rfl
          | false =>
            simp [hl, c0, c33, c34, t1, t35, hid, hvz, u0, g1, g2, g3, g4, g5]
            exact rd_eq (by simp [g1, g2, g3, g4, g5]) rfl
        | true =>
          simp [hl, c0, c33, c34, t1, hid, u0, g1, g2, g3, g4]
          exact rd_eq (by simp [g1, g2, g3, g4]) rfl
      · simp [hl, c0, c33, t1, hid, u0, g1, g2, g3]
        exact rd_eq (by simp [g1, g2, g3]) rfl
    · simp [hl, c0, t1, hid, u0, g1, g2]
      exact rd_eq (by simp [g1, g2]) rfl
  · simp [hl, c0, u0, g1]
    exact rd_eq (by simp [g1]) rfl
end Ca
end Go.CM

/-
  Open calls: Valid, walked in both texts.
-/
namespace Go.CM
open Go Go.Proofs
set_option linter.unusedVariables false
set_option linter.unusedSimpArgs false
set_option maxRecDepth 100000
namespace Ca
open Sha Op

/-- Whether what was done fits the place, but for the call and the answer. -/
def placeB (o : Opn) (fr : Bool) : Bool :=
  if o.at_ = 1#8 then fr
  else if o.at_ = 2#8 then decide (o.call.kind = 2#8) && (readyB o && decide (o.ticket = -1))
  else if o.at_ = 3#8 then readyB o && sentB o.ticket
  else if o.at_ = 4#8 then fr || (readyB o && (decide (o.ticket = -1) || sentB o.ticket))
  else false
def validB (o : Opn) (fr : Bool) : Bool := chkC o.call && (placeB o fr && (decide (o.at_ = 4#8) || noAns o.ans))
theorem fresh_opened {o : Opn} (h : chkC o.call = true) : freshB o = openedB o := by
  unfold freshB openedB
  by_cases k1 : o.call.kind = 1#8
  · simp [k1]
  · have hb : o.call.bytes.l = [] := by
      simp only [chkC, Bool.and_eq_true] at h
      have := h.2.1
      simp only [bareB, Bool.and_eq_true, Bool.or_eq_true, decide_eq_true_eq] at this
      rcases this.1 with h | h
      · exact h
      · exact absurd h k1
    simp [k1, hb]
theorem valid_same (o : Opn) : validB o (freshB o) = validB o (openedB o) := by
  unfold validB
  cases h : chkC o.call with
  | false => rfl
  | true => rw [fresh_opened h]
def Kf : KC := fun _ _ _ => False
theorem run_mid {P : Program} {G : Nat → CV} {a b : Cd} {σ : Sg} {l : Hl} {K : KC} (Q : Sg → Hl → Prop) (h1 : run P G a σ l (kSeq Q Kf)) (h2 : ∀ σ l, Q σ l → run P G b σ l K) : run P G (.seq a b) σ l K := by
  rw [run_seq]
  refine run_mono (fun e σ l h => ?_) h1
  cases e with
  | normal => exact h2 σ l h
  | exit i => cases h
  | ret => cases h
theorem run_as {P : Program} {G : Nat → CV} {a b c : Cd} {σ : Sg} {l : Hl} {K : KC} (h : run P G (.seq (.seq a b) c) σ l K) : run P G (.seq a (.seq b c)) σ l K := by
  rw [run_seq, run_seq] at h
  rw [run_seq]
  refine run_mono (fun e σ l h => ?_) h
  cases e with
  | normal => exact h
  | exit i => exact h
  | ret => exact h
set_option maxHeartbeats 8000000 in
theorem valid_ok (o : Opn) (ho : okA o.ans) : PureC Try.prog GS 32 [.ag (encO o)] (.int .i64 (errB (validB o (freshB o)))) := by
  refine pure_of Try.checked.mixed GS_closed ?_
  apply call_intro c32_eq r32_eq
  unfold c32 r32
  have F := of_O ho
  have G := af_of ho
  have hcl0 := closed_O o
  have hck := check_ok o.call
  have hcc := closed_C o.call
  have hfr := fresh_ok o ho
  have hrd := ready_ok o ho
  have hna : noAns o.ans = (decide (o.ans.verdict = 0#8) && (decide (o.ans.id = zid) && (decide (o.ans.version = 0) && (!o.ans.inn && (isZero o.ans.val && (decide (o.ans.heads.l = []) && decide (o.ans.sub = 0))))))) := rfl
  have hid := id_eql ho.1 (show zid.length = 32 from rfl)
  have hvz := v_zero o.ans.val
  have hev : encV o.ans.val = [e8 o.ans.val.kind, .int .i64 o.ans.val.num, e64 o.ans.val.bits, .str o.ans.val.text] := rfl
  rw [← hev] at hvz
  have hlen : lenM (.sl 32) (encIds o.ans.heads) = some (.int .i64 o.ans.heads.l.length) := len_encS _
  obtain ⟨V, hV⟩ : ∃ V, V = encV o.ans.val := ⟨_, rfl⟩
  obtain ⟨I, hI⟩ : ∃ I, I = o.ans.id.map e8 := ⟨_, rfl⟩
  obtain ⟨Z, hZ⟩ : ∃ Z, Z = zid.map e8 := ⟨_, rfl⟩
  obtain ⟨M, hM⟩ : ∃ M, M = encAn o.ans := ⟨_, rfl⟩
  obtain ⟨C, hC⟩ : ∃ C, C = encC o.call := ⟨_, rfl⟩
  obtain ⟨L, hL⟩ : ∃ L, L = encO o := ⟨_, rfl⟩
  rw [← hC] at hck hcc
  rw [← hL] at F hcl0 hfr hrd ⊢
  rw [← hM] at G
  obtain ⟨hl, ⟨_, k0⟩, _, _, _, ⟨_, k10⟩, _, _, ⟨_, k13⟩, _, t55, t10, t41, cl⟩ := F
  obtain ⟨al, ⟨_, c0⟩, ⟨_, c33⟩, ⟨_, c34⟩, ⟨_, c39⟩, ⟨_, c40⟩, t1, t35, u41, acl⟩ := G
  rw [← hM] at t41
  rw [← hC] at t10
  rw [← hI] at t1 hid
  rw [← hV] at t35 hvz
  rw [← hZ] at hid
  rw [zid_rep, ← hZ]
  have u0 := u_0 o.ans.verdict
  have hLc : closedL [CV.ag L] = true := by simpa [closedL] using hcl0
  have hCc : closedL [CV.ag C] = true := by simpa [closedL] using hcc
  have hsp : splice (rep 33 (CV.int .u8 0) ++ [.int .i64 0, .bool false, .int .u8 0, .int .i64 0, .int .u64 0, .str [], .nilS, .int .i64 0]) 0 M = M := splice_full (by simp [al])
  refine run_as (run_mid (fun σ l => σ 1 = .ptr 0 0 55 ∧ σ 3 = .bool (sentB o.ticket) ∧ l = [.cells 55 L]) ?_ ?_)
  · by_cases tk0 : 0 ≤ o.ticket
    · simp [hl, k13, tk0, sentB]
    · simp [hl, k13, tk0, sentB]
  rintro σ l ⟨g1, g3, rfl⟩
  obtain ⟨σ, rfl⟩ := upds2 g1 g3
  clear g1 g3
  refine run_as (run_mid (fun σ l => σ 1 = .ptr 0 0 55 ∧ σ 4 = .bool (chkC o.call && placeB o (freshB o)) ∧ l = [.cells 55 L]) ?_ ?_)
  · simp [hl, t10]
    refine pure_call hck hCc ?_
    unfold placeB
    obtain ⟨rb, hrb⟩ : ∃ rb, rb = readyB o := ⟨_, rfl⟩
    obtain ⟨fb, hfb⟩ : ∃ fb, fb = freshB o := ⟨_, rfl⟩
    obtain ⟨sb, hsb⟩ : ∃ sb, sb = sentB o.ticket := ⟨_, rfl⟩
    obtain ⟨cb, hcb⟩ : ∃ cb, cb = chkC o.call := ⟨_, rfl⟩
    rw [← hrb, ← hfb, ← hsb, ← hcb]
    rw [← hrb] at hrd
    rw [← hfb] at hfr
    have e0 : (errB cb = 0) = (cb = true) := propext (errB_0 cb)
    by_cases a1 : o.at_ = 1#8
    · simp [e0, hl, t55, k10, u_1, a1]
      cases cb with
      | false => simp [a1]
      | true =>
        simp [a1, hl, t55]
        refine pure_call hfr hLc ?_
        simp [a1]
    · by_cases a2 : o.at_ = 2#8
      · simp [e0, hl, t55, k10, k0, u_1, u_2, a2]
        cases cb with
        | false => simp [a2]
        | true =>
          by_cases k2 : o.call.kind = 2#8
          · simp [a2, k2, hl, k0, u_2, t55]
            refine pure_call hrd hLc ?_
            cases rb <;> simp [a2, hl, k13, k2]
          · simp [a2, k2, hl, k0, u_2]
      · by_cases a3 : o.at_ = 3#8
        · simp [e0, hl, t55, k10, u_1, u_2, u_3, a3]
          cases cb with
          | false => simp [a3]
          | true =>
            simp [a3, hl, t55]
            refine pure_call hrd hLc ?_
            cases rb <;> simp [a3]
        · by_cases a4 : o.at_ = 4#8
          · simp [e0, hl, t55, k10, u_1, u_2, u_3, u_4, a4]
            cases cb with
            | false => simp [a4]
            | true =>
              simp [a4, hl, t55]
              refine pure_call hfr hLc ?_
              cases fb with
              | true => simp [a4]
              | false =>
                simp [a4, hl, t55]
                refine pure_call hrd hLc ?_
                cases rb with
                | false => simp [a4]
                | true => cases sb <;> simp [a4, hl, k13]
          · simp [e0, hl, k10, u_1, u_2, u_3, u_4, a1, a2, a3, a4]
  rintro σ l ⟨g1, g4, rfl⟩
  obtain ⟨σ, rfl⟩ := upds2 g1 g4
  clear g1 g4
  unfold validB
  obtain ⟨ob, hob⟩ : ∃ ob, ob = (chkC o.call && placeB o (freshB o)) := ⟨_, rfl⟩
  have hv : (chkC o.call && (placeB o (freshB o) && (decide (o.at_ = 4#8) || noAns o.ans))) = (ob && (decide (o.at_ = 4#8) || noAns o.ans)) := by rw [hob, Bool.and_assoc]
  rw [← hob, hv]
  refine run_as (run_mid (fun σ l => σ 1 = .ptr 0 0 55 ∧ σ 4 = .bool ob ∧ σ 6 = .bool (noAns o.ans) ∧ ∃ r, l = .cells 55 L :: r) ?_ ?_)
  · rw [hna]
    by_cases g1 : o.ans.verdict = 0#8
    · by_cases g2 : o.ans.id = zid
      · by_cases g3 : o.ans.version = 0
        · cases g4 : o.ans.inn with
          | false =>
            cases g5 : isZero o.ans.val with
            | true =>
              by_cases g6 : o.ans.heads.l = []
              · simp [hl, t41, al, hsp, c0, c33, c34, c39, c40, t1, t35, hid, hvz, hlen, len0', u0, g1, g2, g3, g4, g5, g6]
              · simp [hl, t41, al, hsp, c0, c33, c34, c39, c40, t1, t35, hid, hvz, hlen, len0', u0, g1, g2, g3, g4, g5, g6]
            | false =>
              simp [hl, t41, al, hsp, c0, c33, c34, t1, t35, hid, hvz, u0, g1, g2, g3, g4, g5]
          | true =>
            simp [hl, t41, al, hsp, c0, c33, c34, t1, hid, u0, g1, g2, g3, g4]
        · simp [hl, t41, al, hsp, c0, c33, t1, hid, u0, g1, g2, g3]
      · simp [hl, t41, al, hsp, c0, t1, hid, u0, g1, g2]
    · simp [hl, t41, al, hsp, c0, u0, g1]
  · rintro σ l ⟨g1, g4, g6, r, rfl⟩
    obtain ⟨σ, rfl⟩ := upds3 g1 g4 g6
    clear g1 g4 g6
    obtain ⟨nb, hnb⟩ : ∃ nb, nb = noAns o.ans := ⟨_, rfl⟩
    rw [← hnb]
    cases ob with
    | false =>
      simp
      exact rd_eq rfl rfl
    | true =>
      by_cases a4 : o.at_ = 4#8
      · simp [hl, k10, u_4, a4]
        exact rd_eq rfl rfl
      · cases nb <;> simp [hl, k10, u_4, a4] <;> exact rd_eq rfl rfl
set_option maxHeartbeats 8000000 in
theorem refValid_ok (o : Opn) (ho : okA o.ans) : PureC Try.prog GS 34 [.ag (encO o)] (.int .i64 (errB (validB o (openedB o)))) := by
  refine pure_of Try.checked.mixed GS_closed ?_
  apply call_intro c34_eq r34_eq
  unfold c34 r34
  have F := of_O ho
  have hcl0 := closed_O o
  have hck := refCheck_ok o.call
  have hcc := closed_C o.call
  have hfr := opened_ok o ho
  have hrd := built_ok o ho
  have hna := noAnswer_ok o.ans ho
  have hMc : closedL [CV.ag (encAn o.ans)] = true := by simp [closedL, CV.closed, closed_An]
  obtain ⟨M, hM⟩ : ∃ M, M = encAn o.ans := ⟨_, rfl⟩
  obtain ⟨C, hC⟩ : ∃ C, C = encC o.call := ⟨_, rfl⟩
  obtain ⟨L, hL⟩ : ∃ L, L = encO o := ⟨_, rfl⟩
  rw [← hC] at hck hcc
  rw [← hL] at F hcl0 hfr hrd ⊢
  rw [← hM] at hna hMc
  obtain ⟨hl, ⟨_, k0⟩, _, _, _, ⟨_, k10⟩, _, _, ⟨_, k13⟩, _, t55, t10, t41, cl⟩ := F
  rw [← hM] at t41
  rw [← hC] at t10
  have hLc : closedL [CV.ag L] = true := by simpa [closedL] using hcl0
  have hCc : closedL [CV.ag C] = true := by simpa [closedL] using hcc
  refine run_as (run_as (run_mid (fun σ l => σ 1 = .ptr 0 0 55 ∧ σ 3 = .bool (placeB o (openedB o)) ∧ l = [.cells 55 L]) ?_ ?_))
  · unfold placeB
    obtain ⟨rb, hrb⟩ : ∃ rb, rb = readyB o := ⟨_, rfl⟩
    obtain ⟨fb, hfb⟩ : ∃ fb, fb = openedB o := ⟨_, rfl⟩
    rw [← hrb, ← hfb]
    rw [← hrb] at hrd
    rw [← hfb] at hfr
    by_cases a1 : o.at_ = 1#8
    · simp [hl, t55, k10, u_1, a1]
      refine pure_call hfr hLc ?_
      simp [a1]
    · by_cases a2 : o.at_ = 2#8
      · by_cases k2 : o.call.kind = 2#8
        · simp [hl, t55, k10, k0, u_1, u_2, a2, k2]
          refine pure_call hrd hLc ?_
          cases rb <;> simp [hl, k13, a2, k2]
        · simp [hl, t55, k10, k0, u_1, u_2, a2, k2]
      · by_cases a3 : o.at_ = 3#8
        · simp [hl, t55, k10, u_1, u_2, u_3, a3]
          refine pure_call hrd hLc ?_
          cases rb with
          | false => simp [a3]
          | true =>
            simp [hl, k13, a3]
            refine pure_call (sent_ok o.ticket) rfl ?_
            simp [a3]
        · by_cases a4 : o.at_ = 4#8
          · simp [hl, t55, k10, u_1, u_2, u_3, u_4, a4]
            refine pure_call hfr hLc ?_
            cases fb with
            | true => simp [a4]
            | false =>
              simp [hl, t55, a4]
              refine pure_call hrd hLc ?_
              cases rb with
              | false => simp [a4]
              | true =>
                by_cases tk : o.ticket = -1
                · simp [hl, k13, a4, tk]
                · simp [hl, k13, a4, tk]
                  refine pure_call (sent_ok o.ticket) rfl ?_
                  simp [a4, tk]
          · simp [hl, k10, u_1, u_2, u_3, u_4, a1, a2, a3, a4]
  rintro σ l ⟨g1, g3, rfl⟩
  obtain ⟨σ, rfl⟩ := upds2 g1 g3
  clear g1 g3
  unfold validB
  obtain ⟨nb, hnb⟩ : ∃ nb, nb = noAns o.ans := ⟨_, rfl⟩
  obtain ⟨pb, hpb⟩ : ∃ pb, pb = placeB o (openedB o) := ⟨_, rfl⟩
  obtain ⟨cb, hcb⟩ : ∃ cb, cb = chkC o.call := ⟨_, rfl⟩
  rw [← hnb, ← hpb, ← hcb]
  rw [← hnb] at hna
  rw [← hcb] at hck
  have e0 : (errB cb = 0) = (cb = true) := propext (errB_0 cb)
  simp [hl, t10]
  refine pure_call hck hCc ?_
  cases cb with
  | false =>
    simp [errB]
    exact rd_eq rfl rfl
  | true =>
    cases pb with
    | false =>
      simp [errB]
      exact rd_eq rfl rfl
    | true =>
      by_cases a4 : o.at_ = 4#8
      · simp [hl, k10, u_4, a4, errB]
        exact rd_eq (by simp [a4, errB]) rfl
      · simp [hl, k10, u_4, a4, t41, errB]
        refine pure_call hna hMc ?_
        cases nb <;> simp <;> exact rd_eq (by simp [a4, errB]) rfl
end Ca
end Go.CM

/-
  Open calls: copies, answers, New, Tell, Subscribe, Close: walked in both texts.
-/
namespace Go.CM
open Go Go.Proofs
set_option linter.unusedVariables false
set_option linter.unusedSimpArgs false
set_option maxRecDepth 100000
namespace Ca
open Sha Op

@[simp] theorem cells_ids (s : Ids) : (encIds s).cells = some [encIds s] := cells_encS s
theorem rsl_Bs (a : List B) : CV.rsl 1 (a.map enc8) = encBs (some a) := rfl
theorem nil_B (s : Bs) : binC Try.prog .eql 22 (encBs s) .nilS = some (.bool s.isNone) := bin_nil_eql (e := 5) (by kernel_rfl) 1 enc8 s
theorem nil_I (s : Ids) : binC Try.prog .eql 32 (encIds s) .nilS = some (.bool s.isNone) := bin_nil_eql (e := 31) (by kernel_rfl) 32 eId s
theorem app_bytes {l : Hl} {b : Nat} (s : Bs) (hs : s.l.length ≤ 1000000000) (hb : l[b]? = some (.cells 0 [])) :
    appM l 1 1 (.sl 1 b 0 0 0 0) (encBs s) = some (.sl 1 b 0 s.l.length s.l.length (s.l.length * 1), l.set b (.cells (s.l.length * 1) (s.l.map enc8).flatten)) := by
  have hr : roomMax = 140737488355328 := rfl
  exact app_fresh hb (contents_encS l 1 enc8 s) (by simp) (by omega) (by omega) (by rw [hr]; omega)
theorem app_ids {l : Hl} {b : Nat} (s : Ids) (hs : s.l.length ≤ 1000000000) (hb : l[b]? = some (.cells 0 [])) :
    appM l 32 32 (.sl 32 b 0 0 0 0) (encIds s) = some (.sl 32 b 0 s.l.length s.l.length (s.l.length * 32), l.set b (.cells (s.l.length * 32) (s.l.map eId).flatten)) := by
  have hr : roomMax = 140737488355328 := rfl
  exact app_fresh hb (contents_encS l 32 eId s) (by simp) (by omega) (by omega) (by rw [hr]; omega)
theorem frz_bytes {l : Hl} {b : Nat} {a : List B} {K : CV → Hl → Prop} (hlt : b < l.length) (h : K (encBs (some a)) ((l.set b (.cells (a.length * 1) (a.map enc8).flatten)).set b .dead)) :
    AppK (.sl 1 b 0 a.length a.length (a.length * 1)) (l.set b (.cells (a.length * 1) (a.map enc8).flatten)) (c := ⟨K⟩) :=
  AppK.frz a.length (List.getElem?_set_self hlt) (by simp) (fun e he => by obtain ⟨x, _, rfl⟩ := List.mem_map.1 he; rfl) h
theorem frz_ids {l : Hl} {b : Nat} {a : List (List B)} {K : CV → Hl → Prop} (ha : ∀ i ∈ a, i.length = 32) (hlt : b < l.length) (h : K (encIds (some a)) ((l.set b (.cells (a.length * 32) (a.map eId).flatten)).set b .dead)) :
    AppK (.sl 32 b 0 a.length a.length (a.length * 32)) (l.set b (.cells (a.length * 32) (a.map eId).flatten)) (c := ⟨K⟩) :=
  AppK.frz a.length (List.getElem?_set_self hlt) (by simp) (fun e he => by obtain ⟨x, hx, rfl⟩ := List.mem_map.1 he; simp [eId, ha x hx]) h
theorem bClone_ok (s : Bs) (hs : s.l.length ≤ 1000000000) : PureC Try.prog GS 30 [encBs s] (encBs s) := by
  refine pure_of Try.checked.mixed GS_closed ?_
  apply call_intro c30_eq r30_eq
  unfold c30 r30
  have ha := app_bytes (l := [CB.cells 0 []]) (b := 0) s hs rfl
  simp [nil_B]
  cases s with
  | none =>
    simp
    exact rd_eq rfl rfl
  | some a =>
    simp at ha ⊢
    simp [ha]
    have := @frz_bytes [CB.cells 0 []] 0 a
    simp at this
    refine this ?_
    simp
    exact rd_eq rfl (closed_Bs (some a))
theorem iClone_ok (s : Ids) (ho : okIds s) (hs : s.l.length ≤ 1000000000) : PureC Try.prog GS 31 [encIds s] (encIds s) := by
  refine pure_of Try.checked.mixed GS_closed ?_
  apply call_intro c31_eq r31_eq
  unfold c31 r31
  have ha := app_ids (l := [CB.cells 0 []]) (b := 0) s hs rfl
  simp [nil_I]
  cases s with
  | none =>
    simp
    exact rd_eq rfl rfl
  | some a =>
    simp at ha ⊢
    simp [ha]
    have := fun K h1 h2 => @frz_ids [CB.cells 0 []] 0 a K (fun i hi => ho i hi) h1 h2
    simp at this
    refine this _ ?_
    simp
    exact rd_eq rfl (closed_ids (some a))
theorem splice_same {L : List CV} {k : Nat} {c : CV} (h : L[k]? = some c) : splice L k [c] = L := by
  obtain ⟨h1, h2⟩ := List.getElem?_eq_some_iff.1 h
  unfold splice
  simp only [List.length_cons, List.length_nil, Nat.zero_add]
  rw [← h2, List.append_assoc, List.singleton_append, ← List.drop_eq_getElem_cons h1, List.take_append_drop]
def okO (o : Opn) : Prop := okA o.ans ∧ o.call.bytes.l.length ≤ 2500 ∧ o.bytes.l.length ≤ 2500 ∧ o.ans.heads.l.length ≤ 60
def zeroAns : Ans := ⟨0#8, zid, 0, false, zeroVal, none, 0⟩
def zeroO : Opn := ⟨⟨0#8, none, zeroAct, 0#64, []⟩, 0#8, 0, none, 0, zeroAns⟩
theorem z55 : ([CV.int .u8 0, .nilS, .int .u8 0, .str [], .int .u8 0, .int .i64 0, .int .u64 0, .str [], .int .u64 0, .str [], .int .u8 0, .int .i64 0, .nilS, .int .i64 0] ++ rep 33 (.int .u8 0) ++ [.int .i64 0, .bool false, .int .u8 0, .int .i64 0, .int .u64 0, .str [], .nilS, .int .i64 0]) = encO zeroO := rfl
theorem z41 : (rep 33 (CV.int .u8 0) ++ [.int .i64 0, .bool false, .int .u8 0, .int .i64 0, .int .u64 0, .str [], .nilS, .int .i64 0]) = encAn zeroAns := rfl
theorem okA_zero : okA zeroAns := ⟨rfl, fun i h => by cases h⟩
theorem zl55 : (encO zeroO).length = 55 := len_O okA_zero
set_option maxHeartbeats 4000000 in
theorem clone_ok (o : Opn) (ho : okO o) : PureC Try.prog GS 16 [.ag (encO o)] (.ag (encO o)) := by
  refine pure_of Try.checked.mixed GS_closed ?_
  apply call_intro c16_eq r16_eq
  unfold c16 r16
  have F := of_O ho.1
  have hcl0 := closed_O o
  rw [z55]
  have hZl := zl55
  obtain ⟨Z, hZ⟩ : ∃ Z, Z = encO zeroO := ⟨_, rfl⟩
  rw [← hZ] at hZl ⊢
  obtain ⟨L, hL⟩ : ∃ L, L = encO o := ⟨_, rfl⟩
  rw [← hL] at F hcl0 ⊢
  obtain ⟨hl, _, ⟨q1, c1⟩, _, _, _, _, ⟨q12, c12⟩, _, ⟨q53, c53⟩, t55, _, _, cl⟩ := F
  have s1 := splice_same (List.getElem?_eq_some_iff.2 ⟨q1, c1⟩)
  have s12 := splice_same (List.getElem?_eq_some_iff.2 ⟨q12, c12⟩)
  have s53 := splice_same (List.getElem?_eq_some_iff.2 ⟨q53, c53⟩)
  have hsz : splice Z 0 L = L := splice_full (by omega)
  simp [hl, hZl, c1, c12, c53]
  refine pure_call (bClone_ok o.call.bytes (by have := ho.2.1; omega)) (by simp [closedL, closed_Bs]) ?_
  simp [hl, c12, c53]
  refine pure_call (bClone_ok o.bytes (by have := ho.2.2.1; omega)) (by simp [closedL, closed_Bs]) ?_
  simp [hl, c53]
  refine pure_call (iClone_ok o.ans.heads ho.1.2 (by have := ho.2.2.2; omega)) (by simp [closedL, closed_ids]) ?_
  simp [hl, hZl, s1, s12, s53, hsz, t55]
  exact rd_eq rfl hcl0
def twinO (o : Opn) : Opn := { o with call := { o.call with bytes := some o.call.bytes.l }, bytes := some o.bytes.l, ans := { o.ans with heads := some o.ans.heads.l } }
theorem put1 (o : Opn) (b : Bs) : splice (encO o) 1 [encBs b] = encO { o with call := { o.call with bytes := b } } := rfl
theorem put12 (o : Opn) (b : Bs) : splice (encO o) 12 [encBs b] = encO { o with bytes := b } := rfl
theorem put10 (o : Opn) (k : B) : splice (encO o) 10 [e8 k] = encO { o with at_ := k } := rfl
theorem split53 (o : Opn) (ho : okA o.ans) : ∃ A, A.length = 53 ∧ ∀ h : Ids, encO { o with ans := { o.ans with heads := h } } = A ++ [encIds h, .int .i64 o.ans.sub] := by
  refine ⟨encC o.call ++ ([e8 o.at_, .int .i64 o.base, encBs o.bytes, .int .i64 o.ticket] ++ (e8 o.ans.verdict :: (o.ans.id.map e8 ++ [.int .i64 o.ans.version, .bool o.ans.inn, e8 o.ans.val.kind, .int .i64 o.ans.val.num, e64 o.ans.val.bits, .str o.ans.val.text]))), by simp [encC, ho.1], fun h => by simp [encO, encAn]⟩
theorem put53 (o : Opn) (ho : okA o.ans) (h : Ids) : splice (encO o) 53 [encIds h] = encO { o with ans := { o.ans with heads := h } } := by
  obtain ⟨A, hA, hs⟩ := split53 o ho
  have h1 := hs o.ans.heads
  have h2 : { o with ans := { o.ans with heads := o.ans.heads } } = o := rfl
  rw [h2] at h1
  rw [h1, hs h]
  unfold splice
  rw [List.take_append_of_le_length (by omega), List.take_of_length_le (by omega), List.drop_append, List.drop_of_length_le (by simp; omega)]
  simp [hA]
theorem okA_heads {a : Ans} (h : okA a) : okA { a with heads := some a.heads.l } := ⟨h.1, fun i hi => h.2 i hi⟩
set_option maxHeartbeats 4000000 in
theorem twin_ok (o : Opn) (ho : okO o) : PureC Try.prog GS 17 [.ag (encO o)] (.ag (encO (twinO o))) := by
  refine pure_of Try.checked.mixed GS_closed ?_
  apply call_intro c17_eq r17_eq
  unfold c17 r17
  rw [z55]
  have hZl := zl55
  obtain ⟨Z, hZ⟩ : ∃ Z, Z = encO zeroO := ⟨_, rfl⟩
  rw [← hZ] at hZl ⊢
  have ho1 : okA o.ans := ho.1
  -- three states
  obtain ⟨o1, h1⟩ : ∃ o1 : Opn, o1 = { o with call := { o.call with bytes := some o.call.bytes.l } } := ⟨_, rfl⟩
  obtain ⟨o2, h2⟩ : ∃ o2 : Opn, o2 = { o1 with bytes := some o.bytes.l } := ⟨_, rfl⟩
  have ha1 : o1.ans = o.ans := by rw [h1]
  have ha2 : o2.ans = o.ans := by rw [h2, h1]
  have h3 : twinO o = { o2 with ans := { o2.ans with heads := some o.ans.heads.l } } := by rw [h2, h1]; rfl
  have s1 := put1 o (some o.call.bytes.l)
  have s2 := put12 o1 (some o.bytes.l)
  have s3 := put53 o2 (by rw [ha2]; exact ho1) (some o.ans.heads.l)
  rw [← h1] at s1
  rw [← h2] at s2
  rw [← h3] at s3
  have F0 := of_O ho1
  have F1 := of_O (o := o1) (by rw [ha1]; exact ho1)
  have F2 := of_O (o := o2) (by rw [ha2]; exact ho1)
  have F3 := of_O (o := twinO o) (okA_heads ho1)
  have hcl := closed_O (twinO o)
  have b12 : o1.bytes = o.bytes := by rw [h1]
  have b53 : o2.ans.heads = o.ans.heads := by rw [ha2]
  obtain ⟨L0, e0⟩ : ∃ L, L = encO o := ⟨_, rfl⟩
  obtain ⟨L1, e1⟩ : ∃ L, L = encO o1 := ⟨_, rfl⟩
  obtain ⟨L2, e2⟩ : ∃ L, L = encO o2 := ⟨_, rfl⟩
  obtain ⟨L3, e3⟩ : ∃ L, L = encO (twinO o) := ⟨_, rfl⟩
  rw [← e0] at F0 s1 ⊢
  rw [← e1] at F1 s1 s2
  rw [← e2] at F2 s2 s3
  rw [← e3] at F3 s3 hcl ⊢
  obtain ⟨l0, _, ⟨_, c1⟩, _⟩ := F0
  obtain ⟨l1, _, _, _, _, _, _, ⟨_, c12⟩, _⟩ := F1
  obtain ⟨l2, _, _, _, _, _, _, _, _, ⟨_, c53⟩, _⟩ := F2
  obtain ⟨l3, _, _, _, _, _, _, _, _, _, t55, _⟩ := F3
  rw [b12] at c12
  rw [b53] at c53
  have hsz : splice Z 0 L3 = L3 := splice_full (by omega)
  have p1 := app_bytes (l := [CB.cells 55 L0, CB.cells 55 Z, CB.cells 0 []]) (b := 2) o.call.bytes (by have := ho.2.1; omega) rfl
  simp [l0, hZl, c1, p1]
  have f1 := fun K h => @frz_bytes [CB.cells 55 L0, CB.cells 55 Z, CB.cells 0 []] 2 o.call.bytes.l K (by simp) h
  simp at f1
  refine f1 _ ?_
  have p2 := app_bytes (l := [CB.cells 55 L1, CB.cells 55 Z, CB.dead, CB.cells 0 []]) (b := 3) o.bytes (by have := ho.2.2.1; omega) rfl
  simp [l0, s1, l1, c12, p2]
  have f2 := fun K h => @frz_bytes [CB.cells 55 L1, CB.cells 55 Z, CB.dead, CB.cells 0 []] 3 o.bytes.l K (by simp) h
  simp at f2
  refine f2 _ ?_
  have p3 := app_ids (l := [CB.cells 55 L2, CB.cells 55 Z, CB.dead, CB.dead, CB.cells 0 []]) (b := 4) o.ans.heads (by have := ho.2.2.2; omega) rfl
  simp [l1, s2, l2, c53, p3]
  have f3 := fun K h => @frz_ids [CB.cells 55 L2, CB.cells 55 Z, CB.dead, CB.dead, CB.cells 0 []] 4 o.ans.heads.l K ho1.2 (by simp) h
  simp at f3
  refine f3 _ ?_
  simp [l2, s3, l3, t55, hZl, hsz]
  exact rd_eq rfl hcl

/-! what is asked, and answered -/
theorem great_ok (o : Opn) (ho : okA o.ans) : PureC Try.prog GS 4 [.ag (encO o)] (.bool (decide (2500 < o.call.bytes.l.length) || (decide (2500 < o.bytes.l.length) || (decide (100 < o.call.key.length) || (decide (100 < o.call.act.key.length) || decide (60 < o.ans.heads.l.length)))))) := by
  refine pure_of Try.checked.mixed GS_closed ?_
  apply call_intro c4_eq r4_eq
  unfold c4 r4
  have F := of_O ho
  have n1 : lenM (.sl 1) (encBs o.call.bytes) = some (.int .i64 o.call.bytes.l.length) := len_encS _
  have n2 : lenM (.sl 1) (encBs o.bytes) = some (.int .i64 o.bytes.l.length) := len_encS _
  have n3 : lenM (.sl 32) (encIds o.ans.heads) = some (.int .i64 o.ans.heads.l.length) := len_encS _
  obtain ⟨L, hL⟩ : ∃ L, L = encO o := ⟨_, rfl⟩
  rw [← hL] at F ⊢
  obtain ⟨hl, _, ⟨_, c1⟩, ⟨_, c3⟩, ⟨_, c9⟩, _, _, ⟨_, c12⟩, _, ⟨_, c53⟩, _, _, _, cl⟩ := F
  have b1 : ((2500 : Int) < o.call.bytes.l.length) ↔ 2500 < o.call.bytes.l.length := by omega
  have b2 : ((2500 : Int) < o.bytes.l.length) ↔ 2500 < o.bytes.l.length := by omega
  have b3 : ((100 : Int) < o.call.key.length) ↔ 100 < o.call.key.length := by omega
  have b4 : ((100 : Int) < o.call.act.key.length) ↔ 100 < o.call.act.key.length := by omega
  have b5 : ((60 : Int) < o.ans.heads.l.length) ↔ 60 < o.ans.heads.l.length := by omega
  by_cases g1 : 2500 < o.call.bytes.l.length
  · simp [hl, c1, n1, b1, g1]
    exact rd_eq (by simp [g1]) rfl
  · by_cases g2 : 2500 < o.bytes.l.length
    · simp [hl, c1, n1, b1, g1, c12, n2, b2, g2]
      exact rd_eq (by simp [g2]) rfl
    · by_cases g3 : 100 < o.call.key.length
      · simp [hl, c1, n1, b1, g1, c12, n2, b2, g2, c9, b3, g3]
        exact rd_eq (by simp [g3]) rfl
      · by_cases g4 : 100 < o.call.act.key.length
        · simp [hl, c1, n1, b1, g1, c12, n2, b2, g2, c9, b3, g3, c3, b4, g4]
          exact rd_eq (by simp [g4]) rfl
        · simp [hl, c1, n1, b1, g1, c12, n2, b2, g2, c9, b3, g3, c3, b4, g4, c53, n3, b5]
          exact rd_eq (by simp [g1, g2, g3, g4]) rfl
def askE (o : Opn) (need : B) (v : Bool) : Int := if v then (if needB o = need then 0 else 36) else 8
theorem refNeeds_ok (o : Opn) (ho : okA o.ans) : PureC Try.prog GS 35 [.ag (encO o)] (e8 (needB o)) := by
  refine pure_of Try.checked.mixed GS_closed ?_
  apply call_intro c35_eq r35_eq
  unfold c35 r35 needB firstB
  have F := of_O ho
  obtain ⟨L, hL⟩ : ∃ L, L = encO o := ⟨_, rfl⟩
  rw [← hL] at F ⊢
  obtain ⟨hl, ⟨_, c0⟩, _, _, _, ⟨_, c10⟩, _, _, _, _, _, t10, _, cl⟩ := F
  by_cases k4 : o.at_ = 4#8
  · simp [hl, c10, u_4, k4]
    exact rd_eq (by simp [k4]; rfl) rfl
  · by_cases k3 : o.at_ = 3#8
    · simp [hl, c10, u_4, u_3, k3]
      exact rd_eq (by simp [k3]; rfl) rfl
    · by_cases k2 : o.at_ = 2#8
      · simp [hl, c10, u_4, u_3, u_2, k2]
        exact rd_eq (by simp [k2]; rfl) rfl
      · by_cases j1 : o.call.kind = 1#8
        · simp [hl, c10, c0, u_4, u_3, u_2, u_1, k2, k3, k4, j1]
          exact rd_eq (by simp [k2, k3, k4, j1]; rfl) rfl
        · by_cases j5 : o.call.kind = 5#8
          · simp [hl, c10, c0, u_4, u_3, u_2, u_1, u_5, k2, k3, k4, j5]
            exact rd_eq (by simp [k2, k3, k4, j5]; rfl) rfl
          · by_cases j6 : o.call.kind = 6#8
            · simp [hl, c10, c0, u_4, u_3, u_2, u_1, u_5, u_6, k2, k3, k4, j6]
              exact rd_eq (by simp [k2, k3, k4, j6]; rfl) rfl
            · simp [hl, c10, c0, u_4, u_3, u_2, u_1, u_5, u_6, k2, k3, k4, j1, j5, j6]
              exact rd_eq (by simp [k2, k3, k4, j1, j5, j6]; rfl) rfl
theorem asked_ok (o : Opn) (need : B) (ho : okA o.ans) : PureC Try.prog GS 18 [.ag (encO o), e8 need] (.int .i64 (askE o need (validB o (freshB o)))) := by
  refine pure_of Try.checked.mixed GS_closed ?_
  apply call_intro c18_eq r18_eq
  unfold c18 r18 askE
  have F := of_O ho
  have hv := valid_ok o ho
  have hn := needs_ok o ho
  have hcl0 := closed_O o
  obtain ⟨vb, hvb⟩ : ∃ vb, vb = validB o (freshB o) := ⟨_, rfl⟩
  rw [← hvb] at hv ⊢
  obtain ⟨L, hL⟩ : ∃ L, L = encO o := ⟨_, rfl⟩
  rw [← hL] at F hv hn hcl0 ⊢
  obtain ⟨hl, _, _, _, _, _, _, _, _, _, t55, _, _, cl⟩ := F
  have hLc : closedL [CV.ag L] = true := by simpa [closedL] using hcl0
  simp [hl, t55]
  refine pure_call hv hLc ?_
  cases vb with
  | false =>
    simp [errB]
    exact rd_eq rfl rfl
  | true =>
    simp [errB, hl, t55]
    refine pure_call hn hLc ?_
    by_cases h : needB o = need
    · simp [h]
      exact rd_eq (by simp [h]) rfl
    · simp [h]
      exact rd_eq (by simp [h]) rfl
theorem refAsked_ok (o : Opn) (need : B) (ho : okA o.ans) : PureC Try.prog GS 20 [.ag (encO o), e8 need] (.int .i64 (askE o need (validB o (freshB o)))) := by
  rw [valid_same]
  refine pure_of Try.checked.mixed GS_closed ?_
  apply call_intro c20_eq r20_eq
  unfold c20 r20 askE
  have F := of_O ho
  have hv := refValid_ok o ho
  have hn := refNeeds_ok o ho
  have hcl0 := closed_O o
  obtain ⟨vb, hvb⟩ : ∃ vb, vb = validB o (openedB o) := ⟨_, rfl⟩
  rw [← hvb] at hv ⊢
  obtain ⟨L, hL⟩ : ∃ L, L = encO o := ⟨_, rfl⟩
  rw [← hL] at F hv hn hcl0 ⊢
  obtain ⟨hl, _, _, _, _, _, _, _, _, _, t55, _, _, cl⟩ := F
  have hLc : closedL [CV.ag L] = true := by simpa [closedL] using hcl0
  simp [hl, t55]
  refine pure_call hv hLc ?_
  cases vb with
  | false =>
    simp [errB, hl, t55]
    refine pure_call hv hLc ?_
    simp
    exact rd_eq rfl rfl
  | true =>
    simp [errB, hl, t55]
    refine pure_call hn hLc ?_
    by_cases h : needB o = need
    · simp [h]
      exact rd_eq (by simp [h]) rfl
    · simp [h]
      exact rd_eq (by simp [h]) rfl
def withA (o : Opn) (a : Ans) : Opn := { o with at_ := 4#8, ans := a }
theorem put14 (o : Opn) (a : Ans) (h : okA o.ans) (h2 : okA a) : splice (encO { o with at_ := 4#8 }) 14 (encAn a) = encO (withA o a) := by
  have gen : ∀ X Y M : List CV, X.length = 14 → Y.length = 41 → M.length = 41 → splice (X ++ Y) 14 M = X ++ M := fun X Y M hx hy hm => by
    unfold splice
    rw [List.take_append_of_le_length (by omega), List.take_of_length_le (by omega), List.drop_of_length_le (by rw [List.length_append]; omega), List.append_nil]
  show splice (encC o.call ++ ([e8 (4#8), .int .i64 o.base, encBs o.bytes, .int .i64 o.ticket] ++ encAn o.ans)) 14 (encAn a) = encC o.call ++ ([e8 (4#8), .int .i64 o.base, encBs o.bytes, .int .i64 o.ticket] ++ encAn a)
  rw [← List.append_assoc, ← List.append_assoc]
  exact gen _ _ _ rfl (len_An h) (len_An h2)
set_option maxHeartbeats 4000000 in
theorem answer_ok (o : Opn) (a : Ans) (ho : okO o) (ha : okA a) : PureC Try.prog GS 19 [.ag (encO o), .ag (encAn a)] (.tu [.ag (encO (withA o a)), .int .i64 0]) := by
  refine pure_of Try.checked.mixed GS_closed ?_
  apply call_intro c19_eq r19_eq
  unfold c19 r19
  rw [z55]
  have hZl := zl55
  obtain ⟨Z, hZ⟩ : ∃ Z, Z = encO zeroO := ⟨_, rfl⟩
  rw [← hZ] at hZl ⊢
  have F0 := of_O ho.1
  have F2 := of_O (o := withA o a) ha
  have F1 := len_O (o := { o with at_ := 4#8 }) ho.1
  have A := af_of ha
  have hck := clone_ok o ho
  have hcl0 := closed_O o
  have hcl2 := closed_O (withA o a)
  have s1 := put10 o 4#8
  have s2 := put14 o a ho.1 ha
  obtain ⟨M, hM⟩ : ∃ M, M = encAn a := ⟨_, rfl⟩
  obtain ⟨L0, e0⟩ : ∃ L, L = encO o := ⟨_, rfl⟩
  obtain ⟨L1, e1⟩ : ∃ L, L = encO { o with at_ := 4#8 } := ⟨_, rfl⟩
  obtain ⟨L2, e2⟩ : ∃ L, L = encO (withA o a) := ⟨_, rfl⟩
  rw [← hM] at A s2 ⊢
  rw [← e0] at F0 hck hcl0 s1 ⊢
  rw [← e1] at F1 s1 s2
  rw [← e2] at F2 s2 hcl2 ⊢
  obtain ⟨l0, _, _, _, _, _, _, _, _, _, t0, _⟩ := F0
  obtain ⟨l2, _, _, _, _, _, _, _, _, _, t2, _⟩ := F2
  obtain ⟨lm, _, _, _, _, _, _, _, tm, mcl⟩ := A
  have hz0 : splice L0 0 L0 = L0 := splice_full rfl
  have hz2 : splice Z 0 L2 = L2 := splice_full (by omega)
  have e8_4 : e8 (4#8) = .int .u8 4 := rfl
  rw [e8_4] at s1
  simp [l0, lm, hZl, t0]
  refine pure_call hck (by simpa [closedL] using hcl0) ?_
  simp [l0, lm, tm, hz0, s1, F1, s2, l2, t2, hZl, hz2]
  exact rd_eq rfl (by simpa [CV.closed, closedL] using hcl2)
set_option maxHeartbeats 4000000 in
theorem answered_ok (o : Opn) (a : Ans) (ho : okO o) (ha : okA a) : PureC Try.prog GS 21 [.ag (encO o), .ag (encAn a)] (.tu [.ag (encO (withA (twinO o) a)), .int .i64 0]) := by
  refine pure_of Try.checked.mixed GS_closed ?_
  apply call_intro c21_eq r21_eq
  unfold c21 r21
  rw [z55]
  have hZl := zl55
  obtain ⟨Z, hZ⟩ : ∃ Z, Z = encO zeroO := ⟨_, rfl⟩
  rw [← hZ] at hZl ⊢
  have F := of_O ho.1
  have F0 := of_O (o := twinO o) (okA_heads ho.1)
  have F2 := of_O (o := withA (twinO o) a) ha
  have F1 := len_O (o := { twinO o with at_ := 4#8 }) (okA_heads ho.1)
  have A := af_of ha
  have hck := twin_ok o ho
  have hcl := closed_O o
  have hcl0 := closed_O (twinO o)
  have hcl2 := closed_O (withA (twinO o) a)
  have s1 := put10 (twinO o) 4#8
  have s2 := put14 (twinO o) a (okA_heads ho.1) ha
  obtain ⟨M, hM⟩ : ∃ M, M = encAn a := ⟨_, rfl⟩
  obtain ⟨L, e⟩ : ∃ L, L = encO o := ⟨_, rfl⟩
  obtain ⟨L0, e0⟩ : ∃ L, L = encO (twinO o) := ⟨_, rfl⟩
  obtain ⟨L1, e1⟩ : ∃ L, L = encO { twinO o with at_ := 4#8 } := ⟨_, rfl⟩
  obtain ⟨L2, e2⟩ : ∃ L, L = encO (withA (twinO o) a) := ⟨_, rfl⟩
  rw [← hM] at A s2 ⊢
  rw [← e] at F hck hcl ⊢
  rw [← e0] at F0 hck hcl0 s1
  rw [← e1] at F1 s1 s2
  rw [← e2] at F2 s2 hcl2 ⊢
  obtain ⟨l, _, _, _, _, _, _, _, _, _, t, _⟩ := F
  obtain ⟨l0, _, _, _, _, _, _, _, _, _, t0, _⟩ := F0
  obtain ⟨l2, _, _, _, _, _, _, _, _, _, t2, _⟩ := F2
  obtain ⟨lm, _, _, _, _, _, _, _, tm, mcl⟩ := A
  have hz0 : splice Z 0 L0 = L0 := splice_full (by omega)
  have hz2 : splice Z 0 L2 = L2 := splice_full (by omega)
  have e8_4 : e8 (4#8) = .int .u8 4 := rfl
  rw [e8_4] at s1
  simp [l, lm, hZl, t]
  refine pure_call hck (by simpa [closedL] using hcl) ?_
  simp [l0, lm, tm, hz0, s1, F1, s2, l2, t2, hZl, hz2]
  exact rd_eq rfl (by simpa [CV.closed, closedL] using hcl2)
end Ca
end Go.CM

/-
  Open calls: New, Tell, Subscribe, Close; open calls compared: walked in both texts.
-/
namespace Go.CM
open Go Go.Proofs
set_option linter.unusedVariables false
set_option linter.unusedSimpArgs false
set_option maxRecDepth 100000
namespace Ca
open Sha Op

def newO (c : Call) : Opn := ⟨c, 1#8, 0, c.bytes, -1, zeroAns⟩
theorem bld_new (c : Call) : bldC (encO zeroO) [(0, 10, .ag (encC c)), (10, 1, .int .u8 1), (12, 1, encBs c.bytes), (13, 1, .int .i64 (-1))] = some (encO (newO c)) := by
  have hb : (encBs c.bytes).cells = some [encBs c.bytes] := cells_encS _
  simp only [bldC_cons, cells_ag, cells_int, hb, Option.bind_some, bldC_nil]
  rfl
set_option maxHeartbeats 4000000 in
theorem new_ok (c : Call) (hc : c.bytes.l.length ≤ 2500) : PureC Try.prog GS 5 [.ag (encC c)] (.tu [.ag (encO (if chkC c then newO c else zeroO)), .int .i64 (errB (chkC c))]) := by
  refine pure_of Try.checked.mixed GS_closed ?_
  apply call_intro c5_eq r5_eq
  unfold c5 r5
  rw [z55]
  have hbn := bld_new c
  have hZ0 := of_O (o := zeroO) okA_zero
  have hzc := closed_O zeroO
  have F := of_O (o := newO c) okA_zero
  have hnc := closed_O (newO c)
  have hck := check_ok c
  have hcc := closed_C c
  have hcn := clone_ok (newO c) ⟨okA_zero, hc, hc, by show 0 ≤ 60; omega⟩
  have hC10 : (encC c).length = 10 := rfl
  have hC1 : (encC c)[1]? = some (encBs c.bytes) := rfl
  have hCt : (encC c).take 10 = encC c := rfl
  obtain ⟨h1, hC1'⟩ := List.getElem?_eq_some_iff.1 hC1
  clear hC1
  obtain ⟨cb, hcb⟩ : ∃ cb, cb = chkC c := ⟨_, rfl⟩
  rw [← hcb] at hck ⊢
  obtain ⟨Z, hZ⟩ : ∃ Z, Z = encO zeroO := ⟨_, rfl⟩
  obtain ⟨N, hN⟩ : ∃ N, N = encO (newO c) := ⟨_, rfl⟩
  rw [← hZ] at hZ0 hbn hzc ⊢
  rw [← hN] at F hbn hnc hcn
  obtain ⟨C, hC⟩ : ∃ C, C = encC c := ⟨_, rfl⟩
  have hCC : ∃ h : 1 < C.length, C[1]'h = encBs c.bytes := by rw [hC]; exact ⟨h1, hC1'⟩
  clear hC1'
  rw [← hC] at hbn hck hcc hC10 hCt ⊢
  obtain ⟨_, c1⟩ := hCC
  obtain ⟨zl, _, _, _, _, _, _, _, _, _, zt, _⟩ := hZ0
  obtain ⟨nl, _, _, _, _, _, _, _, _, _, nt, _⟩ := F
  have hs1 : splice Z 0 Z = Z := splice_full rfl
  have hs2 : splice Z 0 N = N := splice_full (by omega)
  simp [hC10, zl, hCt]
  refine pure_call hck (by simpa [closedL] using hcc) ?_
  cases cb with
  | false =>
    simp [errB, hC10, zl, zt, hs1]
    show Rd _ _ (.tu [.ag (encO zeroO), .int .i64 8])
    rw [← hZ]
    exact rd_eq rfl (by simpa [CV.closed, closedL] using hzc)
  | true =>
    simp [errB, hC10, zl, c1, hCt, hbn, -bldC_cons]
    refine pure_call hcn (by simpa [closedL] using hnc) ?_
    simp [zl, nl, nt, hs2]
    show Rd _ _ (.tu [.ag (encO (newO c)), .int .i64 0])
    rw [← hN]
    exact rd_eq rfl (by simpa [CV.closed, closedL] using hnc)
set_option maxHeartbeats 4000000 in
theorem refNew_ok (c : Call) (hc : c.bytes.l.length ≤ 2500) : PureC Try.prog GS 6 [.ag (encC c)] (.tu [.ag (encO (if chkC c then twinO (newO c) else zeroO)), .int .i64 (errB (chkC c))]) := by
  refine pure_of Try.checked.mixed GS_closed ?_
  apply call_intro c6_eq r6_eq
  unfold c6 r6
  rw [z55]
  have hbn := bld_new c
  have hZ0 := of_O (o := zeroO) okA_zero
  have hzc := closed_O zeroO
  have F := of_O (o := twinO (newO c)) (okA_heads okA_zero)
  have hnc := closed_O (twinO (newO c))
  have hnc0 := closed_O (newO c)
  have hck := refCheck_ok c
  have hcc := closed_C c
  have hcn := twin_ok (newO c) ⟨okA_zero, hc, hc, by show 0 ≤ 60; omega⟩
  have hC10 : (encC c).length = 10 := rfl
  have hC1 : (encC c)[1]? = some (encBs c.bytes) := rfl
  have hCt : (encC c).take 10 = encC c := rfl
  obtain ⟨h1, hC1'⟩ := List.getElem?_eq_some_iff.1 hC1
  clear hC1
  obtain ⟨cb, hcb⟩ : ∃ cb, cb = chkC c := ⟨_, rfl⟩
  rw [← hcb] at hck ⊢
  obtain ⟨Z, hZ⟩ : ∃ Z, Z = encO zeroO := ⟨_, rfl⟩
  obtain ⟨N0, hN0⟩ : ∃ N, N = encO (newO c) := ⟨_, rfl⟩
  obtain ⟨N, hN⟩ : ∃ N, N = encO (twinO (newO c)) := ⟨_, rfl⟩
  rw [← hZ] at hZ0 hbn hzc ⊢
  rw [← hN0] at hbn hcn hnc0
  rw [← hN] at F hnc hcn
  obtain ⟨C, hC⟩ : ∃ C, C = encC c := ⟨_, rfl⟩
  have hCC : ∃ h : 1 < C.length, C[1]'h = encBs c.bytes := by rw [hC]; exact ⟨h1, hC1'⟩
  clear hC1'
  rw [← hC] at hbn hck hcc hC10 hCt ⊢
  obtain ⟨_, c1⟩ := hCC
  obtain ⟨zl, _, _, _, _, _, _, _, _, _, zt, _⟩ := hZ0
  obtain ⟨nl, _, _, _, _, _, _, _, _, _, nt, _⟩ := F
  have hs1 : splice Z 0 Z = Z := splice_full rfl
  have hs2 : splice Z 0 N = N := splice_full (by omega)
  simp [hC10, zl, hCt]
  refine pure_call hck (by simpa [closedL] using hcc) ?_
  cases cb with
  | false =>
    simp [errB, hC10, zl, zt, hCt]
    refine pure_call hck (by simpa [closedL] using hcc) ?_
    simp [errB, hC10, zl, zt, hs1]
    show Rd _ _ (.tu [.ag (encO zeroO), .int .i64 8])
    rw [← hZ]
    exact rd_eq rfl (by simpa [CV.closed, closedL] using hzc)
  | true =>
    simp [errB, hC10, zl, c1, hCt, hbn, -bldC_cons]
    refine pure_call hcn (by simpa [closedL] using hnc0) ?_
    simp [zl, nl, nt, hs2]
    show Rd _ _ (.tu [.ag (encO (twinO (newO c))), .int .i64 0])
    rw [← hN]
    exact rd_eq rfl (by simpa [CV.closed, closedL] using hnc)

/-! Tell, Subscribe, Close -/
def tellA (v : B) (id : List B) (n : Int) : Ans := ⟨v, id, n, false, zeroVal, none, 0⟩
def subA (s n : Int) : Ans := ⟨0#8, zid, n, false, zeroVal, none, s⟩
theorem zl41 : (encAn zeroAns).length = 41 := len_An okA_zero
theorem bld_sub (s n : Int) : bldC (encAn zeroAns) [(40, 1, .int .i64 s), (33, 1, .int .i64 n)] = some (encAn (subA s n)) := by
  simp only [bldC_cons, cells_ag, cells_int, Option.bind_some, bldC_nil]
  rfl
theorem bld_close (n : Int) : bldC (encAn zeroAns) [(33, 1, .int .i64 n)] = some (encAn (subA 0 n)) := by
  simp only [bldC_cons, cells_ag, cells_int, Option.bind_some, bldC_nil]
  rfl
theorem bld_tell (v : B) (id : List B) (n : Int) (hid : id.length = 32) : bldC (encAn zeroAns) [(0, 1, e8 v), (1, 32, .ag (id.map e8)), (33, 1, .int .i64 n)] = some (encAn (tellA v id n)) := by
  have s1 : splice (encAn zeroAns) 0 [e8 v] = e8 v :: (zid.map e8 ++ [.int .i64 0, .bool false, .int .u8 0, .int .i64 0, .int .u64 0, .str [], .nilS, .int .i64 0]) := rfl
  have hz : (zid.map e8).length = 32 := rfl
  have s2 : splice (e8 v :: (zid.map e8 ++ [.int .i64 0, .bool false, .int .u8 0, .int .i64 0, .int .u64 0, .str [], .nilS, .int .i64 0])) 1 (id.map e8) = e8 v :: (id.map e8 ++ [.int .i64 0, .bool false, .int .u8 0, .int .i64 0, .int .u64 0, .str [], .nilS, .int .i64 0]) := by
    unfold splice
    rw [List.length_map, hid]
    simp [zid]
  have s3 : splice (e8 v :: (id.map e8 ++ [.int .i64 0, .bool false, .int .u8 0, .int .i64 0, .int .u64 0, .str [], .nilS, .int .i64 0])) 33 [.int .i64 n] = encAn (tellA v id n) := by
    unfold splice
    simp only [List.length_cons, List.length_nil]
    rw [show (33 : Nat) = 32 + 1 from rfl, List.take_succ_cons, List.take_append_of_le_length (by simp [hid]), List.take_of_length_le (by simp [hid]), show 32 + 1 + (0 + 1) = 33 + 1 from rfl, List.drop_succ_cons, List.drop_append, List.drop_of_length_le (by simp [hid])]
    simp [hid, encAn, tellA, zeroVal]
    rfl
  rw [bldC_cons]
  show (if [e8 v].length = 1 ∧ 0 + 1 ≤ (encAn zeroAns).length then _ else none) = _
  rw [if_pos ⟨rfl, by rw [zl41]; omega⟩, s1, bldC_cons]
  show (if (id.map e8).length = 32 ∧ _ then _ else none) = _
  rw [if_pos ⟨by simp [hid], by simp [zid]⟩, s2, bldC_cons]
  show (if [CV.int .i64 n].length = 1 ∧ _ then _ else none) = _
  rw [if_pos ⟨rfl, by simp [hid]⟩, s3, bldC_nil]
def tellE (o : Opn) (need : B) (bad : Bool) : Int := match askE o need (validB o (freshB o)) with
  | 0 => if bad then 2 else 0
  | e => e
def tellO (o : Opn) (need : B) (bad : Bool) (a : Ans) : Opn := if tellE o need bad = 0 then withA o a else zeroO
def tellR (o : Opn) (need : B) (bad : Bool) (a : Ans) : Opn := if tellE o need bad = 0 then withA (twinO o) a else zeroO
theorem okA_sub (s n : Int) : okA (subA s n) := ⟨rfl, fun i h => by cases h⟩
theorem ask_cases (o : Opn) (need : B) : askE o need (validB o (freshB o)) = 0 ∨ askE o need (validB o (freshB o)) = 8 ∨ askE o need (validB o (freshB o)) = 36 := by
  unfold askE
  split
  · split
    · exact .inl rfl
    · exact .inr (.inr rfl)
  · exact .inr (.inl rfl)
set_option maxHeartbeats 4000000 in
theorem close_ok (o : Opn) (n : Int) (ho : okO o) : PureC Try.prog GS 11 [.ag (encO o), .int .i64 n] (.tu [.ag (encO (tellO o 4#8 (decide (n < 0)) (subA 0 n))), .int .i64 (tellE o 4#8 (decide (n < 0)))]) := by
  refine pure_of Try.checked.mixed GS_closed ?_
  apply call_intro c11_eq r11_eq
  unfold c11 r11
  rw [z55, z41]
  have hbn := bld_close n
  have hZ0 := of_O (o := zeroO) okA_zero
  have hzc := closed_O zeroO
  have F := of_O (o := o) ho.1
  have hoc := closed_O o
  have hask := asked_ok o 4#8 ho.1
  have e84 : e8 (4#8) = .int .u8 4 := rfl
  rw [e84] at hask
  have hans := answer_ok o (subA 0 n) ho (okA_sub 0 n)
  have hac : (CV.ag (encAn (subA 0 n))).closed = true := closed_An _
  have W := of_O (o := withA o (subA 0 n)) (okA_sub 0 n)
  have hwc := closed_O (withA o (subA 0 n))
  obtain ⟨Z4, hZ4⟩ : ∃ Z, Z = encAn zeroAns := ⟨_, rfl⟩
  obtain ⟨Z, hZ⟩ : ∃ Z, Z = encO zeroO := ⟨_, rfl⟩
  obtain ⟨L, hL⟩ : ∃ N, N = encO o := ⟨_, rfl⟩
  obtain ⟨M, hM⟩ : ∃ N, N = encAn (subA 0 n) := ⟨_, rfl⟩
  obtain ⟨R, hR⟩ : ∃ N, N = encO (withA o (subA 0 n)) := ⟨_, rfl⟩
  rw [← hZ4] at hbn ⊢
  rw [← hZ] at hZ0 hzc ⊢
  rw [← hL] at F hoc hask hans ⊢
  rw [← hM] at hbn hans hac
  rw [← hR] at hans W hwc
  obtain ⟨zl, _, _, _, _, _, _, _, _, _, zt, _⟩ := hZ0
  obtain ⟨ll, _, _, _, _, _, _, _, _, _, lt, _⟩ := F
  obtain ⟨rl, _, _, _, _, _, _, _, _, _, rt, _⟩ := W
  have hs1 : splice Z 0 Z = Z := splice_full rfl
  have hs2 : splice Z 0 R = R := splice_full (by omega)
  simp [ll, zl, lt]
  refine pure_call hask (by simpa [closedL, CV.closed] using hoc) ?_
  unfold tellO tellE
  rcases ask_cases o 4#8 with h | h | h
  · rw [h]
    by_cases g : n < 0
    · have hb : (decide (n < 0)) = true := by simp [g]
      rw [hb]
      simp [ll, zl, hs1, zt, g]
      show Rd _ _ (.tu [.ag (encO zeroO), .int .i64 2])
      rw [← hZ]
      exact rd_eq rfl (by simpa [CV.closed, closedL] using hzc)
    · have hb : (decide (n < 0)) = false := by simp [g]
      rw [hb]
      simp [ll, zl, lt, hbn, -bldC_cons, g]
      refine pure_call hans (by simp [closedL, hac]; simpa [CV.closed] using hoc) ?_
      simp [zl, rl, rt, hs2]
      show Rd _ _ (.tu [.ag (encO (withA o (subA 0 n))), .int .i64 0])
      rw [← hR]
      exact rd_eq rfl (by simpa [CV.closed, closedL] using hwc)
  · rw [h]
    simp [ll, zl, hs1, zt]
    rw [← hZ]
    exact rd_eq rfl (by simpa [CV.closed, closedL] using hzc)
  · rw [h]
    simp [ll, zl, hs1, zt]
    rw [← hZ]
    exact rd_eq rfl (by simpa [CV.closed, closedL] using hzc)
set_option maxHeartbeats 4000000 in
theorem sub_ok2 (o : Opn) (s n : Int) (ho : okO o) : PureC Try.prog GS 9 [.ag (encO o), .int .i64 s, .int .i64 n] (.tu [.ag (encO (tellO o 3#8 (decide (s < -1) || (decide (60 ≤ s) || decide (n < 0))) (subA s n))), .int .i64 (tellE o 3#8 (decide (s < -1) || (decide (60 ≤ s) || decide (n < 0))))]) := by
  refine pure_of Try.checked.mixed GS_closed ?_
  apply call_intro c9_eq r9_eq
  unfold c9 r9
  rw [z55, z41]
  have hbn := bld_sub s n
  have hZ0 := of_O (o := zeroO) okA_zero
  have hzc := closed_O zeroO
  have F := of_O (o := o) ho.1
  have hoc := closed_O o
  have hask := asked_ok o 3#8 ho.1
  have e84 : e8 (3#8) = .int .u8 3 := rfl
  rw [e84] at hask
  have hans := answer_ok o (subA s n) ho (okA_sub s n)
  have hac : (CV.ag (encAn (subA s n))).closed = true := closed_An _
  have W := of_O (o := withA o (subA s n)) (okA_sub s n)
  have hwc := closed_O (withA o (subA s n))
  obtain ⟨Z4, hZ4⟩ : ∃ Z, Z = encAn zeroAns := ⟨_, rfl⟩
  obtain ⟨Z, hZ⟩ : ∃ Z, Z = encO zeroO := ⟨_, rfl⟩
  obtain ⟨L, hL⟩ : ∃ N, N = encO o := ⟨_, rfl⟩
  obtain ⟨M, hM⟩ : ∃ N, N = encAn (subA s n) := ⟨_, rfl⟩
  obtain ⟨R, hR⟩ : ∃ N, N = encO (withA o (subA s n)) := ⟨_, rfl⟩
  rw [← hZ4] at hbn ⊢
  rw [← hZ] at hZ0 hzc ⊢
  rw [← hL] at F hoc hask hans ⊢
  rw [← hM] at hbn hans hac
  rw [← hR] at hans W hwc
  obtain ⟨zl, _, _, _, _, _, _, _, _, _, zt, _⟩ := hZ0
  obtain ⟨ll, _, _, _, _, _, _, _, _, _, lt, _⟩ := F
  obtain ⟨rl, _, _, _, _, _, _, _, _, _, rt, _⟩ := W
  have hs1 : splice Z 0 Z = Z := splice_full rfl
  have hs2 : splice Z 0 R = R := splice_full (by omega)
  simp [ll, zl, lt]
  refine pure_call hask (by simpa [closedL, CV.closed] using hoc) ?_
  unfold tellO tellE
  rcases ask_cases o 3#8 with h | h | h
  · rw [h]
    by_cases g1 : s < -1
    · have hb : (decide (s < -1) || (decide (60 ≤ s) || decide (n < 0))) = true := by simp [g1]
      rw [hb]
      simp [ll, zl, hs1, zt, g1]
      show Rd _ _ (.tu [.ag (encO zeroO), .int .i64 2])
      rw [← hZ]
      exact rd_eq rfl (by simpa [CV.closed, closedL] using hzc)
    · by_cases g2 : 60 ≤ s
      · have hb : (decide (s < -1) || (decide (60 ≤ s) || decide (n < 0))) = true := by simp [g2]
        rw [hb]
        simp [ll, zl, hs1, zt, g1, g2]
        show Rd _ _ (.tu [.ag (encO zeroO), .int .i64 2])
        rw [← hZ]
        exact rd_eq rfl (by simpa [CV.closed, closedL] using hzc)
      · by_cases g3 : n < 0
        · have hb : (decide (s < -1) || (decide (60 ≤ s) || decide (n < 0))) = true := by simp [g3]
          rw [hb]
          simp [ll, zl, hs1, zt, g1, g2, g3]
          show Rd _ _ (.tu [.ag (encO zeroO), .int .i64 2])
          rw [← hZ]
          exact rd_eq rfl (by simpa [CV.closed, closedL] using hzc)
        · have hb : (decide (s < -1) || (decide (60 ≤ s) || decide (n < 0))) = false := by simp [g1, g2, g3]
          rw [hb]
          simp [ll, zl, lt, hbn, -bldC_cons, g1, g2, g3]
          refine pure_call hans (by simp [closedL, hac]; simpa [CV.closed] using hoc) ?_
          simp [zl, rl, rt, hs2]
          show Rd _ _ (.tu [.ag (encO (withA o (subA s n))), .int .i64 0])
          rw [← hR]
          exact rd_eq rfl (by simpa [CV.closed, closedL] using hwc)
  · rw [h]
    simp [ll, zl, hs1, zt]
    rw [← hZ]
    exact rd_eq rfl (by simpa [CV.closed, closedL] using hzc)
  · rw [h]
    simp [ll, zl, hs1, zt]
    rw [← hZ]
    exact rd_eq rfl (by simpa [CV.closed, closedL] using hzc)
set_option maxHeartbeats 4000000 in
theorem tell_ok (o : Opn) (v : B) (id : List B) (n : Int) (hid : id.length = 32) (ho : okO o) : PureC Try.prog GS 7 [.ag (encO o), e8 v, .ag (id.map e8), .int .i64 n] (.tu [.ag (encO (tellO o 5#8 (decide (v.toNat < 1) || (decide (9 < v.toNat) || decide (n < 0))) (tellA v id n))), .int .i64 (tellE o 5#8 (decide (v.toNat < 1) || (decide (9 < v.toNat) || decide (n < 0))))]) := by
  refine pure_of Try.checked.mixed GS_closed ?_
  apply call_intro c7_eq r7_eq
  unfold c7 r7
  rw [z55, z41]
  have hbn := bld_tell v id n hid
  have hZ0 := of_O (o := zeroO) okA_zero
  have hzc := closed_O zeroO
  have F := of_O (o := o) ho.1
  have hoc := closed_O o
  have hask := asked_ok o 5#8 ho.1
  have e84 : e8 (5#8) = .int .u8 5 := rfl
  rw [e84] at hask
  have hans := answer_ok o (tellA v id n) ho (⟨hid, fun i h => by cases h⟩)
  have hac : (CV.ag (encAn (tellA v id n))).closed = true := closed_An _
  have W := of_O (o := withA o (tellA v id n)) (⟨hid, fun i h => by cases h⟩)
  have hwc := closed_O (withA o (tellA v id n))
  obtain ⟨I, hI⟩ : ∃ I, I = id.map e8 := ⟨_, rfl⟩
  have il : I.length = 32 := by rw [hI, List.length_map, hid]
  have it : I.take 32 = I := List.take_of_length_le (by omega)
  rw [← hI] at hbn ⊢
  obtain ⟨Z4, hZ4⟩ : ∃ Z, Z = encAn zeroAns := ⟨_, rfl⟩
  obtain ⟨Z, hZ⟩ : ∃ Z, Z = encO zeroO := ⟨_, rfl⟩
  obtain ⟨L, hL⟩ : ∃ N, N = encO o := ⟨_, rfl⟩
  obtain ⟨M, hM⟩ : ∃ N, N = encAn (tellA v id n) := ⟨_, rfl⟩
  obtain ⟨R, hR⟩ : ∃ N, N = encO (withA o (tellA v id n)) := ⟨_, rfl⟩
  rw [← hZ4] at hbn ⊢
  rw [← hZ] at hZ0 hzc ⊢
  rw [← hL] at F hoc hask hans ⊢
  rw [← hM] at hbn hans hac
  rw [← hR] at hans W hwc
  obtain ⟨zl, _, _, _, _, _, _, _, _, _, zt, _⟩ := hZ0
  obtain ⟨ll, _, _, _, _, _, _, _, _, _, lt, _⟩ := F
  obtain ⟨rl, _, _, _, _, _, _, _, _, _, rt, _⟩ := W
  have hs1 : splice Z 0 Z = Z := splice_full rfl
  have hs2 : splice Z 0 R = R := splice_full (by omega)
  simp [ll, zl, lt, il, it]
  refine pure_call hask (by simpa [closedL, CV.closed] using hoc) ?_
  unfold tellO tellE
  rcases ask_cases o 5#8 with h | h | h
  · rw [h]
    have k1 : ((u v : Int) < 1) ↔ v.toNat < 1 := by unfold u; omega
    have k2 : ((9 : Int) < u v) ↔ 9 < v.toNat := by unfold u; omega
    by_cases g1 : v.toNat < 1
    · have hb : (decide (v.toNat < 1) || (decide (9 < v.toNat) || decide (n < 0))) = true := by simp [g1]
      rw [hb]
      simp [ll, zl, hs1, zt, il, it, k1, k2, g1]
      show Rd _ _ (.tu [.ag (encO zeroO), .int .i64 2])
      rw [← hZ]
      exact rd_eq rfl (by simpa [CV.closed, closedL] using hzc)
    · by_cases g2 : 9 < v.toNat
      · have hb : (decide (v.toNat < 1) || (decide (9 < v.toNat) || decide (n < 0))) = true := by simp [g2]
        rw [hb]
        simp [ll, zl, hs1, zt, il, it, k1, k2, g1, g2]
        show Rd _ _ (.tu [.ag (encO zeroO), .int .i64 2])
        rw [← hZ]
        exact rd_eq rfl (by simpa [CV.closed, closedL] using hzc)
      · by_cases g3 : n < 0
        · have hb : (decide (v.toNat < 1) || (decide (9 < v.toNat) || decide (n < 0))) = true := by simp [g3]
          rw [hb]
          simp [ll, zl, hs1, zt, il, it, k1, k2, g1, g2, g3]
          show Rd _ _ (.tu [.ag (encO zeroO), .int .i64 2])
          rw [← hZ]
          exact rd_eq rfl (by simpa [CV.closed, closedL] using hzc)
        · have hb : (decide (v.toNat < 1) || (decide (9 < v.toNat) || decide (n < 0))) = false := by simp [g1, g2, g3]
          rw [hb]
          simp [ll, zl, lt, hbn, -bldC_cons, il, it, k1, k2, g1, g2, g3]
          refine pure_call hans (by simp [closedL, hac]; simpa [CV.closed] using hoc) ?_
          simp [zl, rl, rt, hs2]
          show Rd _ _ (.tu [.ag (encO (withA o (tellA v id n))), .int .i64 0])
          rw [← hR]
          exact rd_eq rfl (by simpa [CV.closed, closedL] using hwc)
  · rw [h]
    simp [ll, zl, hs1, zt, il, it]
    rw [← hZ]
    exact rd_eq rfl (by simpa [CV.closed, closedL] using hzc)
  · rw [h]
    simp [ll, zl, hs1, zt, il, it]
    rw [← hZ]
    exact rd_eq rfl (by simpa [CV.closed, closedL] using hzc)
set_option maxHeartbeats 4000000 in
theorem closeref_ok (o : Opn) (n : Int) (ho : okO o) : PureC Try.prog GS 12 [.ag (encO o), .int .i64 n] (.tu [.ag (encO (tellR o 4#8 (decide (n < 0)) (subA 0 n))), .int .i64 (tellE o 4#8 (decide (n < 0)))]) := by
  refine pure_of Try.checked.mixed GS_closed ?_
  apply call_intro c12_eq r12_eq
  unfold c12 r12
  rw [z55, z41]
  have hbn := bld_close n
  have hZ0 := of_O (o := zeroO) okA_zero
  have hzc := closed_O zeroO
  have F := of_O (o := o) ho.1
  have hoc := closed_O o
  have hask := refAsked_ok o 4#8 ho.1
  have e84 : e8 (4#8) = .int .u8 4 := rfl
  rw [e84] at hask
  have hans := answered_ok o (subA 0 n) ho (okA_sub 0 n)
  have hac : (CV.ag (encAn (subA 0 n))).closed = true := closed_An _
  have W := of_O (o := withA (twinO o) (subA 0 n)) (okA_sub 0 n)
  have hwc := closed_O (withA (twinO o) (subA 0 n))
  obtain ⟨Z4, hZ4⟩ : ∃ Z, Z = encAn zeroAns := ⟨_, rfl⟩
  obtain ⟨Z, hZ⟩ : ∃ Z, Z = encO zeroO := ⟨_, rfl⟩
  obtain ⟨L, hL⟩ : ∃ N, N = encO o := ⟨_, rfl⟩
  obtain ⟨M, hM⟩ : ∃ N, N = encAn (subA 0 n) := ⟨_, rfl⟩
  obtain ⟨R, hR⟩ : ∃ N, N = encO (withA (twinO o) (subA 0 n)) := ⟨_, rfl⟩
  rw [← hZ4] at hbn ⊢
  rw [← hZ] at hZ0 hzc ⊢
  rw [← hL] at F hoc hask hans ⊢
  rw [← hM] at hbn hans hac
  rw [← hR] at hans W hwc
  obtain ⟨zl, _, _, _, _, _, _, _, _, _, zt, _⟩ := hZ0
  obtain ⟨ll, _, _, _, _, _, _, _, _, _, lt, _⟩ := F
  obtain ⟨rl, _, _, _, _, _, _, _, _, _, rt, _⟩ := W
  have hs1 : splice Z 0 Z = Z := splice_full rfl
  have hs2 : splice Z 0 R = R := splice_full (by omega)
  simp [ll, zl, lt]
  refine pure_call hask (by simpa [closedL, CV.closed] using hoc) ?_
  unfold tellR tellE
  rcases ask_cases o 4#8 with h | h | h
  · rw [h]
    by_cases g : n < 0
    · have hb : (decide (n < 0)) = true := by simp [g]
      rw [hb]
      simp [ll, zl, hs1, zt, g]
      show Rd _ _ (.tu [.ag (encO zeroO), .int .i64 2])
      rw [← hZ]
      exact rd_eq rfl (by simpa [CV.closed, closedL] using hzc)
    · have hb : (decide (n < 0)) = false := by simp [g]
      rw [hb]
      simp [ll, zl, lt, hbn, -bldC_cons, g]
      refine pure_call hans (by simp [closedL, hac]; simpa [CV.closed] using hoc) ?_
      simp [zl, rl, rt, hs2]
      show Rd _ _ (.tu [.ag (encO (withA (twinO o) (subA 0 n))), .int .i64 0])
      rw [← hR]
      exact rd_eq rfl (by simpa [CV.closed, closedL] using hwc)
  · rw [h]
    simp [ll, zl, hs1, zt]
    rw [← hZ]
    exact rd_eq rfl (by simpa [CV.closed, closedL] using hzc)
  · rw [h]
    simp [ll, zl, hs1, zt]
    rw [← hZ]
    exact rd_eq rfl (by simpa [CV.closed, closedL] using hzc)
set_option maxHeartbeats 4000000 in
theorem subref_ok2 (o : Opn) (s n : Int) (ho : okO o) : PureC Try.prog GS 10 [.ag (encO o), .int .i64 s, .int .i64 n] (.tu [.ag (encO (tellR o 3#8 (decide (s < -1) || (decide (60 ≤ s) || decide (n < 0))) (subA s n))), .int .i64 (tellE o 3#8 (decide (s < -1) || (decide (60 ≤ s) || decide (n < 0))))]) := by
  refine pure_of Try.checked.mixed GS_closed ?_
  apply call_intro c10_eq r10_eq
  unfold c10 r10
  rw [z55, z41]
  have hbn := bld_sub s n
  have hZ0 := of_O (o := zeroO) okA_zero
  have hzc := closed_O zeroO
  have F := of_O (o := o) ho.1
  have hoc := closed_O o
  have hask := refAsked_ok o 3#8 ho.1
  have e84 : e8 (3#8) = .int .u8 3 := rfl
  rw [e84] at hask
  have hans := answered_ok o (subA s n) ho (okA_sub s n)
  have hac : (CV.ag (encAn (subA s n))).closed = true := closed_An _
  have W := of_O (o := withA (twinO o) (subA s n)) (okA_sub s n)
  have hwc := closed_O (withA (twinO o) (subA s n))
  obtain ⟨Z4, hZ4⟩ : ∃ Z, Z = encAn zeroAns := ⟨_, rfl⟩
  obtain ⟨Z, hZ⟩ : ∃ Z, Z = encO zeroO := ⟨_, rfl⟩
  obtain ⟨L, hL⟩ : ∃ N, N = encO o := ⟨_, rfl⟩
  obtain ⟨M, hM⟩ : ∃ N, N = encAn (subA s n) := ⟨_, rfl⟩
  obtain ⟨R, hR⟩ : ∃ N, N = encO (withA (twinO o) (subA s n)) := ⟨_, rfl⟩
  rw [← hZ4] at hbn ⊢
  rw [← hZ] at hZ0 hzc ⊢
  rw [← hL] at F hoc hask hans ⊢
  rw [← hM] at hbn hans hac
  rw [← hR] at hans W hwc
  obtain ⟨zl, _, _, _, _, _, _, _, _, _, zt, _⟩ := hZ0
  obtain ⟨ll, _, _, _, _, _, _, _, _, _, lt, _⟩ := F
  obtain ⟨rl, _, _, _, _, _, _, _, _, _, rt, _⟩ := W
  have hs1 : splice Z 0 Z = Z := splice_full rfl
  have hs2 : splice Z 0 R = R := splice_full (by omega)
  simp [ll, zl, lt]
  refine pure_call hask (by simpa [closedL, CV.closed] using hoc) ?_
  unfold tellR tellE
  rcases ask_cases o 3#8 with h | h | h
  · rw [h]
    by_cases g1 : s < -1
    · have hb : (decide (s < -1) || (decide (60 ≤ s) || decide (n < 0))) = true := by simp [g1]
      rw [hb]
      simp [ll, zl, hs1, zt, g1]
      show Rd _ _ (.tu [.ag (encO zeroO), .int .i64 2])
      rw [← hZ]
      exact rd_eq rfl (by simpa [CV.closed, closedL] using hzc)
    · by_cases g2 : 60 ≤ s
      · have hb : (decide (s < -1) || (decide (60 ≤ s) || decide (n < 0))) = true := by simp [g2]
        rw [hb]
        simp [ll, zl, hs1, zt, g1, g2]
        show Rd _ _ (.tu [.ag (encO zeroO), .int .i64 2])
        rw [← hZ]
        exact rd_eq rfl (by simpa [CV.closed, closedL] using hzc)
      · by_cases g3 : n < 0
        · have hb : (decide (s < -1) || (decide (60 ≤ s) || decide (n < 0))) = true := by simp [g3]
          rw [hb]
          simp [ll, zl, hs1, zt, g1, g2, g3]
          show Rd _ _ (.tu [.ag (encO zeroO), .int .i64 2])
          rw [← hZ]
          exact rd_eq rfl (by simpa [CV.closed, closedL] using hzc)
        · have hb : (decide (s < -1) || (decide (60 ≤ s) || decide (n < 0))) = false := by simp [g1, g2, g3]
          rw [hb]
          simp [ll, zl, lt, hbn, -bldC_cons, g1, g2, g3]
          refine pure_call hans (by simp [closedL, hac]; simpa [CV.closed] using hoc) ?_
          simp [zl, rl, rt, hs2]
          show Rd _ _ (.tu [.ag (encO (withA (twinO o) (subA s n))), .int .i64 0])
          rw [← hR]
          exact rd_eq rfl (by simpa [CV.closed, closedL] using hwc)
  · rw [h]
    simp [ll, zl, hs1, zt]
    rw [← hZ]
    exact rd_eq rfl (by simpa [CV.closed, closedL] using hzc)
  · rw [h]
    simp [ll, zl, hs1, zt]
    rw [← hZ]
    exact rd_eq rfl (by simpa [CV.closed, closedL] using hzc)
set_option maxHeartbeats 4000000 in
theorem tellref_ok (o : Opn) (v : B) (id : List B) (n : Int) (hid : id.length = 32) (ho : okO o) : PureC Try.prog GS 8 [.ag (encO o), e8 v, .ag (id.map e8), .int .i64 n] (.tu [.ag (encO (tellR o 5#8 (decide (v.toNat < 1) || (decide (9 < v.toNat) || decide (n < 0))) (tellA v id n))), .int .i64 (tellE o 5#8 (decide (v.toNat < 1) || (decide (9 < v.toNat) || decide (n < 0))))]) := by
  refine pure_of Try.checked.mixed GS_closed ?_
  apply call_intro c8_eq r8_eq
  unfold c8 r8
  rw [z55, z41]
  have hbn := bld_tell v id n hid
  have hZ0 := of_O (o := zeroO) okA_zero
  have hzc := closed_O zeroO
  have F := of_O (o := o) ho.1
  have hoc := closed_O o
  have hask := refAsked_ok o 5#8 ho.1
  have e84 : e8 (5#8) = .int .u8 5 := rfl
  rw [e84] at hask
  have hans := answered_ok o (tellA v id n) ho (⟨hid, fun i h => by cases h⟩)
  have hac : (CV.ag (encAn (tellA v id n))).closed = true := closed_An _
  have W := of_O (o := withA (twinO o) (tellA v id n)) (⟨hid, fun i h => by cases h⟩)
  have hwc := closed_O (withA (twinO o) (tellA v id n))
  obtain ⟨I, hI⟩ : ∃ I, I = id.map e8 := ⟨_, rfl⟩
  have il : I.length = 32 := by rw [hI, List.length_map, hid]
  have it : I.take 32 = I := List.take_of_length_le (by omega)
  rw [← hI] at hbn ⊢
  obtain ⟨Z4, hZ4⟩ : ∃ Z, Z = encAn zeroAns := ⟨_, rfl⟩
  obtain ⟨Z, hZ⟩ : ∃ Z, Z = encO zeroO := ⟨_, rfl⟩
  obtain ⟨L, hL⟩ : ∃ N, N = encO o := ⟨_, rfl⟩
  obtain ⟨M, hM⟩ : ∃ N, N = encAn (tellA v id n) := ⟨_, rfl⟩
  obtain ⟨R, hR⟩ : ∃ N, N = encO (withA (twinO o) (tellA v id n)) := ⟨_, rfl⟩
  rw [← hZ4] at hbn ⊢
  rw [← hZ] at hZ0 hzc ⊢
  rw [← hL] at F hoc hask hans ⊢
  rw [← hM] at hbn hans hac
  rw [← hR] at hans W hwc
  obtain ⟨zl, _, _, _, _, _, _, _, _, _, zt, _⟩ := hZ0
  obtain ⟨ll, _, _, _, _, _, _, _, _, _, lt, _⟩ := F
  obtain ⟨rl, _, _, _, _, _, _, _, _, _, rt, _⟩ := W
  have hs1 : splice Z 0 Z = Z := splice_full rfl
  have hs2 : splice Z 0 R = R := splice_full (by omega)
  simp [ll, zl, lt, il, it]
  refine pure_call hask (by simpa [closedL, CV.closed] using hoc) ?_
  unfold tellR tellE
  rcases ask_cases o 5#8 with h | h | h
  · rw [h]
    have k1 : ((u v : Int) < 1) ↔ v.toNat < 1 := by unfold u; omega
    have k2 : ((9 : Int) < u v) ↔ 9 < v.toNat := by unfold u; omega
    by_cases g1 : v.toNat < 1
    · have hb : (decide (v.toNat < 1) || (decide (9 < v.toNat) || decide (n < 0))) = true := by simp [g1]
      rw [hb]
      simp [ll, zl, hs1, zt, il, it, k1, k2, g1]
      show Rd _ _ (.tu [.ag (encO zeroO), .int .i64 2])
      rw [← hZ]
      exact rd_eq rfl (by simpa [CV.closed, closedL] using hzc)
    · by_cases g2 : 9 < v.toNat
      · have hb : (decide (v.toNat < 1) || (decide (9 < v.toNat) || decide (n < 0))) = true := by simp [g2]
        rw [hb]
        simp [ll, zl, hs1, zt, il, it, k1, k2, g1, g2]
        show Rd _ _ (.tu [.ag (encO zeroO), .int .i64 2])
        rw [← hZ]
        exact rd_eq rfl (by simpa [CV.closed, closedL] using hzc)
      · by_cases g3 : n < 0
        · have hb : (decide (v.toNat < 1) || (decide (9 < v.toNat) || decide (n < 0))) = true := by simp [g3]
          rw [hb]
          simp [ll, zl, hs1, zt, il, it, k1, k2, g1, g2, g3]
          show Rd _ _ (.tu [.ag (encO zeroO), .int .i64 2])
          rw [← hZ]
          exact rd_eq rfl (by simpa [CV.closed, closedL] using hzc)
        · have hb : (decide (v.toNat < 1) || (decide (9 < v.toNat) || decide (n < 0))) = false := by simp [g1, g2, g3]
          rw [hb]
          simp [ll, zl, lt, hbn, -bldC_cons, il, it, k1, k2, g1, g2, g3]
          refine pure_call hans (by simp [closedL, hac]; simpa [CV.closed] using hoc) ?_
          simp [zl, rl, rt, hs2]
          show Rd _ _ (.tu [.ag (encO (withA (twinO o) (tellA v id n))), .int .i64 0])
          rw [← hR]
          exact rd_eq rfl (by simpa [CV.closed, closedL] using hwc)
  · rw [h]
    simp [ll, zl, hs1, zt, il, it]
    rw [← hZ]
    exact rd_eq rfl (by simpa [CV.closed, closedL] using hzc)
  · rw [h]
    simp [ll, zl, hs1, zt, il, it]
    rw [← hZ]
    exact rd_eq rfl (by simpa [CV.closed, closedL] using hzc)
end Ca
end Go.CM

/-
  Open calls, compared; the law CallsTells, walked.
-/
namespace Go.CM
open Go Go.Proofs
set_option linter.unusedVariables false
set_option linter.unusedSimpArgs false
set_option maxRecDepth 100000
namespace Ca
open Sha Op

def valEq (a b : Val) : Bool := beqL (encV a) (encV b)
theorem valEq_self (a : Val) : valEq a a = true := by unfold valEq; rw [beq_encV]; simp
def sameAn (a b : Ans) : Bool := decide (a.verdict = b.verdict) && (decide (a.id = b.id) && (decide (a.version = b.version) && ((a.inn == b.inn) && (valEq a.val b.val && (decide (a.sub = b.sub) && decide (a.heads.l = b.heads.l))))))
theorem take_snoc {α : Type} {l : List α} {k : Nat} {x : α} (h : l[k]? = some x) : l.take (k + 1) = l.take k ++ [x] := by rw [List.take_add_one, h]; rfl
set_option maxHeartbeats 8000000 in
theorem sameAnswer_ok (a b : Ans) (ha : okA a) (hb : okA b) (hla : a.heads.l.length ≤ 1000000) : PureC Try.prog GS 29 [.ag (encAn a), .ag (encAn b)] (.bool (sameAn a b)) := by
  refine pure_of Try.checked.mixed GS_closed ?_
  apply call_intro c29_eq r29_eq
  unfold c29 r29
  have FA := af_of ha
  have FB := af_of hb
  have hid := id_neq ha.1 hb.1
  have hva := v_neq a.val b.val
  have hbl : ∀ x y : Bool, binC Try.prog .neq 4 (.bool x) (.bool y) = some (.bool (!(x == y))) := fun x y => bin_bool_neq (by kernel_rfl) x y
  have n1 : lenM (.sl 32) (encIds a.heads) = some (.int .i64 a.heads.l.length) := len_encS _
  have n2 : lenM (.sl 32) (encIds b.heads) = some (.int .i64 b.heads.l.length) := len_encS _
  have hcv : beqL (encV a.val) (encV b.val) = valEq a.val b.val := rfl
  rw [hcv] at hva
  obtain ⟨VA, hVA⟩ : ∃ V, V = encV a.val := ⟨_, rfl⟩
  obtain ⟨VB, hVB⟩ : ∃ V, V = encV b.val := ⟨_, rfl⟩
  obtain ⟨IA, hIA⟩ : ∃ I, I = a.id.map e8 := ⟨_, rfl⟩
  obtain ⟨IB, hIB⟩ : ∃ I, I = b.id.map e8 := ⟨_, rfl⟩
  obtain ⟨MA, hMA⟩ : ∃ M, M = encAn a := ⟨_, rfl⟩
  obtain ⟨MB, hMB⟩ : ∃ M, M = encAn b := ⟨_, rfl⟩
  rw [← hMA] at FA ⊢
  rw [← hMB] at FB ⊢
  obtain ⟨la, ⟨_, a0⟩, ⟨_, a33⟩, ⟨_, a34⟩, ⟨_, a39⟩, ⟨_, a40⟩, at1, at35, _, acl⟩ := FA
  obtain ⟨lb, ⟨_, b0⟩, ⟨_, b33⟩, ⟨_, b34⟩, ⟨_, b39⟩, ⟨_, b40⟩, bt1, bt35, _, bcl⟩ := FB
  rw [← hIA] at at1 hid
  rw [← hIB] at bt1 hid
  rw [← hVA] at at35 hva
  rw [← hVB] at bt35 hva
  unfold sameAn
  have hlen : ((a.heads.l.length : Int) = b.heads.l.length) ↔ a.heads.l.length = b.heads.l.length := by omega
  by_cases g1 : a.verdict = b.verdict
  · by_cases g2 : a.id = b.id
    · by_cases g3 : a.version = b.version
      · by_cases g4 : a.inn = b.inn
        · cases g5 : valEq a.val b.val with
          | true =>
            by_cases g6 : a.sub = b.sub
            · by_cases g7 : a.heads.l.length = b.heads.l.length
              · simp [la, lb, a0, b0, a33, b33, a34, b34, a39, b39, a40, b40, at1, bt1, at35, bt35, hid, hva, hbl, n1, n2, hlen, g1, g2, g3, g4, g5, g6, g7]
                refine loop_up a.heads.l.length (fun k σ l => σ 2 = .ptr 0 0 41 ∧ σ 3 = .ptr 1 0 41 ∧ σ 5 = .int .i64 k ∧ l = [.cells 41 MA, .cells 41 MB] ∧ a.heads.l.take k = b.heads.l.take k) ?_ (by simp)
                rintro k σ l hk ⟨e2, e3, e5, rfl, hall⟩
                obtain ⟨σ, rfl⟩ := upds3 e2 e3 e5
                clear e2 e3 e5
                unfold l29_0
                by_cases h : k < a.heads.l.length
                · obtain ⟨x, hx, hxm⟩ := get_of h
                  obtain ⟨y, hy, hym⟩ := get_of (l := b.heads.l) (k := k) (by omega)
                  have hxl := ha.2 x hxm
                  have hyl := hb.2 y hym
                  have i1 : iaC (.sl 32) (encIds a.heads) (.int .i64 k) = some (.rptr (eId x) 0) := by unfold encIds; rw [ia_encS]; simp [hx]
                  have i2 : iaC (.sl 32) (encIds b.heads) (.int .i64 k) = some (.rptr (eId y) 0) := by unfold encIds; rw [ia_encS]; simp [hy]
                  have hwk : IntKind.i64.wrap ((k : Int) + 1) = (k + 1 : Nat) := wrap_i64 (by omega) (by omega)
                  have hxy := id_neq hxl hyl
                  have lx : (eId x).length = 32 := by simp [eId, hxl]
                  have ly : (eId y).length = 32 := by simp [eId, hyl]
                  have tx : (eId x).take 32 = eId x := List.take_of_length_le (by omega)
                  have ty : (eId y).take 32 = eId y := List.take_of_length_le (by omega)
                  have hxy' : binC Try.prog .neq 31 (.ag (eId x)) (.ag (eId y)) = some (.bool (!decide (x = y))) := hxy
                  by_cases he : x = y
                  · subst he
                    simp [la, lb, a39, b39, n1, h, i1, i2, lx, tx, hxy', hwk]
                    rw [take_snoc hx, take_snoc hy, hall]
                  · simp [la, lb, a39, b39, n1, h, i1, i2, lx, ly, tx, ty, hxy', he]
                    have hne : ¬ a.heads.l = b.heads.l := fun hh => by rw [hh, hy] at hx; cases hx; exact he rfl
                    exact rd_eq (by simp [hne]) rfl
                · have hk' : k = a.heads.l.length := by omega
                  subst hk'
                  have heq : a.heads.l = b.heads.l := by rw [List.take_length] at hall; rw [hall, g7, List.take_length]
                  simp [la, a39, n1]
                  exact rd_eq (by simp [heq, g1, g2, g3, g4, g5, g6]) rfl
              · have hne : ¬ a.heads.l = b.heads.l := fun hh => g7 (by rw [hh])
                simp [la, lb, a0, b0, a33, b33, a34, b34, a39, b39, a40, b40, at1, bt1, at35, bt35, hid, hva, hbl, n1, n2, hlen, g1, g2, g3, g4, g5, g6, g7]
                exact rd_eq (by simp [g1, g2, g3, g4, g5, g6, hne]) rfl
            · simp [la, lb, a0, b0, a33, b33, a34, b34, a40, b40, at1, bt1, at35, bt35, hid, hva, hbl, g1, g2, g3, g4, g5, g6]
              exact rd_eq (by simp [g1, g2, g3, g4, g5, g6]) rfl
          | false =>
            simp [la, lb, a0, b0, a33, b33, a34, b34, at1, bt1, at35, bt35, hid, hva, hbl, g1, g2, g3, g4, g5]
            exact rd_eq (by simp [g1, g2, g3, g4, g5]) rfl
        · have g4' : (a.inn == b.inn) = false := by simpa using g4
          simp [la, lb, a0, b0, a33, b33, a34, b34, at1, bt1, hid, hbl, g1, g2, g3, g4']
          exact rd_eq (by simp [g1, g2, g3, g4']) rfl
      · simp [la, lb, a0, b0, a33, b33, at1, bt1, hid, g1, g2, g3]
        exact rd_eq (by simp [g1, g2, g3]) rfl
    · simp [la, lb, a0, b0, at1, bt1, hid, g1, g2]
      exact rd_eq (by simp [g1, g2]) rfl
  · simp [la, lb, a0, b0, g1]
    exact rd_eq (by simp [g1]) rfl
def sameO (a b : Opn) : Bool := sameB a.call b.call && (decide (a.at_ = b.at_) && (decide (a.base = b.base) && (decide (a.bytes.l = b.bytes.l) && (decide (a.ticket = b.ticket) && sameAn a.ans b.ans))))
set_option maxHeartbeats 8000000 in
theorem sameO_ok (a b : Opn) (ha : okA a.ans) (hb : okA b.ans) (hla : a.ans.heads.l.length ≤ 1000000) : PureC Try.prog GS 15 [.ag (encO a), .ag (encO b)] (.bool (sameO a b)) := by
  refine pure_of Try.checked.mixed GS_closed ?_
  apply call_intro c15_eq r15_eq
  unfold c15 r15
  have FA := of_O ha
  have FB := of_O hb
  have hsc := sameCall_ok a.call b.call
  have hsa := sameAnswer_ok a.ans b.ans ha hb hla
  have cc : closedL [CV.ag (encC a.call), CV.ag (encC b.call)] = true := by simp [closedL, closed_C]
  have ca : closedL [CV.ag (encAn a.ans), CV.ag (encAn b.ans)] = true := by simp [closedL, CV.closed, closed_An]
  unfold sameO
  obtain ⟨sc, hsc0⟩ : ∃ sc, sc = sameB a.call b.call := ⟨_, rfl⟩
  obtain ⟨sa, hsa0⟩ : ∃ sa, sa = sameAn a.ans b.ans := ⟨_, rfl⟩
  rw [← hsc0] at hsc ⊢
  rw [← hsa0] at hsa ⊢
  obtain ⟨CA, hCA⟩ : ∃ V, V = encC a.call := ⟨_, rfl⟩
  obtain ⟨CB, hCB⟩ : ∃ V, V = encC b.call := ⟨_, rfl⟩
  obtain ⟨MA, hMA⟩ : ∃ M, M = encAn a.ans := ⟨_, rfl⟩
  obtain ⟨MB, hMB⟩ : ∃ M, M = encAn b.ans := ⟨_, rfl⟩
  obtain ⟨LA, hLA⟩ : ∃ M, M = encO a := ⟨_, rfl⟩
  obtain ⟨LB, hLB⟩ : ∃ M, M = encO b := ⟨_, rfl⟩
  rw [← hLA] at FA ⊢
  rw [← hLB] at FB ⊢
  rw [← hCA, ← hCB] at hsc cc
  rw [← hMA, ← hMB] at hsa ca
  obtain ⟨la, _, _, _, _, ⟨_, a10⟩, ⟨_, a11⟩, ⟨_, a12⟩, ⟨_, a13⟩, _, at55, at10, at41, acl⟩ := FA
  obtain ⟨lb, _, _, _, _, ⟨_, b10⟩, ⟨_, b11⟩, ⟨_, b12⟩, ⟨_, b13⟩, _, bt55, bt10, bt41, bcl⟩ := FB
  rw [← hCA] at at10
  rw [← hCB] at bt10
  rw [← hMA] at at41
  rw [← hMB] at bt41
  simp [la, lb, at10, bt10]
  refine pure_call hsc cc ?_
  cases sc with
  | false =>
    simp
    exact rd_eq rfl rfl
  | true =>
    by_cases g1 : a.at_ = b.at_
    · by_cases g2 : a.base = b.base
      · by_cases g3 : a.bytes.l = b.bytes.l
        · by_cases g4 : a.ticket = b.ticket
          · simp [la, lb, a10, b10, a11, b11, a12, b12, a13, b13, at41, bt41, cbs_Bs, strB_iff, g1, g2, g3, g4]
            refine pure_call hsa ca ?_
            simp
            exact rd_eq (by simp [g1, g2, g3, g4]) rfl
          · simp [la, lb, a10, b10, a11, b11, a12, b12, a13, b13, cbs_Bs, strB_iff, g1, g2, g3, g4]
            exact rd_eq (by simp [g1, g2, g3, g4]) rfl
        · simp [la, lb, a10, b10, a11, b11, a12, b12, cbs_Bs, strB_iff, g1, g2, g3]
          exact rd_eq (by simp [g1, g2, g3]) rfl
      · simp [la, lb, a10, b10, a11, b11, g1, g2]
        exact rd_eq (by simp [g1, g2]) rfl
    · simp [la, lb, a10, b10, g1]
      exact rd_eq (by simp [g1]) rfl

/-! what is the same -/
theorem sameAn_self (a : Ans) : sameAn a a = true := by simp [sameAn, valEq_self]
theorem sameB_self (c : Call) : sameB c c = true := by simp [sameB, actEq_self]
theorem sameO_self (o : Opn) : sameO o o = true := by simp [sameO, sameAn_self, sameB_self]
theorem sameO_twin (o : Opn) : sameO o (twinO o) = true := by
  simp [sameO, twinO, sameB, sameAn, actEq_self, valEq_self]
theorem sameO_with (o : Opn) (a : Ans) : sameO (withA o a) (withA (twinO o) a) = true := by
  simp [sameO, withA, twinO, sameB, actEq_self, sameAn_self]
theorem same_tell (o : Opn) (need : B) (bad : Bool) (a : Ans) : sameO (tellO o need bad a) (tellR o need bad a) = true := by
  unfold tellO tellR
  split
  · exact sameO_with o a
  · exact sameO_self _
theorem same_new (c : Call) : sameO (if chkC c then newO c else zeroO) (if chkC c then twinO (newO c) else zeroO) = true := by
  split
  · exact sameO_twin _
  · exact sameO_self _

/-! the law -/
theorem bld_call (c : Call) : bldC (encO zeroO) [(0, 10, .ag (encC c))] = some (encO { zeroO with call := c }) := by
  simp only [bldC_cons, cells_ag, Option.bind_some, bldC_nil]
  rfl
theorem newE_ok (c : Call) : okA (if chkC c then newO c else zeroO).ans ∧ okA (if chkC c then twinO (newO c) else zeroO).ans ∧ (if chkC c then newO c else zeroO).ans.heads.l.length ≤ 1000000 := by
  cases chkC c with
  | true => exact ⟨okA_zero, okA_heads okA_zero, by show 0 ≤ 1000000; omega⟩
  | false => exact ⟨okA_zero, okA_zero, by show 0 ≤ 1000000; omega⟩
theorem tellE_ok (o : Opn) (need : B) (bad : Bool) (a : Ans) (ha : okA a) (hh : a.heads.l.length ≤ 1000000) : okA (tellO o need bad a).ans ∧ okA (tellR o need bad a).ans ∧ (tellO o need bad a).ans.heads.l.length ≤ 1000000 := by
  unfold tellO tellR
  split
  · exact ⟨ha, ha, hh⟩
  · exact ⟨okA_zero, okA_zero, by show 0 ≤ 1000000; omega⟩
set_option maxHeartbeats 16000000 in
theorem tells_call (x : Call) (o : Opn) (v : B) (id : List B) (n ver : Int) (ho : okA o.ans) (hid : id.length = 32) : CallP Try.prog GS 3 [.ag (encC x), .ag (encO o), e8 v, .ag (id.map e8), .int .i64 n, .int .i64 ver] [] (c := ⟨fun r _ => r = .bool true⟩) := by
  apply call_intro c3_eq r3_eq
  unfold c3 r3
  rw [z55]
  have hg1 := great_ok o ho
  have hg2 := great_ok { zeroO with call := x } okA_zero
  obtain ⟨gb1, hgb1⟩ : ∃ g, g = (decide (2500 < o.call.bytes.l.length) || (decide (2500 < o.bytes.l.length) || (decide (100 < o.call.key.length) || (decide (100 < o.call.act.key.length) || decide (60 < o.ans.heads.l.length))))) := ⟨_, rfl⟩
  have hxb : ∀ g2 : Bool, g2 = (decide (2500 < ({ zeroO with call := x } : Opn).call.bytes.l.length) || (decide (2500 < ({ zeroO with call := x } : Opn).bytes.l.length) || (decide (100 < ({ zeroO with call := x } : Opn).call.key.length) || (decide (100 < ({ zeroO with call := x } : Opn).call.act.key.length) || decide (60 < ({ zeroO with call := x } : Opn).ans.heads.l.length))))) → g2 = false → x.bytes.l.length ≤ 2500 := by
    intro g2 h1 h2
    rw [h2] at h1
    have h3 := h1.symm
    simp only [Bool.or_eq_false_iff, decide_eq_false_iff_not] at h3
    have := h3.1
    show x.bytes.l.length ≤ 2500
    have h4 : ¬ 2500 < x.bytes.l.length := this
    omega
  obtain ⟨gb2, hgb2⟩ : ∃ g, g = (decide (2500 < ({ zeroO with call := x } : Opn).call.bytes.l.length) || (decide (2500 < ({ zeroO with call := x } : Opn).bytes.l.length) || (decide (100 < ({ zeroO with call := x } : Opn).call.key.length) || (decide (100 < ({ zeroO with call := x } : Opn).call.act.key.length) || decide (60 < ({ zeroO with call := x } : Opn).ans.heads.l.length))))) := ⟨_, rfl⟩
  rw [← hgb1] at hg1
  rw [← hgb2] at hg2
  have hxb2 := hxb gb2 hgb2
  clear hgb2 hxb
  have hbn := bld_call x
  have hZ0 := of_O (o := zeroO) okA_zero
  have X0 := closed_O { zeroO with call := x }
  have F := of_O ho
  have hoc := closed_O o
  have hcc := closed_C x
  obtain ⟨Z, hZ⟩ : ∃ Z, Z = encO zeroO := ⟨_, rfl⟩
  obtain ⟨XO, hXO⟩ : ∃ Z, Z = encO { zeroO with call := x } := ⟨_, rfl⟩
  rw [← hZ] at hZ0 hbn ⊢
  rw [← hXO] at hbn hg2 X0
  obtain ⟨zl, _, _, _, _, _, _, _, _, _, zt, _⟩ := hZ0
  have hC10 : (encC x).length = 10 := rfl
  have hCt : (encC x).take 10 = encC x := rfl
  obtain ⟨I, hI⟩ : ∃ I, I = id.map e8 := ⟨_, rfl⟩
  have il : I.length = 32 := by rw [hI, List.length_map, hid]
  have it : I.take 32 = I := List.take_of_length_le (by omega)
  have hIc : closedL I = true := by rw [hI]; exact closedL_map e8 (fun _ => rfl) _
  cases gb1 with
  | true =>
    rw [← hI]
    obtain ⟨C, hC⟩ : ∃ C, C = encC x := ⟨_, rfl⟩
    obtain ⟨L, hL⟩ : ∃ C, C = encO o := ⟨_, rfl⟩
    rw [← hC] at hC10 ⊢
    rw [← hL] at F hoc hg1 ⊢
    obtain ⟨ll, _, _, _, _, _, _, _, _, _, lt, _⟩ := F
    simp [hC10, ll, il, lt]
    refine pure_call hg1 (by simpa [closedL, CV.closed] using hoc) ?_
    simp
  | false =>
    have hok : okO o := by
      have h3 := hgb1.symm
      simp only [Bool.or_eq_false_iff, decide_eq_false_iff_not] at h3
      exact ⟨ho, by omega, by omega, by omega⟩
    cases gb2 with
    | true =>
      rw [← hI]
      obtain ⟨C, hC⟩ : ∃ C, C = encC x := ⟨_, rfl⟩
      obtain ⟨L, hL⟩ : ∃ C, C = encO o := ⟨_, rfl⟩
      rw [← hC] at hC10 hCt hbn ⊢
      rw [← hL] at F hoc hg1 ⊢
      obtain ⟨ll, _, _, _, _, _, _, _, _, _, lt, _⟩ := F
      simp [hC10, ll, il, lt]
      refine pure_call hg1 (by simpa [closedL, CV.closed] using hoc) ?_
      simp [hC10, ll, il, hCt, hbn, -bldC_cons]
      refine pure_call hg2 (by simpa [closedL, CV.closed] using X0) ?_
      simp
    | false =>
      have hx := hxb2 rfl
      have k1 := new_ok x hx
      have k2 := refNew_ok x hx
      have k3 := tell_ok o v id ver hid hok
      have k4 := tellref_ok o v id ver hid hok
      have k5 := sub_ok2 o n ver hok
      have k6 := subref_ok2 o n ver hok
      have k7 := close_ok o ver hok
      have k8 := closeref_ok o ver hok
      have k9 := check_ok x
      have k10 := refCheck_ok x
      obtain ⟨w1, w2, w3⟩ := newE_ok x
      obtain ⟨v1, v2, v3⟩ := tellE_ok o 5#8 (decide (v.toNat < 1) || (decide (9 < v.toNat) || decide (ver < 0))) (tellA v id ver) ⟨hid, fun i h => by cases h⟩ (by show 0 ≤ 1000000; omega)
      obtain ⟨s1, s2, s3⟩ := tellE_ok o 3#8 (decide (n < -1) || (decide (60 ≤ n) || decide (ver < 0))) (subA n ver) (okA_sub n ver) (by show 0 ≤ 1000000; omega)
      obtain ⟨c1, c2, c3⟩ := tellE_ok o 4#8 (decide (ver < 0)) (subA 0 ver) (okA_sub 0 ver) (by show 0 ≤ 1000000; omega)
      have m1 := sameO_ok _ _ w1 w2 w3
      have m2 := sameO_ok _ _ v1 v2 v3
      have m3 := sameO_ok _ _ s1 s2 s3
      have m4 := sameO_ok _ _ c1 c2 c3
      rw [same_new] at m1
      rw [same_tell] at m2 m3 m4
      have FA := of_O w1
      have FB := of_O w2
      have FC := of_O v1
      have FD := of_O v2
      have FE := of_O s1
      have FF := of_O s2
      have FG := of_O c1
      have FH := of_O c2
      rw [← hI] at k3 k4 ⊢
      obtain ⟨oA, hA⟩ : ∃ a, a = (if chkC x then newO x else zeroO) := ⟨_, rfl⟩
      obtain ⟨oB, hB⟩ : ∃ a, a = (if chkC x then twinO (newO x) else zeroO) := ⟨_, rfl⟩
      obtain ⟨oC, hCC⟩ : ∃ a, a = tellO o 5#8 (decide (v.toNat < 1) || (decide (9 < v.toNat) || decide (ver < 0))) (tellA v id ver) := ⟨_, rfl⟩
      obtain ⟨oD, hD⟩ : ∃ a, a = tellR o 5#8 (decide (v.toNat < 1) || (decide (9 < v.toNat) || decide (ver < 0))) (tellA v id ver) := ⟨_, rfl⟩
      obtain ⟨oE, hE⟩ : ∃ a, a = tellO o 3#8 (decide (n < -1) || (decide (60 ≤ n) || decide (ver < 0))) (subA n ver) := ⟨_, rfl⟩
      obtain ⟨oF, hF⟩ : ∃ a, a = tellR o 3#8 (decide (n < -1) || (decide (60 ≤ n) || decide (ver < 0))) (subA n ver) := ⟨_, rfl⟩
      obtain ⟨oG, hG⟩ : ∃ a, a = tellO o 4#8 (decide (ver < 0)) (subA 0 ver) := ⟨_, rfl⟩
      obtain ⟨oH, hH⟩ : ∃ a, a = tellR o 4#8 (decide (ver < 0)) (subA 0 ver) := ⟨_, rfl⟩
      rw [← hA] at k1 m1 FA
      rw [← hB] at k2 m1 FB
      rw [← hCC] at k3 m2 FC
      rw [← hD] at k4 m2 FD
      rw [← hE] at k5 m3 FE
      rw [← hF] at k6 m3 FF
      rw [← hG] at k7 m4 FG
      rw [← hH] at k8 m4 FH
      obtain ⟨e1, he1⟩ : ∃ e, e = errB (chkC x) := ⟨_, rfl⟩
      rw [← he1] at k1 k2 k9 k10
      obtain ⟨e2, he2⟩ : ∃ e, e = tellE o 5#8 (decide (v.toNat < 1) || (decide (9 < v.toNat) || decide (ver < 0))) := ⟨_, rfl⟩
      obtain ⟨e3, he3⟩ : ∃ e, e = tellE o 3#8 (decide (n < -1) || (decide (60 ≤ n) || decide (ver < 0))) := ⟨_, rfl⟩
      obtain ⟨e4, he4⟩ : ∃ e, e = tellE o 4#8 (decide (ver < 0)) := ⟨_, rfl⟩
      rw [← he2] at k3 k4
      rw [← he3] at k5 k6
      rw [← he4] at k7 k8
      obtain ⟨RA, rA⟩ : ∃ R, R = encO oA := ⟨_, rfl⟩
      obtain ⟨RB, rB⟩ : ∃ R, R = encO oB := ⟨_, rfl⟩
      obtain ⟨RC, rC⟩ : ∃ R, R = encO oC := ⟨_, rfl⟩
      obtain ⟨RD, rD⟩ : ∃ R, R = encO oD := ⟨_, rfl⟩
      obtain ⟨RE, rE⟩ : ∃ R, R = encO oE := ⟨_, rfl⟩
      obtain ⟨RF, rF⟩ : ∃ R, R = encO oF := ⟨_, rfl⟩
      obtain ⟨RG, rG⟩ : ∃ R, R = encO oG := ⟨_, rfl⟩
      obtain ⟨RH, rH⟩ : ∃ R, R = encO oH := ⟨_, rfl⟩
      rw [← rA] at k1 m1 FA
      rw [← rB] at k2 m1 FB
      rw [← rC] at k3 m2 FC
      rw [← rD] at k4 m2 FD
      rw [← rE] at k5 m3 FE
      rw [← rF] at k6 m3 FF
      rw [← rG] at k7 m4 FG
      rw [← rH] at k8 m4 FH
      obtain ⟨C, hC⟩ : ∃ C, C = encC x := ⟨_, rfl⟩
      obtain ⟨L, hL⟩ : ∃ C, C = encO o := ⟨_, rfl⟩
      rw [← hC] at hC10 hCt hbn hcc k1 k2 k9 k10 ⊢
      rw [← hL] at F hoc hg1 k3 k4 k5 k6 k7 k8 ⊢
      obtain ⟨ll, _, _, _, _, _, _, _, _, _, lt, _⟩ := F
      obtain ⟨lA, _, _, _, _, _, _, _, _, _, tA, _, _, cA⟩ := FA
      obtain ⟨lB, _, _, _, _, _, _, _, _, _, tB, _, _, cB⟩ := FB
      obtain ⟨lC, _, _, _, _, _, _, _, _, _, tC, _, _, cC⟩ := FC
      obtain ⟨lD, _, _, _, _, _, _, _, _, _, tD, _, _, cD⟩ := FD
      obtain ⟨lE, _, _, _, _, _, _, _, _, _, tE, _, _, cE⟩ := FE
      obtain ⟨lF, _, _, _, _, _, _, _, _, _, tF, _, _, cF⟩ := FF
      obtain ⟨lG, _, _, _, _, _, _, _, _, _, tG, _, _, cG⟩ := FG
      obtain ⟨lH, _, _, _, _, _, _, _, _, _, tH, _, _, cH⟩ := FH
      have zA : splice Z 0 RA = RA := splice_full (by omega)
      have zB : splice Z 0 RB = RB := splice_full (by omega)
      have zC : splice Z 0 RC = RC := splice_full (by omega)
      have zD : splice Z 0 RD = RD := splice_full (by omega)
      have zE : splice Z 0 RE = RE := splice_full (by omega)
      have zF : splice Z 0 RF = RF := splice_full (by omega)
      have zG : splice Z 0 RG = RG := splice_full (by omega)
      have zH : splice Z 0 RH = RH := splice_full (by omega)
      have qc : closedL [CV.ag C] = true := by simpa [closedL] using hcc
      have qo : closedL L = true := by simpa [CV.closed] using hoc
      simp [hC10, ll, il, lt]
      refine pure_call hg1 (by simp [closedL, CV.closed, qo]) ?_
      simp [hC10, ll, il, hCt, hbn, -bldC_cons]
      refine pure_call hg2 (by simpa [closedL, CV.closed] using X0) ?_
      simp [hC10, hCt]
      refine pure_call k1 qc ?_
      simp [zl, lA, zA, hC10, hCt]
      refine pure_call k2 qc ?_
      simp [zl, lB, zB, ll, lt, il, it]
      refine pure_call k3 (by simp [closedL, CV.closed, qo, hIc]) ?_
      simp [zl, lC, zC, ll, lt, il, it]
      refine pure_call k4 (by simp [closedL, CV.closed, qo, hIc]) ?_
      simp [zl, lD, zD, ll, lt]
      refine pure_call k5 (by simp [closedL, CV.closed, qo]) ?_
      simp [zl, lE, zE, ll, lt]
      refine pure_call k6 (by simp [closedL, CV.closed, qo]) ?_
      simp [zl, lF, zF, ll, lt]
      refine pure_call k7 (by simp [closedL, CV.closed, qo]) ?_
      simp [zl, lG, zG, ll, lt]
      refine pure_call k8 (by simp [closedL, CV.closed, qo]) ?_
      simp [zl, lH, zH, hC10, hCt]
      refine pure_call k9 qc ?_
      simp [hC10, hCt]
      refine pure_call k10 qc ?_
      simp [lA, lB, tA, tB]
      refine pure_call m1 (by simp [closedL, CV.closed, cA, cB]) ?_
      simp [lC, lD, tC, tD]
      refine pure_call m2 (by simp [closedL, CV.closed, cC, cD]) ?_
      simp [lE, lF, tE, tF]
      refine pure_call m3 (by simp [closedL, CV.closed, cE, cF]) ?_
      simp [lG, lH, tG, tH]
      refine pure_call m4 (by simp [closedL, CV.closed, cG, cH]) ?_
      simp
end Ca
end Go.CM
