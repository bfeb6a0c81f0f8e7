/-
  Values and acts, checked: walked in both texts.
-/
import Derived.Test.YtcoanbhfelfigaaGreatDoorDi
set_option linter.unusedVariables false
set_option linter.unusedSimpArgs false
set_option linter.unnecessarySimpa false
namespace Go.CM
open Go Go.Proofs
set_option maxRecDepth 100000
namespace Op
open Sha
structure Val where
 kind : B
 num : Int
 bits : Q
 text : List UInt8
def encV (v : Val) : List CV := [e8 v.kind, .int .i64 v.num, e64 v.bits, .str v.text]
def zeroVal : Val := ⟨0#8, 0, 0#64, []⟩
def expo (b : Q) : Nat := b.toNat / 4503599627370496 % 2048
def frac (b : Q) : Q := b % 4503599627370496#64
def cls (b : Q) : B := if expo b = 2047 then (if frac b = 0#64 then 4#8 else 5#8) else if expo b = 0 then (if frac b = 0#64 then 1#8 else 2#8) else 3#8
def canon (b : Q) : Q := if cls b = 5#8 then 9221120237041090560#64 else b
theorem u_1 (k : B) : ((u k : Int) = 1) ↔ k = 1#8 := u_inj k 1#8
theorem u_2 (k : B) : ((u k : Int) = 2) ↔ k = 2#8 := u_inj k 2#8
theorem u_3 (k : B) : ((u k : Int) = 3) ↔ k = 3#8 := u_inj k 3#8
theorem u_4 (k : B) : ((u k : Int) = 4) ↔ k = 4#8 := u_inj k 4#8
theorem u_5 (k : B) : ((u k : Int) = 5) ↔ k = 5#8 := u_inj k 5#8
theorem u_0 (k : B) : ((u k : Int) = 0) ↔ k = 0#8 := u_inj k 0#8
theorem q_0 (k : Q) : ((u k : Int) = 0) ↔ k = 0#64 := u_inj k 0#64
theorem expo_lt (b : Q) : expo b < 2048 := Nat.mod_lt _ (by decide)
theorem and_2047 (n : Nat) (h : n < 9223372036854775808) : binInt .and .i64 (n : Int) .i64 2047 = some (.int .i64 ((n % 2048 : Nat) : Int)) := by
 show some (CV.int .i64 (IntKind.i64.wrap ((BitVec.ofInt 64 (n : Int) &&& BitVec.ofInt 64 (2047 : Int)).toNat : Int))) = _
 have h1 : (BitVec.ofInt 64 (n : Int) &&& BitVec.ofInt 64 (2047 : Int)).toNat = n % 2048 := by
  rw [BitVec.ofInt_natCast, BitVec.toNat_and, BitVec.toNat_ofNat, Nat.mod_eq_of_lt (by omega)]
  exact Nat.and_two_pow_sub_one_eq_mod n 11
 have h2 := Nat.mod_lt n (show 2048 > 0 by decide)
 rw [h1]
 generalize n % 2048 = q at h2
 rw [wrap_i64 (by omega) (by omega)]
theorem frac_and (b : Q) : b &&& 4503599627370495#64 = frac b := by
 apply BitVec.eq_of_toNat_eq
 unfold frac
 rw [BitVec.toNat_and, BitVec.toNat_umod]
 exact Nat.and_two_pow_sub_one_eq_mod b.toNat 52
theorem split_ok (b : Q) : PureC Tryz.prog GS 164 [e64 b] (.tu [.int .i64 (expo b), e64 (frac b)]) := by
 refine pure_of Tryz.checked.mixed GS_closed ?_
 apply call_intro c164_eq r164_eq
 unfold c164 r164
 have hb := b.isLt
 have h1 : IntKind.i64.wrap (u (b >>> 52)) = ((b.toNat / 4503599627370496 : Nat) : Int) := by
  have : u (b >>> 52) = ((b.toNat / 4503599627370496 : Nat) : Int) := by unfold u; rw [BitVec.toNat_ushiftRight, Nat.shiftRight_eq_div_pow]
  rw [this, wrap_i64 (by omega) (by omega)]
 have h2 := and_2047 (b.toNat / 4503599627370496) (by omega)
 have he : expo b = b.toNat / 4503599627370496 % 2048 := rfl
 rw [← he] at h2
 obtain ⟨q, hq⟩ : ∃ q, b.toNat / 4503599627370496 = q := ⟨_, rfl⟩
 rw [hq] at h1 h2
 have h3 : binInt .and .u64 (u b) .u64 4503599627370495 = some (e64 (frac b)) := by
  rw [band_u64, ofInt_u, ← frac_and]; rfl
 have h4 : binInt .shr .u64 (u b) .u64 52 = some (.int .u64 (u (b >>> 52))) := bshrn_u64 b .u64 52
 simp [h4, h1, h2, h3, -band_u64]
 exact rd_eq rfl rfl
theorem refExpo_ok (b : Q) : PureC Tryz.prog GS 157 [e64 b] (.int .i64 (expo b)) := by
 refine pure_of Tryz.checked.mixed GS_closed ?_
 apply call_intro c157_eq r157_eq
 unfold c157 r157
 have hb := b.isLt
 have h1 : binInt .rem .u64 (u b) .u64 9223372036854775808 = some (e64 (b % 9223372036854775808#64)) := brem_u64 b 9223372036854775808#64 (by decide)
 have h2 : binInt .quo .u64 (u (b % 9223372036854775808#64)) .u64 4503599627370496 = some (e64 (b % 9223372036854775808#64 / 4503599627370496#64)) := quo_u64 _ 4503599627370496#64 (by decide)
 have h3 : IntKind.i64.wrap (u (b % 9223372036854775808#64 / 4503599627370496#64)) = (expo b : Int) := by
  have : u (b % 9223372036854775808#64 / 4503599627370496#64) = (expo b : Int) := by
   unfold u expo
   rw [BitVec.toNat_udiv, BitVec.toNat_umod]
   show (((b.toNat % 9223372036854775808) / 4503599627370496 : Nat) : Int) = _
   congr 1
   omega
  have h4 := expo_lt b
  rw [this, wrap_i64 (by omega) (by omega)]
 simp [h1, h2, h3]
 exact rd_eq rfl rfl
theorem refFrac_ok (b : Q) : PureC Tryz.prog GS 158 [e64 b] (e64 (frac b)) := by
 refine pure_of Tryz.checked.mixed GS_closed ?_
 apply call_intro c158_eq r158_eq
 unfold c158 r158
 have h1 : binInt .rem .u64 (u b) .u64 4503599627370496 = some (e64 (frac b)) := brem_u64 b 4503599627370496#64 (by decide)
 simp [h1]
 exact rd_eq rfl rfl
theorem class_ok (b : Q) : PureC Tryz.prog GS 163 [e64 b] (e8 (cls b)) := by
 refine pure_of Tryz.checked.mixed GS_closed ?_
 apply call_intro c163_eq r163_eq
 unfold c163 r163 cls
 simp
 refine pure_call (split_ok b) rfl ?_
 have h1 : ((expo b : Int) = 2047) ↔ expo b = 2047 := by omega
 have h2 : ((expo b : Int) = 0) ↔ expo b = 0 := by omega
 by_cases g1 : expo b = 2047
 ·by_cases g2 : frac b = 0#64
  ·simp [h1, g1, g2]
   exact rd_eq rfl rfl
  ·simp [h1, g1, g2, q_0]
   exact rd_eq rfl rfl
 ·by_cases g3 : expo b = 0
  ·by_cases g2 : frac b = 0#64
   ·simp [h1, h2, g1, g2, g3]
    exact rd_eq rfl rfl
   ·simp [h1, h2, g1, g2, g3, q_0]
    exact rd_eq rfl rfl
  ·simp [h1, h2, g1, g3]
   exact rd_eq rfl rfl
theorem refClass_ok (b : Q) : PureC Tryz.prog GS 143 [e64 b] (e8 (cls b)) := by
 refine pure_of Tryz.checked.mixed GS_closed ?_
 apply call_intro c143_eq r143_eq
 unfold c143 r143 cls
 simp
 refine pure_call (refExpo_ok b) rfl ?_
 simp
 refine pure_call (refFrac_ok b) rfl ?_
 have h2 : ((expo b : Int) = 0) ↔ expo b = 0 := by omega
 have h3 : ((expo b : Int) < 2047) ↔ ¬ expo b = 2047 := by have := expo_lt b; omega
 by_cases g3 : expo b = 0
 ·by_cases g2 : frac b = 0#64
  ·simp [h2, g2, g3]
   exact rd_eq rfl rfl
  ·simp [h2, g2, g3, q_0]
   exact rd_eq rfl rfl
 ·by_cases g1 : expo b = 2047
  ·by_cases g2 : frac b = 0#64
   ·simp [h2, h3, g1, g2]
    exact rd_eq rfl rfl
   ·simp [h2, h3, g1, g2, q_0]
    exact rd_eq rfl rfl
  ·simp [h2, h3, g1, g3]
   exact rd_eq rfl rfl
theorem canon_ok (b : Q) : PureC Tryz.prog GS 160 [e64 b] (e64 (canon b)) := by
 refine pure_of Tryz.checked.mixed GS_closed ?_
 apply call_intro c160_eq r160_eq
 unfold c160 r160 canon
 simp
 refine pure_call (class_ok b) rfl ?_
 by_cases h : cls b = 5#8
 ·simp [u_5, h]
  exact rd_eq rfl rfl
 ·simp [u_5, h]
  exact rd_eq rfl rfl
theorem refCanon_ok (b : Q) : PureC Tryz.prog GS 131 [e64 b] (e64 (canon b)) := by
 refine pure_of Tryz.checked.mixed GS_closed ?_
 apply call_intro c131_eq r131_eq
 unfold c131 r131 canon
 simp
 refine pure_call (refClass_ok b) rfl ?_
 by_cases h : cls b = 5#8
 ·simp [u_5, h]
  exact rd_eq rfl rfl
 ·simp [u_5, h]
  exact rd_eq rfl rfl
theorem vNumber_ok (n : Int) : PureC Tryz.prog GS 150 [.int .i64 n] (.ag (encV ⟨1#8, n, 0#64, []⟩)) := by
 refine pure_of Tryz.checked.mixed GS_closed ?_
 apply call_intro c150_eq r150_eq
 unfold c150 r150
 simp
 exact rd_eq rfl rfl
theorem vFloat_ok (b : Q) : PureC Tryz.prog GS 151 [e64 b] (.ag (encV ⟨2#8, 0, canon b, []⟩)) := by
 refine pure_of Tryz.checked.mixed GS_closed ?_
 apply call_intro c151_eq r151_eq
 unfold c151 r151
 simp
 refine pure_call (canon_ok b) rfl ?_
 simp
 exact rd_eq rfl rfl
def textV (s : List UInt8) : Val × Int := if s.length ≤ 30 then (if s.all (okC 32) then (⟨3#8, 0, 0#64, s⟩, 0) else (zeroVal, 8)) else (zeroVal, 4)
theorem vText_ok (s : List UInt8) : PureC Tryz.prog GS 152 [.str s] (.tu [.ag (encV (textV s).1), .int .i64 (textV s).2]) := by
 refine pure_of Tryz.checked.mixed GS_closed ?_
 apply call_intro c152_eq r152_eq
 unfold c152 r152 textV
 have h2 : ((30 : Int) < s.length) ↔ ¬ s.length ≤ 30 := by omega
 by_cases g2 : s.length ≤ 30
 ·simp [h2, g2]
  refine pure_call (strIndex_ok fn_textR textR_ok s) rfl ?_
  have h3 := ixR_all 32 (by omega) s s.length 0 (by omega)
  rw [List.drop_zero] at h3
  have h4 : ((0 : Int) ≤ ixR (badR 32) s s.length 0) ↔ ¬ (s.all (okC 32) = true) := by rw [← h3]; omega
  cases hb : s.all (okC 32) with
  | true =>
   have h5 : ¬ (0 : Int) ≤ ixR (badR 32) s s.length 0 := by rw [h4, hb]; simp
   simp [h5]
   exact rd_eq (by simp [g2]; rfl) rfl
  | false =>
   have h5 : (0 : Int) ≤ ixR (badR 32) s s.length 0 := by rw [h4, hb]; simp
   simp [h5]
   exact rd_eq (by simp [g2]; rfl) rfl
 ·simp [h2, g2]
  exact rd_eq rfl rfl
def valB (v : Val) : Bool :=
 if v.kind = 1#8 then decide (v.bits = 0#64) && decide (v.text = [])
 else if v.kind = 2#8 then decide (v.num = 0) && decide (v.text = []) && decide (canon v.bits = v.bits)
 else if v.kind = 3#8 then decide (v.num = 0) && decide (v.bits = 0#64) && decide (v.text.length ≤ 30) && v.text.all (okC 32)
 else false
def errB (b : Bool) : Int := if b then 0 else 8
def kV : List Tk := [.i .u8, .i .i64, .i .u64, .s]
theorem kinds_V : kindsT Tryz.prog 20 38 = some kV := by kernel_rfl
theorem v_eql (a b : Val) : binC Tryz.prog .eql 38 (.ag (encV a)) (.ag (encV b)) = some (.bool (beqL (encV a) (encV b))) := bin_plain_eql kinds_V (by kernel_rfl) (by kernel_rfl) rfl rfl
theorem v_neq (a b : Val) : binC Tryz.prog .neq 38 (.ag (encV a)) (.ag (encV b)) = some (.bool (!beqL (encV a) (encV b))) := bin_plain_neq kinds_V (by kernel_rfl) (by kernel_rfl) rfl rfl
theorem beq_encV (a b : Val) : beqL (encV a) (encV b) = (decide (a.kind = b.kind) && (decide (a.num = b.num) && (decide (a.bits = b.bits) && decide (a.text = b.text)))) := by
 simp [encV, beqL, CV.beq]
theorem valB1 {v : Val} (k : v.kind = 1#8) : valB v = (decide (v.bits = 0#64) && decide (v.text = [])) := by simp [valB, k]
theorem valB2 {v : Val} (k : v.kind = 2#8) : valB v = (decide (v.num = 0) && (decide (v.bits = canon v.bits) && decide (v.text = []))) := by
 unfold valB
 rw [if_neg (by rw [k]; decide), if_pos k, show decide (canon v.bits = v.bits) = decide (v.bits = canon v.bits) from decide_eq_decide.2 eq_comm]
 cases decide (v.num = 0) <;> cases decide (v.text = []) <;> cases decide (v.bits = canon v.bits) <;> rfl
theorem valB3 {v : Val} (k : v.kind = 3#8) : valB v = (decide (v.kind = (textV v.text).1.kind) && (decide (v.num = (textV v.text).1.num) && (decide (v.bits = (textV v.text).1.bits) && decide (v.text = (textV v.text).1.text)))) := by
 unfold valB textV
 rw [if_neg (by rw [k]; decide), if_neg (by rw [k]; decide), if_pos k]
 by_cases h1 : v.text.length ≤ 30
 ·cases h2 : v.text.all (okC 32) with
  | true => simp [h1, k]
  | false => simp [h1, k, zeroVal]
 ·simp [h1, k, zeroVal]
theorem valB4 {v : Val} (k1 : v.kind ≠ 1#8) (k2 : v.kind ≠ 2#8) (k3 : v.kind ≠ 3#8) : valB v = false := by simp [valB, k1, k2, k3]
theorem vCheck_ok (v : Val) : PureC Tryz.prog GS 137 [.ag (encV v)] (.int .i64 (errB (valB v))) := by
 refine pure_of Tryz.checked.mixed GS_closed ?_
 apply call_intro c137_eq r137_eq
 unfold c137 r137
 have hz : ∀ (k : B) (n : Int) (b : Q) (t : List UInt8), binC Tryz.prog .neq 38 (.ag [e8 v.kind, .int .i64 v.num, e64 v.bits, .str v.text]) (.ag [e8 k, .int .i64 n, e64 b, .str t]) = some (.bool (!(decide (v.kind = k) && (decide (v.num = n) && (decide (v.bits = b) && decide (v.text = t)))))) := fun k n b t => by rw [← beq_encV v ⟨k, n, b, t⟩]; exact v_neq v ⟨k, n, b, t⟩
 by_cases k1 : v.kind = 1#8
 ·have h1 := hz 1#8 v.num 0#64 []
  simp only [k1] at h1
  unfold encV
  simp [u_1, k1]
  refine pure_call (vNumber_ok v.num) rfl ?_
  unfold encV
  simp [h1]
  rw [valB1 k1]
  cases decide (v.bits = 0#64) <;> cases decide (v.text = []) <;> simp [k1] <;> exact rd_eq rfl rfl
 ·by_cases k2 : v.kind = 2#8
  ·have h1 := hz 2#8 0 (canon v.bits) []
   simp only [k2] at h1
   unfold encV
   simp [u_1, u_2, k2]
   refine pure_call (vFloat_ok v.bits) rfl ?_
   unfold encV
   simp [h1]
   rw [valB2 k2]
   cases decide (v.num = 0) <;> cases decide (v.bits = canon v.bits) <;> cases decide (v.text = []) <;> simp [k2] <;> exact rd_eq rfl rfl
  ·by_cases k3 : v.kind = 3#8
   ·obtain ⟨w, hw⟩ : ∃ w, w = (textV v.text).1 := ⟨_, rfl⟩
    have h1 := hz w.kind w.num w.bits w.text
    have h3 := valB3 k3
    rw [← hw] at h3
    simp only [k3] at h1 h3
    unfold encV
    simp [u_1, u_2, u_3, k3]
    refine pure_call (vText_ok v.text) rfl ?_
    rw [← hw]
    unfold encV
    simp [h1]
    rw [h3]
    cases decide (3#8 = w.kind) <;> cases decide (v.num = w.num) <;> cases decide (v.bits = w.bits) <;> cases decide (v.text = w.text) <;> simp [k3] <;> exact rd_eq rfl rfl
   ·have h1 : binC Tryz.prog .neq 38 (.ag [e8 v.kind, .int .i64 v.num, e64 v.bits, .str v.text]) (.ag [.int .u8 0, .int .i64 0, .int .u64 0, .str []]) = some (.bool (!(decide (v.kind = 0#8) && (decide (v.num = 0) && (decide (v.bits = 0#64) && decide (v.text = [])))))) := hz 0#8 0 0#64 []
    rw [valB4 k1 k2 k3]
    unfold encV
    simp [u_1, u_2, u_3, k1, k2, k3]
    by_cases k0 : v.kind = 0#8
    ·simp only [k0, decide_true, Bool.true_and] at h1
     simp [k0, h1]
     cases decide (v.num = 0) <;> cases decide (v.bits = 0#64) <;> cases decide (v.text = []) <;> simp [k0] <;> exact rd_eq rfl rfl
    ·simp only [k0, decide_false, Bool.false_and, Bool.not_false] at h1
     simp [h1]
     exact rd_eq rfl rfl
theorem refVCheck_ok (v : Val) : PureC Tryz.prog GS 104 [.ag (encV v)] (.int .i64 (errB (valB v))) := by
 refine pure_of Tryz.checked.mixed GS_closed ?_
 apply call_intro c104_eq r104_eq
 unfold c104 r104
 by_cases k1 : v.kind = 1#8
 ·rw [valB1 k1]
  unfold encV
  simp [u_1, k1, q_0]
  by_cases g1 : v.bits = 0#64 <;> by_cases g2 : v.text = [] <;> simp [g1, g2, q_0] <;> exact rd_eq rfl rfl
 ·by_cases k2 : v.kind = 2#8
  ·rw [valB2 k2]
   unfold encV
   simp [u_1, u_2, k2]
   by_cases g1 : v.num = 0
   ·by_cases g2 : v.text = []
    ·simp [g1, g2]
     refine pure_call (refCanon_ok v.bits) rfl ?_
     by_cases g3 : v.bits = canon v.bits
     ·have g4 : canon v.bits = v.bits := g3.symm
      simp [g4]
      exact rd_eq (by simp [errB, g1, g2, g4]) rfl
     ·have g4 : ¬ canon v.bits = v.bits := fun h => g3 h.symm
      simp [g3, g4]
      exact rd_eq (by simp [errB, g3]) rfl
    ·simp [g1, g2]
     exact rd_eq rfl rfl
   ·simp [g1]
    exact rd_eq rfl rfl
  ·by_cases k3 : v.kind = 3#8
   ·have hv : valB v = (decide (v.num = 0) && decide (v.bits = 0#64) && decide (v.text.length ≤ 30) && v.text.all (okC 32)) := by simp [valB, k3]
    have h2 : ((v.text.length : Int) ≤ 30) ↔ v.text.length ≤ 30 := by omega
    rw [hv]
    unfold encV
    simp [u_1, u_2, u_3, k3, q_0]
    by_cases g1 : v.num = 0
    ·by_cases g2 : v.bits = 0#64
     ·by_cases g3 : v.text.length ≤ 30
      ·simp [g1, g2, h2, g3]
       refine pure_call (printable_ok v.text (by omega)) rfl ?_
       cases v.text.all (okC 32) <;> simp <;> exact rd_eq (by simp [errB, g1, g2, g3]) rfl
      ·simp [g1, g2, h2, g3]
       exact rd_eq rfl rfl
     ·simp [g1, g2, q_0]
      exact rd_eq rfl rfl
    ·simp [g1]
     exact rd_eq rfl rfl
   ·rw [valB4 k1 k2 k3]
    unfold encV
    simp [u_1, u_2, u_3, k1, k2, k3]
    exact rd_eq rfl rfl
structure Act where
 kind : B
 key : List UInt8
 val : Val
def encA (a : Act) : List CV := [e8 a.kind, .str a.key, e8 a.val.kind, .int .i64 a.val.num, e64 a.val.bits, .str a.val.text]
def isZero (v : Val) : Bool := decide (v.kind = 0#8) && (decide (v.num = 0) && (decide (v.bits = 0#64) && decide (v.text = [])))
def actB (a : Act) : Bool :=
 if a.kind = 1#8 then decide (a.key = []) && isZero a.val
 else if a.kind = 2#8 ∨ a.kind = 3#8 then keyB a.key && isZero a.val
 else if a.kind = 4#8 then keyB a.key && valB a.val
 else false
def kA : List Tk := [.i .u8, .s, .i .u8, .i .i64, .i .u64, .s]
theorem kinds_A : kindsT Tryz.prog 20 40 = some kA := by kernel_rfl
theorem a_eql (a b : Act) : binC Tryz.prog .eql 40 (.ag (encA a)) (.ag (encA b)) = some (.bool (beqL (encA a) (encA b))) := bin_plain_eql kinds_A (by kernel_rfl) (by kernel_rfl) rfl rfl
theorem a_none (a : Act) (h : a.kind = 1#8) : binC Tryz.prog .eql 40 (.ag [.int .u8 1, .str a.key, e8 a.val.kind, .int .i64 a.val.num, e64 a.val.bits, .str a.val.text]) (.ag [.int .u8 1, .str [], .int .u8 0, .int .i64 0, .int .u64 0, .str []]) = some (.bool (decide (a.key = []) && isZero a.val)) := by
 have := a_eql a ⟨1#8, [], zeroVal⟩
 simp only [encA, h] at this
 refine Eq.trans this ?_
 simp [beqL, CV.beq, isZero, zeroVal, u_0, q_0]
 congr
theorem v_zero (v : Val) : binC Tryz.prog .eql 38 (.ag [e8 v.kind, .int .i64 v.num, e64 v.bits, .str v.text]) (.ag [.int .u8 0, .int .i64 0, .int .u64 0, .str []]) = some (.bool (isZero v)) := by
 have := v_eql v zeroVal
 rw [beq_encV] at this
 exact this
theorem act1 {a : Act} (k : a.kind = 1#8) : actB a = (decide (a.key = []) && isZero a.val) := by simp [actB, k]
theorem act2 {a : Act} (k : a.kind = 2#8) : actB a = (keyB a.key && isZero a.val) := by simp [actB, k]
theorem act3 {a : Act} (k : a.kind = 3#8) : actB a = (keyB a.key && isZero a.val) := by simp [actB, k]
theorem act4 {a : Act} (k : a.kind = 4#8) : actB a = (keyB a.key && valB a.val) := by simp [actB, k]
theorem act5 {a : Act} (k1 : a.kind ≠ 1#8) (k2 : a.kind ≠ 2#8) (k3 : a.kind ≠ 3#8) (k4 : a.kind ≠ 4#8) : actB a = false := by simp [actB, k1, k2, k3, k4]
theorem checkAct_ok (a : Act) : PureC Tryz.prog GS 117 [.ag (encA a)] (.int .i64 (errB (actB a))) := by
 refine pure_of Tryz.checked.mixed GS_closed ?_
 apply call_intro c117_eq r117_eq
 unfold c117 r117
 by_cases k1 : a.kind = 1#8
 ·have h1 := a_none a k1
  have e1 : e8 (1#8) = .int .u8 1 := rfl
  rw [act1 k1]
  unfold encA
  simp [u_1, k1, e1, h1]
  by_cases g1 : a.key = [] <;> cases g2 : isZero a.val <;> simp [g1, g2] <;> exact rd_eq rfl rfl
 ·have h1 := v_zero a.val
  by_cases k2 : a.kind = 2#8
  ·rw [act2 k2]
   unfold encA
   simp [u_1, u_2, u_3, k1, k2]
   refine pure_call (key_ok a.key) rfl ?_
   cases keyB a.key with
   | true => simp [h1]; cases isZero a.val <;> simp <;> exact rd_eq rfl rfl
   | false => simp; exact rd_eq rfl rfl
  ·by_cases k3 : a.kind = 3#8
   ·rw [act3 k3]
    unfold encA
    simp [u_1, u_2, u_3, k1, k3]
    refine pure_call (key_ok a.key) rfl ?_
    cases keyB a.key with
    | true => simp [h1]; cases isZero a.val <;> simp <;> exact rd_eq rfl rfl
    | false => simp; exact rd_eq rfl rfl
   ·by_cases k4 : a.kind = 4#8
    ·rw [act4 k4]
     unfold encA
     simp [u_1, u_2, u_3, u_4, k4]
     refine pure_call (key_ok a.key) rfl ?_
     cases keyB a.key with
     | true =>
      simp
      refine pure_call (vCheck_ok a.val) rfl ?_
      cases valB a.val <;> simp [errB] <;> exact rd_eq rfl rfl
     | false => simp; exact rd_eq rfl rfl
    ·rw [act5 k1 k2 k3 k4]
     unfold encA
     simp [u_1, u_2, u_3, u_4, k1, k2, k3, k4]
     exact rd_eq rfl rfl
theorem refCheckAct_ok (a : Act) : PureC Tryz.prog GS 72 [.ag (encA a)] (.int .i64 (errB (actB a))) := by
 refine pure_of Tryz.checked.mixed GS_closed ?_
 apply call_intro c72_eq r72_eq
 unfold c72 r72
 have h1 := v_zero a.val
 by_cases k1 : a.kind = 1#8
 ·rw [act1 k1]
  unfold encA
  simp [u_1, k1, h1]
  by_cases g1 : a.key = [] <;> cases g2 : isZero a.val <;> simp [g1, g2] <;> exact rd_eq rfl rfl
 ·by_cases k2 : a.kind = 2#8
  ·rw [act2 k2]
   unfold encA
   simp [u_1, u_2, u_3, k1, k2, h1]
   refine pure_call (name_ok a.key) rfl ?_
   cases keyB a.key with
   | true => simp; cases isZero a.val <;> simp <;> exact rd_eq rfl rfl
   | false => simp; exact rd_eq rfl rfl
  ·by_cases k3 : a.kind = 3#8
   ·rw [act3 k3]
    unfold encA
    simp [u_1, u_2, u_3, k1, k3, h1]
    refine pure_call (name_ok a.key) rfl ?_
    cases keyB a.key with
    | true => simp; cases isZero a.val <;> simp <;> exact rd_eq rfl rfl
    | false => simp; exact rd_eq rfl rfl
   ·by_cases k4 : a.kind = 4#8
    ·rw [act4 k4]
     unfold encA
     simp [u_1, u_2, u_3, u_4, k4, h1]
     refine pure_call (name_ok a.key) rfl ?_
     cases keyB a.key with
     | true =>
      simp
      refine pure_call (refVCheck_ok a.val) rfl ?_
      cases valB a.val <;> simp [errB] <;> exact rd_eq rfl rfl
     | false => simp; exact rd_eq rfl rfl
    ·rw [act5 k1 k2 k3 k4]
     unfold encA
     simp [u_1, u_2, u_3, u_4, k1, k2, k3, k4, h1]
     exact rd_eq rfl rfl
end Op
end Go.CM

namespace Go.CM
open Go Go.Proofs
set_option maxRecDepth 100000
def Ob {α : Type} (z : Nat) (enc : α → List CV) (l l1 : Hl) (v : CV) (a : List α) (nl : Bool) : Prop :=
 ∃ j, OwnS z l1 v j (a.map enc) ∧ l.length ≤ l1.length ∧ (∀ b, b < l.length → l1[b]? = l[b]?) ∧ (v = .nilS ∨ l.length ≤ j) ∧ isNilS v = nl
section
variable {α : Type} {z : Nat} {enc : α → List CV} {l l1 : Hl} {v : CV} {a : List α} {nl : Bool}
theorem Ob.nil : Ob z enc l l .nilS ([] : List α) true := ⟨0, .nil 0, Nat.le_refl _, fun _ _ => rfl, .inl rfl, rfl⟩
theorem Ob.more (h : Ob z enc l l1 v a nl) (r : Hl) : Ob z enc l (l1 ++ r) v a nl := by
 obtain ⟨j, h1, h2, h3, h4, h5⟩ := h
 exact ⟨j, h1.more r, by simp; omega, fun b hb => by rw [List.getElem?_append_left (by omega)]; exact h3 b hb, h4, h5⟩
theorem Ob.len (h : Ob z enc l l1 v a nl) : lenM (.sl z) v = some (.int .i64 a.length) := by
 obtain ⟨j, h1, _⟩ := h
 rw [h1.len, List.length_map]
theorem Ob.cells (h : Ob z enc l l1 v a nl) : v.cells = some [v] := by
 obtain ⟨j, h1, _⟩ := h
 exact h1.cells
theorem Ob.contents (h : Ob z enc l l1 v a nl) : contentsL l1 z v = some ((a.map enc).flatten, a.length) := by
 obtain ⟨j, h1, _⟩ := h
 rw [h1.contents, List.length_map]
theorem Ob.le (h : Ob z enc l l1 v a nl) : l.length ≤ l1.length := by obtain ⟨j, h1, h2, _⟩ := h; exact h2
theorem Ob.same (h : Ob z enc l l1 v a nl) : ∀ b, b < l.length → l1[b]? = l[b]? := by obtain ⟨j, h1, h2, h3, _⟩ := h; exact h3
theorem Ob.rdH (h : Ob z enc l l1 v a nl) (hf : ∀ x, closedL (enc x) = true) (s : Sv α) (hs : nl = s.isNone) (hx : s.l = a) : RdH (HL l1) v (encS z enc s) := by
 obtain ⟨j, h1, h2, h3, h4, h5⟩ := h
 exact h1.rdH_enc hf s (by rw [h5, hs]) hx
theorem Ob.rd (h : Ob z enc l l1 v a nl) (hf : ∀ x, closedL (enc x) = true) (s : Sv α) (hs : nl = s.isNone) (hx : s.l = a) : Rd l1 v (encS z enc s) := by
 obtain ⟨j, h1, h2, h3, h4, h5⟩ := h
 exact h1.q.rd_enc hf s (by rw [h5, hs]) hx
theorem Ob.rdN (h : Ob z enc l l1 v a nl) (hf : ∀ x, flatL (enc x) = true) (s : Sv α) (hs : nl = s.isNone) (hx : s.l = a) : RdN l1 v (encS z enc s) := by
 obtain ⟨j, h1, h2, h3, h4, h5⟩ := h
 exact h1.rdN_enc hf s (by rw [h5, hs]) hx
theorem Ob.base (h : Ob z enc l l1 v a nl) {l0 : Hl} (hl : l0.length ≤ l.length) (hs : ∀ b, b < l0.length → l[b]? = l0[b]?) : Ob z enc l0 l1 v a nl := by
 obtain ⟨j, h1, h2, h3, h4, h5⟩ := h
 exact ⟨j, h1, by omega, fun b hb => by rw [h3 b (by omega)]; exact hs b hb, h4.imp id (by omega), h5⟩
theorem Ob.frame (h : Ob z enc l l1 v a nl) {l2 : Hl} (hl : l1.length ≤ l2.length) (hs : ∀ b, b < l1.length → l2[b]? = l1[b]?) : Ob z enc l l2 v a nl := by
 obtain ⟨j, h1, h2, h3, h4, h5⟩ := h
 exact ⟨j, h1.frame fun hj => hs j hj, by omega, fun b hb => by rw [hs b (by omega)]; exact h3 b hb, h4, h5⟩
theorem Ob.app (h : Ob z enc l l1 v a nl) {by_ : Nat} {x : CV} {xs : List α} (hx : contentsL l1 z x = some ((xs.map enc).flatten, xs.length)) (hz : ∀ y ∈ xs, (enc y).length = z) (h0 : z ≠ 0) (hby : by_ ≠ 0) (hroom : (a.length + xs.length) * by_ ≤ roomMax) :
  ∃ v' l', appM l1 z by_ v x = some (v', l') ∧ Ob z enc l l' v' (a ++ xs) (nl && xs.isEmpty) ∧ l1.length ≤ l'.length := by
 obtain ⟨j, h1, h2, h3, h4, h5⟩ := h
 obtain ⟨v', j', l', g1, g2, g3, g4, g5, g6⟩ := appS (xs := xs.map enc) h1 (by simpa using hx) (fun e he => by obtain ⟨y, hy, rfl⟩ := List.mem_map.1 he; exact hz y hy) h0 hby (by simpa using hroom)
 refine ⟨v', l', g1, ⟨j', by rw [List.map_append]; exact g2, by omega, fun b hb => ?_, ?_, ?_⟩, g3⟩
 ·rw [g4 b (by omega)]
  ·exact h3 b hb
  ·rcases h4 with h | h
   ·exact .inl h
   ·exact .inr (by omega)
 ·rcases g5 with h | ⟨h6, h7⟩ | h
  ·exact .inr (by omega)
  ·rcases h4 with h | h
   ·exact absurd h h6
   ·exact .inr (by omega)
  ·exact .inl h
 ·rw [g6, h5]; simp
end
namespace Op
open Sha
theorem Ob.push {l l1 : Hl} {v : CV} {a : List B} {nl : Bool} (h : Ob 1 enc8 l l1 v a nl) (x : B) (hroom : a.length ≤ 1000000000) :
  ∃ v' l', appM (l1 ++ [.cells 1 [e8 x]]) 1 1 v (.sl 1 l1.length 0 1 1 1) = some (v', l') ∧ Ob 1 enc8 l l' v' (a ++ [x]) false := by
 have hr : roomMax = 140737488355328 := rfl
 obtain ⟨v', l', g1, g2, _⟩ := (h.more [.cells 1 [e8 x]]).app (by_ := 1) (x := .sl 1 l1.length 0 1 1 1) (xs := [x]) (by simp [contentsL, enc8]) (by simp [enc8]) (by omega) (by omega) (by rw [hr]; simp; omega)
 exact ⟨v', l', g1, by simpa using g2⟩
theorem enc8_flat : ∀ a : List B, (a.map enc8).flatten = a.map e8
 | [] => rfl
 | x :: a => by rw [List.map_cons, List.flatten_cons, enc8_flat a]; rfl
theorem own_arr {l : Hl} {j n : Nat} {a : List B} (ha : a.length = n) (hj : l[j]? = some (.cells n (a.map e8))) : OwnS 1 l (.sl 1 j 0 n n n) j (a.map enc8) := by
 refine .sl j n n n (a.map e8) _ hj (by simp [ha]) (by simp [ha]) (fun e he => ?_) (Nat.le_refl _) (by omega) ?_
 ·obtain ⟨x, _, rfl⟩ := List.mem_map.1 he; rfl
 ·rw [List.take_of_length_le (by simp [ha]), enc8_flat]
def nk (n : Nat) : Nat := if n < 256 then 1 else if n < 65536 then 2 else if n < 16777216 then 3 else if n < 4294967296 then 4 else if n < 1099511627776 then 5 else if n < 281474976710656 then 6 else if n < 72057594037927936 then 7 else 8
theorem nk_le (n : Nat) : 1 ≤ nk n ∧ nk n ≤ 8 := by unfold nk; refine ⟨?_, ?_⟩ <;> (repeat' split) <;> omega
def byteAt (n i : Nat) : B := BitVec.ofNat 8 (n >>> (8 * i))
def tailBE (n : Nat) : Nat → List B
 | 0 => []
 | i + 1 => byteAt n i :: tailBE n i
theorem tailBE_len (n : Nat) : ∀ i, (tailBE n i).length = i
 | 0 => rfl
 | i + 1 => by simp [tailBE, tailBE_len n i]
def numB (n : Nat) : List B := if n ≤ 247 then [BitVec.ofNat 8 n] else BitVec.ofNat 8 (247 + nk n) :: tailBE n (nk n)
def l8 (x : Nat) : Nat := if x < 1 then 0 else if x < 2 then 1 else if x < 4 then 2 else if x < 8 then 3 else if x < 16 then 4 else if x < 32 then 5 else if x < 64 then 6 else if x < 128 then 7 else 8
def tabL : List UInt8 := [0, 1, 2, 2, 3, 3, 3, 3, 4, 4, 4, 4, 4, 4, 4, 4, 5, 5, 5, 5, 5, 5, 5, 5, 5, 5, 5, 5, 5, 5, 5, 5, 6, 6, 6, 6, 6, 6, 6, 6, 6, 6, 6, 6, 6, 6, 6, 6, 6, 6, 6, 6, 6, 6, 6, 6, 6, 6, 6, 6, 6, 6, 6, 6, 7, 7, 7, 7, 7, 7, 7, 7, 7, 7, 7, 7, 7, 7, 7, 7, 7, 7, 7, 7, 7, 7, 7, 7, 7, 7, 7, 7, 7, 7, 7, 7, 7, 7, 7, 7, 7, 7, 7, 7, 7, 7, 7, 7, 7, 7, 7, 7, 7, 7, 7, 7, 7, 7, 7, 7, 7, 7, 7, 7, 7, 7, 7, 7, 8, 8, 8, 8, 8, 8, 8, 8, 8, 8, 8, 8, 8, 8, 8, 8, 8, 8, 8, 8, 8, 8, 8, 8, 8, 8, 8, 8, 8, 8, 8, 8, 8, 8, 8, 8, 8, 8, 8, 8, 8, 8, 8, 8, 8, 8, 8, 8, 8, 8, 8, 8, 8, 8, 8, 8, 8, 8, 8, 8, 8, 8, 8, 8, 8, 8, 8, 8, 8, 8, 8, 8, 8, 8, 8, 8, 8, 8, 8, 8, 8, 8, 8, 8, 8, 8, 8, 8, 8, 8, 8, 8, 8, 8, 8, 8, 8, 8, 8, 8, 8, 8, 8, 8, 8, 8, 8, 8, 8, 8, 8, 8, 8, 8, 8, 8, 8, 8, 8, 8, 8, 8, 8, 8, 8, 8, 8, 8]
def tabGo : Nat → List UInt8 → Bool
 | _, [] => true
 | i, x :: r => Nat.beq x.toNat (l8 i) && tabGo (i + 1) r
theorem tabGo_get : ∀ (i : Nat) (l : List UInt8), tabGo i l = true → ∀ (j : Nat) (x : UInt8), l[j]? = some x → x.toNat = l8 (i + j)
 | i, [], _, j, x, h => by simp at h
 | i, y :: r, h, j, x, hx => by
  simp only [tabGo, Bool.and_eq_true] at h
  cases j with
  | zero => simp at hx; subst hx; exact Nat.eq_of_beq_eq_true h.1
  | succ j => simp at hx; rw [tabGo_get (i + 1) r h.2 j x hx]; congr 1; omega
theorem tab_get (i : Nat) (h : i < 256) : ∃ x, tabL[i]? = some x ∧ x.toNat = l8 i := by
 have hl : tabL.length = 256 := by kernel_rfl
 have hg := tabGo_get 0 tabL (by kernel_rfl) i _ (List.getElem?_eq_getElem (by omega))
 exact ⟨_, List.getElem?_eq_getElem (by omega), by rw [hg]; congr 1; omega⟩
theorem l8_le (x : Nat) : l8 x ≤ 8 := by unfold l8; (repeat' split) <;> omega
def len64 (n : Nat) : Nat :=
 if n < 256 then l8 n else if n < 65536 then 8 + l8 (n / 256) else if n < 16777216 then 16 + l8 (n / 65536) else if n < 4294967296 then 24 + l8 (n / 16777216)
 else if n < 1099511627776 then 32 + l8 (n / 4294967296) else if n < 281474976710656 then 40 + l8 (n / 1099511627776) else if n < 72057594037927936 then 48 + l8 (n / 281474976710656) else 56 + l8 (n / 72057594037927936)
theorem len64_nk (n : Nat) (h : 1 ≤ n) : (len64 n + 7) / 8 = nk n := by
 have hl : ∀ x, 1 ≤ x → 1 ≤ l8 x ∧ l8 x ≤ 8 := fun x hx => ⟨by unfold l8; rw [if_neg (by omega)]; (repeat' split) <;> omega, l8_le x⟩
 unfold len64 nk
 repeat' split
 ·have := hl n h; omega
 ·have := hl (n / 256) (by omega); omega
 ·have := hl (n / 65536) (by omega); omega
 ·have := hl (n / 16777216) (by omega); omega
 ·have := hl (n / 4294967296) (by omega); omega
 ·have := hl (n / 1099511627776) (by omega); omega
 ·have := hl (n / 281474976710656) (by omega); omega
 ·have := hl (n / 72057594037927936) (by omega); omega
theorem shr_u64 (x : Q) (k : Nat) : binInt .shr .u64 (u x) .u64 (k : Int) = some (.int .u64 (u (x >>> k))) := bshrn_u64 x .u64 k
theorem W_at {i : Nat} {y : UInt8} {k : UInt8 → Prop} (h : tabL[i]? = some y) (hk : k y) : W tabL[i]? (c := ⟨k⟩) := by rw [h]; exact hk
set_option maxHeartbeats 4000000 in
theorem len64_ok (n : Q) : PureC Tryz.prog GS 85 [e64 n] (.int .i64 (len64 n.toNat)) := by
 refine pure_of Tryz.checked.mixed GS_closed ?_
 apply call_intro c85_eq r85_eq
 unfold c85 r85
 have v8 : IntKind.i64.wrap 8 = 8 := rfl
 have v16 : IntKind.i64.wrap 16 = 16 := rfl
 have v24 : IntKind.i64.wrap 24 = 24 := rfl
 have v32 : IntKind.i64.wrap 32 = 32 := rfl
 have v40 : IntKind.i64.wrap 40 = 40 := rfl
 have v48 : IntKind.i64.wrap 48 = 48 := rfl
 have v56 : IntKind.i64.wrap 56 = 56 := rfl
 have c1 : ∀ x : Q, ((4294967296 : Int) ≤ u x) ↔ 4294967296 ≤ x.toNat := fun x => by unfold u; omega
 have c2 : ∀ x : Q, ((65536 : Int) ≤ u x) ↔ 65536 ≤ x.toNat := fun x => by unfold u; omega
 have c3 : ∀ x : Q, ((256 : Int) ≤ u x) ↔ 256 ≤ x.toNat := fun x => by unfold u; omega
 have s32 : ∀ x : Q, binInt .shr .u64 (u x) .u64 32 = some (.int .u64 (u (x >>> 32))) := fun x => shr_u64 x 32
 have s16 : ∀ x : Q, binInt .shr .u64 (u x) .u64 16 = some (.int .u64 (u (x >>> 16))) := fun x => shr_u64 x 16
 have s8 : ∀ x : Q, binInt .shr .u64 (u x) .u64 8 = some (.int .u64 (u (x >>> 8))) := fun x => shr_u64 x 8
 have t32 : n.toNat >>> 32 = n.toNat / 4294967296 := by rw [Nat.shiftRight_eq_div_pow]
 have t48 : n.toNat >>> 48 = n.toNat / 281474976710656 := by rw [Nat.shiftRight_eq_div_pow]
 have t16 : n.toNat >>> 16 = n.toNat / 65536 := by rw [Nat.shiftRight_eq_div_pow]
 have hbt := n.isLt
 by_cases h1 : 4294967296 ≤ n.toNat
 ·by_cases h2 : 65536 ≤ n.toNat >>> 32
  ·by_cases h3 : 256 ≤ n.toNat >>> 48
   ·have q0 : n.toNat >>> 56 % 256 = n.toNat / 72057594037927936 := by rw [Nat.shiftRight_eq_div_pow]; exact Nat.mod_eq_of_lt (by omega)
    obtain ⟨y, g1, g2⟩ := tab_get (n.toNat / 72057594037927936) (by omega)
    have g3 := l8_le (n.toNat / 72057594037927936)
    rw [← g2] at g3
    have w1 : IntKind.i64.wrap (y.toNat : Int) = y.toNat := wrap_i64 (by omega) (by omega)
    have w2 : IntKind.i64.wrap (56 + (y.toNat : Int)) = ((56 + y.toNat : Nat) : Int) := by rw [wrap_i64 (by omega) (by omega)]; omega
    have w3 : len64 n.toNat = 56 + y.toNat := by unfold len64; rw [g2]; (repeat' split) <;> first | omega | rfl
    simp [c1, c2, c3, s32, s16, s8, h1, h2, h3]
    refine W_at (y := y) (by rw [q0]; exact g1) ?_
    rw [w3]
    simp [byteC, w1, w2]
    exact rd_eq (by simp [v8, v16, v24, v32, v40, v48, v56, w2]) rfl
   ·have q0 : n.toNat >>> 48 % 256 = n.toNat / 281474976710656 := by rw [Nat.shiftRight_eq_div_pow]; exact Nat.mod_eq_of_lt (by omega)
    obtain ⟨y, g1, g2⟩ := tab_get (n.toNat / 281474976710656) (by omega)
    have g3 := l8_le (n.toNat / 281474976710656)
    rw [← g2] at g3
    have w1 : IntKind.i64.wrap (y.toNat : Int) = y.toNat := wrap_i64 (by omega) (by omega)
    have w2 : IntKind.i64.wrap (48 + (y.toNat : Int)) = ((48 + y.toNat : Nat) : Int) := by rw [wrap_i64 (by omega) (by omega)]; omega
    have w3 : len64 n.toNat = 48 + y.toNat := by unfold len64; rw [g2]; (repeat' split) <;> first | omega | rfl
    simp [c1, c2, c3, s32, s16, s8, h1, h2, h3]
    refine W_at (y := y) (by rw [q0]; exact g1) ?_
    rw [w3]
    simp [byteC, w1, w2]
    exact rd_eq (by simp [v8, v16, v24, v32, v40, v48, v56, w2]) rfl
  ·by_cases h3 : 256 ≤ n.toNat >>> 32
   ·have q0 : n.toNat >>> 40 % 256 = n.toNat / 1099511627776 := by rw [Nat.shiftRight_eq_div_pow]; exact Nat.mod_eq_of_lt (by omega)
    obtain ⟨y, g1, g2⟩ := tab_get (n.toNat / 1099511627776) (by omega)
    have g3 := l8_le (n.toNat / 1099511627776)
    rw [← g2] at g3
    have w1 : IntKind.i64.wrap (y.toNat : Int) = y.toNat := wrap_i64 (by omega) (by omega)
    have w2 : IntKind.i64.wrap (40 + (y.toNat : Int)) = ((40 + y.toNat : Nat) : Int) := by rw [wrap_i64 (by omega) (by omega)]; omega
    have w3 : len64 n.toNat = 40 + y.toNat := by unfold len64; rw [g2]; (repeat' split) <;> first | omega | rfl
    simp [c1, c2, c3, s32, s16, s8, h1, h2, h3]
    refine W_at (y := y) (by rw [q0]; exact g1) ?_
    rw [w3]
    simp [byteC, w1, w2]
    exact rd_eq (by simp [v8, v16, v24, v32, v40, v48, v56, w2]) rfl
   ·have q0 : n.toNat >>> 32 % 256 = n.toNat / 4294967296 := by rw [Nat.shiftRight_eq_div_pow]; exact Nat.mod_eq_of_lt (by omega)
    obtain ⟨y, g1, g2⟩ := tab_get (n.toNat / 4294967296) (by omega)
    have g3 := l8_le (n.toNat / 4294967296)
    rw [← g2] at g3
    have w1 : IntKind.i64.wrap (y.toNat : Int) = y.toNat := wrap_i64 (by omega) (by omega)
    have w2 : IntKind.i64.wrap (32 + (y.toNat : Int)) = ((32 + y.toNat : Nat) : Int) := by rw [wrap_i64 (by omega) (by omega)]; omega
    have w3 : len64 n.toNat = 32 + y.toNat := by unfold len64; rw [g2]; (repeat' split) <;> first | omega | rfl
    simp [c1, c2, c3, s32, s16, s8, h1, h2, h3]
    refine W_at (y := y) (by rw [q0]; exact g1) ?_
    rw [w3]
    simp [byteC, w1, w2]
    exact rd_eq (by simp [v8, v16, v24, v32, v40, v48, v56, w2]) rfl
 ·by_cases h2 : 65536 ≤ n.toNat
  ·by_cases h3 : 256 ≤ n.toNat >>> 16
   ·have q0 : n.toNat >>> 24 % 256 = n.toNat / 16777216 := by rw [Nat.shiftRight_eq_div_pow]; exact Nat.mod_eq_of_lt (by omega)
    obtain ⟨y, g1, g2⟩ := tab_get (n.toNat / 16777216) (by omega)
    have g3 := l8_le (n.toNat / 16777216)
    rw [← g2] at g3
    have w1 : IntKind.i64.wrap (y.toNat : Int) = y.toNat := wrap_i64 (by omega) (by omega)
    have w2 : IntKind.i64.wrap (24 + (y.toNat : Int)) = ((24 + y.toNat : Nat) : Int) := by rw [wrap_i64 (by omega) (by omega)]; omega
    have w3 : len64 n.toNat = 24 + y.toNat := by unfold len64; rw [g2]; (repeat' split) <;> first | omega | rfl
    simp [c1, c2, c3, s32, s16, s8, h1, h2, h3]
    refine W_at (y := y) (by rw [q0]; exact g1) ?_
    rw [w3]
    simp [byteC, w1, w2]
    exact rd_eq (by simp [v8, v16, v24, v32, v40, v48, v56, w2]) rfl
   ·have q0 : n.toNat >>> 16 % 256 = n.toNat / 65536 := by rw [Nat.shiftRight_eq_div_pow]; exact Nat.mod_eq_of_lt (by omega)
    obtain ⟨y, g1, g2⟩ := tab_get (n.toNat / 65536) (by omega)
    have g3 := l8_le (n.toNat / 65536)
    rw [← g2] at g3
    have w1 : IntKind.i64.wrap (y.toNat : Int) = y.toNat := wrap_i64 (by omega) (by omega)
    have w2 : IntKind.i64.wrap (16 + (y.toNat : Int)) = ((16 + y.toNat : Nat) : Int) := by rw [wrap_i64 (by omega) (by omega)]; omega
    have w3 : len64 n.toNat = 16 + y.toNat := by unfold len64; rw [g2]; (repeat' split) <;> first | omega | rfl
    simp [c1, c2, c3, s32, s16, s8, h1, h2, h3]
    refine W_at (y := y) (by rw [q0]; exact g1) ?_
    rw [w3]
    simp [byteC, w1, w2]
    exact rd_eq (by simp [v8, v16, v24, v32, v40, v48, v56, w2]) rfl
  ·by_cases h3 : 256 ≤ n.toNat
   ·have q0 : n.toNat >>> 8 % 256 = n.toNat / 256 := by rw [Nat.shiftRight_eq_div_pow]; exact Nat.mod_eq_of_lt (by omega)
    obtain ⟨y, g1, g2⟩ := tab_get (n.toNat / 256) (by omega)
    have g3 := l8_le (n.toNat / 256)
    rw [← g2] at g3
    have w1 : IntKind.i64.wrap (y.toNat : Int) = y.toNat := wrap_i64 (by omega) (by omega)
    have w2 : IntKind.i64.wrap (8 + (y.toNat : Int)) = ((8 + y.toNat : Nat) : Int) := by rw [wrap_i64 (by omega) (by omega)]; omega
    have w3 : len64 n.toNat = 8 + y.toNat := by unfold len64; rw [g2]; (repeat' split) <;> first | omega | rfl
    simp [c1, c2, c3, s32, s16, s8, h1, h2, h3]
    refine W_at (y := y) (by rw [q0]; exact g1) ?_
    rw [w3]
    simp [byteC, w1, w2]
    exact rd_eq (by simp [v8, v16, v24, v32, v40, v48, v56, w2]) rfl
   ·have q0 : n.toNat % 256 = n.toNat := Nat.mod_eq_of_lt (by omega)
    obtain ⟨y, g1, g2⟩ := tab_get (n.toNat) (by omega)
    have g3 := l8_le (n.toNat)
    rw [← g2] at g3
    have w1 : IntKind.i64.wrap (y.toNat : Int) = y.toNat := wrap_i64 (by omega) (by omega)
    have w2 : IntKind.i64.wrap (0 + (y.toNat : Int)) = ((0 + y.toNat : Nat) : Int) := by rw [wrap_i64 (by omega) (by omega)]; omega
    have w3 : len64 n.toNat = 0 + y.toNat := by unfold len64; rw [g2]; (repeat' split) <;> first | omega | rfl
    simp [c1, c2, c3, s32, s16, s8, h1, h2, h3]
    refine W_at (y := y) (by rw [q0]; exact g1) ?_
    rw [w3]
    simp [byteC, w1, w2]
    exact rd_eq (by simp [v8, v16, v24, v32, v40, v48, v56, w2]) rfl
theorem byte_shr (n : Q) (i : Nat) : (n >>> (8 * i)).setWidth 8 = byteAt n.toNat i := by
 apply BitVec.eq_of_toNat_eq
 unfold byteAt
 rw [BitVec.toNat_setWidth, BitVec.toNat_ushiftRight, BitVec.toNat_ofNat]
theorem set_last (l : Hl) (c d : CB) : (l ++ [c]).set l.length d = l ++ [d] := by rw [List.set_append_right _ _ (Nat.le_refl _)]; simp
def nrow (n k i : Nat) : List B := BitVec.ofNat 8 (247 + k) :: (List.replicate (k - i) 0#8 ++ tailBE n i)
theorem nrow_len (n k i : Nat) (h : i ≤ k) : (nrow n k i).length = k + 1 := by simp [nrow, tailBE_len]; omega
theorem nrow_set (n k i : Nat) (h : i < k) : (nrow n k i).set (k - i) (byteAt n i) = nrow n k (i + 1) := by
 unfold nrow
 obtain ⟨m, hm⟩ : ∃ m, k - i = m + 1 := ⟨k - i - 1, by omega⟩
 rw [hm, List.set_cons_succ, show k - (i + 1) = m by omega, List.replicate_succ', List.append_assoc]
 congr 1
 rw [List.set_append_right _ _ (by simp)]
 simp [tailBE]
theorem wNumber_own (n : Q) {l : Hl} {K : CV → Hl → Prop} (hK : ∀ v j l', OwnS 1 l' v j ((numB n.toNat).map enc8) → l.length ≤ l'.length → (∀ b, b < l.length → l'[b]? = l[b]?) → l.length ≤ j → isNilS v = false → K v l') :
  CallP Tryz.prog GS 90 [e64 n] l (c := ⟨K⟩) := by
 apply call_intro c90_eq r90_eq
 unfold c90 r90
 have c1 : ((u n : Int) ≤ 247) ↔ n.toNat ≤ 247 := by unfold u; omega
 by_cases h : n.toNat ≤ 247
 ·have hnb : numB n.toNat = [n.setWidth 8] := by
   unfold numB; rw [if_pos h]; rfl
  simp [c1, h]
  refine hK _ l.length _ (own_arr (n := 1) (a := numB n.toNat) (by rw [hnb]; rfl) (by rw [hnb]; simp)) (by simp) (fun b hb => List.getElem?_append_left hb) (Nat.le_refl _) rfl
 ·have hk := nk_le n.toNat
  obtain ⟨k, hkk⟩ : ∃ k, nk n.toNat = k := ⟨_, rfl⟩
  have hnb : numB n.toNat = nrow n.toNat k k := by unfold numB nrow; rw [if_neg h, hkk]; simp
  have hl64 := len64_nk n.toNat (by omega)
  rw [hkk] at hl64 hk
  obtain ⟨L, hL⟩ : ∃ L, len64 n.toNat = L := ⟨_, rfl⟩
  rw [hL] at hl64
  have w1 : IntKind.i64.wrap ((L : Int) + 7) = ((L + 7 : Nat) : Int) := by rw [wrap_i64 (by omega) (by omega)]; omega
  have q1 : binInt .quo .i64 ((L + 7 : Nat) : Int) .i64 8 = some (.int .i64 (k : Int)) := by rw [bquo_nat _ 8 (by omega) (by omega)]; rw [show (8 : Int).toNat = 8 from rfl, hl64]
  have w2 : IntKind.i64.wrap ((k : Int) + 1) = ((k + 1 : Nat) : Int) := by rw [wrap_i64 (by omega) (by omega)]; omega
  have w3 : IntKind.i64.wrap (247 + (k : Int)) = ((247 + k : Nat) : Int) := by rw [wrap_i64 (by omega) (by omega)]; omega
  have m1 : mksC 1 1 [.int .u8 0] l (.int .i64 ((k + 1 : Nat) : Int)) (.int .i64 ((k + 1 : Nat) : Int)) = some (.sl 1 l.length 0 (k + 1) (k + 1) (k + 1), l ++ [.cells (k + 1) ((List.replicate (k + 1) 0#8).map e8)]) := by
   unfold mksC
   have hr : roomMax = 140737488355328 := rfl
   simp only []
   rw [if_pos ⟨by omega, by omega, by omega, by rw [hr]; omega⟩, repeatC_flat]
   simp
  simp [c1, h]
  refine pure_call (len64_ok n) rfl ?_
  rw [hL]
  have e0 : splice (List.replicate (k + 1) (e8 0#8)) 0 [e8 (BitVec.ofNat 8 (247 + k))] = (nrow n.toNat k 0).map e8 := by
   rw [List.replicate_succ, splice_c, splice_n]; simp [nrow, tailBE]
  simp [w1, q1, w2, w3, m1, -Int.natCast_add]
  refine loop_up k (fun i σ l1 => σ 0 = e64 n ∧ σ 3 = .int .i64 k ∧ σ 4 = .sl 1 l.length 0 (k + 1) (k + 1) (k + 1) ∧ σ 23 = .int .i64 k ∧ σ 24 = .int .i64 i ∧ l1 = l ++ [.cells (k + 1) ((nrow n.toNat k i).map e8)]) ?_ ?_
  ·rintro i σ l1 hi ⟨g0, g3, g4, g23, g24, rfl⟩
   obtain ⟨σ, rfl⟩ := upds5 g0 g3 g4 g23 g24
   clear g0 g3 g4 g23 g24
   unfold l90_0
   by_cases hik : i < k
   ·have x1 : IntKind.i64.wrap ((k : Int) - i) = ((k - i : Nat) : Int) := by rw [wrap_i64 (by omega) (by omega)]; omega
    have x2 : IntKind.i64.wrap (8 * (i : Int)) = ((8 * i : Nat) : Int) := by rw [wrap_i64 (by omega) (by omega)]; omega
    have x3 : IntKind.i64.wrap ((i : Int) + 1) = ((i + 1 : Nat) : Int) := by rw [wrap_i64 (by omega) (by omega)]; omega
    have x4 : binInt .shr .u64 (u n) .i64 ((8 * i : Nat) : Int) = some (.int .u64 (u (n >>> (8 * i)))) := bshrn_u64 n .i64 (8 * i)
    have x5 := byte_shr n i
    have x6 := splice_set e8 (nrow n.toNat k i) (k - i) (byteAt n.toNat i) (by rw [nrow_len _ _ _ hi]; omega)
    rw [nrow_set _ _ _ hik] at x6
    obtain ⟨d, hd⟩ : ∃ d, k - i = d := ⟨_, rfl⟩
    obtain ⟨e, he⟩ : ∃ e, 8 * i = e := ⟨_, rfl⟩
    rw [hd] at x1 x6
    rw [he] at x2 x4 x5
    have hdk : d ≤ k := by omega
    simp [hik, x1, x2, x3, x4, x5, x6, hdk, -Int.natCast_add, set_last]
    omega
   ·have hi' : i = k := by omega
    subst hi'
    simp
    refine hK _ l.length _ (own_arr (n := i + 1) (a := numB n.toNat) (by rw [hnb, nrow_len _ _ _ (Nat.le_refl _)]) (by rw [hnb]; simp)) (by simp) (fun b hb => List.getElem?_append_left hb) (Nat.le_refl _) rfl
  ·simp
   exact e0
theorem nk_lt {n : Nat} (h : n < 18446744073709551616) : n < 256 ^ nk n := by
 unfold nk; (repeat' split) <;> simp <;> omega
theorem nk_min {n k : Nat} (h1 : 1 ≤ n) (h : k < nk n) : 256 ^ k ≤ n := by
 have h8 := (nk_le n).2
 have hk : k = 0 ∨ k = 1 ∨ k = 2 ∨ k = 3 ∨ k = 4 ∨ k = 5 ∨ k = 6 ∨ k = 7 := by omega
 rcases hk with rfl | rfl | rfl | rfl | rfl | rfl | rfl | rfl <;> simp <;> unfold nk at h <;> (repeat' split at h) <;> omega
theorem shr_zero {n k : Nat} (h1 : 1 ≤ n) (h : n < 18446744073709551616) (hk : k ≤ nk n) : n >>> (8 * k) = 0 ↔ k = nk n := by
 have hp : 2 ^ (8 * k) = 256 ^ k := by rw [Nat.pow_mul]
 rw [Nat.shiftRight_eq_div_pow, hp, Nat.div_eq_zero_iff]
 constructor
 ·rintro (h2 | h2)
  ·exact absurd h2 (by have : 0 < 256 ^ k := Nat.pow_pos (by decide); omega)
  ·rcases Nat.lt_or_ge k (nk n) with h3 | h3
   ·have := nk_min h1 h3; omega
   ·omega
 ·rintro rfl
  exact .inr (nk_lt h)
theorem tailBE_rev (n : Nat) : ∀ k, tailBE n k = ((List.range k).map (byteAt n)).reverse
 | 0 => rfl
 | k + 1 => by rw [tailBE, tailBE_rev n k, List.range_succ, List.map_append, List.reverse_append]; rfl
def digs (n k : Nat) : List B := (List.range k).map (byteAt n)
theorem digs_succ (n k : Nat) : digs n (k + 1) = digs n k ++ [byteAt n k] := by simp [digs, List.range_succ]
theorem digs_len (n k : Nat) : (digs n k).length = k := by simp [digs]
theorem digs_get (n k i : Nat) (h : i < k) : (digs n k)[i]? = some (byteAt n i) := by simp [digs, h]
theorem rem_256 (x : Q) : binInt .rem .u64 (u x) .u64 256 = some (.int .u64 (u (x % 256#64))) := brem_u64 x 256#64 (by decide)
theorem quo_256 (x : Q) : binInt .quo .u64 (u x) .u64 256 = some (.int .u64 (u (x / 256#64))) := quo_u64 x 256#64 (by decide)
theorem low_byte (n : Q) (i : Nat) : ((n >>> (8 * i)) % 256#64).setWidth 8 = byteAt n.toNat i := by
 rw [← byte_shr]
 apply BitVec.eq_of_toNat_eq
 rw [BitVec.toNat_setWidth, BitVec.toNat_umod, BitVec.toNat_setWidth]
 show _ % 256 % 2 ^ 8 = _ % 2 ^ 8
 omega
theorem next_shr (n : Q) (i : Nat) : (n >>> (8 * i)) / 256#64 = n >>> (8 * (i + 1)) := by
 apply BitVec.eq_of_toNat_eq
 rw [BitVec.toNat_udiv, BitVec.toNat_ushiftRight, BitVec.toNat_ushiftRight, Nat.shiftRight_eq_div_pow, Nat.shiftRight_eq_div_pow, show 8 * (i + 1) = 8 * i + 8 by omega, Nat.pow_add, ← Nat.div_div_eq_div_mul]; rfl
theorem Ob.get {l l1 : Hl} {v : CV} {a : List B} {nl : Bool} (h : Ob 1 enc8 l l1 v a nl) {k : IntKind} {i : Nat} {x : B} (hx : a[i]? = some x) : ∃ p cs o, iaC (.sl 1) v (.int k (i : Int)) = some p ∧ reachL l1 p = some (cs, o) ∧ cs[o]? = some (e8 x) := by
 obtain ⟨j, h, _⟩ := h
 obtain ⟨p, cs, o, h1, h2, h3, h4⟩ := h.q.get (k := k) (i := i) (e := enc8 x) (by rw [List.getElem?_map, hx]; rfl)
 refine ⟨p, cs, o, h1, h2, ?_⟩
 have := congrArg (fun l => l[0]?) h4
 simp [List.getElem?_take, List.getElem?_drop, enc8] at this
 exact this
theorem wNumber_ob (n : Q) {l : Hl} {K : CV → Hl → Prop} (hK : ∀ v l', Ob 1 enc8 l l' v (numB n.toNat) false → K v l') : CallP Tryz.prog GS 90 [e64 n] l (c := ⟨K⟩) :=
 wNumber_own n fun v j l' h1 h2 h3 h4 h5 => hK v l' ⟨j, h1, h2, h3, .inr h4, h5⟩
structure NumI (l : Hl) (n : Q) (i : Nat) (σ : Sg) (l1 : Hl) : Prop where
 g0 : σ 0 = e64 (n >>> (8 * i))
 ob : ∃ v, σ 3 = v ∧ Ob 1 enc8 l l1 v (digs n.toNat i) (decide (i = 0))
structure NumJ (l1 : Hl) (v : CV) (n : Q) (k i : Nat) (σ : Sg) (l2 : Hl) : Prop where
 g3 : σ 3 = v
 g5 : σ 5 = .int .i64 ((k : Int) - 1 - i)
 ob : ∃ w, σ 4 = w ∧ Ob 1 enc8 l1 l2 w (BitVec.ofNat 8 (247 + k) :: ((digs n.toNat k).reverse.take i)) false
theorem rNumber_ob (n : Q) {l : Hl} {K : CV → Hl → Prop} (hK : ∀ v l', Ob 1 enc8 l l' v (numB n.toNat) false → K v l') :
  CallP Tryz.prog GS 98 [e64 n] l (c := ⟨K⟩) := by
 apply call_intro c98_eq r98_eq
 unfold c98 r98
 have c1 : ((u n : Int) ≤ 247) ↔ n.toNat ≤ 247 := by unfold u; omega
 by_cases h : n.toNat ≤ 247
 ·have hnb : numB n.toNat = [n.setWidth 8] := by
   unfold numB; rw [if_pos h]; rfl
  simp [c1, h]
  exact hK _ _ ⟨l.length, own_arr (n := 1) (a := numB n.toNat) (by rw [hnb]; rfl) (by rw [hnb]; simp), by simp, fun b hb => List.getElem?_append_left hb, .inr (Nat.le_refl _), rfl⟩
 ·have hbt := n.isLt
  have hk := nk_le n.toNat
  simp [c1, h]
  refine loop_up (nk n.toNat) (NumI l n) ?_ ⟨by simp, .nilS, by simp, Ob.nil⟩
  rintro i σ l1 hi ⟨g0, v, g3, hob⟩
  obtain ⟨σ, rfl⟩ := upds2 g0 g3
  clear g0 g3
  unfold l98_0
  have hz := shr_zero (n := n.toNat) (k := i) (by omega) (by omega) hi
  have hpos : ((0 : Int) < u (n >>> (8 * i))) ↔ ¬ i = nk n.toNat := by
   rw [← hz]; unfold u; rw [BitVec.toNat_ushiftRight]; generalize n.toNat >>> (8 * i) = q; omega
  by_cases hik : i = nk n.toNat
  ·obtain ⟨k, hkk⟩ : ∃ k, nk n.toNat = k := ⟨_, rfl⟩
   rw [hkk] at hik hpos hk
   subst hik
   have hnk : numB n.toNat = BitVec.ofNat 8 (247 + i) :: (digs n.toNat i).reverse := by
    unfold numB; rw [if_neg h, hkk, tailBE_rev]; rfl
   have hlen := hob.len
   rw [digs_len] at hlen
   have w1 : IntKind.i64.wrap (247 + (i : Int)) = ((247 + i : Nat) : Int) := by rw [wrap_i64 (by omega) (by omega)]; omega
   have w2 : IntKind.i64.wrap ((i : Int) - 1) = (i : Int) - 1 := wrap_i64 (by omega) (by omega)
   have f1 : (numB n.toNat) = BitVec.ofNat 8 (247 + i) :: (digs n.toNat i).reverse.take i := by rw [hnk, List.take_of_length_le (by rw [List.length_reverse, digs_len]; omega)]
   simp [hpos, hlen, w1, w2, -Int.natCast_add]
   refine loop_up i (NumJ l1 v n i) ?_ ⟨by simp, by simp, _, by simp, ⟨l1.length, own_arr (n := 1) (a := [BitVec.ofNat 8 (247 + i)]) rfl (by simp), by simp, fun b hb => List.getElem?_append_left hb, .inr (Nat.le_refl _), rfl⟩⟩
   rintro j σ l2 hj ⟨g3, g5, w, g4, ob2⟩
   have hv2 := hob.frame ob2.le ob2.same
   obtain ⟨σ, rfl⟩ := upds3 g3 g4 g5
   clear g3 g4 g5
   unfold l98_1
   by_cases hji : j = i
   ·have hneg : ¬ (j : Int) ≤ (i : Int) - 1 := by omega
    rw [hji, ← f1] at ob2
    simp [hneg]
    exact hK _ _ (ob2.base hob.le hob.same)
   ·have hge : (j : Int) ≤ (i : Int) - 1 := by omega
    have hidx : ((i : Int) - 1 - j) = ((i - 1 - j : Nat) : Int) := by omega
    have w3 : IntKind.i64.wrap ((i : Int) - 1 - j - 1) = (i : Int) - 1 - (j + 1 : Nat) := by rw [wrap_i64 (by omega) (by omega)]; omega
    obtain ⟨p, cs, o, q1, q2, q3⟩ := Ob.get hv2 (k := .i64) (digs_get n.toNat i (i - 1 - j) (by omega))
    rw [← hidx] at q1
    have hx : (digs n.toNat i).reverse[j]? = some (byteAt n.toNat (i - 1 - j)) := by
     rw [List.getElem?_reverse (by rw [digs_len]; omega), digs_len, digs_get _ _ _ (by omega)]
    have hlen2 := digs_len n.toNat i
    obtain ⟨w', l', a1, a2⟩ := Ob.push ob2 (byteAt n.toNat (i - 1 - j)) (by simp; omega)
    simp [hge, q1, q2, q3, a1]
    refine AppK.keep ?_
    simp [w3]
    exact ⟨by omega, by simp, by simp, w', by simp, by rw [List.take_add_one, hx]; simpa using a2⟩
  ·have hdl := digs_len n.toNat i
   obtain ⟨v', l', a1, a2⟩ := Ob.push hob (byteAt n.toNat i) (by omega)
   rw [← digs_succ] at a2
   have hq : binInt .quo .u64 (u (n >>> (8 * i))) .u64 256 = some (e64 (n >>> (8 * (i + 1)))) := by rw [quo_256, next_shr]
   simp [hpos, hik, rem_256, hq, low_byte, a1]
   refine AppK.keep ?_
   simp [hq]
   exact ⟨by omega, by simp, v', by simp, by simpa using a2⟩
end Op
end Go.CM

namespace Go.CM
open Go Go.Proofs
set_option maxRecDepth 100000
namespace Op
open Sha
def zig (n : Int) : Q := if 0 ≤ n then BitVec.ofNat 64 (2 * n.toNat) else BitVec.ofNat 64 (2 * (-(n + 1)).toNat + 1)
theorem wSigned_ob (n : Int) (h1 : -9223372036854775808 ≤ n) (h2 : n < 9223372036854775808) {l : Hl} {K : CV → Hl → Prop} (hK : ∀ v l', Ob 1 enc8 l l' v (numB (zig n).toNat) false → K v l') :
  CallP Tryz.prog GS 139 [.int .i64 n] l (c := ⟨K⟩) := by
 apply call_intro c139_eq r139_eq
 unfold c139 r139
 have e1 : binInt .shl .u64 (u (BitVec.ofInt 64 n)) .u64 1 = some (.int .u64 (u (BitVec.ofInt 64 n <<< 1))) := bshln_u64 _ .u64 1
 have e2 : binInt .shr .i64 n .u64 63 = some (.int .i64 (if 0 ≤ n then 0 else -1)) := by
  show (if (63 : Int) < 0 then none else some (CV.int .i64 (n.fdiv (2 ^ min (63 : Int).toNat 64)))) = _
  rw [if_neg (by omega)]
  congr 2
  have : (2 : Int) ^ min (63 : Int).toNat 64 = 9223372036854775808 := by decide
  rw [this, Int.fdiv_eq_ediv_of_nonneg _ (by omega)]
  split <;> omega
 have hz : BitVec.ofInt 64 n <<< 1 ^^^ BitVec.ofInt 64 (if 0 ≤ n then 0 else -1) = zig n := by
  unfold zig
  by_cases h : 0 ≤ n
  ·rw [if_pos h, if_pos h]
   obtain ⟨m, rfl⟩ := Int.eq_ofNat_of_zero_le h
   rw [BitVec.ofInt_natCast, Int.toNat_natCast]
   have : BitVec.ofInt 64 (0 : Int) = 0#64 := rfl
   rw [this, BitVec.xor_zero]
   apply BitVec.eq_of_toNat_eq
   rw [BitVec.toNat_shiftLeft, BitVec.toNat_ofNat, BitVec.toNat_ofNat, Nat.shiftLeft_eq]
   omega
  ·rw [if_neg h, if_neg h]
   obtain ⟨m, hm⟩ := Int.eq_ofNat_of_zero_le (show 0 ≤ -(n + 1) by omega)
   have hn : n = -((m : Int) + 1) := by omega
   have a1 : BitVec.ofInt 64 (-1 : Int) = BitVec.allOnes 64 := by decide
   have a2 : BitVec.ofInt 64 n = ~~~ BitVec.ofNat 64 m := by
    apply BitVec.eq_of_toNat_eq
    rw [hn, BitVec.toNat_ofInt, BitVec.toNat_not, BitVec.toNat_ofNat]
    omega
   have hm2 : m < 9223372036854775808 := by omega
   rw [a1, a2, BitVec.xor_allOnes, hm, Int.toNat_natCast]
   apply BitVec.eq_of_toNat_eq
   rw [BitVec.toNat_not, BitVec.toNat_shiftLeft, BitVec.toNat_not, BitVec.toNat_ofNat, BitVec.toNat_ofNat, Nat.shiftLeft_eq]
   omega
 simp [e1, e2, hz]
 refine wNumber_ob _ fun v l' h => ?_
 simp
 exact hK v l' h
theorem rSigned_ob (n : Int) (h1 : -9223372036854775808 ≤ n) (h2 : n < 9223372036854775808) {l : Hl} {K : CV → Hl → Prop} (hK : ∀ v l', Ob 1 enc8 l l' v (numB (zig n).toNat) false → K v l') :
  CallP Tryz.prog GS 130 [.int .i64 n] l (c := ⟨K⟩) := by
 apply call_intro c130_eq r130_eq
 unfold c130 r130
 by_cases h : 0 ≤ n
 ·obtain ⟨m, rfl⟩ := Int.eq_ofNat_of_zero_le h
  have hz : 2#64 * BitVec.ofNat 64 m = zig m := by
   unfold zig; rw [if_pos h, Int.toNat_natCast]
   apply BitVec.eq_of_toNat_eq
   simp only [BitVec.toNat_mul, BitVec.toNat_ofNat]
   omega
  simp [hz]
  refine rNumber_ob _ fun v l' h => ?_
  simp
  exact hK v l' h
 ·have w1 : IntKind.i64.wrap (n + 1) = n + 1 := wrap_i64 (by omega) (by omega)
  have w2 : IntKind.i64.wrap (0 - (n + 1)) = 0 - (n + 1) := wrap_i64 (by omega) (by omega)
  have w2 : IntKind.i64.wrap (-(n + 1)) = -(n + 1) := wrap_i64 (by omega) (by omega)
  have hz : 2#64 * BitVec.ofInt 64 (-(n + 1)) + 1#64 = zig n := by
   obtain ⟨m, hm⟩ := Int.eq_ofNat_of_zero_le (show 0 ≤ -(n + 1) by omega)
   unfold zig; rw [if_neg h, hm, Int.toNat_natCast, BitVec.ofInt_natCast]
   apply BitVec.eq_of_toNat_eq
   simp only [BitVec.toNat_mul, BitVec.toNat_ofNat, BitVec.toNat_add]
   omega
  simp [h, w1, w2, hz]
  refine rNumber_ob _ fun v l' h => ?_
  simp
  exact hK v l' h
def textB (s : List B) : List B := numB s.length ++ s
theorem numB_len (n : Nat) : (numB n).length ≤ 9 := by
 unfold numB
 have := (nk_le n).2
 split
 ·simp
 ·simp [tailBE_len]; omega
theorem flat8 (s : List B) : (s.map enc8).flatten = s.map e8 := enc8_flat s
theorem contents_Bs (l : Hl) (s : Bs) : contentsL l 1 (encBs s) = some ((s.l.map enc8).flatten, s.l.length) := contents_encS l 1 enc8 s
theorem wBytes_ob (s : Bs) (hs : s.l.length ≤ 10000) {x : CV} {l : Hl} (hx : contentsL l 1 x = some ((s.l.map enc8).flatten, s.l.length)) (hlen : lenM (.sl 1) x = some (.int .i64 s.l.length)) (hst : ∀ l', l.length ≤ l'.length → (∀ b, b < l.length → l'[b]? = l[b]?) → contentsL l' 1 x = some ((s.l.map enc8).flatten, s.l.length))
  {K : CV → Hl → Prop} (hK : ∀ v l', Ob 1 enc8 l l' v (textB s.l) false → K (.tu [v, .int .i64 0]) l') : CallP Tryz.prog GS 119 [x] l (c := ⟨K⟩) := by
 apply call_intro c119_eq r119_eq
 unfold c119 r119
 have h1 : ¬ ((10000 : Int) < s.l.length) := by omega
 have hr : roomMax = 140737488355328 := rfl
 simp [hlen, h1]
 refine wNumber_ob _ fun v l' h => ?_
 have hn : (BitVec.ofNat 64 s.l.length).toNat = s.l.length := by rw [BitVec.toNat_ofNat]; exact Nat.mod_eq_of_lt (by omega)
 rw [hn] at h
 have hnl := numB_len s.l.length
 obtain ⟨v', l2, a1, a2, _⟩ := h.app (by_ := 1) (x := x) (xs := s.l) (hst l' h.le h.same) (by simp [enc8]) (by omega) (by omega) (by rw [hr]; omega)
 simp [a1]
 refine AppK.keep ?_
 simp
 exact hK v' l2 (by simpa [textB] using a2)
theorem rText_ob (s : Bs) (hs : s.l.length ≤ 10000) {x : CV} {l : Hl} (hx : contentsL l 1 x = some ((s.l.map enc8).flatten, s.l.length)) (hlen : lenM (.sl 1) x = some (.int .i64 s.l.length)) (hst : ∀ l', l.length ≤ l'.length → (∀ b, b < l.length → l'[b]? = l[b]?) → contentsL l' 1 x = some ((s.l.map enc8).flatten, s.l.length))
  {K : CV → Hl → Prop} (hK : ∀ v l', Ob 1 enc8 l l' v (textB s.l) false → K v l') : CallP Tryz.prog GS 100 [x] l (c := ⟨K⟩) := by
 apply call_intro c100_eq r100_eq
 unfold c100 r100
 have hr : roomMax = 140737488355328 := rfl
 simp [hlen]
 refine rNumber_ob _ fun v l' h => ?_
 have hn : (BitVec.ofNat 64 s.l.length).toNat = s.l.length := by rw [BitVec.toNat_ofNat]; exact Nat.mod_eq_of_lt (by omega)
 rw [hn] at h
 have hnl := numB_len s.l.length
 obtain ⟨v', l2, a1, a2, _⟩ := h.app (by_ := 1) (x := x) (xs := s.l) (hst l' h.le h.same) (by simp [enc8]) (by omega) (by omega) (by rw [hr]; omega)
 simp [a1]
 refine AppK.keep ?_
 simp
 exact hK v' l2 (by simpa [textB] using a2)
def eId (i : List B) : List CV := i.map e8
abbrev Ids := Sv (List B)
def encIds (s : Ids) : CV := encS 32 eId s
def okIds (s : Ids) : Prop := ∀ i ∈ s.l, i.length = 32
theorem closed_eId (i : List B) : closedL (eId i) = true := closedL_map e8 (fun _ => rfl) _
theorem closed_ids (s : Ids) : (encIds s).closed = true := closed_encS closed_eId s
theorem cmpBytes_B : ∀ a b : List B, a.length = b.length → cmpBytes (a.map fun x => UInt8.ofNat x.toNat) (b.map fun x => UInt8.ofNat x.toNat) = cmpB a b
 | [], [], _ => rfl
 | [], _ :: _, h => by simp at h
 | _ :: _, [], h => by simp at h
 | x :: a, y :: b, h => by
  have ih := cmpBytes_B a b (by simpa using h)
  have hx := x.isLt
  have hy := y.isLt
  rw [cmpB_cons]
  simp only [List.map_cons, cmpBytes, ih]
  have e1 : (UInt8.ofNat x.toNat = UInt8.ofNat y.toNat) ↔ x.toNat = y.toNat := by
   constructor
   ·intro h
    have := congrArg UInt8.toNat h
    simp only [UInt8.toNat_ofNat'] at this
    omega
   ·intro h; rw [h]
  have e2 : (UInt8.ofNat x.toNat < UInt8.ofNat y.toNat) ↔ x.toNat < y.toNat := by
   rw [UInt8.lt_iff_toNat_lt]; simp only [UInt8.toNat_ofNat']
   rw [Nat.mod_eq_of_lt (by omega), Nat.mod_eq_of_lt (by omega)]
  by_cases h1 : x.toNat = y.toNat
  ·rw [if_pos (e1.2 h1), if_neg (by omega), if_neg (by omega)]
  ·rw [if_neg (fun h => h1 (e1.1 h))]
   by_cases h2 : x.toNat < y.toNat
   ·rw [if_pos (e2.2 h2), if_pos h2]
   ·rw [if_neg (fun h => h2 (e2.1 h)), if_neg h2, if_pos (by omega)]
@[simp ↓] theorem m_cmpB {P : Program} {ρ : Operand → CV} {l : Hl} (f : FuncId) (fo x y : Operand) : mstep P ρ l (.cmpB f fo x y) = (match isFn f (ρ fo) with | true => pu l (cmpL l (ρ x) (ρ y)) | false => none) := id rfl
@[simp ↓] theorem keep_cmpB (f : FuncId) (fo x y : Operand) (v : CV) (l : Hl) (K : CV → Hl → Prop) : keepK (.cmpB f fo x y) v l K = K v l := id rfl
@[simp] theorem isFn_self (f : FuncId) : isFn f (.fn f [] []) = true := Nat.beq_refl f
theorem bytesOfC_e8 : ∀ a : List B, bytesOfC (a.map e8) = some (a.map fun x => UInt8.ofNat x.toNat)
 | [] => rfl
 | x :: a => by
  simp only [List.map_cons, bytesOfC, bytesOfC_e8 a, Option.map_some]
  simp [u]
theorem bytesOfL_Bs (l : Hl) (s : Bs) : bytesOfL l (encBs s) = some (s.l.map fun x => UInt8.ofNat x.toNat) := by
 have h := contents_Bs l s
 rw [flat8] at h
 cases s with
 | none => simp [bytesOfL, encS, contentsL, bytesOfC]
 | some a =>
  unfold bytesOfL
  simp only [encS]
  have h2 : contentsL l 1 (CV.rsl 1 (a.map enc8)) = some (a.map e8, a.length) := h
  rw [h2]
  exact bytesOfC_e8 a
theorem bCompare_ok (a b : Bs) (h : a.l.length = b.l.length) : PureC Tryz.prog GS 57 [encBs a, encBs b] (.int .i64 (cmpB a.l b.l)) := by
 refine pure_of Tryz.checked.mixed GS_closed ?_
 apply call_intro c57_eq r57_eq
 unfold c57 r57
 have hc : cmpL [] (encBs a) (encBs b) = some (.int .i64 (cmpB a.l b.l)) := by
  unfold cmpL
  rw [bytesOfL_Bs, bytesOfL_Bs]
  simp only [cmpBytes_B _ _ h]
 simp [hc]
 exact rd_eq rfl rfl
theorem slice_arr_all {n b : Nat} (hlo : 0 < n) : sliceM (.arr n 1) (.ptr b 0 n) none none none = some (.sl 1 b 0 n n n) := by
 have : boundsC n n none none none = some (0, n, n) := rfl
 simp only [sliceM, this]
 rw [if_pos (by omega), if_neg (by omega)]
 simp
theorem cmp_ok (a b : List B) (ha : a.length = 32) (hb : b.length = 32) : PureC Tryz.prog GS 115 [idC a, idC b] (.int .i64 (cmpB a b)) := by
 refine pure_of Tryz.checked.mixed GS_closed ?_
 apply call_intro c115_eq r115_eq
 unfold c115 r115
 have hs := slice_arr_all (n := 32) (b := 1) (by omega)
 have hs0 := slice_arr_all (n := 32) (b := 0) (by omega)
 simp [idC, ha, hb, hs, hs0]
 have hc := bCompare_ok (some a) (some b) (by simp [ha, hb])
 refine pure_callB hc ?_ rfl ?_
 ·exact .cons ((own_arr (j := 0) ha rfl).rdH_enc (fun _ => rfl) (some a) rfl rfl) (.cons ((own_arr (j := 1) hb rfl).rdH_enc (fun _ => rfl) (some b) rfl rfl) .nil)
 ·simp
  exact rd_eq rfl rfl
theorem refCmp_ok (a b : List B) (ha : a.length = 32) (hb : b.length = 32) : PureC Tryz.prog GS 64 [idC a, idC b] (.int .i64 (cmpB a b)) := by
 refine pure_of Tryz.checked.mixed GS_closed ?_
 apply call_intro c64_eq r64_eq
 unfold c64 r64
 obtain ⟨A, hA⟩ : ∃ A, A = a.map e8 := ⟨_, rfl⟩
 obtain ⟨C, hC⟩ : ∃ C, C = b.map e8 := ⟨_, rfl⟩
 have hAl : A.length = 32 := by rw [hA, List.length_map, ha]
 have hCl : C.length = 32 := by rw [hC, List.length_map, hb]
 unfold idC
 rw [← hA, ← hC]
 simp [hAl, hCl]
 refine loop_up 32 (fun k σ l => σ 2 = .ptr 0 0 32 ∧ σ 3 = .ptr 1 0 32 ∧ σ 5 = .int .i64 k ∧ l = [.cells 32 A, .cells 32 C] ∧ ∀ j, j < k → a[j]? = b[j]?) ?_ (by simp)
 rintro k σ l hk ⟨g2, g3, g5, rfl, heq⟩
 obtain ⟨σ, rfl⟩ := upds3 g2 g3 g5
 clear g2 g3 g5
 unfold l64_0
 have hdrop := cmpB_drop k heq (by omega) (by omega)
 by_cases h : (k : Int) < 32
 ·have hkn : k < 32 := by omega
  have hwk : IntKind.i64.wrap ((k : Int) + 1) = (k + 1 : Nat) := wrap_i64 (by omega) (by omega)
  obtain ⟨x, hx, _⟩ := get_of (l := a) (k := k) (by omega)
  obtain ⟨y, hy, _⟩ := get_of (l := b) (k := k) (by omega)
  have hAg : A[k]? = some (e8 x) := by rw [hA, List.getElem?_map, hx]; rfl
  have hCg : C[k]? = some (e8 y) := by rw [hC, List.getElem?_map, hy]; rfl
  obtain ⟨_, hAg'⟩ := List.getElem?_eq_some_iff.1 hAg
  obtain ⟨_, hCg'⟩ := List.getElem?_eq_some_iff.1 hCg
  have hda : a.drop k = x :: a.drop (k + 1) := by
   obtain ⟨h1, h2⟩ := List.getElem?_eq_some_iff.1 hx
   rw [List.drop_eq_getElem_cons h1, h2]
  have hdb : b.drop k = y :: b.drop (k + 1) := by
   obtain ⟨h1, h2⟩ := List.getElem?_eq_some_iff.1 hy
   rw [List.drop_eq_getElem_cons h1, h2]
  rw [hda, hdb, cmpB_cons] at hdrop
  have u1 : ((u x : Int) < u y) ↔ x.toNat < y.toNat := by unfold u; omega
  have u2 : ((u y : Int) < u x) ↔ y.toNat < x.toNat := by unfold u; omega
  by_cases c1 : x.toNat < y.toNat
  ·rw [if_pos c1] at hdrop
   have c1' : x < y := c1
   simp [h, hkn, hAl, hCl, hAg', hCg', c1']
   exact rd_eq (by rw [← hdrop]) rfl
  ·have c1' : ¬ x < y := c1
   rw [if_neg c1] at hdrop
   by_cases c2 : y.toNat < x.toNat
   ·rw [if_pos c2] at hdrop
    have c2' : y < x := c2
    simp [h, hkn, hAl, hCl, hAg', hCg', c1', c2']
    exact rd_eq (by rw [← hdrop]) rfl
   ·have c2' : ¬ y < x := c2
    simp [h, hkn, hAl, hCl, hAg', hCg', c1', c2', hwk]
    intro j hj
    by_cases hjk : j = k
    ·subst hjk
     rw [hx, hy]
     have : x = y := BitVec.eq_of_toNat_eq (by omega)
     rw [this]
    ·exact heq j (by omega)
 ·have hk' : k = 32 := by omega
  subst hk'
  have : cmpB a b = 0 := by
   rw [← hdrop, List.drop_of_length_le (by omega), List.drop_of_length_le (by omega)]; rfl
  simp
  exact rd_eq (by rw [this]) rfl
abbrev idAt (l : List (List B)) (k : Nat) : List B := l.getD k []
def ris (l : List (List B)) : Bool := decide (∀ k, k < l.length → 1 ≤ k → cmpB (idAt l (k - 1)) (idAt l k) < 0)
def srt (l : List (List B)) : Bool := decide (∀ k, k < l.length → 1 ≤ k → ¬ cmpB (idAt l k) (idAt l (k - 1)) < 0)
theorem idAt_get {l : List (List B)} {k : Nat} {x : List B} (h : l[k]? = some x) : idAt l k = x := by
 unfold idAt; rw [List.getD_eq_getElem?_getD, h]; rfl
theorem ris_true {l : List (List B)} (h : ∀ k, k < l.length → 1 ≤ k → cmpB (idAt l (k - 1)) (idAt l k) < 0) : ris l = true := decide_eq_true h
theorem ris_false {l : List (List B)} {k : Nat} (hk : k < l.length) (h1 : 1 ≤ k) (h : ¬ cmpB (idAt l (k - 1)) (idAt l k) < 0) : ris l = false := decide_eq_false fun hh => h (hh k hk h1)
theorem srt_true {l : List (List B)} (h : ∀ k, k < l.length → 1 ≤ k → ¬ cmpB (idAt l k) (idAt l (k - 1)) < 0) : srt l = true := decide_eq_true h
theorem srt_false {l : List (List B)} {k : Nat} (hk : k < l.length) (h1 : 1 ≤ k) (h : cmpB (idAt l k) (idAt l (k - 1)) < 0) : srt l = false := decide_eq_false fun hh => hh k hk h1 h
theorem eId_len {x : List B} (h : x.length = 32) : (eId x).length = 32 := by simp [eId, h]
theorem rRising_ok (a : Ids) (ha : okIds a) (hl : a.l.length ≤ 1000000) : PureC Tryz.prog GS 54 [encIds a] (.bool (ris a.l)) := by
 refine pure_of Tryz.checked.mixed GS_closed ?_
 apply call_intro c54_eq r54_eq
 unfold c54 r54
 simp [encIds]
 refine loop_up (a.l.length - 1) (fun k σ l => σ 0 = encS 32 eId a ∧ σ 3 = .int .i64 ((k + 1 : Nat) : Int) ∧ ∀ j, j < k + 1 → j < a.l.length → 1 ≤ j → cmpB (idAt a.l (j - 1)) (idAt a.l j) < 0) ?_ ⟨by simp [encIds], by simp, fun j h1 _ h2 => by omega⟩
 rintro k σ l hk ⟨g0, g3, hs⟩
 obtain ⟨s, rfl⟩ := upds2 g0 g3
 clear g0 g3
 obtain ⟨m, hm⟩ : ∃ m, m = k + 1 := ⟨_, rfl⟩
 rw [← hm] at hs ⊢
 unfold l54_0
 simp
 refine kIf_intro (fun h => ?_) (fun h => ?_)
 ·simp only [decide_eq_true_eq] at h
  have hlt : m < a.l.length := by omega
  obtain ⟨x, hx, hxm⟩ := get_of (l := a.l) (k := k) (by omega)
  obtain ⟨y, hy, hym⟩ := get_of hlt
  have e1 : IntKind.i64.wrap ((m : Int) - 1) = (k : Int) := by rw [IntKind.wrap_i64]; omega
  have e2 : IntKind.i64.wrap ((m : Int) + 1) = ((m + 1 : Nat) : Int) := by rw [IntKind.wrap_i64]; omega
  have ix := idAt_get hx
  have iy := idAt_get hy
  simp [e1, hx, hy, eId_len (ha x hxm), eId_len (ha y hym), List.take_of_length_le]
  refine pure_call (refCmp_ok x y (ha x hxm) (ha y hym)) (by simp [closedL, closed_eId, CV.closed, idC]) ?_
  by_cases hc : cmpB x y < 0
  ·have hc' : ¬ (0 ≤ cmpB x y) := by omega
   simp [hc', e2]
   refine ⟨by omega, fun j h1 h2 h3 => ?_⟩
   have hj' : cmpB (idAt a.l (j - 1)) (idAt a.l j) < 0 := by
    by_cases hj : j = m
    ·rw [hj, show m - 1 = k by omega, ix, iy]; exact hc
    ·exact hs j (by omega) h2 h3
   simpa [idAt] using hj'
  ·have hc' : 0 ≤ cmpB x y := by omega
   simp [hc']
   refine rd_eq (congrArg CV.bool (ris_false (k := m) hlt (by omega) ?_).symm) rfl
   rw [show m - 1 = k by omega, ix, iy]
   exact hc
 ·simp [h]
  exact rd_eq (congrArg CV.bool (ris_true fun j h1 h2 => hs j (by simp at h; omega) h1 h2).symm) rfl
theorem fn_cmp : funOkB Tryz.prog 115 = true := by kernel_rfl
theorem isSorted_ok (a : Ids) (ha : okIds a) (hl : a.l.length ≤ 1000000) : PureC Tryz.prog GS 114 [encIds a, .fn 115 [] []] (.bool (srt a.l)) := by
 refine pure_of Tryz.checked.mixed GS_closed ?_
 apply call_intro c114_eq r114_eq
 unfold c114 r114
 have e0 : IntKind.i64.wrap ((a.l.length : Int) - 1) = (a.l.length : Int) - 1 := by rw [IntKind.wrap_i64]; omega
 simp [encIds, e0]
 refine loop_up (a.l.length - 1) (fun k σ l => σ 0 = encS 32 eId a ∧ σ 1 = .fn 115 [] [] ∧ σ 5 = .int .i64 ((a.l.length : Int) - 1 - k) ∧ ∀ j, j < a.l.length → a.l.length - 1 - k < j → ¬ cmpB (idAt a.l j) (idAt a.l (j - 1)) < 0) ?_ ⟨by simp [encIds], by simp, by simp, fun j h1 h2 => by omega⟩
 rintro k σ l hk ⟨g0, g1, g5, hs⟩
 obtain ⟨s, rfl⟩ := upds3 g0 g1 g5
 clear g0 g1 g5
 unfold l114_0
 simp
 refine kIf_intro (fun h => ?_) (fun h => ?_)
 ·simp only [decide_eq_true_eq] at h
  obtain ⟨m, hm⟩ : ∃ m, m + k + 2 = a.l.length := ⟨a.l.length - 2 - k, by omega⟩
  have e1 : ((a.l.length : Int) - 1 - k) = ((m + 1 : Nat) : Int) := by omega
  rw [e1]
  obtain ⟨x, hx, hxm⟩ := get_of (l := a.l) (k := m + 1) (by omega)
  obtain ⟨y, hy, hym⟩ := get_of (l := a.l) (k := m) (by omega)
  obtain ⟨n, hn⟩ : ∃ n, n = m + 1 := ⟨_, rfl⟩
  rw [← hn] at hx ⊢
  have e2 : IntKind.i64.wrap ((n : Int) - 1) = (m : Int) := by rw [IntKind.wrap_i64]; omega
  have ix := idAt_get hx
  have iy := idAt_get hy
  simp [e2, hx, hy, eId_len (ha x hxm), eId_len (ha y hym), List.take_of_length_le]
  refine ⟨fn_cmp, pure_call (cmp_ok x y (ha x hxm) (ha y hym)) (by simp [closedL, closed_eId, CV.closed, idC]) ?_⟩
  by_cases hc : cmpB x y < 0
  ·simp [hc]
   refine rd_eq (congrArg CV.bool (srt_false (k := n) (by omega) (by omega) ?_).symm) rfl
   rw [show n - 1 = m by omega, ix, iy]
   exact hc
  ·simp [hc, e2]
   refine ⟨by omega, by omega, fun j h1 h2 => ?_⟩
   have hj' : ¬ cmpB (idAt a.l j) (idAt a.l (j - 1)) < 0 := by
    by_cases hj : j = n
    ·rw [hj, show n - 1 = m by omega, ix, iy]; exact hc
    ·exact hs j h1 (by omega)
   simpa [idAt] using hj'
 ·simp [h]
  exact rd_eq (congrArg CV.bool (srt_true fun j h1 h2 => hs j h1 (by simp at h; omega)).symm) rfl
def downAt (l : List (List B)) (k : Nat) : Bool := decide (k + 1 < l.length) && decide (0 ≤ cmpB (idAt l k) (idAt l (k + 1)))
theorem ris_down {l : List (List B)} : ris l = true ↔ ∀ k, k < l.length → downAt l k = false := by
 unfold ris downAt
 rw [decide_eq_true_eq]
 constructor
 ·intro h k hk
  by_cases h1 : k + 1 < l.length
  ·have := h (k + 1) h1 (by omega)
   rw [Nat.add_sub_cancel] at this
   rw [decide_eq_false (p := 0 ≤ _) (by omega), Bool.and_false]
  ·simp [h1]
 ·intro h k hk h1
  have := h (k - 1) (by omega)
  rw [show k - 1 + 1 = k by omega] at this
  rw [decide_eq_true hk, Bool.true_and, decide_eq_false_iff_not] at this
  omega
theorem rise1 (a : Ids) (ha : okIds a) (hl : a.l.length ≤ 1000000) (k : Nat) (hk : k < a.l.length) (x : List B) (hx : x.length = 32) (r : Hl) {K : CV → Hl → Prop}
  (hK : ∀ r', K (.bool (downAt a.l k)) (.cells 1 [encIds a] :: .cells 1 [.int .i64 ((k + 1 : Nat) : Int)] :: r')) :
  CallP Tryz.prog GS 154 [idC x, .ptr 1 0 1, .ptr 0 0 1] (.cells 1 [encIds a] :: .cells 1 [.int .i64 (k : Int)] :: r) (c := ⟨K⟩) := by
 apply call_intro c154_eq r154_eq
 unfold c154 r154
 have e1 : IntKind.i64.wrap ((k : Int) + 1) = ((k + 1 : Nat) : Int) := by rw [IntKind.wrap_i64]; omega
 obtain ⟨m, hm⟩ : ∃ m, m = k + 1 := ⟨_, rfl⟩
 rw [← hm] at e1 hK
 have e2 : IntKind.i64.wrap ((m : Int) - 1) = (k : Int) := by rw [IntKind.wrap_i64]; omega
 unfold downAt at hK
 rw [← hm] at hK
 obtain ⟨y, hy, hym⟩ := get_of hk
 by_cases h : m < a.l.length
 ·obtain ⟨z, hz, hzm⟩ := get_of h
  have iy := idAt_get hy
  have iz := idAt_get hz
  rw [iy, iz] at hK
  have h' : (m : Int) < (a.l.length : Int) := by omega
  have hz' : a.l[m] = z := (List.getElem?_eq_some_iff.1 hz).2
  simp [idC, encIds, e1, e2, h, h', hy, hz', eId_len (ha y hym), eId_len (ha z hzm), List.take_of_length_le]
  refine pure_call (cmp_ok y z (ha y hym) (ha z hzm)) (by simp [closedL, closed_eId, CV.closed, idC]) ?_
  have := hK (r ++ [CB.cells x.length (List.map e8 x)])
  simpa [h, encIds] using this
 ·have h' : ¬ (m : Int) < (a.l.length : Int) := by omega
  simp [idC, encIds, e1, e2, h, h']
  have := hK (r ++ [CB.cells x.length (List.map e8 x)])
  simpa [h, encIds] using this
theorem fn_rise : funOkB Tryz.prog 154 = true := by kernel_rfl
theorem riseIx (a : Ids) (ha : okIds a) (hl : a.l.length ≤ 1000000) {K : CV → Hl → Prop} (hK : ∀ n r', (n < 0 ↔ ris a.l = true) → K (.int .i64 n) r') :
  CallP Tryz.prog GS 53 [encIds a, .fn 154 [] [.ptr 1 0 1, .ptr 0 0 1]] [.cells 1 [encIds a], .cells 1 [.int .i64 0]] (c := ⟨K⟩) := by
 apply call_intro c53_eq r53_eq
 unfold c53 r53
 simp [encIds]
 refine loop_up a.l.length (fun k σ l => σ 0 = encS 32 eId a ∧ σ 1 = .fn 154 [] [.ptr 1 0 1, .ptr 0 0 1] ∧ σ 7 = .int .i64 a.l.length ∧ σ 8 = .int .i64 k ∧ (∃ r, l = .cells 1 [encIds a] :: .cells 1 [.int .i64 (k : Int)] :: r) ∧ ∀ j, j < k → downAt a.l j = false) ?_ ⟨by simp [encIds], by simp, by simp, by simp, ⟨[], by simp [encIds]⟩, fun j h => by omega⟩
 rintro k σ l hk ⟨g0, g1, g7, g8, ⟨r, rfl⟩, hs⟩
 obtain ⟨s, rfl⟩ := upds4 g0 g1 g7 g8
 clear g0 g1 g7 g8
 unfold l53_0
 simp
 refine kIf_intro (fun h => ?_) (fun h => ?_)
 ·simp only [decide_eq_true_eq] at h
  obtain ⟨x, hx, hxm⟩ := get_of (l := a.l) (k := k) (by omega)
  have e1 : IntKind.i64.wrap ((k : Int) + 1) = ((k + 1 : Nat) : Int) := by rw [IntKind.wrap_i64]; omega
  simp [hx, eId_len (ha x hxm), List.take_of_length_le]
  refine ⟨fn_rise, rise1 a ha hl k (by omega) x (ha x hxm) r fun r' => ?_⟩
  cases hd : downAt a.l k with
  | true =>
   simp
   refine hK _ _ ⟨fun hn => by omega, fun hr => ?_⟩
   have := ris_down.1 hr k (by omega)
   rw [hd] at this; cases this
  | false =>
   simp [e1]
   refine ⟨by omega, fun j hj => ?_⟩
   by_cases hjk : j = k
   ·subst hjk; exact hd
   ·exact hs j (by omega)
 ·simp [h]
  refine hK _ _ ⟨fun _ => ris_down.2 fun j hj => hs j (by simp at h; omega), fun _ => by omega⟩
theorem riseHas (a : Ids) (ha : okIds a) (hl : a.l.length ≤ 1000000) {K : CV → Hl → Prop} (hK : ∀ r', K (.bool (!ris a.l)) r') :
  CallP Tryz.prog GS 153 [encIds a, .fn 154 [] [.ptr 1 0 1, .ptr 0 0 1]] [.cells 1 [encIds a], .cells 1 [.int .i64 0]] (c := ⟨K⟩) := by
 apply call_intro c153_eq r153_eq
 unfold c153 r153
 simp
 refine riseIx a ha hl fun n r' hn => ?_
 have e : decide (0 ≤ n) = !ris a.l := by
  cases hr : ris a.l with
  | true => have := hn.2 hr; simp; omega
  | false =>
   have : ¬ n < 0 := fun h => by have := hn.1 h; rw [hr] at this; cases this
   simp; omega
 simp [e]
 exact hK r'
theorem rising_ok (a : Ids) (ha : okIds a) (hl : a.l.length ≤ 1000000) : PureC Tryz.prog GS 138 [encIds a] (.bool (ris a.l)) := by
 refine pure_of Tryz.checked.mixed GS_closed ?_
 apply call_intro c138_eq r138_eq
 unfold c138 r138
 have hc : (encIds a).cells = some [encIds a] := by cases a <;> rfl
 simp [hc]
 refine riseHas a ha hl fun r' => ?_
 simp
 exact rd_eq rfl rfl
def listB (l : List (List B)) : List B := numB l.length ++ l.flatten
theorem chunks_e8 : ∀ (x : List B), chunks 1 x.length (x.map e8) = x.map enc8
 | [] => rfl
 | b :: r => by
  show ((e8 b :: r.map e8).take 1) :: chunks 1 r.length ((e8 b :: r.map e8).drop 1) = _
  simp [chunks_e8 r, enc8]
theorem chunks_id {x : List B} (h : x.length = 32) : chunks 1 32 (eId x) = x.map enc8 := by
 have := chunks_e8 x
 rw [h] at this
 exact this
theorem ids_flat_len {l : List (List B)} (h : ∀ x ∈ l, x.length = 32) : l.flatten.length = l.length * 32 := flatten_len h
theorem take_succ' {l : List (List B)} {k : Nat} {x : List B} (h : l[k]? = some x) : (l.take (k + 1)).flatten = (l.take k).flatten ++ x := by
 rw [List.take_add_one, h]; simp
theorem slice_rid {x : List B} (h : x.length = 32) : sliceM (.arr 32 1) (.rptr (eId x) 0) none none none = some (.rsl 1 (x.map enc8)) := by
 have := chunks_id h
 have hb : boundsC 32 32 none none none = some (0, 32, 32) := rfl
 unfold sliceM
 simp only [hb]
 simp [eId_len h, this]
structure LstI (l : Hl) (s : Ids) (k : Nat) (σ : Sg) (l1 : Hl) : Prop where
 g0 : σ 0 = encS 32 eId s
 g4 : σ 4 = .int .i64 k
 ob : ∃ v, σ 3 = v ∧ Ob 1 enc8 l l1 v (numB s.l.length ++ (s.l.take k).flatten) false
theorem rList_ob (s : Ids) (ho : okIds s) (hs : s.l.length ≤ 1000) {l : Hl} {K : CV → Hl → Prop} (hK : ∀ v l', Ob 1 enc8 l l' v (listB s.l) false → K v l') :
  CallP Tryz.prog GS 99 [encIds s] l (c := ⟨K⟩) := by
 apply call_intro c99_eq r99_eq
 unfold c99 r99
 have hr : roomMax = 140737488355328 := rfl
 have hn : (BitVec.ofNat 64 s.l.length).toNat = s.l.length := by rw [BitVec.toNat_ofNat]; exact Nat.mod_eq_of_lt (by omega)
 have hnl := numB_len s.l.length
 simp [encIds]
 refine rNumber_ob _ fun v l' h => ?_
 rw [hn] at h
 simp
 refine loop_up s.l.length (LstI l s) ?_ ⟨by simp [encIds], by simp, v, by simp, by simpa using h⟩
 rintro k σ l1 hk ⟨g0, g4, v, g3, hob⟩
 obtain ⟨σ, rfl⟩ := upds3 g0 g3 g4
 clear g0 g3 g4
 unfold l99_0
 simp
 refine kIf_intro (fun h => ?_) (fun h => ?_)
 ·simp only [decide_eq_true_eq] at h
  obtain ⟨x, hx, hxm⟩ := get_of (l := s.l) (k := k) (by omega)
  have e1 : IntKind.i64.wrap ((k : Int) + 1) = ((k + 1 : Nat) : Int) := by rw [IntKind.wrap_i64]; omega
  have hfl : ((s.l.take k).flatten).length ≤ 32000 := by
   rw [ids_flat_len (fun y hy => ho y (List.mem_of_mem_take hy)), List.length_take]; omega
  obtain ⟨v', l2, a1, a2, _⟩ := hob.app (by_ := 1) (x := .rsl 1 (x.map enc8)) (xs := x) (by simp [contentsL]) (by simp [enc8]) (by omega) (by omega) (by rw [hr, ho x hxm]; simp only [List.length_append]; omega)
  simp [hx, eId_len (ho x hxm), List.take_of_length_le, slice_rid (ho x hxm), a1]
  refine AppK.keep ?_
  simp [e1]
  exact ⟨by omega, by simp, by simp, v', by simp, by rw [take_succ' hx, ← List.append_assoc]; exact a2⟩
 ·simp [h]
  have ht : s.l.take k = s.l := List.take_of_length_le (by simp at h; omega)
  rw [ht] at hob
  exact hK _ _ hob
structure LstJ (l : Hl) (s : Ids) (k : Nat) (σ : Sg) (l1 : Hl) : Prop where
 g17 : σ 17 = encS 32 eId s
 g18 : σ 18 = .int .i64 s.l.length
 g19 : σ 19 = .int .i64 k
 ob : ∃ v, σ 4 = v ∧ Ob 1 enc8 l l1 v (numB s.l.length ++ (s.l.take k).flatten) false
theorem wIDs_ob (s : Ids) (ho : okIds s) (hs : s.l.length ≤ 60) (hr : ris s.l = true) {l : Hl} {K : CV → Hl → Prop} (hK : ∀ v l', Ob 1 enc8 l l' v (listB s.l) false → K (.tu [v, .int .i64 0]) l') :
  CallP Tryz.prog GS 118 [encIds s] l (c := ⟨K⟩) := by
 apply call_intro c118_eq r118_eq
 unfold c118 r118
 have hrm : roomMax = 140737488355328 := rfl
 have hn : (BitVec.ofNat 64 s.l.length).toNat = s.l.length := by rw [BitVec.toNat_ofNat]; exact Nat.mod_eq_of_lt (by omega)
 have hnl := numB_len s.l.length
 have h60 : ¬ (60 : Int) < (s.l.length : Int) := by omega
 simp [encIds, h60]
 refine pure_call (rising_ok s ho (by omega)) (by have := closed_ids s; simp [closedL]; exact this) ?_
 simp [hr, encIds]
 refine wNumber_ob _ fun v l' h => ?_
 rw [hn] at h
 simp [encIds]
 refine loop_up s.l.length (LstJ l s) ?_ ⟨by simp [encIds], by simp, by simp, v, by simp, by simpa using h⟩
 rintro k σ l1 hk ⟨g17, g18, g19, v, g4, hob⟩
 obtain ⟨σ, rfl⟩ := upds4 g17 g18 g19 g4
 clear g17 g18 g19 g4
 unfold l118_0
 simp
 refine kIf_intro (fun h => ?_) (fun h => ?_)
 ·simp only [decide_eq_true_eq] at h
  obtain ⟨x, hx, hxm⟩ := get_of (l := s.l) (k := k) (by omega)
  have e1 : IntKind.i64.wrap ((k : Int) + 1) = ((k + 1 : Nat) : Int) := by rw [IntKind.wrap_i64]; omega
  have hfl : ((s.l.take k).flatten).length ≤ 32000 := by
   rw [ids_flat_len (fun y hy => ho y (List.mem_of_mem_take hy)), List.length_take]; omega
  obtain ⟨v', l2, a1, a2, _⟩ := (hob.more [.cells 32 (eId x)]).app (by_ := 1) (x := .sl 1 l1.length 0 32 32 32) (xs := x) (by simp [contentsL, ho x hxm, eId_len (ho x hxm), List.take_of_length_le, eId, enc8_flat]) (by simp [enc8]) (by omega) (by omega) (by rw [hrm, ho x hxm]; simp only [List.length_append]; omega)
  have hsp : splice (rep 32 (.int .u8 0)) 0 (eId x) = eId x := splice_full (by rw [eId_len (ho x hxm)]; rfl)
  simp [hx, eId_len (ho x hxm), List.take_of_length_le, slice_arr_all, hsp, a1]
  refine AppK.keep ?_
  simp [e1]
  exact ⟨by omega, by simp, by simp, by simp, v', by simp, by rw [take_succ' hx, ← List.append_assoc]; exact a2⟩
 ·simp [h]
  have ht : s.l.take k = s.l := List.take_of_length_le (by simp at h; omega)
  rw [ht] at hob
  exact hK _ _ hob
def tB (s : List UInt8) : List B := s.map fun b => b.toBitVec
theorem tB_rsl (s : List UInt8) : (s.map fun b => [byteC b]) = (tB s).map enc8 := by
 unfold tB
 rw [List.map_map]
 rfl
theorem tB_len (s : List UInt8) : (tB s).length = s.length := by simp [tB]
def be8 (b : Q) (k : Nat) : List B := (List.range k).map fun i => byteAt b.toNat (7 - i)
def valBytes (v : Val) : List B := v.kind :: (if v.kind = 1#8 then numB (zig v.num).toNat else if v.kind = 2#8 then be8 v.bits 8 else textB (tB v.text))
def okV (v : Val) : Prop := -9223372036854775808 ≤ v.num ∧ v.num < 9223372036854775808 ∧ v.text.length ≤ 10000
theorem be8_succ (b : Q) (k : Nat) : be8 b (k + 1) = be8 b k ++ [byteAt b.toNat (7 - k)] := by
 unfold be8; rw [List.range_succ, List.map_append]; rfl
theorem ob1 (l : Hl) (c : CB) (x : B) : Ob 1 enc8 l (l ++ [c, .cells 1 [e8 x]]) (.sl 1 (l.length + 1) 0 1 1 1) [x] false := by
 exact ⟨l.length + 1, own_arr (n := 1) (a := [x]) rfl (by simp), by simp, fun b hb => List.getElem?_append_left hb, .inr (by omega), rfl⟩
theorem ob2 (l : Hl) (c : CB) (x : B) : Ob 1 enc8 (l ++ [c]) (l ++ [c, .cells 1 [e8 x]]) (.sl 1 (l.length + 1) 0 1 1 1) [x] false := by
 have e : l ++ [c, .cells 1 [e8 x]] = (l ++ [c]) ++ [.cells 1 [e8 x]] := by simp
 exact ⟨l.length + 1, own_arr (n := 1) (a := [x]) rfl (by simp), by simp, fun b hb => by rw [e]; exact List.getElem?_append_left hb, .inr (by simp), rfl⟩
structure BitI (l : Hl) (v : Val) (p : Nat) (k : Nat) (σ : Sg) (l1 : Hl) : Prop where
 g1 : σ 1 = .ptr p 0 4
 g4 : σ 4 = .int .i64 (7 - (k : Int))
 ob : ∃ w, σ 3 = w ∧ Ob 1 enc8 (l ++ [.cells 4 (encV v)]) l1 w (v.kind :: be8 v.bits k) false
theorem rValBytes_ob (v : Val) (hv : okV v) {l : Hl} {K : CV → Hl → Prop} (hK : ∀ w l', Ob 1 enc8 l l' w (valBytes v) false → K w l') :
  CallP Tryz.prog GS 101 [.ag (encV v)] l (c := ⟨K⟩) := by
 apply call_intro c101_eq r101_eq
 unfold c101 r101
 have hr : roomMax = 140737488355328 := rfl
 have h0 := ob1 l (.cells 4 (encV v)) v.kind
 obtain ⟨hn1, hn2, ht⟩ := hv
 have hc : csbC (.str v.text) = some (.rsl 1 ((tB v.text).map enc8)) := by
  show some (CV.rsl 1 (v.text.map fun b => [byteC b])) = _
  rw [tB_rsl]
 by_cases c1 : v.kind = 1#8
 ·have hvb : valBytes v = [v.kind] ++ numB (zig v.num).toNat := by unfold valBytes; rw [if_pos c1]; rfl
  have e1 : (u v.kind : Int) = 1 := (u_1 v.kind).2 c1
  simp only [e8, e1] at h0
  have hnl := numB_len (zig v.num).toNat
  simp [encV, e1]
  refine rSigned_ob v.num hn1 hn2 fun w l' h => ?_
  obtain ⟨v', l2, a1, a2, _⟩ := (h0.frame h.le h.same).app (by_ := 1) (x := w) (xs := numB (zig v.num).toNat) h.contents (by simp [enc8]) (by omega) (by omega) (by rw [hr]; simp only [List.length_cons, List.length_nil]; omega)
  simp [a1]
  refine AppK.keep ?_
  simp
  exact hK _ _ (by rw [hvb]; exact a2)
 ·have e1 : ¬ (u v.kind : Int) = 1 := fun h => c1 ((u_1 v.kind).1 h)
  by_cases c2 : v.kind = 2#8
  ·have e2 : (u v.kind : Int) = 2 := (u_2 v.kind).2 c2
   have hvb : valBytes v = v.kind :: be8 v.bits 8 := by unfold valBytes; rw [if_neg c1, if_pos c2]
   have h2 := ob2 l (.cells 4 (encV v)) v.kind
   simp only [e8, e2] at h2
   simp [encV, e2]
   refine loop_up 8 (BitI l v l.length) ?_ ⟨by simp, by simp, _, by simp, h2⟩
   rintro k σ l1 hk ⟨g1, g4, w, g3, hob⟩
   have hp : l1[l.length]? = some (.cells 4 (encV v)) := by rw [hob.same l.length (by simp)]; simp
   obtain ⟨σ, rfl⟩ := upds3 g1 g3 g4
   clear g1 g3 g4
   unfold l101_0
   by_cases hk8 : k = 8
   ·subst hk8
    rw [← hvb] at hob
    simp
    exact hK _ _ (hob.base (by simp) fun b hb => List.getElem?_append_left hb)
   ·obtain ⟨m, hm⟩ : ∃ m, m + k = 7 := ⟨7 - k, by omega⟩
    have em : 7 - (k : Int) = (m : Int) := by omega
    have em1 : IntKind.i64.wrap ((m : Int) - 1) = (m : Int) - 1 := by rw [IntKind.wrap_i64]; omega
    have em8 : IntKind.i64.wrap (8 * (m : Int)) = ((8 * m : Nat) : Int) := by rw [IntKind.wrap_i64]; omega
    have x4 : binInt .shr .u64 (u v.bits) .i64 ((8 * m : Nat) : Int) = some (.int .u64 (u (v.bits >>> (8 * m)))) := bshrn_u64 v.bits .i64 (8 * m)
    have x5 := byte_shr v.bits m
    have hlen : (v.kind :: be8 v.bits k).length ≤ 1000000000 := by simp [be8]; omega
    obtain ⟨w', l', a1, a2⟩ := Ob.push hob (byteAt v.bits.toNat m) hlen
    rw [em]
    simp [encV] at hp
    simp [hp, em8, x4, x5, a1, -Int.natCast_mul]
    refine AppK.keep ?_
    simp [em1]
    exact ⟨by omega, by simp, by simp; omega, w', by simp, by rw [be8_succ, show 7 - k = m by omega]; exact a2⟩
  ·have e2 : ¬ (u v.kind : Int) = 2 := fun h => c2 ((u_2 v.kind).1 h)
   have hvb : valBytes v = [v.kind] ++ textB (tB v.text) := by unfold valBytes; rw [if_neg c1, if_neg c2]; rfl
   have htl : (textB (tB v.text)).length ≤ 20000 := by
    have := numB_len (tB v.text).length
    unfold textB
    rw [List.length_append]
    have := tB_len v.text
    omega
   simp [encV, e1, e2, hc]
   refine rText_ob (some (tB v.text)) (by simpa [tB_len] using ht) (by simp [contentsL]) (by simp) (fun l' _ _ => by simp [contentsL]) fun w l' h => ?_
   obtain ⟨v', l2, a1, a2, _⟩ := (h0.frame h.le h.same).app (by_ := 1) (x := w) (xs := textB (tB v.text)) h.contents (by simp [enc8]) (by omega) (by omega) (by rw [hr]; simp only [List.length_cons, List.length_nil]; omega)
   simp [a1]
   refine AppK.keep ?_
   simp
   exact hK _ _ (by rw [hvb]; exact a2)
structure BitJ (l : Hl) (v : Val) (p : Nat) (k : Nat) (σ : Sg) (l1 : Hl) : Prop where
 g1 : σ 1 = .ptr p 0 4
 g6 : σ 6 = .int .i64 (8 * (7 - (k : Int)))
 ob : ∃ w, σ 5 = w ∧ Ob 1 enc8 (l ++ [.cells 4 (encV v)]) l1 w (v.kind :: be8 v.bits k) false
theorem kind3 {v : Val} (h : valB v = true) (c1 : ¬ v.kind = 1#8) (c2 : ¬ v.kind = 2#8) : v.kind = 3#8 := by
 unfold valB at h
 simp [c1, c2] at h
 exact h.1
theorem wValBytes_ob (v : Val) (hv : okV v) (hok : valB v = true) {l : Hl} {K : CV → Hl → Prop} (hK : ∀ w l', Ob 1 enc8 l l' w (valBytes v) false → K (.tu [w, .int .i64 0]) l') :
  CallP Tryz.prog GS 120 [.ag (encV v)] l (c := ⟨K⟩) := by
 apply call_intro c120_eq r120_eq
 unfold c120 r120
 have hr : roomMax = 140737488355328 := rfl
 have h0 := ob1 l (.cells 4 (encV v)) v.kind
 obtain ⟨hn1, hn2, ht⟩ := hv
 have hc : csbC (.str v.text) = some (.rsl 1 ((tB v.text).map enc8)) := by
  show some (CV.rsl 1 (v.text.map fun b => [byteC b])) = _
  rw [tB_rsl]
 have hck := vCheck_ok v
 rw [hok] at hck
 by_cases c1 : v.kind = 1#8
 ·have hvb : valBytes v = [v.kind] ++ numB (zig v.num).toNat := by unfold valBytes; rw [if_pos c1]; rfl
  have e1 : (u v.kind : Int) = 1 := (u_1 v.kind).2 c1
  simp only [e8, e1] at h0
  have hnl := numB_len (zig v.num).toNat
  simp [encV]
  refine pure_call hck rfl ?_
  simp [errB, e1]
  refine wSigned_ob v.num hn1 hn2 fun w l' h => ?_
  obtain ⟨v', l2, a1, a2, _⟩ := (h0.frame h.le h.same).app (by_ := 1) (x := w) (xs := numB (zig v.num).toNat) h.contents (by simp [enc8]) (by omega) (by omega) (by rw [hr]; simp only [List.length_cons, List.length_nil]; omega)
  simp [a1]
  refine AppK.keep ?_
  simp
  exact hK _ _ (by rw [hvb]; exact a2)
 ·have e1 : ¬ (u v.kind : Int) = 1 := fun h => c1 ((u_1 v.kind).1 h)
  by_cases c2 : v.kind = 2#8
  ·have e2 : (u v.kind : Int) = 2 := (u_2 v.kind).2 c2
   have hvb : valBytes v = v.kind :: be8 v.bits 8 := by unfold valBytes; rw [if_neg c1, if_pos c2]
   have h2 := ob2 l (.cells 4 (encV v)) v.kind
   simp only [e8, e2] at h2
   simp [encV]
   refine pure_call hck rfl ?_
   simp [errB, e2]
   refine loop_up 8 (BitJ l v l.length) ?_ ⟨by simp, by simp, _, by simp, h2⟩
   rintro k σ l1 hk ⟨g1, g6, w, g5, hob⟩
   have hp : l1[l.length]? = some (.cells 4 (encV v)) := by rw [hob.same l.length (by simp)]; simp
   obtain ⟨σ, rfl⟩ := upds3 g1 g5 g6
   clear g1 g5 g6
   unfold l120_0
   by_cases hk8 : k = 8
   ·subst hk8
    rw [← hvb] at hob
    simp
    exact hK _ _ (hob.base (by simp) fun b hb => List.getElem?_append_left hb)
   ·obtain ⟨m, hm⟩ : ∃ m, m + k = 7 := ⟨7 - k, by omega⟩
    obtain ⟨n, hn⟩ : ∃ n, n = 8 * m := ⟨_, rfl⟩
    have em : 8 * (7 - (k : Int)) = (n : Int) := by omega
    have em1 : IntKind.i64.wrap ((n : Int) - 8) = (n : Int) - 8 := by rw [IntKind.wrap_i64]; omega
    have x4 : binInt .shr .u64 (u v.bits) .i64 (n : Int) = some (.int .u64 (u (v.bits >>> n))) := bshrn_u64 v.bits .i64 n
    have x5 := byte_shr v.bits m
    rw [← hn] at x5
    have hlen : (v.kind :: be8 v.bits k).length ≤ 1000000000 := by simp [be8]; omega
    obtain ⟨w', l', a1, a2⟩ := Ob.push hob (byteAt v.bits.toNat m) hlen
    rw [em]
    simp [encV] at hp
    simp [hp, x4, x5, a1]
    refine AppK.keep ?_
    simp [em1]
    exact ⟨by omega, by simp, by simp; omega, w', by simp, by rw [be8_succ, show 7 - k = m by omega]; exact a2⟩
  ·have e2 : ¬ (u v.kind : Int) = 2 := fun h => c2 ((u_2 v.kind).1 h)
   have e3 : (u v.kind : Int) = 3 := (u_3 v.kind).2 (kind3 hok c1 c2)
   have hvb : valBytes v = [v.kind] ++ textB (tB v.text) := by unfold valBytes; rw [if_neg c1, if_neg c2]; rfl
   have htl : (textB (tB v.text)).length ≤ 20000 := by
    have := numB_len (tB v.text).length
    unfold textB
    rw [List.length_append]
    have := tB_len v.text
    omega
   simp only [e8, e3] at h0
   simp [encV]
   refine pure_call hck rfl ?_
   simp [errB, e3, hc]
   refine wBytes_ob (some (tB v.text)) (by simpa [tB_len] using ht) (by simp [contentsL]) (by simp) (fun l' _ _ => by simp [contentsL]) fun w l' h => ?_
   obtain ⟨v', l2, a1, a2, _⟩ := (h0.frame h.le h.same).app (by_ := 1) (x := w) (xs := textB (tB v.text)) h.contents (by simp [enc8]) (by omega) (by omega) (by rw [hr]; simp only [List.length_cons, List.length_nil]; omega)
   simp [a1]
   refine AppK.keep ?_
   simp
   exact hK _ _ (by rw [hvb]; exact a2)
structure Opr where
 author : D
 preds : Ids
 stamp : Q
 act : Act
 e : D
 s : D
def encOp (o : Opr) : List CV := [e32 o.author, encIds o.preds, e64 o.stamp, e8 o.act.kind, .str o.act.key, e8 o.act.val.kind, .int .i64 o.act.val.num, e64 o.act.val.bits, .str o.act.val.text, e32 o.e, e32 o.s]
structure OkOp (o : Opr) : Prop where
 ids : okIds o.preds
 len : o.preds.l.length ≤ 1000000
 val : okV o.act.val
 key : o.act.key.length ≤ 10000
def goodB (o : Opr) : Bool := isG o.author && (decide (o.stamp.toNat ≤ 1000000000000) && (actB o.act && (expB o.e && expB o.s)))
def opErr (o : Opr) : Int := if 4 < o.preds.l.length then 4 else if ris o.preds.l then (if goodB o then 0 else 8) else 32
theorem closed_op (o : Opr) : closedL (encOp o) = true := by
 have := closed_ids o.preds
 simp [encOp, closedL, CV.closed, this]
theorem rOpCheck_ok (o : Opr) (ho : OkOp o) : PureC Tryz.prog GS 50 [.ag (encOp o)] (.int .i64 (opErr o)) := by
 refine pure_of Tryz.checked.mixed GS_closed ?_
 apply call_intro c50_eq r50_eq
 unfold c50 r50 opErr
 have hcl := closed_ids o.preds
 have hlen : lenM (.sl 32) (encIds o.preds) = some (.int .i64 o.preds.l.length) := by simp [encIds]
 have hcells : (encIds o.preds).cells = some [encIds o.preds] := by cases o.preds <;> rfl
 obtain ⟨p, hp⟩ : ∃ p, p = encIds o.preds := ⟨_, rfl⟩
 by_cases h1 : 4 < o.preds.l.length
 ·have h1' : (4 : Int) < (o.preds.l.length : Int) := by omega
  rw [if_pos h1]
  simp [encOp, hlen, h1']
  exact rd_eq rfl rfl
 ·have h1' : ¬ (4 : Int) < (o.preds.l.length : Int) := by omega
  rw [if_neg h1]
  simp [encOp, hlen, h1']
  refine pure_call (rRising_ok o.preds ho.ids ho.len) (by simp [closedL, hcl]) ?_
  cases h2 : ris o.preds.l with
  | false =>
   simp
   exact rd_eq rfl rfl
  | true =>
   simp
   refine pure_call (refIs_ok o.author) rfl ?_
   unfold goodB
   cases h3 : isG o.author with
   | false =>
    simp
    exact rd_eq rfl rfl
   | true =>
    have hst : ((1000000000000 : Int) < u o.stamp) ↔ ¬ o.stamp.toNat ≤ 1000000000000 := by unfold u; omega
    by_cases h4 : o.stamp.toNat ≤ 1000000000000
    ·have h4' : ¬ ((1000000000000 : Int) < u o.stamp) := fun h => hst.1 h h4
     simp [h4, h4']
     refine pure_call (refCheckAct_ok o.act) rfl ?_
     cases h5 : actB o.act with
     | false =>
      simp [errB]
      exact rd_eq rfl rfl
     | true =>
      simp [errB]
      refine pure_call (exponent_ok o.e) rfl ?_
      cases h6 : expB o.e with
      | false =>
       simp
       exact rd_eq rfl rfl
      | true =>
       simp
       refine pure_call (exponent_ok o.s) rfl ?_
       cases h7 : expB o.s with
       | false =>
        simp
        exact rd_eq rfl rfl
       | true =>
        simp
        exact rd_eq (by rw [if_pos h4]) rfl
    ·have h4' : (1000000000000 : Int) < u o.stamp := hst.2 h4
     simp [h4, h4']
     exact rd_eq rfl rfl
def opHead (o : Opr) : List B := 111#8 :: numB o.author.toNat
def opText (o : Opr) : List B :=
 opHead o ++ listB o.preds.l ++ numB o.stamp.toNat ++ [o.act.kind] ++ (if o.act.kind = 1#8 then [] else textB (tB o.act.key)) ++ (if o.act.kind = 4#8 then valBytes o.act.val else [])
theorem listB_len {l : List (List B)} (h : ∀ x ∈ l, x.length = 32) : (listB l).length ≤ 9 + l.length * 32 := by
 have := numB_len l.length
 have h2 := ids_flat_len h
 unfold listB
 rw [List.length_append]
 omega
theorem textB_len (s : List B) : (textB s).length ≤ 9 + s.length := by
 have := numB_len s.length
 unfold textB
 rw [List.length_append]
 omega
theorem valBytes_len (v : Val) : (valBytes v).length ≤ 20 + v.text.length := by
 have h1 := numB_len (zig v.num).toNat
 have h2 := textB_len (tB v.text)
 have h3 := tB_len v.text
 unfold valBytes
 simp only [List.length_cons]
 split
 ·omega
 ·split
  ·simp [be8]; omega
  ·omega
theorem rText6_ob (o : Opr) (ho : OkOp o) (hl4 : o.preds.l.length ≤ 1000) {l : Hl} {K : CV → Hl → Prop} (hK : ∀ w l', Ob 1 enc8 l l' w (opText o) false → K w l') :
  CallP Tryz.prog GS 70 [.ag (encOp o)] l (c := ⟨K⟩) := by
 apply call_intro c70_eq r70_eq
 unfold c70 r70
 have hr : roomMax = 140737488355328 := rfl
 have h0 := ob2 l (.cells 11 (encOp o)) 111#8
 have hna := numB_len o.author.toNat
 have hns := numB_len o.stamp.toNat
 have hpl := listB_len ho.ids
 have hsw : (BitVec.setWidth 64 o.author).toNat = o.author.toNat := by rw [BitVec.toNat_setWidth]; exact Nat.mod_eq_of_lt (by have := o.author.isLt; omega)
 have hlt : l.length < (l ++ [CB.cells 11 (encOp o)]).length := by simp
 have hat : (l ++ [CB.cells 11 (encOp o)])[l.length]? = some (.cells 11 (encOp o)) := by simp
 simp [encOp]
 refine rNumber_ob _ fun w1 l1 h1 => ?_
 rw [hsw] at h1
 obtain ⟨w2, l2, a2, b2, _⟩ := (h0.frame h1.le h1.same).app (by_ := 1) (x := w1) (xs := numB o.author.toNat) h1.contents (by simp [enc8]) (by omega) (by omega) (by rw [hr]; simp only [List.length_cons, List.length_nil]; omega)
 have hp2 : l2[l.length]? = some (.cells 11 (encOp o)) := by rw [b2.same _ hlt]; exact hat
 have hlt2 : l.length < l2.length := by have := b2.le; omega
 have hp2' := hp2
 simp [encOp] at hp2'
 simp [a2]
 refine AppK.keep ?_
 simp [hp2']
 refine rList_ob o.preds ho.ids hl4 fun w3 l3 h3 => ?_
 obtain ⟨w4, l4, a4, b4, _⟩ := (b2.frame h3.le h3.same).app (by_ := 1) (x := w3) (xs := listB o.preds.l) h3.contents (by simp [enc8]) (by omega) (by omega) (by rw [hr]; simp only [List.length_append, List.length_cons, List.length_nil]; omega)
 have hp3 : l3[l.length]? = some (.cells 11 (encOp o)) := by rw [h3.same _ hlt2]; exact hp2
 have hp4 : l4[l.length]? = some (.cells 11 (encOp o)) := by rw [b4.same _ hlt]; exact hat
 have hlt4 : l.length < l4.length := by have := b4.le; omega
 have hp3' := hp3
 have hp4' := hp4
 simp [encOp] at hp3' hp4'
 simp [hp3', a4]
 refine AppK.keep ?_
 simp [hp4']
 refine rNumber_ob _ fun w5 l5 h5 => ?_
 obtain ⟨w6, l6, a6, b6, _⟩ := (b4.frame h5.le h5.same).app (by_ := 1) (x := w5) (xs := numB o.stamp.toNat) h5.contents (by simp [enc8]) (by omega) (by omega) (by rw [hr]; simp only [List.length_append, List.length_cons, List.length_nil]; omega)
 have hp6 : l6[l.length]? = some (.cells 11 (encOp o)) := by rw [b6.same _ hlt]; exact hat
 have hp6' := hp6
 simp [encOp] at hp6'
 obtain ⟨w7, l7, a7, b7⟩ := Ob.push b6 o.act.kind (by simp only [List.length_append, List.length_cons, List.length_nil]; omega)
 have hp7 : l7[l.length]? = some (.cells 11 (encOp o)) := by rw [b7.same _ hlt]; exact hat
 have hlt7 : l.length < l7.length := by have := b7.le; omega
 have hp7' := hp7
 simp [encOp] at hp7'
 simp [a6]
 refine AppK.keep ?_
 simp [hp6', a7]
 refine AppK.keep ?_
 obtain ⟨M, hM⟩ : ∃ M, M = [111#8] ++ numB o.author.toNat ++ listB o.preds.l ++ numB o.stamp.toNat ++ [o.act.kind] := ⟨_, rfl⟩
 have hMl : M.length ≤ 40000 := by rw [hM]; simp only [List.length_append, List.length_cons, List.length_nil]; omega
 rw [← hM] at b7
 have hT : opText o = M ++ (if o.act.kind = 1#8 then [] else textB (tB o.act.key)) ++ (if o.act.kind = 4#8 then valBytes o.act.val else []) := by rw [hM]; rfl
 have htl := textB_len (tB o.act.key)
 rw [tB_len] at htl
 have hkey := ho.key
 have hvl := valBytes_len o.act.val
 have hvt := ho.val.2.2
 have hc : csbC (.str o.act.key) = some (.rsl 1 ((tB o.act.key).map enc8)) := by
  show some (CV.rsl 1 (o.act.key.map fun b => [byteC b])) = _
  rw [tB_rsl]
 by_cases c1 : o.act.kind = 1#8
 ·have e1 : (u o.act.kind : Int) = 1 := (u_1 o.act.kind).2 c1
  have c4 : ¬ o.act.kind = 4#8 := by rw [c1]; decide
  rw [if_pos c1, if_neg c4, List.append_nil, List.append_nil] at hT
  simp [hp7', e1]
  exact hK _ _ (by rw [hT]; exact b7.base (by simp) fun b hb => List.getElem?_append_left hb)
 ·have e1 : ¬ (u o.act.kind : Int) = 1 := fun h => c1 ((u_1 o.act.kind).1 h)
  rw [if_neg c1] at hT
  simp [hp7', e1, hc]
  refine rText_ob (some (tB o.act.key)) (by simpa [tB_len] using hkey) (by simp [contentsL]) (by simp) (fun l' _ _ => by simp [contentsL]) fun w8 l8 h8 => ?_
  obtain ⟨w9, l9, a9, b9, _⟩ := (b7.frame h8.le h8.same).app (by_ := 1) (x := w8) (xs := textB (tB o.act.key)) h8.contents (by simp [enc8]) (by omega) (by omega) (by rw [hr]; omega)
  have hp9 : l9[l.length]? = some (.cells 11 (encOp o)) := by rw [b9.same _ hlt]; exact hat
  have hp9' := hp9
  simp [encOp] at hp9'
  simp [a9]
  refine AppK.keep ?_
  simp only [Bool.false_and] at b9
  by_cases c4 : o.act.kind = 4#8
  ·have e4 : (u o.act.kind : Int) = 4 := (u_4 o.act.kind).2 c4
   rw [if_pos c4] at hT
   simp [hp9', e4]
   refine rValBytes_ob o.act.val ho.val fun w10 l10 h10 => ?_
   obtain ⟨w11, l11, a11, b11, _⟩ := (b9.frame h10.le h10.same).app (by_ := 1) (x := w10) (xs := valBytes o.act.val) h10.contents (by simp [enc8]) (by omega) (by omega) (by rw [hr]; simp only [List.length_append]; omega)
   simp [a11]
   refine AppK.keep ?_
   simp
   exact hK _ _ (by rw [hT]; exact b11.base (by simp) fun b hb => List.getElem?_append_left hb)
  ·have e4 : ¬ (u o.act.kind : Int) = 4 := fun h => c4 ((u_4 o.act.kind).1 h)
   rw [if_neg c4, List.append_nil] at hT
   simp [hp9', e4]
   exact hK _ _ (by rw [hT]; exact b9.base (by simp) fun b hb => List.getElem?_append_left hb)
def opBytes (o : Opr) : List B := opText o ++ numB o.e.toNat ++ numB o.s.toNat
theorem opText_len (o : Opr) (ho : OkOp o) (hl4 : o.preds.l.length ≤ 1000) : (opText o).length ≤ 100000 := by
 have h1 := numB_len o.author.toNat
 have h2 := numB_len o.stamp.toNat
 have h3 := listB_len ho.ids
 have h4 := textB_len (tB o.act.key)
 rw [tB_len] at h4
 have h5 := ho.key
 have h6 := valBytes_len o.act.val
 have h7 := ho.val.2.2
 have g1 : (if o.act.kind = 1#8 then [] else textB (tB o.act.key)).length ≤ 10009 := by split <;> (try simp) ; omega
 have g2 : (if o.act.kind = 4#8 then valBytes o.act.val else []).length ≤ 10020 := by split <;> (try simp) ; omega
 unfold opText opHead
 simp only [List.length_append, List.length_cons, List.length_nil]
 omega
theorem rBytes6_ob (o : Opr) (ho : OkOp o) (hl4 : o.preds.l.length ≤ 1000) {l : Hl} {K : CV → Hl → Prop} (hK : ∀ w l', Ob 1 enc8 l l' w (opBytes o) false → K w l') :
  CallP Tryz.prog GS 75 [.ag (encOp o)] l (c := ⟨K⟩) := by
 apply call_intro c75_eq r75_eq
 unfold c75 r75
 have hr : roomMax = 140737488355328 := rfl
 have hne := numB_len o.e.toNat
 have hns := numB_len o.s.toNat
 have htl := opText_len o ho hl4
 have hse : (BitVec.setWidth 64 o.e).toNat = o.e.toNat := by rw [BitVec.toNat_setWidth]; exact Nat.mod_eq_of_lt (by have := o.e.isLt; omega)
 have hss : (BitVec.setWidth 64 o.s).toNat = o.s.toNat := by rw [BitVec.toNat_setWidth]; exact Nat.mod_eq_of_lt (by have := o.s.isLt; omega)
 have hlt : l.length < (l ++ [CB.cells 11 (encOp o)]).length := by simp
 have hat : (l ++ [CB.cells 11 (encOp o)])[l.length]? = some (.cells 11 (encOp o)) := by simp
 simp [encOp]
 refine rText6_ob o ho hl4 fun w1 l1 h1 => ?_
 have hp1 : l1[l.length]? = some (.cells 11 (encOp o)) := by rw [h1.same _ hlt]; exact hat
 have hlt1 : l.length < l1.length := by have := h1.le; simp at this; omega
 have hp1' := hp1
 simp [encOp] at hp1'
 simp [hp1']
 refine rNumber_ob _ fun w2 l2 h2 => ?_
 rw [hse] at h2
 obtain ⟨w3, l3, a3, b3, _⟩ := (h1.frame h2.le h2.same).app (by_ := 1) (x := w2) (xs := numB o.e.toNat) h2.contents (by simp [enc8]) (by omega) (by omega) (by rw [hr]; omega)
 have hp2 : l2[l.length]? = some (.cells 11 (encOp o)) := by rw [h2.same _ hlt1]; exact hp1
 have hp3 : l3[l.length]? = some (.cells 11 (encOp o)) := by rw [b3.same _ hlt]; exact hat
 have hp2' := hp2
 have hp3' := hp3
 simp [encOp] at hp2' hp3'
 simp [hp2', a3]
 refine AppK.keep ?_
 simp [hp3']
 refine rNumber_ob _ fun w4 l4 h4 => ?_
 rw [hss] at h4
 obtain ⟨w5, l5, a5, b5, _⟩ := (b3.frame h4.le h4.same).app (by_ := 1) (x := w4) (xs := numB o.s.toNat) h4.contents (by simp [enc8]) (by omega) (by omega) (by rw [hr]; simp only [List.length_append]; omega)
 simp [a5]
 refine AppK.keep ?_
 simp
 exact hK _ _ (b5.base (by simp) fun b hb => List.getElem?_append_left hb)
theorem rOf6_ok (o : Opr) (ho : OkOp o) (hl4 : o.preds.l.length ≤ 1000) : PureC Tryz.prog GS 51 [.ag (encOp o)] (idC (sha (opBytes o))) := by
 refine pure_of Tryz.checked.mixed GS_closed ?_
 apply call_intro c51_eq r51_eq
 unfold c51 r51
 have hne := numB_len o.e.toNat
 have hns := numB_len o.s.toNat
 have htl := opText_len o ho hl4
 have hsl : (sha (opBytes o)).length = 32 := sha_length _
 simp [encOp]
 refine rBytes6_ob o ho hl4 fun w1 l1 h1 => ?_
 have hat : l1[1]? = some (.cells 32 (rep 32 (.int .u8 0))) := by rw [h1.same 1 (by simp)]; rfl
 simp
 refine pure_callB (refOf_ok (some (opBytes o)) (by simp [opBytes]; omega)) (.cons (h1.rdH (fun _ => rfl) (some (opBytes o)) rfl rfl) .nil) (by simp [CV.flat, flatL, idC, flatL_map e8 (fun _ => rfl)]) ?_
 have hspl : splice (rep 32 (.int .u8 0)) 0 ((sha (opBytes o)).map e8) = (sha (opBytes o)).map e8 := splice_full (by rw [List.length_map, hsl]; rfl)
 have hset : (l1.set 1 (CB.cells 32 ((sha (opBytes o)).map e8)))[1]? = some (.cells 32 ((sha (opBytes o)).map e8)) := List.getElem?_set_self (get_lt hat)
 simp [hat, idC, hsl, hspl, hset, List.take_of_length_le]
 exact rd_eq rfl (by simp [CV.closed, closedL_map e8 (fun _ => rfl)])
theorem beqE8 : ∀ a b : List B, a.length = b.length → beqL (a.map e8) (b.map e8) = decide (a = b)
 | [], [], _ => rfl
 | [], _ :: _, h => by simp at h
 | _ :: _, [], h => by simp at h
 | x :: a, y :: b, h => by
  have ih := beqE8 a b (by simpa using h)
  simp only [List.map_cons, beqL, ih, CV.beq, decide_true, Bool.true_and]
  by_cases h1 : x = y
  ·by_cases h2 : a = b <;> simp [h1, h2]
  ·have : ¬ u x = u y := fun h => h1 ((u_inj x y).1 h)
   simp [h1]
theorem okKE8 : ∀ a : List B, okK (List.replicate a.length (.i .u8)) (a.map e8) = true
 | [] => rfl
 | x :: a => by
  rw [List.length_cons, List.replicate_succ, List.map_cons]
  simp only [okK, okKE8 a, tkOk, decide_true, Bool.and_self]
theorem kindsID : kindsT Tryz.prog 20 32 = some (List.replicate 32 (.i .u8)) := by kernel_rfl
theorem idEql {a b : List B} (ha : a.length = 32) (hb : b.length = 32) : binC Tryz.prog .eql 32 (.ag (eId a)) (.ag (eId b)) = some (.bool (decide (a = b))) := by
 unfold eId
 rw [bin_plain_eql kindsID (by kernel_rfl) (by kernel_rfl) (by have := okKE8 a; rwa [ha] at this) (by have := okKE8 b; rwa [hb] at this), beqE8 a b (by omega)]
theorem idNeq {a b : List B} (ha : a.length = 32) (hb : b.length = 32) : binC Tryz.prog .neq 32 (.ag (eId a)) (.ag (eId b)) = some (.bool (!decide (a = b))) := by
 unfold eId
 rw [bin_plain_neq kindsID (by kernel_rfl) (by kernel_rfl) (by have := okKE8 a; rwa [ha] at this) (by have := okKE8 b; rwa [hb] at this), beqE8 a b (by omega)]
theorem nilIds (s : Ids) : binC Tryz.prog .eql 25 (encS 32 eId s) .nilS = some (.bool s.isNone) := bin_nil_eql (e := 32) (by kernel_rfl) 32 eId s
theorem obE (l : Hl) : Ob 32 eId l (l ++ [.cells 0 []]) (.sl 32 l.length 0 0 0 0) ([] : List (List B)) false :=
 ⟨l.length, .sl l.length 0 0 0 [] [] (by simp) rfl rfl (by simp) (Nat.le_refl _) (by omega) rfl, by simp, fun b hb => List.getElem?_append_left hb, .inr (Nat.le_refl _), rfl⟩
theorem idsClone_ob (s : Ids) (ho : okIds s) (hs : s.l.length ≤ 1000000) {l : Hl} {K : CV → Hl → Prop} (hK : ∀ v l', Ob 32 eId l l' v s.l s.isNone → K v l') :
  CallP Tryz.prog GS 52 [encIds s] l (c := ⟨K⟩) := by
 apply call_intro c52_eq r52_eq
 unfold c52 r52
 have hr : roomMax = 140737488355328 := rfl
 cases s with
 | none =>
  simp [encIds]
  exact hK _ _ Ob.nil
 | some a =>
  simp at hs
  obtain ⟨v', l', a1, a2, _⟩ := (obE l).app (by_ := 32) (x := encS 32 eId (some a)) (xs := a) (contents_encS _ 32 eId (some a)) (fun y hy => eId_len (ho y hy)) (by omega) (by omega) (by rw [hr]; simp; omega)
  simp [encIds, nilIds, a1]
  refine AppK.keep ?_
  simp
  exact hK _ _ (by simpa using a2)
def ddN (l : List (List B)) (m : Nat) : List (List B) := (List.range m).flatMap fun k => if k = 0 ∨ idAt l k ≠ idAt l (k - 1) then [idAt l k] else []
def dd (l : List (List B)) : List (List B) := ddN l l.length
theorem ddN_succ (l : List (List B)) (m : Nat) : ddN l (m + 1) = ddN l m ++ (if m = 0 ∨ idAt l m ≠ idAt l (m - 1) then [idAt l m] else []) := by
 unfold ddN; rw [List.range_succ, List.flatMap_append]; simp
theorem ddN_len (l : List (List B)) : ∀ m, (ddN l m).length ≤ m
 | 0 => by simp [ddN]
 | m + 1 => by
  have := ddN_len l m
  rw [ddN_succ, List.length_append]
  split <;> simp <;> omega
theorem ddN_all {l : List (List B)} : ∀ {m}, m ≤ l.length → (∀ k, 1 ≤ k → k < m → idAt l k ≠ idAt l (k - 1)) → ddN l m = l.take m
 | 0, _, _ => by simp [ddN]
 | m + 1, hm, h => by
  rw [ddN_succ, ddN_all (by omega) (fun k h1 h2 => h k h1 (by omega)), List.take_add_one, if_pos (by
   by_cases h0 : m = 0
   ·exact .inl h0
   ·exact .inr (h m (by omega) (by omega)))]
  congr 1
  unfold idAt
  rw [List.getD_eq_getElem?_getD, List.getElem?_eq_getElem (by omega)]
  rfl
theorem ddN_less {l : List (List B)} {k : Nat} (h1 : 1 ≤ k) (he : idAt l k = idAt l (k - 1)) : ∀ {m}, k < m → (ddN l m).length < m
 | 0, h => by omega
 | m + 1, h => by
  rw [ddN_succ, List.length_append]
  by_cases hk : k = m
  ·subst hk
   have := ddN_len l k
   rw [if_neg (fun h => h.elim (fun h0 => by omega) (fun h2 => h2 he))]
   simp; omega
  ·have := ddN_less h1 he (m := m) (by omega)
   split <;> simp <;> omega
theorem dd_ris {l : List (List B)} (hs : srt l = true) : ((dd l).length = l.length) ↔ ris l = true := by
 unfold srt at hs
 rw [decide_eq_true_eq] at hs
 unfold ris dd
 rw [decide_eq_true_eq]
 constructor
 ·intro h k hk h1
  have h2 := hs k hk h1
  have h3 : idAt l k ≠ idAt l (k - 1) := fun he => by
   have := ddN_less h1 he hk
   omega
  have h4 := cmpB_swap (idAt l k) (idAt l (k - 1))
  have h5 : cmpB (idAt l (k - 1)) (idAt l k) ≠ 0 := fun h0 => h3 (cmpB_eq h0).symm
  omega
 ·intro h
  rw [ddN_all (Nat.le_refl _) (fun k h1 h2 he => by
   have := h k h2 h1
   rw [← he, cmpB_self] at this
   omega), List.take_length]
theorem ids_get {a : List (List B)} {k : Nat} (h : k < a.length) : (a.map eId)[k]? = some (eId (idAt a k)) := by
 rw [List.getElem?_map]
 unfold idAt
 rw [List.getD_eq_getElem?_getD, List.getElem?_eq_getElem h]
 rfl
theorem idAt_mem {a : List (List B)} {k : Nat} (h : k < a.length) : idAt a k ∈ a := by
 unfold idAt
 rw [List.getD_eq_getElem?_getD, List.getElem?_eq_getElem h]
 exact List.getElem_mem h
structure CmpI (l : Hl) (v : CV) (xs : List (List B)) (k : Nat) (σ : Sg) (l1 : Hl) : Prop where
 g0 : σ 0 = v
 g3 : σ 3 = .int .i64 ((k + 1 : Nat) : Int)
 hl : l1 = l
 hs : ∀ j, 1 ≤ j → j < k + 1 → idAt xs j ≠ idAt xs (j - 1)
structure Cmp2 (l : Hl) (v v2 : CV) (j : Nat) (xs : List (List B)) (m i : Nat) (σ : Sg) (l2 : Hl) : Prop where
 g0 : σ 0 = v
 g4 : σ 4 = v2
 g5 : σ 5 = .int .i64 ((i + 1 : Nat) : Int)
 ex : ∃ (k : Nat) (ys : List (List B)), σ 3 = .int .i64 (k : Int) ∧ OwnS 32 l2 v j (ys.map eId) ∧ ys.length = xs.length ∧ (∀ y ∈ ys, y.length = 32) ∧ ys.take k = ddN xs (m + i + 1) ∧ k ≤ m + i ∧ (∀ t, m + i ≤ t → idAt ys t = idAt xs t) ∧ l2.length = l.length ∧ ∀ b, b ≠ j → l2[b]? = l[b]?
theorem cut_own {l : Hl} {v : CV} {j k : Nat} {ys : List (List B)} (h : OwnS 32 l v j (ys.map eId)) (hk : k < ys.length) :
  ∃ v3 l3 r, sliceM (.sl 32) v (some (.int .i64 (k : Int))) none none = some v3 ∧ clearL (rep 32 (.int .u8 0)) l v3 = some l3 ∧ sliceM (.sl 32) v none (some (.int .i64 (k : Int))) none = some r ∧
   OwnS 32 l3 r j ((ys.take k).map eId) ∧ isNilS r = false ∧ l3.length = l.length ∧ ∀ b, b ≠ j → l3[b]? = l[b]? := by
 generalize he : ys.map eId = es at h
 cases h with
 | nil j => rw [List.map_eq_nil_iff] at he; subst he; simp at hk
 | sl j n cap sz cs es hb hl hn hz hc hcap hcs =>
  subst he
  have hn' : ys.length = n := by simpa using hn
  have hb1 : boundC (.int .i64 (k : Int)) n = some k := by
   show (if 0 ≤ (k : Int) ∧ (k : Int) ≤ (n : Int) then some (k : Int).toNat else none) = some k
   rw [if_pos ⟨by omega, by omega⟩]; simp
  have hb2 : boundC (.int .i64 (k : Int)) cap = some k := by
   show (if 0 ≤ (k : Int) ∧ (k : Int) ≤ (cap : Int) then some (k : Int).toNat else none) = some k
   rw [if_pos ⟨by omega, by omega⟩]; simp
  have b1 : boundsC n cap (some (.int .i64 (k : Int))) none none = some (k, n, cap) := by
   show (match boundC (.int .i64 (k : Int)) n with | none => none | some l => some (l, n, cap)) = _
   rw [hb1]
  have b2 : boundsC n cap none (some (.int .i64 (k : Int))) none = some (0, k, cap) := by
   show (match boundC (.int .i64 (k : Int)) cap with | none => none | some h => some (0, h, cap)) = _
   rw [hb2]
  have hck : ¬ cap = k := by omega
  have hc0 : ¬ cap = 0 := by omega
  have hjl : j < l.length := get_lt hb
  have hm1 : k * 32 ≤ n * 32 := Nat.mul_le_mul_right _ (by omega)
  have hm2 : n * 32 ≤ cap * 32 := Nat.mul_le_mul_right _ hc
  have hrl : (repeatC (rep 32 (.int .u8 0)) (n - k)).length = (n - k) * 32 := by rw [repeatC_len']; rfl
  have hm3 : k * 32 + (n - k) * 32 = n * 32 := by rw [← Nat.add_mul]; congr 1; omega
  refine ⟨.sl 32 j (k * 32) (n - k) (cap - k) sz, l.set j (.cells sz (splice cs (k * 32) (repeatC (rep 32 (.int .u8 0)) (n - k)))), .sl 32 j 0 k cap sz, ?_, ?_, ?_, ?_, rfl, by simp, fun b hbj => by rw [List.getElem?_set_ne (fun h => hbj h.symm)]⟩
  ·rw [sliceM_sl, b1]; simp [hck]
  ·unfold clearL
   simp only
   rw [if_neg (by omega)]
   simp [hb]
  ·rw [sliceM_sl, b2]; simp [hc0]
  ·refine .sl j k cap sz _ _ (List.getElem?_set_self hjl) (by rw [splice_length (by omega), hrl]; omega) (by simp; omega) (fun e he => ?_) (by omega) hcap ?_
   ·obtain ⟨y, hy, rfl⟩ := List.mem_map.1 he
    exact hz _ (List.mem_map_of_mem (List.mem_of_mem_take hy))
   ·unfold splice
    rw [List.append_assoc, List.take_append_of_le_length (by rw [List.length_take]; omega), List.take_take, Nat.min_self]
    have e1 : cs.take (k * 32) = (cs.take (n * 32)).take (k * 32) := by rw [List.take_take, Nat.min_eq_left hm1]
    have e2 : ys.map eId = (ys.take k).map eId ++ (ys.drop k).map eId := by rw [← List.map_append, List.take_append_drop]
    have e3 : ((ys.take k).map eId).flatten.length = k * 32 := by
     rw [flatten_len (z := 32) (fun e he => by obtain ⟨y, hy, rfl⟩ := List.mem_map.1 he; exact hz _ (List.mem_map_of_mem (List.mem_of_mem_take hy)))]
     simp; omega
    rw [e1, hcs, e2, List.flatten_append, List.take_append_of_le_length (by omega), List.take_of_length_le (by omega)]
theorem part_flat {ys : List (List B)} (hz : ∀ y ∈ ys, y.length = 32) (k : Nat) (hk : k ≤ ys.length) {n : Nat} (hn : ys.length = n) {cs : List CV} (hcs : cs.take (n * 32) = (ys.map eId).flatten) (hl : n * 32 ≤ cs.length) :
  cs.take (k * 32) = ((ys.take k).map eId).flatten ∧ (cs.drop (k * 32)).take (n * 32 - k * 32) = ((ys.drop k).map eId).flatten := by
 have hm1 : k * 32 ≤ n * 32 := Nat.mul_le_mul_right _ (by omega)
 have e2 : ys.map eId = (ys.take k).map eId ++ (ys.drop k).map eId := by rw [← List.map_append, List.take_append_drop]
 have e3 : ((ys.take k).map eId).flatten.length = k * 32 := by
  rw [flatten_len (z := 32) (fun e he => by obtain ⟨y, hy, rfl⟩ := List.mem_map.1 he; exact eId_len (hz _ (List.mem_of_mem_take hy)))]
  simp; omega
 have e1 : cs.take (k * 32) = (cs.take (n * 32)).take (k * 32) := by rw [List.take_take, Nat.min_eq_left hm1]
 constructor
 ·rw [e1, hcs, e2, List.flatten_append, List.take_append_of_le_length (by omega), List.take_of_length_le (by omega)]
 ·rw [← List.drop_take, hcs, e2, List.flatten_append, List.drop_append_of_le_length (by omega), List.drop_of_length_le (by omega), List.nil_append]
theorem set_own {l : Hl} {v : CV} {j k : Nat} {ys : List (List B)} {x : List B} (h : OwnS 32 l v j (ys.map eId)) (hz : ∀ y ∈ ys, y.length = 32) (hk : k < ys.length) (hx : x.length = 32) :
  ∃ p l', iaC (.sl 32) v (.int .i64 (k : Int)) = some p ∧ storeL 32 l p (.ag (eId x)) = some l' ∧ OwnS 32 l' v j ((ys.set k x).map eId) ∧ l'.length = l.length ∧ ∀ b, b ≠ j → l'[b]? = l[b]? := by
 generalize he : ys.map eId = es at h
 cases h with
 | nil j => rw [List.map_eq_nil_iff] at he; subst he; simp at hk
 | sl j n cap sz cs es hb hl hn hz2 hc hcap hcs =>
  subst he
  have hn' : ys.length = n := by simpa using hn
  have hjl : j < l.length := get_lt hb
  have hxl := eId_len hx
  have hm1 : (k + 1) * 32 ≤ n * 32 := Nat.mul_le_mul_right _ (by omega)
  have hm2 : n * 32 ≤ cap * 32 := Nat.mul_le_mul_right _ hc
  have hs : (k + 1) * 32 = k * 32 + 32 := by rw [Nat.succ_mul]
  obtain ⟨f1, _⟩ := part_flat hz k (by omega) hn' hcs (by omega)
  obtain ⟨_, f2⟩ := part_flat hz (k + 1) (by omega) hn' hcs (by omega)
  refine ⟨.ptr j (k * 32) sz, l.set j (.cells sz (splice cs (k * 32) (eId x))), ?_, ?_, ?_, by simp, fun b hbj => by rw [List.getElem?_set_ne (fun h => hbj h.symm)]⟩
  ·simp [iaC]; omega
  ·unfold storeL
   simp [hb, CV.cells, hxl]
   omega
  ·refine .sl j n cap sz _ _ (List.getElem?_set_self hjl) (by rw [splice_length (by omega), hxl]; omega) (by simp; omega) (fun e he => ?_) hc hcap ?_
   ·obtain ⟨y, hy, rfl⟩ := List.mem_map.1 he
    rcases List.mem_or_eq_of_mem_set hy with h | h
    ·exact eId_len (hz _ h)
    ·rw [h]; exact hxl
   ·have hset : ys.set k x = ys.take k ++ (x :: ys.drop (k + 1)) := by rw [List.set_eq_take_append_cons_drop, if_pos hk]
    rw [hset, List.map_append, List.map_cons, List.flatten_append, List.flatten_cons, ← f1, ← f2]
    unfold splice
    have t1 : (cs.take (k * 32)).length = k * 32 := by rw [List.length_take]; omega
    have u1 : (cs.take (k * 32)).take (n * 32) = cs.take (k * 32) := List.take_of_length_le (by rw [t1]; omega)
    have u2 : (eId x).take (n * 32 - k * 32) = eId x := List.take_of_length_le (by rw [hxl]; omega)
    rw [List.append_assoc, hxl, ← hs, List.take_append, t1, u1, List.take_append, u2, hxl, show n * 32 - k * 32 - 32 = n * 32 - (k + 1) * 32 by omega]
theorem compact_ob {l0 l : Hl} {v : CV} {xs : List (List B)} {nl : Bool} (h : Ob 32 eId l0 l v xs nl) (hx : ∀ x ∈ xs, x.length = 32) (hn : xs.length ≤ 1000000) {K : CV → Hl → Prop} (hK : ∀ r l', Ob 32 eId l0 l' r (dd xs) nl → K r l') :
  CallP Tryz.prog GS 41 [v] l (c := ⟨K⟩) := by
 apply call_intro c41_eq r41_eq
 unfold c41 r41
 have hlen := h.len
 by_cases h2 : xs.length < 2
 ·have h2' : (xs.length : Int) < 2 := by omega
  have hdd : dd xs = xs := by
   unfold dd
   rw [ddN_all (Nat.le_refl _) (fun k h1 h3 => by omega), List.take_length]
  simp [hlen, h2']
  exact hK _ _ (by rw [hdd]; exact h)
 ·have h2' : ¬ (xs.length : Int) < 2 := by omega
  simp [hlen, h2']
  refine loop_up (xs.length - 1) (CmpI l v xs) ?_ ⟨by simp, by simp, rfl, fun j h1 h3 => by omega⟩
  rintro k σ l1 hk ⟨g0, g3, rfl, hs⟩
  obtain ⟨σ, rfl⟩ := upds2 g0 g3
  clear g0 g3
  obtain ⟨m, hm⟩ : ∃ m, m = k + 1 := ⟨_, rfl⟩
  rw [← hm] at hs ⊢
  unfold l41_1
  by_cases hlt : m < xs.length
  ·have e1 : IntKind.i64.wrap ((m : Int) - 1) = (k : Int) := by rw [IntKind.wrap_i64]; omega
   have e2 : IntKind.i64.wrap ((m : Int) + 1) = ((m + 1 : Nat) : Int) := by rw [IntKind.wrap_i64]; omega
   have hlt' : (m : Int) < (xs.length : Int) := by omega
   obtain ⟨j, ho, ho2⟩ := h
   obtain ⟨p1, c1, o1, a1, a2, a3, a4⟩ := ho.q.get (k := .i64) (ids_get hlt)
   obtain ⟨p2, c2, o2, b1, b2, b3, b4⟩ := ho.q.get (k := .i64) (ids_get (a := xs) (k := k) (by omega))
   have hid := idEql (hx _ (idAt_mem hlt)) (hx _ (idAt_mem (a := xs) (k := k) (by omega)))
   obtain ⟨X, hX⟩ : ∃ X, X = idAt xs m := ⟨_, rfl⟩
   obtain ⟨Y, hY⟩ : ∃ Y, Y = idAt xs k := ⟨_, rfl⟩
   rw [← hX] at a4 hid
   rw [← hY] at b4 hid
   by_cases he : X = Y
   ·have hid' : binC Tryz.prog .eql 32 (.ag (eId X)) (.ag (eId Y)) = some (.bool true) := by rw [hid, decide_eq_true he]
    have hv : isNilS v = false := by
     cases hnv : isNilS v with
     | false => rfl
     | true =>
      have := isNil_iff.1 hnv
      subst this
      have := ho.q.nil_of
      rw [List.map_eq_nil_iff] at this
      rw [this] at hlt; simp at hlt
    obtain ⟨v2, s1, s2, _⟩ := ho.q.from hv (k := .i64) (i := m) (by simp; omega)
    have h0 : ddN xs m = xs.take m := ddN_all (by omega) hs
    have h1 : ddN xs (m + 1) = xs.take m := by rw [ddN_succ, if_neg (fun h => h.elim (fun h0 => by omega) (fun h2 => h2 (by rw [← hX, show m - 1 = k by omega, ← hY]; exact he))), h0, List.append_nil]
    simp [hlen, hlt', e1, a1, a2, a3, a4, b1, b2, b3, b4, hid', s1]
    refine loop_up (xs.length - m - 1) (Cmp2 l1 v v2 j xs m) ?_ ⟨by simp, by simp, by simp, m, xs, by simp, ho, rfl, hx, h1.symm, by omega, fun t _ => rfl, rfl, fun b _ => rfl⟩
    rintro i σ l2 hi ⟨g0, g4, g5, q, ys, g3, hq, hyl, hyz, htk, hqk, hsame, hll, hfr⟩
    obtain ⟨σ, rfl⟩ := upds4 g0 g3 g4 g5
    clear g0 g3 g4 g5
    obtain ⟨i1, hi1⟩ : ∃ i1, i1 = i + 1 := ⟨_, rfl⟩
    rw [← hi1]
    unfold l41_0
    obtain ⟨v2', s1', s2', _⟩ := hq.q.from hv (k := .i64) (i := m) (by simp; omega)
    rw [s1] at s1'
    obtain rfl := Option.some.inj s1'
    have hl2 := s2'.len
    rw [List.length_drop, List.length_map, hyl] at hl2
    by_cases hlt2 : i1 < xs.length - m
    ·have hlt2' : (i1 : Int) < ((xs.length - m : Nat) : Int) := by omega
     have w1 : IntKind.i64.wrap ((i1 : Int) - 1) = (i : Int) := by rw [IntKind.wrap_i64]; omega
     have w2 : IntKind.i64.wrap ((i1 : Int) + 1) = ((i1 + 1 : Nat) : Int) := by rw [IntKind.wrap_i64]; omega
     have w3 : IntKind.i64.wrap ((q : Int) + 1) = ((q + 1 : Nat) : Int) := by rw [IntKind.wrap_i64]; omega
     obtain ⟨p3, c3, o3, x1, x2, x3, x4⟩ := s2'.get (k := .i64) (i := i1) (e := eId (idAt ys (m + i1))) (by rw [List.getElem?_drop]; exact ids_get (by omega))
     obtain ⟨p4, c4, o4, y1, y2, y3, y4⟩ := s2'.get (k := .i64) (i := i) (e := eId (idAt ys (m + i))) (by rw [List.getElem?_drop]; exact ids_get (by omega))
     have hz1 := hyz _ (idAt_mem (a := ys) (k := m + i1) (by omega))
     have hz2 := hyz _ (idAt_mem (a := ys) (k := m + i) (by omega))
     have hne := idNeq hz1 hz2
     have hs1 := hsame (m + i1) (by omega)
     have hs2 := hsame (m + i) (by omega)
     have hd := ddN_succ xs (m + i1)
     rw [show m + i1 - 1 = m + i by omega] at hd
     obtain ⟨X2, hX2⟩ : ∃ X, X = idAt ys (m + i1) := ⟨_, rfl⟩
     obtain ⟨Y2, hY2⟩ : ∃ Y, Y = idAt ys (m + i) := ⟨_, rfl⟩
     rw [← hX2] at x4 hne hz1 hs1
     rw [← hY2] at y4 hne hs2
     rw [← hs1, ← hs2] at hd
     rw [show m + i + 1 = m + i1 by omega] at htk
     by_cases he2 : X2 = Y2
     ·have hne' : binC Tryz.prog .neq 32 (.ag (eId X2)) (.ag (eId Y2)) = some (.bool false) := by rw [hne]; simp [he2]
      rw [if_neg (fun h => h.elim (fun h0 => by omega) (fun h2 => h2 he2)), List.append_nil] at hd
      simp [hl2, hlt2', w1, x1, x2, x3, x4, y1, y2, y3, y4, hne', w2]
      exact ⟨by omega, by simp, by simp, by simp, q, ys, by simp, hq, hyl, hyz, by rw [hd]; exact htk, by omega, fun t ht => hsame t (by omega), hll, hfr⟩
     ·have hne' : binC Tryz.prog .neq 32 (.ag (eId X2)) (.ag (eId Y2)) = some (.bool true) := by rw [hne]; simp [he2]
      rw [if_pos (.inr he2)] at hd
      obtain ⟨p5, l3, z1, z2, z3, z4, z5⟩ := set_own hq hyz (k := q) (x := X2) (by omega) hz1
      simp [hl2, hlt2', w1, x1, x2, x3, x4, y1, y2, y3, y4, hne', w2, w3, z1, z2]
      have tl : (ys.take q).length = q := by rw [List.length_take]; omega
      have hts : (ys.set q X2).take (q + 1) = ys.take q ++ [X2] := by
       rw [List.set_eq_take_append_cons_drop, if_pos (by omega), List.take_append, tl, List.take_of_length_le (by omega), show q + 1 - q = 1 by omega]; simp
      refine ⟨by omega, by simp, by simp, by simp, q + 1, ys.set q X2, by simp, z3, by simp [hyl], fun y hy => ?_, by rw [hts, hd, htk], by omega, fun t ht => ?_, by omega, fun b hb => (z5 b hb).trans (hfr b hb)⟩
      ·rcases List.mem_or_eq_of_mem_set hy with h | h
       ·exact hyz _ h
       ·rw [h]; exact hz1
      ·have := hsame t (by omega)
       unfold idAt at this ⊢
       rw [List.getD_eq_getElem?_getD, List.getElem?_set_ne (by omega), ← List.getD_eq_getElem?_getD]
       exact this
    ·have hlt2' : ¬ (i1 : Int) < ((xs.length - m : Nat) : Int) := by omega
     obtain ⟨v3, l3, r, z1, z2, z3, z4, z5, z6, z7⟩ := cut_own hq (k := q) (by omega)
     simp [hl2, hlt2', z1, z2, z3]
     obtain ⟨g1, g2, g3, g4⟩ := ho2
     have hj0 : l0.length ≤ j := g3.resolve_left (fun h => by rw [h] at hv; cases hv)
     have hend : m + i + 1 = xs.length := by omega
     rw [hend] at htk
     refine hK _ _ ⟨j, by unfold dd; rw [← htk]; exact z4, by omega, fun b hb => ?_, .inr hj0, by rw [z5, ← g4, hv]⟩
     rw [z7 b (by omega), hfr b (by omega)]
     exact g2 b hb
   ·have hid' : binC Tryz.prog .eql 32 (.ag (eId X)) (.ag (eId Y)) = some (.bool false) := by rw [hid, decide_eq_false he]
    simp [hlen, hlt', e1, a1, a2, a3, a4, b1, b2, b3, b4, hid', e2]
    refine ⟨by omega, by simp, by simp [hm], rfl, fun t h1 h2 => ?_⟩
    by_cases ht : t = m
    ·rw [ht, ← hX, show m - 1 = k by omega, ← hY]; exact he
    ·exact hs t h1 (by omega)
  ·have hlt' : ¬ (m : Int) < (xs.length : Int) := by omega
   have hdd : dd xs = xs := by
    unfold dd
    rw [ddN_all (Nat.le_refl _) (fun k h1 h3 => hs k h1 (by omega)), List.take_length]
   simp [hlen, hlt']
   exact hK _ _ (by rw [hdd]; exact h)
theorem ris_srt {l : List (List B)} (h : ris l = true) : srt l = true := by
 unfold ris at h
 rw [decide_eq_true_eq] at h
 exact srt_true fun k hk h1 => by
  have := h k hk h1
  have h4 := cmpB_swap (idAt l k) (idAt l (k - 1))
  omega
theorem wOpCheck_ok (o : Opr) (ho : OkOp o) : PureC Tryz.prog GS 87 [.ag (encOp o)] (.int .i64 (opErr o)) := by
 refine pure_of Tryz.checked.mixed GS_closed ?_
 apply call_intro c87_eq r87_eq
 unfold c87 r87 opErr
 have hcl := closed_ids o.preds
 have hlen : lenM (.sl 32) (encIds o.preds) = some (.int .i64 o.preds.l.length) := by simp [encIds]
 have hcells : (encIds o.preds).cells = some [encIds o.preds] := by cases o.preds <;> rfl
 by_cases h1 : 4 < o.preds.l.length
 ·have h1' : (4 : Int) < (o.preds.l.length : Int) := by omega
  rw [if_pos h1]
  simp [encOp, hlen, h1']
  exact rd_eq rfl rfl
 ·have h1' : ¬ (4 : Int) < (o.preds.l.length : Int) := by omega
  rw [if_neg h1]
  simp [encOp, hlen, h1']
  refine pure_call (isSorted_ok o.preds ho.ids ho.len) (by simp [closedL, hcl, CV.closed]) ?_
  cases h2 : srt o.preds.l with
  | false =>
   have h3 : ris o.preds.l = false := by
    cases h3 : ris o.preds.l with
    | false => rfl
    | true => rw [ris_srt h3] at h2; cases h2
   simp [h3, hlen]
   exact rd_eq rfl rfl
  | true =>
   simp [hlen]
   refine idsClone_ob o.preds ho.ids ho.len fun v1 l1 g1 => ?_
   have hat1 : l1[0]? = some (.cells 11 (encOp o)) := by rw [g1.same 0 (by simp)]; rfl
   have hat1' := hat1
   simp [encOp] at hat1'
   simp [hat1']
   refine compact_ob g1 ho.ids ho.len fun v2 l2 g2 => ?_
   have hat : l2[0]? = some (.cells 11 (encOp o)) := by rw [g2.same 0 (by simp)]; rfl
   have hat' := hat
   simp [encOp] at hat'
   have hl2 := g2.len
   have hdd := dd_ris h2
   cases h3 : ris o.preds.l with
   | false =>
    have hne : ¬ ((dd o.preds.l).length : Int) = (o.preds.l.length : Int) := fun h => by
     have := hdd.1 (by omega)
     rw [h3] at this; cases this
    simp [hl2, hat', hlen, hne]
    exact rd_eq rfl rfl
   | true =>
    have heq : ((dd o.preds.l).length : Int) = (o.preds.l.length : Int) := by have := hdd.2 h3; omega
    simp [hl2, hat', hlen, heq]
    refine pure_call (isG_ok o.author) rfl ?_
    unfold goodB
    cases h5 : isG o.author with
    | false =>
     simp
     exact rd_eq rfl rfl
    | true =>
     have hst : ((1000000000000 : Int) < u o.stamp) ↔ ¬ o.stamp.toNat ≤ 1000000000000 := by unfold u; omega
     by_cases h6 : o.stamp.toNat ≤ 1000000000000
     ·have h6' : ¬ ((1000000000000 : Int) < u o.stamp) := fun h => hst.1 h h6
      have hmx : ((500000003 : Int) ≤ max (u o.e : Int) (u o.s)) ↔ ¬ (expB o.e && expB o.s) = true := by
       unfold expB u
       simp only [Bool.and_eq_true, decide_eq_true_eq]
       omega
      have hmaxc : max2C (e32 o.e) (e32 o.s) = some (.int .u32 (max (u o.e : Int) (u o.s))) := by
       show (if IntKind.u32 = IntKind.u32 then some (CV.int .u32 (if (u o.e : Int) < u o.s then u o.s else u o.e)) else none) = _
       rw [if_pos rfl]
       congr 2
       split <;> omega
      cases h7 : (expB o.e && expB o.s) with
      | false =>
       have h7' : (500000003 : Int) ≤ max (u o.e : Int) (u o.s) := hmx.2 (by rw [h7]; simp)
       simp [hat', h6, h6', hmaxc, h7']
       exact rd_eq rfl rfl
      | true =>
       have h7' : ¬ (500000003 : Int) ≤ max (u o.e : Int) (u o.s) := fun h => (hmx.1 h) h7
       simp [hat', h6, h6', hmaxc, h7']
       refine pure_call (checkAct_ok o.act) rfl ?_
       cases h8 : actB o.act with
       | false =>
        simp [errB]
        exact rd_eq rfl rfl
       | true =>
        simp [errB]
        exact rd_eq (by rw [if_pos h6]) rfl
     ·have h6' : (1000000000000 : Int) < u o.stamp := hst.2 h6
      simp [hat', h6, h6']
      exact rd_eq rfl rfl
theorem sameIDs_ok (a b : Ids) (ha : okIds a) (hb : okIds b) (hl : a.l.length ≤ 1000000) : PureC Tryz.prog GS 30 [encIds a, encIds b] (.bool (decide (a.l = b.l))) := by
 refine pure_of Tryz.checked.mixed GS_closed ?_
 apply call_intro c30_eq r30_eq
 unfold c30 r30
 simp [encIds]
 by_cases h1 : a.l.length = b.l.length
 ·have h1' : ((a.l.length : Int) = b.l.length) := by omega
  simp [h1]
  refine loop_up a.l.length (fun k σ l => σ 0 = encS 32 eId a ∧ σ 1 = encS 32 eId b ∧ σ 5 = .int .i64 k ∧ ∀ j, j < k → a.l[j]? = b.l[j]?) ?_ (by simp [encIds])
  rintro k σ l hk ⟨g0, g1, g5, hs⟩
  obtain ⟨s, rfl⟩ := upds3 g0 g1 g5
  clear g0 g1 g5
  unfold l30_0
  simp
  refine kIf_intro (fun h => ?_) (fun h => ?_)
  ·simp only [decide_eq_true_eq] at h
   obtain ⟨x, hx, hxm⟩ := get_of h
   obtain ⟨y, hy, hym⟩ := get_of (l := b.l) (k := k) (by omega)
   have e1 : IntKind.i64.wrap ((k : Int) + 1) = ((k + 1 : Nat) : Int) := by rw [IntKind.wrap_i64]; omega
   simp [hx, hy, eId_len (ha x hxm), eId_len (hb y hym), List.take_of_length_le, idNeq (ha x hxm) (hb y hym)]
   by_cases he : x = y
   ·simp [he, e1]
    refine ⟨by omega, fun j hj => ?_⟩
    by_cases hjk : j = k
    ·subst hjk; rw [hx, hy, he]
    ·exact hs j (by omega)
   ·simp [he]
    refine rd_eq (congrArg CV.bool (decide_eq_false fun hab => he ?_).symm) rfl
    rw [hab, hy] at hx; exact (Option.some.inj hx).symm
  ·simp [h]
   have hk2 : k = a.l.length := by simp at h; omega
   refine rd_eq (congrArg CV.bool (decide_eq_true ?_).symm) rfl
   apply List.ext_getElem?
   intro j
   by_cases hj : j < a.l.length
   ·exact hs j (by omega)
   ·rw [List.getElem?_eq_none (by omega), List.getElem?_eq_none (by omega)]
 ·have h1' : ¬ ((a.l.length : Int) = b.l.length) := by omega
  simp [h1, h1']
  exact rd_eq (by rw [decide_eq_false (fun hab => h1 (by rw [hab]))]) rfl
def idOf (o : Opr) : List B := if opErr o = 0 then sha (opBytes o) else List.replicate 32 0#8
theorem opErr_len {o : Opr} (h : opErr o = 0) : o.preds.l.length ≤ 4 := by
 unfold opErr at h
 split at h
 ·cases h
 ·omega
theorem rID6_ok (o : Opr) (ho : OkOp o) : PureC Tryz.prog GS 33 [.ag (encOp o)] (.tu [idC (idOf o), .int .i64 (opErr o)]) := by
 refine pure_of Tryz.checked.mixed GS_closed ?_
 apply call_intro c33_eq r33_eq
 unfold c33 r33 idOf
 have hcl := closed_op o
 have hz : (rep 32 (.int .u8 0) : List CV) = (List.replicate 32 0#8).map e8 := by simp [rep]
 obtain ⟨E, hE⟩ : ∃ E, E = encOp o := ⟨_, rfl⟩
 have hEl : E.length = 11 := by rw [hE]; rfl
 have hck := rOpCheck_ok o ho
 rw [← hE] at hck hcl ⊢
 simp [hEl, List.take_of_length_le]
 refine pure_call hck (by simp [closedL, CV.closed, hcl]) ?_
 by_cases h0 : opErr o = 0
 ·have hof := rOf6_ok o ho (by have := opErr_len h0; omega)
  rw [← hE] at hof
  have hsl : (sha (opBytes o)).length = 32 := sha_length _
  simp [h0, hEl, List.take_of_length_le]
  refine pure_call hof (by simp [closedL, CV.closed, hcl]) ?_
  have hspl : splice (rep 32 (.int .u8 0)) 0 ((sha (opBytes o)).map e8) = (sha (opBytes o)).map e8 := splice_full (by rw [List.length_map, hsl]; rfl)
  simp [idC, hsl, hspl, List.take_of_length_le]
  exact rd_eq (by rw [if_pos h0, h0]) (by simp [CV.closed, closedL, closedL_map e8 (fun _ => rfl)])
 ·simp [h0, hEl, List.take_of_length_le]
  refine pure_call hck (by simp [closedL, CV.closed, hcl]) ?_
  simp [idC, hz]
  exact rd_eq (by rw [if_neg h0]; rfl) (by simp only [CV.closed, closedL, closedL_map e8 (fun _ => rfl), Bool.and_self])
theorem row_get {l : Hl} {b n : Nat} {ws : List CV} {k : Nat} {w : CV} {kd : IntKind} (hb : l[b]? = some (.cells n ws)) (hn : ws.length = n) (hk : ws[k]? = some w) :
  ∃ p cs o, iaC (.sl 1) (.sl 1 b 0 n n n) (.int kd (k : Int)) = some p ∧ reachL l p = some (cs, o) ∧ cs[o]? = some w := by
 have hlt : k < n := by rw [← hn]; exact (List.getElem?_eq_some_iff.1 hk).1
 refine ⟨.ptr b (0 + k * 1) n, ws, 0 + k * 1, ?_, ?_, by simpa using hk⟩
 ·simp only [iaC, Int.toNat_natCast]
  rw [if_pos ⟨trivial, by omega, by omega⟩]
 ·simp only [reachL, hb, if_true]
theorem grow_ob {n : Nat} (hn : n ≤ 1000000000) {l : Hl} {K : CV → Hl → Prop} (hK : ∀ v l', Ob 1 enc8 l l' v ([] : List B) (decide (n = 0)) → K v l') : CallP Tryz.prog GS 121 [.nilS, .int .i64 n] l (c := ⟨K⟩) := by
 apply call_intro c121_eq r121_eq
 unfold c121 r121
 have h1 : ¬((n : Int) < 0) := by omega
 have hw : IntKind.i64.wrap (n : Int) = n := wrap_i64 (by omega) (by omega)
 have hw0 : IntKind.i64.wrap (0 : Int) = 0 := rfl
 by_cases h0 : n = 0
 ·subst h0
  simp
  exact hK _ _ Ob.nil
 have h2 : (0 : Int) < n := by omega
 have hz : appZM l 1 1 [.int .u8 0] .nilS (.int .i64 n) = some (.sl 1 l.length 0 n n (n * 1), l ++ [.cells (n * 1) (repeatC [.int .u8 0] n)]) := by
  unfold appZM appendL
  simp only [Int.toNat_natCast]
  have hr : roomMax = 140737488355328 := rfl
  rw [if_pos ⟨by omega, by omega, by rw [hr]; omega⟩, if_neg h0, if_neg (by omega), if_pos (by rw [hr]; omega)]
 have hs : sliceM (.sl 1) (.sl 1 l.length 0 n n (n * 1)) none (some (.int .i64 0)) none = some (.sl 1 l.length 0 0 n (n * 1)) := by
  rw [sliceM_sl, bounds_hi, if_pos ⟨by omega, by omega⟩]
  simp [h0]
 rw [Nat.mul_one] at hz hs
 have h3 : 0 < n := by omega
 simp [h1, h2, h3, hw, hz, hw0, hs]
 refine hK _ (l ++ [.cells n (repeatC [.int .u8 0] n)]) ⟨l.length, .sl _ 0 n n (repeatC [.int .u8 0] n) [] (by simp) (by rw [repeatC_len']; simp) rfl (by simp) (by omega) (by omega) rfl, by simp, fun b hb => List.getElem?_append_left hb, .inr (Nat.le_refl _), ?_⟩
 simp [isNilS, h0]
def flB (bs : List (List B)) : List B := bs.flatten
theorem flB_take {bs : List (List B)} {k : Nat} {s : List B} (h : bs[k]? = some s) : flB (bs.take (k + 1)) = flB (bs.take k) ++ s := by
 unfold flB
 rw [List.take_add_one, h]; simp
theorem flB_le (bs : List (List B)) (k : Nat) : (flB (bs.take k)).length ≤ (flB bs).length := by
 conv => rhs; rw [← List.take_append_drop k bs]
 unfold flB
 rw [List.flatten_append, List.length_append]
 omega
structure Part (l : Hl) (w : CV) (s : List B) : Prop where
 len : lenM (.sl 1) w = some (.int .i64 s.length)
 con : ∀ l', l.length ≤ l'.length → (∀ b, b < l.length → l'[b]? = l[b]?) → contentsL l' 1 w = some ((s.map enc8).flatten, s.length)
theorem ob_part {l l1 : Hl} {w : CV} {s : List B} {nl : Bool} (h : Ob 1 enc8 l l1 w s nl) : Part l1 w s := ⟨h.len, fun l' h1 h2 => (h.frame h1 h2).contents⟩
theorem Part.frame {l l1 : Hl} {w : CV} {s : List B} (h : Part l w s) (hl : l.length ≤ l1.length) (hs : ∀ b, b < l.length → l1[b]? = l[b]?) : Part l1 w s :=
 ⟨h.len, fun l' h1 h2 => h.con l' (by omega) fun b hb => by rw [h2 b (by omega)]; exact hs b hb⟩
theorem part_one {l : Hl} {b : Nat} {x : B} (h : l[b]? = some (.cells 1 [e8 x])) : Part l (.sl 1 b 0 1 1 1) [x] := by
 have := get_lt h
 exact ⟨rfl, fun l' h1 h2 => by have := h2 b this; rw [h] at this; simp [contentsL, this, enc8]⟩
structure CatI (l : Hl) (X : CV) (bs : List (List B)) (k : Nat) (σ : Sg) (l1 : Hl) : Prop where
 g25 : σ 25 = X
 g26 : σ 26 = .int .i64 bs.length
 g27 : σ 27 = .int .i64 k
 ob : ∃ v, σ 6 = v ∧ Ob 1 enc8 l l1 v (flB (bs.take k)) (decide ((flB bs).length = 0))
set_option maxHeartbeats 4000000 in
theorem concat_ob {l : Hl} {b n : Nat} {ws : List CV} {bs : List (List B)} (hb : l[b]? = some (.cells n ws)) (hwn : ws.length = n) (hbn : bs.length = n)
  (hp : ∀ (k : Nat) (w : CV) (s : List B), ws[k]? = some w → bs[k]? = some s → Part l w s) (hl : (flB bs).length ≤ 1000000000) (hll : n ≤ 1000000000)
  {K : CV → Hl → Prop} (hK : ∀ v l', Ob 1 enc8 l l' v (flB bs) (decide ((flB bs).length = 0)) → K v l') :
  CallP Tryz.prog GS 89 [.sl 1 b 0 n n n] l (c := ⟨K⟩) := by
 apply call_intro c89_eq r89_eq
 unfold c89 r89
 have hlb := get_lt hb
 have hX : ∀ l', l.length ≤ l'.length → (∀ b, b < l.length → l'[b]? = l[b]?) → ∀ k, k < n → ∃ w s p cs o, ws[k]? = some w ∧ bs[k]? = some s ∧ Part l' w s ∧ iaC (.sl 1) (.sl 1 b 0 n n n) (.int .i64 (k : Int)) = some p ∧ reachL l' p = some (cs, o) ∧ cs[o]? = some w := by
  intro l' h1 h2 k hk
  obtain ⟨w, hw, _⟩ := get_of (l := ws) (k := k) (by omega)
  obtain ⟨s, hs, _⟩ := get_of (l := bs) (k := k) (by omega)
  obtain ⟨p, cs, o, a1, a2, a3⟩ := row_get (kd := .i64) (l := l') (by rw [h2 b hlb]; exact hb) hwn hw
  exact ⟨w, s, p, cs, o, hw, hs, (hp k w s hw hs).frame h1 h2, a1, a2, a3⟩
 obtain ⟨X, hXe⟩ : ∃ X, X = CV.sl 1 b 0 n n n := ⟨_, rfl⟩
 have hXl : lenM (.sl 1) X = some (.int .i64 bs.length) := by rw [hXe, hbn]; rfl
 rw [← hXe] at hX ⊢
 simp [hXl]
 refine loop_up n (fun k σ l1 => σ 0 = X ∧ σ 9 = X ∧ σ 10 = .int .i64 bs.length ∧ σ 11 = .int .i64 k ∧ σ 3 = .int .i64 (flB (bs.take k)).length ∧ l1 = l) ?_ ?_
 ·rintro k σ l1 hk ⟨g0, g9, g10, g11, g3, rfl⟩
  obtain ⟨σ, rfl⟩ := upds5 g0 g3 g9 g10 g11
  clear g0 g3 g9 g10 g11
  unfold l89_0
  simp
  by_cases h : k < bs.length
  ·obtain ⟨w, s, p, cs, o, hw, hs, hpt, a1, a2, a3⟩ := hX l1 (Nat.le_refl _) (fun _ _ => rfl) k (by omega)
   have hft := flB_take hs
   have hle := flB_le bs (k + 1)
   rw [hft, List.length_append] at hle
   have hw2 : IntKind.i64.wrap (((flB (bs.take k)).length : Int) + s.length) = ((flB (bs.take k)).length : Int) + s.length := wrap_i64 (by omega) (by omega)
   have hwk : IntKind.i64.wrap ((k : Int) + 1) = k + 1 := wrap_i64 (by omega) (by omega)
   have hneg : ¬(((flB (bs.take k)).length : Int) + s.length < 0) := by omega
   have hpl := hpt.len
   simp [h, a1, a2, a3, hpl, hw2, hneg, hwk, hft]
   omega
  ·have hkl : k = bs.length := by omega
   subst hkl
   rw [List.take_length]
   simp
   refine grow_ob hl ?_
   intro v l ho
   simp [hXl]
   refine loop_up bs.length (CatI l1 X bs) ?_ ⟨by simp, by simp, by simp, v, by simp, by simpa [flB] using ho⟩
   rintro k σ l2 hk ⟨g25, g26, g27, w, g6, ho⟩
   obtain ⟨σ, rfl⟩ := upds4 g6 g25 g26 g27
   clear g6 g25 g26 g27
   unfold l89_1
   simp
   by_cases h : k < bs.length
   ·obtain ⟨y, s, p, cs, o, hw, hs, hpt, a1, a2, a3⟩ := hX l2 ho.le ho.same k (by omega)
    have hft := flB_take hs
    have hle := flB_le bs (k + 1)
    rw [hft, List.length_append] at hle
    have hwk : IntKind.i64.wrap ((k : Int) + 1) = k + 1 := wrap_i64 (by omega) (by omega)
    have hr : roomMax = 140737488355328 := rfl
    obtain ⟨v', l3, b1, b2, b3⟩ := ho.app (by_ := 1) (x := y) (xs := s) (hpt.con l2 (Nat.le_refl _) fun _ _ => rfl) (by simp [enc8]) (by omega) (by omega) (by rw [hr]; omega)
    simp [h, a1, a2, a3, b1]
    refine AppK.keep ?_
    simp [h, hwk]
    refine ⟨by simp, by simp, by simp, v', by simp, ?_⟩
    rw [hft]
    have hnl : (decide ((flB bs).length = 0) && s.isEmpty) = decide ((flB bs).length = 0) := by
     by_cases he : (flB bs).length = 0
     ·have : s = [] := List.length_eq_zero_iff.1 (by omega)
      simp [he, this]
     ·simp [he]
    rw [hnl] at b2
    exact b2
   ·have hkl : k = bs.length := by omega
    subst hkl
    simp
    rw [List.take_length] at ho
    exact hK _ _ ho
 ·simp [flB]
end Op
end Go.CM
