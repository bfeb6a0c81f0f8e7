/-
  SHA-256, as lists of words and bytes; the words of a block.
-/
import Derived.Test.YtdjbnhgdhambnaaGreatDoorDh
import Derived.LaidMore
import Derived.MakeChecks
import Derived.Shelf.Spec.SlicesInsertGrow
import Derived.Lib.DecodeN
set_option linter.unusedVariables false
set_option linter.unusedSimpArgs false
set_option linter.unnecessarySimpa false
namespace Go.CM
open Go
namespace Sha
abbrev W := BitVec 32
abbrev B := BitVec 8
def rotr (x : W) (n : Nat) : W := (x >>> n) ||| (x <<< (32 - n))
def wd (l : List B) : W := l.foldl (fun a x => (a <<< 8) ||| x.setWidth 32) 0#32
def part (b : List B) (k t : Nat) : W := wd (((b.take k).drop (4 * t)).take 4)
def words16 (b : List B) : List W := (List.range 16).map fun t => wd ((b.drop (4 * t)).take 4)
def ext (w : List W) : W :=
 let t := w.length
 let x := w.getD (t - 15) 0#32
 let y := w.getD (t - 2) 0#32
 w.getD (t - 16) 0#32 + w.getD (t - 7) 0#32 + (rotr x 7 ^^^ rotr x 18 ^^^ (x >>> 3)) + (rotr y 17 ^^^ rotr y 19 ^^^ (y >>> 10))
def extN : Nat → List W → List W
 | 0, w => w
 | n + 1, w => extN n (w ++ [ext w])
def sched (b : List B) : List W := extN 48 (words16 b)
def mix (x : W) (i j k : Nat) : W := rotr x i ^^^ rotr x j ^^^ rotr x k
structure St where
 (a b c d e f g h : W)
def round (s : St) (k w : W) : St :=
 let p := s.h + mix s.e 6 11 25 + ((s.e &&& s.f) ^^^ (~~~s.e &&& s.g)) + k + w
 let q := mix s.a 2 13 22 + ((s.a &&& s.b) ^^^ (s.a &&& s.c) ^^^ (s.b &&& s.c))
 ⟨p + q, s.a, s.b, s.c, s.d + p, s.e, s.f, s.g⟩
def rounds : St → List W → List W → St
 | s, k :: ks, w :: ws => rounds (round s k w) ks ws
 | s, _, _ => s
def table : List Nat := [0x428a2f98, 0x71374491, 0xb5c0fbcf, 0xe9b5dba5, 0x3956c25b, 0x59f111f1, 0x923f82a4, 0xab1c5ed5, 0xd807aa98, 0x12835b01, 0x243185be, 0x550c7dc3, 0x72be5d74, 0x80deb1fe, 0x9bdc06a7, 0xc19bf174, 0xe49b69c1, 0xefbe4786, 0x0fc19dc6, 0x240ca1cc, 0x2de92c6f, 0x4a7484aa, 0x5cb0a9dc, 0x76f988da, 0x983e5152, 0xa831c66d, 0xb00327c8, 0xbf597fc7, 0xc6e00bf3, 0xd5a79147, 0x06ca6351, 0x14292967, 0x27b70a85, 0x2e1b2138, 0x4d2c6dfc, 0x53380d13, 0x650a7354, 0x766a0abb, 0x81c2c92e, 0x92722c85, 0xa2bfe8a1, 0xa81a664b, 0xc24b8b70, 0xc76c51a3, 0xd192e819, 0xd6990624, 0xf40e3585, 0x106aa070, 0x19a4c116, 0x1e376c08, 0x2748774c, 0x34b0bcb5, 0x391c0cb3, 0x4ed8aa4a, 0x5b9cca4f, 0x682e6ff3, 0x748f82ee, 0x78a5636f, 0x84c87814, 0x8cc70208, 0x90befffa, 0xa4506ceb, 0xbef9a3f7, 0xc67178f2]
def ks : List W := table.map (BitVec.ofNat 32)
def grind (h : St) (b : List B) : St :=
 let v := rounds h ks (sched b)
 ⟨h.a + v.a, h.b + v.b, h.c + v.c, h.d + v.d, h.e + v.e, h.f + v.f, h.g + v.g, h.h + v.h⟩
def blocksN : Nat → St → List B → St × List B
 | 0, h, b => (h, b)
 | n + 1, h, b => if 64 ≤ b.length then blocksN n (grind h (b.take 64)) (b.drop 64) else (h, b)
def blocks (h : St) (b : List B) : St × List B := blocksN (b.length / 64) h b
def first : St := ⟨0x6a09e667#32, 0xbb67ae85#32, 0x3c6ef372#32, 0xa54ff53a#32, 0x510e527f#32, 0x9b05688c#32, 0x1f83d9ab#32, 0x5be0cd19#32⟩
def bytes8 (n : BitVec 64) : List B := [(n >>> 56).setWidth 8, (n >>> 48).setWidth 8, (n >>> 40).setWidth 8, (n >>> 32).setWidth 8, (n >>> 24).setWidth 8, (n >>> 16).setWidth 8, (n >>> 8).setWidth 8, (n >>> 0).setWidth 8]
def tail (n : Nat) : List B := 128#8 :: List.replicate ((119 - n % 64) % 64) 0#8 ++ bytes8 (BitVec.ofNat 64 n * 8#64)
def wbytes (w : W) : List B := [(w >>> 24).setWidth 8, (w >>> 16).setWidth 8, (w >>> 8).setWidth 8, w.setWidth 8]
def St.l (s : St) : List W := [s.a, s.b, s.c, s.d, s.e, s.f, s.g, s.h]
def written (s : St) : List B := (s.l.map wbytes).flatten
def sha (b : List B) : List B := written (blocks first (b ++ tail b.length)).1
theorem wd_snoc (l : List B) (x : B) : wd (l ++ [x]) = (wd l <<< 8) ||| x.setWidth 32 := by simp [wd, List.foldl_append]
theorem extN_length : ∀ (n : Nat) (w : List W), (extN n w).length = w.length + n
 | 0, w => rfl
 | n + 1, w => by rw [extN, extN_length n]; simp; omega
theorem sched_length (b : List B) : (sched b).length = 64 := by rw [sched, extN_length]; simp [words16]
theorem written_length (s : St) : (written s).length = 32 := rfl
theorem sha_length (b : List B) : (sha b).length = 32 := rfl
theorem extN_succ : ∀ (n : Nat) (w : List W), extN (n + 1) w = extN n w ++ [ext (extN n w)]
 | 0, w => rfl
 | n + 1, w => by rw [extN, extN_succ n (w ++ [ext w])]; rfl
theorem shl_or (a : W) (x : B) : (a <<< 8) ||| x.setWidth 32 = a * 256#32 + x.setWidth 32 := by
 apply BitVec.eq_of_toNat_eq
 have hx : x.toNat < 256 := x.isLt
 have ha := a.isLt
 rw [BitVec.toNat_or, BitVec.toNat_shiftLeft, BitVec.toNat_add, BitVec.toNat_mul, BitVec.toNat_setWidth]
 have h1 : x.toNat % 2 ^ 32 = x.toNat := Nat.mod_eq_of_lt (by omega)
 have h2 : a.toNat <<< 8 % 2 ^ 32 = (a.toNat % 2 ^ 24) <<< 8 := by rw [Nat.shiftLeft_eq, Nat.shiftLeft_eq]; omega
 have h3 := Nat.shiftLeft_add_eq_or_of_lt (b := x.toNat) (i := 8) (by omega) (a.toNat % 2 ^ 24)
 rw [h1, h2, ← h3, Nat.shiftLeft_eq]
 have h4 : (256#32).toNat = 256 := rfl
 rw [h4]
 omega
theorem blocks_step (h : St) (b : List B) (hb : 64 ≤ b.length) : blocks h b = blocks (grind h (b.take 64)) (b.drop 64) := by
 have : b.length / 64 = (b.drop 64).length / 64 + 1 := by simp; omega
 rw [blocks, this, blocksN, if_pos hb]
 rfl
theorem blocks_end (h : St) (b : List B) (hb : b.length < 64) : blocks h b = (h, b) := by
 rw [blocks, Nat.div_eq_of_lt hb]; rfl
theorem blocks_rest (h : St) (b : List B) : (blocks h b).2.length = b.length % 64 := by
 generalize hn : b.length = n
 induction n using Nat.strongRecOn generalizing h b with
 | _ n ih =>
  rcases Nat.lt_or_ge b.length 64 with h1 | h1
  ·rw [blocks_end h b h1, Nat.mod_eq_of_lt (by omega)]; exact hn
  ·rw [blocks_step h b h1, ih (b.length - 64) (by omega) _ (b.drop 64) (by simp)]
   omega
theorem blocks_two (h : St) (a b : List B) : blocks h (a ++ b) = blocks (blocks h a).1 ((blocks h a).2 ++ b) := by
 generalize hn : a.length = n
 induction n using Nat.strongRecOn generalizing h a with
 | _ n ih =>
  rcases Nat.lt_or_ge a.length 64 with h1 | h1
  ·rw [blocks_end h a h1]
  ·rw [blocks_step h a h1, blocks_step h (a ++ b) (by simp; omega), List.take_append_of_le_length h1, List.drop_append_of_le_length h1]
   exact ih (a.length - 64) (by omega) _ (a.drop 64) (by simp)
end Sha
end Go.CM

namespace Go.CM
open Go Go.Proofs
def tblC : List CV := Sha.ks.map e32
def GS : Nat → CV := fun g => match Nat.beq g 1 with | true => .rptr tblC 0 | false => .bad
theorem GS_closed : ∀ g, (GS g).closed = true := by
 intro g
 unfold GS
 split
 ·exact closedL_map e32 (fun _ => rfl) _
 ·rfl
@[simp]
theorem GS_0 : GS 1 = .rptr tblC 0 := id rfl
theorem tblC_get (i : Nat) (h : i < 64) : tblC[i]? = some (e32 (Sha.ks.getD i 0#32)) := by
 have hl : Sha.ks.length = 64 := rfl
 unfold tblC
 rw [List.getElem?_map, List.getD_eq_getElem?_getD, List.getElem?_eq_getElem (by omega)]
 rfl
end Go.CM

namespace Go.CM
open Go Go.Proofs
set_option maxRecDepth 100000
namespace Sha
def rotl (x : W) (k : Int) : W := (x <<< (BitVec.ofInt 64 k &&& 31#64).toNat) ||| (x >>> (32#64 - (BitVec.ofInt 64 k &&& 31#64)).toNat)
theorem rotl_neg (x : W) (n : Nat) (h0 : 0 < n) (h : n < 32) : rotl x (-(n : Int)) = rotr x n := by
 have h1 : ∀ n : Fin 32, 0 < n.val → (BitVec.ofInt 64 (-(n.val : Int)) &&& 31#64) = BitVec.ofNat 64 (32 - n.val) := by decide
 have h2 := h1 ⟨n, h⟩ h0
 simp only at h2
 unfold rotl rotr
 rw [h2, BitVec.or_comm]
 congr 2
 ·have : ∀ n : Fin 32, 0 < n.val → (32#64 - BitVec.ofNat 64 (32 - n.val)).toNat = n.val := by decide
  exact this ⟨n, h⟩ h0
 ·have : ∀ n : Fin 32, 0 < n.val → (BitVec.ofNat 64 (32 - n.val)).toNat = 32 - n.val := by decide
  exact this ⟨n, h⟩ h0
theorem rot_ok (x : W) (k : Int) : PureC Tryz.prog GS 291 [e32 x, .int .i64 k] (e32 (rotl x k)) := by
 refine pure_of Tryz.checked.mixed GS_closed ?_
 apply call_intro c291_eq r291_eq
 unfold c291 r291
 simp
 exact rd_eq rfl rfl
theorem mix_ok (x : W) (i j k : Nat) (hi : 0 < i ∧ i < 32) (hj : 0 < j ∧ j < 32) (hk : 0 < k ∧ k < 32) : PureC Tryz.prog GS 286 [e32 x, .int .i64 i, .int .i64 j, .int .i64 k] (e32 (mix x i j k)) := by
 refine pure_of Tryz.checked.mixed GS_closed ?_
 apply call_intro c286_eq r286_eq
 unfold c286 r286
 have hn : ∀ n : Nat, n < 32 → IntKind.i64.wrap (-(n : Int)) = -(n : Int) := fun n hn => wrap_i64 (by omega) (by omega)
 simp [hn i hi.2]
 refine pure_call (rot_ok x _) rfl ?_
 simp [hn j hj.2]
 refine pure_call (rot_ok x _) rfl ?_
 simp [hn k hk.2]
 refine pure_call (rot_ok x _) rfl ?_
 simp [rotl_neg x _ hi.1 hi.2, rotl_neg x _ hj.1 hj.2, rotl_neg x _ hk.1 hk.2]
 exact rd_eq rfl rfl
def enc8 (x : B) : List CV := [e8 x]
abbrev Bs := Sv B
abbrev encBs (s : Bs) : CV := encS 1 enc8 s
theorem closed_Bs (s : Bs) : (encBs s).closed = true := closed_encS (fun _ => rfl) s
def wordsAt (b : List B) (k : Nat) : List W := ((List.range 16).map fun t => wd (((b.take k).drop (4 * t)).take 4)) ++ List.replicate 48 0#32
theorem wordsAt_length (b : List B) (k : Nat) : (wordsAt b k).length = 64 := by simp [wordsAt]
theorem wordsAt_zero (b : List B) : wordsAt b 0 = List.replicate 64 0#32 := by simp [wordsAt, wd]; rfl
theorem wordsAt_get (b : List B) (k t : Nat) (ht : t < 16) : (wordsAt b k)[t]? = some (wd (((b.take k).drop (4 * t)).take 4)) := by
 unfold wordsAt
 rw [List.getElem?_append_left (by simpa using ht), List.getElem?_map, List.getElem?_range ht]
 rfl
theorem wordsAt_succ (b : List B) (k : Nat) (hk : k < 64) (hb : k < b.length) (x : B) (hx : b[k]? = some x) :
  (wordsAt b k).set (k / 4) ((wd (((b.take k).drop (4 * (k / 4))).take 4) <<< 8) ||| x.setWidth 32) = wordsAt b (k + 1) := by
 apply List.ext_getElem?
 intro t
 rw [List.getElem?_set, wordsAt_length]
 have hxk : b.take (k + 1) = b.take k ++ [x] := by rw [List.take_add_one, hx]; rfl
 have hlen : (b.take k).length = k := by simp; omega
 by_cases ht : t < 16
 ·rw [wordsAt_get b _ t ht, wordsAt_get b _ t ht]
  by_cases h : k / 4 = t
  ·rw [if_pos h, if_pos (by omega), ← wd_snoc, hxk, h]
   congr 2
   rw [List.drop_append_of_le_length (by omega)]
   obtain ⟨A, hA⟩ : ∃ A, A = List.drop (4 * t) (List.take k b) := ⟨_, rfl⟩
   have hAl : A.length < 4 := by rw [hA]; simp; omega
   rw [← hA, List.take_of_length_le (by omega), List.take_of_length_le (by simp; omega)]
  ·rw [if_neg h, hxk]
   congr 2
   rcases Nat.lt_or_ge k (4 * t) with h1 | h1
   ·rw [List.drop_eq_nil_of_le (by omega), List.drop_eq_nil_of_le (by simp; omega)]
   ·rw [List.drop_append_of_le_length (by omega), List.take_append_of_le_length (by simp; omega)]
 ·rw [if_neg (by omega)]
  unfold wordsAt
  rw [List.getElem?_append_right (by simp; omega), List.getElem?_append_right (by simp; omega)]
  simp
theorem wordsAt_end (b : List B) (hb : 64 ≤ b.length) : wordsAt b 64 = words16 b ++ List.replicate 48 0#32 := by
 unfold wordsAt words16
 congr 1
 apply List.map_congr_left
 intro t ht
 have := List.mem_range.1 ht
 congr 1
 rw [List.drop_take, List.take_take, Nat.min_eq_left (by omega)]
def schedAt (b : List B) (k : Nat) : List W := extN k (words16 b) ++ List.replicate (48 - k) 0#32
theorem schedAt_length (b : List B) (k : Nat) (hk : k ≤ 48) : (schedAt b k).length = 64 := by simp [schedAt, extN_length, words16]; omega
theorem schedAt_get (b : List B) (k i : Nat) (hi : i < 16 + k) : (schedAt b k)[i]? = some ((extN k (words16 b)).getD i 0#32) := by
 unfold schedAt
 have hl : (extN k (words16 b)).length = 16 + k := by simp [extN_length, words16]
 rw [List.getElem?_append_left (by omega), List.getD_eq_getElem?_getD, List.getElem?_eq_getElem (by omega)]
 rfl
theorem schedAt_succ (b : List B) (k : Nat) (hk : k < 48) : (schedAt b k).set (16 + k) (ext (extN k (words16 b))) = schedAt b (k + 1) := by
 have hl : (extN k (words16 b)).length = 16 + k := by simp [extN_length, words16]
 unfold schedAt
 rw [List.set_append_right _ _ (by omega), hl, Nat.sub_self, show 48 - k = (48 - (k + 1)) + 1 by omega, List.replicate_succ, List.set_cons_zero, extN_succ]
 simp
set_option maxHeartbeats 4000000 in
theorem schedule_ok (b : List B) (hb : 64 ≤ b.length) : PureC Tryz.prog GS 285 [encBs (some b)] (.ag ((sched b).map e32)) := by
 refine pure_of Tryz.checked.mixed GS_closed ?_
 apply call_intro c285_eq r285_eq
 unfold c285 r285
 have hsl : sliceM (.sl 1) (encBs (some b)) none (some (.int .i64 64)) none = some (encBs (some (b.take 64))) := by
  unfold encBs; rw [slice_to (by omega) (by omega)]; rfl
 have hln : min 64 b.length = 64 := by omega
 simp [hsl, hln]
 refine loop_up 64 (fun k σ l => σ 2 = .ptr 0 0 64 ∧ σ 11 = encBs (some (b.take 64)) ∧ σ 12 = .int .i64 64 ∧ σ 13 = .int .i64 k ∧ l = [.cells 64 ((wordsAt b k).map e32)]) ?_ ?_
 ·rintro k σ l hk ⟨g2, g11, g12, g13, rfl⟩
  obtain ⟨σ, rfl⟩ := upds4 g2 g11 g12 g13
  clear g2 g11 g12 g13
  unfold l285_0
  simp
  by_cases h : (k : Int) < 64
  ·obtain ⟨x, hx⟩ : ∃ x, b[k]? = some x := ⟨_, List.getElem?_eq_getElem (by omega)⟩
   have hx2 : (b.take 64)[k]? = some x := by rw [List.getElem?_take_of_lt (by omega)]; exact hx
   have hia : iaC (.sl 1) (encBs (some (b.take 64))) (.int .i64 k) = some (.rptr (enc8 x) 0) := by simp [encBs, ia_encS, hx2]
   obtain ⟨q, hq4⟩ : ∃ q, q = k / 4 := ⟨_, rfl⟩
   have hq : binInt .quo .i64 (k : Int) .i64 4 = some (.int .i64 (q : Int)) := by rw [hq4]; exact bquo_nat k 4 (by omega) (by omega)
   have hwk : IntKind.i64.wrap ((k : Int) + 1) = k + 1 := wrap_i64 (by omega) (by omega)
   have hlt : (q : Int) < 64 := by omega
   have hg := wordsAt_get b k q (by omega)
   have hs := splice_set e32 (wordsAt b k) q (((wd (((b.take k).drop (4 * q)).take 4) <<< 8) ||| x.setWidth 32)) (by rw [wordsAt_length]; omega)
   rw [hq4, wordsAt_succ b k (by omega) (by omega) x hx, ← hq4] at hs
   have hle : q + 1 ≤ 64 := by omega
   simp [h, hia, enc8, hq, hlt, hg, hle, hwk, hs]
   omega
  ·have hk64 : k = 64 := by omega
   subst hk64
   simp
   refine loop_up 48 (fun j σ l => σ 2 = .ptr 0 0 64 ∧ σ 5 = .int .i64 (16 + j : Nat) ∧ l = [.cells 64 ((schedAt b j).map e32)]) ?_ ?_
   ·rintro j σ l hj ⟨g2, g5, rfl⟩
    obtain ⟨σ, rfl⟩ := upds2 g2 g5
    clear g2 g5
    unfold l285_1
    obtain ⟨t, ht⟩ : ∃ t, t = 16 + j := ⟨_, rfl⟩
    rw [← ht]
    simp
    by_cases h : (t : Int) < 64
    ·have hw1 : IntKind.i64.wrap ((t : Int) + 1) = (t + 1 : Nat) := wrap_i64 (by omega) (by omega)
     have w15 : IntKind.i64.wrap ((t : Int) - 15) = (t - 15 : Nat) := by rw [wrap_i64 (by omega) (by omega)]; omega
     have w2 : IntKind.i64.wrap ((t : Int) - 2) = (t - 2 : Nat) := by rw [wrap_i64 (by omega) (by omega)]; omega
     have w16 : IntKind.i64.wrap ((t : Int) - 16) = (t - 16 : Nat) := by rw [wrap_i64 (by omega) (by omega)]; omega
     have w7 : IntKind.i64.wrap ((t : Int) - 7) = (t - 7 : Nat) := by rw [wrap_i64 (by omega) (by omega)]; omega
     have hl : (extN j (words16 b)).length = t := by simp [extN_length, words16]; omega
     have g15 := schedAt_get b j (t - 15) (by omega)
     have g2 := schedAt_get b j (t - 2) (by omega)
     have g16 := schedAt_get b j (t - 16) (by omega)
     have g7 := schedAt_get b j (t - 7) (by omega)
     have hs := splice_set e32 (schedAt b j) t (ext (extN j (words16 b))) (by rw [schedAt_length b j (by omega)]; omega)
     rw [ht, schedAt_succ b j (by omega), ← ht] at hs
     unfold ext at hs
     rw [hl] at hs
     dsimp only at hs
     obtain ⟨i15, e15⟩ : ∃ i, i = t - 15 := ⟨_, rfl⟩
     obtain ⟨i2, e2⟩ : ∃ i, i = t - 2 := ⟨_, rfl⟩
     obtain ⟨i16, e16⟩ : ∃ i, i = t - 16 := ⟨_, rfl⟩
     obtain ⟨i7, e7⟩ : ∃ i, i = t - 7 := ⟨_, rfl⟩
     rw [← e15] at w15 g15 hs
     rw [← e2] at w2 g2 hs
     rw [← e16] at w16 g16 hs
     rw [← e7] at w7 g7 hs
     have b15 : (i15 : Int) < 64 := by omega
     have b2 : (i2 : Int) < 64 := by omega
     have b16 : (i16 : Int) < 64 := by omega
     have b7 : (i7 : Int) < 64 := by omega
     have hle : t + 1 ≤ 64 := by omega
     generalize (extN j (words16 b)).getD i15 0#32 = x at g15 hs
     generalize (extN j (words16 b)).getD i2 0#32 = y at g2 hs
     generalize (extN j (words16 b)).getD i16 0#32 = x16 at g16 hs
     generalize (extN j (words16 b)).getD i7 0#32 = x7 at g7 hs
     have r7 := rotl_neg x 7 (by omega) (by omega)
     have r18 := rotl_neg x 18 (by omega) (by omega)
     have r17 := rotl_neg y 17 (by omega) (by omega)
     have r19 := rotl_neg y 19 (by omega) (by omega)
     simp at r7 r18 r17 r19
     simp [h, w15, w2, g15, g2, b15, b2]
     refine pure_call (rot_ok _ _) rfl ?_
     simp
     refine pure_call (rot_ok _ _) rfl ?_
     simp
     refine pure_call (rot_ok _ _) rfl ?_
     simp
     refine pure_call (rot_ok _ _) rfl ?_
     simp [r7, r18, r17, r19, w16, w7, g16, g7, b16, b7, h, hs, hw1, hle]
     omega
    ·have hj48 : j = 48 := by omega
     have hs48 : schedAt b 48 = sched b := by simp [schedAt, sched]
     subst hj48
     have hl64 := sched_length b
     rw [hs48]
     simp [h, hl64, splice_all, List.take_of_length_le]
     exact rd_eq rfl (closed_agm e32 (fun _ => rfl) _)
   ·simp [schedAt, extN, wordsAt_end b hb]
 ·simp [wordsAt_zero, rep_zero _ 32]
theorem words16_take (b : List B) (n : Nat) (hn : 64 ≤ n) : words16 (b.take n) = words16 b := by
 unfold words16
 apply List.map_congr_left
 intro t ht
 have := List.mem_range.1 ht
 congr 1
 rw [List.drop_take, List.take_take, Nat.min_eq_left (by omega)]
theorem sched_take (b : List B) (n : Nat) (hn : 64 ≤ n) : sched (b.take n) = sched b := by unfold sched; rw [words16_take b n hn]
theorem rounds_succ : ∀ (k : Nat) (s : St) (a b : List W) (x y : W), a[k]? = some x → b[k]? = some y → rounds s (a.take (k + 1)) (b.take (k + 1)) = round (rounds s (a.take k) (b.take k)) x y
 | 0, s, a, b, x, y, ha, hb => by
  cases a with
  | nil => simp at ha
  | cons a al =>
   cases b with
   | nil => simp at hb
   | cons b bs => simp at ha hb; subst ha hb; simp [rounds]
 | k + 1, s, a, b, x, y, ha, hb => by
  cases a with
  | nil => simp at ha
  | cons a al =>
   cases b with
   | nil => simp at hb
   | cons b bs =>
    simp only [List.take_succ_cons, rounds]
    exact rounds_succ k _ al bs x y (by simpa using ha) (by simpa using hb)
def rAt (h : St) (b : List B) (k : Nat) : St := rounds h (ks.take k) ((sched b).take k)
theorem rAt_zero (h : St) (b : List B) : rAt h b 0 = h := rfl
theorem rAt_succ (h : St) (b : List B) (k : Nat) (hk : k < 64) : rAt h b (k + 1) = round (rAt h b k) (ks.getD k 0#32) ((sched b).getD k 0#32) := by
 have h1 : ks.length = 64 := rfl
 have h2 := sched_length b
 refine rounds_succ k h ks (sched b) _ _ ?_ ?_
 ·rw [List.getD_eq_getElem?_getD, List.getElem?_eq_getElem (by omega)]; rfl
 ·rw [List.getD_eq_getElem?_getD, List.getElem?_eq_getElem (by omega)]; rfl
theorem rAt_end (h : St) (b : List B) : rAt h b 64 = rounds h ks (sched b) := by
 have h1 : ks.length = 64 := rfl
 have h2 := sched_length b
 unfold rAt
 rw [List.take_of_length_le (by omega), List.take_of_length_le (by omega)]
def accW (a b : List W) (k : Nat) : List W := (List.zipWith (· + ·) a b).take k ++ a.drop k
theorem accW_zero (a b : List W) : accW a b 0 = a := rfl
theorem accW_len {a b : List W} (h : a.length = b.length) (k : Nat) : (accW a b k).length = a.length := by simp [accW]; omega
theorem accW_get {a b : List W} (h : a.length = b.length) {k : Nat} (hk : k < a.length) : (accW a b k)[k]? = a[k]? := by
 unfold accW
 rw [List.getElem?_append_right (by simp; omega)]
 have : (List.take k (List.zipWith (· + ·) a b)).length = k := by simp; omega
 rw [this, List.getElem?_drop]; simp
theorem accW_set {a b : List W} (h : a.length = b.length) {k : Nat} {x y : W} (hx : a[k]? = some x) (hy : b[k]? = some y) : (accW a b k).set k (x + y) = accW a b (k + 1) := by
 have hk := (List.getElem?_eq_some_iff.1 hx).1
 unfold accW
 have hl : (List.take k (List.zipWith (· + ·) a b)).length = k := by simp; omega
 have hz : (List.zipWith (· + ·) a b)[k]? = some (x + y) := by rw [List.getElem?_zipWith, hx, hy]
 rw [List.set_append_right _ _ (by omega), hl, Nat.sub_self, List.drop_eq_getElem_cons hk, List.set_cons_zero, List.take_add_one, hz]
 simp
set_option maxHeartbeats 8000000 in
theorem grind_own {h : St} {b : List B} (hb : 64 ≤ b.length) {l : Hl} {bk sz : Nat} {rest : List CV} {x : CV} {K : CV → Hl → Prop} (hl : l[bk]? = some (.cells sz (h.l.map e32 ++ rest))) (hsz : 8 ≤ sz) (hx : RdH (HL l) x (encBs (some b)))
  (hK : ∀ junk, K (.tu []) (l.set bk (.cells sz ((grind h b).l.map e32 ++ rest)) ++ junk)) : CallP Tryz.prog GS 273 [.ptr bk 0 sz, x] l (c := ⟨K⟩) := by
 apply call_intro c273_eq r273_eq
 unfold c273 r273
 simp
 refine pure_callB (schedule_ok b hb) (.cons hx .nil) (flat_agm e32 (fun _ => rfl) _) ?_
 have hn := get_lt hl
 have hsl := sched_length b
 have hl2 : (l ++ [CB.cells 64 ((sched b).map e32)])[bk]? = some (.cells sz (h.l.map e32 ++ rest)) := by rw [List.getElem?_append_left hn]; exact hl
 have hg : ∀ i (y : W), i < 8 → h.l[i]? = some y → (h.l.map e32 ++ rest)[i]? = some (e32 y) := fun i y hi hy => by
  rw [List.getElem?_append_left (by simpa [St.l] using hi), List.getElem?_map, hy]; rfl
 have q0 := hg 0 h.a (by omega) rfl
 have q1 := hg 1 h.b (by omega) rfl
 have q2 := hg 2 h.c (by omega) rfl
 have q3 := hg 3 h.d (by omega) rfl
 have q4 := hg 4 h.e (by omega) rfl
 have q5 := hg 5 h.f (by omega) rfl
 have q6 := hg 6 h.g (by omega) rfl
 have q7 := hg 7 h.h (by omega) rfl
 simp [splice_all, hsl, hl2, q0, q1, q2, q3, q4, q5, q6, q7]
 refine loop_up 64 (fun k σ l' => σ 0 = .ptr bk 0 sz ∧ σ 4 = .ptr l.length 0 64 ∧ σ 5 = e32 (rAt h b k).a ∧ σ 6 = e32 (rAt h b k).b ∧ σ 7 = e32 (rAt h b k).c ∧ σ 8 = e32 (rAt h b k).d ∧ σ 9 = e32 (rAt h b k).e ∧ σ 10 = e32 (rAt h b k).f ∧ σ 11 = e32 (rAt h b k).g ∧ σ 12 = e32 (rAt h b k).h ∧ σ 52 = .int .i64 k ∧
  l' = l ++ [.cells 64 ((sched b).map e32)]) ?_ ?_
 ·rintro k σ l' hk ⟨g0, g4, g5, g6, g7, g8, g9, g10, g11, g12, g52, rfl⟩
  obtain ⟨σ, rfl⟩ := upds11 g0 g4 g5 g6 g7 g8 g9 g10 g11 g12 g52
  clear g0 g4 g5 g6 g7 g8 g9 g10 g11 g12 g52
  unfold l273_0
  simp
  by_cases hk' : (k : Int) < 64
  ·have hwk : IntKind.i64.wrap ((k : Int) + 1) = k + 1 := wrap_i64 (by omega) (by omega)
   have hkn : k < 64 := by omega
   have ht := tblC_get k hkn
   have hsk : (sched b)[k]? = some ((sched b).getD k 0#32) := by rw [List.getD_eq_getElem?_getD, List.getElem?_eq_getElem (by omega)]; rfl
   rw [rAt_succ h b k hkn]
   generalize (sched b).getD k 0#32 = wk at *
   generalize ks.getD k 0#32 = kk at *
   generalize rAt h b k = s at *
   have m1 := mix_ok s.e 6 11 25 (by omega) (by omega) (by omega)
   have m2 := mix_ok s.a 2 13 22 (by omega) (by omega) (by omega)
   simp at m1 m2
   simp [hk', ht, hsk]
   refine pure_call m1 rfl ?_
   simp [ht, hsk]
   refine pure_call m2 rfl ?_
   simp [hkn, hwk]
   simp [round]
  ·have hk64 : k = 64 := by omega
   subst hk64
   rw [rAt_end]
   obtain ⟨v, hv⟩ : ∃ v, rounds h ks (sched b) = v := ⟨_, rfl⟩
   rw [hv]
   have hgr : grind h b = ⟨h.a + v.a, h.b + v.b, h.c + v.c, h.d + v.d, h.e + v.e, h.f + v.f, h.g + v.g, h.h + v.h⟩ := by unfold grind; rw [hv]
   simp
   have hlv : h.l.length = v.l.length := rfl
   have hl8 : h.l.length = 8 := rfl
   have hgl : (grind h b).l = accW h.l v.l 8 := by rw [hgr]; rfl
   rw [hgl] at hK
   refine loop_up 8 (fun k σ l' => σ 0 = .ptr bk 0 sz ∧ σ 111 = .ag (v.l.map e32) ∧ σ 112 = .int .i64 k ∧ l' = l.set bk (.cells sz ((accW h.l v.l k).map e32 ++ rest)) ++ [.cells 64 ((sched b).map e32)]) ?_ ?_
   ·rintro k σ l' hk ⟨g0, g111, g112, rfl⟩
    obtain ⟨σ, rfl⟩ := upds3 g0 g111 g112
    clear g0 g111 g112
    unfold l273_1
    simp
    by_cases hk' : (k : Int) < 8
    ·have hwk : IntKind.i64.wrap ((k : Int) + 1) = k + 1 := wrap_i64 (by omega) (by omega)
     have hk8 : k < 8 := by omega
     obtain ⟨y, hy⟩ : ∃ y, v.l[k]? = some y := ⟨_, List.getElem?_eq_getElem (show k < v.l.length from hk8)⟩
     obtain ⟨z, hz⟩ : ∃ z, h.l[k]? = some z := ⟨_, List.getElem?_eq_getElem (show k < h.l.length from hk8)⟩
     have ha := accW_get hlv (k := k) (by rw [hl8]; exact hk8)
     rw [hz] at ha
     have hal := accW_len hlv k
     have hs := splice_set e32 (accW h.l v.l k) k (z + y) (by rw [hal, hl8]; exact hk8)
     rw [accW_set hlv hz hy] at hs
     have hla : ((accW h.l v.l k).map e32).length = 8 := by rw [List.length_map, hal, hl8]
     have hsp : splice ((accW h.l v.l k).map e32 ++ rest) k [e32 (z + y)] = (accW h.l v.l (k + 1)).map e32 ++ rest := by
      rw [← hs]
      unfold splice
      rw [List.take_append_of_le_length (by omega), List.drop_append_of_le_length (by simp; omega)]
      simp
     have hgt : ((accW h.l v.l k).map e32 ++ rest)[k]? = some (e32 z) := by rw [List.getElem?_append_left (by omega), List.getElem?_map, ha]; rfl
     have hl3 : (l.set bk (.cells sz ((accW h.l v.l k).map e32 ++ rest)) ++ [CB.cells 64 ((sched b).map e32)])[bk]? = some (.cells sz ((accW h.l v.l k).map e32 ++ rest)) := by
      rw [List.getElem?_append_left (by simpa using hn), List.getElem?_set]; simp [hn]
     have hks : k + 1 ≤ sz := by omega
     simp [hk', hy, hgt, hl3, hwk, hsp, hk8, hks, hn, List.set_append]
    ·have hk8 : k = 8 := by omega
     subst hk8
     simp
     exact hK _
   ·have hset : l.set bk (.cells sz ((accW h.l v.l 0).map e32 ++ rest)) = l := by
     rw [accW_zero]; exact set_same' hl
    rw [hset]
    simp [St.l]
 ·simp [rAt_zero]
abbrev encL (ls : Sv Bs) : CV := encS 1 (fun s => [encBs s]) ls
theorem closed_L (ls : Sv Bs) : (encL ls).closed = true := closed_encS (fun s => by simp only [closedL, closed_Bs, Bool.and_self]) ls
def bytesOf (ls : List Bs) : List B := (ls.map Sv.l).flatten
theorem bytesOf_take (ls : List Bs) (k : Nat) (s : Bs) (h : ls[k]? = some s) : bytesOf (ls.take (k + 1)) = bytesOf (ls.take k) ++ s.l := by
 unfold bytesOf
 rw [List.take_add_one, h]; simp
theorem bytesOf_le (ls : List Bs) (k : Nat) : (bytesOf (ls.take k)).length ≤ (bytesOf ls).length := by
 conv => rhs; rw [← List.take_append_drop k ls]
 unfold bytesOf
 rw [List.map_append, List.flatten_append, List.length_append]
 omega
theorem grow_own {n : Nat} (hn : n ≤ 1000000000) {l : Hl} {K : CV → Hl → Prop} (hK : ∀ v j l', OwnS 1 l' v j [] → l.length ≤ l'.length → (∀ b, b < l.length → l'[b]? = l[b]?) → (isNilS v = decide (n = 0)) → K v l') : CallP Tryz.prog GS 219 [.nilS, .int .i64 n] l (c := ⟨K⟩) := by
 apply call_intro c219_eq r219_eq
 unfold c219 r219
 have h1 : ¬((n : Int) < 0) := by omega
 have hw : IntKind.i64.wrap (n : Int) = n := wrap_i64 (by omega) (by omega)
 have hw0 : IntKind.i64.wrap (0 : Int) = 0 := rfl
 by_cases h0 : n = 0
 ·subst h0
  simp
  exact hK _ 0 _ (.nil 0) (Nat.le_refl _) (fun _ _ => rfl) rfl
 have h2 : (0 : Int) < n := by omega
 have hz : appZM l 1 1 [.int .u8 0] .nilS (.int .i64 n) = some (.sl 1 l.length 0 n n (n * 1), l ++ [.cells (n * 1) (repeatC [.int .u8 0] n)]) := by
  unfold appZM appendL
  simp only [Int.toNat_natCast]
  have hr : roomMax = 140737488355328 := rfl
  rw [if_pos ⟨by omega, by omega, by rw [hr]; omega⟩, if_neg h0, if_neg (by omega), if_pos (by rw [hr]; omega)]
 have hs : sliceM (.sl 1) (.sl 1 l.length 0 n n (n * 1)) none (some (.int .i64 0)) none = some (.sl 1 l.length 0 0 n (n * 1)) := by
  rw [sliceM_sl, bounds_hi, if_pos ⟨by omega, by omega⟩]
  simp [h0]
 rw [Nat.mul_one] at hz hs
 have h3 : 0 < n := by omega
 simp [h1, h2, h3, hw, hz, hw0, hs]
 refine hK _ l.length (l ++ [.cells n (repeatC [.int .u8 0] n)]) (.sl _ 0 n n (repeatC [.int .u8 0] n) [] (by simp) (by rw [repeatC_len']; simp) rfl (by simp) (by omega) (by omega) rfl) (by simp) (fun b hb => List.getElem?_append_left hb) ?_
 simp [isNilS, h0]
def catB (ls : List Bs) : Bs := if bytesOf ls = [] then none else some (bytesOf ls)
theorem catB_l (ls : List Bs) : (catB ls).l = bytesOf ls := by unfold catB; split <;> simp_all
set_option maxHeartbeats 4000000 in
theorem concat_ok (ls : List Bs) (hl : (bytesOf ls).length ≤ 1000000000) (hll : ls.length ≤ 1000000000) : PureN Tryz.prog GS 172 [encL (some ls)] (encBs (catB ls)) := by
 refine pureN_of Tryz.checked.mixed GS_closed ?_
 apply call_intro c172_eq r172_eq
 unfold c172 r172
 simp
 have hia : ∀ (k : Nat) (s : Bs), ls[k]? = some s → iaC (.sl 1) (encL (some ls)) (.int .i64 k) = some (.rptr [encBs s] 0) := fun k s hs => by simp [encL, ia_encS, hs]
 refine loop_up ls.length (fun k σ l => σ 0 = encL (some ls) ∧ σ 9 = encL (some ls) ∧ σ 10 = .int .i64 ls.length ∧ σ 11 = .int .i64 k ∧ σ 3 = .int .i64 (bytesOf (ls.take k)).length ∧ l = []) ?_ ?_
 ·rintro k σ l hk ⟨g0, g9, g10, g11, g3, rfl⟩
  obtain ⟨σ, rfl⟩ := upds5 g0 g3 g9 g10 g11
  clear g0 g3 g9 g10 g11
  unfold l172_0
  simp
  by_cases h : k < ls.length
  ·obtain ⟨s, hs, _⟩ := get_of h
   have hb := bytesOf_take ls k s hs
   have hle := bytesOf_le ls (k + 1)
   rw [hb, List.length_append] at hle
   have hw : IntKind.i64.wrap (((bytesOf (ls.take k)).length : Int) + s.l.length) = ((bytesOf (ls.take k)).length : Int) + s.l.length := wrap_i64 (by omega) (by omega)
   have hwk : IntKind.i64.wrap ((k : Int) + 1) = k + 1 := wrap_i64 (by omega) (by omega)
   have hneg : ¬(((bytesOf (ls.take k)).length : Int) + s.l.length < 0) := by omega
   simp [h, hia k s hs, hw, hneg, hwk, hb]
  ·have hkl : k = ls.length := by omega
   subst hkl
   simp
   refine grow_own hl ?_
   intro v j l ho hlen _ hnil
   simp
   refine loop_up ls.length (fun k σ l => σ 25 = encL (some ls) ∧ σ 26 = .int .i64 ls.length ∧ σ 27 = .int .i64 k ∧ ∃ v j, σ 6 = v ∧ OwnS 1 l v j ((bytesOf (ls.take k)).map enc8) ∧ isNilS v = decide (bytesOf ls = [])) ?_ ?_
   ·rintro k σ l hk ⟨g25, g26, g27, v, j, g6, ho, hnil⟩
    obtain ⟨σ, rfl⟩ := upds4 g6 g25 g26 g27
    clear g6 g25 g26 g27
    unfold l172_1
    simp
    by_cases h : k < ls.length
    ·obtain ⟨s, hs, _⟩ := get_of h
     have hb := bytesOf_take ls k s hs
     have hle := bytesOf_le ls (k + 1)
     rw [hb, List.length_append] at hle
     have hwk : IntKind.i64.wrap ((k : Int) + 1) = k + 1 := wrap_i64 (by omega) (by omega)
     have hr : roomMax = 140737488355328 := rfl
     obtain ⟨v', j', l', h1, h2, h3, h4, h5, h6⟩ := app_law (by_ := 1) ho (x := encBs s) (xs := s.l.map enc8) (by simp [encBs]) (fun e he => by obtain ⟨x, _, rfl⟩ := List.mem_map.1 he; rfl) (by omega) (by omega) (by simp; omega)
     simp [h, hia k s hs, h1]
     refine AppK.keep ?_
     simp [h, hwk]
     refine ⟨⟨j', by rw [hb, List.map_append]; exact h2⟩, ?_⟩
     rw [isNil_app h6, hnil]
     by_cases he : bytesOf ls = []
     ·have h0 : (bytesOf ls).length = 0 := by rw [he]; rfl
      have : s.l = [] := List.length_eq_zero_iff.1 (by omega)
      simp [he, this]
     ·simp [he]
    ·have hkl : k = ls.length := by omega
     subst hkl
     simp
     rw [List.take_length] at ho
     refine ho.rdN_enc (fun _ => rfl) _ ?_ (catB_l ls)
     rw [hnil]
     unfold catB
     split <;> simp_all
   ·simp
    refine ⟨⟨j, by simpa [bytesOf] using ho⟩, ?_⟩
    rw [hnil]
    simp [List.length_eq_zero_iff]
 ·simp [bytesOf]
theorem cloneB_nil (s : Sv B) : binC Tryz.prog .eql 100 (encS 1 enc8 s) .nilS = some (.bool s.isNone) := bin_nil_eql (e := 5) (by kernel_rfl) 1 enc8 s
theorem cloneB_own {s : Sv B} (hs : s.l.length ≤ 1000000000) {l : Hl} {K : CV → Hl → Prop} (hK : ∀ v j l', OwnS 1 l' v j (s.l.map enc8) → l.length ≤ l'.length → (∀ b, b < l.length → l'[b]? = l[b]?) → (v = .nilS ∨ l.length ≤ j) → isNilS v = s.isNone → K v l') : CallP Tryz.prog GS 274 [encS 1 enc8 s] l (c := ⟨K⟩) := by
 apply call_intro c274_eq r274_eq
 unfold c274 r274
 simp [cloneB_nil]
 cases s with
 | none =>
  simp
  exact hK _ 0 _ (.nil 0) (Nat.le_refl _) (fun _ _ => rfl) (.inl rfl) rfl
 | some b =>
  simp
  have hr : roomMax = 140737488355328 := rfl
  have hs' : b.length ≤ 1000000000 := hs
  have ho : OwnS 1 (l ++ [CB.cells 0 []]) (.sl 1 l.length 0 0 0 0) l.length [] := .sl l.length 0 0 0 [] [] (by simp) rfl rfl (by simp) (Nat.le_refl _) (by omega) rfl
  obtain ⟨v', j', l', h1, h2, h3, h4, h5, h6⟩ := app_law (by_ := 1) ho (x := encS 1 enc8 (some b)) (xs := b.map enc8) (by simp) (fun e he => by obtain ⟨x, _, rfl⟩ := List.mem_map.1 he; rfl) (by omega) (by omega) (by simp; omega)
  simp [h1]
  refine AppK.keep ?_
  simp
  have h3' : l.length + 1 ≤ l'.length := by simpa using h3
  refine hK _ j' _ h2 (by omega) (fun b hb => ?_) (.inr (by rcases h5 with h | h <;> (try simp only [List.length_append, List.length_cons, List.length_nil] at h) <;> omega)) ?_
  ·rw [h4 b (by simp; omega) (by omega), List.getElem?_append_left hb]
  ·rw [isNil_app h6]; rfl
structure Mill where
 st : St
 rest : Bs
 n : Int
def millC (s : St) (r : CV) (n : Int) : List CV := s.l.map e32 ++ [r, .int .i64 n]
def encM (m : Mill) : CV := .ag (millC m.st (encBs m.rest) m.n)
def feedM (m : Mill) (b : Bs) : Mill :=
 let all := m.rest.l ++ b.l
 ⟨(blocks m.st all).1, if all = [] then none else some (blocks m.st all).2, m.n + b.l.length⟩
theorem catB_two (a b : Bs) : catB [a, b] = if a.l ++ b.l = [] then none else some (a.l ++ b.l) := by
 have : bytesOf [a, b] = a.l ++ b.l := by simp [bytesOf]
 unfold catB
 rw [this]
theorem grind_take (h : St) (b : List B) : grind h (b.take 64) = grind h b := by unfold grind; rw [sched_take b 64 (by omega)]
theorem millC_len (s : St) (r : CV) (n : Int) : (millC s r n).length = 10 := rfl
set_option maxHeartbeats 8000000 in
theorem feed_ok (m : Mill) (b : Bs) (hl : m.rest.l.length + b.l.length ≤ 1000000000) (hn : 0 ≤ m.n) (hn2 : m.n ≤ 1000000000) : PureN Tryz.prog GS 248 [encM m, encBs b] (encM (feedM m b)) := by
 refine pureN_of Tryz.checked.mixed GS_closed ?_
 apply call_intro c248_eq r248_eq
 unfold c248 r248
 have hc : (CV.ag (millC m.st (encBs m.rest) m.n)).cells = some (millC m.st (encBs m.rest) m.n) := rfl
 have h8 : (millC m.st (encBs m.rest) m.n)[8]? = some (encBs m.rest) := rfl
 have hcat := concat_ok [m.rest, b] (by simp [bytesOf]; exact hl) (by simp)
 rw [catB_two] at hcat
 simp [encM, millC_len, h8]
 refine pureN_callB hcat (.cons ?_ .nil) ?_
 ·exact rdH_rows (es := [[encBs m.rest], [encBs b]]) (rest := []) rfl rfl (by simp) (by simp [closedL, closed_Bs])
 obtain ⟨all, hall⟩ : ∃ all, all = m.rest.l ++ b.l := ⟨_, rfl⟩
 have hal : all.length ≤ 1000000000 := by rw [hall]; simpa using hl
 rw [← hall]
 simp
 refine loop_up (all.length / 64) (fun k σ l => σ 1 = encBs b ∧ σ 2 = .ptr 0 0 10 ∧ σ 4 = .ptr 1 0 10 ∧ ∃ h s zs junk, σ 5 = encBs s ∧ l = .cells 10 (millC h (encBs m.rest) m.n) :: .cells 10 zs :: junk ∧ blocks m.st all = blocks h s.l ∧ s.l.length = all.length - 64 * k ∧ zs.length = 10 ∧ s.isNone = decide (all = [])) ?_ ?_
 ·rintro k σ l hk ⟨g1, g2, g4, h, s, zs, junk, g5, rfl, hbl, hcl, hz1, hnone⟩
  obtain ⟨σ, rfl⟩ := upds4 g1 g2 g4 g5
  clear g1 g2 g4 g5
  unfold l248_0
  have hlen : lenM (.sl 1) (encBs s) = some (.int .i64 s.l.length) := len_encS _
  simp [hlen]
  by_cases h64 : (64 : Int) ≤ s.l.length
  ·cases s with
   | none => simp at h64
   | some cur =>
   have h64c : (64 : Int) ≤ cur.length := h64
   have h64' : 64 ≤ cur.length := by omega
   simp [h64c]
   refine grind_own (h := h) (b := cur) h64' (l := .cells 10 (millC h (encBs m.rest) m.n) :: .cells 10 zs :: junk) (bk := 0) (sz := 10) (rest := [encBs m.rest, .int .i64 m.n]) rfl (by omega) (rdH_same (closed_Bs _)) (fun jk => ?_)
   have hsl : sliceM (.sl 1) (encBs (some cur)) (some (.int .i64 64)) none none = some (encBs (some (cur.drop 64))) := by
    unfold encBs; rw [slice_from (by omega) (by omega)]; rfl
   simp [hsl]
   have hcl' : cur.length = all.length - 64 * k := hcl
   refine ⟨by omega, grind h cur, some (cur.drop 64), rfl, zs, ⟨rfl, rfl⟩, ?_, ?_, hz1, ?_⟩
   ·rw [hbl]
    show blocks h cur = _
    rw [blocks_step h cur h64', grind_take]; rfl
   ·simp; omega
   ·exact hnone
  ·have hlt : s.l.length < 64 := by omega
   have hw : IntKind.i64.wrap (m.n + (b.l.length : Int)) = m.n + b.l.length := wrap_i64 (by omega) (by omega)
   have h9 : (millC h (encBs m.rest) m.n)[9]? = some (.int .i64 m.n) := rfl
   have hlb : lenM (.sl 1) (encBs b) = some (.int .i64 b.l.length) := len_encS _
   simp [h64, h9, hlb, hw]
   refine cloneB_own (by omega) ?_
   intro v j l ho hl1 hl2 hj hnil
   obtain ⟨l', rfl⟩ : ∃ l', l = .cells 10 (millC h (encBs m.rest) m.n) :: .cells 10 zs :: l' := by
    have e0 := hl2 0 (by simp)
    have e1 := hl2 1 (by simp)
    cases l with
    | nil => simp at e0
    | cons a l => cases l with
     | nil => simp at e1
     | cons c l => simp at e0 e1; subst e0 e1; exact ⟨l, rfl⟩
   have hsp9 : ∀ r n n', splice (millC h r n) 9 [.int .i64 n'] = millC h r n' := fun _ _ _ => rfl
   have hsp8 : ∀ r n r', splice (millC h r n) 8 [r'] = millC h r' n := fun _ _ _ => rfl
   have hv := ho.cells
   simp [h9, hsp9, hsp8, hv, millC_len, hz1, splice_all]
   have htk : ∀ r n, List.take 10 (millC h r n) = millC h r n := fun _ _ => rfl
   rw [htk, htk]
   have hfin : feedM m b = ⟨h, if all = [] then none else some s.l, m.n + b.l.length⟩ := by
    unfold feedM
    rw [← hall]
    dsimp only
    rw [hbl, blocks_end h s.l hlt]
   rw [hfin]
   have hrd := (ho.frame2 (l' := .cells 10 (millC h v (m.n + (b.l.length : Int))) :: .cells 10 (millC h v (m.n + (b.l.length : Int))) :: l') (by
    rcases hj with hj | hj
    ·exact .inl hj
    ·obtain ⟨q, rfl⟩ : ∃ q, j = q + 2 := ⟨j - 2, by simp at hj; omega⟩
     exact .inr rfl)).rdN_enc (fun _ => rfl) (if all = [] then none else some s.l) (by
     rw [hnil, hnone]; split <;> simp_all) (by
     split
     ·rename_i he; rw [he] at hcl; simp at hcl; rw [hcl]; rfl
     ·rfl)
   refine .ag _ _ rfl fun i c c' hc1 hc2 => ?_
   rcases i with _ | _ | _ | _ | _ | _ | _ | _ | _ | _ | i <;> simp [millC, St.l] at hc1 hc2
   all_goals subst hc1 hc2
   all_goals first | exact hrd | exact .flat _ rfl
 ·simp
  exact ⟨m.st, (if all = [] then none else some all), rfl, ⟨[.int .u32 0, .int .u32 0, .int .u32 0, .int .u32 0, .int .u32 0, .int .u32 0, .int .u32 0, .int .u32 0, .nilS, .int .i64 0], ⟨rfl, rfl⟩, by split <;> simp_all, by split <;> simp_all, rfl, by split <;> simp_all⟩⟩
def idC (b : List B) : CV := .ag (b.map e8)
def tailAt (n k : Nat) : List B := 128#8 :: List.replicate ((119 - n % 64) % 64) 0#8 ++ (bytes8 (BitVec.ofNat 64 n * 8#64)).take k
theorem tailAt_end (n : Nat) : tailAt n 8 = tail n := rfl
theorem tailAt_succ (n k : Nat) (x : B) (hx : (bytes8 (BitVec.ofNat 64 n * 8#64))[k]? = some x) : tailAt n (k + 1) = tailAt n k ++ [x] := by
 unfold tailAt
 rw [List.take_add_one, hx]; simp
theorem tailAt_len (n k : Nat) : (tailAt n k).length ≤ 80 := by
 unfold tailAt
 have : (bytes8 (BitVec.ofNat 64 n * 8#64)).length = 8 := rfl
 simp; omega
theorem bytes8_get (q : BitVec 64) (k : Nat) (hk : k < 8) : (bytes8 q)[k]? = some ((q >>> (56 - 8 * k)).setWidth 8) := by
 match k, hk with
 | 0, _ => rfl
 | 1, _ => rfl
 | 2, _ => rfl
 | 3, _ => rfl
 | 4, _ => rfl
 | 5, _ => rfl
 | 6, _ => rfl
 | 7, _ => rfl
def outAt (s : List W) (k : Nat) : List B := ((s.take k).map wbytes).flatten ++ List.replicate (32 - 4 * k) 0#8
theorem wflat_len (s : List W) : (s.map wbytes).flatten.length = 4 * s.length := by
 induction s with
 | nil => rfl
 | cons w s ih => simp [ih, wbytes]; omega
theorem outAt_len (s : List W) (k : Nat) (hk : k ≤ s.length) (hs : s.length = 8) : (outAt s k).length = 32 := by
 unfold outAt
 rw [List.length_append, wflat_len]
 simp; omega
theorem outAt_succ (s : List W) (k : Nat) (w : W) (hk : s[k]? = some w) (hs : s.length = 8) :
  ((((outAt s k).set (4 * k) ((w >>> 24).setWidth 8)).set (4 * k + 1) ((w >>> 16).setWidth 8)).set (4 * k + 2) ((w >>> 8).setWidth 8)).set (4 * k + 3) (w.setWidth 8) = outAt s (k + 1) := by
 have hk8 := (List.getElem?_eq_some_iff.1 hk).1
 unfold outAt
 rw [List.take_add_one, hk]
 have hA : ((s.take k).map wbytes).flatten.length = 4 * k := by rw [wflat_len]; simp; omega
 obtain ⟨A, hAe⟩ : ∃ A, A = ((s.take k).map wbytes).flatten := ⟨_, rfl⟩
 rw [← hAe] at hA ⊢
 have hr : 32 - 4 * k = (32 - 4 * (k + 1)) + 1 + 1 + 1 + 1 := by omega
 rw [hr, List.replicate_succ, List.replicate_succ, List.replicate_succ, List.replicate_succ]
 rw [List.set_append_right _ _ (by omega), List.set_append_right _ _ (by omega), List.set_append_right _ _ (by omega), List.set_append_right _ _ (by omega)]
 simp only [hA, Nat.sub_self, Nat.add_sub_cancel_left, List.set_cons_zero, List.set_cons_succ, List.map_append, List.flatten_append, ← hAe]
 simp [wbytes]
def endM (s : St) (r : Bs) (n : Nat) : List B := written (blocks s (r.l ++ tail n)).1
set_option maxHeartbeats 8000000 in
theorem end_ok (s : St) (r : Bs) (n : Nat) (hr : r.l.length ≤ 100000000) (hn : n ≤ 100000000) : PureC Tryz.prog GS 249 [encM ⟨s, r, n⟩] (idC (endM s r n)) := by
 refine pure_of Tryz.checked.mixed GS_closed ?_
 apply call_intro c249_eq r249_eq
 unfold c249 r249
 have h9 : (millC s (encBs r) n)[9]? = some (.int .i64 n) := rfl
 have hc : (CV.ag (millC s (encBs r) n)).cells = some (millC s (encBs r) n) := rfl
 have hrem := brem_nat n 64 (by omega)
 obtain ⟨q, hq⟩ : ∃ q, q = n % 64 := ⟨_, rfl⟩
 rw [show ((64 : Int).toNat) = 64 from rfl, ← hq] at hrem
 have hq64 : q < 64 := by rw [hq]; exact Nat.mod_lt _ (by omega)
 have hw1 : IntKind.i64.wrap (119 - (q : Int)) = (119 - q : Nat) := by rw [wrap_i64 (by omega) (by omega)]; omega
 have hrem2 := brem_nat (119 - q) 64 (by omega)
 rw [show ((64 : Int).toNat) = 64 from rfl] at hrem2
 obtain ⟨m, hm⟩ : ∃ m, m = (119 - q) % 64 := ⟨_, rfl⟩
 rw [← hm] at hrem2
 have hm64 : m < 64 := by rw [hm]; exact Nat.mod_lt _ (by omega)
 obtain ⟨t, ht⟩ : ∃ t, t = 119 - q := ⟨_, rfl⟩
 rw [← ht] at hw1 hrem2
 have hr0 : roomMax = 140737488355328 := rfl
 obtain ⟨L, hL⟩ : ∃ L : Hl, L = [CB.cells 10 (millC s (encBs r) n), CB.cells 32 (rep 32 (CV.int IntKind.u8 0)), CB.cells 1 [CV.int IntKind.u8 128]] := ⟨_, rfl⟩
 have hL0 : L[0]? = some (CB.cells 10 (millC s (encBs r) n)) := by rw [hL]; rfl
 have hL1 : L[1]? = some (CB.cells 32 (rep 32 (CV.int IntKind.u8 0))) := by rw [hL]; rfl
 have hLl : L.length = 3 := by rw [hL]; rfl
 have ho0 : OwnS 1 L (.sl 1 2 0 1 1 1) 2 [[CV.int IntKind.u8 128]] := by
  rw [hL]
  exact .sl 2 1 1 1 [.int .u8 128] _ rfl rfl rfl (by simp) (Nat.le_refl _) (Nat.le_refl _) rfl
 have hm9 : m < 9223372036854775808 := by omega
 have hroom : (List.length [[CV.int IntKind.u8 128]] + m) * 1 ≤ roomMax := by rw [hr0]; simp; omega
 have hlaw := appZ_law (n := m) (k := .i64) (by_ := 1) (zero := [.int .u8 0]) ho0 rfl (by omega) (by omega) hm9 hroom
 obtain ⟨v, j, l, h1, ho, h3, h4, h5, h6⟩ := hlaw
 have hv : isNilS v = false := by
  rw [Bool.eq_false_iff]; intro hh
  rw [isNil_iff, h6] at hh
  cases hh.1
 have hu : u 128#8 = 128 := by decide
 have he : ([[CV.int IntKind.u8 128]] ++ List.replicate m [CV.int IntKind.u8 0] : List (List CV)) = (tailAt n 0).map enc8 := by
  have : m = (119 - n % 64) % 64 := by rw [hm, hq]
  unfold tailAt
  rw [← this]
  simp [enc8, hu]
 rw [he] at ho
 have e0 := (h4 0 (by omega) (by omega)).trans hL0
 have e1 := (h4 1 (by omega) (by omega)).trans hL1
 have hj2 : 2 ≤ j := by rcases h5 with h | h <;> omega
 simp [encM, millC_len, h9, hrem, hw1, hrem2]
 rw [← hL]
 simp [h1]
 refine loop_up 8 (fun k σ l => σ 1 = .ptr 0 0 10 ∧ σ 2 = .ptr 1 0 32 ∧ σ 3 = e64 (BitVec.ofNat 64 n * 8#64) ∧ σ 5 = .int .i64 (56 - 8 * (k : Int)) ∧ ∃ v j, σ 4 = v ∧ 2 ≤ j ∧ isNilS v = false ∧ OwnS 1 l v j ((tailAt n k).map enc8) ∧ l[0]? = some (CB.cells 10 (millC s (encBs r) n)) ∧ l[1]? = some (CB.cells 32 (rep 32 (CV.int IntKind.u8 0)))) ?_ ?_
 ·rintro k σ l hk ⟨g1, g2, g3, g5, v, j, g4, hj, hv, ho, e0, e1⟩
  obtain ⟨σ, rfl⟩ := upds5 g1 g2 g3 g4 g5
  clear g1 g2 g3 g4 g5
  unfold l249_0
  obtain ⟨c, hc⟩ : ∃ c : Int, c = 56 - 8 * (k : Int) := ⟨_, rfl⟩
  rw [← hc]
  simp
  by_cases hk8 : 0 ≤ c
  ·have hk7 : k < 8 := by omega
   have hx := bytes8_get (BitVec.ofNat 64 n * 8#64) k hk7
   have hcn : c.toNat = 56 - 8 * k := by omega
   have hwc : IntKind.i64.wrap (c - 8) = 56 - 8 * ((k : Int) + 1) := by rw [wrap_i64 (by omega) (by omega)]; omega
   have htl := tailAt_len n k
   have ho2 : OwnS 1 (l ++ [CB.cells 1 [e8 (((BitVec.ofNat 64 n * 8#64) >>> (56 - 8 * k)).setWidth 8)]]) v j ((tailAt n k).map enc8) := ho.more _
   obtain ⟨v', j', l', h1, h2, h3, h4, h5, h6⟩ := app_law (by_ := 1) ho2 (x := .sl 1 l.length 0 1 1 1) (xs := [[e8 (((BitVec.ofNat 64 n * 8#64) >>> (56 - 8 * k)).setWidth 8)]]) (by simp [contentsL]) (by simp) (by omega) (by omega) (by simp; omega)
   have hjl : j < l.length := by
    rcases ho.lt with h | h
    ·subst h; simp [isNilS] at hv
    ·exact h
   have e0' : l'[0]? = some (CB.cells 10 (millC s (encBs r) n)) := by rw [h4 0 (by simp) (by omega), List.getElem?_append_left (get_lt e0)]; exact e0
   have e1' : l'[1]? = some (CB.cells 32 (rep 32 (CV.int IntKind.u8 0))) := by
    have := get_lt e1
    rw [h4 1 (by simp; omega) (by omega), List.getElem?_append_left (get_lt e1)]; exact e1
   have hv' : isNilS v' = false := by rw [isNil_app h6, hv]; rfl
   have hj' : 2 ≤ j' := by
    rcases h5 with h | h
    ·omega
    ·have h := Nat.le_trans (show l.length ≤ (l ++ [CB.cells 1 [e8 (((BitVec.ofNat 64 n * 8#64) >>> (56 - 8 * k)).setWidth 8)]]).length by simp) h
     omega
   simp [hk8, hcn, h1]
   refine AppK.keep ?_
   simp [hk8, hwc]
   exact ⟨by omega, j', hj', hv', by rw [tailAt_succ n k _ hx, List.map_append]; exact h2, e0', e1'⟩
  ·have hk8' : k = 8 := by omega
   subst hk8'
   rw [tailAt_end] at ho
   have hfd := feed_ok ⟨s, r, n⟩ (some (tail n)) (by have := tailAt_len n 8; rw [tailAt_end] at this; simp; omega) (by simp) (by simp; omega)
   have hx := ho.rdH_enc (fun _ => rfl) (some (tail n)) (by rw [hv]; rfl) rfl
   have hfw : (feedM ⟨s, r, n⟩ (some (tail n))).st = (blocks s (r.l ++ tail n)).1 := rfl
   obtain ⟨F, hF⟩ : ∃ F, F = feedM ⟨s, r, n⟩ (some (tail n)) := ⟨_, rfl⟩
   rw [← hF] at hfd hfw
   have hmc : closedL [encM ⟨s, r, n⟩] = true := by simp [closedL, encM, CV.closed, millC, St.l, closed_Bs]
   have hfA : fldCA 8 0 (encM F) = some (.ag (F.st.l.map e32)) := rfl
   have hl8 : F.st.l.length = 8 := rfl
   simp [hk8, e0, millC_len]
   refine pureN_callB hfd (.cons (rdH_same ?_) (.cons hx .nil)) ?_
   ·show (CV.ag (millC s (encBs r) n)).closed = true
    simp [CV.closed, closedL, millC, St.l, closed_Bs]
   simp [hfA]
   refine loop_up 8 (fun k σ l => σ 2 = .ptr 1 0 32 ∧ σ 33 = .ag (F.st.l.map e32) ∧ σ 34 = .int .i64 k ∧ l[1]? = some (CB.cells 32 ((outAt F.st.l k).map e8))) ?_ ?_
   ·rintro k σ l hk ⟨g2, g33, g34, e1⟩
    obtain ⟨σ, rfl⟩ := upds3 g2 g33 g34
    clear g2 g33 g34
    obtain ⟨x0, l2, rfl⟩ := two_of e1
    clear e1
    unfold l249_1
    simp
    by_cases hk8 : (k : Int) < 8
    ·have hk' : k < 8 := by omega
     obtain ⟨w, hw⟩ : ∃ w, F.st.l[k]? = some w := ⟨_, List.getElem?_eq_getElem (show k < F.st.l.length from hk')⟩
     have hol := outAt_len F.st.l k (by omega) hl8
     have hos := outAt_succ F.st.l k w hw hl8
     have w0 : IntKind.i64.wrap (4 * (k : Int)) = (4 * k : Nat) := by rw [wrap_i64 (by omega) (by omega)]; omega
     have w1 : IntKind.i64.wrap (((4 * k : Nat) : Int) + 1) = (4 * k + 1 : Nat) := by rw [wrap_i64 (by omega) (by omega)]; omega
     have w2 : IntKind.i64.wrap (((4 * k : Nat) : Int) + 2) = (4 * k + 2 : Nat) := by rw [wrap_i64 (by omega) (by omega)]; omega
     have w3 : IntKind.i64.wrap (((4 * k : Nat) : Int) + 3) = (4 * k + 3 : Nat) := by rw [wrap_i64 (by omega) (by omega)]; omega
     have wk : IntKind.i64.wrap ((k : Int) + 1) = k + 1 := wrap_i64 (by omega) (by omega)
     obtain ⟨a, ha⟩ : ∃ a, a = 4 * k := ⟨_, rfl⟩
     rw [← ha] at w0 w1 w2 w3 hos
     have s0 := splice_set e8 (outAt F.st.l k) a ((w >>> 24).setWidth 8) (by omega)
     have s1 := splice_set e8 ((outAt F.st.l k).set a ((w >>> 24).setWidth 8)) (a + 1) ((w >>> 16).setWidth 8) (by simp; omega)
     have s2 := splice_set e8 (((outAt F.st.l k).set a ((w >>> 24).setWidth 8)).set (a + 1) ((w >>> 16).setWidth 8)) (a + 2) ((w >>> 8).setWidth 8) (by simp; omega)
     have s3 := splice_set e8 ((((outAt F.st.l k).set a ((w >>> 24).setWidth 8)).set (a + 1) ((w >>> 16).setWidth 8)).set (a + 2) ((w >>> 8).setWidth 8)) (a + 3) (w.setWidth 8) (by simp; omega)
     rw [hos] at s3
     have b0 : (a : Int) < 32 := by omega
     have b1 : ((a + 1 : Nat) : Int) < 32 := by omega
     have b2 : ((a + 2 : Nat) : Int) < 32 := by omega
     have b3 : ((a + 3 : Nat) : Int) < 32 := by omega
     have c0 : a + 1 ≤ 32 := by omega
     have c1 : a + 1 + 1 ≤ 32 := by omega
     have c2 : a + 2 + 1 ≤ 32 := by omega
     have c3 : a + 3 + 1 ≤ 32 := by omega
     have d1 : (a : Int) + 1 < 32 := by omega
     have d2 : (a : Int) + 2 < 32 := by omega
     have d3 : (a : Int) + 3 < 32 := by omega
     have f1 : ((a : Int) + 1).toNat = a + 1 := by omega
     have f2 : ((a : Int) + 2).toNat = a + 2 := by omega
     have f3 : ((a : Int) + 3).toNat = a + 3 := by omega
     have o1 : (0 : Int) ≤ (a : Int) + 1 := by omega
     have o2 : (0 : Int) ≤ (a : Int) + 2 := by omega
     have o3 : (0 : Int) ≤ (a : Int) + 3 := by omega
     simp [hk8, hk', hw, w0, w1, w2, w3, wk, b0, s0, s1, s2, s3, c0, c1, c2, c3, d1, d2, d3, f1, f2, f3, o1, o2, o3, -List.map_set]
    ·have hk8' : k = 8 := by omega
     subst hk8'
     have ho8 : outAt F.st.l 8 = written F.st := by simp [outAt, written, St.l]
     rw [ho8]
     have hwl : (written F.st).length = 32 := rfl
     simp [hwl, splice_all, List.take_of_length_le]
     exact rd_eq (by unfold idC endM; rw [hfw]) (closed_agm e8 (fun _ => rfl) _)
   ·simp [e1]
    rw [rep_zero .u8 8]; rfl
 ·simp
  exact ⟨j, hj2, hv, ho, e0, e1⟩
structure InvM (m : Mill) (b : List B) : Prop where
 bl : blocks first b = (m.st, m.rest.l)
 n : m.n = b.length
theorem invM_feed {m : Mill} {b : List B} (h : InvM m b) (s : Bs) : InvM (feedM m s) (b ++ s.l) := by
 have h1 : blocks first (b ++ s.l) = blocks m.st (m.rest.l ++ s.l) := by rw [blocks_two, h.bl]
 refine ⟨?_, ?_⟩
 ·rw [h1]
  unfold feedM
  dsimp only
  split
  ·rename_i he
   rw [he]; rfl
  ·rfl
 ·unfold feedM
  dsimp only
  rw [h.n]; simp
theorem invM_rest {m : Mill} {b : List B} (h : InvM m b) : m.rest.l.length < 64 := by
 have := blocks_rest first b
 rw [h.bl] at this
 simp only at this
 rw [this]; exact Nat.mod_lt _ (by omega)
theorem invM_end {m : Mill} {b : List B} (h : InvM m b) : endM m.st m.rest b.length = sha b := by
 unfold endM sha
 rw [blocks_two first b, h.bl]
def start : Mill := ⟨first, none, 0⟩
theorem invM_start : InvM start [] := ⟨rfl, rfl⟩
theorem start_ok : PureN Tryz.prog GS 247 [] (encM start) := by
 refine pureN_of Tryz.checked.mixed GS_closed ?_
 apply call_intro c247_eq r247_eq
 unfold c247 r247
 simp
 exact .flat _ rfl
def isLong (s : Bs) : Bool := decide ((10000 : Int) < s.l.length)
theorem long1_ok (s : Bs) : PureC Tryz.prog GS 246 [encBs s] (.bool (isLong s)) := by
 refine pure_of Tryz.checked.mixed GS_closed ?_
 apply call_intro c246_eq r246_eq
 unfold c246 r246
 simp [encBs]
 exact rd_eq rfl rfl
theorem fn_long : funOkB Tryz.prog 246 = true := by kernel_rfl
def idx (l : List Bs) : Int := match l.findIdx? isLong with | some i => (i : Int) | none => -1
theorem idx_some {l : List Bs} {k : Nat} {s : Bs} (hs : l[k]? = some s) (hl : isLong s = true) (hno : ∀ j s, j < k → l[j]? = some s → isLong s = false) : idx l = k := by
 have : l.findIdx? isLong = some k := by
  rw [List.findIdx?_eq_some_iff_getElem]
  obtain ⟨h1, rfl⟩ := List.getElem?_eq_some_iff.1 hs
  refine ⟨h1, hl, fun j hj => ?_⟩
  rw [hno j l[j] hj (List.getElem?_eq_getElem (by omega))]; simp
 unfold idx; rw [this]
theorem idx_none {l : List Bs} (hno : ∀ j s, j < l.length → l[j]? = some s → isLong s = false) : idx l = -1 := by
 have : l.findIdx? isLong = none := by
  rw [List.findIdx?_eq_none_iff]
  intro x hx
  obtain ⟨j, hj⟩ := List.mem_iff_getElem?.1 hx
  exact hno j x (List.getElem?_eq_some_iff.1 hj).1 hj
 unfold idx; rw [this]
theorem index_ok (ls : Sv Bs) (hl : ls.l.length ≤ 1000000000) : PureC Tryz.prog GS 272 [encL ls, .fn 246 [] []] (.int .i64 (idx ls.l)) := by
 refine pure_of Tryz.checked.mixed GS_closed ?_
 apply call_intro c272_eq r272_eq
 unfold c272 r272
 have hlen : lenM (.sl 1) (encL ls) = some (.int .i64 ls.l.length) := len_encS _
 simp [hlen]
 refine loop_up ls.l.length (fun k σ l => σ 0 = encL ls ∧ σ 1 = .fn 246 [] [] ∧ σ 7 = .int .i64 ls.l.length ∧ σ 8 = .int .i64 k ∧ ∀ j s, j < k → ls.l[j]? = some s → isLong s = false) ?_ (by simp)
 rintro k σ l hk ⟨g0, g1, g7, g8, hno⟩
 obtain ⟨σ, rfl⟩ := upds4 g0 g1 g7 g8
 clear g0 g1 g7 g8
 unfold l272_0
 simp
 by_cases h : k < ls.l.length
 ·obtain ⟨s, hs, _⟩ := get_of h
  have hia : iaC (.sl 1) (encL ls) (.int .i64 k) = some (.rptr [encBs s] 0) := by
   rw [ia_encS]; simp [hs]
  have hwk : IntKind.i64.wrap ((k : Int) + 1) = k + 1 := wrap_i64 (by omega) (by omega)
  simp [h, hia]
  refine ⟨fn_long, pure_call (long1_ok s) (by simp [closedL, closed_Bs]) ?_⟩
  cases hls : isLong s with
  | true =>
   simp
   rw [idx_some hs hls hno]
   exact rd_eq rfl rfl
  | false =>
   simp [h, hwk]
   intro j s' hj hs'
   rcases Nat.lt_or_ge j k with h1 | h1
   ·exact hno j s' h1 hs'
   ·have : j = k := by omega
    subst this
    rw [hs] at hs'; cases hs'; exact hls
 ·simp [h]
  rw [idx_none (fun j s hj hs => hno j s (by omega) hs)]
  exact rd_eq rfl rfl
theorem contains_ok (ls : Sv Bs) (hl : ls.l.length ≤ 1000000000) : PureC Tryz.prog GS 245 [encL ls, .fn 246 [] []] (.bool (decide (0 ≤ idx ls.l))) := by
 refine pure_of Tryz.checked.mixed GS_closed ?_
 apply call_intro c245_eq r245_eq
 unfold c245 r245
 simp
 refine pure_call (index_ok ls hl) (by simp [closedL, CV.closed, closed_L]) ?_
 simp
 exact rd_eq rfl rfl
set_option maxHeartbeats 4000000 in
theorem pieces_ok (ls : List Bs) (h20 : ls.length ≤ 20) (hno : ∀ s ∈ ls, s.l.length ≤ 10000) : PureC Tryz.prog GS 205 [encL (some ls)] (.tu [idC (sha (bytesOf ls)), .int .i64 0]) := by
 have hidx : idx ls = -1 := idx_none fun j s hj hs => by
  have := hno s (List.mem_of_getElem? hs)
  unfold isLong; simp; omega
 have hlen : ∀ k, (bytesOf (ls.take k)).length ≤ 200000 := fun k => by
  have : ∀ l : List Bs, (∀ s ∈ l, s.l.length ≤ 10000) → (bytesOf l).length ≤ 10000 * l.length := by
   intro l
   induction l with
   | nil => intro _; simp [bytesOf]
   | cons s l ih =>
    intro h
    have h1 := ih fun x hx => h x (by simp [hx])
    have h2 := h s (by simp)
    unfold bytesOf at h1 ⊢
    rw [List.map_cons, List.flatten_cons, List.length_append, List.length_cons]
    omega
  have h1 := this (ls.take k) fun s hs => hno s (List.mem_of_mem_take hs)
  have h2 : (ls.take k).length ≤ 20 := by simp; omega
  omega
 refine pure_of Tryz.checked.mixed GS_closed ?_
 apply call_intro c205_eq r205_eq
 unfold c205 r205
 have h20' : ¬(20 : Int) < ls.length := by omega
 have hcon := contains_ok (some ls) (by simp; omega)
 rw [Sv.l_some, hidx] at hcon
 simp [h20']
 refine pure_call hcon (by simp [closedL, CV.closed, closed_L]) ?_
 simp
 refine pure_call start_ok.toC rfl ?_
 simp [encM, millC_len, splice_all]
 refine loop_up ls.length (fun k σ l => σ 2 = .ptr 0 0 32 ∧ σ 4 = .ptr 1 0 10 ∧ σ 16 = encL (some ls) ∧ σ 17 = .int .i64 ls.length ∧ σ 18 = .int .i64 k ∧ ∃ m, InvM m (bytesOf (ls.take k)) ∧ l = [.cells 32 (rep 32 (.int .u8 0)), .cells 10 (millC m.st (encBs m.rest) m.n)]) ?_ ?_
 ·rintro k σ l hk ⟨g2, g4, g16, g17, g18, m, hm, rfl⟩
  obtain ⟨σ, rfl⟩ := upds5 g2 g4 g16 g17 g18
  clear g2 g4 g16 g17 g18
  unfold l205_0
  simp
  have hcm : (CV.ag (millC m.st (encBs m.rest) m.n)).closed = true := by simp [CV.closed, closedL, millC, St.l, closed_Bs]
  have htk : List.take 10 (millC m.st (encBs m.rest) m.n) = millC m.st (encBs m.rest) m.n := rfl
  have hrl := invM_rest hm
  have hmn := hm.n
  have hlk := hlen k
  by_cases h : k < ls.length
  ·obtain ⟨s, hs, hsm⟩ := get_of h
   have hia : iaC (.sl 1) (encL (some ls)) (.int .i64 k) = some (.rptr [encBs s] 0) := by
    rw [ia_encS]; simp [hs]
   have hwk : IntKind.i64.wrap ((k : Int) + 1) = k + 1 := wrap_i64 (by omega) (by omega)
   have h1 := hno s hsm
   have hf := feed_ok m s (by omega) (by omega) (by omega)
   have hm2 := invM_feed hm s
   rw [← bytesOf_take ls k s hs] at hm2
   obtain ⟨F, hF⟩ : ∃ F, F = feedM m s := ⟨_, rfl⟩
   rw [← hF] at hf hm2
   simp [h, hia, millC_len, htk]
   refine pure_call hf.toC ?_ ?_
   ·simp only [closedL, hcm, closed_Bs, Bool.and_self]
   simp [encM, millC_len, splice_all, h, hwk]
   exact ⟨F, hm2, rfl⟩
  ·have hkl : k = ls.length := by omega
   subst hkl
   rw [List.take_length] at hm hmn hlk
   have he := end_ok m.st m.rest (bytesOf ls).length (by omega) (by omega)
   rw [invM_end hm] at he
   have hmm : m = ⟨m.st, m.rest, ((bytesOf ls).length : Int)⟩ := by rw [← hmn]
   rw [← hmm] at he
   have hsl := sha_length (bytesOf ls)
   simp [h, millC_len, htk]
   refine pure_call he ?_ ?_
   ·simp only [closedL, hcm, Bool.and_self]
   have hil : ((sha (bytesOf ls)).map e8).length = 32 := by rw [List.length_map, hsl]
   simp [idC, hsl, splice_all, List.take_of_length_le]
   exact rd_eq rfl (by simp [CV.closed, closedL, closedL_map e8 (fun _ => rfl)])
 ·simp [bytesOf]
  exact ⟨start, invM_start, rfl⟩
theorem sum_ok (s : Bs) (h : s.l.length ≤ 10000) : PureC Tryz.prog GS 150 [encBs s] (.tu [idC (sha s.l), .int .i64 0]) := by
 have hb : bytesOf [s] = s.l := by simp [bytesOf]
 have hp := pieces_ok [s] (by simp) (by simpa using h)
 rw [hb] at hp
 refine pure_of Tryz.checked.mixed GS_closed ?_
 apply call_intro c150_eq r150_eq
 unfold c150 r150
 have hsl := sha_length s.l
 simp
 refine pure_callB hp (.cons ?_ .nil) (by simp [CV.flat, flatL, idC, flatL_map e8 (fun _ => rfl)]) ?_
 ·exact rdH_rows (es := [[encBs s]]) (rest := []) rfl rfl (by simp) (by simp [closedL, closed_Bs])
 simp [idC, hsl, splice_all, List.take_of_length_le]
 exact rd_eq rfl (by simp [CV.closed, closedL, closedL_map e8 (fun _ => rfl)])
theorem turn_ok (x : W) (n : Nat) (h0 : 0 < n) (h : n < 32) : PureC Tryz.prog GS 265 [e32 x, .int .i64 n] (e32 (rotr x n)) := by
 refine pure_of Tryz.checked.mixed GS_closed ?_
 apply call_intro c265_eq r265_eq
 unfold c265 r265
 have hw : IntKind.i64.wrap (32 - (n : Int)) = (32 - n : Nat) := by rw [wrap_i64 (by omega) (by omega)]; omega
 obtain ⟨m, hm⟩ : ∃ m, m = 32 - n := ⟨_, rfl⟩
 rw [← hm] at hw
 simp [hw]
 exact rd_eq (by unfold rotr; rw [hm]) rfl
def enc32 (x : W) : List CV := [e32 x]
theorem const_ok : PureN Tryz.prog GS 266 [] (encS 1 enc32 (some ks)) :=
 pureN_runs Tryz.checked.mixed GS_closed (noO_ok _ _) tbl_ok (fuel := 100) (k := 10) (by kernel_rfl)
theorem first_ok : PureC Tryz.prog GS 186 [] (.ag (first.l.map e32)) := by
 refine pure_of Tryz.checked.mixed GS_closed ?_
 apply call_intro c186_eq r186_eq
 unfold c186 r186
 simp
 exact rd_eq rfl rfl
theorem word4 (b : List B) (t : Nat) (b0 b1 b2 b3 : B) (h0 : b[4 * t]? = some b0) (h1 : b[4 * t + 1]? = some b1) (h2 : b[4 * t + 2]? = some b2) (h3 : b[4 * t + 3]? = some b3) :
  wd ((b.drop (4 * t)).take 4) = ((b0.setWidth 32 * 256#32 + b1.setWidth 32) * 256#32 + b2.setWidth 32) * 256#32 + b3.setWidth 32 := by
 have h : (b.drop (4 * t)).take 4 = [b0, b1, b2, b3] := by
  have hl := (List.getElem?_eq_some_iff.1 h3).1
  apply List.ext_getElem?
  intro i
  match i with
  | 0 => simp [h0]
  | 1 => simp [h1]
  | 2 => simp [h2]
  | 3 => simp [h3]
  | i + 4 => rw [List.getElem?_eq_none (by simp; omega), List.getElem?_eq_none (by simp)]
 rw [h]
 show ((((0#32 <<< 8 ||| b0.setWidth 32) <<< 8 ||| b1.setWidth 32) <<< 8 ||| b2.setWidth 32) <<< 8 ||| b3.setWidth 32) = _
 rw [shl_or, shl_or, shl_or, shl_or]
 simp
theorem view32 {l : Hl} {v : CV} {j : Nat} {ws : List W} (h : OwnS 1 l v j (ws.map enc32)) (hv : isNilS v = false) : ∃ (cap sz : Nat) (cs : List CV), v = .sl 1 j 0 ws.length cap sz ∧ l[j]? = some (.cells sz cs) ∧ ∀ (i : Nat) (x : W), ws[i]? = some x → cs[i]? = some (e32 x) := by
 obtain ⟨n, cap, sz, cs, h1, h2, h3, h4, h5, h6, _⟩ := h.view hv
 rw [List.length_map] at h4
 subst h4
 refine ⟨cap, sz, cs, h1, h2, fun i x hx => ?_⟩
 have := h6 i (enc32 x) (by rw [List.getElem?_map, hx]; rfl) 0 (by omega)
 simpa [enc32] using this
theorem words16_take_succ (b : List B) (k : Nat) (hk : k < 16) : (words16 b).take (k + 1) = (words16 b).take k ++ [wd ((b.drop (4 * k)).take 4)] := by
 have : (words16 b)[k]? = some (wd ((b.drop (4 * k)).take 4)) := by unfold words16; rw [List.getElem?_map, List.getElem?_range hk]; rfl
 rw [List.take_add_one, this]; rfl
theorem words16_len (b : List B) : (words16 b).length = 16 := by simp [words16]
theorem extL_len (k : Nat) (b : List B) : (extN k (words16 b)).length = 16 + k := by simp [extN_length, words16]
set_option maxHeartbeats 16000000 in
theorem ground_ok (h : St) (b : List B) (hb : 64 ≤ b.length) : PureC Tryz.prog GS 231 [.ag (h.l.map e32), encBs (some b)] (.ag ((grind h b).l.map e32)) := by
 have hr0 : roomMax = 140737488355328 := rfl
 have hh8 : (h.l.map e32).length = 8 := rfl
 refine pure_of Tryz.checked.mixed GS_closed ?_
 apply call_intro c231_eq r231_eq
 unfold c231 r231
 simp [hh8]
 refine loop_up 16 (fun k σ l => σ 1 = encBs (some b) ∧ σ 2 = .ptr 0 0 8 ∧ σ 4 = .ptr 1 0 8 ∧ σ 6 = .int .i64 k ∧ ∃ v j zs rest, σ 5 = v ∧ (isNilS v = true → k = 0) ∧ (v = .nilS ∨ 2 ≤ j) ∧ OwnS 1 l v j (((words16 b).take k).map enc32) ∧ l = .cells 8 (h.l.map e32) :: .cells 8 zs :: rest ∧ zs.length = 8) ?_ ?_
 ·rintro k σ l hk ⟨g1, g2, g4, g6, v, j, zs, rest, g5, hv, hj, ho, rfl, hzs⟩
  obtain ⟨σ, rfl⟩ := upds5 g1 g2 g4 g5 g6
  clear g1 g2 g4 g5 g6
  unfold l231_0
  by_cases hk16 : (k : Int) < 16
  ·have hk' : k < 16 := by omega
   obtain ⟨a, ha⟩ : ∃ a, a = 4 * k := ⟨_, rfl⟩
   have w0 : IntKind.i64.wrap (4 * (k : Int)) = (a : Nat) := by rw [wrap_i64 (by omega) (by omega)]; omega
   obtain ⟨a1, ha1⟩ : ∃ x, x = a + 1 := ⟨_, rfl⟩
   obtain ⟨a2, ha2⟩ : ∃ x, x = a + 2 := ⟨_, rfl⟩
   obtain ⟨a3, ha3⟩ : ∃ x, x = a + 3 := ⟨_, rfl⟩
   have w1 : IntKind.i64.wrap ((a : Int) + 1) = a1 := by rw [wrap_i64 (by omega) (by omega)]; omega
   have w2 : IntKind.i64.wrap ((a : Int) + 2) = a2 := by rw [wrap_i64 (by omega) (by omega)]; omega
   have w3 : IntKind.i64.wrap ((a : Int) + 3) = a3 := by rw [wrap_i64 (by omega) (by omega)]; omega
   have wk : IntKind.i64.wrap ((k : Int) + 1) = k + 1 := wrap_i64 (by omega) (by omega)
   obtain ⟨b0, hb0⟩ : ∃ x, b[a]? = some x := ⟨_, List.getElem?_eq_getElem (by omega)⟩
   obtain ⟨b1, hb1⟩ : ∃ x, b[a1]? = some x := ⟨_, List.getElem?_eq_getElem (by omega)⟩
   obtain ⟨b2, hb2⟩ : ∃ x, b[a2]? = some x := ⟨_, List.getElem?_eq_getElem (by omega)⟩
   obtain ⟨b3, hb3⟩ : ∃ x, b[a3]? = some x := ⟨_, List.getElem?_eq_getElem (by omega)⟩
   have hia : ∀ (i : Nat) (x : B), b[i]? = some x → iaC (.sl 1) (encBs (some b)) (.int .i64 i) = some (.rptr (enc8 x) 0) := fun i x hx => by rw [ia_encS]; simp [hx]
   have i0 := hia a b0 hb0
   have i1 := hia a1 b1 hb1
   have i2 := hia a2 b2 hb2
   have i3 := hia a3 b3 hb3
   have hwd := words16_take_succ b k hk'
   rw [word4 b k b0 b1 b2 b3 (by rw [← ha]; exact hb0) (by rw [← ha, ← ha1]; exact hb1) (by rw [← ha, ← ha2]; exact hb2) (by rw [← ha, ← ha3]; exact hb3)] at hwd
   obtain ⟨w, hw⟩ : ∃ w, w = ((b0.setWidth 32 * 256#32 + b1.setWidth 32) * 256#32 + b2.setWidth 32) * 256#32 + b3.setWidth 32 := ⟨_, rfl⟩
   rw [← hw] at hwd
   have ho2 : OwnS 1 ([.cells 8 (h.l.map e32), .cells 8 zs] ++ (rest ++ [CB.cells 1 [e32 w]])) v j (((words16 b).take k).map enc32) := ho.more [CB.cells 1 [e32 w]]
   have hlk : (((words16 b).take k).map enc32).length ≤ 16 := by simp; omega
   obtain ⟨v', j', r', h1, h2, h3, h4⟩ := app_pre (by_ := 4) ho2 hj (x := .sl 1 (rest.length + 2) 0 1 1 1) (xs := [enc32 w]) (by simp [contentsL, enc32]) (by simp [enc32]) (by omega) (by omega) (by rw [hr0]; simp; omega)
   have h2' : OwnS 1 (.cells 8 (h.l.map e32) :: .cells 8 zs :: r') v' j' (((words16 b).take (k + 1)).map enc32) := by rw [hwd, List.map_append]; exact h2
   simp only [List.cons_append, List.nil_append] at h1
   have hv' : isNilS v' = false := by rw [h4]; simp
   simp [hk16, w0, w1, w2, w3, i0, i1, i2, i3, enc8]
   rw [← hw]
   simp [h1]
   refine AppK.keep ?_
   simp [hk16, wk, hk']
   exact ⟨hv', j', h3, by rw [← List.map_take]; exact h2', hzs⟩
  ·have hk' : k = 16 := by omega
   subst hk'
   have hv0 : isNilS v = false := by
    cases hvv : isNilS v with
    | false => rfl
    | true => exact absurd (hv hvv) (by omega)
   have hj2 : 2 ≤ j := by
    rcases hj with h | h
    ·subst h; cases hv0
    ·exact h
   have ho16 : OwnS 1 (.cells 8 (h.l.map e32) :: .cells 8 zs :: rest) v j ((words16 b).map enc32) := by
    have : (words16 b).take 16 = words16 b := List.take_of_length_le (by rw [words16_len]; omega)
    rw [this] at ho; exact ho
   clear hv hj ho
   simp
   refine loop_up 48 (fun k σ l => σ 2 = .ptr 0 0 8 ∧ σ 4 = .ptr 1 0 8 ∧ σ 7 = .int .i64 (16 + k : Nat) ∧ ∃ v j zs rest, σ 5 = v ∧ isNilS v = false ∧ 2 ≤ j ∧ OwnS 1 l v j ((extN k (words16 b)).map enc32) ∧ l = .cells 8 (h.l.map e32) :: .cells 8 zs :: rest ∧ zs.length = 8) ?_ ?_
   ·rintro k σ l hk ⟨g2, g4, g7, v, j, zs, rest, g5, hv, hj, ho, rfl, hzs⟩
    obtain ⟨σ, rfl⟩ := upds4 g2 g4 g5 g7
    clear g2 g4 g5 g7
    unfold l231_1
    obtain ⟨t, ht⟩ : ∃ t, t = 16 + k := ⟨_, rfl⟩
    rw [← ht]
    by_cases hk64 : (t : Int) < 64
    ·have hw1 : IntKind.i64.wrap ((t : Int) + 1) = (t + 1 : Nat) := wrap_i64 (by omega) (by omega)
     have hl := extL_len k b
     obtain ⟨i15, e15⟩ : ∃ i, i = t - 15 := ⟨_, rfl⟩
     obtain ⟨i2, e2⟩ : ∃ i, i = t - 2 := ⟨_, rfl⟩
     obtain ⟨i16, e16⟩ : ∃ i, i = t - 16 := ⟨_, rfl⟩
     obtain ⟨i7, e7⟩ : ∃ i, i = t - 7 := ⟨_, rfl⟩
     have w15 : IntKind.i64.wrap ((t : Int) - 15) = i15 := by rw [wrap_i64 (by omega) (by omega)]; omega
     have w2 : IntKind.i64.wrap ((t : Int) - 2) = i2 := by rw [wrap_i64 (by omega) (by omega)]; omega
     have w16 : IntKind.i64.wrap ((t : Int) - 16) = i16 := by rw [wrap_i64 (by omega) (by omega)]; omega
     have w7 : IntKind.i64.wrap ((t : Int) - 7) = i7 := by rw [wrap_i64 (by omega) (by omega)]; omega
     obtain ⟨ws, hws⟩ : ∃ ws, ws = extN k (words16 b) := ⟨_, rfl⟩
     have hsucc := extN_succ k (words16 b)
     rw [← hws] at hl ho hsucc
     have hwl : ws.length = t := by omega
     unfold ext at hsucc
     dsimp only at hsucc
     rw [hwl, ← e15, ← e2, ← e16, ← e7] at hsucc
     have gg : ∀ i, i < t → ws[i]? = some (ws.getD i 0#32) := fun i hi => by rw [List.getD_eq_getElem?_getD, List.getElem?_eq_getElem (by omega)]; rfl
     obtain ⟨x, hx⟩ : ∃ x, x = ws.getD i15 0#32 := ⟨_, rfl⟩
     obtain ⟨y, hy⟩ : ∃ y, y = ws.getD i2 0#32 := ⟨_, rfl⟩
     obtain ⟨x16, hx16⟩ : ∃ y, y = ws.getD i16 0#32 := ⟨_, rfl⟩
     obtain ⟨x7, hx7⟩ : ∃ y, y = ws.getD i7 0#32 := ⟨_, rfl⟩
     rw [← hx, ← hy, ← hx16, ← hx7] at hsucc
     obtain ⟨cap, sz, cs, rfl, hlj, hcs⟩ := view32 ho hv
     have c15 := hcs i15 x (by rw [hx]; exact gg i15 (by omega))
     have c2 := hcs i2 y (by rw [hy]; exact gg i2 (by omega))
     have c16 := hcs i16 x16 (by rw [hx16]; exact gg i16 (by omega))
     have c7 := hcs i7 x7 (by rw [hx7]; exact gg i7 (by omega))
     obtain ⟨w, hw⟩ : ∃ w, w = x16 + x7 + (rotr x 7 ^^^ rotr x 18 ^^^ x >>> 3) + (rotr y 17 ^^^ rotr y 19 ^^^ y >>> 10) := ⟨_, rfl⟩
     rw [← hw] at hsucc
     have ho2 : OwnS 1 ([.cells 8 (h.l.map e32), .cells 8 zs] ++ (rest ++ [CB.cells 1 [e32 w]])) _ j (ws.map enc32) := ho.more [CB.cells 1 [e32 w]]
     obtain ⟨v', j', r', h1, h2, h3, h4⟩ := app_pre (by_ := 4) ho2 (.inr hj) (x := .sl 1 (rest.length + 2) 0 1 1 1) (xs := [enc32 w]) (by simp [contentsL, enc32]) (by simp [enc32]) (by omega) (by omega) (by rw [hr0]; simp; omega)
     have h2' : OwnS 1 (.cells 8 (h.l.map e32) :: .cells 8 zs :: r') v' j' ((extN (k + 1) (words16 b)).map enc32) := by rw [hsucc, List.map_append]; exact h2
     simp only [List.cons_append, List.nil_append] at h1
     have hv' : isNilS v' = false := by rw [h4]; rfl
     obtain ⟨jj, rfl⟩ : ∃ jj, j = jj + 2 := ⟨j - 2, by omega⟩
     have hlj' : rest[jj]? = some (.cells sz cs) := by simpa using hlj
     have hlj2 : (rest ++ [CB.cells 1 [e32 w]])[jj]? = some (.cells sz cs) := by rw [List.getElem?_append_left (get_lt hlj')]; exact hlj'
     have b15 : i15 < ws.length := by omega
     have b2 : i2 < ws.length := by omega
     have b16 : i16 < ws.length := by omega
     have b7 : i7 < ws.length := by omega
     have t7 := turn_ok x 7 (by omega) (by omega)
     have t18 := turn_ok x 18 (by omega) (by omega)
     have t17 := turn_ok y 17 (by omega) (by omega)
     have t19 := turn_ok y 19 (by omega) (by omega)
     simp at t7 t18 t17 t19
     simp [hk64, w15, w2, w16, w7, b15, b2, b16, b7, hlj', c15, c2, c16, c7]
     refine pure_call t7 rfl ?_
     simp [hlj', c16, c7]
     refine pure_call t18 rfl ?_
     simp [hlj', c16, c7]
     refine pure_call t17 rfl ?_
     simp [hlj', c16, c7]
     refine pure_call t19 rfl ?_
     simp [hlj', c16, c7]
     rw [← hw]
     simp [h1]
     refine AppK.keep ?_
     simp [hw1]
     exact ⟨by omega, by omega, hv', j', h3.resolve_left (by intro e; subst e; cases hv'), h2', hzs⟩
    ·have hk' : k = 48 := by omega
     subst hk'
     subst ht
     have hsch : extN 48 (words16 b) = sched b := rfl
     rw [hsch] at ho
     obtain ⟨cap, sz, cs, rfl, hlj, hcs⟩ := view32 ho hv
     obtain ⟨jj, rfl⟩ : ∃ jj, j = jj + 2 := ⟨j - 2, by omega⟩
     have hlj' : rest[jj]? = some (.cells sz cs) := by simpa using hlj
     have hsl := sched_length b
     rw [hsl]
     clear ho hv hj hlj
     simp
     refine pure_call const_ok.toC rfl ?_
     have hl8 : h.l.length = 8 := rfl
     simp [splice_all, hl8]
     refine loop_up 64 (fun k σ l => σ 2 = .ptr 0 0 8 ∧ σ 4 = .ptr 1 0 8 ∧ σ 5 = .sl 1 (jj + 2) 0 64 cap sz ∧ σ 10 = encS 1 enc32 (some ks) ∧ σ 11 = .ptr (rest.length + 2) 0 8 ∧ σ 12 = .int .i64 k ∧ l = .cells 8 (h.l.map e32) :: .cells 8 zs :: (rest ++ [.cells 8 ((rAt h b k).l.map e32)])) ?_ ?_
     ·rintro k σ l hk ⟨g2, g4, g5, g10, g11, g12, rfl⟩
      obtain ⟨σ, rfl⟩ := upds6 g2 g4 g5 g10 g11 g12
      clear g2 g4 g5 g10 g11 g12
      unfold l231_2
      have hjl := get_lt hlj'
      have hlj2 : ∀ x : CB, (rest ++ [x])[jj]? = some (.cells sz cs) := fun x => by rw [List.getElem?_append_left hjl]; exact hlj'
      by_cases hk64 : (k : Int) < 64
      ·have hkn : k < 64 := by omega
       have hwk : IntKind.i64.wrap ((k : Int) + 1) = (k + 1 : Nat) := wrap_i64 (by omega) (by omega)
       have hkk : ks[k]? = some (ks.getD k 0#32) := by rw [List.getD_eq_getElem?_getD, List.getElem?_eq_getElem (show k < ks.length from hkn)]; rfl
       have hsk := hcs k ((sched b).getD k 0#32) (by rw [List.getD_eq_getElem?_getD, List.getElem?_eq_getElem (by omega)]; rfl)
       rw [rAt_succ h b k hkn]
       obtain ⟨wk, hw⟩ : ∃ wk, (sched b).getD k 0#32 = wk := ⟨_, rfl⟩
       obtain ⟨kk, hkv⟩ : ∃ kk, ks.getD k 0#32 = kk := ⟨_, rfl⟩
       obtain ⟨s, hs⟩ : ∃ s, rAt h b k = s := ⟨_, rfl⟩
       rw [hw] at hsk ⊢
       rw [hkv] at hkk ⊢
       rw [hs]
       have ik : iaC (.sl 1) (encS 1 enc32 (some ks)) (.int .i64 k) = some (.rptr (enc32 kk) 0) := by rw [ia_encS]; simp [hkk]
       have t6 := turn_ok s.e 6 (by omega) (by omega)
       have t11 := turn_ok s.e 11 (by omega) (by omega)
       have t25 := turn_ok s.e 25 (by omega) (by omega)
       have t2 := turn_ok s.a 2 (by omega) (by omega)
       have t13 := turn_ok s.a 13 (by omega) (by omega)
       have t22 := turn_ok s.a 22 (by omega) (by omega)
       simp at t6 t11 t25 t2 t13 t22
       have hs8 : s.l = [s.a, s.b, s.c, s.d, s.e, s.f, s.g, s.h] := rfl
       have hr8 : (round s kk wk).l = [(round s kk wk).a, (round s kk wk).b, (round s kk wk).c, (round s kk wk).d, (round s kk wk).e, (round s kk wk).f, (round s kk wk).g, (round s kk wk).h] := rfl
       simp [hk64, hs8, ik, enc32, hlj2, hsk]
       refine pure_call t6 rfl ?_
       simp [ik, enc32, hlj2, hsk]
       refine pure_call t11 rfl ?_
       simp [ik, enc32, hlj2, hsk]
       refine pure_call t25 rfl ?_
       simp [ik, enc32, hlj2, hsk]
       refine pure_call t2 rfl ?_
       simp [ik, enc32, hlj2, hsk]
       refine pure_call t13 rfl ?_
       simp [ik, enc32, hlj2, hsk]
       refine pure_call t22 rfl ?_
       simp [splice_all, hkn, hwk]
       rfl
      ·have hk' : k = 64 := by omega
       subst hk'
       rw [rAt_end]
       obtain ⟨v, hv⟩ : ∃ v, rounds h ks (sched b) = v := ⟨_, rfl⟩
       rw [hv]
       have hgr : grind h b = ⟨h.a + v.a, h.b + v.b, h.c + v.c, h.d + v.d, h.e + v.e, h.f + v.f, h.g + v.g, h.h + v.h⟩ := by unfold grind; rw [hv]
       have hlv : h.l.length = v.l.length := rfl
       have hl8 : h.l.length = 8 := rfl
       have hgl : (grind h b).l = accW h.l v.l 8 := by rw [hgr]; rfl
       rw [hgl]
       simp
       refine loop_up 8 (fun k σ l => σ 2 = .ptr 0 0 8 ∧ σ 4 = .ptr 1 0 8 ∧ σ 11 = .ptr (rest.length + 2) 0 8 ∧ σ 21 = .int .i64 k ∧ l = .cells 8 ((accW h.l v.l k).map e32) :: .cells 8 zs :: (rest ++ [.cells 8 (v.l.map e32)])) ?_ ?_
       ·rintro k σ l hk ⟨g2, g4, g11, g21, rfl⟩
        obtain ⟨σ, rfl⟩ := upds4 g2 g4 g11 g21
        clear g2 g4 g11 g21
        unfold l231_3
        by_cases hk8 : (k : Int) < 8
        ·have hk8' : k < 8 := by omega
         have hwk : IntKind.i64.wrap ((k : Int) + 1) = (k + 1 : Nat) := wrap_i64 (by omega) (by omega)
         obtain ⟨y, hy⟩ : ∃ y, v.l[k]? = some y := ⟨_, List.getElem?_eq_getElem (show k < v.l.length from hk8')⟩
         obtain ⟨z, hz⟩ : ∃ z, h.l[k]? = some z := ⟨_, List.getElem?_eq_getElem (show k < h.l.length from hk8')⟩
         have ha := accW_get hlv (k := k) (by rw [hl8]; exact hk8')
         rw [hz] at ha
         have hal := accW_len hlv k
         have hss := splice_set e32 (accW h.l v.l k) k (z + y) (by rw [hal, hl8]; exact hk8')
         rw [accW_set hlv hz hy] at hss
         have hgz : (List.map e32 (accW h.l v.l k))[k]? = some (e32 z) := by rw [List.getElem?_map, ha]; rfl
         have hk7 : k ≤ 7 := by omega
         obtain ⟨A, hA⟩ : ∃ A, A = (accW h.l v.l k).map e32 := ⟨_, rfl⟩
         have hAl : A.length = 8 := by rw [hA, List.length_map, hal, hl8]
         rw [← hA] at hgz hss ⊢
         obtain ⟨hAk, hgz'⟩ := List.getElem?_eq_some_iff.1 hgz
         simp [hk8, hk8', hwk, hgz', hy, hss, hAl, hk7]
        ·have hk' : k = 8 := by omega
         subst hk'
         have hal := accW_len hlv 8
         have ht8 : ∀ A : List CV, A.length = 8 → A.take 8 = A := fun A hA => List.take_of_length_le (by omega)
         obtain ⟨A, hA⟩ : ∃ A, A = (accW h.l v.l 8).map e32 := ⟨_, rfl⟩
         have hAl : A.length = 8 := by rw [hA, List.length_map, hal, hl8]
         have hAc : closedL A = true := by rw [hA]; exact closedL_map e32 (fun _ => rfl) _
         rw [← hA]
         simp [splice_all, hzs, hAl, ht8 A hAl]
         exact rd_eq rfl (by simp [CV.closed, hAc])
       ·simp [accW_zero]
     ·simp [rAt_zero]
      exact List.take_of_length_le (by simp [hl8])
   ·refine ⟨rfl, rfl, rfl, v, j, zs, rest, rfl, hv0, hj2, ho16, rfl, hzs⟩
 ·simp
  exact ⟨0, .nil 0⟩
def padTo (k : Nat) : List B := 128#8 :: List.replicate k 0#8
theorem padTo_succ (k : Nat) : padTo (k + 1) = padTo k ++ [0#8] := by simp [padTo, List.replicate_succ']
theorem padTo_len (k : Nat) : (padTo k).length = k + 1 := by simp [padTo]
set_option maxHeartbeats 8000000 in
theorem refTail_ok (n : Nat) (hn : n ≤ 100000000) : PureN Tryz.prog GS 187 [.int .i64 n] (encBs (some (tail n))) := by
 have hr0 : roomMax = 140737488355328 := rfl
 refine pureN_of Tryz.checked.mixed GS_closed ?_
 apply call_intro c187_eq r187_eq
 unfold c187 r187
 obtain ⟨m, hm⟩ : ∃ m, m = (119 - n % 64) % 64 := ⟨_, rfl⟩
 simp
 refine loop_up m (fun k σ l => σ 0 = .int .i64 n ∧ ∃ v j, σ 3 = v ∧ isNilS v = false ∧ OwnS 1 l v j ((padTo k).map enc8)) ?_ ?_
 ·rintro k σ l hk ⟨g0, v, j, g3, hv, ho⟩
  obtain ⟨σ, rfl⟩ := upds2 g0 g3
  clear g0 g3
  unfold l187_0
  have hlen := ho.len
  rw [List.length_map, padTo_len] at hlen
  obtain ⟨k1, hk1⟩ : ∃ k1, k1 = k + 1 := ⟨_, rfl⟩
  rw [← hk1] at hlen
  have hw1 : IntKind.i64.wrap ((n : Int) + (k1 : Int)) = (n + k1 : Nat) := wrap_i64 (by omega) (by omega)
  obtain ⟨q, hq⟩ : ∃ q, q = n + k1 := ⟨_, rfl⟩
  rw [← hq] at hw1
  have hw2 : IntKind.i64.wrap ((q : Int) + 8) = (q + 8 : Nat) := wrap_i64 (by omega) (by omega)
  obtain ⟨q8, hq8⟩ : ∃ q8, q8 = q + 8 := ⟨_, rfl⟩
  rw [← hq8] at hw2
  have hrem := brem_nat q8 64 (by omega)
  rw [show ((64 : Int).toNat) = 64 from rfl] at hrem
  obtain ⟨x, hx⟩ : ∃ x, x = q8 % 64 := ⟨_, rfl⟩
  rw [← hx] at hrem
  simp [hlen, hw1, hw2, hrem]
  by_cases hx0 : x = 0
  ·have hkm : k = m := by omega
   subst hkm
   have ht0 : padTo k = tailAt n 0 := by unfold padTo tailAt; rw [← hm]; simp
   rw [ht0] at ho
   clear hlen hw1 hw2 hrem
   simp [hx0]
   refine loop_up 8 (fun k σ l => σ 0 = .int .i64 n ∧ σ 4 = .int .i64 (7 - (k : Int)) ∧ ∃ v j, σ 3 = v ∧ isNilS v = false ∧ OwnS 1 l v j ((tailAt n k).map enc8)) ?_ ?_
   ·rintro k σ l hk ⟨g0, g4, v, j, g3, hv, ho⟩
    obtain ⟨σ, rfl⟩ := upds3 g0 g3 g4
    clear g0 g3 g4
    unfold l187_1
    obtain ⟨c, hc⟩ : ∃ c : Int, c = 7 - (k : Int) := ⟨_, rfl⟩
    rw [← hc]
    by_cases hk8 : 0 ≤ c
    ·have hk7 : k < 8 := by omega
     have hwc : IntKind.i64.wrap (c - 1) = 7 - ((k : Int) + 1) := by rw [wrap_i64 (by omega) (by omega)]; omega
     obtain ⟨d, hd⟩ : ∃ d, d = 8 * c := ⟨_, rfl⟩
     have hw8 : IntKind.i64.wrap (8 * c) = d := by rw [wrap_i64 (by omega) (by omega)]; omega
     have hd0 : 0 ≤ d := by omega
     have hdn : d.toNat = 56 - 8 * k := by omega
     have hx := bytes8_get (BitVec.ofNat 64 n * 8#64) k hk7
     have htl := tailAt_len n k
     obtain ⟨y, hy⟩ : ∃ y, y = (((BitVec.ofNat 64 n * 8#64) >>> (56 - 8 * k)).setWidth 8) := ⟨_, rfl⟩
     rw [← hy] at hx
     have ho2 : OwnS 1 (l ++ [CB.cells 1 [e8 y]]) v j ((tailAt n k).map enc8) := ho.more _
     obtain ⟨v', j', l', h1, h2, h3, h4, h5, h6⟩ := app_law (by_ := 1) ho2 (x := .sl 1 l.length 0 1 1 1) (xs := [[e8 y]]) (by simp [contentsL]) (by simp) (by omega) (by omega) (by simp; omega)
     have hv' : isNilS v' = false := by rw [isNil_app h6, hv]; rfl
     have h2' : OwnS 1 l' v' j' ((tailAt n (k + 1)).map enc8) := by rw [tailAt_succ n k y hx, List.map_append]; exact h2
     rw [BitVec.mul_comm] at hy
     simp only [e8] at h1
     simp [hk8, hw8, hd0, hdn]
     rw [← hy]
     simp [h1]
     refine AppK.keep ?_
     simp [hwc, hk7]
     exact ⟨hv', j', h2'⟩
    ·have hk' : k = 8 := by omega
     subst hk'
     simp [hk8]
     exact ho.rdN_enc (fun _ => rfl) (some (tail n)) hv rfl
   ·simp
    exact ⟨hv, _, ho⟩
  ·have htl := padTo_len k
   have ho2 : OwnS 1 (l ++ [CB.cells 1 [e8 0#8]]) v j ((padTo k).map enc8) := ho.more _
   obtain ⟨v', j', l', h1, h2, h3, h4, h5, h6⟩ := app_law (by_ := 1) ho2 (x := .sl 1 l.length 0 1 1 1) (xs := [[e8 0#8]]) (by simp [contentsL]) (by simp) (by omega) (by omega) (by simp; omega)
   have hv' : isNilS v' = false := by rw [isNil_app h6, hv]; rfl
   have h2' : OwnS 1 l' v' j' ((padTo (k + 1)).map enc8) := by rw [padTo_succ, List.map_append]; exact h2
   have hkm : k < m := by omega
   simp [e8] at h1
   simp [hx0, h1]
   refine AppK.keep ?_
   simp [hkm]
   exact ⟨hv', j', h2'⟩
 ·simp
  exact ⟨rfl, 0, .sl 0 1 1 1 [.int .u8 128] _ rfl rfl rfl (by intro e he; simp [padTo] at he; subst he; rfl) (Nat.le_refl _) (Nat.le_refl _) rfl⟩
set_option maxHeartbeats 8000000 in
theorem refBlocks_ok (h : St) (b : List B) (hb : b.length ≤ 100000000) : PureC Tryz.prog GS 185 [.ag (h.l.map e32), encBs (some b)] (.ag ((blocks h b).1.l.map e32)) := by
 refine pure_of Tryz.checked.mixed GS_closed ?_
 apply call_intro c185_eq r185_eq
 unfold c185 r185
 have ht8 : ∀ A : List CV, A.length = 8 → A.take 8 = A := fun A hA => List.take_of_length_le (by omega)
 have hh8 : ∀ s : St, (s.l.map e32).length = 8 := fun s => rfl
 obtain ⟨A0, hA0⟩ : ∃ A0, A0 = h.l.map e32 := ⟨_, rfl⟩
 have hA0l : A0.length = 8 := by rw [hA0]; rfl
 rw [← hA0]
 simp [hA0l]
 refine loop_up (b.length / 64) (fun k σ l => σ 1 = encBs (some b) ∧ σ 2 = .ptr 0 0 8 ∧ σ 4 = .ptr 1 0 8 ∧ σ 5 = .int .i64 (64 * k : Nat) ∧ ∃ s zs, blocks s (b.drop (64 * k)) = blocks h b ∧ l = [.cells 8 (s.l.map e32), .cells 8 zs] ∧ zs.length = 8) ?_ ?_
 ·rintro k σ l hk ⟨g1, g2, g4, g5, s, zs, hs, rfl, hzs⟩
  obtain ⟨σ, rfl⟩ := upds4 g1 g2 g4 g5
  clear g1 g2 g4 g5
  unfold l185_0
  obtain ⟨a, ha⟩ : ∃ a, a = 64 * k := ⟨_, rfl⟩
  rw [← ha] at hs ⊢
  obtain ⟨a1, ha1⟩ : ∃ a1, a1 = 64 * (k + 1) := ⟨_, rfl⟩
  rw [← ha1]
  obtain ⟨A, hA⟩ : ∃ A, A = s.l.map e32 := ⟨_, rfl⟩
  have hAl : A.length = 8 := by rw [hA]; rfl
  rw [← hA]
  have hw : IntKind.i64.wrap ((a : Int) + 64) = a1 := by rw [wrap_i64 (by omega) (by omega)]; omega
  by_cases hle : a1 ≤ b.length
  ·have hle' : (a1 : Int) ≤ b.length := by omega
   have hsl : sliceM (.sl 1) (encBs (some b)) (some (.int .i64 (a : Int))) (some (.int .i64 (a1 : Int))) none = some (encBs (some ((b.drop a).take 64))) := by
    unfold encBs; rw [slice_mid (by omega) (by omega) (by omega)]
    have : (a1 : Int).toNat - (a : Int).toNat = 64 := by omega
    rw [this, Int.toNat_natCast]
   have hbl : 64 ≤ ((b.drop a).take 64).length := by simp; omega
   have hgr := ground_ok s _ hbl
   have hgt : grind s ((b.drop a).take 64) = grind s (((b.drop a).take 64)) := rfl
   rw [← hA] at hgr
   have hst : blocks (grind s ((b.drop a).take 64)) (b.drop a1) = blocks h b := by
    rw [← hs, blocks_step s (b.drop a) (by simp; omega), List.drop_drop]
    congr 2; omega
   have hkn : k < b.length / 64 := by omega
   have hAc : closedL A = true := by rw [hA]; exact closedL_map e32 (fun _ => rfl) _
   obtain ⟨A', hA'⟩ : ∃ A', A' = (grind s ((b.drop a).take 64)).l.map e32 := ⟨_, rfl⟩
   have hAl' : A'.length = 8 := by rw [hA']; rfl
   rw [← hA'] at hgr
   simp [hw, hle, hle', hAl, ht8 A hAl, hsl]
   refine pure_call hgr (by simp [closedL, CV.closed, hAc, closed_Bs]) ?_
   simp [splice_all, hAl, hAl', hw, hkn]
   exact ⟨_, hst, zs, ⟨hA', rfl⟩, hzs⟩
  ·have hle' : ¬(a1 : Int) ≤ b.length := by omega
   have he := hs
   rw [blocks_end s (b.drop a) (by simp; omega)] at he
   rw [← he]
   have hAc : closedL A = true := by rw [hA]; exact closedL_map e32 (fun _ => rfl) _
   simp [hw, hle, hle', hAl, ht8 A hAl, splice_all, hzs]
   exact rd_eq (by rw [hA]) (by rw [hA] at hAc; simp [CV.closed, hAc])
 ·exact ⟨rfl, rfl, rfl, rfl, h, rep 8 (.int .u32 0), rfl, by rw [hA0]; rfl, rfl⟩
def outTo (s : St) (k : Nat) : List B := (written s).take k ++ List.replicate (32 - k) 0#8
theorem outTo_len (s : St) (k : Nat) (hk : k ≤ 32) : (outTo s k).length = 32 := by
 unfold outTo
 have := written_length s
 simp; omega
theorem outTo_set (s : St) (k : Nat) (x : B) (hx : (written s)[k]? = some x) : (outTo s k).set k x = outTo s (k + 1) := by
 have hk : k < 32 := (List.getElem?_eq_some_iff.1 hx).1
 unfold outTo
 have hl : (List.take k (written s)).length = k := by have := written_length s; simp; omega
 rw [List.set_append_right _ _ (by omega), hl, Nat.sub_self, List.take_add_one, hx, show 32 - k = (32 - (k + 1)) + 1 by omega, List.replicate_succ, List.set_cons_zero]
 simp
theorem written_get (s : St) (k : Nat) (hk : k < 32) : ∃ w, s.l[k / 4]? = some w ∧ (written s)[k]? = some ((w >>> (24 - 8 * (k % 4))).setWidth 8) := by
 have h0 : ∀ w : W, w = w >>> 0 := fun w => by simp
 obtain ⟨a, b, c, d, e, f, g, h⟩ := s
 have : ∀ (l : List W) (k : Nat), k < 4 * l.length → ∃ w, l[k / 4]? = some w ∧ (l.map wbytes).flatten[k]? = some ((w >>> (24 - 8 * (k % 4))).setWidth 8) := by
  intro l
  induction l with
  | nil => intro k hk; simp at hk
  | cons w l ih =>
   intro k hk
   match k, hk with
   | 0, _ => exact ⟨w, rfl, rfl⟩
   | 1, _ => exact ⟨w, rfl, rfl⟩
   | 2, _ => exact ⟨w, rfl, rfl⟩
   | 3, _ => refine ⟨w, rfl, ?_⟩; simp [wbytes]
   | k + 4, hk =>
    obtain ⟨y, h1, h2⟩ := ih k (by simp at hk; omega)
    refine ⟨y, ?_, ?_⟩
    ·rw [show (k + 4) / 4 = k / 4 + 1 by omega]; exact h1
    ·rw [show (k + 4) % 4 = k % 4 by omega]; exact h2
 exact this _ k (by simpa [St.l] using hk)
set_option maxHeartbeats 8000000 in
theorem refWritten_ok (s : St) : PureC Tryz.prog GS 184 [.ag (s.l.map e32)] (idC (written s)) := by
 refine pure_of Tryz.checked.mixed GS_closed ?_
 apply call_intro c184_eq r184_eq
 unfold c184 r184
 obtain ⟨A, hA⟩ : ∃ A, A = s.l.map e32 := ⟨_, rfl⟩
 have hAl : A.length = 8 := by rw [hA]; rfl
 rw [← hA]
 simp [hAl]
 refine loop_up 32 (fun k σ l => σ 1 = .ptr 0 0 8 ∧ σ 2 = .ptr 1 0 32 ∧ σ 3 = .ptr 2 0 32 ∧ σ 4 = .int .i64 k ∧ ∃ zs, l = [.cells 8 A, .cells 32 zs, .cells 32 ((outTo s k).map e8)] ∧ zs.length = 32) ?_ ?_
 ·rintro k σ l hk ⟨g1, g2, g3, g4, zs, rfl, hzs⟩
  obtain ⟨σ, rfl⟩ := upds4 g1 g2 g3 g4
  clear g1 g2 g3 g4
  unfold l184_0
  by_cases hk32 : (k : Int) < 32
  ·have hkn : k < 32 := by omega
   have hwk : IntKind.i64.wrap ((k : Int) + 1) = (k + 1 : Nat) := wrap_i64 (by omega) (by omega)
   have hquo := bquo_nat k 4 (by omega) (by omega)
   have hrem := brem_nat k 4 (by omega)
   rw [show ((4 : Int).toNat) = 4 from rfl] at hquo hrem
   obtain ⟨w, hw, hx⟩ := written_get s k hkn
   obtain ⟨q, hq⟩ : ∃ q, q = k / 4 := ⟨_, rfl⟩
   obtain ⟨r, hr⟩ : ∃ r, r = k % 4 := ⟨_, rfl⟩
   rw [← hq] at hquo hw
   rw [← hr] at hrem hx
   have hq8 : q < 8 := by omega
   obtain ⟨r8, hr8⟩ : ∃ r8, r8 = 8 * r := ⟨_, rfl⟩
   have hw8 : IntKind.i64.wrap (8 * (r : Int)) = r8 := by rw [wrap_i64 (by omega) (by omega)]; omega
   obtain ⟨r24, hr24⟩ : ∃ r24, r24 = 24 - r8 := ⟨_, rfl⟩
   have hw24 : IntKind.i64.wrap (24 - (r8 : Int)) = r24 := by rw [wrap_i64 (by omega) (by omega)]; omega
   have hset := outTo_set s k _ hx
   rw [← hr8, ← hr24] at hx hset
   have hol := outTo_len s k (by omega)
   have hss := splice_set e8 (outTo s k) k ((w >>> r24).setWidth 8) (by rw [hol]; exact hkn)
   rw [hset] at hss
   obtain ⟨O, hO⟩ : ∃ O, O = (outTo s k).map e8 := ⟨_, rfl⟩
   have hOl : O.length = 32 := by rw [hO, List.length_map, hol]
   rw [← hO] at hss ⊢
   have hAq : A[q]? = some (e32 w) := by rw [hA, List.getElem?_map, hw]; rfl
   obtain ⟨hAk, hAq'⟩ := List.getElem?_eq_some_iff.1 hAq
   have hq7 : q ≤ 7 := by omega
   have hk31 : k ≤ 31 := by omega
   have hq8' : (q : Int) < 8 := by omega
   simp [hk32, hkn, hwk, hquo, hrem, hw8, hw24, hAl, hq8, hAq', hOl, hss, hzs, hq7, hk31, hq8']
  ·have hk' : k = 32 := by omega
   subst hk'
   have ho : outTo s 32 = written s := by unfold outTo; rw [List.take_of_length_le (by rw [written_length]; omega)]; simp
   rw [ho]
   obtain ⟨O, hO⟩ : ∃ O, O = (written s).map e8 := ⟨_, rfl⟩
   have hOl : O.length = 32 := by rw [hO, List.length_map, written_length]
   have hOc : closedL O = true := by rw [hO]; exact closedL_map e8 (fun _ => rfl) _
   have ht : O.take 32 = O := List.take_of_length_le (by omega)
   unfold idC
   rw [← hO]
   simp [hOl, ht, splice_all, hzs]
   exact rd_eq rfl (by simp [CV.closed, hOc])
 ·refine ⟨rfl, rfl, rfl, rfl, _, rfl, rfl⟩
set_option maxHeartbeats 8000000 in
theorem refOf_ok (s : Bs) (hs : s.l.length ≤ 1000000) : PureC Tryz.prog GS 122 [encBs s] (idC (sha s.l)) := by
 have hr0 : roomMax = 140737488355328 := rfl
 refine pure_of Tryz.checked.mixed GS_closed ?_
 apply call_intro c122_eq r122_eq
 unfold c122 r122
 simp
 refine pure_call first_ok rfl ?_
 have o0 : OwnS 1 ([CB.cells 32 (rep 32 (CV.int IntKind.u8 0))] ++ [CB.cells 0 []]) (.sl 1 1 0 0 0 0) 1 [] := .sl 1 0 0 0 [] _ rfl rfl rfl (by simp) (Nat.le_refl _) (Nat.le_refl _) rfl
 obtain ⟨v, j, r, h1, h2, h3, h4⟩ := app_pre (by_ := 1) o0 (.inr (Nat.le_refl _)) (x := encBs s) (xs := s.l.map enc8) (by unfold encBs; rw [contents_encS, List.length_map]) (by intro e he; obtain ⟨x, _, rfl⟩ := List.mem_map.1 he; rfl) (by omega) (by omega) (by rw [hr0]; simp; omega)
 have hv : isNilS v = false := by rw [h4]; rfl
 simp only [List.nil_append, List.singleton_append] at h1 h2
 have hlen : lenM (.sl 1) (encBs s) = some (.int .i64 s.l.length) := len_encS _
 have htl := refTail_ok s.l.length (by omega)
 have htn : (tail s.l.length).length ≤ 80 := by rw [← tailAt_end]; exact tailAt_len _ _
 obtain ⟨v', j', r', k1, k2, k3, k4⟩ := app_pre (by_ := 1) (pre := [CB.cells 32 (rep 32 (CV.int IntKind.u8 0))]) h2 h3 (x := encBs (some (tail s.l.length))) (xs := (tail s.l.length).map enc8) (by unfold encBs; rw [contents_encS, List.length_map]; rfl) (by intro e he; obtain ⟨x, _, rfl⟩ := List.mem_map.1 he; rfl) (by omega) (by omega) (by rw [hr0]; simp; omega)
 have hv' : isNilS v' = false := by rw [k4, hv]; rfl
 rw [← List.map_append] at k2
 simp only [List.singleton_append] at k1 k2
 have hrd := k2.rdH_enc (fun _ => rfl) (some (s.l ++ tail s.l.length)) hv' rfl
 have hbl := refBlocks_ok first (s.l ++ tail s.l.length) (by simp; omega)
 have hwr := refWritten_ok (blocks first (s.l ++ tail s.l.length)).1
 have hsh : sha s.l = written (blocks first (s.l ++ tail s.l.length)).1 := rfl
 rw [← hsh] at hwr
 obtain ⟨F, hF⟩ : ∃ F, F = (blocks first (s.l ++ tail s.l.length)).1 := ⟨_, rfl⟩
 rw [← hF] at hbl hwr
 simp [h1]
 refine AppK.keep ?_
 simp [hlen]
 refine pure_call htl.toC rfl ?_
 simp [k1]
 refine AppK.keep ?_
 simp
 refine pure_callB hbl (.cons (.same _ ?_) (.cons hrd .nil)) (flat_agm e32 (fun _ => rfl) _) ?_
 ·simp [CV.closed, closedL_map e32 (fun _ => rfl)]
 simp
 refine pure_call hwr ?_ ?_
 ·simp [closedL, CV.closed, closedL_map e32 (fun _ => rfl)]
 have hsl := sha_length s.l
 simp [idC, hsl, splice_all, List.take_of_length_le]
 exact rd_eq rfl (by simp [CV.closed, closedL_map e8 (fun _ => rfl)])
end Sha
end Go.CM

namespace Go.CM
open Go Go.Proofs Go.RowKit
set_option maxRecDepth 100000
open Sha
def kInts : List Int := Sha.ks.map fun k => (k.toNat : Int)
theorem tblC_ints : tblC = kInts.map fun k => .int .u32 k := by unfold tblC kInts; rw [List.map_map]; rfl
theorem laid_glo {W : World} (h : laidMetH Tryz.prog [("braid/digest.constants", Go.Proofs.YtdjbnhgdhambnaaGreatDoor.Rows.laid_braid_digest_constants)] W) : ∀ g, VR0 W (fun _ => True) (GS g) (.pointer (some ⟨g, 0, none⟩)) := by
 intro g
 unfold GS
 split
 ·rename_i hb
  have := Nat.eq_of_beq_eq_true hb
  subst this
  rw [MakeChecks.laidMetH_plain _ _ _ (by kernel_rfl)] at h
  obtain ⟨ps, ⟨g0, t0, cs0, f0, p0, q0, hg0, ht0, hv0, hd0, _, _⟩, _, _⟩ := h
  have e1 : Tryz.prog.globalNamed "braid/digest.constants" = some 1 := by kernel_rfl
  have e2 : (Tryz.prog.globals[1]?).map (·.type) = some 333 := by kernel_rfl
  obtain rfl := Option.some.inj (e1.symm.trans hg0)
  obtain rfl := Option.some.inj (e2.symm.trans ht0)
  rw [tblC_ints]
  exact glo_u32 kInts e1 hv0 (n := 64) (e := 46) (by kernel_rfl) (by kernel_rfl) (by kernel_rfl) hd0 (by rfl)
 ·exact .bad _
end Go.CM

namespace Go.CM
open Go Go.Proofs
set_option maxRecDepth 100000
open Sha
def bOf : CV → Option B
 | .int .u8 (.ofNat n) => match Nat.ble n 255 with | true => some (BitVec.ofNat 8 n) | false => none
 | _ => none
theorem bOf_ok {c : CV} {b : B} (h : bOf c = some b) : c = e8 b := by
 unfold bOf at h
 split at h
 ·split at h
  ·rename_i n _ hn
   have := Nat.le_of_ble_eq_true hn
   cases h
   simp only [e8, u, BitVec.toNat_ofNat]
   congr 1
   show (n : Int) = ((n % 2 ^ 8 : Nat) : Int)
   rw [Nat.mod_eq_of_lt (show n < 2 ^ 8 by omega)]
  ·cases h
 ·cases h
def rowsOf : List (List CV) → Option (List B)
 | [] => some []
 | [c] :: r => match bOf c with
  | some b => match rowsOf r with | some l => some (b :: l) | none => none
  | none => none
 | _ => none
theorem rowsOf_ok : ∀ {es : List (List CV)} {l : List B}, rowsOf es = some l → es = l.map enc8
 | [], l, h => by cases h; rfl
 | e :: r, l, h => by
  unfold rowsOf at h
  split at h
  ·rename_i e1; cases e1
  ·rename_i c r' e1
   cases e1
   split at h
   ·rename_i b hb
    split at h
    ·rename_i l' hl
     cases h
     rw [bOf_ok hb, rowsOf_ok hl]; rfl
    ·cases h
   ·cases h
  ·cases h
def bytOf : CV → Option Bs
 | .nilS => some none
 | .rsl 1 es => match rowsOf es with | some l => some (some l) | none => none
 | _ => none
theorem bytOf_ok {c : CV} {s : Bs} (h : bytOf c = some s) : c = encBs s := by
 unfold bytOf at h
 split at h
 ·cases h; rfl
 ·split at h
  ·rename_i l hl
   cases h
   rw [rowsOf_ok hl]; rfl
  ·cases h
 ·cases h
def sumF : List CV → Option CV
 | [c] => match bytOf c with
  | some s => match Nat.ble s.l.length 10000 with | true => some (.tu [idC (sha s.l), .int .i64 0]) | false => none
  | none => none
 | _ => none
abbrev sumO : FuncId × Bool × (List CV → Option CV) := (150, false, sumF)
theorem sumO_ok : OrcP Tryz.prog GS sumO := by
 intro args r h
 refine ⟨?_, fun h => by cases h⟩
 simp only [sumF] at h
 split at h
 ·split at h
  ·rename_i c s hs
   split at h
   ·rename_i hn
    cases h
    rw [bytOf_ok hs]
    exact sum_ok s (Nat.le_of_ble_eq_true hn)
   ·cases h
  ·cases h
 ·cases h
def refOfF : List CV → Option CV
 | [c] => match bytOf c with
  | some s => match Nat.ble s.l.length 1000000 with | true => some (idC (sha s.l)) | false => none
  | none => none
 | _ => none
abbrev refOfO : FuncId × Bool × (List CV → Option CV) := (122, false, refOfF)
theorem refOfO_ok : OrcP Tryz.prog GS refOfO := by
 intro args r h
 refine ⟨?_, fun h => by cases h⟩
 simp only [refOfF] at h
 split at h
 ·split at h
  ·rename_i c s hs
   split at h
   ·rename_i hn
    cases h
    rw [bytOf_ok hs]
    exact refOf_ok s (Nat.le_of_ble_eq_true hn)
   ·cases h
  ·cases h
 ·cases h
end Go.CM

namespace Go.CM
open Go Go.Proofs Go.Shelf Go.RowKit Go.Lib
set_option maxRecDepth 100000
set_option maxHeartbeats 4000000
theorem ins_fin158 (base : Option Addr) (n c vc vb voff : Nat) (r : Value) (w w' : World) (hn : n ≤ c) (h62 : n ≤ 4611686018427387904) (hnil : base = none → n = 0 ∧ c = 0)
  (hrun : (Builtin.append_ #[23, 23] 23 #[.slice base n c, .slice (some ⟨vb, voff, none⟩) 1 vc]).run Tryz.prog w = .ok r w') :
  Calls Tryz.prog 158 #[.slice base n c, .int .i64 n, .slice (some ⟨vb, voff, none⟩) 1 vc] w fun e w2 => e = .returned r ∧ w2 = w' := by
 have u0 := Tryz.underlying23
 have mixed := Tryz.checked.mixed
 go_enter Tryz.func158, Tryz.ntmps158
 cases base with
 | none =>
  obtain ⟨h0, h1⟩ := hnil rfl
  subst h0 h1
  go_wp2_with (at_builtin; refine Lib.wpList_append_run _ rfl _ _ _ _ rfl _ _ rfl rfl _ _ hrun ?_)
  go_ret
  exact ⟨rfl, rfl⟩
 | some a =>
  obtain ⟨ab, ao, asp⟩ := a
  go_wp2_with (at_builtin; refine Lib.wpList_append_run _ rfl _ _ _ _ rfl _ _ rfl rfl _ _ hrun ?_)
  all_goals (go_ret; exact ⟨rfl, rfl⟩)
theorem ins_shift158 (b off n c i vb voff vc : Nat) (k1 k2 : Value) (w W1 W2 : World) (tA tB : TypeId) (kA kB : Nat) (hi : i < n) (hroom : n + 1 ≤ c) (h62 : n ≤ 4611686018427387904) (hvb : vb ≠ b)
  (hsa : w.shape? vb = some (tA, kA)) (hsb : w.shape? b = some (tB, kB)) (hkB : kB ≠ 0) (hfa : w.frozen? ⟨vb, voff, none⟩ = false) (hfe : w.frozen? ⟨vb, kA, none⟩ = false)
  (hcp1 : (Builtin.copy_ #[23, 23] 3 #[.slice (some ⟨b, off + (i + 1) * 32, none⟩) (n - i) (c - (i + 1)), .slice (some ⟨b, off + i * 32, none⟩) (n + 1 - i) (c - i)]).run Tryz.prog w.drew = .ok k1 W1)
  (hcp2 : (Builtin.copy_ #[23, 23] 3 #[.slice (some ⟨b, off + i * 32, none⟩) (n + 1 - i) (c - i), .slice (some ⟨vb, voff, none⟩) 1 vc]).run Tryz.prog W1 = .ok k2 W2) :
  Calls Tryz.prog 158 #[.slice (some ⟨b, off, none⟩) n c, .int .i64 i, .slice (some ⟨vb, voff, none⟩) 1 vc] w fun e w2 => e = .returned (.slice (some ⟨b, off, none⟩) (n + 1) c) ∧ w2 = W2 := by
 have u0 := Tryz.underlying23
 have z0 : ∀ w, (Go.sizeOf 57).run Tryz.prog w = .ok 32 w := fun w => run_sizeOf' (by kernel_rfl)
 have mixed := Tryz.checked.mixed
 have hov : ∀ lb cb, (callFunc 209 #[.slice (some ⟨vb, voff, none⟩) 1 vc, .slice (some ⟨b, off + (i + 1) * 32, none⟩) lb cb]).run Tryz.prog w = .ok (.value (.bool false)) w := fun lb cb => by
  rw [run_callFunc_extern Tryz.func209 (by kernel_rfl) (by kernel_rfl) (by kernel_rfl) (e := Extern.SlicesOverlaps.overlaps #[23, 23] #[4]) (by kernel_rfl),
   Lib.run_overlaps_apart w 23 4 57 u0 32 z0 ⟨vb, voff, none⟩ ⟨b, off + (i + 1) * 32, none⟩ 1 vc lb cb hvb tA tB kA kB hsa hsb hkB hfa hfe]
  rfl
 have hz2 : ¬ ((i : Int) = (n : Int)) := by omega
 have hw1 : IntKind.i64.wrap ((i : Int) + 1) = (i : Int) + 1 := by rw [IntKind.wrap_i64]; omega
 have hw2 : IntKind.i64.wrap ((n : Int) + 1) = (n : Int) + 1 := by rw [IntKind.wrap_i64]; omega
 have hb1 : (0 : Int) ≤ (i : Int) + 1 := by omega
 have hin : i ≤ n := by omega
 have htn : ((i : Int) + 1).toNat = i + 1 := by omega
 have hb2 : ¬ (c = i + 1) := by omega
 have hb3 : (i : Int) ≤ (n : Int) + 1 := by omega
 have hb4 : ¬ (c = i) := by omega
 have hb5 : ¬ ((c : Int) < (n : Int) + 1) := by omega
 go_enter Tryz.func158, Tryz.ntmps158
 go_wp2_with (simp only [hov])
 go_region_law_o (refine step_copy_runI rfl _ _ 23 23 rfl _ _ (by simp [Act.eval, Act.put]) (by simp [Act.eval, Act.put]) hcp1 ?_)
 go_wp2_with (at_builtin; refine wpList_copy_runI _ rfl _ _ 23 23 rfl _ _ rfl rfl hcp2 ?_)
 go_ret
 exact ⟨rfl, rfl⟩
theorem ins_grow158 (b off n c i vb voff vc N G : Nat) (k1 k2 : Value) (w W0 W1 W2 : World) (hi : i < n) (hnc : n ≤ c) (hroom : c < n + 1) (hG : n + 1 ≤ G) (h62 : n ≤ 4611686018427387904)
  (happ : (Builtin.append_ #[23, 3] 23 #[.slice (some ⟨b, off, none⟩) i c, .int .i64 ((n : Int) + 1 - (i : Int))]).run Tryz.prog w = .ok (.slice (some ⟨N, 0, none⟩) (n + 1) G) W0)
  (hcp1 : (Builtin.copy_ #[23, 23] 3 #[.slice (some ⟨N, i * 32, none⟩) (n + 1 - i) (G - i), .slice (some ⟨vb, voff, none⟩) 1 vc]).run Tryz.prog W0 = .ok k1 W1)
  (hcp2 : (Builtin.copy_ #[23, 23] 3 #[.slice (some ⟨N, (i + 1) * 32, none⟩) (n - i) (G - (i + 1)), .slice (some ⟨b, off + i * 32, none⟩) (n - i) (c - i)]).run Tryz.prog W1.drew = .ok k2 W2) :
  Calls Tryz.prog 158 #[.slice (some ⟨b, off, none⟩) n c, .int .i64 i, .slice (some ⟨vb, voff, none⟩) 1 vc] w fun e w2 => e = .returned (.slice (some ⟨N, 0, none⟩) (n + 1) G) ∧ w2 = W2 := by
 have u0 := Tryz.underlying23
 have z0 : ∀ w, (Go.sizeOf 57).run Tryz.prog w = .ok 32 w := fun w => run_sizeOf' (by kernel_rfl)
 have mixed := Tryz.checked.mixed
 have hz2 : ¬ ((i : Int) = (n : Int)) := by omega
 have hw1 : IntKind.i64.wrap ((i : Int) + 1) = (i : Int) + 1 := by rw [IntKind.wrap_i64]; omega
 have hw2 : IntKind.i64.wrap ((n : Int) + 1) = (n : Int) + 1 := by rw [IntKind.wrap_i64]; omega
 have hw3 : IntKind.i64.wrap ((n : Int) + 1 - (i : Int)) = (n : Int) + 1 - (i : Int) := by rw [IntKind.wrap_i64]; omega
 have hb1 : (0 : Int) ≤ (i : Int) + 1 := by omega
 have hin : i ≤ n := by omega
 have htn : ((i : Int) + 1).toNat = i + 1 := by omega
 have hGi : ¬ (G = i) := by omega
 have hGim : ¬ (G = i + 1) := by omega
 have hci : ¬ (c = i) := by omega
 have hz3 : (c : Int) < (n : Int) + 1 := by omega
 have hb3 : (i : Int) ≤ (n : Int) := by omega
 have hb6 : (i : Int) ≤ (c : Int) := by omega
 go_enter Tryz.func158, Tryz.ntmps158
 go_wp2_with (first
  | (at_builtin; refine Lib.wpList_append_run _ rfl _ _ _ _ rfl _ _ rfl rfl _ _ happ ?_)
  | (at_builtin; refine wpList_copy_runI _ rfl _ _ 23 23 rfl _ _ rfl rfl hcp1 ?_))
 go_region_law_o (refine step_copy_runI rfl _ _ 23 23 rfl _ _ (by simp [Act.eval, Act.put]) (by simp [Act.eval, Act.put]) hcp2 ?_)
 go_wp2
 go_ret
 exact ⟨rfl, rfl⟩
theorem insL158 : InsL Tryz.prog 158 23 3 57 32 :=
 ⟨Tryz.underlying23, Tryz.underlying3, ins_fin158, ins_shift158, ins_grow158⟩
theorem insH158 {G : Nat → CV} (args : List CV) (h : Hp) (r : CV) (h' : Hp) (hx : insH 32 32 args h = some (r, h')) : CallS Tryz.prog G 158 args h r h' :=
 insH_ok insL158 (by kernel_rfl) (by kernel_rfl) (by kernel_rfl) (by omega) (by omega) (by kernel_rfl) args h r h' hx
theorem ins_fin159 (base : Option Addr) (n c vc vb voff : Nat) (r : Value) (w w' : World) (hn : n ≤ c) (h62 : n ≤ 4611686018427387904) (hnil : base = none → n = 0 ∧ c = 0)
  (hrun : (Builtin.append_ #[68, 68] 68 #[.slice base n c, .slice (some ⟨vb, voff, none⟩) 1 vc]).run Tryz.prog w = .ok r w') :
  Calls Tryz.prog 159 #[.slice base n c, .int .i64 n, .slice (some ⟨vb, voff, none⟩) 1 vc] w fun e w2 => e = .returned r ∧ w2 = w' := by
 have u0 := Tryz.underlying68
 have mixed := Tryz.checked.mixed
 go_enter Tryz.func159, Tryz.ntmps159
 cases base with
 | none =>
  obtain ⟨h0, h1⟩ := hnil rfl
  subst h0 h1
  go_wp2_with (at_builtin; refine Lib.wpList_append_run _ rfl _ _ _ _ rfl _ _ rfl rfl _ _ hrun ?_)
  go_ret
  exact ⟨rfl, rfl⟩
 | some a =>
  obtain ⟨ab, ao, asp⟩ := a
  go_wp2_with (at_builtin; refine Lib.wpList_append_run _ rfl _ _ _ _ rfl _ _ rfl rfl _ _ hrun ?_)
  all_goals (go_ret; exact ⟨rfl, rfl⟩)
theorem ins_shift159 (b off n c i vb voff vc : Nat) (k1 k2 : Value) (w W1 W2 : World) (tA tB : TypeId) (kA kB : Nat) (hi : i < n) (hroom : n + 1 ≤ c) (h62 : n ≤ 4611686018427387904) (hvb : vb ≠ b)
  (hsa : w.shape? vb = some (tA, kA)) (hsb : w.shape? b = some (tB, kB)) (hkB : kB ≠ 0) (hfa : w.frozen? ⟨vb, voff, none⟩ = false) (hfe : w.frozen? ⟨vb, kA, none⟩ = false)
  (hcp1 : (Builtin.copy_ #[68, 68] 3 #[.slice (some ⟨b, off + (i + 1) * 11, none⟩) (n - i) (c - (i + 1)), .slice (some ⟨b, off + i * 11, none⟩) (n + 1 - i) (c - i)]).run Tryz.prog w.drew = .ok k1 W1)
  (hcp2 : (Builtin.copy_ #[68, 68] 3 #[.slice (some ⟨b, off + i * 11, none⟩) (n + 1 - i) (c - i), .slice (some ⟨vb, voff, none⟩) 1 vc]).run Tryz.prog W1 = .ok k2 W2) :
  Calls Tryz.prog 159 #[.slice (some ⟨b, off, none⟩) n c, .int .i64 i, .slice (some ⟨vb, voff, none⟩) 1 vc] w fun e w2 => e = .returned (.slice (some ⟨b, off, none⟩) (n + 1) c) ∧ w2 = W2 := by
 have u0 := Tryz.underlying68
 have z0 : ∀ w, (Go.sizeOf 55).run Tryz.prog w = .ok 11 w := fun w => run_sizeOf' (by kernel_rfl)
 have mixed := Tryz.checked.mixed
 have hov : ∀ lb cb, (callFunc 211 #[.slice (some ⟨vb, voff, none⟩) 1 vc, .slice (some ⟨b, off + (i + 1) * 11, none⟩) lb cb]).run Tryz.prog w = .ok (.value (.bool false)) w := fun lb cb => by
  rw [run_callFunc_extern Tryz.func211 (by kernel_rfl) (by kernel_rfl) (by kernel_rfl) (e := Extern.SlicesOverlaps.overlaps #[68, 68] #[4]) (by kernel_rfl),
   Lib.run_overlaps_apart w 68 4 55 u0 11 z0 ⟨vb, voff, none⟩ ⟨b, off + (i + 1) * 11, none⟩ 1 vc lb cb hvb tA tB kA kB hsa hsb hkB hfa hfe]
  rfl
 have hz2 : ¬ ((i : Int) = (n : Int)) := by omega
 have hw1 : IntKind.i64.wrap ((i : Int) + 1) = (i : Int) + 1 := by rw [IntKind.wrap_i64]; omega
 have hw2 : IntKind.i64.wrap ((n : Int) + 1) = (n : Int) + 1 := by rw [IntKind.wrap_i64]; omega
 have hb1 : (0 : Int) ≤ (i : Int) + 1 := by omega
 have hin : i ≤ n := by omega
 have htn : ((i : Int) + 1).toNat = i + 1 := by omega
 have hb2 : ¬ (c = i + 1) := by omega
 have hb3 : (i : Int) ≤ (n : Int) + 1 := by omega
 have hb4 : ¬ (c = i) := by omega
 have hb5 : ¬ ((c : Int) < (n : Int) + 1) := by omega
 go_enter Tryz.func159, Tryz.ntmps159
 go_wp2_with (simp only [hov])
 go_region_law_o (refine step_copy_runI rfl _ _ 68 68 rfl _ _ (by simp [Act.eval, Act.put]) (by simp [Act.eval, Act.put]) hcp1 ?_)
 go_wp2_with (at_builtin; refine wpList_copy_runI _ rfl _ _ 68 68 rfl _ _ rfl rfl hcp2 ?_)
 go_ret
 exact ⟨rfl, rfl⟩
theorem ins_grow159 (b off n c i vb voff vc N G : Nat) (k1 k2 : Value) (w W0 W1 W2 : World) (hi : i < n) (hnc : n ≤ c) (hroom : c < n + 1) (hG : n + 1 ≤ G) (h62 : n ≤ 4611686018427387904)
  (happ : (Builtin.append_ #[68, 3] 68 #[.slice (some ⟨b, off, none⟩) i c, .int .i64 ((n : Int) + 1 - (i : Int))]).run Tryz.prog w = .ok (.slice (some ⟨N, 0, none⟩) (n + 1) G) W0)
  (hcp1 : (Builtin.copy_ #[68, 68] 3 #[.slice (some ⟨N, i * 11, none⟩) (n + 1 - i) (G - i), .slice (some ⟨vb, voff, none⟩) 1 vc]).run Tryz.prog W0 = .ok k1 W1)
  (hcp2 : (Builtin.copy_ #[68, 68] 3 #[.slice (some ⟨N, (i + 1) * 11, none⟩) (n - i) (G - (i + 1)), .slice (some ⟨b, off + i * 11, none⟩) (n - i) (c - i)]).run Tryz.prog W1.drew = .ok k2 W2) :
  Calls Tryz.prog 159 #[.slice (some ⟨b, off, none⟩) n c, .int .i64 i, .slice (some ⟨vb, voff, none⟩) 1 vc] w fun e w2 => e = .returned (.slice (some ⟨N, 0, none⟩) (n + 1) G) ∧ w2 = W2 := by
 have u0 := Tryz.underlying68
 have z0 : ∀ w, (Go.sizeOf 55).run Tryz.prog w = .ok 11 w := fun w => run_sizeOf' (by kernel_rfl)
 have mixed := Tryz.checked.mixed
 have hz2 : ¬ ((i : Int) = (n : Int)) := by omega
 have hw1 : IntKind.i64.wrap ((i : Int) + 1) = (i : Int) + 1 := by rw [IntKind.wrap_i64]; omega
 have hw2 : IntKind.i64.wrap ((n : Int) + 1) = (n : Int) + 1 := by rw [IntKind.wrap_i64]; omega
 have hw3 : IntKind.i64.wrap ((n : Int) + 1 - (i : Int)) = (n : Int) + 1 - (i : Int) := by rw [IntKind.wrap_i64]; omega
 have hb1 : (0 : Int) ≤ (i : Int) + 1 := by omega
 have hin : i ≤ n := by omega
 have htn : ((i : Int) + 1).toNat = i + 1 := by omega
 have hGi : ¬ (G = i) := by omega
 have hGim : ¬ (G = i + 1) := by omega
 have hci : ¬ (c = i) := by omega
 have hz3 : (c : Int) < (n : Int) + 1 := by omega
 have hb3 : (i : Int) ≤ (n : Int) := by omega
 have hb6 : (i : Int) ≤ (c : Int) := by omega
 go_enter Tryz.func159, Tryz.ntmps159
 go_wp2_with (first
  | (at_builtin; refine Lib.wpList_append_run _ rfl _ _ _ _ rfl _ _ rfl rfl _ _ happ ?_)
  | (at_builtin; refine wpList_copy_runI _ rfl _ _ 68 68 rfl _ _ rfl rfl hcp1 ?_))
 go_region_law_o (refine step_copy_runI rfl _ _ 68 68 rfl _ _ (by simp [Act.eval, Act.put]) (by simp [Act.eval, Act.put]) hcp2 ?_)
 go_wp2
 go_ret
 exact ⟨rfl, rfl⟩
theorem insL159 : InsL Tryz.prog 159 68 3 55 11 :=
 ⟨Tryz.underlying68, Tryz.underlying3, ins_fin159, ins_shift159, ins_grow159⟩
theorem insH159 {G : Nat → CV} (args : List CV) (h : Hp) (r : CV) (h' : Hp) (hx : insH 11 112 args h = some (r, h')) : CallS Tryz.prog G 159 args h r h' :=
 insH_ok insL159 (by kernel_rfl) (by kernel_rfl) (by kernel_rfl) (by omega) (by omega) (by kernel_rfl) args h r h' hx
def insGet (f : FuncId) : Option (Nat × Nat) := match Nat.beq f 158 with | true => some (32, 32) | false => match Nat.beq f 159 with | true => some (11, 112) | false => none
theorem insGet_ok (f : FuncId) (z by_ : Nat) (h : insGet f = some (z, by_)) (args : List CV) (hp : Hp) (r : CV) (hp' : Hp) (hx : insH z by_ args hp = some (r, hp')) : CallS Tryz.prog GS f args hp r hp' := by
 unfold insGet at h
 split at h
 ·rename_i hb
  have hf := Nat.eq_of_beq_eq_true hb
  subst hf
  cases h
  exact insH158 args hp r hp' hx
 split at h
 ·rename_i hb
  have hf := Nat.eq_of_beq_eq_true hb
  subst hf
  cases h
  exact insH159 args hp r hp' hx
 cases h
instance insT : InsT Tryz.prog GS := ⟨insGet, insGet_ok⟩
end Go.CM

namespace Go.CM
open Go Go.Proofs Go.Sort Go.Shelf
set_option maxRecDepth 100000
open Sha
def cmpB : List B → List B → Int
 | [], [] => 0
 | [], _ :: _ => -1
 | _ :: _, [] => 1
 | a :: ra, b :: rb => if a.toNat < b.toNat then -1 else if b.toNat < a.toNat then 1 else cmpB ra rb
theorem cmpB_cons (a b : B) (ra rb : List B) : cmpB (a :: ra) (b :: rb) = if a.toNat < b.toNat then -1 else if b.toNat < a.toNat then 1 else cmpB ra rb := rfl
end Go.CM

namespace Go.CM
open Go Go.Proofs
set_option maxRecDepth 100000
namespace Op
open Sha
abbrev Q := BitVec 64
abbrev D := BitVec 32
theorem u1_64 : (u (1#64) : Int) = 1 := rfl
def enc32 (x : D) : List CV := [e32 x]
def mulQ (l : List D) : Q := l.foldl (fun o x => o * x.setWidth 64 % 1000000007#64) 1#64
theorem mulQ_take (l : List D) (k : Nat) (x : D) (h : l[k]? = some x) : mulQ (l.take (k + 1)) = mulQ (l.take k) * x.setWidth 64 % 1000000007#64 := by
 rw [List.take_add_one, h]; simp [mulQ, List.foldl_append]
theorem rem_p (x : Q) : binInt .rem .u64 (u x) .u64 1000000007 = some (.int .u64 (u (x % 1000000007#64))) := brem_u64 x 1000000007#64 (by decide)
theorem mul_ok (l : List D) (hl : l.length ≤ 1000) : PureC Tryz.prog GS 223 [.int .u64 1000000007, encS 1 enc32 (some l)] (e32 ((mulQ l).setWidth 32)) := by
 refine pure_of Tryz.checked.mixed GS_closed ?_
 apply call_intro c223_eq r223_eq
 unfold c223 r223
 have hlen : lenM (.sl 1) (encS 1 enc32 (some l)) = some (.int .i64 l.length) := len_encS _
 simp [hlen]
 refine loop_up l.length (fun k σ _ => σ 0 = .int .u64 1000000007 ∧ σ 5 = e64 (mulQ (l.take k)) ∧ σ 8 = encS 1 enc32 (some l) ∧ σ 9 = .int .i64 l.length ∧ σ 10 = .int .i64 k) ?_ (by simp [mulQ]; rfl)
 rintro k σ h hk ⟨g0, g5, g8, g9, g10⟩
 obtain ⟨σ, rfl⟩ := upds5 g0 g5 g8 g9 g10
 clear g0 g5 g8 g9 g10
 unfold l223_0
 by_cases h : k < l.length
 ·obtain ⟨x, hx, _⟩ := get_of h
  have hia : iaC (.sl 1) (encS 1 enc32 (some l)) (.int .i64 k) = some (.rptr (enc32 x) 0) := by rw [ia_encS]; simp [hx]
  have hwk : IntKind.i64.wrap ((k : Int) + 1) = (k + 1 : Nat) := wrap_i64 (by omega) (by omega)
  have hs := mulQ_take l k x hx
  simp [h, hia, enc32, hwk, rem_p]
  rw [← hs]
 ·have hk' : k = l.length := by omega
  subst hk'
  simp
  exact rd_eq rfl rfl
def powM (a n : Nat) : Nat := a ^ n % 1000000007
theorem powM_lt (a n : Nat) : powM a n < 1000000007 := Nat.mod_lt _ (by decide)
theorem powM_two (a n : Nat) : powM a n * powM a n % 1000000007 = powM a (2 * n) := by
 unfold powM; rw [← Nat.mul_mod, ← Nat.pow_add]; congr 2; omega
theorem powM_odd (a n : Nat) : powM a n * a % 1000000007 = powM a (n + 1) := by
 unfold powM; rw [Nat.mod_mul_mod, Nat.pow_succ]
def powW (a : D) (n : Nat) : D := BitVec.ofNat 32 (powM a.toNat n)
theorem powW_nat (a : D) (n : Nat) : (powW a n).toNat = powM a.toNat n := by
 have := powM_lt a.toNat n
 unfold powW; rw [BitVec.toNat_ofNat]; exact Nat.mod_eq_of_lt (by omega)
theorem mulQ2 (x y : D) (hx : x.toNat < 1000000007) : (mulQ [x, y]).setWidth 32 = BitVec.ofNat 32 (x.toNat * y.toNat % 1000000007) := by
 apply BitVec.eq_of_toNat_eq
 have hy := y.isLt
 have h1 : x.toNat * y.toNat < 1000000007 * 4294967296 := by
  calc x.toNat * y.toNat ≤ 1000000007 * y.toNat := Nat.mul_le_mul_right _ (by omega)
   _ < 1000000007 * 4294967296 := Nat.mul_lt_mul_of_pos_left (by simpa using hy) (by decide)
 have h2 : (1#64 * x.setWidth 64 % 1000000007#64).toNat = x.toNat := by
  rw [BitVec.one_mul, BitVec.toNat_umod, BitVec.toNat_setWidth]
  rw [Nat.mod_eq_of_lt (show x.toNat < 2 ^ 64 by omega), show (1000000007#64).toNat = 1000000007 from rfl, Nat.mod_eq_of_lt hx]
 simp only [mulQ, List.foldl_cons, List.foldl_nil, BitVec.toNat_setWidth, BitVec.toNat_umod, BitVec.toNat_mul, h2, BitVec.toNat_ofNat]
 rw [Nat.mod_eq_of_lt (show y.toNat < 2 ^ 64 by omega), Nat.mod_eq_of_lt (show x.toNat * y.toNat < 2 ^ 64 by omega), Nat.mod_eq_of_lt (show 1000000007 < 2 ^ 64 by decide)]
theorem mul_same (a : D) (n : Nat) : (mulQ [powW a n, powW a n]).setWidth 32 = powW a (2 * n) := by
 rw [mulQ2 _ _ (by rw [powW_nat]; exact powM_lt _ _), powW_nat, powM_two]; rfl
theorem mul_one (a : D) (n : Nat) : (mulQ [powW a n, a]).setWidth 32 = powW a (n + 1) := by
 rw [mulQ2 _ _ (by rw [powW_nat]; exact powM_lt _ _), powW_nat, powM_odd]; rfl
theorem rdH_two {l : Hl} {b : Nat} {x y : D} (h : l[b]? = some (.cells 2 [e32 x, e32 y])) : RdH (HL l) (.sl 1 b 0 2 2 2) (encS 1 enc32 (some [x, y])) := by
 refine rdH_rows (rest := []) (es := [[e32 x], [e32 y]]) (by simpa using h) rfl (by simp) (by simp [closedL, CV.closed])
theorem fn_square : funOkB Tryz.prog 256 = true := by kernel_rfl
theorem square_own {x : D} {l : Hl} {K : CV → Hl → Prop} (hK : ∀ v rest, K v (.cells 1 [e32 ((mulQ [x, x]).setWidth 32)] :: rest)) : CallP Tryz.prog GS 256 [.ptr 0 0 1] (.cells 1 [e32 x] :: l) (c := ⟨K⟩) := by
 apply call_intro c256_eq r256_eq
 unfold c256 r256
 simp
 refine pure_callB (mul_ok [x, x] (by simp)) (.cons (.same _ rfl) (.cons (rdH_two (by simp)) .nil)) rfl ?_
 simp
 exact hK _ _
theorem half_bit (n k : Nat) (hk : k < 64) : n / 2 ^ (63 - k) = 2 * (n / 2 ^ (64 - k)) + n / 2 ^ (63 - k) % 2 := by
 have : 2 ^ (64 - k) = 2 ^ (63 - k) * 2 := by rw [← Nat.pow_succ]; congr 1; omega
 rw [this, ← Nat.div_div_eq_div_mul]; omega
theorem pow_ok (a : D) (n : Q) : PureC Tryz.prog GS 215 [e32 a, e64 n] (e32 (powW a n.toNat)) := by
 refine pure_of Tryz.checked.mixed GS_closed ?_
 apply call_intro c215_eq r215_eq
 unfold c215 r215
 simp
 refine loop_up 64 (fun k σ l => σ 0 = e32 a ∧ σ 1 = e64 n ∧ σ 5 = .ptr 0 0 1 ∧ σ 6 = .fn 256 [] [.ptr 0 0 1] ∧ σ 9 = .int .i64 k ∧ ∃ r, l = .cells 1 [e32 (powW a (n.toNat / 2 ^ (64 - k)))] :: r) ?_ (by
  have : n.toNat / 2 ^ 64 = 0 := Nat.div_eq_of_lt n.isLt
  simp [this, powW, powM]; rfl)
 rintro k σ l hk ⟨g0, g1, g5, g6, g9, r, rfl⟩
 obtain ⟨σ, rfl⟩ := upds5 g0 g1 g5 g6 g9
 clear g0 g1 g5 g6 g9
 unfold l215_0
 by_cases h : (k : Int) < 64
 ·have hwk : IntKind.i64.wrap ((k : Int) + 1) = (k + 1 : Nat) := wrap_i64 (by omega) (by omega)
  have hws : IntKind.i64.wrap (63 - (k : Int)) = ((63 - k : Nat) : Int) := by rw [wrap_i64 (by omega) (by omega)]; omega
  have hb := half_bit n.toNat k (by omega)
  have hsh : binInt .shr .u64 (u n) .i64 ((63 - k : Nat) : Int) = some (.int .u64 (u (n >>> (63 - k)))) := bshrn_u64 n .i64 (63 - k)
  have h63 : 64 - (k + 1) = 63 - k := by omega
  simp [h, hwk]
  refine ⟨fn_square, ?_⟩
  simp
  refine square_own fun v rest => ?_
  simp [hws, hsh, mul_same]
  rw [h63]
  by_cases ho : n.toNat / 2 ^ (63 - k) % 2 = 1
  ·have hbit : n >>> (63 - k) &&& 1#64 = 1#64 := by
    apply BitVec.eq_of_toNat_eq
    rw [BitVec.toNat_and, BitVec.toNat_ushiftRight, Nat.shiftRight_eq_div_pow]
    show _ &&& 1 = 1
    rw [Nat.and_one_is_mod, ho]
   rw [ho] at hb
   have hq : powW a (2 * (n.toNat / 2 ^ (64 - k)) + 1) = powW a (n.toNat / 2 ^ (63 - k)) := by rw [← hb]
   simp [hbit, u1_64]
   refine pure_callB (mul_ok [powW a (2 * (n.toNat / 2 ^ (64 - k))), a] (by simp)) (.cons (.same _ rfl) (.cons (rdH_two (by simp)) .nil)) rfl ?_
   rw [mul_one, hq]
   simp [hwk]
   omega
  ·have ho : n.toNat / 2 ^ (63 - k) % 2 = 0 := by omega
   have hbit : n >>> (63 - k) &&& 1#64 = 0#64 := by
    apply BitVec.eq_of_toNat_eq
    rw [BitVec.toNat_and, BitVec.toNat_ushiftRight, Nat.shiftRight_eq_div_pow]
    show _ &&& 1 = 0
    rw [Nat.and_one_is_mod, ho]
   rw [ho, Nat.add_zero] at hb
   simp [hbit, hwk]
   rw [← hb]
   exact ⟨by omega, rfl⟩
 ·have hk' : k = 64 := by omega
  subst hk'
  simp
  exact rd_eq rfl rfl
@[simp] theorem bstr_eql (a b : List UInt8) : binStr .eql a b = some (.bool (decide (a = b))) := by
 by_cases h : a = b <;> simp [binStr, h]
@[simp] theorem bstr_neq (a b : List UInt8) : binStr .neq a b = some (.bool (!decide (a = b))) := by
 by_cases h : a = b <;> simp [binStr, h]
structure Val where
 kind : B
 num : Int
 bits : Q
 text : List UInt8
def encV (v : Val) : List CV := [e8 v.kind, .int .i64 v.num, e64 v.bits, .str v.text]
def expo (b : Q) : Nat := b.toNat / 4503599627370496 % 2048
def frac (b : Q) : Q := b % 4503599627370496#64
def cls (b : Q) : B := if expo b = 2047 then (if frac b = 0#64 then 4#8 else 5#8) else if expo b = 0 then (if frac b = 0#64 then 1#8 else 2#8) else 3#8
structure Act where
 kind : B
 key : List UInt8
 val : Val
def kA : List Tk := [.i .u8, .s, .i .u8, .i .i64, .i .u64, .s]
end Op
end Go.CM

namespace Go.CM
open Go Go.Proofs
set_option maxRecDepth 100000
def Ob {α : Type} (z : Nat) (enc : α → List CV) (l l1 : Hl) (v : CV) (a : List α) (nl : Bool) : Prop :=
 ∃ j, OwnS z l1 v j (a.map enc) ∧ l.length ≤ l1.length ∧ (∀ b, b < l.length → l1[b]? = l[b]?) ∧ (v = .nilS ∨ l.length ≤ j) ∧ isNilS v = nl
section
variable {α : Type} {z : Nat} {enc : α → List CV} {l l1 : Hl} {v : CV} {a : List α} {nl : Bool}
theorem Ob.nil : Ob z enc l l .nilS ([] : List α) true := ⟨0, .nil 0, Nat.le_refl _, fun _ _ => rfl, .inl rfl, rfl⟩
theorem Ob.more (h : Ob z enc l l1 v a nl) (r : Hl) : Ob z enc l (l1 ++ r) v a nl := by
 obtain ⟨j, h1, h2, h3, h4, h5⟩ := h
 exact ⟨j, h1.more r, by simp; omega, fun b hb => by rw [List.getElem?_append_left (by omega)]; exact h3 b hb, h4, h5⟩
theorem Ob.len (h : Ob z enc l l1 v a nl) : lenM (.sl z) v = some (.int .i64 a.length) := by
 obtain ⟨j, h1, _⟩ := h
 rw [h1.len, List.length_map]
theorem Ob.cells (h : Ob z enc l l1 v a nl) : v.cells = some [v] := by
 obtain ⟨j, h1, _⟩ := h
 exact h1.cells
theorem Ob.contents (h : Ob z enc l l1 v a nl) : contentsL l1 z v = some ((a.map enc).flatten, a.length) := by
 obtain ⟨j, h1, _⟩ := h
 rw [h1.contents, List.length_map]
theorem Ob.same (h : Ob z enc l l1 v a nl) : ∀ b, b < l.length → l1[b]? = l[b]? := by obtain ⟨j, h1, h2, h3, _⟩ := h; exact h3
theorem Ob.rdH (h : Ob z enc l l1 v a nl) (hf : ∀ x, closedL (enc x) = true) (s : Sv α) (hs : nl = s.isNone) (hx : s.l = a) : RdH (HL l1) v (encS z enc s) := by
 obtain ⟨j, h1, h2, h3, h4, h5⟩ := h
 exact h1.rdH_enc hf s (by rw [h5, hs]) hx
theorem Ob.rd (h : Ob z enc l l1 v a nl) (hf : ∀ x, closedL (enc x) = true) (s : Sv α) (hs : nl = s.isNone) (hx : s.l = a) : Rd l1 v (encS z enc s) := by
 obtain ⟨j, h1, h2, h3, h4, h5⟩ := h
 exact h1.q.rd_enc hf s (by rw [h5, hs]) hx
theorem Ob.rdN (h : Ob z enc l l1 v a nl) (hf : ∀ x, flatL (enc x) = true) (s : Sv α) (hs : nl = s.isNone) (hx : s.l = a) : RdN l1 v (encS z enc s) := by
 obtain ⟨j, h1, h2, h3, h4, h5⟩ := h
 exact h1.rdN_enc hf s (by rw [h5, hs]) hx
theorem Ob.base (h : Ob z enc l l1 v a nl) {l0 : Hl} (hl : l0.length ≤ l.length) (hs : ∀ b, b < l0.length → l[b]? = l0[b]?) : Ob z enc l0 l1 v a nl := by
 obtain ⟨j, h1, h2, h3, h4, h5⟩ := h
 exact ⟨j, h1, by omega, fun b hb => by rw [h3 b (by omega)]; exact hs b hb, h4.imp id (by omega), h5⟩
theorem Ob.frame (h : Ob z enc l l1 v a nl) {l2 : Hl} (hl : l1.length ≤ l2.length) (hs : ∀ b, b < l1.length → l2[b]? = l1[b]?) : Ob z enc l l2 v a nl := by
 obtain ⟨j, h1, h2, h3, h4, h5⟩ := h
 exact ⟨j, h1.frame fun hj => hs j hj, by omega, fun b hb => by rw [hs b (by omega)]; exact h3 b hb, h4, h5⟩
theorem Ob.app (h : Ob z enc l l1 v a nl) {by_ : Nat} {x : CV} {xs : List α} (hx : contentsL l1 z x = some ((xs.map enc).flatten, xs.length)) (hz : ∀ y ∈ xs, (enc y).length = z) (h0 : z ≠ 0) (hby : by_ ≠ 0) (hroom : (a.length + xs.length) * by_ ≤ roomMax) :
  ∃ v' l', appM l1 z by_ v x = some (v', l') ∧ Ob z enc l l' v' (a ++ xs) (nl && xs.isEmpty) ∧ l1.length ≤ l'.length := by
 obtain ⟨j, h1, h2, h3, h4, h5⟩ := h
 obtain ⟨v', j', l', g1, g2, g3, g4, g5, g6⟩ := appS (xs := xs.map enc) h1 (by simpa using hx) (fun e he => by obtain ⟨y, hy, rfl⟩ := List.mem_map.1 he; exact hz y hy) h0 hby (by simpa using hroom)
 refine ⟨v', l', g1, ⟨j', by rw [List.map_append]; exact g2, by omega, fun b hb => ?_, ?_, ?_⟩, g3⟩
 ·rw [g4 b (by omega)]
  ·exact h3 b hb
  ·rcases h4 with h | h
   ·exact .inl h
   ·exact .inr (by omega)
 ·rcases g5 with h | ⟨h6, h7⟩ | h
  ·exact .inr (by omega)
  ·rcases h4 with h | h
   ·exact absurd h h6
   ·exact .inr (by omega)
  ·exact .inl h
 ·rw [g6, h5]; simp
end
namespace Op
open Sha
theorem Ob.push {l l1 : Hl} {v : CV} {a : List B} {nl : Bool} (h : Ob 1 enc8 l l1 v a nl) (x : B) (hroom : a.length ≤ 1000000000) :
  ∃ v' l', appM (l1 ++ [.cells 1 [e8 x]]) 1 1 v (.sl 1 l1.length 0 1 1 1) = some (v', l') ∧ Ob 1 enc8 l l' v' (a ++ [x]) false := by
 have hr : roomMax = 140737488355328 := rfl
 obtain ⟨v', l', g1, g2, _⟩ := (h.more [.cells 1 [e8 x]]).app (by_ := 1) (x := .sl 1 l1.length 0 1 1 1) (xs := [x]) (by simp [contentsL, enc8]) (by simp [enc8]) (by omega) (by omega) (by rw [hr]; simp; omega)
 exact ⟨v', l', g1, by simpa using g2⟩
theorem enc8_flat : ∀ a : List B, (a.map enc8).flatten = a.map e8
 | [] => rfl
 | x :: a => by rw [List.map_cons, List.flatten_cons, enc8_flat a]; rfl
theorem own_arr {l : Hl} {j n : Nat} {a : List B} (ha : a.length = n) (hj : l[j]? = some (.cells n (a.map e8))) : OwnS 1 l (.sl 1 j 0 n n n) j (a.map enc8) := by
 refine .sl j n n n (a.map e8) _ hj (by simp [ha]) (by simp [ha]) (fun e he => ?_) (Nat.le_refl _) (by omega) ?_
 ·obtain ⟨x, _, rfl⟩ := List.mem_map.1 he; rfl
 ·rw [List.take_of_length_le (by simp [ha]), enc8_flat]
def nk (n : Nat) : Nat := if n < 256 then 1 else if n < 65536 then 2 else if n < 16777216 then 3 else if n < 4294967296 then 4 else if n < 1099511627776 then 5 else if n < 281474976710656 then 6 else if n < 72057594037927936 then 7 else 8
def byteAt (n i : Nat) : B := BitVec.ofNat 8 (n >>> (8 * i))
def tailBE (n : Nat) : Nat → List B
 | 0 => []
 | i + 1 => byteAt n i :: tailBE n i
def numB (n : Nat) : List B := if n ≤ 247 then [BitVec.ofNat 8 n] else BitVec.ofNat 8 (247 + nk n) :: tailBE n (nk n)
def digs (n k : Nat) : List B := (List.range k).map (byteAt n)
theorem Ob.get {l l1 : Hl} {v : CV} {a : List B} {nl : Bool} (h : Ob 1 enc8 l l1 v a nl) {k : IntKind} {i : Nat} {x : B} (hx : a[i]? = some x) : ∃ p cs o, iaC (.sl 1) v (.int k (i : Int)) = some p ∧ reachL l1 p = some (cs, o) ∧ cs[o]? = some (e8 x) := by
 obtain ⟨j, h, _⟩ := h
 obtain ⟨p, cs, o, h1, h2, h3, h4⟩ := h.q.get (k := k) (i := i) (e := enc8 x) (by rw [List.getElem?_map, hx]; rfl)
 refine ⟨p, cs, o, h1, h2, ?_⟩
 have := congrArg (fun l => l[0]?) h4
 simp [List.getElem?_take, List.getElem?_drop, enc8] at this
 exact this
structure NumI (l : Hl) (n : Q) (i : Nat) (σ : Sg) (l1 : Hl) : Prop where
 g0 : σ 0 = e64 (n >>> (8 * i))
 ob : ∃ v, σ 3 = v ∧ Ob 1 enc8 l l1 v (digs n.toNat i) (decide (i = 0))
structure NumJ (l1 : Hl) (v : CV) (n : Q) (k i : Nat) (σ : Sg) (l2 : Hl) : Prop where
 g3 : σ 3 = v
 g5 : σ 5 = .int .i64 ((k : Int) - 1 - i)
 ob : ∃ w, σ 4 = w ∧ Ob 1 enc8 l1 l2 w (BitVec.ofNat 8 (247 + k) :: ((digs n.toNat k).reverse.take i)) false
end Op
end Go.CM

namespace Go.CM
open Go Go.Proofs
set_option maxRecDepth 100000
namespace Op
open Sha
theorem flat8 (s : List B) : (s.map enc8).flatten = s.map e8 := enc8_flat s
theorem contents_Bs (l : Hl) (s : Bs) : contentsL l 1 (encBs s) = some ((s.l.map enc8).flatten, s.l.length) := contents_encS l 1 enc8 s
def eId (i : List B) : List CV := i.map e8
abbrev Ids := Sv (List B)
def encIds (s : Ids) : CV := encS 32 eId s
def okIds (s : Ids) : Prop := ∀ i ∈ s.l, i.length = 32
theorem closed_eId (i : List B) : closedL (eId i) = true := closedL_map e8 (fun _ => rfl) _
theorem closed_ids (s : Ids) : (encIds s).closed = true := closed_encS closed_eId s
theorem cmpBytes_B : ∀ a b : List B, a.length = b.length → cmpBytes (a.map fun x => UInt8.ofNat x.toNat) (b.map fun x => UInt8.ofNat x.toNat) = cmpB a b
 | [], [], _ => rfl
 | [], _ :: _, h => by simp at h
 | _ :: _, [], h => by simp at h
 | x :: a, y :: b, h => by
  have ih := cmpBytes_B a b (by simpa using h)
  have hx := x.isLt
  have hy := y.isLt
  rw [cmpB_cons]
  simp only [List.map_cons, cmpBytes, ih]
  have e1 : (UInt8.ofNat x.toNat = UInt8.ofNat y.toNat) ↔ x.toNat = y.toNat := by
   constructor
   ·intro h
    have := congrArg UInt8.toNat h
    simp only [UInt8.toNat_ofNat'] at this
    omega
   ·intro h; rw [h]
  have e2 : (UInt8.ofNat x.toNat < UInt8.ofNat y.toNat) ↔ x.toNat < y.toNat := by
   rw [UInt8.lt_iff_toNat_lt]; simp only [UInt8.toNat_ofNat']
   rw [Nat.mod_eq_of_lt (by omega), Nat.mod_eq_of_lt (by omega)]
  by_cases h1 : x.toNat = y.toNat
  ·rw [if_pos (e1.2 h1), if_neg (by omega), if_neg (by omega)]
  ·rw [if_neg (fun h => h1 (e1.1 h))]
   by_cases h2 : x.toNat < y.toNat
   ·rw [if_pos (e2.2 h2), if_pos h2]
   ·rw [if_neg (fun h => h2 (e2.1 h)), if_neg h2, if_pos (by omega)]
@[simp ↓] theorem m_cmpB {P : Program} {ρ : Operand → CV} {l : Hl} (f : FuncId) (fo x y : Operand) : mstep P ρ l (.cmpB f fo x y) = (match isFn f (ρ fo) with | true => pu l (cmpL l (ρ x) (ρ y)) | false => none) := id rfl
@[simp ↓] theorem keep_cmpB (f : FuncId) (fo x y : Operand) (v : CV) (l : Hl) (K : CV → Hl → Prop) : keepK (.cmpB f fo x y) v l K = K v l := id rfl
@[simp] theorem isFn_self (f : FuncId) : isFn f (.fn f [] []) = true := Nat.beq_refl f
theorem bytesOfC_e8 : ∀ a : List B, bytesOfC (a.map e8) = some (a.map fun x => UInt8.ofNat x.toNat)
 | [] => rfl
 | x :: a => by
  simp only [List.map_cons, bytesOfC, bytesOfC_e8 a, Option.map_some]
  simp [u]
theorem bytesOfL_Bs (l : Hl) (s : Bs) : bytesOfL l (encBs s) = some (s.l.map fun x => UInt8.ofNat x.toNat) := by
 have h := contents_Bs l s
 rw [flat8] at h
 cases s with
 | none => simp [bytesOfL, encS, contentsL, bytesOfC]
 | some a =>
  unfold bytesOfL
  simp only [encS]
  have h2 : contentsL l 1 (CV.rsl 1 (a.map enc8)) = some (a.map e8, a.length) := h
  rw [h2]
  exact bytesOfC_e8 a
theorem bCompare_ok (a b : Bs) (h : a.l.length = b.l.length) : PureC Tryz.prog GS 202 [encBs a, encBs b] (.int .i64 (cmpB a.l b.l)) := by
 refine pure_of Tryz.checked.mixed GS_closed ?_
 apply call_intro c202_eq r202_eq
 unfold c202 r202
 have hc : cmpL [] (encBs a) (encBs b) = some (.int .i64 (cmpB a.l b.l)) := by
  unfold cmpL
  rw [bytesOfL_Bs, bytesOfL_Bs]
  simp only [cmpBytes_B _ _ h]
 simp [hc]
 exact rd_eq rfl rfl
theorem slice_arr_all {n b : Nat} (hlo : 0 < n) : sliceM (.arr n 1) (.ptr b 0 n) none none none = some (.sl 1 b 0 n n n) := by
 have : boundsC n n none none none = some (0, n, n) := rfl
 simp only [sliceM, this]
 rw [if_pos (by omega), if_neg (by omega)]
 simp
theorem cmp_ok (a b : List B) (ha : a.length = 32) (hb : b.length = 32) : PureC Tryz.prog GS 162 [idC a, idC b] (.int .i64 (cmpB a b)) := by
 refine pure_of Tryz.checked.mixed GS_closed ?_
 apply call_intro c162_eq r162_eq
 unfold c162 r162
 have hs := slice_arr_all (n := 32) (b := 1) (by omega)
 have hs0 := slice_arr_all (n := 32) (b := 0) (by omega)
 simp [idC, ha, hb, hs, hs0]
 have hc := bCompare_ok (some a) (some b) (by simp [ha, hb])
 refine pure_callB hc ?_ rfl ?_
 ·exact .cons ((own_arr (j := 0) ha rfl).rdH_enc (fun _ => rfl) (some a) rfl rfl) (.cons ((own_arr (j := 1) hb rfl).rdH_enc (fun _ => rfl) (some b) rfl rfl) .nil)
 ·simp
  exact rd_eq rfl rfl
abbrev idAt (l : List (List B)) (k : Nat) : List B := l.getD k []
theorem eId_len {x : List B} (h : x.length = 32) : (eId x).length = 32 := by simp [eId, h]
structure LstI (l : Hl) (s : Ids) (k : Nat) (σ : Sg) (l1 : Hl) : Prop where
 g0 : σ 0 = encS 32 eId s
 g4 : σ 4 = .int .i64 k
 ob : ∃ v, σ 3 = v ∧ Ob 1 enc8 l l1 v (numB s.l.length ++ (s.l.take k).flatten) false
structure LstJ (l : Hl) (s : Ids) (k : Nat) (σ : Sg) (l1 : Hl) : Prop where
 g17 : σ 17 = encS 32 eId s
 g18 : σ 18 = .int .i64 s.l.length
 g19 : σ 19 = .int .i64 k
 ob : ∃ v, σ 4 = v ∧ Ob 1 enc8 l l1 v (numB s.l.length ++ (s.l.take k).flatten) false
def tB (s : List UInt8) : List B := s.map fun b => b.toBitVec
def be8 (b : Q) (k : Nat) : List B := (List.range k).map fun i => byteAt b.toNat (7 - i)
def okV (v : Val) : Prop := -9223372036854775808 ≤ v.num ∧ v.num < 9223372036854775808 ∧ v.text.length ≤ 10000
structure BitI (l : Hl) (v : Val) (p : Nat) (k : Nat) (σ : Sg) (l1 : Hl) : Prop where
 g1 : σ 1 = .ptr p 0 4
 g4 : σ 4 = .int .i64 (7 - (k : Int))
 ob : ∃ w, σ 3 = w ∧ Ob 1 enc8 (l ++ [.cells 4 (encV v)]) l1 w (v.kind :: be8 v.bits k) false
structure BitJ (l : Hl) (v : Val) (p : Nat) (k : Nat) (σ : Sg) (l1 : Hl) : Prop where
 g1 : σ 1 = .ptr p 0 4
 g6 : σ 6 = .int .i64 (8 * (7 - (k : Int)))
 ob : ∃ w, σ 5 = w ∧ Ob 1 enc8 (l ++ [.cells 4 (encV v)]) l1 w (v.kind :: be8 v.bits k) false
structure Opr where
 author : D
 preds : Ids
 stamp : Q
 act : Act
 e : D
 s : D
structure OkOp (o : Opr) : Prop where
 ids : okIds o.preds
 len : o.preds.l.length ≤ 1000000
 val : okV o.act.val
 key : o.act.key.length ≤ 10000
theorem beqE8 : ∀ a b : List B, a.length = b.length → beqL (a.map e8) (b.map e8) = decide (a = b)
 | [], [], _ => rfl
 | [], _ :: _, h => by simp at h
 | _ :: _, [], h => by simp at h
 | x :: a, y :: b, h => by
  have ih := beqE8 a b (by simpa using h)
  simp only [List.map_cons, beqL, ih, CV.beq, decide_true, Bool.true_and]
  by_cases h1 : x = y
  ·by_cases h2 : a = b <;> simp [h1, h2]
  ·have : ¬ u x = u y := fun h => h1 ((u_inj x y).1 h)
   simp [h1]
theorem okKE8 : ∀ a : List B, okK (List.replicate a.length (.i .u8)) (a.map e8) = true
 | [] => rfl
 | x :: a => by
  rw [List.length_cons, List.replicate_succ, List.map_cons]
  simp only [okK, okKE8 a, tkOk, decide_true, Bool.and_self]
theorem kindsID : kindsT Tryz.prog 20 57 = some (List.replicate 32 (.i .u8)) := by kernel_rfl
theorem idEql {a b : List B} (ha : a.length = 32) (hb : b.length = 32) : binC Tryz.prog .eql 57 (.ag (eId a)) (.ag (eId b)) = some (.bool (decide (a = b))) := by
 unfold eId
 rw [bin_plain_eql kindsID (by kernel_rfl) (by kernel_rfl) (by have := okKE8 a; rwa [ha] at this) (by have := okKE8 b; rwa [hb] at this), beqE8 a b (by omega)]
def ddN (l : List (List B)) (m : Nat) : List (List B) := (List.range m).flatMap fun k => if k = 0 ∨ idAt l k ≠ idAt l (k - 1) then [idAt l k] else []
structure CmpI (l : Hl) (v : CV) (xs : List (List B)) (k : Nat) (σ : Sg) (l1 : Hl) : Prop where
 g0 : σ 0 = v
 g3 : σ 3 = .int .i64 ((k + 1 : Nat) : Int)
 hl : l1 = l
 hs : ∀ j, 1 ≤ j → j < k + 1 → idAt xs j ≠ idAt xs (j - 1)
structure Cmp2 (l : Hl) (v v2 : CV) (j : Nat) (xs : List (List B)) (m i : Nat) (σ : Sg) (l2 : Hl) : Prop where
 g0 : σ 0 = v
 g4 : σ 4 = v2
 g5 : σ 5 = .int .i64 ((i + 1 : Nat) : Int)
 ex : ∃ (k : Nat) (ys : List (List B)), σ 3 = .int .i64 (k : Int) ∧ OwnS 32 l2 v j (ys.map eId) ∧ ys.length = xs.length ∧ (∀ y ∈ ys, y.length = 32) ∧ ys.take k = ddN xs (m + i + 1) ∧ k ≤ m + i ∧ (∀ t, m + i ≤ t → idAt ys t = idAt xs t) ∧ l2.length = l.length ∧ ∀ b, b ≠ j → l2[b]? = l[b]?
end Op
end Go.CM

namespace Go.CM
open Go Go.Proofs
set_option maxRecDepth 100000
open Sha Op
def pmk (a n : Nat) : Nat → Nat
 | 0 => 1
 | k + 1 => match Nat.beq (n / 2 ^ (63 - k) % 2) 1 with
  | true => ((pmk a n k) ^ 2 % 1000000007) * a % 1000000007
  | false => (pmk a n k) ^ 2 % 1000000007
theorem pmk_eq (a n : Nat) (hn : n < 2 ^ 64) : ∀ k, k ≤ 64 → pmk a n k = powM a (n / 2 ^ (64 - k))
 | 0, _ => by
  have : n / 2 ^ (64 - 0) = 0 := Nat.div_eq_of_lt hn
  rw [this]; rfl
 | k + 1, hk => by
  have ih := pmk_eq a n hn k (by omega)
  have hb := half_bit n k (by omega)
  have e : 64 - (k + 1) = 63 - k := by omega
  rw [e]
  unfold pmk
  rw [ih, Nat.pow_two, powM_two]
  split
  ·rename_i h
   have h1 := Nat.eq_of_beq_eq_true h
   rw [powM_odd, hb, h1]
  ·rename_i h
   have h1 : n / 2 ^ (63 - k) % 2 ≠ 1 := fun hh => by rw [hh] at h; cases h
   rw [hb]
   congr 1; omega
def powF : List CV → Option CV
 | [.int .u32 x, .int .u64 n] => match decide (0 ≤ x) && (decide (x < 4294967296) && (decide (0 ≤ n) && decide (n < 18446744073709551616))) with
  | true => some (.int .u32 ((pmk x.toNat n.toNat 64 : Nat) : Int))
  | false => none
 | _ => none
abbrev powO : FuncId × Bool × (List CV → Option CV) := (215, false, powF)
theorem powO_ok : OrcP Tryz.prog GS powO := by
 intro args r h
 refine ⟨?_, fun h => by cases h⟩
 simp only [powF] at h
 split at h
 ·rename_i x n
  split at h
  ·rename_i hc
   cases h
   simp only [Bool.and_eq_true, decide_eq_true_eq] at hc
   obtain ⟨h1, h2, h3, h4⟩ := hc
   have hx : (CV.int .u32 x) = e32 (BitVec.ofNat 32 x.toNat) := by
    have : ((BitVec.ofNat 32 x.toNat).toNat : Int) = x := by
     rw [BitVec.toNat_ofNat, Nat.mod_eq_of_lt (by omega)]; omega
    simp [e32, u]; omega
   have hn : (CV.int .u64 n) = e64 (BitVec.ofNat 64 n.toNat) := by
    have : ((BitVec.ofNat 64 n.toNat).toNat : Int) = n := by
     rw [BitVec.toNat_ofNat, Nat.mod_eq_of_lt (by omega)]; omega
    simp [e64, u]; omega
   have hp := pow_ok (BitVec.ofNat 32 x.toNat) (BitVec.ofNat 64 n.toNat)
   have hr : e32 (powW (BitVec.ofNat 32 x.toNat) (BitVec.ofNat 64 n.toNat).toNat) = .int .u32 ((pmk x.toNat n.toNat 64 : Nat) : Int) := by
    have e1 : (BitVec.ofNat 32 x.toNat).toNat = x.toNat := by rw [BitVec.toNat_ofNat, Nat.mod_eq_of_lt (by omega)]
    have e2 : (BitVec.ofNat 64 n.toNat).toNat = n.toNat := by rw [BitVec.toNat_ofNat, Nat.mod_eq_of_lt (by omega)]
    show CV.int .u32 (u _) = _
    unfold u
    rw [powW_nat, e1, e2, pmk_eq _ _ (by omega) 64 (Nat.le_refl _)]
    simp
   rw [hx, hn, ← hr]
   exact hp
  ·cases h
 ·cases h
def lsOf : List (List CV) → Option (List Bs)
 | [] => some []
 | [c] :: r => match bytOf c with
  | some s => match Nat.ble s.l.length 10000 with
   | true => match lsOf r with | some l => some (s :: l) | none => none
   | false => none
  | none => none
 | _ => none
theorem lsOf_ok : ∀ {es : List (List CV)} {l : List Bs}, lsOf es = some l → (es = l.map fun s => [encBs s]) ∧ ∀ s ∈ l, s.l.length ≤ 10000
 | [], l, h => by cases h; exact ⟨rfl, fun s hs => by cases hs⟩
 | e :: r, l, h => by
  unfold lsOf at h
  split at h
  ·rename_i e1; cases e1
  ·rename_i c r' e1
   cases e1
   split at h
   ·rename_i s hs
    split at h
    ·rename_i hb
     split at h
     ·rename_i l' hl
      cases h
      obtain ⟨h1, h2⟩ := lsOf_ok hl
      refine ⟨by rw [bytOf_ok hs, h1]; rfl, fun x hx => ?_⟩
      rcases List.mem_cons.1 hx with h3 | h3
      ·rw [h3]; exact Nat.le_of_ble_eq_true hb
      ·exact h2 x h3
     ·cases h
    ·cases h
   ·cases h
  ·cases h
def piecesF : List CV → Option CV
 | [.rsl 1 es] => match lsOf es with
  | some ls => match Nat.ble ls.length 20 with
   | true => some (.tu [idC (sha (bytesOf ls)), .int .i64 0])
   | false => none
  | none => none
 | _ => none
abbrev piecesO : FuncId × Bool × (List CV → Option CV) := (205, false, piecesF)
theorem piecesO_ok : OrcP Tryz.prog GS piecesO := by
 intro args r h
 refine ⟨?_, fun h => by cases h⟩
 simp only [piecesF] at h
 split at h
 ·split at h
  ·rename_i es ls hls
   split at h
   ·rename_i hn
    cases h
    obtain ⟨h1, h2⟩ := lsOf_ok hls
    rw [h1]
    exact pieces_ok ls (Nat.le_of_ble_eq_true hn) h2
   ·cases h
  ·cases h
 ·cases h
end Go.CM
