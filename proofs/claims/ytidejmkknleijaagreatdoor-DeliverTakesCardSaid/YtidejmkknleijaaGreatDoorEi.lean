/-
  SHA-256, as lists of words and bytes; the words of a block.
-/
import Derived.Test.YtidejmkknleijaaGreatDoorEh
import Derived.LaidMore
import Derived.MakeChecks
import Derived.Shelf.Spec.SlicesInsertGrow
import Derived.Lib.DecodeN
import Derived.RangeFuncNested
import Derived.RangeFuncBound
import Derived.RangeFuncCalls
import Derived.RangeFuncLeaves
import Derived.OwnWalkIn
import Derived.LoopNIn
set_option linter.unusedVariables false
set_option linter.unusedSimpArgs false
set_option linter.unnecessarySimpa false
namespace Go.CM
open Go
namespace Sha
abbrev W := BitVec 32
abbrev B := BitVec 8
def rotr (x : W) (n : Nat) : W := (x >>> n) ||| (x <<< (32 - n))
def wd (l : List B) : W := l.foldl (fun a x => (a <<< 8) ||| x.setWidth 32) 0#32
def part (b : List B) (k t : Nat) : W := wd (((b.take k).drop (4 * t)).take 4)
def words16 (b : List B) : List W := (List.range 16).map fun t => wd ((b.drop (4 * t)).take 4)
def ext (w : List W) : W :=
 let t := w.length
 let x := w.getD (t - 15) 0#32
 let y := w.getD (t - 2) 0#32
 w.getD (t - 16) 0#32 + w.getD (t - 7) 0#32 + (rotr x 7 ^^^ rotr x 18 ^^^ (x >>> 3)) + (rotr y 17 ^^^ rotr y 19 ^^^ (y >>> 10))
def extN : Nat → List W → List W
 | 0, w => w
 | n + 1, w => extN n (w ++ [ext w])
def sched (b : List B) : List W := extN 48 (words16 b)
def mix (x : W) (i j k : Nat) : W := rotr x i ^^^ rotr x j ^^^ rotr x k
structure St where
 (a b c d e f g h : W)
def round (s : St) (k w : W) : St :=
 let p := s.h + mix s.e 6 11 25 + ((s.e &&& s.f) ^^^ (~~~s.e &&& s.g)) + k + w
 let q := mix s.a 2 13 22 + ((s.a &&& s.b) ^^^ (s.a &&& s.c) ^^^ (s.b &&& s.c))
 ⟨p + q, s.a, s.b, s.c, s.d + p, s.e, s.f, s.g⟩
def rounds : St → List W → List W → St
 | s, k :: ks, w :: ws => rounds (round s k w) ks ws
 | s, _, _ => s
def table : List Nat := [0x428a2f98, 0x71374491, 0xb5c0fbcf, 0xe9b5dba5, 0x3956c25b, 0x59f111f1, 0x923f82a4, 0xab1c5ed5, 0xd807aa98, 0x12835b01, 0x243185be, 0x550c7dc3, 0x72be5d74, 0x80deb1fe, 0x9bdc06a7, 0xc19bf174, 0xe49b69c1, 0xefbe4786, 0x0fc19dc6, 0x240ca1cc, 0x2de92c6f, 0x4a7484aa, 0x5cb0a9dc, 0x76f988da, 0x983e5152, 0xa831c66d, 0xb00327c8, 0xbf597fc7, 0xc6e00bf3, 0xd5a79147, 0x06ca6351, 0x14292967, 0x27b70a85, 0x2e1b2138, 0x4d2c6dfc, 0x53380d13, 0x650a7354, 0x766a0abb, 0x81c2c92e, 0x92722c85, 0xa2bfe8a1, 0xa81a664b, 0xc24b8b70, 0xc76c51a3, 0xd192e819, 0xd6990624, 0xf40e3585, 0x106aa070, 0x19a4c116, 0x1e376c08, 0x2748774c, 0x34b0bcb5, 0x391c0cb3, 0x4ed8aa4a, 0x5b9cca4f, 0x682e6ff3, 0x748f82ee, 0x78a5636f, 0x84c87814, 0x8cc70208, 0x90befffa, 0xa4506ceb, 0xbef9a3f7, 0xc67178f2]
def ks : List W := table.map (BitVec.ofNat 32)
def grind (h : St) (b : List B) : St :=
 let v := rounds h ks (sched b)
 ⟨h.a + v.a, h.b + v.b, h.c + v.c, h.d + v.d, h.e + v.e, h.f + v.f, h.g + v.g, h.h + v.h⟩
def blocksN : Nat → St → List B → St × List B
 | 0, h, b => (h, b)
 | n + 1, h, b => if 64 ≤ b.length then blocksN n (grind h (b.take 64)) (b.drop 64) else (h, b)
def blocks (h : St) (b : List B) : St × List B := blocksN (b.length / 64) h b
def first : St := ⟨0x6a09e667#32, 0xbb67ae85#32, 0x3c6ef372#32, 0xa54ff53a#32, 0x510e527f#32, 0x9b05688c#32, 0x1f83d9ab#32, 0x5be0cd19#32⟩
def bytes8 (n : BitVec 64) : List B := [(n >>> 56).setWidth 8, (n >>> 48).setWidth 8, (n >>> 40).setWidth 8, (n >>> 32).setWidth 8, (n >>> 24).setWidth 8, (n >>> 16).setWidth 8, (n >>> 8).setWidth 8, (n >>> 0).setWidth 8]
def tail (n : Nat) : List B := 128#8 :: List.replicate ((119 - n % 64) % 64) 0#8 ++ bytes8 (BitVec.ofNat 64 n * 8#64)
def wbytes (w : W) : List B := [(w >>> 24).setWidth 8, (w >>> 16).setWidth 8, (w >>> 8).setWidth 8, w.setWidth 8]
def St.l (s : St) : List W := [s.a, s.b, s.c, s.d, s.e, s.f, s.g, s.h]
def written (s : St) : List B := (s.l.map wbytes).flatten
def sha (b : List B) : List B := written (blocks first (b ++ tail b.length)).1
theorem wd_snoc (l : List B) (x : B) : wd (l ++ [x]) = (wd l <<< 8) ||| x.setWidth 32 := by simp [wd, List.foldl_append]
theorem extN_length : ∀ (n : Nat) (w : List W), (extN n w).length = w.length + n
 | 0, w => rfl
 | n + 1, w => by rw [extN, extN_length n]; simp; omega
theorem sched_length (b : List B) : (sched b).length = 64 := by rw [sched, extN_length]; simp [words16]
theorem sha_length (b : List B) : (sha b).length = 32 := rfl
theorem extN_succ : ∀ (n : Nat) (w : List W), extN (n + 1) w = extN n w ++ [ext (extN n w)]
 | 0, w => rfl
 | n + 1, w => by rw [extN, extN_succ n (w ++ [ext w])]; rfl
theorem blocks_step (h : St) (b : List B) (hb : 64 ≤ b.length) : blocks h b = blocks (grind h (b.take 64)) (b.drop 64) := by
 have : b.length / 64 = (b.drop 64).length / 64 + 1 := by simp; omega
 rw [blocks, this, blocksN, if_pos hb]
 rfl
theorem blocks_end (h : St) (b : List B) (hb : b.length < 64) : blocks h b = (h, b) := by
 rw [blocks, Nat.div_eq_of_lt hb]; rfl
theorem blocks_rest (h : St) (b : List B) : (blocks h b).2.length = b.length % 64 := by
 generalize hn : b.length = n
 induction n using Nat.strongRecOn generalizing h b with
 | _ n ih =>
  rcases Nat.lt_or_ge b.length 64 with h1 | h1
  ·rw [blocks_end h b h1, Nat.mod_eq_of_lt (by omega)]; exact hn
  ·rw [blocks_step h b h1, ih (b.length - 64) (by omega) _ (b.drop 64) (by simp)]
   omega
theorem blocks_two (h : St) (a b : List B) : blocks h (a ++ b) = blocks (blocks h a).1 ((blocks h a).2 ++ b) := by
 generalize hn : a.length = n
 induction n using Nat.strongRecOn generalizing h a with
 | _ n ih =>
  rcases Nat.lt_or_ge a.length 64 with h1 | h1
  ·rw [blocks_end h a h1]
  ·rw [blocks_step h a h1, blocks_step h (a ++ b) (by simp; omega), List.take_append_of_le_length h1, List.drop_append_of_le_length h1]
   exact ih (a.length - 64) (by omega) _ (a.drop 64) (by simp)
end Sha
end Go.CM

namespace Go.CM
open Go Go.Proofs
def tblC : List CV := Sha.ks.map e32
def GS : Nat → CV := fun g => match Nat.beq g 1 with | true => .rptr tblC 0 | false => .bad
theorem GS_closed : ∀ g, (GS g).closed = true := by
 intro g
 unfold GS
 split
 ·exact closedL_map e32 (fun _ => rfl) _
 ·rfl
@[simp]
theorem GS_0 : GS 1 = .rptr tblC 0 := id rfl
theorem tblC_get (i : Nat) (h : i < 64) : tblC[i]? = some (e32 (Sha.ks.getD i 0#32)) := by
 have hl : Sha.ks.length = 64 := rfl
 unfold tblC
 rw [List.getElem?_map, List.getD_eq_getElem?_getD, List.getElem?_eq_getElem (by omega)]
 rfl
end Go.CM

namespace Go.CM
open Go Go.Proofs
set_option maxRecDepth 100000
namespace Sha
def rotl (x : W) (k : Int) : W := (x <<< (BitVec.ofInt 64 k &&& 31#64).toNat) ||| (x >>> (32#64 - (BitVec.ofInt 64 k &&& 31#64)).toNat)
theorem rotl_neg (x : W) (n : Nat) (h0 : 0 < n) (h : n < 32) : rotl x (-(n : Int)) = rotr x n := by
 have h1 : ∀ n : Fin 32, 0 < n.val → (BitVec.ofInt 64 (-(n.val : Int)) &&& 31#64) = BitVec.ofNat 64 (32 - n.val) := by decide
 have h2 := h1 ⟨n, h⟩ h0
 simp only at h2
 unfold rotl rotr
 rw [h2, BitVec.or_comm]
 congr 2
 ·have : ∀ n : Fin 32, 0 < n.val → (32#64 - BitVec.ofNat 64 (32 - n.val)).toNat = n.val := by decide
  exact this ⟨n, h⟩ h0
 ·have : ∀ n : Fin 32, 0 < n.val → (BitVec.ofNat 64 (32 - n.val)).toNat = 32 - n.val := by decide
  exact this ⟨n, h⟩ h0
theorem rot_ok (x : W) (k : Int) : PureC Tryz.prog GS 230 [e32 x, .int .i64 k] (e32 (rotl x k)) := by
 refine pure_of Tryz.checked.mixed GS_closed ?_
 apply call_intro c230_eq r230_eq
 unfold c230 r230
 simp
 exact rd_eq rfl rfl
theorem mix_ok (x : W) (i j k : Nat) (hi : 0 < i ∧ i < 32) (hj : 0 < j ∧ j < 32) (hk : 0 < k ∧ k < 32) : PureC Tryz.prog GS 213 [e32 x, .int .i64 i, .int .i64 j, .int .i64 k] (e32 (mix x i j k)) := by
 refine pure_of Tryz.checked.mixed GS_closed ?_
 apply call_intro c213_eq r213_eq
 unfold c213 r213
 have hn : ∀ n : Nat, n < 32 → IntKind.i64.wrap (-(n : Int)) = -(n : Int) := fun n hn => wrap_i64 (by omega) (by omega)
 simp [hn i hi.2]
 refine pure_call (rot_ok x _) rfl ?_
 simp [hn j hj.2]
 refine pure_call (rot_ok x _) rfl ?_
 simp [hn k hk.2]
 refine pure_call (rot_ok x _) rfl ?_
 simp [rotl_neg x _ hi.1 hi.2, rotl_neg x _ hj.1 hj.2, rotl_neg x _ hk.1 hk.2]
 exact rd_eq rfl rfl
def enc8 (x : B) : List CV := [e8 x]
abbrev Bs := Sv B
abbrev encBs (s : Bs) : CV := encS 1 enc8 s
theorem closed_Bs (s : Bs) : (encBs s).closed = true := closed_encS (fun _ => rfl) s
def wordsAt (b : List B) (k : Nat) : List W := ((List.range 16).map fun t => wd (((b.take k).drop (4 * t)).take 4)) ++ List.replicate 48 0#32
theorem wordsAt_length (b : List B) (k : Nat) : (wordsAt b k).length = 64 := by simp [wordsAt]
theorem wordsAt_zero (b : List B) : wordsAt b 0 = List.replicate 64 0#32 := by simp [wordsAt, wd]; rfl
theorem wordsAt_get (b : List B) (k t : Nat) (ht : t < 16) : (wordsAt b k)[t]? = some (wd (((b.take k).drop (4 * t)).take 4)) := by
 unfold wordsAt
 rw [List.getElem?_append_left (by simpa using ht), List.getElem?_map, List.getElem?_range ht]
 rfl
theorem wordsAt_succ (b : List B) (k : Nat) (hk : k < 64) (hb : k < b.length) (x : B) (hx : b[k]? = some x) :
  (wordsAt b k).set (k / 4) ((wd (((b.take k).drop (4 * (k / 4))).take 4) <<< 8) ||| x.setWidth 32) = wordsAt b (k + 1) := by
 apply List.ext_getElem?
 intro t
 rw [List.getElem?_set, wordsAt_length]
 have hxk : b.take (k + 1) = b.take k ++ [x] := by rw [List.take_add_one, hx]; rfl
 have hlen : (b.take k).length = k := by simp; omega
 by_cases ht : t < 16
 ·rw [wordsAt_get b _ t ht, wordsAt_get b _ t ht]
  by_cases h : k / 4 = t
  ·rw [if_pos h, if_pos (by omega), ← wd_snoc, hxk, h]
   congr 2
   rw [List.drop_append_of_le_length (by omega)]
   obtain ⟨A, hA⟩ : ∃ A, A = List.drop (4 * t) (List.take k b) := ⟨_, rfl⟩
   have hAl : A.length < 4 := by rw [hA]; simp; omega
   rw [← hA, List.take_of_length_le (by omega), List.take_of_length_le (by simp; omega)]
  ·rw [if_neg h, hxk]
   congr 2
   rcases Nat.lt_or_ge k (4 * t) with h1 | h1
   ·rw [List.drop_eq_nil_of_le (by omega), List.drop_eq_nil_of_le (by simp; omega)]
   ·rw [List.drop_append_of_le_length (by omega), List.take_append_of_le_length (by simp; omega)]
 ·rw [if_neg (by omega)]
  unfold wordsAt
  rw [List.getElem?_append_right (by simp; omega), List.getElem?_append_right (by simp; omega)]
  simp
theorem wordsAt_end (b : List B) (hb : 64 ≤ b.length) : wordsAt b 64 = words16 b ++ List.replicate 48 0#32 := by
 unfold wordsAt words16
 congr 1
 apply List.map_congr_left
 intro t ht
 have := List.mem_range.1 ht
 congr 1
 rw [List.drop_take, List.take_take, Nat.min_eq_left (by omega)]
def schedAt (b : List B) (k : Nat) : List W := extN k (words16 b) ++ List.replicate (48 - k) 0#32
theorem schedAt_length (b : List B) (k : Nat) (hk : k ≤ 48) : (schedAt b k).length = 64 := by simp [schedAt, extN_length, words16]; omega
theorem schedAt_get (b : List B) (k i : Nat) (hi : i < 16 + k) : (schedAt b k)[i]? = some ((extN k (words16 b)).getD i 0#32) := by
 unfold schedAt
 have hl : (extN k (words16 b)).length = 16 + k := by simp [extN_length, words16]
 rw [List.getElem?_append_left (by omega), List.getD_eq_getElem?_getD, List.getElem?_eq_getElem (by omega)]
 rfl
theorem schedAt_succ (b : List B) (k : Nat) (hk : k < 48) : (schedAt b k).set (16 + k) (ext (extN k (words16 b))) = schedAt b (k + 1) := by
 have hl : (extN k (words16 b)).length = 16 + k := by simp [extN_length, words16]
 unfold schedAt
 rw [List.set_append_right _ _ (by omega), hl, Nat.sub_self, show 48 - k = (48 - (k + 1)) + 1 by omega, List.replicate_succ, List.set_cons_zero, extN_succ]
 simp
set_option maxHeartbeats 4000000 in
theorem schedule_ok (b : List B) (hb : 64 ≤ b.length) : PureC Tryz.prog GS 212 [encBs (some b)] (.ag ((sched b).map e32)) := by
 refine pure_of Tryz.checked.mixed GS_closed ?_
 apply call_intro c212_eq r212_eq
 unfold c212 r212
 have hsl : sliceM (.sl 1) (encBs (some b)) none (some (.int .i64 64)) none = some (encBs (some (b.take 64))) := by
  unfold encBs; rw [slice_to (by omega) (by omega)]; rfl
 have hln : min 64 b.length = 64 := by omega
 simp [hsl, hln]
 refine loop_up 64 (fun k σ l => σ 2 = .ptr 0 0 64 ∧ σ 11 = encBs (some (b.take 64)) ∧ σ 12 = .int .i64 64 ∧ σ 13 = .int .i64 k ∧ l = [.cells 64 ((wordsAt b k).map e32)]) ?_ ?_
 ·rintro k σ l hk ⟨g2, g11, g12, g13, rfl⟩
  obtain ⟨σ, rfl⟩ := upds4 g2 g11 g12 g13
  clear g2 g11 g12 g13
  unfold l212_0
  simp
  by_cases h : (k : Int) < 64
  ·obtain ⟨x, hx⟩ : ∃ x, b[k]? = some x := ⟨_, List.getElem?_eq_getElem (by omega)⟩
   have hx2 : (b.take 64)[k]? = some x := by rw [List.getElem?_take_of_lt (by omega)]; exact hx
   have hia : iaC (.sl 1) (encBs (some (b.take 64))) (.int .i64 k) = some (.rptr (enc8 x) 0) := by simp [encBs, ia_encS, hx2]
   obtain ⟨q, hq4⟩ : ∃ q, q = k / 4 := ⟨_, rfl⟩
   have hq : binInt .quo .i64 (k : Int) .i64 4 = some (.int .i64 (q : Int)) := by rw [hq4]; exact bquo_nat k 4 (by omega) (by omega)
   have hwk : IntKind.i64.wrap ((k : Int) + 1) = k + 1 := wrap_i64 (by omega) (by omega)
   have hlt : (q : Int) < 64 := by omega
   have hg := wordsAt_get b k q (by omega)
   have hs := splice_set e32 (wordsAt b k) q (((wd (((b.take k).drop (4 * q)).take 4) <<< 8) ||| x.setWidth 32)) (by rw [wordsAt_length]; omega)
   rw [hq4, wordsAt_succ b k (by omega) (by omega) x hx, ← hq4] at hs
   have hle : q + 1 ≤ 64 := by omega
   simp [h, hia, enc8, hq, hlt, hg, hle, hwk, hs]
   omega
  ·have hk64 : k = 64 := by omega
   subst hk64
   simp
   refine loop_up 48 (fun j σ l => σ 2 = .ptr 0 0 64 ∧ σ 5 = .int .i64 (16 + j : Nat) ∧ l = [.cells 64 ((schedAt b j).map e32)]) ?_ ?_
   ·rintro j σ l hj ⟨g2, g5, rfl⟩
    obtain ⟨σ, rfl⟩ := upds2 g2 g5
    clear g2 g5
    unfold l212_1
    obtain ⟨t, ht⟩ : ∃ t, t = 16 + j := ⟨_, rfl⟩
    rw [← ht]
    simp
    by_cases h : (t : Int) < 64
    ·have hw1 : IntKind.i64.wrap ((t : Int) + 1) = (t + 1 : Nat) := wrap_i64 (by omega) (by omega)
     have w15 : IntKind.i64.wrap ((t : Int) - 15) = (t - 15 : Nat) := by rw [wrap_i64 (by omega) (by omega)]; omega
     have w2 : IntKind.i64.wrap ((t : Int) - 2) = (t - 2 : Nat) := by rw [wrap_i64 (by omega) (by omega)]; omega
     have w16 : IntKind.i64.wrap ((t : Int) - 16) = (t - 16 : Nat) := by rw [wrap_i64 (by omega) (by omega)]; omega
     have w7 : IntKind.i64.wrap ((t : Int) - 7) = (t - 7 : Nat) := by rw [wrap_i64 (by omega) (by omega)]; omega
     have hl : (extN j (words16 b)).length = t := by simp [extN_length, words16]; omega
     have g15 := schedAt_get b j (t - 15) (by omega)
     have g2 := schedAt_get b j (t - 2) (by omega)
     have g16 := schedAt_get b j (t - 16) (by omega)
     have g7 := schedAt_get b j (t - 7) (by omega)
     have hs := splice_set e32 (schedAt b j) t (ext (extN j (words16 b))) (by rw [schedAt_length b j (by omega)]; omega)
     rw [ht, schedAt_succ b j (by omega), ← ht] at hs
     unfold ext at hs
     rw [hl] at hs
     dsimp only at hs
     obtain ⟨i15, e15⟩ : ∃ i, i = t - 15 := ⟨_, rfl⟩
     obtain ⟨i2, e2⟩ : ∃ i, i = t - 2 := ⟨_, rfl⟩
     obtain ⟨i16, e16⟩ : ∃ i, i = t - 16 := ⟨_, rfl⟩
     obtain ⟨i7, e7⟩ : ∃ i, i = t - 7 := ⟨_, rfl⟩
     rw [← e15] at w15 g15 hs
     rw [← e2] at w2 g2 hs
     rw [← e16] at w16 g16 hs
     rw [← e7] at w7 g7 hs
     have b15 : (i15 : Int) < 64 := by omega
     have b2 : (i2 : Int) < 64 := by omega
     have b16 : (i16 : Int) < 64 := by omega
     have b7 : (i7 : Int) < 64 := by omega
     have hle : t + 1 ≤ 64 := by omega
     generalize (extN j (words16 b)).getD i15 0#32 = x at g15 hs
     generalize (extN j (words16 b)).getD i2 0#32 = y at g2 hs
     generalize (extN j (words16 b)).getD i16 0#32 = x16 at g16 hs
     generalize (extN j (words16 b)).getD i7 0#32 = x7 at g7 hs
     have r7 := rotl_neg x 7 (by omega) (by omega)
     have r18 := rotl_neg x 18 (by omega) (by omega)
     have r17 := rotl_neg y 17 (by omega) (by omega)
     have r19 := rotl_neg y 19 (by omega) (by omega)
     simp at r7 r18 r17 r19
     simp [h, w15, w2, g15, g2, b15, b2]
     refine pure_call (rot_ok _ _) rfl ?_
     simp
     refine pure_call (rot_ok _ _) rfl ?_
     simp
     refine pure_call (rot_ok _ _) rfl ?_
     simp
     refine pure_call (rot_ok _ _) rfl ?_
     simp [r7, r18, r17, r19, w16, w7, g16, g7, b16, b7, h, hs, hw1, hle]
     omega
    ·have hj48 : j = 48 := by omega
     have hs48 : schedAt b 48 = sched b := by simp [schedAt, sched]
     subst hj48
     have hl64 := sched_length b
     rw [hs48]
     simp [h, hl64, splice_all, List.take_of_length_le]
     exact rd_eq rfl (closed_agm e32 (fun _ => rfl) _)
   ·simp [schedAt, extN, wordsAt_end b hb]
 ·simp [wordsAt_zero, rep_zero _ 32]
theorem words16_take (b : List B) (n : Nat) (hn : 64 ≤ n) : words16 (b.take n) = words16 b := by
 unfold words16
 apply List.map_congr_left
 intro t ht
 have := List.mem_range.1 ht
 congr 1
 rw [List.drop_take, List.take_take, Nat.min_eq_left (by omega)]
theorem sched_take (b : List B) (n : Nat) (hn : 64 ≤ n) : sched (b.take n) = sched b := by unfold sched; rw [words16_take b n hn]
theorem rounds_succ : ∀ (k : Nat) (s : St) (a b : List W) (x y : W), a[k]? = some x → b[k]? = some y → rounds s (a.take (k + 1)) (b.take (k + 1)) = round (rounds s (a.take k) (b.take k)) x y
 | 0, s, a, b, x, y, ha, hb => by
  cases a with
  | nil => simp at ha
  | cons a al =>
   cases b with
   | nil => simp at hb
   | cons b bs => simp at ha hb; subst ha hb; simp [rounds]
 | k + 1, s, a, b, x, y, ha, hb => by
  cases a with
  | nil => simp at ha
  | cons a al =>
   cases b with
   | nil => simp at hb
   | cons b bs =>
    simp only [List.take_succ_cons, rounds]
    exact rounds_succ k _ al bs x y (by simpa using ha) (by simpa using hb)
def rAt (h : St) (b : List B) (k : Nat) : St := rounds h (ks.take k) ((sched b).take k)
theorem rAt_zero (h : St) (b : List B) : rAt h b 0 = h := rfl
theorem rAt_succ (h : St) (b : List B) (k : Nat) (hk : k < 64) : rAt h b (k + 1) = round (rAt h b k) (ks.getD k 0#32) ((sched b).getD k 0#32) := by
 have h1 : ks.length = 64 := rfl
 have h2 := sched_length b
 refine rounds_succ k h ks (sched b) _ _ ?_ ?_
 ·rw [List.getD_eq_getElem?_getD, List.getElem?_eq_getElem (by omega)]; rfl
 ·rw [List.getD_eq_getElem?_getD, List.getElem?_eq_getElem (by omega)]; rfl
theorem rAt_end (h : St) (b : List B) : rAt h b 64 = rounds h ks (sched b) := by
 have h1 : ks.length = 64 := rfl
 have h2 := sched_length b
 unfold rAt
 rw [List.take_of_length_le (by omega), List.take_of_length_le (by omega)]
def accW (a b : List W) (k : Nat) : List W := (List.zipWith (· + ·) a b).take k ++ a.drop k
theorem accW_zero (a b : List W) : accW a b 0 = a := rfl
theorem accW_len {a b : List W} (h : a.length = b.length) (k : Nat) : (accW a b k).length = a.length := by simp [accW]; omega
theorem accW_get {a b : List W} (h : a.length = b.length) {k : Nat} (hk : k < a.length) : (accW a b k)[k]? = a[k]? := by
 unfold accW
 rw [List.getElem?_append_right (by simp; omega)]
 have : (List.take k (List.zipWith (· + ·) a b)).length = k := by simp; omega
 rw [this, List.getElem?_drop]; simp
theorem accW_set {a b : List W} (h : a.length = b.length) {k : Nat} {x y : W} (hx : a[k]? = some x) (hy : b[k]? = some y) : (accW a b k).set k (x + y) = accW a b (k + 1) := by
 have hk := (List.getElem?_eq_some_iff.1 hx).1
 unfold accW
 have hl : (List.take k (List.zipWith (· + ·) a b)).length = k := by simp; omega
 have hz : (List.zipWith (· + ·) a b)[k]? = some (x + y) := by rw [List.getElem?_zipWith, hx, hy]
 rw [List.set_append_right _ _ (by omega), hl, Nat.sub_self, List.drop_eq_getElem_cons hk, List.set_cons_zero, List.take_add_one, hz]
 simp
set_option maxHeartbeats 8000000 in
theorem grind_own {h : St} {b : List B} (hb : 64 ≤ b.length) {l : Hl} {bk sz : Nat} {rest : List CV} {x : CV} {K : CV → Hl → Prop} (hl : l[bk]? = some (.cells sz (h.l.map e32 ++ rest))) (hsz : 8 ≤ sz) (hx : RdH (HL l) x (encBs (some b)))
  (hK : ∀ junk, K (.tu []) (l.set bk (.cells sz ((grind h b).l.map e32 ++ rest)) ++ junk)) : CallP Tryz.prog GS 192 [.ptr bk 0 sz, x] l (c := ⟨K⟩) := by
 apply call_intro c192_eq r192_eq
 unfold c192 r192
 simp
 refine pure_callB (schedule_ok b hb) (.cons hx .nil) (flat_agm e32 (fun _ => rfl) _) ?_
 have hn := get_lt hl
 have hsl := sched_length b
 have hl2 : (l ++ [CB.cells 64 ((sched b).map e32)])[bk]? = some (.cells sz (h.l.map e32 ++ rest)) := by rw [List.getElem?_append_left hn]; exact hl
 have hg : ∀ i (y : W), i < 8 → h.l[i]? = some y → (h.l.map e32 ++ rest)[i]? = some (e32 y) := fun i y hi hy => by
  rw [List.getElem?_append_left (by simpa [St.l] using hi), List.getElem?_map, hy]; rfl
 have q0 := hg 0 h.a (by omega) rfl
 have q1 := hg 1 h.b (by omega) rfl
 have q2 := hg 2 h.c (by omega) rfl
 have q3 := hg 3 h.d (by omega) rfl
 have q4 := hg 4 h.e (by omega) rfl
 have q5 := hg 5 h.f (by omega) rfl
 have q6 := hg 6 h.g (by omega) rfl
 have q7 := hg 7 h.h (by omega) rfl
 simp [splice_all, hsl, hl2, q0, q1, q2, q3, q4, q5, q6, q7]
 refine loop_up 64 (fun k σ l' => σ 0 = .ptr bk 0 sz ∧ σ 4 = .ptr l.length 0 64 ∧ σ 5 = e32 (rAt h b k).a ∧ σ 6 = e32 (rAt h b k).b ∧ σ 7 = e32 (rAt h b k).c ∧ σ 8 = e32 (rAt h b k).d ∧ σ 9 = e32 (rAt h b k).e ∧ σ 10 = e32 (rAt h b k).f ∧ σ 11 = e32 (rAt h b k).g ∧ σ 12 = e32 (rAt h b k).h ∧ σ 52 = .int .i64 k ∧
  l' = l ++ [.cells 64 ((sched b).map e32)]) ?_ ?_
 ·rintro k σ l' hk ⟨g0, g4, g5, g6, g7, g8, g9, g10, g11, g12, g52, rfl⟩
  obtain ⟨σ, rfl⟩ := upds11 g0 g4 g5 g6 g7 g8 g9 g10 g11 g12 g52
  clear g0 g4 g5 g6 g7 g8 g9 g10 g11 g12 g52
  unfold l192_0
  simp
  by_cases hk' : (k : Int) < 64
  ·have hwk : IntKind.i64.wrap ((k : Int) + 1) = k + 1 := wrap_i64 (by omega) (by omega)
   have hkn : k < 64 := by omega
   have ht := tblC_get k hkn
   have hsk : (sched b)[k]? = some ((sched b).getD k 0#32) := by rw [List.getD_eq_getElem?_getD, List.getElem?_eq_getElem (by omega)]; rfl
   rw [rAt_succ h b k hkn]
   generalize (sched b).getD k 0#32 = wk at *
   generalize ks.getD k 0#32 = kk at *
   generalize rAt h b k = s at *
   have m1 := mix_ok s.e 6 11 25 (by omega) (by omega) (by omega)
   have m2 := mix_ok s.a 2 13 22 (by omega) (by omega) (by omega)
   simp at m1 m2
   simp [hk', ht, hsk]
   refine pure_call m1 rfl ?_
   simp [ht, hsk]
   refine pure_call m2 rfl ?_
   simp [hkn, hwk]
   simp [round]
  ·have hk64 : k = 64 := by omega
   subst hk64
   rw [rAt_end]
   obtain ⟨v, hv⟩ : ∃ v, rounds h ks (sched b) = v := ⟨_, rfl⟩
   rw [hv]
   have hgr : grind h b = ⟨h.a + v.a, h.b + v.b, h.c + v.c, h.d + v.d, h.e + v.e, h.f + v.f, h.g + v.g, h.h + v.h⟩ := by unfold grind; rw [hv]
   simp
   have hlv : h.l.length = v.l.length := rfl
   have hl8 : h.l.length = 8 := rfl
   have hgl : (grind h b).l = accW h.l v.l 8 := by rw [hgr]; rfl
   rw [hgl] at hK
   refine loop_up 8 (fun k σ l' => σ 0 = .ptr bk 0 sz ∧ σ 111 = .ag (v.l.map e32) ∧ σ 112 = .int .i64 k ∧ l' = l.set bk (.cells sz ((accW h.l v.l k).map e32 ++ rest)) ++ [.cells 64 ((sched b).map e32)]) ?_ ?_
   ·rintro k σ l' hk ⟨g0, g111, g112, rfl⟩
    obtain ⟨σ, rfl⟩ := upds3 g0 g111 g112
    clear g0 g111 g112
    unfold l192_1
    simp
    by_cases hk' : (k : Int) < 8
    ·have hwk : IntKind.i64.wrap ((k : Int) + 1) = k + 1 := wrap_i64 (by omega) (by omega)
     have hk8 : k < 8 := by omega
     obtain ⟨y, hy⟩ : ∃ y, v.l[k]? = some y := ⟨_, List.getElem?_eq_getElem (show k < v.l.length from hk8)⟩
     obtain ⟨z, hz⟩ : ∃ z, h.l[k]? = some z := ⟨_, List.getElem?_eq_getElem (show k < h.l.length from hk8)⟩
     have ha := accW_get hlv (k := k) (by rw [hl8]; exact hk8)
     rw [hz] at ha
     have hal := accW_len hlv k
     have hs := splice_set e32 (accW h.l v.l k) k (z + y) (by rw [hal, hl8]; exact hk8)
     rw [accW_set hlv hz hy] at hs
     have hla : ((accW h.l v.l k).map e32).length = 8 := by rw [List.length_map, hal, hl8]
     have hsp : splice ((accW h.l v.l k).map e32 ++ rest) k [e32 (z + y)] = (accW h.l v.l (k + 1)).map e32 ++ rest := by
      rw [← hs]
      unfold splice
      rw [List.take_append_of_le_length (by omega), List.drop_append_of_le_length (by simp; omega)]
      simp
     have hgt : ((accW h.l v.l k).map e32 ++ rest)[k]? = some (e32 z) := by rw [List.getElem?_append_left (by omega), List.getElem?_map, ha]; rfl
     have hl3 : (l.set bk (.cells sz ((accW h.l v.l k).map e32 ++ rest)) ++ [CB.cells 64 ((sched b).map e32)])[bk]? = some (.cells sz ((accW h.l v.l k).map e32 ++ rest)) := by
      rw [List.getElem?_append_left (by simpa using hn), List.getElem?_set]; simp [hn]
     have hks : k + 1 ≤ sz := by omega
     simp [hk', hy, hgt, hl3, hwk, hsp, hk8, hks, hn, List.set_append]
    ·have hk8 : k = 8 := by omega
     subst hk8
     simp
     exact hK _
   ·have hset : l.set bk (.cells sz ((accW h.l v.l 0).map e32 ++ rest)) = l := by
     rw [accW_zero]; exact set_same' hl
    rw [hset]
    simp [St.l]
 ·simp [rAt_zero]
abbrev encL (ls : Sv Bs) : CV := encS 1 (fun s => [encBs s]) ls
theorem closed_L (ls : Sv Bs) : (encL ls).closed = true := closed_encS (fun s => by simp only [closedL, closed_Bs, Bool.and_self]) ls
def bytesOf (ls : List Bs) : List B := (ls.map Sv.l).flatten
theorem bytesOf_take (ls : List Bs) (k : Nat) (s : Bs) (h : ls[k]? = some s) : bytesOf (ls.take (k + 1)) = bytesOf (ls.take k) ++ s.l := by
 unfold bytesOf
 rw [List.take_add_one, h]; simp
theorem bytesOf_le (ls : List Bs) (k : Nat) : (bytesOf (ls.take k)).length ≤ (bytesOf ls).length := by
 conv => rhs; rw [← List.take_append_drop k ls]
 unfold bytesOf
 rw [List.map_append, List.flatten_append, List.length_append]
 omega
theorem grow_own {n : Nat} (hn : n ≤ 1000000000) {l : Hl} {K : CV → Hl → Prop} (hK : ∀ v j l', OwnS 1 l' v j [] → l.length ≤ l'.length → (∀ b, b < l.length → l'[b]? = l[b]?) → (isNilS v = decide (n = 0)) → K v l') : CallP Tryz.prog GS 153 [.nilS, .int .i64 n] l (c := ⟨K⟩) := by
 apply call_intro c153_eq r153_eq
 unfold c153 r153
 have h1 : ¬((n : Int) < 0) := by omega
 have hw : IntKind.i64.wrap (n : Int) = n := wrap_i64 (by omega) (by omega)
 have hw0 : IntKind.i64.wrap (0 : Int) = 0 := rfl
 by_cases h0 : n = 0
 ·subst h0
  simp
  exact hK _ 0 _ (.nil 0) (Nat.le_refl _) (fun _ _ => rfl) rfl
 have h2 : (0 : Int) < n := by omega
 have hz : appZM l 1 1 [.int .u8 0] .nilS (.int .i64 n) = some (.sl 1 l.length 0 n n (n * 1), l ++ [.cells (n * 1) (repeatC [.int .u8 0] n)]) := by
  unfold appZM appendL
  simp only [Int.toNat_natCast]
  have hr : roomMax = 140737488355328 := rfl
  rw [if_pos ⟨by omega, by omega, by rw [hr]; omega⟩, if_neg h0, if_neg (by omega), if_pos (by rw [hr]; omega)]
 have hs : sliceM (.sl 1) (.sl 1 l.length 0 n n (n * 1)) none (some (.int .i64 0)) none = some (.sl 1 l.length 0 0 n (n * 1)) := by
  rw [sliceM_sl, bounds_hi, if_pos ⟨by omega, by omega⟩]
  simp [h0]
 rw [Nat.mul_one] at hz hs
 have h3 : 0 < n := by omega
 simp [h1, h2, h3, hw, hz, hw0, hs]
 refine hK _ l.length (l ++ [.cells n (repeatC [.int .u8 0] n)]) (.sl _ 0 n n (repeatC [.int .u8 0] n) [] (by simp) (by rw [repeatC_len']; simp) rfl (by simp) (by omega) (by omega) rfl) (by simp) (fun b hb => List.getElem?_append_left hb) ?_
 simp [isNilS, h0]
def catB (ls : List Bs) : Bs := if bytesOf ls = [] then none else some (bytesOf ls)
theorem catB_l (ls : List Bs) : (catB ls).l = bytesOf ls := by unfold catB; split <;> simp_all
set_option maxHeartbeats 4000000 in
theorem concat_ok (ls : List Bs) (hl : (bytesOf ls).length ≤ 1000000000) (hll : ls.length ≤ 1000000000) : PureN Tryz.prog GS 110 [encL (some ls)] (encBs (catB ls)) := by
 refine pureN_of Tryz.checked.mixed GS_closed ?_
 apply call_intro c110_eq r110_eq
 unfold c110 r110
 simp
 have hia : ∀ (k : Nat) (s : Bs), ls[k]? = some s → iaC (.sl 1) (encL (some ls)) (.int .i64 k) = some (.rptr [encBs s] 0) := fun k s hs => by simp [encL, ia_encS, hs]
 refine loop_up ls.length (fun k σ l => σ 0 = encL (some ls) ∧ σ 9 = encL (some ls) ∧ σ 10 = .int .i64 ls.length ∧ σ 11 = .int .i64 k ∧ σ 3 = .int .i64 (bytesOf (ls.take k)).length ∧ l = []) ?_ ?_
 ·rintro k σ l hk ⟨g0, g9, g10, g11, g3, rfl⟩
  obtain ⟨σ, rfl⟩ := upds5 g0 g3 g9 g10 g11
  clear g0 g3 g9 g10 g11
  unfold l110_0
  simp
  by_cases h : k < ls.length
  ·obtain ⟨s, hs, _⟩ := get_of h
   have hb := bytesOf_take ls k s hs
   have hle := bytesOf_le ls (k + 1)
   rw [hb, List.length_append] at hle
   have hw : IntKind.i64.wrap (((bytesOf (ls.take k)).length : Int) + s.l.length) = ((bytesOf (ls.take k)).length : Int) + s.l.length := wrap_i64 (by omega) (by omega)
   have hwk : IntKind.i64.wrap ((k : Int) + 1) = k + 1 := wrap_i64 (by omega) (by omega)
   have hneg : ¬(((bytesOf (ls.take k)).length : Int) + s.l.length < 0) := by omega
   simp [h, hia k s hs, hw, hneg, hwk, hb]
  ·have hkl : k = ls.length := by omega
   subst hkl
   simp
   refine grow_own hl ?_
   intro v j l ho hlen _ hnil
   simp
   refine loop_up ls.length (fun k σ l => σ 25 = encL (some ls) ∧ σ 26 = .int .i64 ls.length ∧ σ 27 = .int .i64 k ∧ ∃ v j, σ 6 = v ∧ OwnS 1 l v j ((bytesOf (ls.take k)).map enc8) ∧ isNilS v = decide (bytesOf ls = [])) ?_ ?_
   ·rintro k σ l hk ⟨g25, g26, g27, v, j, g6, ho, hnil⟩
    obtain ⟨σ, rfl⟩ := upds4 g6 g25 g26 g27
    clear g6 g25 g26 g27
    unfold l110_1
    simp
    by_cases h : k < ls.length
    ·obtain ⟨s, hs, _⟩ := get_of h
     have hb := bytesOf_take ls k s hs
     have hle := bytesOf_le ls (k + 1)
     rw [hb, List.length_append] at hle
     have hwk : IntKind.i64.wrap ((k : Int) + 1) = k + 1 := wrap_i64 (by omega) (by omega)
     have hr : roomMax = 140737488355328 := rfl
     obtain ⟨v', j', l', h1, h2, h3, h4, h5, h6⟩ := app_law (by_ := 1) ho (x := encBs s) (xs := s.l.map enc8) (by simp [encBs]) (fun e he => by obtain ⟨x, _, rfl⟩ := List.mem_map.1 he; rfl) (by omega) (by omega) (by simp; omega)
     simp [h, hia k s hs, h1]
     refine AppK.keep ?_
     simp [h, hwk]
     refine ⟨⟨j', by rw [hb, List.map_append]; exact h2⟩, ?_⟩
     rw [isNil_app h6, hnil]
     by_cases he : bytesOf ls = []
     ·have h0 : (bytesOf ls).length = 0 := by rw [he]; rfl
      have : s.l = [] := List.length_eq_zero_iff.1 (by omega)
      simp [he, this]
     ·simp [he]
    ·have hkl : k = ls.length := by omega
     subst hkl
     simp
     rw [List.take_length] at ho
     refine ho.rdN_enc (fun _ => rfl) _ ?_ (catB_l ls)
     rw [hnil]
     unfold catB
     split <;> simp_all
   ·simp
    refine ⟨⟨j, by simpa [bytesOf] using ho⟩, ?_⟩
    rw [hnil]
    simp [List.length_eq_zero_iff]
 ·simp [bytesOf]
theorem cloneB_nil (s : Sv B) : binC Tryz.prog .eql 143 (encS 1 enc8 s) .nilS = some (.bool s.isNone) := bin_nil_eql (e := 5) (by kernel_rfl) 1 enc8 s
theorem cloneB_own {s : Sv B} (hs : s.l.length ≤ 1000000000) {l : Hl} {K : CV → Hl → Prop} (hK : ∀ v j l', OwnS 1 l' v j (s.l.map enc8) → l.length ≤ l'.length → (∀ b, b < l.length → l'[b]? = l[b]?) → (v = .nilS ∨ l.length ≤ j) → isNilS v = s.isNone → K v l') : CallP Tryz.prog GS 193 [encS 1 enc8 s] l (c := ⟨K⟩) := by
 apply call_intro c193_eq r193_eq
 unfold c193 r193
 simp [cloneB_nil]
 cases s with
 | none =>
  simp
  exact hK _ 0 _ (.nil 0) (Nat.le_refl _) (fun _ _ => rfl) (.inl rfl) rfl
 | some b =>
  simp
  have hr : roomMax = 140737488355328 := rfl
  have hs' : b.length ≤ 1000000000 := hs
  have ho : OwnS 1 (l ++ [CB.cells 0 []]) (.sl 1 l.length 0 0 0 0) l.length [] := .sl l.length 0 0 0 [] [] (by simp) rfl rfl (by simp) (Nat.le_refl _) (by omega) rfl
  obtain ⟨v', j', l', h1, h2, h3, h4, h5, h6⟩ := app_law (by_ := 1) ho (x := encS 1 enc8 (some b)) (xs := b.map enc8) (by simp) (fun e he => by obtain ⟨x, _, rfl⟩ := List.mem_map.1 he; rfl) (by omega) (by omega) (by simp; omega)
  simp [h1]
  refine AppK.keep ?_
  simp
  have h3' : l.length + 1 ≤ l'.length := by simpa using h3
  refine hK _ j' _ h2 (by omega) (fun b hb => ?_) (.inr (by rcases h5 with h | h <;> (try simp only [List.length_append, List.length_cons, List.length_nil] at h) <;> omega)) ?_
  ·rw [h4 b (by simp; omega) (by omega), List.getElem?_append_left hb]
  ·rw [isNil_app h6]; rfl
structure Mill where
 st : St
 rest : Bs
 n : Int
def millC (s : St) (r : CV) (n : Int) : List CV := s.l.map e32 ++ [r, .int .i64 n]
def encM (m : Mill) : CV := .ag (millC m.st (encBs m.rest) m.n)
def feedM (m : Mill) (b : Bs) : Mill :=
 let all := m.rest.l ++ b.l
 ⟨(blocks m.st all).1, if all = [] then none else some (blocks m.st all).2, m.n + b.l.length⟩
theorem catB_two (a b : Bs) : catB [a, b] = if a.l ++ b.l = [] then none else some (a.l ++ b.l) := by
 have : bytesOf [a, b] = a.l ++ b.l := by simp [bytesOf]
 unfold catB
 rw [this]
theorem grind_take (h : St) (b : List B) : grind h (b.take 64) = grind h b := by unfold grind; rw [sched_take b 64 (by omega)]
theorem millC_len (s : St) (r : CV) (n : Int) : (millC s r n).length = 10 := rfl
set_option maxHeartbeats 8000000 in
theorem feed_ok (m : Mill) (b : Bs) (hl : m.rest.l.length + b.l.length ≤ 1000000000) (hn : 0 ≤ m.n) (hn2 : m.n ≤ 1000000000) : PureN Tryz.prog GS 161 [encM m, encBs b] (encM (feedM m b)) := by
 refine pureN_of Tryz.checked.mixed GS_closed ?_
 apply call_intro c161_eq r161_eq
 unfold c161 r161
 have hc : (CV.ag (millC m.st (encBs m.rest) m.n)).cells = some (millC m.st (encBs m.rest) m.n) := rfl
 have h8 : (millC m.st (encBs m.rest) m.n)[8]? = some (encBs m.rest) := rfl
 have hcat := concat_ok [m.rest, b] (by simp [bytesOf]; exact hl) (by simp)
 rw [catB_two] at hcat
 simp [encM, millC_len, h8]
 refine pureN_callB hcat (.cons ?_ .nil) ?_
 ·exact rdH_rows (es := [[encBs m.rest], [encBs b]]) (rest := []) rfl rfl (by simp) (by simp [closedL, closed_Bs])
 obtain ⟨all, hall⟩ : ∃ all, all = m.rest.l ++ b.l := ⟨_, rfl⟩
 have hal : all.length ≤ 1000000000 := by rw [hall]; simpa using hl
 rw [← hall]
 simp
 refine loop_up (all.length / 64) (fun k σ l => σ 1 = encBs b ∧ σ 2 = .ptr 0 0 10 ∧ σ 4 = .ptr 1 0 10 ∧ ∃ h s zs junk, σ 5 = encBs s ∧ l = .cells 10 (millC h (encBs m.rest) m.n) :: .cells 10 zs :: junk ∧ blocks m.st all = blocks h s.l ∧ s.l.length = all.length - 64 * k ∧ zs.length = 10 ∧ s.isNone = decide (all = [])) ?_ ?_
 ·rintro k σ l hk ⟨g1, g2, g4, h, s, zs, junk, g5, rfl, hbl, hcl, hz1, hnone⟩
  obtain ⟨σ, rfl⟩ := upds4 g1 g2 g4 g5
  clear g1 g2 g4 g5
  unfold l161_0
  have hlen : lenM (.sl 1) (encBs s) = some (.int .i64 s.l.length) := len_encS _
  simp [hlen]
  by_cases h64 : (64 : Int) ≤ s.l.length
  ·cases s with
   | none => simp at h64
   | some cur =>
   have h64c : (64 : Int) ≤ cur.length := h64
   have h64' : 64 ≤ cur.length := by omega
   simp [h64c]
   refine grind_own (h := h) (b := cur) h64' (l := .cells 10 (millC h (encBs m.rest) m.n) :: .cells 10 zs :: junk) (bk := 0) (sz := 10) (rest := [encBs m.rest, .int .i64 m.n]) rfl (by omega) (rdH_same (closed_Bs _)) (fun jk => ?_)
   have hsl : sliceM (.sl 1) (encBs (some cur)) (some (.int .i64 64)) none none = some (encBs (some (cur.drop 64))) := by
    unfold encBs; rw [slice_from (by omega) (by omega)]; rfl
   simp [hsl]
   have hcl' : cur.length = all.length - 64 * k := hcl
   refine ⟨by omega, grind h cur, some (cur.drop 64), rfl, zs, ⟨rfl, rfl⟩, ?_, ?_, hz1, ?_⟩
   ·rw [hbl]
    show blocks h cur = _
    rw [blocks_step h cur h64', grind_take]; rfl
   ·simp; omega
   ·exact hnone
  ·have hlt : s.l.length < 64 := by omega
   have hw : IntKind.i64.wrap (m.n + (b.l.length : Int)) = m.n + b.l.length := wrap_i64 (by omega) (by omega)
   have h9 : (millC h (encBs m.rest) m.n)[9]? = some (.int .i64 m.n) := rfl
   have hlb : lenM (.sl 1) (encBs b) = some (.int .i64 b.l.length) := len_encS _
   simp [h64, h9, hlb, hw]
   refine cloneB_own (by omega) ?_
   intro v j l ho hl1 hl2 hj hnil
   obtain ⟨l', rfl⟩ : ∃ l', l = .cells 10 (millC h (encBs m.rest) m.n) :: .cells 10 zs :: l' := by
    have e0 := hl2 0 (by simp)
    have e1 := hl2 1 (by simp)
    cases l with
    | nil => simp at e0
    | cons a l => cases l with
     | nil => simp at e1
     | cons c l => simp at e0 e1; subst e0 e1; exact ⟨l, rfl⟩
   have hsp9 : ∀ r n n', splice (millC h r n) 9 [.int .i64 n'] = millC h r n' := fun _ _ _ => rfl
   have hsp8 : ∀ r n r', splice (millC h r n) 8 [r'] = millC h r' n := fun _ _ _ => rfl
   have hv := ho.cells
   simp [h9, hsp9, hsp8, hv, millC_len, hz1, splice_all]
   have htk : ∀ r n, List.take 10 (millC h r n) = millC h r n := fun _ _ => rfl
   rw [htk, htk]
   have hfin : feedM m b = ⟨h, if all = [] then none else some s.l, m.n + b.l.length⟩ := by
    unfold feedM
    rw [← hall]
    dsimp only
    rw [hbl, blocks_end h s.l hlt]
   rw [hfin]
   have hrd := (ho.frame2 (l' := .cells 10 (millC h v (m.n + (b.l.length : Int))) :: .cells 10 (millC h v (m.n + (b.l.length : Int))) :: l') (by
    rcases hj with hj | hj
    ·exact .inl hj
    ·obtain ⟨q, rfl⟩ : ∃ q, j = q + 2 := ⟨j - 2, by simp at hj; omega⟩
     exact .inr rfl)).rdN_enc (fun _ => rfl) (if all = [] then none else some s.l) (by
     rw [hnil, hnone]; split <;> simp_all) (by
     split
     ·rename_i he; rw [he] at hcl; simp at hcl; rw [hcl]; rfl
     ·rfl)
   refine .ag _ _ rfl fun i c c' hc1 hc2 => ?_
   rcases i with _ | _ | _ | _ | _ | _ | _ | _ | _ | _ | i <;> simp [millC, St.l] at hc1 hc2
   all_goals subst hc1 hc2
   all_goals first | exact hrd | exact .flat _ rfl
 ·simp
  exact ⟨m.st, (if all = [] then none else some all), rfl, ⟨[.int .u32 0, .int .u32 0, .int .u32 0, .int .u32 0, .int .u32 0, .int .u32 0, .int .u32 0, .int .u32 0, .nilS, .int .i64 0], ⟨rfl, rfl⟩, by split <;> simp_all, by split <;> simp_all, rfl, by split <;> simp_all⟩⟩
def idC (b : List B) : CV := .ag (b.map e8)
def tailAt (n k : Nat) : List B := 128#8 :: List.replicate ((119 - n % 64) % 64) 0#8 ++ (bytes8 (BitVec.ofNat 64 n * 8#64)).take k
theorem tailAt_end (n : Nat) : tailAt n 8 = tail n := rfl
theorem tailAt_succ (n k : Nat) (x : B) (hx : (bytes8 (BitVec.ofNat 64 n * 8#64))[k]? = some x) : tailAt n (k + 1) = tailAt n k ++ [x] := by
 unfold tailAt
 rw [List.take_add_one, hx]; simp
theorem tailAt_len (n k : Nat) : (tailAt n k).length ≤ 80 := by
 unfold tailAt
 have : (bytes8 (BitVec.ofNat 64 n * 8#64)).length = 8 := rfl
 simp; omega
theorem bytes8_get (q : BitVec 64) (k : Nat) (hk : k < 8) : (bytes8 q)[k]? = some ((q >>> (56 - 8 * k)).setWidth 8) := by
 match k, hk with
 | 0, _ => rfl
 | 1, _ => rfl
 | 2, _ => rfl
 | 3, _ => rfl
 | 4, _ => rfl
 | 5, _ => rfl
 | 6, _ => rfl
 | 7, _ => rfl
def outAt (s : List W) (k : Nat) : List B := ((s.take k).map wbytes).flatten ++ List.replicate (32 - 4 * k) 0#8
theorem wflat_len (s : List W) : (s.map wbytes).flatten.length = 4 * s.length := by
 induction s with
 | nil => rfl
 | cons w s ih => simp [ih, wbytes]; omega
theorem outAt_len (s : List W) (k : Nat) (hk : k ≤ s.length) (hs : s.length = 8) : (outAt s k).length = 32 := by
 unfold outAt
 rw [List.length_append, wflat_len]
 simp; omega
theorem outAt_succ (s : List W) (k : Nat) (w : W) (hk : s[k]? = some w) (hs : s.length = 8) :
  ((((outAt s k).set (4 * k) ((w >>> 24).setWidth 8)).set (4 * k + 1) ((w >>> 16).setWidth 8)).set (4 * k + 2) ((w >>> 8).setWidth 8)).set (4 * k + 3) (w.setWidth 8) = outAt s (k + 1) := by
 have hk8 := (List.getElem?_eq_some_iff.1 hk).1
 unfold outAt
 rw [List.take_add_one, hk]
 have hA : ((s.take k).map wbytes).flatten.length = 4 * k := by rw [wflat_len]; simp; omega
 obtain ⟨A, hAe⟩ : ∃ A, A = ((s.take k).map wbytes).flatten := ⟨_, rfl⟩
 rw [← hAe] at hA ⊢
 have hr : 32 - 4 * k = (32 - 4 * (k + 1)) + 1 + 1 + 1 + 1 := by omega
 rw [hr, List.replicate_succ, List.replicate_succ, List.replicate_succ, List.replicate_succ]
 rw [List.set_append_right _ _ (by omega), List.set_append_right _ _ (by omega), List.set_append_right _ _ (by omega), List.set_append_right _ _ (by omega)]
 simp only [hA, Nat.sub_self, Nat.add_sub_cancel_left, List.set_cons_zero, List.set_cons_succ, List.map_append, List.flatten_append, ← hAe]
 simp [wbytes]
def endM (s : St) (r : Bs) (n : Nat) : List B := written (blocks s (r.l ++ tail n)).1
set_option maxHeartbeats 8000000 in
theorem end_ok (s : St) (r : Bs) (n : Nat) (hr : r.l.length ≤ 100000000) (hn : n ≤ 100000000) : PureC Tryz.prog GS 162 [encM ⟨s, r, n⟩] (idC (endM s r n)) := by
 refine pure_of Tryz.checked.mixed GS_closed ?_
 apply call_intro c162_eq r162_eq
 unfold c162 r162
 have h9 : (millC s (encBs r) n)[9]? = some (.int .i64 n) := rfl
 have hc : (CV.ag (millC s (encBs r) n)).cells = some (millC s (encBs r) n) := rfl
 have hrem := brem_nat n 64 (by omega)
 obtain ⟨q, hq⟩ : ∃ q, q = n % 64 := ⟨_, rfl⟩
 rw [show ((64 : Int).toNat) = 64 from rfl, ← hq] at hrem
 have hq64 : q < 64 := by rw [hq]; exact Nat.mod_lt _ (by omega)
 have hw1 : IntKind.i64.wrap (119 - (q : Int)) = (119 - q : Nat) := by rw [wrap_i64 (by omega) (by omega)]; omega
 have hrem2 := brem_nat (119 - q) 64 (by omega)
 rw [show ((64 : Int).toNat) = 64 from rfl] at hrem2
 obtain ⟨m, hm⟩ : ∃ m, m = (119 - q) % 64 := ⟨_, rfl⟩
 rw [← hm] at hrem2
 have hm64 : m < 64 := by rw [hm]; exact Nat.mod_lt _ (by omega)
 obtain ⟨t, ht⟩ : ∃ t, t = 119 - q := ⟨_, rfl⟩
 rw [← ht] at hw1 hrem2
 have hr0 : roomMax = 140737488355328 := rfl
 obtain ⟨L, hL⟩ : ∃ L : Hl, L = [CB.cells 10 (millC s (encBs r) n), CB.cells 32 (rep 32 (CV.int IntKind.u8 0)), CB.cells 1 [CV.int IntKind.u8 128]] := ⟨_, rfl⟩
 have hL0 : L[0]? = some (CB.cells 10 (millC s (encBs r) n)) := by rw [hL]; rfl
 have hL1 : L[1]? = some (CB.cells 32 (rep 32 (CV.int IntKind.u8 0))) := by rw [hL]; rfl
 have hLl : L.length = 3 := by rw [hL]; rfl
 have ho0 : OwnS 1 L (.sl 1 2 0 1 1 1) 2 [[CV.int IntKind.u8 128]] := by
  rw [hL]
  exact .sl 2 1 1 1 [.int .u8 128] _ rfl rfl rfl (by simp) (Nat.le_refl _) (Nat.le_refl _) rfl
 have hm9 : m < 9223372036854775808 := by omega
 have hroom : (List.length [[CV.int IntKind.u8 128]] + m) * 1 ≤ roomMax := by rw [hr0]; simp; omega
 have hlaw := appZ_law (n := m) (k := .i64) (by_ := 1) (zero := [.int .u8 0]) ho0 rfl (by omega) (by omega) hm9 hroom
 obtain ⟨v, j, l, h1, ho, h3, h4, h5, h6⟩ := hlaw
 have hv : isNilS v = false := by
  rw [Bool.eq_false_iff]; intro hh
  rw [isNil_iff, h6] at hh
  cases hh.1
 have hu : u 128#8 = 128 := by decide
 have he : ([[CV.int IntKind.u8 128]] ++ List.replicate m [CV.int IntKind.u8 0] : List (List CV)) = (tailAt n 0).map enc8 := by
  have : m = (119 - n % 64) % 64 := by rw [hm, hq]
  unfold tailAt
  rw [← this]
  simp [enc8, hu]
 rw [he] at ho
 have e0 := (h4 0 (by omega) (by omega)).trans hL0
 have e1 := (h4 1 (by omega) (by omega)).trans hL1
 have hj2 : 2 ≤ j := by rcases h5 with h | h <;> omega
 simp [encM, millC_len, h9, hrem, hw1, hrem2]
 rw [← hL]
 simp [h1]
 refine loop_up 8 (fun k σ l => σ 1 = .ptr 0 0 10 ∧ σ 2 = .ptr 1 0 32 ∧ σ 3 = e64 (BitVec.ofNat 64 n * 8#64) ∧ σ 5 = .int .i64 (56 - 8 * (k : Int)) ∧ ∃ v j, σ 4 = v ∧ 2 ≤ j ∧ isNilS v = false ∧ OwnS 1 l v j ((tailAt n k).map enc8) ∧ l[0]? = some (CB.cells 10 (millC s (encBs r) n)) ∧ l[1]? = some (CB.cells 32 (rep 32 (CV.int IntKind.u8 0)))) ?_ ?_
 ·rintro k σ l hk ⟨g1, g2, g3, g5, v, j, g4, hj, hv, ho, e0, e1⟩
  obtain ⟨σ, rfl⟩ := upds5 g1 g2 g3 g4 g5
  clear g1 g2 g3 g4 g5
  unfold l162_0
  obtain ⟨c, hc⟩ : ∃ c : Int, c = 56 - 8 * (k : Int) := ⟨_, rfl⟩
  rw [← hc]
  simp
  by_cases hk8 : 0 ≤ c
  ·have hk7 : k < 8 := by omega
   have hx := bytes8_get (BitVec.ofNat 64 n * 8#64) k hk7
   have hcn : c.toNat = 56 - 8 * k := by omega
   have hwc : IntKind.i64.wrap (c - 8) = 56 - 8 * ((k : Int) + 1) := by rw [wrap_i64 (by omega) (by omega)]; omega
   have htl := tailAt_len n k
   have ho2 : OwnS 1 (l ++ [CB.cells 1 [e8 (((BitVec.ofNat 64 n * 8#64) >>> (56 - 8 * k)).setWidth 8)]]) v j ((tailAt n k).map enc8) := ho.more _
   obtain ⟨v', j', l', h1, h2, h3, h4, h5, h6⟩ := app_law (by_ := 1) ho2 (x := .sl 1 l.length 0 1 1 1) (xs := [[e8 (((BitVec.ofNat 64 n * 8#64) >>> (56 - 8 * k)).setWidth 8)]]) (by simp [contentsL]) (by simp) (by omega) (by omega) (by simp; omega)
   have hjl : j < l.length := by
    rcases ho.lt with h | h
    ·subst h; simp [isNilS] at hv
    ·exact h
   have e0' : l'[0]? = some (CB.cells 10 (millC s (encBs r) n)) := by rw [h4 0 (by simp) (by omega), List.getElem?_append_left (get_lt e0)]; exact e0
   have e1' : l'[1]? = some (CB.cells 32 (rep 32 (CV.int IntKind.u8 0))) := by
    have := get_lt e1
    rw [h4 1 (by simp; omega) (by omega), List.getElem?_append_left (get_lt e1)]; exact e1
   have hv' : isNilS v' = false := by rw [isNil_app h6, hv]; rfl
   have hj' : 2 ≤ j' := by
    rcases h5 with h | h
    ·omega
    ·have h := Nat.le_trans (show l.length ≤ (l ++ [CB.cells 1 [e8 (((BitVec.ofNat 64 n * 8#64) >>> (56 - 8 * k)).setWidth 8)]]).length by simp) h
     omega
   simp [hk8, hcn, h1]
   refine AppK.keep ?_
   simp [hk8, hwc]
   exact ⟨by omega, j', hj', hv', by rw [tailAt_succ n k _ hx, List.map_append]; exact h2, e0', e1'⟩
  ·have hk8' : k = 8 := by omega
   subst hk8'
   rw [tailAt_end] at ho
   have hfd := feed_ok ⟨s, r, n⟩ (some (tail n)) (by have := tailAt_len n 8; rw [tailAt_end] at this; simp; omega) (by simp) (by simp; omega)
   have hx := ho.rdH_enc (fun _ => rfl) (some (tail n)) (by rw [hv]; rfl) rfl
   have hfw : (feedM ⟨s, r, n⟩ (some (tail n))).st = (blocks s (r.l ++ tail n)).1 := rfl
   obtain ⟨F, hF⟩ : ∃ F, F = feedM ⟨s, r, n⟩ (some (tail n)) := ⟨_, rfl⟩
   rw [← hF] at hfd hfw
   have hmc : closedL [encM ⟨s, r, n⟩] = true := by simp [closedL, encM, CV.closed, millC, St.l, closed_Bs]
   have hfA : fldCA 8 0 (encM F) = some (.ag (F.st.l.map e32)) := rfl
   have hl8 : F.st.l.length = 8 := rfl
   simp [hk8, e0, millC_len]
   refine pureN_callB hfd (.cons (rdH_same ?_) (.cons hx .nil)) ?_
   ·show (CV.ag (millC s (encBs r) n)).closed = true
    simp [CV.closed, closedL, millC, St.l, closed_Bs]
   simp [hfA]
   refine loop_up 8 (fun k σ l => σ 2 = .ptr 1 0 32 ∧ σ 33 = .ag (F.st.l.map e32) ∧ σ 34 = .int .i64 k ∧ l[1]? = some (CB.cells 32 ((outAt F.st.l k).map e8))) ?_ ?_
   ·rintro k σ l hk ⟨g2, g33, g34, e1⟩
    obtain ⟨σ, rfl⟩ := upds3 g2 g33 g34
    clear g2 g33 g34
    obtain ⟨x0, l2, rfl⟩ := two_of e1
    clear e1
    unfold l162_1
    simp
    by_cases hk8 : (k : Int) < 8
    ·have hk' : k < 8 := by omega
     obtain ⟨w, hw⟩ : ∃ w, F.st.l[k]? = some w := ⟨_, List.getElem?_eq_getElem (show k < F.st.l.length from hk')⟩
     have hol := outAt_len F.st.l k (by omega) hl8
     have hos := outAt_succ F.st.l k w hw hl8
     have w0 : IntKind.i64.wrap (4 * (k : Int)) = (4 * k : Nat) := by rw [wrap_i64 (by omega) (by omega)]; omega
     have w1 : IntKind.i64.wrap (((4 * k : Nat) : Int) + 1) = (4 * k + 1 : Nat) := by rw [wrap_i64 (by omega) (by omega)]; omega
     have w2 : IntKind.i64.wrap (((4 * k : Nat) : Int) + 2) = (4 * k + 2 : Nat) := by rw [wrap_i64 (by omega) (by omega)]; omega
     have w3 : IntKind.i64.wrap (((4 * k : Nat) : Int) + 3) = (4 * k + 3 : Nat) := by rw [wrap_i64 (by omega) (by omega)]; omega
     have wk : IntKind.i64.wrap ((k : Int) + 1) = k + 1 := wrap_i64 (by omega) (by omega)
     obtain ⟨a, ha⟩ : ∃ a, a = 4 * k := ⟨_, rfl⟩
     rw [← ha] at w0 w1 w2 w3 hos
     have s0 := splice_set e8 (outAt F.st.l k) a ((w >>> 24).setWidth 8) (by omega)
     have s1 := splice_set e8 ((outAt F.st.l k).set a ((w >>> 24).setWidth 8)) (a + 1) ((w >>> 16).setWidth 8) (by simp; omega)
     have s2 := splice_set e8 (((outAt F.st.l k).set a ((w >>> 24).setWidth 8)).set (a + 1) ((w >>> 16).setWidth 8)) (a + 2) ((w >>> 8).setWidth 8) (by simp; omega)
     have s3 := splice_set e8 ((((outAt F.st.l k).set a ((w >>> 24).setWidth 8)).set (a + 1) ((w >>> 16).setWidth 8)).set (a + 2) ((w >>> 8).setWidth 8)) (a + 3) (w.setWidth 8) (by simp; omega)
     rw [hos] at s3
     have b0 : (a : Int) < 32 := by omega
     have b1 : ((a + 1 : Nat) : Int) < 32 := by omega
     have b2 : ((a + 2 : Nat) : Int) < 32 := by omega
     have b3 : ((a + 3 : Nat) : Int) < 32 := by omega
     have c0 : a + 1 ≤ 32 := by omega
     have c1 : a + 1 + 1 ≤ 32 := by omega
     have c2 : a + 2 + 1 ≤ 32 := by omega
     have c3 : a + 3 + 1 ≤ 32 := by omega
     have d1 : (a : Int) + 1 < 32 := by omega
     have d2 : (a : Int) + 2 < 32 := by omega
     have d3 : (a : Int) + 3 < 32 := by omega
     have f1 : ((a : Int) + 1).toNat = a + 1 := by omega
     have f2 : ((a : Int) + 2).toNat = a + 2 := by omega
     have f3 : ((a : Int) + 3).toNat = a + 3 := by omega
     have o1 : (0 : Int) ≤ (a : Int) + 1 := by omega
     have o2 : (0 : Int) ≤ (a : Int) + 2 := by omega
     have o3 : (0 : Int) ≤ (a : Int) + 3 := by omega
     simp [hk8, hk', hw, w0, w1, w2, w3, wk, b0, s0, s1, s2, s3, c0, c1, c2, c3, d1, d2, d3, f1, f2, f3, o1, o2, o3, -List.map_set]
    ·have hk8' : k = 8 := by omega
     subst hk8'
     have ho8 : outAt F.st.l 8 = written F.st := by simp [outAt, written, St.l]
     rw [ho8]
     have hwl : (written F.st).length = 32 := rfl
     simp [hwl, splice_all, List.take_of_length_le]
     exact rd_eq (by unfold idC endM; rw [hfw]) (closed_agm e8 (fun _ => rfl) _)
   ·simp [e1]
    rw [rep_zero .u8 8]; rfl
 ·simp
  exact ⟨j, hj2, hv, ho, e0, e1⟩
structure InvM (m : Mill) (b : List B) : Prop where
 bl : blocks first b = (m.st, m.rest.l)
 n : m.n = b.length
theorem invM_feed {m : Mill} {b : List B} (h : InvM m b) (s : Bs) : InvM (feedM m s) (b ++ s.l) := by
 have h1 : blocks first (b ++ s.l) = blocks m.st (m.rest.l ++ s.l) := by rw [blocks_two, h.bl]
 refine ⟨?_, ?_⟩
 ·rw [h1]
  unfold feedM
  dsimp only
  split
  ·rename_i he
   rw [he]; rfl
  ·rfl
 ·unfold feedM
  dsimp only
  rw [h.n]; simp
theorem invM_rest {m : Mill} {b : List B} (h : InvM m b) : m.rest.l.length < 64 := by
 have := blocks_rest first b
 rw [h.bl] at this
 simp only at this
 rw [this]; exact Nat.mod_lt _ (by omega)
theorem invM_end {m : Mill} {b : List B} (h : InvM m b) : endM m.st m.rest b.length = sha b := by
 unfold endM sha
 rw [blocks_two first b, h.bl]
def start : Mill := ⟨first, none, 0⟩
theorem invM_start : InvM start [] := ⟨rfl, rfl⟩
theorem start_ok : PureN Tryz.prog GS 160 [] (encM start) := by
 refine pureN_of Tryz.checked.mixed GS_closed ?_
 apply call_intro c160_eq r160_eq
 unfold c160 r160
 simp
 exact .flat _ rfl
def isLong (s : Bs) : Bool := decide ((10000 : Int) < s.l.length)
theorem long1_ok (s : Bs) : PureC Tryz.prog GS 159 [encBs s] (.bool (isLong s)) := by
 refine pure_of Tryz.checked.mixed GS_closed ?_
 apply call_intro c159_eq r159_eq
 unfold c159 r159
 simp [encBs]
 exact rd_eq rfl rfl
theorem fn_long : funOkB Tryz.prog 159 = true := by kernel_rfl
def idx (l : List Bs) : Int := match l.findIdx? isLong with | some i => (i : Int) | none => -1
theorem idx_some {l : List Bs} {k : Nat} {s : Bs} (hs : l[k]? = some s) (hl : isLong s = true) (hno : ∀ j s, j < k → l[j]? = some s → isLong s = false) : idx l = k := by
 have : l.findIdx? isLong = some k := by
  rw [List.findIdx?_eq_some_iff_getElem]
  obtain ⟨h1, rfl⟩ := List.getElem?_eq_some_iff.1 hs
  refine ⟨h1, hl, fun j hj => ?_⟩
  rw [hno j l[j] hj (List.getElem?_eq_getElem (by omega))]; simp
 unfold idx; rw [this]
theorem idx_none {l : List Bs} (hno : ∀ j s, j < l.length → l[j]? = some s → isLong s = false) : idx l = -1 := by
 have : l.findIdx? isLong = none := by
  rw [List.findIdx?_eq_none_iff]
  intro x hx
  obtain ⟨j, hj⟩ := List.mem_iff_getElem?.1 hx
  exact hno j x (List.getElem?_eq_some_iff.1 hj).1 hj
 unfold idx; rw [this]
theorem index_ok (ls : Sv Bs) (hl : ls.l.length ≤ 1000000000) : PureC Tryz.prog GS 191 [encL ls, .fn 159 [] []] (.int .i64 (idx ls.l)) := by
 refine pure_of Tryz.checked.mixed GS_closed ?_
 apply call_intro c191_eq r191_eq
 unfold c191 r191
 have hlen : lenM (.sl 1) (encL ls) = some (.int .i64 ls.l.length) := len_encS _
 simp [hlen]
 refine loop_up ls.l.length (fun k σ l => σ 0 = encL ls ∧ σ 1 = .fn 159 [] [] ∧ σ 7 = .int .i64 ls.l.length ∧ σ 8 = .int .i64 k ∧ ∀ j s, j < k → ls.l[j]? = some s → isLong s = false) ?_ (by simp)
 rintro k σ l hk ⟨g0, g1, g7, g8, hno⟩
 obtain ⟨σ, rfl⟩ := upds4 g0 g1 g7 g8
 clear g0 g1 g7 g8
 unfold l191_0
 simp
 by_cases h : k < ls.l.length
 ·obtain ⟨s, hs, _⟩ := get_of h
  have hia : iaC (.sl 1) (encL ls) (.int .i64 k) = some (.rptr [encBs s] 0) := by
   rw [ia_encS]; simp [hs]
  have hwk : IntKind.i64.wrap ((k : Int) + 1) = k + 1 := wrap_i64 (by omega) (by omega)
  simp [h, hia]
  refine ⟨fn_long, pure_call (long1_ok s) (by simp [closedL, closed_Bs]) ?_⟩
  cases hls : isLong s with
  | true =>
   simp
   rw [idx_some hs hls hno]
   exact rd_eq rfl rfl
  | false =>
   simp [h, hwk]
   intro j s' hj hs'
   rcases Nat.lt_or_ge j k with h1 | h1
   ·exact hno j s' h1 hs'
   ·have : j = k := by omega
    subst this
    rw [hs] at hs'; cases hs'; exact hls
 ·simp [h]
  rw [idx_none (fun j s hj hs => hno j s (by omega) hs)]
  exact rd_eq rfl rfl
theorem contains_ok (ls : Sv Bs) (hl : ls.l.length ≤ 1000000000) : PureC Tryz.prog GS 158 [encL ls, .fn 159 [] []] (.bool (decide (0 ≤ idx ls.l))) := by
 refine pure_of Tryz.checked.mixed GS_closed ?_
 apply call_intro c158_eq r158_eq
 unfold c158 r158
 simp
 refine pure_call (index_ok ls hl) (by simp [closedL, CV.closed, closed_L]) ?_
 simp
 exact rd_eq rfl rfl
set_option maxHeartbeats 4000000 in
theorem pieces_ok (ls : List Bs) (h20 : ls.length ≤ 20) (hno : ∀ s ∈ ls, s.l.length ≤ 10000) : PureC Tryz.prog GS 118 [encL (some ls)] (.tu [idC (sha (bytesOf ls)), .int .i64 0]) := by
 have hidx : idx ls = -1 := idx_none fun j s hj hs => by
  have := hno s (List.mem_of_getElem? hs)
  unfold isLong; simp; omega
 have hlen : ∀ k, (bytesOf (ls.take k)).length ≤ 200000 := fun k => by
  have : ∀ l : List Bs, (∀ s ∈ l, s.l.length ≤ 10000) → (bytesOf l).length ≤ 10000 * l.length := by
   intro l
   induction l with
   | nil => intro _; simp [bytesOf]
   | cons s l ih =>
    intro h
    have h1 := ih fun x hx => h x (by simp [hx])
    have h2 := h s (by simp)
    unfold bytesOf at h1 ⊢
    rw [List.map_cons, List.flatten_cons, List.length_append, List.length_cons]
    omega
  have h1 := this (ls.take k) fun s hs => hno s (List.mem_of_mem_take hs)
  have h2 : (ls.take k).length ≤ 20 := by simp; omega
  omega
 refine pure_of Tryz.checked.mixed GS_closed ?_
 apply call_intro c118_eq r118_eq
 unfold c118 r118
 have h20' : ¬(20 : Int) < ls.length := by omega
 have hcon := contains_ok (some ls) (by simp; omega)
 rw [Sv.l_some, hidx] at hcon
 simp [h20']
 refine pure_call hcon (by simp [closedL, CV.closed, closed_L]) ?_
 simp
 refine pure_call start_ok.toC rfl ?_
 simp [encM, millC_len, splice_all]
 refine loop_up ls.length (fun k σ l => σ 2 = .ptr 0 0 32 ∧ σ 4 = .ptr 1 0 10 ∧ σ 16 = encL (some ls) ∧ σ 17 = .int .i64 ls.length ∧ σ 18 = .int .i64 k ∧ ∃ m, InvM m (bytesOf (ls.take k)) ∧ l = [.cells 32 (rep 32 (.int .u8 0)), .cells 10 (millC m.st (encBs m.rest) m.n)]) ?_ ?_
 ·rintro k σ l hk ⟨g2, g4, g16, g17, g18, m, hm, rfl⟩
  obtain ⟨σ, rfl⟩ := upds5 g2 g4 g16 g17 g18
  clear g2 g4 g16 g17 g18
  unfold l118_0
  simp
  have hcm : (CV.ag (millC m.st (encBs m.rest) m.n)).closed = true := by simp [CV.closed, closedL, millC, St.l, closed_Bs]
  have htk : List.take 10 (millC m.st (encBs m.rest) m.n) = millC m.st (encBs m.rest) m.n := rfl
  have hrl := invM_rest hm
  have hmn := hm.n
  have hlk := hlen k
  by_cases h : k < ls.length
  ·obtain ⟨s, hs, hsm⟩ := get_of h
   have hia : iaC (.sl 1) (encL (some ls)) (.int .i64 k) = some (.rptr [encBs s] 0) := by
    rw [ia_encS]; simp [hs]
   have hwk : IntKind.i64.wrap ((k : Int) + 1) = k + 1 := wrap_i64 (by omega) (by omega)
   have h1 := hno s hsm
   have hf := feed_ok m s (by omega) (by omega) (by omega)
   have hm2 := invM_feed hm s
   rw [← bytesOf_take ls k s hs] at hm2
   obtain ⟨F, hF⟩ : ∃ F, F = feedM m s := ⟨_, rfl⟩
   rw [← hF] at hf hm2
   simp [h, hia, millC_len, htk]
   refine pure_call hf.toC ?_ ?_
   ·simp only [closedL, hcm, closed_Bs, Bool.and_self]
   simp [encM, millC_len, splice_all, h, hwk]
   exact ⟨F, hm2, rfl⟩
  ·have hkl : k = ls.length := by omega
   subst hkl
   rw [List.take_length] at hm hmn hlk
   have he := end_ok m.st m.rest (bytesOf ls).length (by omega) (by omega)
   rw [invM_end hm] at he
   have hmm : m = ⟨m.st, m.rest, ((bytesOf ls).length : Int)⟩ := by rw [← hmn]
   rw [← hmm] at he
   have hsl := sha_length (bytesOf ls)
   simp [h, millC_len, htk]
   refine pure_call he ?_ ?_
   ·simp only [closedL, hcm, Bool.and_self]
   have hil : ((sha (bytesOf ls)).map e8).length = 32 := by rw [List.length_map, hsl]
   simp [idC, hsl, splice_all, List.take_of_length_le]
   exact rd_eq rfl (by simp [CV.closed, closedL, closedL_map e8 (fun _ => rfl)])
 ·simp [bytesOf]
  exact ⟨start, invM_start, rfl⟩
theorem sum_ok (s : Bs) (h : s.l.length ≤ 10000) : PureC Tryz.prog GS 85 [encBs s] (.tu [idC (sha s.l), .int .i64 0]) := by
 have hb : bytesOf [s] = s.l := by simp [bytesOf]
 have hp := pieces_ok [s] (by simp) (by simpa using h)
 rw [hb] at hp
 refine pure_of Tryz.checked.mixed GS_closed ?_
 apply call_intro c85_eq r85_eq
 unfold c85 r85
 have hsl := sha_length s.l
 simp
 refine pure_callB hp (.cons ?_ .nil) (by simp [CV.flat, flatL, idC, flatL_map e8 (fun _ => rfl)]) ?_
 ·exact rdH_rows (es := [[encBs s]]) (rest := []) rfl rfl (by simp) (by simp [closedL, closed_Bs])
 simp [idC, hsl, splice_all, List.take_of_length_le]
 exact rd_eq rfl (by simp [CV.closed, closedL, closedL_map e8 (fun _ => rfl)])
def enc32 (x : W) : List CV := [e32 x]
end Sha
end Go.CM

namespace Go.CM
open Go Go.Proofs Go.RowKit
set_option maxRecDepth 100000
open Sha
theorem ty_bytes {e : TypeId} (hu : Tryz.prog.underlying e = some (.int .u8)) : ∀ (n : Nat) {ts : List TypeId} {cs : List CV}, Ty Tryz.prog (List.replicate n e ++ ts) cs → ∃ (x : List B) (cs' : List CV), cs = x.map e8 ++ cs' ∧ x.length = n ∧ Ty Tryz.prog ts cs'
 | 0, ts, cs, h => ⟨[], cs, rfl, rfl, h⟩
 | n + 1, ts, cs, h => by
  obtain ⟨k, cs1, rfl, h1, h2, h3⟩ := ty_int hu h
  obtain ⟨x, cs2, rfl, hx, h4⟩ := ty_bytes hu n h3
  have h5 : (0 : Int) ≤ k := h1
  have h6 : k ≤ 255 := h2
  refine ⟨BitVec.ofNat 8 k.toNat :: x, cs2, ?_, by simp [hx], h4⟩
  have : ((BitVec.ofNat 8 k.toNat).toNat : Int) = k := by
   rw [BitVec.toNat_ofNat, Nat.mod_eq_of_lt (by omega)]; omega
  simp [e8, u]; omega
theorem ty_id (r : List CV) (h : Ty Tryz.prog [61] r) : ∃ x : List B, r = x.map e8 ∧ x.length = 32 := by
 have h1 := ty_array (e := 5) (n := 32) (by kernel_rfl) h
 obtain ⟨x, cs', rfl, hx, h2⟩ := ty_bytes (by kernel_rfl) 32 h1
 rw [ty_nil h2, List.append_nil]
 exact ⟨x, rfl, hx⟩
theorem tyA_int {ts : List TypeId} {cs : List CV} (h : TyA Tryz.prog (3 :: ts) cs) : ∃ (n : Int) (cs' : List CV), cs = .int .i64 n :: cs' ∧ IntKind.i64.min ≤ n ∧ n ≤ IntKind.i64.max ∧ TyA Tryz.prog ts cs' := by
 obtain ⟨c, cs', rfl, h1, h2⟩ := tyA_cons h
 obtain ⟨n, cs1, hs, hl, hi, h3⟩ := ty_int (k := .i64) (by kernel_rfl) (tyV_one (by kernel_rfl) h1)
 cases hs
 exact ⟨n, cs', rfl, hl, hi, h2⟩
def kInts : List Int := Sha.ks.map fun k => (k.toNat : Int)
theorem tblC_ints : tblC = kInts.map fun k => .int .u32 k := by unfold tblC kInts; rw [List.map_map]; rfl
theorem laid_glo {W : World} (h : laidMetH Tryz.prog [("braid/digest.constants", Go.Proofs.YtidejmkknleijaaGreatDoor.Rows.laid_braid_digest_constants)] W) : ∀ g, VR0 W (fun _ => True) (GS g) (.pointer (some ⟨g, 0, none⟩)) := by
 intro g
 unfold GS
 split
 ·rename_i hb
  have := Nat.eq_of_beq_eq_true hb
  subst this
  rw [MakeChecks.laidMetH_plain _ _ _ (by kernel_rfl)] at h
  obtain ⟨ps, ⟨g0, t0, cs0, f0, p0, q0, hg0, ht0, hv0, hd0, _, _⟩, _, _⟩ := h
  have e1 : Tryz.prog.globalNamed "braid/digest.constants" = some 1 := by kernel_rfl
  have e2 : (Tryz.prog.globals[1]?).map (·.type) = some 264 := by kernel_rfl
  obtain rfl := Option.some.inj (e1.symm.trans hg0)
  obtain rfl := Option.some.inj (e2.symm.trans ht0)
  rw [tblC_ints]
  exact glo_u32 kInts e1 hv0 (n := 64) (e := 85) (by kernel_rfl) (by kernel_rfl) (by kernel_rfl) hd0 (by rfl)
 ·exact .bad _
end Go.CM

namespace Go.CM
open Go Go.Proofs
set_option maxRecDepth 100000
open Sha
def bOf : CV → Option B
 | .int .u8 (.ofNat n) => match Nat.ble n 255 with | true => some (BitVec.ofNat 8 n) | false => none
 | _ => none
theorem bOf_ok {c : CV} {b : B} (h : bOf c = some b) : c = e8 b := by
 unfold bOf at h
 split at h
 ·split at h
  ·rename_i n _ hn
   have := Nat.le_of_ble_eq_true hn
   cases h
   simp only [e8, u, BitVec.toNat_ofNat]
   congr 1
   show (n : Int) = ((n % 2 ^ 8 : Nat) : Int)
   rw [Nat.mod_eq_of_lt (show n < 2 ^ 8 by omega)]
  ·cases h
 ·cases h
def bsOf : List CV → Option (List B)
 | [] => some []
 | c :: r => match bOf c with
  | some b => match bsOf r with | some l => some (b :: l) | none => none
  | none => none
def idOf : CV → Option (List B)
 | .ag cs => match bsOf cs with | some l => (match Nat.beq l.length 32 with | true => some l | false => none) | none => none
 | _ => none
def rowsOf : List (List CV) → Option (List B)
 | [] => some []
 | [c] :: r => match bOf c with
  | some b => match rowsOf r with | some l => some (b :: l) | none => none
  | none => none
 | _ => none
theorem rowsOf_ok : ∀ {es : List (List CV)} {l : List B}, rowsOf es = some l → es = l.map enc8
 | [], l, h => by cases h; rfl
 | e :: r, l, h => by
  unfold rowsOf at h
  split at h
  ·rename_i e1; cases e1
  ·rename_i c r' e1
   cases e1
   split at h
   ·rename_i b hb
    split at h
    ·rename_i l' hl
     cases h
     rw [bOf_ok hb, rowsOf_ok hl]; rfl
    ·cases h
   ·cases h
  ·cases h
def bytOf : CV → Option Bs
 | .nilS => some none
 | .rsl 1 es => match rowsOf es with | some l => some (some l) | none => none
 | _ => none
theorem bytOf_ok {c : CV} {s : Bs} (h : bytOf c = some s) : c = encBs s := by
 unfold bytOf at h
 split at h
 ·cases h; rfl
 ·split at h
  ·rename_i l hl
   cases h
   rw [rowsOf_ok hl]; rfl
  ·cases h
 ·cases h
def sumF : List CV → Option CV
 | [c] => match bytOf c with
  | some s => match Nat.ble s.l.length 10000 with | true => some (.tu [idC (sha s.l), .int .i64 0]) | false => none
  | none => none
 | _ => none
abbrev sumO : FuncId × Bool × (List CV → Option CV) := (85, false, sumF)
theorem sumO_ok : OrcP Tryz.prog GS sumO := by
 intro args r h
 refine ⟨?_, fun h => by cases h⟩
 simp only [sumF] at h
 split at h
 ·split at h
  ·rename_i c s hs
   split at h
   ·rename_i hn
    cases h
    rw [bytOf_ok hs]
    exact sum_ok s (Nat.le_of_ble_eq_true hn)
   ·cases h
  ·cases h
 ·cases h
end Go.CM

namespace Go.CM
open Go Go.Proofs Go.Shelf Go.RowKit Go.Lib
set_option maxRecDepth 100000
set_option maxHeartbeats 4000000
theorem ins_fin126 (base : Option Addr) (n c vc vb voff : Nat) (r : Value) (w w' : World) (hn : n ≤ c) (h62 : n ≤ 4611686018427387904) (hnil : base = none → n = 0 ∧ c = 0)
  (hrun : (Builtin.append_ #[23, 23] 23 #[.slice base n c, .slice (some ⟨vb, voff, none⟩) 1 vc]).run Tryz.prog w = .ok r w') :
  Calls Tryz.prog 126 #[.slice base n c, .int .i64 n, .slice (some ⟨vb, voff, none⟩) 1 vc] w fun e w2 => e = .returned r ∧ w2 = w' := by
 have u0 := Tryz.underlying23
 have mixed := Tryz.checked.mixed
 go_enter Tryz.func126, Tryz.ntmps126
 cases base with
 | none =>
  obtain ⟨h0, h1⟩ := hnil rfl
  subst h0 h1
  go_wp2_with (at_builtin; refine Lib.wpList_append_run _ rfl _ _ _ _ rfl _ _ rfl rfl _ _ hrun ?_)
  go_ret
  exact ⟨rfl, rfl⟩
 | some a =>
  obtain ⟨ab, ao, asp⟩ := a
  go_wp2_with (at_builtin; refine Lib.wpList_append_run _ rfl _ _ _ _ rfl _ _ rfl rfl _ _ hrun ?_)
  all_goals (go_ret; exact ⟨rfl, rfl⟩)
theorem ins_shift126 (b off n c i vb voff vc : Nat) (k1 k2 : Value) (w W1 W2 : World) (tA tB : TypeId) (kA kB : Nat) (hi : i < n) (hroom : n + 1 ≤ c) (h62 : n ≤ 4611686018427387904) (hvb : vb ≠ b)
  (hsa : w.shape? vb = some (tA, kA)) (hsb : w.shape? b = some (tB, kB)) (hkB : kB ≠ 0) (hfa : w.frozen? ⟨vb, voff, none⟩ = false) (hfe : w.frozen? ⟨vb, kA, none⟩ = false)
  (hcp1 : (Builtin.copy_ #[23, 23] 3 #[.slice (some ⟨b, off + (i + 1) * 32, none⟩) (n - i) (c - (i + 1)), .slice (some ⟨b, off + i * 32, none⟩) (n + 1 - i) (c - i)]).run Tryz.prog w.drew = .ok k1 W1)
  (hcp2 : (Builtin.copy_ #[23, 23] 3 #[.slice (some ⟨b, off + i * 32, none⟩) (n + 1 - i) (c - i), .slice (some ⟨vb, voff, none⟩) 1 vc]).run Tryz.prog W1 = .ok k2 W2) :
  Calls Tryz.prog 126 #[.slice (some ⟨b, off, none⟩) n c, .int .i64 i, .slice (some ⟨vb, voff, none⟩) 1 vc] w fun e w2 => e = .returned (.slice (some ⟨b, off, none⟩) (n + 1) c) ∧ w2 = W2 := by
 have u0 := Tryz.underlying23
 have z0 : ∀ w, (Go.sizeOf 61).run Tryz.prog w = .ok 32 w := fun w => run_sizeOf' (by kernel_rfl)
 have mixed := Tryz.checked.mixed
 have hov : ∀ lb cb, (callFunc 165 #[.slice (some ⟨vb, voff, none⟩) 1 vc, .slice (some ⟨b, off + (i + 1) * 32, none⟩) lb cb]).run Tryz.prog w = .ok (.value (.bool false)) w := fun lb cb => by
  rw [run_callFunc_extern Tryz.func165 (by kernel_rfl) (by kernel_rfl) (by kernel_rfl) (e := Extern.SlicesOverlaps.overlaps #[23, 23] #[4]) (by kernel_rfl),
   Lib.run_overlaps_apart w 23 4 61 u0 32 z0 ⟨vb, voff, none⟩ ⟨b, off + (i + 1) * 32, none⟩ 1 vc lb cb hvb tA tB kA kB hsa hsb hkB hfa hfe]
  rfl
 have hz2 : ¬ ((i : Int) = (n : Int)) := by omega
 have hw1 : IntKind.i64.wrap ((i : Int) + 1) = (i : Int) + 1 := by rw [IntKind.wrap_i64]; omega
 have hw2 : IntKind.i64.wrap ((n : Int) + 1) = (n : Int) + 1 := by rw [IntKind.wrap_i64]; omega
 have hb1 : (0 : Int) ≤ (i : Int) + 1 := by omega
 have hin : i ≤ n := by omega
 have htn : ((i : Int) + 1).toNat = i + 1 := by omega
 have hb2 : ¬ (c = i + 1) := by omega
 have hb3 : (i : Int) ≤ (n : Int) + 1 := by omega
 have hb4 : ¬ (c = i) := by omega
 have hb5 : ¬ ((c : Int) < (n : Int) + 1) := by omega
 go_enter Tryz.func126, Tryz.ntmps126
 go_wp2_with (simp only [hov])
 go_region_law_o (refine step_copy_runI rfl _ _ 23 23 rfl _ _ (by simp [Act.eval, Act.put]) (by simp [Act.eval, Act.put]) hcp1 ?_)
 go_wp2_with (at_builtin; refine wpList_copy_runI _ rfl _ _ 23 23 rfl _ _ rfl rfl hcp2 ?_)
 go_ret
 exact ⟨rfl, rfl⟩
theorem ins_grow126 (b off n c i vb voff vc N G : Nat) (k1 k2 : Value) (w W0 W1 W2 : World) (hi : i < n) (hnc : n ≤ c) (hroom : c < n + 1) (hG : n + 1 ≤ G) (h62 : n ≤ 4611686018427387904)
  (happ : (Builtin.append_ #[23, 3] 23 #[.slice (some ⟨b, off, none⟩) i c, .int .i64 ((n : Int) + 1 - (i : Int))]).run Tryz.prog w = .ok (.slice (some ⟨N, 0, none⟩) (n + 1) G) W0)
  (hcp1 : (Builtin.copy_ #[23, 23] 3 #[.slice (some ⟨N, i * 32, none⟩) (n + 1 - i) (G - i), .slice (some ⟨vb, voff, none⟩) 1 vc]).run Tryz.prog W0 = .ok k1 W1)
  (hcp2 : (Builtin.copy_ #[23, 23] 3 #[.slice (some ⟨N, (i + 1) * 32, none⟩) (n - i) (G - (i + 1)), .slice (some ⟨b, off + i * 32, none⟩) (n - i) (c - i)]).run Tryz.prog W1.drew = .ok k2 W2) :
  Calls Tryz.prog 126 #[.slice (some ⟨b, off, none⟩) n c, .int .i64 i, .slice (some ⟨vb, voff, none⟩) 1 vc] w fun e w2 => e = .returned (.slice (some ⟨N, 0, none⟩) (n + 1) G) ∧ w2 = W2 := by
 have u0 := Tryz.underlying23
 have z0 : ∀ w, (Go.sizeOf 61).run Tryz.prog w = .ok 32 w := fun w => run_sizeOf' (by kernel_rfl)
 have mixed := Tryz.checked.mixed
 have hz2 : ¬ ((i : Int) = (n : Int)) := by omega
 have hw1 : IntKind.i64.wrap ((i : Int) + 1) = (i : Int) + 1 := by rw [IntKind.wrap_i64]; omega
 have hw2 : IntKind.i64.wrap ((n : Int) + 1) = (n : Int) + 1 := by rw [IntKind.wrap_i64]; omega
 have hw3 : IntKind.i64.wrap ((n : Int) + 1 - (i : Int)) = (n : Int) + 1 - (i : Int) := by rw [IntKind.wrap_i64]; omega
 have hb1 : (0 : Int) ≤ (i : Int) + 1 := by omega
 have hin : i ≤ n := by omega
 have htn : ((i : Int) + 1).toNat = i + 1 := by omega
 have hGi : ¬ (G = i) := by omega
 have hGim : ¬ (G = i + 1) := by omega
 have hci : ¬ (c = i) := by omega
 have hz3 : (c : Int) < (n : Int) + 1 := by omega
 have hb3 : (i : Int) ≤ (n : Int) := by omega
 have hb6 : (i : Int) ≤ (c : Int) := by omega
 go_enter Tryz.func126, Tryz.ntmps126
 go_wp2_with (first
  | (at_builtin; refine Lib.wpList_append_run _ rfl _ _ _ _ rfl _ _ rfl rfl _ _ happ ?_)
  | (at_builtin; refine wpList_copy_runI _ rfl _ _ 23 23 rfl _ _ rfl rfl hcp1 ?_))
 go_region_law_o (refine step_copy_runI rfl _ _ 23 23 rfl _ _ (by simp [Act.eval, Act.put]) (by simp [Act.eval, Act.put]) hcp2 ?_)
 go_wp2
 go_ret
 exact ⟨rfl, rfl⟩
theorem insL126 : InsL Tryz.prog 126 23 3 61 32 :=
 ⟨Tryz.underlying23, Tryz.underlying3, ins_fin126, ins_shift126, ins_grow126⟩
theorem insH126 {G : Nat → CV} (args : List CV) (h : Hp) (r : CV) (h' : Hp) (hx : insH 32 32 args h = some (r, h')) : CallS Tryz.prog G 126 args h r h' :=
 insH_ok insL126 (by kernel_rfl) (by kernel_rfl) (by kernel_rfl) (by omega) (by omega) (by kernel_rfl) args h r h' hx
theorem ins_fin127 (base : Option Addr) (n c vc vb voff : Nat) (r : Value) (w w' : World) (hn : n ≤ c) (h62 : n ≤ 4611686018427387904) (hnil : base = none → n = 0 ∧ c = 0)
  (hrun : (Builtin.append_ #[45, 45] 45 #[.slice base n c, .slice (some ⟨vb, voff, none⟩) 1 vc]).run Tryz.prog w = .ok r w') :
  Calls Tryz.prog 127 #[.slice base n c, .int .i64 n, .slice (some ⟨vb, voff, none⟩) 1 vc] w fun e w2 => e = .returned r ∧ w2 = w' := by
 have u0 := Tryz.underlying45
 have mixed := Tryz.checked.mixed
 go_enter Tryz.func127, Tryz.ntmps127
 cases base with
 | none =>
  obtain ⟨h0, h1⟩ := hnil rfl
  subst h0 h1
  go_wp2_with (at_builtin; refine Lib.wpList_append_run _ rfl _ _ _ _ rfl _ _ rfl rfl _ _ hrun ?_)
  go_ret
  exact ⟨rfl, rfl⟩
 | some a =>
  obtain ⟨ab, ao, asp⟩ := a
  go_wp2_with (at_builtin; refine Lib.wpList_append_run _ rfl _ _ _ _ rfl _ _ rfl rfl _ _ hrun ?_)
  all_goals (go_ret; exact ⟨rfl, rfl⟩)
theorem ins_shift127 (b off n c i vb voff vc : Nat) (k1 k2 : Value) (w W1 W2 : World) (tA tB : TypeId) (kA kB : Nat) (hi : i < n) (hroom : n + 1 ≤ c) (h62 : n ≤ 4611686018427387904) (hvb : vb ≠ b)
  (hsa : w.shape? vb = some (tA, kA)) (hsb : w.shape? b = some (tB, kB)) (hkB : kB ≠ 0) (hfa : w.frozen? ⟨vb, voff, none⟩ = false) (hfe : w.frozen? ⟨vb, kA, none⟩ = false)
  (hcp1 : (Builtin.copy_ #[45, 45] 3 #[.slice (some ⟨b, off + (i + 1) * 11, none⟩) (n - i) (c - (i + 1)), .slice (some ⟨b, off + i * 11, none⟩) (n + 1 - i) (c - i)]).run Tryz.prog w.drew = .ok k1 W1)
  (hcp2 : (Builtin.copy_ #[45, 45] 3 #[.slice (some ⟨b, off + i * 11, none⟩) (n + 1 - i) (c - i), .slice (some ⟨vb, voff, none⟩) 1 vc]).run Tryz.prog W1 = .ok k2 W2) :
  Calls Tryz.prog 127 #[.slice (some ⟨b, off, none⟩) n c, .int .i64 i, .slice (some ⟨vb, voff, none⟩) 1 vc] w fun e w2 => e = .returned (.slice (some ⟨b, off, none⟩) (n + 1) c) ∧ w2 = W2 := by
 have u0 := Tryz.underlying45
 have z0 : ∀ w, (Go.sizeOf 94).run Tryz.prog w = .ok 11 w := fun w => run_sizeOf' (by kernel_rfl)
 have mixed := Tryz.checked.mixed
 have hov : ∀ lb cb, (callFunc 167 #[.slice (some ⟨vb, voff, none⟩) 1 vc, .slice (some ⟨b, off + (i + 1) * 11, none⟩) lb cb]).run Tryz.prog w = .ok (.value (.bool false)) w := fun lb cb => by
  rw [run_callFunc_extern Tryz.func167 (by kernel_rfl) (by kernel_rfl) (by kernel_rfl) (e := Extern.SlicesOverlaps.overlaps #[45, 45] #[4]) (by kernel_rfl),
   Lib.run_overlaps_apart w 45 4 94 u0 11 z0 ⟨vb, voff, none⟩ ⟨b, off + (i + 1) * 11, none⟩ 1 vc lb cb hvb tA tB kA kB hsa hsb hkB hfa hfe]
  rfl
 have hz2 : ¬ ((i : Int) = (n : Int)) := by omega
 have hw1 : IntKind.i64.wrap ((i : Int) + 1) = (i : Int) + 1 := by rw [IntKind.wrap_i64]; omega
 have hw2 : IntKind.i64.wrap ((n : Int) + 1) = (n : Int) + 1 := by rw [IntKind.wrap_i64]; omega
 have hb1 : (0 : Int) ≤ (i : Int) + 1 := by omega
 have hin : i ≤ n := by omega
 have htn : ((i : Int) + 1).toNat = i + 1 := by omega
 have hb2 : ¬ (c = i + 1) := by omega
 have hb3 : (i : Int) ≤ (n : Int) + 1 := by omega
 have hb4 : ¬ (c = i) := by omega
 have hb5 : ¬ ((c : Int) < (n : Int) + 1) := by omega
 go_enter Tryz.func127, Tryz.ntmps127
 go_wp2_with (simp only [hov])
 go_region_law_o (refine step_copy_runI rfl _ _ 45 45 rfl _ _ (by simp [Act.eval, Act.put]) (by simp [Act.eval, Act.put]) hcp1 ?_)
 go_wp2_with (at_builtin; refine wpList_copy_runI _ rfl _ _ 45 45 rfl _ _ rfl rfl hcp2 ?_)
 go_ret
 exact ⟨rfl, rfl⟩
theorem ins_grow127 (b off n c i vb voff vc N G : Nat) (k1 k2 : Value) (w W0 W1 W2 : World) (hi : i < n) (hnc : n ≤ c) (hroom : c < n + 1) (hG : n + 1 ≤ G) (h62 : n ≤ 4611686018427387904)
  (happ : (Builtin.append_ #[45, 3] 45 #[.slice (some ⟨b, off, none⟩) i c, .int .i64 ((n : Int) + 1 - (i : Int))]).run Tryz.prog w = .ok (.slice (some ⟨N, 0, none⟩) (n + 1) G) W0)
  (hcp1 : (Builtin.copy_ #[45, 45] 3 #[.slice (some ⟨N, i * 11, none⟩) (n + 1 - i) (G - i), .slice (some ⟨vb, voff, none⟩) 1 vc]).run Tryz.prog W0 = .ok k1 W1)
  (hcp2 : (Builtin.copy_ #[45, 45] 3 #[.slice (some ⟨N, (i + 1) * 11, none⟩) (n - i) (G - (i + 1)), .slice (some ⟨b, off + i * 11, none⟩) (n - i) (c - i)]).run Tryz.prog W1.drew = .ok k2 W2) :
  Calls Tryz.prog 127 #[.slice (some ⟨b, off, none⟩) n c, .int .i64 i, .slice (some ⟨vb, voff, none⟩) 1 vc] w fun e w2 => e = .returned (.slice (some ⟨N, 0, none⟩) (n + 1) G) ∧ w2 = W2 := by
 have u0 := Tryz.underlying45
 have z0 : ∀ w, (Go.sizeOf 94).run Tryz.prog w = .ok 11 w := fun w => run_sizeOf' (by kernel_rfl)
 have mixed := Tryz.checked.mixed
 have hz2 : ¬ ((i : Int) = (n : Int)) := by omega
 have hw1 : IntKind.i64.wrap ((i : Int) + 1) = (i : Int) + 1 := by rw [IntKind.wrap_i64]; omega
 have hw2 : IntKind.i64.wrap ((n : Int) + 1) = (n : Int) + 1 := by rw [IntKind.wrap_i64]; omega
 have hw3 : IntKind.i64.wrap ((n : Int) + 1 - (i : Int)) = (n : Int) + 1 - (i : Int) := by rw [IntKind.wrap_i64]; omega
 have hb1 : (0 : Int) ≤ (i : Int) + 1 := by omega
 have hin : i ≤ n := by omega
 have htn : ((i : Int) + 1).toNat = i + 1 := by omega
 have hGi : ¬ (G = i) := by omega
 have hGim : ¬ (G = i + 1) := by omega
 have hci : ¬ (c = i) := by omega
 have hz3 : (c : Int) < (n : Int) + 1 := by omega
 have hb3 : (i : Int) ≤ (n : Int) := by omega
 have hb6 : (i : Int) ≤ (c : Int) := by omega
 go_enter Tryz.func127, Tryz.ntmps127
 go_wp2_with (first
  | (at_builtin; refine Lib.wpList_append_run _ rfl _ _ _ _ rfl _ _ rfl rfl _ _ happ ?_)
  | (at_builtin; refine wpList_copy_runI _ rfl _ _ 45 45 rfl _ _ rfl rfl hcp1 ?_))
 go_region_law_o (refine step_copy_runI rfl _ _ 45 45 rfl _ _ (by simp [Act.eval, Act.put]) (by simp [Act.eval, Act.put]) hcp2 ?_)
 go_wp2
 go_ret
 exact ⟨rfl, rfl⟩
theorem insL127 : InsL Tryz.prog 127 45 3 94 11 :=
 ⟨Tryz.underlying45, Tryz.underlying3, ins_fin127, ins_shift127, ins_grow127⟩
theorem insH127 {G : Nat → CV} (args : List CV) (h : Hp) (r : CV) (h' : Hp) (hx : insH 11 112 args h = some (r, h')) : CallS Tryz.prog G 127 args h r h' :=
 insH_ok insL127 (by kernel_rfl) (by kernel_rfl) (by kernel_rfl) (by omega) (by omega) (by kernel_rfl) args h r h' hx
def insGet (f : FuncId) : Option (Nat × Nat) := match Nat.beq f 126 with | true => some (32, 32) | false => match Nat.beq f 127 with | true => some (11, 112) | false => none
theorem insGet_ok (f : FuncId) (z by_ : Nat) (h : insGet f = some (z, by_)) (args : List CV) (hp : Hp) (r : CV) (hp' : Hp) (hx : insH z by_ args hp = some (r, hp')) : CallS Tryz.prog GS f args hp r hp' := by
 unfold insGet at h
 split at h
 ·rename_i hb
  have hf := Nat.eq_of_beq_eq_true hb
  subst hf
  cases h
  exact insH126 args hp r hp' hx
 split at h
 ·rename_i hb
  have hf := Nat.eq_of_beq_eq_true hb
  subst hf
  cases h
  exact insH127 args hp r hp' hx
 cases h
instance insT : InsT Tryz.prog GS := ⟨insGet, insGet_ok⟩
end Go.CM

namespace Go.CM
open Go Go.Proofs Go.Sort Go.Shelf
set_option maxRecDepth 100000
open Sha
def cmpB : List B → List B → Int
 | [], [] => 0
 | [], _ :: _ => -1
 | _ :: _, [] => 1
 | a :: ra, b :: rb => if a.toNat < b.toNat then -1 else if b.toNat < a.toNat then 1 else cmpB ra rb
theorem cmpB_cons (a b : B) (ra rb : List B) : cmpB (a :: ra) (b :: rb) = if a.toNat < b.toNat then -1 else if b.toNat < a.toNat then 1 else cmpB ra rb := rfl
end Go.CM

namespace Go.CM
open Go Go.Proofs
set_option maxRecDepth 100000
namespace Op
open Sha
abbrev Q := BitVec 64
abbrev D := BitVec 32
theorem u1_64 : (u (1#64) : Int) = 1 := rfl
def enc32 (x : D) : List CV := [e32 x]
def mulQ (l : List D) : Q := l.foldl (fun o x => o * x.setWidth 64 % 1000000007#64) 1#64
theorem mulQ_take (l : List D) (k : Nat) (x : D) (h : l[k]? = some x) : mulQ (l.take (k + 1)) = mulQ (l.take k) * x.setWidth 64 % 1000000007#64 := by
 rw [List.take_add_one, h]; simp [mulQ, List.foldl_append]
theorem rem_p (x : Q) : binInt .rem .u64 (u x) .u64 1000000007 = some (.int .u64 (u (x % 1000000007#64))) := brem_u64 x 1000000007#64 (by decide)
theorem mul_ok (l : List D) (hl : l.length ≤ 1000) : PureC Tryz.prog GS 157 [.int .u64 1000000007, encS 1 enc32 (some l)] (e32 ((mulQ l).setWidth 32)) := by
 refine pure_of Tryz.checked.mixed GS_closed ?_
 apply call_intro c157_eq r157_eq
 unfold c157 r157
 have hlen : lenM (.sl 1) (encS 1 enc32 (some l)) = some (.int .i64 l.length) := len_encS _
 simp [hlen]
 refine loop_up l.length (fun k σ _ => σ 0 = .int .u64 1000000007 ∧ σ 5 = e64 (mulQ (l.take k)) ∧ σ 8 = encS 1 enc32 (some l) ∧ σ 9 = .int .i64 l.length ∧ σ 10 = .int .i64 k) ?_ (by simp [mulQ]; rfl)
 rintro k σ h hk ⟨g0, g5, g8, g9, g10⟩
 obtain ⟨σ, rfl⟩ := upds5 g0 g5 g8 g9 g10
 clear g0 g5 g8 g9 g10
 unfold l157_0
 by_cases h : k < l.length
 ·obtain ⟨x, hx, _⟩ := get_of h
  have hia : iaC (.sl 1) (encS 1 enc32 (some l)) (.int .i64 k) = some (.rptr (enc32 x) 0) := by rw [ia_encS]; simp [hx]
  have hwk : IntKind.i64.wrap ((k : Int) + 1) = (k + 1 : Nat) := wrap_i64 (by omega) (by omega)
  have hs := mulQ_take l k x hx
  simp [h, hia, enc32, hwk, rem_p]
  rw [← hs]
 ·have hk' : k = l.length := by omega
  subst hk'
  simp
  exact rd_eq rfl rfl
def powM (a n : Nat) : Nat := a ^ n % 1000000007
theorem powM_lt (a n : Nat) : powM a n < 1000000007 := Nat.mod_lt _ (by decide)
theorem powM_two (a n : Nat) : powM a n * powM a n % 1000000007 = powM a (2 * n) := by
 unfold powM; rw [← Nat.mul_mod, ← Nat.pow_add]; congr 2; omega
theorem powM_odd (a n : Nat) : powM a n * a % 1000000007 = powM a (n + 1) := by
 unfold powM; rw [Nat.mod_mul_mod, Nat.pow_succ]
def powW (a : D) (n : Nat) : D := BitVec.ofNat 32 (powM a.toNat n)
theorem powW_nat (a : D) (n : Nat) : (powW a n).toNat = powM a.toNat n := by
 have := powM_lt a.toNat n
 unfold powW; rw [BitVec.toNat_ofNat]; exact Nat.mod_eq_of_lt (by omega)
theorem mulQ2 (x y : D) (hx : x.toNat < 1000000007) : (mulQ [x, y]).setWidth 32 = BitVec.ofNat 32 (x.toNat * y.toNat % 1000000007) := by
 apply BitVec.eq_of_toNat_eq
 have hy := y.isLt
 have h1 : x.toNat * y.toNat < 1000000007 * 4294967296 := by
  calc x.toNat * y.toNat ≤ 1000000007 * y.toNat := Nat.mul_le_mul_right _ (by omega)
   _ < 1000000007 * 4294967296 := Nat.mul_lt_mul_of_pos_left (by simpa using hy) (by decide)
 have h2 : (1#64 * x.setWidth 64 % 1000000007#64).toNat = x.toNat := by
  rw [BitVec.one_mul, BitVec.toNat_umod, BitVec.toNat_setWidth]
  rw [Nat.mod_eq_of_lt (show x.toNat < 2 ^ 64 by omega), show (1000000007#64).toNat = 1000000007 from rfl, Nat.mod_eq_of_lt hx]
 simp only [mulQ, List.foldl_cons, List.foldl_nil, BitVec.toNat_setWidth, BitVec.toNat_umod, BitVec.toNat_mul, h2, BitVec.toNat_ofNat]
 rw [Nat.mod_eq_of_lt (show y.toNat < 2 ^ 64 by omega), Nat.mod_eq_of_lt (show x.toNat * y.toNat < 2 ^ 64 by omega), Nat.mod_eq_of_lt (show 1000000007 < 2 ^ 64 by decide)]
theorem mul_same (a : D) (n : Nat) : (mulQ [powW a n, powW a n]).setWidth 32 = powW a (2 * n) := by
 rw [mulQ2 _ _ (by rw [powW_nat]; exact powM_lt _ _), powW_nat, powM_two]; rfl
theorem mul_one (a : D) (n : Nat) : (mulQ [powW a n, a]).setWidth 32 = powW a (n + 1) := by
 rw [mulQ2 _ _ (by rw [powW_nat]; exact powM_lt _ _), powW_nat, powM_odd]; rfl
theorem rdH_two {l : Hl} {b : Nat} {x y : D} (h : l[b]? = some (.cells 2 [e32 x, e32 y])) : RdH (HL l) (.sl 1 b 0 2 2 2) (encS 1 enc32 (some [x, y])) := by
 refine rdH_rows (rest := []) (es := [[e32 x], [e32 y]]) (by simpa using h) rfl (by simp) (by simp [closedL, CV.closed])
theorem fn_square : funOkB Tryz.prog 186 = true := by kernel_rfl
theorem square_own {x : D} {l : Hl} {K : CV → Hl → Prop} (hK : ∀ v rest, K v (.cells 1 [e32 ((mulQ [x, x]).setWidth 32)] :: rest)) : CallP Tryz.prog GS 186 [.ptr 0 0 1] (.cells 1 [e32 x] :: l) (c := ⟨K⟩) := by
 apply call_intro c186_eq r186_eq
 unfold c186 r186
 simp
 refine pure_callB (mul_ok [x, x] (by simp)) (.cons (.same _ rfl) (.cons (rdH_two (by simp)) .nil)) rfl ?_
 simp
 exact hK _ _
theorem half_bit (n k : Nat) (hk : k < 64) : n / 2 ^ (63 - k) = 2 * (n / 2 ^ (64 - k)) + n / 2 ^ (63 - k) % 2 := by
 have : 2 ^ (64 - k) = 2 ^ (63 - k) * 2 := by rw [← Nat.pow_succ]; congr 1; omega
 rw [this, ← Nat.div_div_eq_div_mul]; omega
theorem pow_ok (a : D) (n : Q) : PureC Tryz.prog GS 151 [e32 a, e64 n] (e32 (powW a n.toNat)) := by
 refine pure_of Tryz.checked.mixed GS_closed ?_
 apply call_intro c151_eq r151_eq
 unfold c151 r151
 simp
 refine loop_up 64 (fun k σ l => σ 0 = e32 a ∧ σ 1 = e64 n ∧ σ 5 = .ptr 0 0 1 ∧ σ 6 = .fn 186 [] [.ptr 0 0 1] ∧ σ 9 = .int .i64 k ∧ ∃ r, l = .cells 1 [e32 (powW a (n.toNat / 2 ^ (64 - k)))] :: r) ?_ (by
  have : n.toNat / 2 ^ 64 = 0 := Nat.div_eq_of_lt n.isLt
  simp [this, powW, powM]; rfl)
 rintro k σ l hk ⟨g0, g1, g5, g6, g9, r, rfl⟩
 obtain ⟨σ, rfl⟩ := upds5 g0 g1 g5 g6 g9
 clear g0 g1 g5 g6 g9
 unfold l151_0
 by_cases h : (k : Int) < 64
 ·have hwk : IntKind.i64.wrap ((k : Int) + 1) = (k + 1 : Nat) := wrap_i64 (by omega) (by omega)
  have hws : IntKind.i64.wrap (63 - (k : Int)) = ((63 - k : Nat) : Int) := by rw [wrap_i64 (by omega) (by omega)]; omega
  have hb := half_bit n.toNat k (by omega)
  have hsh : binInt .shr .u64 (u n) .i64 ((63 - k : Nat) : Int) = some (.int .u64 (u (n >>> (63 - k)))) := bshrn_u64 n .i64 (63 - k)
  have h63 : 64 - (k + 1) = 63 - k := by omega
  simp [h, hwk]
  refine ⟨fn_square, ?_⟩
  simp
  refine square_own fun v rest => ?_
  simp [hws, hsh, mul_same]
  rw [h63]
  by_cases ho : n.toNat / 2 ^ (63 - k) % 2 = 1
  ·have hbit : n >>> (63 - k) &&& 1#64 = 1#64 := by
    apply BitVec.eq_of_toNat_eq
    rw [BitVec.toNat_and, BitVec.toNat_ushiftRight, Nat.shiftRight_eq_div_pow]
    show _ &&& 1 = 1
    rw [Nat.and_one_is_mod, ho]
   rw [ho] at hb
   have hq : powW a (2 * (n.toNat / 2 ^ (64 - k)) + 1) = powW a (n.toNat / 2 ^ (63 - k)) := by rw [← hb]
   simp [hbit, u1_64]
   refine pure_callB (mul_ok [powW a (2 * (n.toNat / 2 ^ (64 - k))), a] (by simp)) (.cons (.same _ rfl) (.cons (rdH_two (by simp)) .nil)) rfl ?_
   rw [mul_one, hq]
   simp [hwk]
   omega
  ·have ho : n.toNat / 2 ^ (63 - k) % 2 = 0 := by omega
   have hbit : n >>> (63 - k) &&& 1#64 = 0#64 := by
    apply BitVec.eq_of_toNat_eq
    rw [BitVec.toNat_and, BitVec.toNat_ushiftRight, Nat.shiftRight_eq_div_pow]
    show _ &&& 1 = 0
    rw [Nat.and_one_is_mod, ho]
   rw [ho, Nat.add_zero] at hb
   simp [hbit, hwk]
   rw [← hb]
   exact ⟨by omega, rfl⟩
 ·have hk' : k = 64 := by omega
  subst hk'
  simp
  exact rd_eq rfl rfl
@[simp] theorem bstr_eql (a b : List UInt8) : binStr .eql a b = some (.bool (decide (a = b))) := by
 by_cases h : a = b <;> simp [binStr, h]
@[simp] theorem bstr_neq (a b : List UInt8) : binStr .neq a b = some (.bool (!decide (a = b))) := by
 by_cases h : a = b <;> simp [binStr, h]
structure Val where
 kind : B
 num : Int
 bits : Q
 text : List UInt8
def encV (v : Val) : List CV := [e8 v.kind, .int .i64 v.num, e64 v.bits, .str v.text]
def expo (b : Q) : Nat := b.toNat / 4503599627370496 % 2048
def frac (b : Q) : Q := b % 4503599627370496#64
def cls (b : Q) : B := if expo b = 2047 then (if frac b = 0#64 then 4#8 else 5#8) else if expo b = 0 then (if frac b = 0#64 then 1#8 else 2#8) else 3#8
structure Act where
 kind : B
 key : List UInt8
 val : Val
def kA : List Tk := [.i .u8, .s, .i .u8, .i .i64, .i .u64, .s]
end Op
end Go.CM

namespace Go.CM
open Go Go.Proofs
set_option maxRecDepth 100000
def Ob {α : Type} (z : Nat) (enc : α → List CV) (l l1 : Hl) (v : CV) (a : List α) (nl : Bool) : Prop :=
 ∃ j, OwnS z l1 v j (a.map enc) ∧ l.length ≤ l1.length ∧ (∀ b, b < l.length → l1[b]? = l[b]?) ∧ (v = .nilS ∨ l.length ≤ j) ∧ isNilS v = nl
section
variable {α : Type} {z : Nat} {enc : α → List CV} {l l1 : Hl} {v : CV} {a : List α} {nl : Bool}
theorem Ob.nil : Ob z enc l l .nilS ([] : List α) true := ⟨0, .nil 0, Nat.le_refl _, fun _ _ => rfl, .inl rfl, rfl⟩
theorem Ob.more (h : Ob z enc l l1 v a nl) (r : Hl) : Ob z enc l (l1 ++ r) v a nl := by
 obtain ⟨j, h1, h2, h3, h4, h5⟩ := h
 exact ⟨j, h1.more r, by simp; omega, fun b hb => by rw [List.getElem?_append_left (by omega)]; exact h3 b hb, h4, h5⟩
theorem Ob.len (h : Ob z enc l l1 v a nl) : lenM (.sl z) v = some (.int .i64 a.length) := by
 obtain ⟨j, h1, _⟩ := h
 rw [h1.len, List.length_map]
theorem Ob.cells (h : Ob z enc l l1 v a nl) : v.cells = some [v] := by
 obtain ⟨j, h1, _⟩ := h
 exact h1.cells
theorem Ob.contents (h : Ob z enc l l1 v a nl) : contentsL l1 z v = some ((a.map enc).flatten, a.length) := by
 obtain ⟨j, h1, _⟩ := h
 rw [h1.contents, List.length_map]
theorem Ob.le (h : Ob z enc l l1 v a nl) : l.length ≤ l1.length := by obtain ⟨j, h1, h2, _⟩ := h; exact h2
theorem Ob.same (h : Ob z enc l l1 v a nl) : ∀ b, b < l.length → l1[b]? = l[b]? := by obtain ⟨j, h1, h2, h3, _⟩ := h; exact h3
theorem Ob.rdH (h : Ob z enc l l1 v a nl) (hf : ∀ x, closedL (enc x) = true) (s : Sv α) (hs : nl = s.isNone) (hx : s.l = a) : RdH (HL l1) v (encS z enc s) := by
 obtain ⟨j, h1, h2, h3, h4, h5⟩ := h
 exact h1.rdH_enc hf s (by rw [h5, hs]) hx
theorem Ob.rd (h : Ob z enc l l1 v a nl) (hf : ∀ x, closedL (enc x) = true) (s : Sv α) (hs : nl = s.isNone) (hx : s.l = a) : Rd l1 v (encS z enc s) := by
 obtain ⟨j, h1, h2, h3, h4, h5⟩ := h
 exact h1.q.rd_enc hf s (by rw [h5, hs]) hx
theorem Ob.rdN (h : Ob z enc l l1 v a nl) (hf : ∀ x, flatL (enc x) = true) (s : Sv α) (hs : nl = s.isNone) (hx : s.l = a) : RdN l1 v (encS z enc s) := by
 obtain ⟨j, h1, h2, h3, h4, h5⟩ := h
 exact h1.rdN_enc hf s (by rw [h5, hs]) hx
theorem Ob.base (h : Ob z enc l l1 v a nl) {l0 : Hl} (hl : l0.length ≤ l.length) (hs : ∀ b, b < l0.length → l[b]? = l0[b]?) : Ob z enc l0 l1 v a nl := by
 obtain ⟨j, h1, h2, h3, h4, h5⟩ := h
 exact ⟨j, h1, by omega, fun b hb => by rw [h3 b (by omega)]; exact hs b hb, h4.imp id (by omega), h5⟩
theorem Ob.frame (h : Ob z enc l l1 v a nl) {l2 : Hl} (hl : l1.length ≤ l2.length) (hs : ∀ b, b < l1.length → l2[b]? = l1[b]?) : Ob z enc l l2 v a nl := by
 obtain ⟨j, h1, h2, h3, h4, h5⟩ := h
 exact ⟨j, h1.frame fun hj => hs j hj, by omega, fun b hb => by rw [hs b (by omega)]; exact h3 b hb, h4, h5⟩
theorem Ob.app (h : Ob z enc l l1 v a nl) {by_ : Nat} {x : CV} {xs : List α} (hx : contentsL l1 z x = some ((xs.map enc).flatten, xs.length)) (hz : ∀ y ∈ xs, (enc y).length = z) (h0 : z ≠ 0) (hby : by_ ≠ 0) (hroom : (a.length + xs.length) * by_ ≤ roomMax) :
  ∃ v' l', appM l1 z by_ v x = some (v', l') ∧ Ob z enc l l' v' (a ++ xs) (nl && xs.isEmpty) ∧ l1.length ≤ l'.length := by
 obtain ⟨j, h1, h2, h3, h4, h5⟩ := h
 obtain ⟨v', j', l', g1, g2, g3, g4, g5, g6⟩ := appS (xs := xs.map enc) h1 (by simpa using hx) (fun e he => by obtain ⟨y, hy, rfl⟩ := List.mem_map.1 he; exact hz y hy) h0 hby (by simpa using hroom)
 refine ⟨v', l', g1, ⟨j', by rw [List.map_append]; exact g2, by omega, fun b hb => ?_, ?_, ?_⟩, g3⟩
 ·rw [g4 b (by omega)]
  ·exact h3 b hb
  ·rcases h4 with h | h
   ·exact .inl h
   ·exact .inr (by omega)
 ·rcases g5 with h | ⟨h6, h7⟩ | h
  ·exact .inr (by omega)
  ·rcases h4 with h | h
   ·exact absurd h h6
   ·exact .inr (by omega)
  ·exact .inl h
 ·rw [g6, h5]; simp
end
namespace Op
open Sha
theorem Ob.push {l l1 : Hl} {v : CV} {a : List B} {nl : Bool} (h : Ob 1 enc8 l l1 v a nl) (x : B) (hroom : a.length ≤ 1000000000) :
  ∃ v' l', appM (l1 ++ [.cells 1 [e8 x]]) 1 1 v (.sl 1 l1.length 0 1 1 1) = some (v', l') ∧ Ob 1 enc8 l l' v' (a ++ [x]) false := by
 have hr : roomMax = 140737488355328 := rfl
 obtain ⟨v', l', g1, g2, _⟩ := (h.more [.cells 1 [e8 x]]).app (by_ := 1) (x := .sl 1 l1.length 0 1 1 1) (xs := [x]) (by simp [contentsL, enc8]) (by simp [enc8]) (by omega) (by omega) (by rw [hr]; simp; omega)
 exact ⟨v', l', g1, by simpa using g2⟩
theorem enc8_flat : ∀ a : List B, (a.map enc8).flatten = a.map e8
 | [] => rfl
 | x :: a => by rw [List.map_cons, List.flatten_cons, enc8_flat a]; rfl
theorem own_arr {l : Hl} {j n : Nat} {a : List B} (ha : a.length = n) (hj : l[j]? = some (.cells n (a.map e8))) : OwnS 1 l (.sl 1 j 0 n n n) j (a.map enc8) := by
 refine .sl j n n n (a.map e8) _ hj (by simp [ha]) (by simp [ha]) (fun e he => ?_) (Nat.le_refl _) (by omega) ?_
 ·obtain ⟨x, _, rfl⟩ := List.mem_map.1 he; rfl
 ·rw [List.take_of_length_le (by simp [ha]), enc8_flat]
def nk (n : Nat) : Nat := if n < 256 then 1 else if n < 65536 then 2 else if n < 16777216 then 3 else if n < 4294967296 then 4 else if n < 1099511627776 then 5 else if n < 281474976710656 then 6 else if n < 72057594037927936 then 7 else 8
def byteAt (n i : Nat) : B := BitVec.ofNat 8 (n >>> (8 * i))
def tailBE (n : Nat) : Nat → List B
 | 0 => []
 | i + 1 => byteAt n i :: tailBE n i
def numB (n : Nat) : List B := if n ≤ 247 then [BitVec.ofNat 8 n] else BitVec.ofNat 8 (247 + nk n) :: tailBE n (nk n)
def digs (n k : Nat) : List B := (List.range k).map (byteAt n)
theorem Ob.get {l l1 : Hl} {v : CV} {a : List B} {nl : Bool} (h : Ob 1 enc8 l l1 v a nl) {k : IntKind} {i : Nat} {x : B} (hx : a[i]? = some x) : ∃ p cs o, iaC (.sl 1) v (.int k (i : Int)) = some p ∧ reachL l1 p = some (cs, o) ∧ cs[o]? = some (e8 x) := by
 obtain ⟨j, h, _⟩ := h
 obtain ⟨p, cs, o, h1, h2, h3, h4⟩ := h.q.get (k := k) (i := i) (e := enc8 x) (by rw [List.getElem?_map, hx]; rfl)
 refine ⟨p, cs, o, h1, h2, ?_⟩
 have := congrArg (fun l => l[0]?) h4
 simp [List.getElem?_take, List.getElem?_drop, enc8] at this
 exact this
structure NumI (l : Hl) (n : Q) (i : Nat) (σ : Sg) (l1 : Hl) : Prop where
 g0 : σ 0 = e64 (n >>> (8 * i))
 ob : ∃ v, σ 3 = v ∧ Ob 1 enc8 l l1 v (digs n.toNat i) (decide (i = 0))
structure NumJ (l1 : Hl) (v : CV) (n : Q) (k i : Nat) (σ : Sg) (l2 : Hl) : Prop where
 g3 : σ 3 = v
 g5 : σ 5 = .int .i64 ((k : Int) - 1 - i)
 ob : ∃ w, σ 4 = w ∧ Ob 1 enc8 l1 l2 w (BitVec.ofNat 8 (247 + k) :: ((digs n.toNat k).reverse.take i)) false
end Op
end Go.CM

namespace Go.CM
open Go Go.Proofs
set_option maxRecDepth 100000
namespace Op
open Sha
theorem flat8 (s : List B) : (s.map enc8).flatten = s.map e8 := enc8_flat s
theorem contents_Bs (l : Hl) (s : Bs) : contentsL l 1 (encBs s) = some ((s.l.map enc8).flatten, s.l.length) := contents_encS l 1 enc8 s
def eId (i : List B) : List CV := i.map e8
abbrev Ids := Sv (List B)
def encIds (s : Ids) : CV := encS 32 eId s
def okIds (s : Ids) : Prop := ∀ i ∈ s.l, i.length = 32
theorem closed_eId (i : List B) : closedL (eId i) = true := closedL_map e8 (fun _ => rfl) _
theorem closed_ids (s : Ids) : (encIds s).closed = true := closed_encS closed_eId s
theorem cmpBytes_B : ∀ a b : List B, a.length = b.length → cmpBytes (a.map fun x => UInt8.ofNat x.toNat) (b.map fun x => UInt8.ofNat x.toNat) = cmpB a b
 | [], [], _ => rfl
 | [], _ :: _, h => by simp at h
 | _ :: _, [], h => by simp at h
 | x :: a, y :: b, h => by
  have ih := cmpBytes_B a b (by simpa using h)
  have hx := x.isLt
  have hy := y.isLt
  rw [cmpB_cons]
  simp only [List.map_cons, cmpBytes, ih]
  have e1 : (UInt8.ofNat x.toNat = UInt8.ofNat y.toNat) ↔ x.toNat = y.toNat := by
   constructor
   ·intro h
    have := congrArg UInt8.toNat h
    simp only [UInt8.toNat_ofNat'] at this
    omega
   ·intro h; rw [h]
  have e2 : (UInt8.ofNat x.toNat < UInt8.ofNat y.toNat) ↔ x.toNat < y.toNat := by
   rw [UInt8.lt_iff_toNat_lt]; simp only [UInt8.toNat_ofNat']
   rw [Nat.mod_eq_of_lt (by omega), Nat.mod_eq_of_lt (by omega)]
  by_cases h1 : x.toNat = y.toNat
  ·rw [if_pos (e1.2 h1), if_neg (by omega), if_neg (by omega)]
  ·rw [if_neg (fun h => h1 (e1.1 h))]
   by_cases h2 : x.toNat < y.toNat
   ·rw [if_pos (e2.2 h2), if_pos h2]
   ·rw [if_neg (fun h => h2 (e2.1 h)), if_neg h2, if_pos (by omega)]
@[simp ↓] theorem m_cmpB {P : Program} {ρ : Operand → CV} {l : Hl} (f : FuncId) (fo x y : Operand) : mstep P ρ l (.cmpB f fo x y) = (match isFn f (ρ fo) with | true => pu l (cmpL l (ρ x) (ρ y)) | false => none) := id rfl
@[simp ↓] theorem keep_cmpB (f : FuncId) (fo x y : Operand) (v : CV) (l : Hl) (K : CV → Hl → Prop) : keepK (.cmpB f fo x y) v l K = K v l := id rfl
@[simp] theorem isFn_self (f : FuncId) : isFn f (.fn f [] []) = true := Nat.beq_refl f
theorem bytesOfC_e8 : ∀ a : List B, bytesOfC (a.map e8) = some (a.map fun x => UInt8.ofNat x.toNat)
 | [] => rfl
 | x :: a => by
  simp only [List.map_cons, bytesOfC, bytesOfC_e8 a, Option.map_some]
  simp [u]
theorem bytesOfL_Bs (l : Hl) (s : Bs) : bytesOfL l (encBs s) = some (s.l.map fun x => UInt8.ofNat x.toNat) := by
 have h := contents_Bs l s
 rw [flat8] at h
 cases s with
 | none => simp [bytesOfL, encS, contentsL, bytesOfC]
 | some a =>
  unfold bytesOfL
  simp only [encS]
  have h2 : contentsL l 1 (CV.rsl 1 (a.map enc8)) = some (a.map e8, a.length) := h
  rw [h2]
  exact bytesOfC_e8 a
theorem bCompare_ok (a b : Bs) (h : a.l.length = b.l.length) : PureC Tryz.prog GS 104 [encBs a, encBs b] (.int .i64 (cmpB a.l b.l)) := by
 refine pure_of Tryz.checked.mixed GS_closed ?_
 apply call_intro c104_eq r104_eq
 unfold c104 r104
 have hc : cmpL [] (encBs a) (encBs b) = some (.int .i64 (cmpB a.l b.l)) := by
  unfold cmpL
  rw [bytesOfL_Bs, bytesOfL_Bs]
  simp only [cmpBytes_B _ _ h]
 simp [hc]
 exact rd_eq rfl rfl
theorem slice_arr_all {n b : Nat} (hlo : 0 < n) : sliceM (.arr n 1) (.ptr b 0 n) none none none = some (.sl 1 b 0 n n n) := by
 have : boundsC n n none none none = some (0, n, n) := rfl
 simp only [sliceM, this]
 rw [if_pos (by omega), if_neg (by omega)]
 simp
theorem cmp_ok (a b : List B) (ha : a.length = 32) (hb : b.length = 32) : PureC Tryz.prog GS 75 [idC a, idC b] (.int .i64 (cmpB a b)) := by
 refine pure_of Tryz.checked.mixed GS_closed ?_
 apply call_intro c75_eq r75_eq
 unfold c75 r75
 have hs := slice_arr_all (n := 32) (b := 1) (by omega)
 have hs0 := slice_arr_all (n := 32) (b := 0) (by omega)
 simp [idC, ha, hb, hs, hs0]
 have hc := bCompare_ok (some a) (some b) (by simp [ha, hb])
 refine pure_callB hc ?_ rfl ?_
 ·exact .cons ((own_arr (j := 0) ha rfl).rdH_enc (fun _ => rfl) (some a) rfl rfl) (.cons ((own_arr (j := 1) hb rfl).rdH_enc (fun _ => rfl) (some b) rfl rfl) .nil)
 ·simp
  exact rd_eq rfl rfl
abbrev idAt (l : List (List B)) (k : Nat) : List B := l.getD k []
theorem eId_len {x : List B} (h : x.length = 32) : (eId x).length = 32 := by simp [eId, h]
structure LstI (l : Hl) (s : Ids) (k : Nat) (σ : Sg) (l1 : Hl) : Prop where
 g0 : σ 0 = encS 32 eId s
 g4 : σ 4 = .int .i64 k
 ob : ∃ v, σ 3 = v ∧ Ob 1 enc8 l l1 v (numB s.l.length ++ (s.l.take k).flatten) false
structure LstJ (l : Hl) (s : Ids) (k : Nat) (σ : Sg) (l1 : Hl) : Prop where
 g17 : σ 17 = encS 32 eId s
 g18 : σ 18 = .int .i64 s.l.length
 g19 : σ 19 = .int .i64 k
 ob : ∃ v, σ 4 = v ∧ Ob 1 enc8 l l1 v (numB s.l.length ++ (s.l.take k).flatten) false
def tB (s : List UInt8) : List B := s.map fun b => b.toBitVec
def be8 (b : Q) (k : Nat) : List B := (List.range k).map fun i => byteAt b.toNat (7 - i)
def okV (v : Val) : Prop := -9223372036854775808 ≤ v.num ∧ v.num < 9223372036854775808 ∧ v.text.length ≤ 10000
structure BitI (l : Hl) (v : Val) (p : Nat) (k : Nat) (σ : Sg) (l1 : Hl) : Prop where
 g1 : σ 1 = .ptr p 0 4
 g4 : σ 4 = .int .i64 (7 - (k : Int))
 ob : ∃ w, σ 3 = w ∧ Ob 1 enc8 (l ++ [.cells 4 (encV v)]) l1 w (v.kind :: be8 v.bits k) false
structure BitJ (l : Hl) (v : Val) (p : Nat) (k : Nat) (σ : Sg) (l1 : Hl) : Prop where
 g1 : σ 1 = .ptr p 0 4
 g6 : σ 6 = .int .i64 (8 * (7 - (k : Int)))
 ob : ∃ w, σ 5 = w ∧ Ob 1 enc8 (l ++ [.cells 4 (encV v)]) l1 w (v.kind :: be8 v.bits k) false
structure Opr where
 author : D
 preds : Ids
 stamp : Q
 act : Act
 e : D
 s : D
structure OkOp (o : Opr) : Prop where
 ids : okIds o.preds
 len : o.preds.l.length ≤ 1000000
 val : okV o.act.val
 key : o.act.key.length ≤ 10000
theorem beqE8 : ∀ a b : List B, a.length = b.length → beqL (a.map e8) (b.map e8) = decide (a = b)
 | [], [], _ => rfl
 | [], _ :: _, h => by simp at h
 | _ :: _, [], h => by simp at h
 | x :: a, y :: b, h => by
  have ih := beqE8 a b (by simpa using h)
  simp only [List.map_cons, beqL, ih, CV.beq, decide_true, Bool.true_and]
  by_cases h1 : x = y
  ·by_cases h2 : a = b <;> simp [h1, h2]
  ·have : ¬ u x = u y := fun h => h1 ((u_inj x y).1 h)
   simp [h1]
theorem okKE8 : ∀ a : List B, okK (List.replicate a.length (.i .u8)) (a.map e8) = true
 | [] => rfl
 | x :: a => by
  rw [List.length_cons, List.replicate_succ, List.map_cons]
  simp only [okK, okKE8 a, tkOk, decide_true, Bool.and_self]
theorem kindsID : kindsT Tryz.prog 20 61 = some (List.replicate 32 (.i .u8)) := by kernel_rfl
theorem idEql {a b : List B} (ha : a.length = 32) (hb : b.length = 32) : binC Tryz.prog .eql 61 (.ag (eId a)) (.ag (eId b)) = some (.bool (decide (a = b))) := by
 unfold eId
 rw [bin_plain_eql kindsID (by kernel_rfl) (by kernel_rfl) (by have := okKE8 a; rwa [ha] at this) (by have := okKE8 b; rwa [hb] at this), beqE8 a b (by omega)]
def ddN (l : List (List B)) (m : Nat) : List (List B) := (List.range m).flatMap fun k => if k = 0 ∨ idAt l k ≠ idAt l (k - 1) then [idAt l k] else []
structure CmpI (l : Hl) (v : CV) (xs : List (List B)) (k : Nat) (σ : Sg) (l1 : Hl) : Prop where
 g0 : σ 0 = v
 g3 : σ 3 = .int .i64 ((k + 1 : Nat) : Int)
 hl : l1 = l
 hs : ∀ j, 1 ≤ j → j < k + 1 → idAt xs j ≠ idAt xs (j - 1)
structure Cmp2 (l : Hl) (v v2 : CV) (j : Nat) (xs : List (List B)) (m i : Nat) (σ : Sg) (l2 : Hl) : Prop where
 g0 : σ 0 = v
 g4 : σ 4 = v2
 g5 : σ 5 = .int .i64 ((i + 1 : Nat) : Int)
 ex : ∃ (k : Nat) (ys : List (List B)), σ 3 = .int .i64 (k : Int) ∧ OwnS 32 l2 v j (ys.map eId) ∧ ys.length = xs.length ∧ (∀ y ∈ ys, y.length = 32) ∧ ys.take k = ddN xs (m + i + 1) ∧ k ≤ m + i ∧ (∀ t, m + i ≤ t → idAt ys t = idAt xs t) ∧ l2.length = l.length ∧ ∀ b, b ≠ j → l2[b]? = l[b]?
end Op
end Go.CM

namespace Go.CM
open Go Go.Proofs
set_option maxRecDepth 100000
open Sha Op
def pmk (a n : Nat) : Nat → Nat
 | 0 => 1
 | k + 1 => match Nat.beq (n / 2 ^ (63 - k) % 2) 1 with
  | true => ((pmk a n k) ^ 2 % 1000000007) * a % 1000000007
  | false => (pmk a n k) ^ 2 % 1000000007
theorem pmk_eq (a n : Nat) (hn : n < 2 ^ 64) : ∀ k, k ≤ 64 → pmk a n k = powM a (n / 2 ^ (64 - k))
 | 0, _ => by
  have : n / 2 ^ (64 - 0) = 0 := Nat.div_eq_of_lt hn
  rw [this]; rfl
 | k + 1, hk => by
  have ih := pmk_eq a n hn k (by omega)
  have hb := half_bit n k (by omega)
  have e : 64 - (k + 1) = 63 - k := by omega
  rw [e]
  unfold pmk
  rw [ih, Nat.pow_two, powM_two]
  split
  ·rename_i h
   have h1 := Nat.eq_of_beq_eq_true h
   rw [powM_odd, hb, h1]
  ·rename_i h
   have h1 : n / 2 ^ (63 - k) % 2 ≠ 1 := fun hh => by rw [hh] at h; cases h
   rw [hb]
   congr 1; omega
def powF : List CV → Option CV
 | [.int .u32 x, .int .u64 n] => match decide (0 ≤ x) && (decide (x < 4294967296) && (decide (0 ≤ n) && decide (n < 18446744073709551616))) with
  | true => some (.int .u32 ((pmk x.toNat n.toNat 64 : Nat) : Int))
  | false => none
 | _ => none
abbrev powO : FuncId × Bool × (List CV → Option CV) := (151, false, powF)
theorem powO_ok : OrcP Tryz.prog GS powO := by
 intro args r h
 refine ⟨?_, fun h => by cases h⟩
 simp only [powF] at h
 split at h
 ·rename_i x n
  split at h
  ·rename_i hc
   cases h
   simp only [Bool.and_eq_true, decide_eq_true_eq] at hc
   obtain ⟨h1, h2, h3, h4⟩ := hc
   have hx : (CV.int .u32 x) = e32 (BitVec.ofNat 32 x.toNat) := by
    have : ((BitVec.ofNat 32 x.toNat).toNat : Int) = x := by
     rw [BitVec.toNat_ofNat, Nat.mod_eq_of_lt (by omega)]; omega
    simp [e32, u]; omega
   have hn : (CV.int .u64 n) = e64 (BitVec.ofNat 64 n.toNat) := by
    have : ((BitVec.ofNat 64 n.toNat).toNat : Int) = n := by
     rw [BitVec.toNat_ofNat, Nat.mod_eq_of_lt (by omega)]; omega
    simp [e64, u]; omega
   have hp := pow_ok (BitVec.ofNat 32 x.toNat) (BitVec.ofNat 64 n.toNat)
   have hr : e32 (powW (BitVec.ofNat 32 x.toNat) (BitVec.ofNat 64 n.toNat).toNat) = .int .u32 ((pmk x.toNat n.toNat 64 : Nat) : Int) := by
    have e1 : (BitVec.ofNat 32 x.toNat).toNat = x.toNat := by rw [BitVec.toNat_ofNat, Nat.mod_eq_of_lt (by omega)]
    have e2 : (BitVec.ofNat 64 n.toNat).toNat = n.toNat := by rw [BitVec.toNat_ofNat, Nat.mod_eq_of_lt (by omega)]
    show CV.int .u32 (u _) = _
    unfold u
    rw [powW_nat, e1, e2, pmk_eq _ _ (by omega) 64 (Nat.le_refl _)]
    simp
   rw [hx, hn, ← hr]
   exact hp
  ·cases h
 ·cases h
def lsOf : List (List CV) → Option (List Bs)
 | [] => some []
 | [c] :: r => match bytOf c with
  | some s => match Nat.ble s.l.length 10000 with
   | true => match lsOf r with | some l => some (s :: l) | none => none
   | false => none
  | none => none
 | _ => none
theorem lsOf_ok : ∀ {es : List (List CV)} {l : List Bs}, lsOf es = some l → (es = l.map fun s => [encBs s]) ∧ ∀ s ∈ l, s.l.length ≤ 10000
 | [], l, h => by cases h; exact ⟨rfl, fun s hs => by cases hs⟩
 | e :: r, l, h => by
  unfold lsOf at h
  split at h
  ·rename_i e1; cases e1
  ·rename_i c r' e1
   cases e1
   split at h
   ·rename_i s hs
    split at h
    ·rename_i hb
     split at h
     ·rename_i l' hl
      cases h
      obtain ⟨h1, h2⟩ := lsOf_ok hl
      refine ⟨by rw [bytOf_ok hs, h1]; rfl, fun x hx => ?_⟩
      rcases List.mem_cons.1 hx with h3 | h3
      ·rw [h3]; exact Nat.le_of_ble_eq_true hb
      ·exact h2 x h3
     ·cases h
    ·cases h
   ·cases h
  ·cases h
def piecesF : List CV → Option CV
 | [.rsl 1 es] => match lsOf es with
  | some ls => match Nat.ble ls.length 20 with
   | true => some (.tu [idC (sha (bytesOf ls)), .int .i64 0])
   | false => none
  | none => none
 | _ => none
abbrev piecesO : FuncId × Bool × (List CV → Option CV) := (118, false, piecesF)
theorem piecesO_ok : OrcP Tryz.prog GS piecesO := by
 intro args r h
 refine ⟨?_, fun h => by cases h⟩
 simp only [piecesF] at h
 split at h
 ·split at h
  ·rename_i es ls hls
   split at h
   ·rename_i hn
    cases h
    obtain ⟨h1, h2⟩ := lsOf_ok hls
    rw [h1]
    exact pieces_ok ls (Nat.le_of_ble_eq_true hn) h2
   ·cases h
  ·cases h
 ·cases h
end Go.CM

namespace Go.CM
open Go Go.Proofs
set_option maxRecDepth 100000
namespace Op
open Sha
def ixOf {α : Type} [DecidableEq α] (x : α) : List α → Nat → Int
 | [], _ => -1
 | y :: r, k => if y = x then (k : Int) else ixOf x r (k + 1)
theorem ixOf_neg {α : Type} [DecidableEq α] (x : α) : ∀ (l : List α) (k : Nat), (0 ≤ ixOf x l k) ↔ x ∈ l
 | [], k => by simp [ixOf]
 | y :: r, k => by
  unfold ixOf
  by_cases h : y = x
  ·simp [h]
  ·rw [if_neg h, ixOf_neg x r (k + 1)]
   simp [Ne.symm h]
theorem ixOf_at {α : Type} [DecidableEq α] {x : α} : ∀ {l : List α} {k n : Nat} {y : α}, l[k]? = some y → (∀ (j : Nat) (z : α), j < k → l[j]? = some z → z ≠ x) → y = x → ixOf x l n = ((n + k : Nat) : Int)
 | [], k, n, y, h, _, _ => by simp at h
 | w :: r, 0, n, y, h, _, hy => by
  simp at h; subst h
  unfold ixOf
  rw [if_pos hy]; simp
 | w :: r, k + 1, n, y, h, hl, hy => by
  unfold ixOf
  rw [if_neg (hl 0 w (by omega) (by simp)), ixOf_at (k := k) (n := n + 1) (by simpa using h) (fun j z hj hz => hl (j + 1) z (by omega) (by simpa using hz)) hy]
  congr 1; omega
theorem ixOf_no {α : Type} [DecidableEq α] {x : α} : ∀ {l : List α} {n : Nat}, (∀ (j : Nat) (z : α), l[j]? = some z → z ≠ x) → ixOf x l n = -1
 | [], n, _ => rfl
 | w :: r, n, hl => by
  unfold ixOf
  rw [if_neg (hl 0 w (by simp)), ixOf_no fun j z hz => hl (j + 1) z (by simpa using hz)]
theorem wIndexI_ok (s : Ids) (ho : okIds s) (hl : s.l.length ≤ 1000000) (x : List B) (hx : x.length = 32) : PureC Tryz.prog GS 78 [encIds s, .ag (eId x)] (.int .i64 (ixOf x s.l 0)) := by
 refine pure_of Tryz.checked.mixed GS_closed ?_
 apply call_intro c78_eq r78_eq
 unfold c78 r78
 simp [encIds]
 refine loop_up s.l.length (fun k σ l => l = [.cells 32 (eId x)] ∧ σ 0 = encS 32 eId s ∧ σ 3 = .ptr 0 0 32 ∧ σ 7 = .int .i64 s.l.length ∧ σ 8 = .int .i64 k ∧ ∀ (j : Nat) (z : List B), j < k → s.l[j]? = some z → z ≠ x) ?_ (by simp [encIds, eId_len hx])
 rintro k σ l hk ⟨rfl, g0, g3, g7, g8, hs⟩
 obtain ⟨σ, rfl⟩ := upds4 g0 g3 g7 g8
 clear g0 g3 g7 g8
 unfold l78_0
 simp
 refine kIf_intro (fun h => ?_) (fun h => ?_)
 ·simp only [decide_eq_true_eq] at h
  obtain ⟨y, hy, hym⟩ := get_of (l := s.l) (k := k) (by omega)
  have e1 : IntKind.i64.wrap ((k : Int) + 1) = ((k + 1 : Nat) : Int) := by rw [IntKind.wrap_i64]; omega
  simp [hy, eId_len (ho y hym), eId_len hx, List.take_of_length_le, idEql hx (ho y hym)]
  by_cases he : x = y
  ·have hix := ixOf_at (n := 0) hy hs he.symm
   simp [he]
   exact rd_eq (by rw [← he, hix]; simp) rfl
  ·simp [he, e1]
   refine ⟨by omega, fun j z hj hz => ?_⟩
   by_cases hjk : j = k
   ·subst hjk; rw [hy] at hz; obtain rfl := Option.some.inj hz; exact fun h => he h.symm
   ·exact hs j z (by omega) hz
 ·simp [h]
  have hk2 : k = s.l.length := by simp at h; omega
  exact rd_eq (by rw [ixOf_no fun j z hz => hs j z (by rw [hk2]; exact (List.getElem?_eq_some_iff.1 hz).1) hz]) rfl
theorem wInI_ok (s : Ids) (ho : okIds s) (hl : s.l.length ≤ 1000000) (x : List B) (hx : x.length = 32) : PureC Tryz.prog GS 48 [encIds s, .ag (eId x)] (.bool (decide (x ∈ s.l))) := by
 refine pure_of Tryz.checked.mixed GS_closed ?_
 apply call_intro c48_eq r48_eq
 unfold c48 r48
 simp [eId_len hx, List.take_of_length_le]
 refine pure_call (wIndexI_ok s ho hl x hx) (by have := closed_ids s; have := closed_eId x; simp_all [closedL, CV.closed]) ?_
 simp
 exact rd_eq (congrArg CV.bool (by simp only [ixOf_neg])) rfl
end Op
end Go.CM

namespace Go.CM
open Go Go.Proofs Go.RowKit
set_option maxRecDepth 100000
section
variable {P : Program} {n : Nat}
theorem op_wide {o : Oper} {a : Act} {w : World} {K K' : Act → World → Prop} {Q Q' : Exit → Act → World → Prop} (hK : ∀ a w, K a w → K' a w) (hQ : ∀ e a w, e ≠ .normal → Q e a w → Q' e a w) (h : o.wp P a w K Q) : o.wpIn Fence.wide n P a w K' Q' := by
 unfold Oper.wp at h
 refine ⟨fun _ _ => trivial, ?_⟩
 show o.uponIn Fence.wide n P a K' Q' ((execOp a.eval o).run P w)
 cases hx : (execOp a.eval o).run P w with
 | ok x w' =>
  rw [hx] at h
  cases x with
  | value v => exact hK _ _ h
  | skip => exact hK _ _ h
  | defer d => exact hK _ _ h
  | enter f args =>
   refine ⟨fun hd => (by cases hd), (callsIn_wide.2 h).mono ?_⟩
   rintro (v | ch | _) w2 h2
   ·exact hK _ _ h2
   ·exact hQ _ _ _ (by simp) h2
   ·obtain ⟨a0, w0, hh⟩ := h2
    exact ⟨a0, w0, hQ _ _ _ (by simp) hh⟩
  | row r args => exact ⟨fun hd => (by cases hd), fun c cs _ => let ⟨v, w', r, s⟩ := h c cs; ⟨v, w', hK _ _ r, stepsIn_wide.2 s⟩⟩
  | _ => exact h.elim
 | halt e w' =>
  rw [hx] at h
  cases e <;> first | exact hQ _ _ _ (by simp) h | exact h.elim
theorem list_wide {all : Array Oper} {Q : Exit → Act → World → Prop} : ∀ {l1 l2 : List Oper} {a : Act} {w : World},
  wpList P all (fun e a w => match e with | .normal => wpListIn Fence.wide n P all Q l2 a w | _ => False) l1 a w → wpListIn Fence.wide n P all Q (l1 ++ l2) a w
 | [], l2, a, w, h => h
 | o :: l1, l2, a, w, h => by
  rw [List.cons_append]
  unfold wpList at h
  unfold wpListIn
  split
  ·rename_i hw
   rw [if_pos hw] at h
   rcases h with h | ⟨_, a0, w0, hh⟩
   ·refine op_wide (fun a w hh => list_wide hh) (fun e a w he hh => ?_) h
    cases e <;> first | exact absurd rfl he | exact hh.elim
   ·exact hh.elim
  ·rename_i hw
   rw [if_neg hw] at h
   exact ⟨fun _ _ => trivial, list_wide h⟩
end
section
variable {P : Program} {n : Nat}
def recR (fn : FuncId) (tmps : Array Value) (ps : Array Tmp) (body : Code) (D : Nat) (st : LoopState) (pe : Option Code) : Loop := { state := st, pending := pe, fn, tmps := tmps, params := ps, assign := .skip, body, defers := D }
theorem range1 {g : Operand} {ps : Array Tmp} {body : Code} {Q : Exit → Act → World → Prop} {a : Act} {w : World} {gf : Nat} {lb : Array Value}
  (hg : a.eval g = .func (.func gf) #[] lb) (eg : ∀ args w, (callFunc gf args).run P w = .ok (.enter gf args) w) (hps : ps.size = 1)
  {A B : Prop} (T : World → World → Prop) (hT : ∀ W W', T W W' → KeepsOthers W W')
  (hbody : ∀ (fn : FuncId) (x : Value) (W : World), Blw ((w.alloc (.deferred (some []))).alloc (.loop (recR fn a.tmps ps body w.heap.size .ready none))) W →
   body.wpIn (Fence.wide.inRound (w.heap.size + 1)) n P (fun e _ W' => e = .ret ∧ T (W.putObj (w.heap.size + 1) (.loop (recR fn a.tmps ps body w.heap.size .busy none))) W')
    { tmps := (ps.zip #[x]).foldl (fun t (p, v) => t.setIfInBounds p v) a.tmps, defers := [] } (W.putObj (w.heap.size + 1) (.loop (recR fn a.tmps ps body w.heap.size .busy none))))
  (hcall : ∀ (fn : FuncId) (W1 : World), W1 = (w.alloc (.deferred (some []))).alloc (.loop (recR fn a.tmps ps body w.heap.size .ready none)) →
   (∀ (x : Value) (W : World), Blw W1 W → YieldAt Fence.wide n P (w.heap.size + 1) #[x] W fun e W' => e = .returned (.bool false) ∧ ∃ W3, T (W.putObj (w.heap.size + 1) (.loop (recR fn a.tmps ps body w.heap.size .busy none))) W3 ∧
    W' = W3.putObj (w.heap.size + 1) (.loop (recR fn a.tmps ps body w.heap.size .done (some .ret)))) →
   CallsIn Fence.wide (n - 1) P gf (#[.func (.yield (w.heap.size + 1)) #[] #[]] ++ lb) W1 fun e W2 => (∃ v, e = .returned v) ∧ ((A ∧ Blw W1 W2) ∨
    (B ∧ ∃ W W3, Blw W1 W ∧ T (W.putObj (w.heap.size + 1) (.loop (recR fn a.tmps ps body w.heap.size .busy none))) W3 ∧ Blw (W3.putObj (w.heap.size + 1) (.loop (recR fn a.tmps ps body w.heap.size .done (some .ret)))) W2)))
  (hdone : ∀ (fn : FuncId) (W1 W2 : World), W1 = (w.alloc (.deferred (some []))).alloc (.loop (recR fn a.tmps ps body w.heap.size .ready none)) → A → Blw W1 W2 →
   Q .normal { a with defers := { target := .collected w.heap.size, args := #[] } :: a.defers } (W2.putObj (w.heap.size + 1) (.loop (recR fn a.tmps ps body w.heap.size .exhausted none))))
  (hstop : ∀ (fn : FuncId) (W1 W W3 W2 : World), W1 = (w.alloc (.deferred (some []))).alloc (.loop (recR fn a.tmps ps body w.heap.size .ready none)) → B → Blw W1 W →
   T (W.putObj (w.heap.size + 1) (.loop (recR fn a.tmps ps body w.heap.size .busy none))) W3 → Blw (W3.putObj (w.heap.size + 1) (.loop (recR fn a.tmps ps body w.heap.size .done (some .ret)))) W2 →
   Q .ret { a with defers := { target := .collected w.heap.size, args := #[] } :: a.defers } (W2.putObj (w.heap.size + 1) (.loop (recR fn a.tmps ps body w.heap.size .exhausted (some .ret))))) :
  (Code.rangeFunc g ps .skip body).wpIn Fence.wide n P Q a w := by
 refine wpIn_rangeFunc ?_
 intro fn hfn
 rw [Fence.wide_round]
 obtain ⟨W1, hW1⟩ : ∃ W1, (w.alloc (.deferred (some []))).alloc (.loop (recR fn a.tmps ps body w.heap.size .ready none)) = W1 := ⟨_, rfl⟩
 have hL1 : W1.heap[w.heap.size + 1]? = some (.loop (recR fn a.tmps ps body w.heap.size .ready none)) := by
  rw [← hW1]; have := World.alloc_heap_new (w.alloc (.deferred (some []))) (.loop (recR fn a.tmps ps body w.heap.size .ready none)); rwa [World.size_alloc] at this
 have hsz : W1.heap.size = w.heap.size + 2 := by rw [← hW1]; simp
 refine ⟨w.heap.size + 1, [{ target := .collected w.heap.size, args := #[] }], W1, { target := .fn (.func gf) lb, args := #[.func (.yield (w.heap.size + 1)) #[] #[]] }, W1, gf,
  #[.func (.yield (w.heap.size + 1)) #[] #[]] ++ lb, W1, ?_, ?_, ?_, ?_, fun hd => (by cases hd), ?_⟩
 ·rw [← hW1]; exact run_enterLoop_outer _ _ _ _ _
 ·simp only [resolve, hg]
  simp [go_sem]
 ·intro f' hf'; trivial
 ·simp [invoke, go_sem, eg]
 ·refine (hcall fn W1 hW1.symm fun x W hb => ?_).mono ?_
  ·have hl : W.heap[w.heap.size + 1]? = some (.loop (recR fn a.tmps ps body w.heap.size .ready none)) := (hb.toBelow.block _ (by omega)).trans hL1
   have hlt : w.heap.size + 1 < W.heap.size := (Array.getElem?_eq_some_iff.1 hl).1
   have hy := run_yield (P := P) (args := #[x]) hl (by show 1 = ps.size; omega)
   refine ⟨fn, _, .skip, body, hy, roundIn_of_wpIn hfn (wpIn_skip ⟨_, run_beginRound hl rfl, ?_⟩)⟩
   have hl2 : (W.putObj (w.heap.size + 1) (.loop (recR fn a.tmps ps body w.heap.size .busy none))).heap[w.heap.size + 1]? = some (.loop (recR fn a.tmps ps body w.heap.size .busy none)) := World.putObj_heap_same hlt
   refine wpIn_mono (hbody fn x W (by rw [hW1]; exact hb)) ?_
   rintro e a3 W3 ⟨rfl, ht⟩
   have hl3 := (hT _ _ ht).same _ _ hl2 rfl
   have hr := run_endRound (P := P) (some .ret) hl3
   exact ⟨_, _, hr, rfl, W3, ht, rfl⟩
  ·rintro e W2 ⟨⟨v, rfl⟩, (⟨hA, hb⟩ | ⟨hB, W, W3, hb, ht, hb2⟩)⟩
   ·have hl : W2.heap[w.heap.size + 1]? = some (.loop (recR fn a.tmps ps body w.heap.size .ready none)) := (hb.toBelow.block _ (by omega)).trans hL1
    exact ⟨none, _, run_endLoop (P := P) hl (by simp [recR]), hdone fn W1 W2 hW1.symm hA hb⟩
   ·have hl : W.heap[w.heap.size + 1]? = some (.loop (recR fn a.tmps ps body w.heap.size .ready none)) := (hb.toBelow.block _ (by omega)).trans hL1
    have hlt : w.heap.size + 1 < W.heap.size := (Array.getElem?_eq_some_iff.1 hl).1
    have hl2 : (W.putObj (w.heap.size + 1) (.loop (recR fn a.tmps ps body w.heap.size .busy none))).heap[w.heap.size + 1]? = some (.loop (recR fn a.tmps ps body w.heap.size .busy none)) := World.putObj_heap_same hlt
    have hl3 := (hT _ _ ht).same _ _ hl2 rfl
    have hlt3 := (Array.getElem?_eq_some_iff.1 hl3).1
    have hl4 : W2.heap[w.heap.size + 1]? = some (.loop (recR fn a.tmps ps body w.heap.size .done (some .ret))) := (hb2.toBelow.block _ (by simpa using hlt3)).trans (World.putObj_heap_same hlt3)
    exact ⟨some .ret, _, run_endLoop (P := P) hl4 (by simp [recR]), wpIn_ret (hstop fn W1 W W3 W2 hW1.symm hB hb ht hb2)⟩
end
def subC : Code → List Bool → Code
 | c, [] => c
 | .seq a b, d :: r => subC (if d then b else a) r
 | .block _ c, _ :: r => subC c r
 | .loop c, _ :: r => subC c r
 | .cond _ a b, d :: r => subC (if d then b else a) r
 | .rangeFunc _ _ a b, d :: r => subC (if d then b else a) r
 | c, _ :: _ => c
def opsC : Code → Array Oper
 | .region _ o _ => o
 | _ => #[]
section
variable {P : Program} {G : Nat → CV}
theorem code_in (hmix : P.follows .mixedOrders = true) (hG : ∀ g, (G g).closed = true) {N n : Nat} {code : Code} {c : Cd} (hc : comp P N code = some c) {σ : Sg} {l : Hl} {K : KC} (hrun : run P G c σ l K)
  {R : Nat → Prop} {B : Nat} {w : World} {μ : Mu} {a : Act} {Q : Exit → Act → World → Prop} (rel : Rel R B w (HL l) μ) (g : Gok G w R (HL l) μ) (s : SR N w R (HL l) μ σ a)
  (hQ : ∀ e a' w' μ' σ' l', K e σ' l' → Ext w (HL l) μ w' (HL l') μ' → Rel R B w' (HL l') μ' → SR N w' R (HL l') μ' σ' a' → Q e.out a' w') : code.wpIn Fence.wide n P Q a w := by
 obtain ⟨e, σ', l', hev, _, hk⟩ := run_ok (Nat.le_refl N) code c hc σ l K hrun
 obtain ⟨n0, hs⟩ := sound hmix hG hev
 exact wpIn_wide.2 (wpX.wp (hs R B w μ a Q rel g s fun a' w' μ' e1 r1 s1 => hQ e a' w' μ' σ' l' hk e1 r1 s1))
theorem part_in (hmix : P.follows .mixedOrders = true) (hG : ∀ g, (G g).closed = true) {N n : Nat} {ops : Array Oper} (hN : ∀ (i : Nat) (o : Oper), ops[i]? = some o → dstOk N o.dst = true) {ss : List Stp} {os l2 : List Oper} (hall : AllOk P ops ss os)
  {σ : Sg} {l : Hl} {K : Sg → Hl → Prop} (hrun : runS P G ss σ l K)
  {R : Nat → Prop} {B : Nat} {w : World} {μ : Mu} {a : Act} {Q : Exit → Act → World → Prop} (rel : Rel R B w (HL l) μ) (g : Gok G w R (HL l) μ) (s : SR N w R (HL l) μ σ a)
  (hQ : ∀ a' w' μ' σ' l', K σ' l' → Ext w (HL l) μ w' (HL l') μ' → Rel R B w' (HL l') μ' → SR N w' R (HL l') μ' σ' a' → wpListIn Fence.wide n P ops Q l2 a' w') : wpListIn Fence.wide n P ops Q (os ++ l2) a w := by
 obtain ⟨σ', l', hev, _, hk⟩ := runS_ok hN hall hrun
 refine list_wide ?_
 exact sound hmix hG hev R B w μ a _ rel g s fun a' w' μ' e1 r1 s1 => hQ a' w' μ' σ' l' hk e1 r1 s1
theorem round_any {n m : Nat} {l : Nat} {f : FuncId} {tmps : Array Value} {assign body : Code} {w : World} {R : Ending → World → Prop} (h : RoundIn Fence.wide n P l f tmps assign body w R) : RoundIn Fence.wide m P l f tmps assign body w R :=
 ⟨h.1, fun c cs _ => h.2 c cs (room_wide _)⟩
theorem ptr_ro {R : Nat → Prop} {B : Nat} {w : World} {l : Hl} {μ : Mu} (rel : Rel R B w (HL l) μ) {b sz : Nat} {cs : List CV} (hb : l[b]? = some (.cells sz cs)) (hc : closedL cs = true) {v : Value} (hv : VR w R (HL l) μ (.ptr b 0 sz) v) : VR0 w R (.rptr cs 0) v := by
 have hf : (HL l).f b = .cells sz cs := HL_cells.2 hb
 cases hv with
 | ptrGone _ _ _ a hg =>
  rcases hg with h | ⟨n, cs2, h, hlt⟩
  ·rw [hf] at h; cases h
  ·rw [hf] at h; injection h with h1 h2; omega
 | ptr _ _ _ cs2 m hb2 hm =>
  rw [hf] at hb2
  injection hb2 with _ e2
  subst e2
  have hbk := rel.blk b m hm
  rw [hf] at hbk
  obtain ⟨h1, h2, arr, e, fz, h3, h4, h5, h6⟩ := hbk
  have hR : R m.r := rel.up _ (rel.base b m (by rw [hf]; rfl) hm)
  refine .rptr cs 0 m.r m.s (fun j => (arr[m.s + j]?).getD undef) (fun j hj => ?_) fun j c hj => ?_
  ·obtain ⟨v, k1, k2, k3⟩ := h6 j cs[j] (List.getElem?_eq_getElem hj)
   rw [k1]
   refine ⟨?_, k2, hR, not_own_empty _ _⟩
   simp only [World.cell?, h3]
   simpa using k1
  ·obtain ⟨v, k1, k2, k3⟩ := h6 j c hj
   rw [k1]
   exact (closed_vr k3 (closedL_get hc j c hj)).up fun k _ hk => ⟨hk.1, not_own_empty _ _⟩
theorem VR0.blw {w w' : World} {A : Nat → Prop} {c : CV} {v : Value} (hv : VR0 w A c v) (hb : Blw w w') : VR0 w' A c v := by
 obtain ⟨e, _⟩ := rel_below (rel_empty w (fun k => A k ∨ w.heap.size ≤ k) fun k hk => .inr hk) hb
 exact VR.ext0 (R := A) (⟨e.os, e.tape, e.output, e.size, e.keep, e.own, e.cells, e.gone, e.objs, e.n, e.drawn⟩) hv
end
end Go.CM

namespace Go.CM
open Go Go.Proofs Go.RowKit
set_option maxRecDepth 100000
namespace Op
open Sha
def LP (R1 R2 R3 R4 : Array Oper) : Code := .seq (.region 1 R1 false) (.seq (.cond (.tmp 10) .skip (.exit 0)) (.seq (.block 1 (.seq (.region 2 R2 false) (.seq (.region 3 R3 false) (.cond (.tmp 23) .ret .skip)))) (.region 4 R4 false)))
def encSt (cap ver : Int) (parts heads : CV) (ord : Ids) : List CV := [.int .i64 cap, parts, heads, .int .i64 ver, encIds ord]
theorem closed_St {cap ver : Int} {parts heads : CV} {ord : Ids} (hp : parts.closed = true) (hh : heads.closed = true) : closedL (encSt cap ver parts heads ord) = true := by
 simp [encSt, closedL, hp, hh, closed_ids, CV.closed]
structure HdI (E : List CV) (ps : Ids) (S : List CV) (Lo : Nat) (W1 : World) (k : Nat) (a : Go.Act) (W : World) : Prop where
 size : a.tmps.size = 25
 defers : a.defers = []
 t0 : a.tmps.getD 0 undef = .func (.yield Lo) #[] #[]
 t8 : a.tmps.getD 8 undef = .int .i64 ps.l.length
 t9 : a.tmps.getD 9 undef = .int .i64 k
 ex : ∃ A, VR0 W A (.rptr (E) 0) (a.tmps.getD 1 undef) ∧ VR0 W A (.rptr S 0) (a.tmps.getD 2 undef) ∧ VR0 W A (encIds ps) (a.tmps.getD 7 undef) ∧ ∀ g, VR0 W A (GS g) (.pointer (some ⟨g, 0, none⟩))
 blw : Blw W1 W
def sgH (E : List CV) (ps : Ids) (S : List CV) (Lo k : Nat) : Sg := fupd (fupd (fupd (fupd (fupd (fupd (fun _ => CV.bad) 0 (.yl Lo)) 1 (.rptr (E) 0)) 2 (.rptr S 0)) 7 (encIds ps)) 8 (.int .i64 ps.l.length)) 9 (.int .i64 k)
theorem HdI.sr {E : List CV} {ps : Ids} {S : List CV} {Lo : Nat} {W1 : World} {k : Nat} {a : Go.Act} {W : World} (h : HdI E ps S Lo W1 k a W) :
  ∃ R : Nat → Prop, Rel R W.heap.size W (HL []) (fun _ => none) ∧ Gok GS W R (HL []) (fun _ => none) ∧ SR 25 W R (HL []) (fun _ => none) (sgH E ps S Lo k) a := by
 obtain ⟨A, h1, h2, h7, hg⟩ := h.ex
 have up : ∀ {c : CV} {v : Value}, VR0 W A c v → VR W (fun k => A k ∨ W.heap.size ≤ k) Hp.empty (fun _ => none) c v := fun hc => hc.up (fun k _ hk => ⟨.inl hk, not_own_empty _ k⟩)
 refine ⟨fun k => A k ∨ W.heap.size ≤ k, rel_empty W _ fun k hk => .inr hk, fun g => ⟨GS_closed g, up (hg g)⟩, h.size, h.defers, fun t => ?_⟩
 unfold sgH
 by_cases e9 : t = 9
 ·subst e9; rw [fupd_same, h.t9]; exact .int _ _
 rw [fupd_ne _ _ _ _ e9]
 by_cases e8 : t = 8
 ·subst e8; rw [fupd_same, h.t8]; exact .int _ _
 rw [fupd_ne _ _ _ _ e8]
 by_cases e7 : t = 7
 ·subst e7; rw [fupd_same]; exact up h7
 rw [fupd_ne _ _ _ _ e7]
 by_cases e2 : t = 2
 ·subst e2; rw [fupd_same]; exact up h2
 rw [fupd_ne _ _ _ _ e2]
 by_cases e1 : t = 1
 ·subst e1; rw [fupd_same]; exact up h1
 rw [fupd_ne _ _ _ _ e1]
 by_cases e0 : t = 0
 ·subst e0; rw [fupd_same, h.t0]; exact .yl _
 rw [fupd_ne _ _ _ _ e0]
 exact .bad _
theorem blw_ext {w w' : World} {h' : Hp} {μ' : Mu} (e : Ext w Hp.empty (fun _ => none) w' h' μ') : Blw w w' := ⟨⟨e.os, e.tape, e.output, e.size, fun k hk => e.keep k hk (not_own_empty _ k)⟩, e.drawn⟩
theorem blw_tr {a b c : World} (h1 : Blw a b) (h2 : Blw b c) : Blw a c := ⟨h1.toBelow.trans (h2.toBelow.mono h1.toBelow.size), Nat.le_trans h1.drawn h2.drawn⟩
theorem blw_rfl (w : World) : Blw w w := ⟨RowKit.Below.refl _ w, Nat.le_refl _⟩
theorem HdI.mk' {E : List CV} {ps : Ids} {S : List CV} (hE : closedL E = true) (hS : closedL S = true) {Lo : Nat} {W1 W W' : World} {k : Nat} {a' : Go.Act} {R : Nat → Prop} {l' : Hl} {μ' : Mu} {σ' : Sg} (hb : Blw W1 W) (e : Ext W Hp.empty (fun _ => none) W' (HL l') μ') (g : Gok GS W' R (HL l') μ') (s : SR 25 W' R (HL l') μ' σ' a')
  (k0 : σ' 0 = .yl Lo) (k1 : σ' 1 = .rptr (E) 0) (k2 : σ' 2 = .rptr S 0) (k7 : σ' 7 = encIds ps) (k8 : σ' 8 = .int .i64 ps.l.length) (k9 : σ' 9 = .int .i64 k) : HdI E ps S Lo W1 k a' W' := by
 have hc : ∀ {t : Nat} {c : CV}, σ' t = c → c.closed = true → VR0 W' (fun k => R k) c (a'.tmps.getD t undef) := fun {t c} ht hcl => by
  have := s.val t
  rw [ht] at this
  exact (closed_vr this hcl).up fun k _ hk => ⟨hk.1, not_own_empty _ k⟩
 refine ⟨s.size, s.defers, ?_, ?_, ?_, ⟨fun k => R k, hc k1 (by simp [CV.closed, hE]), hc k2 (by simp [CV.closed, hS]), hc k7 (closed_ids _), fun i => (closed_vr (g i).2 (g i).1).up fun k _ hk => ⟨hk.1, not_own_empty _ k⟩⟩, blw_tr hb (blw_ext e)⟩
 ·have := s.val 0; rw [k0] at this; generalize a'.tmps.getD 0 undef = v at this ⊢; cases this; rfl
 ·have := s.val 8; rw [k8] at this; generalize a'.tmps.getD 8 undef = v at this ⊢; cases this; rfl
 ·have := s.val 9; rw [k9] at this; generalize a'.tmps.getD 9 undef = v at this ⊢; cases this; rfl
abbrev mS0 : List Stp := [sm 0 6 (.fa 1 (tm 1)), sm 1 7 (.ld1 (tm 6)), sm 2 8 (.len (.sl 32) (tm 7)), sm 3 9 (.mv (.const (.int .i64 0)))]
abbrev mS1 : List Stp := [sm 0 10 (.bin .lss 3 (tm 9) (tm 8))]
abbrev mS2 : List Stp := [sm 0 11 (.ia (.sl 32) (tm 7) (tm 9)), sm 1 12 (.ldA 32 (tm 11)), sm 2 5 (.alloc (rep 32 (.int .u8 0))), se 3 (.st 32 (tm 5) (tm 12))]
abbrev mS3 : List Stp := [sm 0 13 (.fa 4 (tm 2)), sm 1 14 (.ld1 (tm 13)), sm 2 15 (.ldA 32 (tm 5)), sc 3 16 48 [(tm 14), (tm 15)], sm 4 17 (.un .not (tm 16)), sv 5 18 17, sg 6 19 18 true (.mv (tm 0)), sg 7 20 18 true (.ldA 32 (tm 5))]
abbrev mS3b : List Stp := [sg 9 22 18 true (.un .not (tm 21)), sm 10 23 (.pick (tm 18) (tm 22) (.const (.bool false)))]
theorem allOk_stps {P : Program} {ops : Array Oper} : ∀ {idx : List Nat} {ss : List Stp} {os : List Oper}, idx.mapM (fun i => stpOf P ops i [] false) = some ss → os.map some = idx.map (fun i => ops[i]?) → AllOk P ops ss os := by
 intro idx ss os h1 h2
 exact allOk_of (fun i x hx => by obtain ⟨o, h2, h3, _⟩ := stpOf_ok hx; exact ⟨o, h2, h3⟩) h1 h2.symm
structure MOk (R0 R1 R2 R3 R4 : Array Oper) (o8 : Oper) : Prop where
 body : Tryz.f163.body = some (.seq (.region 0 R0 false) (.block 0 (.loop (LP R1 R2 R3 R4))))
 c0 : comp Tryz.prog 25 (.region 0 R0 false) = some (.reg mS0)
 c1 : comp Tryz.prog 25 (.region 1 R1 false) = some (.reg mS1)
 c2 : comp Tryz.prog 25 (.region 2 R2 false) = some (.reg mS2)
 cL : comp Tryz.prog 25 (LP R1 R2 R3 R4) = some l163_0
 split : R3.toList = R3.toList.take 8 ++ (o8 :: (R3.toList.drop 9 ++ []))
 ok3a : AllOk Tryz.prog R3 mS3 (R3.toList.take 8)
 ok3b : AllOk Tryz.prog R3 mS3b (R3.toList.drop 9)
 dst3 : ∀ (i : Nat) (o : Oper), R3[i]? = some o → dstOk 25 o.dst = true
 o8_op : o8.op = .call { callee := .value (.tmp 19), args := #[.tmp 20], argTypes := #[61] }
 o8_dst : o8.dst = some 21
 o8_guard : o8.guard = some (5, true)
 o5_dst : (R3[5]?).bind (·.dst) = some 18
theorem dst_all {R : Array Oper} (hall : (R.toList.all fun o => dstOk 25 o.dst) = true) (i : Nat) (o : Oper) (h : R[i]? = some o) : dstOk 25 o.dst = true := by
 exact List.all_eq_true.1 hall o (by rw [← Array.getElem?_toList] at h; exact List.mem_of_getElem? h)
theorem mOk : ∃ R0 R1 R2 R3 R4 o8, MOk R0 R1 R2 R3 R4 o8 :=
 ⟨opsC (subC ((Tryz.f163.body).getD .skip) [false]),
  opsC (subC ((Tryz.f163.body).getD .skip) [true, false, false, false]),
  opsC (subC ((Tryz.f163.body).getD .skip) [true, false, false, true, true, false, false, false]),
  opsC (subC ((Tryz.f163.body).getD .skip) [true, false, false, true, true, false, false, true, false]),
  opsC (subC ((Tryz.f163.body).getD .skip) [true, false, false, true, true, true]),
  ((opsC (subC ((Tryz.f163.body).getD .skip) [true, false, false, true, true, false, false, true, false])).toList.drop 8).headD { op := .move (.tmp 0), dst := none, type := 0, pos := "", after := #[], guard := none },
  ⟨by kernel_rfl, by kernel_rfl, by kernel_rfl, by kernel_rfl, by kernel_rfl, by kernel_rfl, allOk_stps (idx := [0, 1, 2, 3, 4, 5, 6, 7]) (by kernel_rfl) (by kernel_rfl), allOk_stps (idx := [9, 10]) (by kernel_rfl) (by kernel_rfl),
  dst_all (by kernel_rfl), by kernel_rfl, by kernel_rfl, by kernel_rfl, by kernel_rfl⟩⟩
end Op
end Go.CM
