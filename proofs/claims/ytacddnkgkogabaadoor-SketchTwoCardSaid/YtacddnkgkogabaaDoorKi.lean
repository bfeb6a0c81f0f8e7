/-
  SHA-256, as lists of words and bytes; the words of a block.
-/
import Derived.Test.YtacddnkgkogabaaDoorKh
import Derived.LaidMore
import Derived.MakeChecks
import Derived.Test.YtacddnkgkogabaaDoorRows
import Derived.Shelf.SlSortCmp.WholeK
import Derived.Shelf.SlGeneric
namespace Go.CM
open Go
set_option linter.unusedVariables false
set_option linter.unusedSimpArgs false

namespace Sha
abbrev W := BitVec 32
abbrev B := BitVec 8
def rotr (x : W) (n : Nat) : W := (x >>> n) ||| (x <<< (32 - n))
def wd (l : List B) : W := l.foldl (fun a x => (a <<< 8) ||| x.setWidth 32) 0#32
/-- The first sixteen words, after so many bytes. -/
def part (b : List B) (k t : Nat) : W := wd (((b.take k).drop (4 * t)).take 4)
def words16 (b : List B) : List W := (List.range 16).map fun t => wd ((b.drop (4 * t)).take 4)
def ext (w : List W) : W :=
  let t := w.length
  let x := w.getD (t - 15) 0#32
  let y := w.getD (t - 2) 0#32
  w.getD (t - 16) 0#32 + w.getD (t - 7) 0#32 + (rotr x 7 ^^^ rotr x 18 ^^^ (x >>> 3)) + (rotr y 17 ^^^ rotr y 19 ^^^ (y >>> 10))
def extN : Nat → List W → List W
  | 0, w => w
  | n + 1, w => extN n (w ++ [ext w])
def sched (b : List B) : List W := extN 48 (words16 b)

def mix (x : W) (i j k : Nat) : W := rotr x i ^^^ rotr x j ^^^ rotr x k
structure St where
  (a b c d e f g h : W)
def round (s : St) (k w : W) : St :=
  let p := s.h + mix s.e 6 11 25 + ((s.e &&& s.f) ^^^ (~~~s.e &&& s.g)) + k + w
  let q := mix s.a 2 13 22 + ((s.a &&& s.b) ^^^ (s.a &&& s.c) ^^^ (s.b &&& s.c))
  ⟨p + q, s.a, s.b, s.c, s.d + p, s.e, s.f, s.g⟩
def rounds : St → List W → List W → St
  | s, k :: ks, w :: ws => rounds (round s k w) ks ws
  | s, _, _ => s
def table : List Nat := [0x428a2f98, 0x71374491, 0xb5c0fbcf, 0xe9b5dba5, 0x3956c25b, 0x59f111f1, 0x923f82a4, 0xab1c5ed5, 0xd807aa98, 0x12835b01, 0x243185be, 0x550c7dc3, 0x72be5d74, 0x80deb1fe, 0x9bdc06a7, 0xc19bf174, 0xe49b69c1, 0xefbe4786, 0x0fc19dc6, 0x240ca1cc, 0x2de92c6f, 0x4a7484aa, 0x5cb0a9dc, 0x76f988da, 0x983e5152, 0xa831c66d, 0xb00327c8, 0xbf597fc7, 0xc6e00bf3, 0xd5a79147, 0x06ca6351, 0x14292967, 0x27b70a85, 0x2e1b2138, 0x4d2c6dfc, 0x53380d13, 0x650a7354, 0x766a0abb, 0x81c2c92e, 0x92722c85, 0xa2bfe8a1, 0xa81a664b, 0xc24b8b70, 0xc76c51a3, 0xd192e819, 0xd6990624, 0xf40e3585, 0x106aa070, 0x19a4c116, 0x1e376c08, 0x2748774c, 0x34b0bcb5, 0x391c0cb3, 0x4ed8aa4a, 0x5b9cca4f, 0x682e6ff3, 0x748f82ee, 0x78a5636f, 0x84c87814, 0x8cc70208, 0x90befffa, 0xa4506ceb, 0xbef9a3f7, 0xc67178f2]
def ks : List W := table.map (BitVec.ofNat 32)
def grind (h : St) (b : List B) : St :=
  let v := rounds h ks (sched b)
  ⟨h.a + v.a, h.b + v.b, h.c + v.c, h.d + v.d, h.e + v.e, h.f + v.f, h.g + v.g, h.h + v.h⟩
/-- All whole blocks are ground; so many at most. -/
def blocksN : Nat → St → List B → St × List B
  | 0, h, b => (h, b)
  | n + 1, h, b => if 64 ≤ b.length then blocksN n (grind h (b.take 64)) (b.drop 64) else (h, b)
def blocks (h : St) (b : List B) : St × List B := blocksN (b.length / 64) h b
def first : St := ⟨0x6a09e667#32, 0xbb67ae85#32, 0x3c6ef372#32, 0xa54ff53a#32, 0x510e527f#32, 0x9b05688c#32, 0x1f83d9ab#32, 0x5be0cd19#32⟩
def bytes8 (n : BitVec 64) : List B := [(n >>> 56).setWidth 8, (n >>> 48).setWidth 8, (n >>> 40).setWidth 8, (n >>> 32).setWidth 8, (n >>> 24).setWidth 8, (n >>> 16).setWidth 8, (n >>> 8).setWidth 8, (n >>> 0).setWidth 8]
def tail (n : Nat) : List B := 128#8 :: List.replicate ((119 - n % 64) % 64) 0#8 ++ bytes8 (BitVec.ofNat 64 n * 8#64)
def wbytes (w : W) : List B := [(w >>> 24).setWidth 8, (w >>> 16).setWidth 8, (w >>> 8).setWidth 8, w.setWidth 8]
def St.l (s : St) : List W := [s.a, s.b, s.c, s.d, s.e, s.f, s.g, s.h]
def written (s : St) : List B := (s.l.map wbytes).flatten
def sha (b : List B) : List B := written (blocks first (b ++ tail b.length)).1

/-! ### Laws -/
theorem wd_snoc (l : List B) (x : B) : wd (l ++ [x]) = (wd l <<< 8) ||| x.setWidth 32 := by simp [wd, List.foldl_append]
theorem extN_length : ∀ (n : Nat) (w : List W), (extN n w).length = w.length + n
  | 0, w => rfl
  | n + 1, w => by rw [extN, extN_length n]; simp; omega
theorem sched_length (b : List B) : (sched b).length = 64 := by rw [sched, extN_length]; simp [words16]
theorem sha_length (b : List B) : (sha b).length = 32 := rfl
theorem extN_succ : ∀ (n : Nat) (w : List W), extN (n + 1) w = extN n w ++ [ext (extN n w)]
  | 0, w => rfl
  | n + 1, w => by rw [extN, extN_succ n (w ++ [ext w])]; rfl
theorem blocks_step (h : St) (b : List B) (hb : 64 ≤ b.length) : blocks h b = blocks (grind h (b.take 64)) (b.drop 64) := by
  have : b.length / 64 = (b.drop 64).length / 64 + 1 := by simp; omega
  rw [blocks, this, blocksN, if_pos hb]
  rfl
theorem blocks_end (h : St) (b : List B) (hb : b.length < 64) : blocks h b = (h, b) := by
  rw [blocks, Nat.div_eq_of_lt hb]; rfl
theorem blocks_rest (h : St) (b : List B) : (blocks h b).2.length = b.length % 64 := by
  generalize hn : b.length = n
  induction n using Nat.strongRecOn generalizing h b with
  | _ n ih =>
    rcases Nat.lt_or_ge b.length 64 with h1 | h1
    · rw [blocks_end h b h1, Nat.mod_eq_of_lt (by omega)]; exact hn
    · rw [blocks_step h b h1, ih (b.length - 64) (by omega) _ (b.drop 64) (by simp)]
      omega
theorem blocks_two (h : St) (a b : List B) : blocks h (a ++ b) = blocks (blocks h a).1 ((blocks h a).2 ++ b) := by
  generalize hn : a.length = n
  induction n using Nat.strongRecOn generalizing h a with
  | _ n ih =>
    rcases Nat.lt_or_ge a.length 64 with h1 | h1
    · rw [blocks_end h a h1]
    · rw [blocks_step h a h1, blocks_step h (a ++ b) (by simp; omega), List.take_append_of_le_length h1, List.drop_append_of_le_length h1]
      exact ih (a.length - 64) (by omega) _ (a.drop 64) (by simp)
end Sha
end Go.CM

/-
  The variables of the program: SHA-256's table.
-/
namespace Go.CM
open Go Go.Proofs
set_option linter.unusedVariables false
set_option linter.unusedSimpArgs false

def tblC : List CV := Sha.ks.map e32
def GS : Nat → CV := fun g => match Nat.beq g 0 with | true => .rptr tblC 0 | false => .bad
theorem GS_closed : ∀ g, (GS g).closed = true := by
  intro g
  unfold GS
  split
  · exact closedL_map e32 (fun _ => rfl) _
  · rfl
@[simp]
theorem GS_0 : GS 0 = .rptr tblC 0 := id rfl
theorem tblC_get (i : Nat) (h : i < 64) : tblC[i]? = some (e32 (Sha.ks.getD i 0#32)) := by
  have hl : Sha.ks.length = 64 := rfl
  unfold tblC
  rw [List.getElem?_map, List.getD_eq_getElem?_getD, List.getElem?_eq_getElem (by omega)]
  rfl
end Go.CM

/-
  SHA-256, walked: words turned, mixed; the words of a block.
-/
namespace Go.CM
open Go Go.Proofs
set_option linter.unusedVariables false
set_option linter.unusedSimpArgs false
set_option maxRecDepth 100000
namespace Sha

def rotl (x : W) (k : Int) : W := (x <<< (BitVec.ofInt 64 k &&& 31#64).toNat) ||| (x >>> (32#64 - (BitVec.ofInt 64 k &&& 31#64)).toNat)
theorem rotl_neg (x : W) (n : Nat) (h0 : 0 < n) (h : n < 32) : rotl x (-(n : Int)) = rotr x n := by
  have h1 : ∀ n : Fin 32, 0 < n.val → (BitVec.ofInt 64 (-(n.val : Int)) &&& 31#64) = BitVec.ofNat 64 (32 - n.val) := by decide
  have h2 := h1 ⟨n, h⟩ h0
  simp only at h2
  unfold rotl rotr
  rw [h2, BitVec.or_comm]
  congr 2
  · have : ∀ n : Fin 32, 0 < n.val → (32#64 - BitVec.ofNat 64 (32 - n.val)).toNat = n.val := by decide
    exact this ⟨n, h⟩ h0
  · have : ∀ n : Fin 32, 0 < n.val → (BitVec.ofNat 64 (32 - n.val)).toNat = 32 - n.val := by decide
    exact this ⟨n, h⟩ h0

theorem rot_ok (x : W) (k : Int) : PureC Tryd.prog GS 108 [e32 x, .int .i64 k] (e32 (rotl x k)) := by
  refine pure_of Tryd.checked.mixed GS_closed ?_
  apply call_intro c108_eq r108_eq
  unfold c108 r108
  simp
  exact rd_eq rfl rfl

theorem mix_ok (x : W) (i j k : Nat) (hi : 0 < i ∧ i < 32) (hj : 0 < j ∧ j < 32) (hk : 0 < k ∧ k < 32) : PureC Tryd.prog GS 106 [e32 x, .int .i64 i, .int .i64 j, .int .i64 k] (e32 (mix x i j k)) := by
  refine pure_of Tryd.checked.mixed GS_closed ?_
  apply call_intro c106_eq r106_eq
  unfold c106 r106
  have hn : ∀ n : Nat, n < 32 → IntKind.i64.wrap (-(n : Int)) = -(n : Int) := fun n hn => wrap_i64 (by omega) (by omega)
  simp [hn i hi.2]
  refine pure_call (rot_ok x _) rfl ?_
  simp [hn j hj.2]
  refine pure_call (rot_ok x _) rfl ?_
  simp [hn k hk.2]
  refine pure_call (rot_ok x _) rfl ?_
  simp [rotl_neg x _ hi.1 hi.2, rotl_neg x _ hj.1 hj.2, rotl_neg x _ hk.1 hk.2]
  exact rd_eq rfl rfl
end Sha
end Go.CM

/-
  SHA-256, walked: the words of a block.
-/
namespace Go.CM
open Go Go.Proofs
set_option linter.unusedVariables false
set_option linter.unusedSimpArgs false
set_option maxRecDepth 100000
namespace Sha

def enc8 (x : B) : List CV := [e8 x]
abbrev Bs := Sv B
abbrev encBs (s : Bs) : CV := encS 1 enc8 s
theorem closed_Bs (s : Bs) : (encBs s).closed = true := closed_encS (fun _ => rfl) s

/-- The words while the bytes come in. -/
def wordsAt (b : List B) (k : Nat) : List W := ((List.range 16).map fun t => wd (((b.take k).drop (4 * t)).take 4)) ++ List.replicate 48 0#32
theorem wordsAt_length (b : List B) (k : Nat) : (wordsAt b k).length = 64 := by simp [wordsAt]
theorem wordsAt_zero (b : List B) : wordsAt b 0 = List.replicate 64 0#32 := by simp [wordsAt, wd]; rfl
theorem wordsAt_get (b : List B) (k t : Nat) (ht : t < 16) : (wordsAt b k)[t]? = some (wd (((b.take k).drop (4 * t)).take 4)) := by
  unfold wordsAt
  rw [List.getElem?_append_left (by simpa using ht), List.getElem?_map, List.getElem?_range ht]
  rfl
theorem wordsAt_succ (b : List B) (k : Nat) (hk : k < 64) (hb : k < b.length) (x : B) (hx : b[k]? = some x) :
    (wordsAt b k).set (k / 4) ((wd (((b.take k).drop (4 * (k / 4))).take 4) <<< 8) ||| x.setWidth 32) = wordsAt b (k + 1) := by
  apply List.ext_getElem?
  intro t
  rw [List.getElem?_set, wordsAt_length]
  have hxk : b.take (k + 1) = b.take k ++ [x] := by rw [List.take_add_one, hx]; rfl
  have hlen : (b.take k).length = k := by simp; omega
  by_cases ht : t < 16
  · rw [wordsAt_get b _ t ht, wordsAt_get b _ t ht]
    by_cases h : k / 4 = t
    · rw [if_pos h, if_pos (by omega), ← wd_snoc, hxk, h]
      congr 2
      rw [List.drop_append_of_le_length (by omega)]
      obtain ⟨A, hA⟩ : ∃ A, A = List.drop (4 * t) (List.take k b) := ⟨_, rfl⟩
      have hAl : A.length < 4 := by rw [hA]; simp; omega
      rw [← hA, List.take_of_length_le (by omega), List.take_of_length_le (by simp; omega)]
    · rw [if_neg h, hxk]
      congr 2
      rcases Nat.lt_or_ge k (4 * t) with h1 | h1
      · rw [List.drop_eq_nil_of_le (by omega), List.drop_eq_nil_of_le (by simp; omega)]
      · rw [List.drop_append_of_le_length (by omega), List.take_append_of_le_length (by simp; omega)]
  · rw [if_neg (by omega)]
    unfold wordsAt
    rw [List.getElem?_append_right (by simp; omega), List.getElem?_append_right (by simp; omega)]
    simp
theorem wordsAt_end (b : List B) (hb : 64 ≤ b.length) : wordsAt b 64 = words16 b ++ List.replicate 48 0#32 := by
  unfold wordsAt words16
  congr 1
  apply List.map_congr_left
  intro t ht
  have := List.mem_range.1 ht
  congr 1
  rw [List.drop_take, List.take_take, Nat.min_eq_left (by omega)]

/-- The words while they are made. -/
def schedAt (b : List B) (k : Nat) : List W := extN k (words16 b) ++ List.replicate (48 - k) 0#32
theorem schedAt_length (b : List B) (k : Nat) (hk : k ≤ 48) : (schedAt b k).length = 64 := by simp [schedAt, extN_length, words16]; omega
theorem schedAt_get (b : List B) (k i : Nat) (hi : i < 16 + k) : (schedAt b k)[i]? = some ((extN k (words16 b)).getD i 0#32) := by
  unfold schedAt
  have hl : (extN k (words16 b)).length = 16 + k := by simp [extN_length, words16]
  rw [List.getElem?_append_left (by omega), List.getD_eq_getElem?_getD, List.getElem?_eq_getElem (by omega)]
  rfl
theorem schedAt_succ (b : List B) (k : Nat) (hk : k < 48) : (schedAt b k).set (16 + k) (ext (extN k (words16 b))) = schedAt b (k + 1) := by
  have hl : (extN k (words16 b)).length = 16 + k := by simp [extN_length, words16]
  unfold schedAt
  rw [List.set_append_right _ _ (by omega), hl, Nat.sub_self, show 48 - k = (48 - (k + 1)) + 1 by omega, List.replicate_succ, List.set_cons_zero, extN_succ]
  simp

set_option maxHeartbeats 4000000 in
theorem schedule_ok (b : List B) (hb : 64 ≤ b.length) : PureC Tryd.prog GS 105 [encBs (some b)] (.ag ((sched b).map e32)) := by
  refine pure_of Tryd.checked.mixed GS_closed ?_
  apply call_intro c105_eq r105_eq
  unfold c105 r105
  have hsl : sliceM (.sl 1) (encBs (some b)) none (some (.int .i64 64)) none = some (encBs (some (b.take 64))) := by
    unfold encBs; rw [slice_to (by omega) (by omega)]; rfl
  have hln : min 64 b.length = 64 := by omega
  simp [hsl, hln]
  refine loop_up 64 (fun k σ l => σ 2 = .ptr 0 0 64 ∧ σ 11 = encBs (some (b.take 64)) ∧ σ 12 = .int .i64 64 ∧ σ 13 = .int .i64 k ∧ l = [.cells 64 ((wordsAt b k).map e32)]) ?_ ?_
  · rintro k σ l hk ⟨g2, g11, g12, g13, rfl⟩
    obtain ⟨σ, rfl⟩ := upds4 g2 g11 g12 g13
    clear g2 g11 g12 g13
    unfold l105_0
    simp
    by_cases h : (k : Int) < 64
    · obtain ⟨x, hx⟩ : ∃ x, b[k]? = some x := ⟨_, List.getElem?_eq_getElem (by omega)⟩
      have hx2 : (b.take 64)[k]? = some x := by rw [List.getElem?_take_of_lt (by omega)]; exact hx
      have hia : iaC (.sl 1) (encBs (some (b.take 64))) (.int .i64 k) = some (.rptr (enc8 x) 0) := by simp [encBs, ia_encS, hx2]
      obtain ⟨q, hq4⟩ : ∃ q, q = k / 4 := ⟨_, rfl⟩
      have hq : binInt .quo .i64 (k : Int) .i64 4 = some (.int .i64 (q : Int)) := by rw [hq4]; exact bquo_nat k 4 (by omega) (by omega)
      have hwk : IntKind.i64.wrap ((k : Int) + 1) = k + 1 := wrap_i64 (by omega) (by omega)
      have hlt : (q : Int) < 64 := by omega
      have hg := wordsAt_get b k q (by omega)
      have hs := splice_set e32 (wordsAt b k) q (((wd (((b.take k).drop (4 * q)).take 4) <<< 8) ||| x.setWidth 32)) (by rw [wordsAt_length]; omega)
      rw [hq4, wordsAt_succ b k (by omega) (by omega) x hx, ← hq4] at hs
      have hle : q + 1 ≤ 64 := by omega
      simp [h, hia, enc8, hq, hlt, hg, hle, hwk, hs]
      omega
    · have hk64 : k = 64 := by omega
      subst hk64
      simp
      refine loop_up 48 (fun j σ l => σ 2 = .ptr 0 0 64 ∧ σ 5 = .int .i64 (16 + j : Nat) ∧ l = [.cells 64 ((schedAt b j).map e32)]) ?_ ?_
      · rintro j σ l hj ⟨g2, g5, rfl⟩
        obtain ⟨σ, rfl⟩ := upds2 g2 g5
        clear g2 g5
        unfold l105_1
        obtain ⟨t, ht⟩ : ∃ t, t = 16 + j := ⟨_, rfl⟩
        rw [← ht]
        simp
        by_cases h : (t : Int) < 64
        · have hw1 : IntKind.i64.wrap ((t : Int) + 1) = (t + 1 : Nat) := wrap_i64 (by omega) (by omega)
          have w15 : IntKind.i64.wrap ((t : Int) - 15) = (t - 15 : Nat) := by rw [wrap_i64 (by omega) (by omega)]; omega
          have w2 : IntKind.i64.wrap ((t : Int) - 2) = (t - 2 : Nat) := by rw [wrap_i64 (by omega) (by omega)]; omega
          have w16 : IntKind.i64.wrap ((t : Int) - 16) = (t - 16 : Nat) := by rw [wrap_i64 (by omega) (by omega)]; omega
          have w7 : IntKind.i64.wrap ((t : Int) - 7) = (t - 7 : Nat) := by rw [wrap_i64 (by omega) (by omega)]; omega
          have hl : (extN j (words16 b)).length = t := by simp [extN_length, words16]; omega
          have g15 := schedAt_get b j (t - 15) (by omega)
          have g2 := schedAt_get b j (t - 2) (by omega)
          have g16 := schedAt_get b j (t - 16) (by omega)
          have g7 := schedAt_get b j (t - 7) (by omega)
          have hs := splice_set e32 (schedAt b j) t (ext (extN j (words16 b))) (by rw [schedAt_length b j (by omega)]; omega)
          rw [ht, schedAt_succ b j (by omega), ← ht] at hs
          unfold ext at hs
          rw [hl] at hs
          dsimp only at hs
          obtain ⟨i15, e15⟩ : ∃ i, i = t - 15 := ⟨_, rfl⟩
          obtain ⟨i2, e2⟩ : ∃ i, i = t - 2 := ⟨_, rfl⟩
          obtain ⟨i16, e16⟩ : ∃ i, i = t - 16 := ⟨_, rfl⟩
          obtain ⟨i7, e7⟩ : ∃ i, i = t - 7 := ⟨_, rfl⟩
          rw [← e15] at w15 g15 hs
          rw [← e2] at w2 g2 hs
          rw [← e16] at w16 g16 hs
          rw [← e7] at w7 g7 hs
          have b15 : (i15 : Int) < 64 := by omega
          have b2 : (i2 : Int) < 64 := by omega
          have b16 : (i16 : Int) < 64 := by omega
          have b7 : (i7 : Int) < 64 := by omega
          have hle : t + 1 ≤ 64 := by omega
          generalize (extN j (words16 b)).getD i15 0#32 = x at g15 hs
          generalize (extN j (words16 b)).getD i2 0#32 = y at g2 hs
          generalize (extN j (words16 b)).getD i16 0#32 = x16 at g16 hs
          generalize (extN j (words16 b)).getD i7 0#32 = x7 at g7 hs
          have r7 := rotl_neg x 7 (by omega) (by omega)
          have r18 := rotl_neg x 18 (by omega) (by omega)
          have r17 := rotl_neg y 17 (by omega) (by omega)
          have r19 := rotl_neg y 19 (by omega) (by omega)
          simp at r7 r18 r17 r19
          simp [h, w15, w2, g15, g2, b15, b2]
          refine pure_call (rot_ok _ _) rfl ?_
          simp
          refine pure_call (rot_ok _ _) rfl ?_
          simp
          refine pure_call (rot_ok _ _) rfl ?_
          simp
          refine pure_call (rot_ok _ _) rfl ?_
          simp [r7, r18, r17, r19, w16, w7, g16, g7, b16, b7, h, hs, hw1, hle]
          omega
        · have hj48 : j = 48 := by omega
          have hs48 : schedAt b 48 = sched b := by simp [schedAt, sched]
          subst hj48
          have hl64 := sched_length b
          rw [hs48]
          simp [h, hl64, splice_all, List.take_of_length_le]
          exact rd_eq rfl (closed_agm e32 (fun _ => rfl) _)
      · simp [schedAt, extN, wordsAt_end b hb]
  · simp [wordsAt_zero, rep_zero _ 32]
end Sha
end Go.CM

/-
  SHA-256, walked: a block is ground.
-/
namespace Go.CM
open Go Go.Proofs
set_option linter.unusedVariables false
set_option linter.unusedSimpArgs false
set_option maxRecDepth 100000
namespace Sha

theorem words16_take (b : List B) (n : Nat) (hn : 64 ≤ n) : words16 (b.take n) = words16 b := by
  unfold words16
  apply List.map_congr_left
  intro t ht
  have := List.mem_range.1 ht
  congr 1
  rw [List.drop_take, List.take_take, Nat.min_eq_left (by omega)]
theorem sched_take (b : List B) (n : Nat) (hn : 64 ≤ n) : sched (b.take n) = sched b := by unfold sched; rw [words16_take b n hn]
theorem rounds_succ : ∀ (k : Nat) (s : St) (a b : List W) (x y : W), a[k]? = some x → b[k]? = some y → rounds s (a.take (k + 1)) (b.take (k + 1)) = round (rounds s (a.take k) (b.take k)) x y
  | 0, s, a, b, x, y, ha, hb => by
    cases a with
    | nil => simp at ha
    | cons a al =>
      cases b with
      | nil => simp at hb
      | cons b bs => simp at ha hb; subst ha hb; simp [rounds]
  | k + 1, s, a, b, x, y, ha, hb => by
    cases a with
    | nil => simp at ha
    | cons a al =>
      cases b with
      | nil => simp at hb
      | cons b bs =>
        simp only [List.take_succ_cons, rounds]
        exact rounds_succ k _ al bs x y (by simpa using ha) (by simpa using hb)
def rAt (h : St) (b : List B) (k : Nat) : St := rounds h (ks.take k) ((sched b).take k)
theorem rAt_zero (h : St) (b : List B) : rAt h b 0 = h := rfl
theorem rAt_succ (h : St) (b : List B) (k : Nat) (hk : k < 64) : rAt h b (k + 1) = round (rAt h b k) (ks.getD k 0#32) ((sched b).getD k 0#32) := by
  have h1 : ks.length = 64 := rfl
  have h2 := sched_length b
  refine rounds_succ k h ks (sched b) _ _ ?_ ?_
  · rw [List.getD_eq_getElem?_getD, List.getElem?_eq_getElem (by omega)]; rfl
  · rw [List.getD_eq_getElem?_getD, List.getElem?_eq_getElem (by omega)]; rfl
theorem rAt_end (h : St) (b : List B) : rAt h b 64 = rounds h ks (sched b) := by
  have h1 : ks.length = 64 := rfl
  have h2 := sched_length b
  unfold rAt
  rw [List.take_of_length_le (by omega), List.take_of_length_le (by omega)]

def accW (a b : List W) (k : Nat) : List W := (List.zipWith (· + ·) a b).take k ++ a.drop k
theorem accW_zero (a b : List W) : accW a b 0 = a := rfl
theorem accW_len {a b : List W} (h : a.length = b.length) (k : Nat) : (accW a b k).length = a.length := by simp [accW]; omega
theorem accW_get {a b : List W} (h : a.length = b.length) {k : Nat} (hk : k < a.length) : (accW a b k)[k]? = a[k]? := by
  unfold accW
  rw [List.getElem?_append_right (by simp; omega)]
  have : (List.take k (List.zipWith (· + ·) a b)).length = k := by simp; omega
  rw [this, List.getElem?_drop]; simp
theorem accW_set {a b : List W} (h : a.length = b.length) {k : Nat} {x y : W} (hx : a[k]? = some x) (hy : b[k]? = some y) : (accW a b k).set k (x + y) = accW a b (k + 1) := by
  have hk := (List.getElem?_eq_some_iff.1 hx).1
  unfold accW
  have hl : (List.take k (List.zipWith (· + ·) a b)).length = k := by simp; omega
  have hz : (List.zipWith (· + ·) a b)[k]? = some (x + y) := by rw [List.getElem?_zipWith, hx, hy]
  rw [List.set_append_right _ _ (by omega), hl, Nat.sub_self, List.drop_eq_getElem_cons hk, List.set_cons_zero, List.take_add_one, hz]
  simp

set_option maxHeartbeats 8000000 in
theorem grind_own {h : St} {b : List B} (hb : 64 ≤ b.length) {l : Hl} {bk sz : Nat} {rest : List CV} {x : CV} {K : CV → Hl → Prop} (hl : l[bk]? = some (.cells sz (h.l.map e32 ++ rest))) (hsz : 8 ≤ sz) (hx : RdH (HL l) x (encBs (some b)))
    (hK : ∀ junk, K (.tu []) (l.set bk (.cells sz ((grind h b).l.map e32 ++ rest)) ++ junk)) : CallP Tryd.prog GS 94 [.ptr bk 0 sz, x] l (c := ⟨K⟩) := by
  apply call_intro c94_eq r94_eq
  unfold c94 r94
  simp
  refine pure_callB (schedule_ok b hb) (.cons hx .nil) (flat_agm e32 (fun _ => rfl) _) ?_
  have hn := get_lt hl
  have hsl := sched_length b
  have hl2 : (l ++ [CB.cells 64 ((sched b).map e32)])[bk]? = some (.cells sz (h.l.map e32 ++ rest)) := by rw [List.getElem?_append_left hn]; exact hl
  have hg : ∀ i (y : W), i < 8 → h.l[i]? = some y → (h.l.map e32 ++ rest)[i]? = some (e32 y) := fun i y hi hy => by
    rw [List.getElem?_append_left (by simpa [St.l] using hi), List.getElem?_map, hy]; rfl
  have q0 := hg 0 h.a (by omega) rfl
  have q1 := hg 1 h.b (by omega) rfl
  have q2 := hg 2 h.c (by omega) rfl
  have q3 := hg 3 h.d (by omega) rfl
  have q4 := hg 4 h.e (by omega) rfl
  have q5 := hg 5 h.f (by omega) rfl
  have q6 := hg 6 h.g (by omega) rfl
  have q7 := hg 7 h.h (by omega) rfl
  simp [splice_all, hsl, hl2, q0, q1, q2, q3, q4, q5, q6, q7]
  refine loop_up 64 (fun k σ l' => σ 0 = .ptr bk 0 sz ∧ σ 4 = .ptr l.length 0 64 ∧ σ 5 = e32 (rAt h b k).a ∧ σ 6 = e32 (rAt h b k).b ∧ σ 7 = e32 (rAt h b k).c ∧ σ 8 = e32 (rAt h b k).d ∧ σ 9 = e32 (rAt h b k).e ∧ σ 10 = e32 (rAt h b k).f ∧ σ 11 = e32 (rAt h b k).g ∧ σ 12 = e32 (rAt h b k).h ∧ σ 52 = .int .i64 k ∧
    l' = l ++ [.cells 64 ((sched b).map e32)]) ?_ ?_
  · rintro k σ l' hk ⟨g0, g4, g5, g6, g7, g8, g9, g10, g11, g12, g52, rfl⟩
    obtain ⟨σ, rfl⟩ := upds11 g0 g4 g5 g6 g7 g8 g9 g10 g11 g12 g52
    clear g0 g4 g5 g6 g7 g8 g9 g10 g11 g12 g52
    unfold l94_0
    simp
    by_cases hk' : (k : Int) < 64
    · have hwk : IntKind.i64.wrap ((k : Int) + 1) = k + 1 := wrap_i64 (by omega) (by omega)
      have hkn : k < 64 := by omega
      have ht := tblC_get k hkn
      have hsk : (sched b)[k]? = some ((sched b).getD k 0#32) := by rw [List.getD_eq_getElem?_getD, List.getElem?_eq_getElem (by omega)]; rfl
      rw [rAt_succ h b k hkn]
      generalize (sched b).getD k 0#32 = wk at *
      generalize ks.getD k 0#32 = kk at *
      generalize rAt h b k = s at *
      have m1 := mix_ok s.e 6 11 25 (by omega) (by omega) (by omega)
      have m2 := mix_ok s.a 2 13 22 (by omega) (by omega) (by omega)
      simp at m1 m2
      simp [hk', ht, hsk]
      refine pure_call m1 rfl ?_
      simp [ht, hsk]
      refine pure_call m2 rfl ?_
      simp [hkn, hwk]
      simp [round]
    · have hk64 : k = 64 := by omega
      subst hk64
      rw [rAt_end]
      obtain ⟨v, hv⟩ : ∃ v, rounds h ks (sched b) = v := ⟨_, rfl⟩
      rw [hv]
      have hgr : grind h b = ⟨h.a + v.a, h.b + v.b, h.c + v.c, h.d + v.d, h.e + v.e, h.f + v.f, h.g + v.g, h.h + v.h⟩ := by unfold grind; rw [hv]
      simp
      have hlv : h.l.length = v.l.length := rfl
      have hl8 : h.l.length = 8 := rfl
      have hgl : (grind h b).l = accW h.l v.l 8 := by rw [hgr]; rfl
      rw [hgl] at hK
      refine loop_up 8 (fun k σ l' => σ 0 = .ptr bk 0 sz ∧ σ 111 = .ag (v.l.map e32) ∧ σ 112 = .int .i64 k ∧ l' = l.set bk (.cells sz ((accW h.l v.l k).map e32 ++ rest)) ++ [.cells 64 ((sched b).map e32)]) ?_ ?_
      · rintro k σ l' hk ⟨g0, g111, g112, rfl⟩
        obtain ⟨σ, rfl⟩ := upds3 g0 g111 g112
        clear g0 g111 g112
        unfold l94_1
        simp
        by_cases hk' : (k : Int) < 8
        · have hwk : IntKind.i64.wrap ((k : Int) + 1) = k + 1 := wrap_i64 (by omega) (by omega)
          have hk8 : k < 8 := by omega
          obtain ⟨y, hy⟩ : ∃ y, v.l[k]? = some y := ⟨_, List.getElem?_eq_getElem (show k < v.l.length from hk8)⟩
          obtain ⟨z, hz⟩ : ∃ z, h.l[k]? = some z := ⟨_, List.getElem?_eq_getElem (show k < h.l.length from hk8)⟩
          have ha := accW_get hlv (k := k) (by rw [hl8]; exact hk8)
          rw [hz] at ha
          have hal := accW_len hlv k
          have hs := splice_set e32 (accW h.l v.l k) k (z + y) (by rw [hal, hl8]; exact hk8)
          rw [accW_set hlv hz hy] at hs
          have hla : ((accW h.l v.l k).map e32).length = 8 := by rw [List.length_map, hal, hl8]
          have hsp : splice ((accW h.l v.l k).map e32 ++ rest) k [e32 (z + y)] = (accW h.l v.l (k + 1)).map e32 ++ rest := by
            rw [← hs]
            unfold splice
            rw [List.take_append_of_le_length (by omega), List.drop_append_of_le_length (by simp; omega)]
            simp
          have hgt : ((accW h.l v.l k).map e32 ++ rest)[k]? = some (e32 z) := by rw [List.getElem?_append_left (by omega), List.getElem?_map, ha]; rfl
          have hl3 : (l.set bk (.cells sz ((accW h.l v.l k).map e32 ++ rest)) ++ [CB.cells 64 ((sched b).map e32)])[bk]? = some (.cells sz ((accW h.l v.l k).map e32 ++ rest)) := by
            rw [List.getElem?_append_left (by simpa using hn), List.getElem?_set]; simp [hn]
          have hks : k + 1 ≤ sz := by omega
          simp [hk', hy, hgt, hl3, hwk, hsp, hk8, hks, hn, List.set_append]
        · have hk8 : k = 8 := by omega
          subst hk8
          simp
          exact hK _
      · have hset : l.set bk (.cells sz ((accW h.l v.l 0).map e32 ++ rest)) = l := by
          rw [accW_zero]; exact set_same' hl
        rw [hset]
        simp [St.l]
  · simp [rAt_zero]
end Sha
end Go.CM

/-
  Slices of bytes: Grow, Concat, Clone, walked.
-/
namespace Go.CM
open Go Go.Proofs
set_option linter.unusedVariables false
set_option linter.unusedSimpArgs false
set_option maxRecDepth 100000
namespace Sha

abbrev encL (ls : Sv Bs) : CV := encS 1 (fun s => [encBs s]) ls
theorem closed_L (ls : Sv Bs) : (encL ls).closed = true := closed_encS (fun s => by simp only [closedL, closed_Bs, Bool.and_self]) ls
def bytesOf (ls : List Bs) : List B := (ls.map Sv.l).flatten
theorem bytesOf_take (ls : List Bs) (k : Nat) (s : Bs) (h : ls[k]? = some s) : bytesOf (ls.take (k + 1)) = bytesOf (ls.take k) ++ s.l := by
  unfold bytesOf
  rw [List.take_add_one, h]; simp
theorem bytesOf_le (ls : List Bs) (k : Nat) : (bytesOf (ls.take k)).length ≤ (bytesOf ls).length := by
  conv => rhs; rw [← List.take_append_drop k ls]
  unfold bytesOf
  rw [List.map_append, List.flatten_append, List.length_append]
  omega
theorem grow_own {n : Nat} (hn : n ≤ 1000000000) {l : Hl} {K : CV → Hl → Prop} (hK : ∀ v j l', OwnS 1 l' v j [] → l.length ≤ l'.length → (∀ b, b < l.length → l'[b]? = l[b]?) → (isNilS v = decide (n = 0)) → K v l') : CallP Tryd.prog GS 104 [.nilS, .int .i64 n] l (c := ⟨K⟩) := by
  apply call_intro c104_eq r104_eq
  unfold c104 r104
  have h1 : ¬((n : Int) < 0) := by omega
  have hw : IntKind.i64.wrap (n : Int) = n := wrap_i64 (by omega) (by omega)
  have hw0 : IntKind.i64.wrap (0 : Int) = 0 := rfl
  by_cases h0 : n = 0
  · subst h0
    simp
    exact hK _ 0 _ (.nil 0) (Nat.le_refl _) (fun _ _ => rfl) rfl
  have h2 : (0 : Int) < n := by omega
  have hz : appZM l 1 1 [.int .u8 0] .nilS (.int .i64 n) = some (.sl 1 l.length 0 n n (n * 1), l ++ [.cells (n * 1) (repeatC [.int .u8 0] n)]) := by
    unfold appZM appendL
    simp only [Int.toNat_natCast]
    have hr : roomMax = 140737488355328 := rfl
    rw [if_pos ⟨by omega, by omega, by rw [hr]; omega⟩, if_neg h0, if_neg (by omega), if_pos (by rw [hr]; omega)]
  have hs : sliceM (.sl 1) (.sl 1 l.length 0 n n (n * 1)) none (some (.int .i64 0)) none = some (.sl 1 l.length 0 0 n (n * 1)) := by
    rw [sliceM_sl, bounds_hi, if_pos ⟨by omega, by omega⟩]
    simp [h0]
  rw [Nat.mul_one] at hz hs
  have h3 : 0 < n := by omega
  simp [h1, h2, h3, hw, hz, hw0, hs]
  refine hK _ l.length (l ++ [.cells n (repeatC [.int .u8 0] n)]) (.sl _ 0 n n (repeatC [.int .u8 0] n) [] (by simp) (by rw [repeatC_len']; simp) rfl (by simp) (by omega) (by omega) rfl) (by simp) (fun b hb => List.getElem?_append_left hb) ?_
  simp [isNilS, h0]

def catB (ls : List Bs) : Bs := if bytesOf ls = [] then none else some (bytesOf ls)
theorem catB_l (ls : List Bs) : (catB ls).l = bytesOf ls := by unfold catB; split <;> simp_all

set_option maxHeartbeats 4000000 in
theorem concat_ok (ls : List Bs) (hl : (bytesOf ls).length ≤ 1000000000) (hll : ls.length ≤ 1000000000) : PureN Tryd.prog GS 93 [encL (some ls)] (encBs (catB ls)) := by
  refine pureN_of Tryd.checked.mixed GS_closed ?_
  apply call_intro c93_eq r93_eq
  unfold c93 r93
  simp
  have hia : ∀ (k : Nat) (s : Bs), ls[k]? = some s → iaC (.sl 1) (encL (some ls)) (.int .i64 k) = some (.rptr [encBs s] 0) := fun k s hs => by simp [encL, ia_encS, hs]
  refine loop_up ls.length (fun k σ l => σ 0 = encL (some ls) ∧ σ 9 = encL (some ls) ∧ σ 10 = .int .i64 ls.length ∧ σ 11 = .int .i64 k ∧ σ 3 = .int .i64 (bytesOf (ls.take k)).length ∧ l = []) ?_ ?_
  · rintro k σ l hk ⟨g0, g9, g10, g11, g3, rfl⟩
    obtain ⟨σ, rfl⟩ := upds5 g0 g3 g9 g10 g11
    clear g0 g3 g9 g10 g11
    unfold l93_0
    simp
    by_cases h : k < ls.length
    · obtain ⟨s, hs, _⟩ := get_of h
      have hb := bytesOf_take ls k s hs
      have hle := bytesOf_le ls (k + 1)
      rw [hb, List.length_append] at hle
      have hw : IntKind.i64.wrap (((bytesOf (ls.take k)).length : Int) + s.l.length) = ((bytesOf (ls.take k)).length : Int) + s.l.length := wrap_i64 (by omega) (by omega)
      have hwk : IntKind.i64.wrap ((k : Int) + 1) = k + 1 := wrap_i64 (by omega) (by omega)
      have hneg : ¬(((bytesOf (ls.take k)).length : Int) + s.l.length < 0) := by omega
      simp [h, hia k s hs, hw, hneg, hwk, hb]
    · have hkl : k = ls.length := by omega
      subst hkl
      simp
      refine grow_own hl ?_
      intro v j l ho hlen _ hnil
      simp
      refine loop_up ls.length (fun k σ l => σ 25 = encL (some ls) ∧ σ 26 = .int .i64 ls.length ∧ σ 27 = .int .i64 k ∧ ∃ v j, σ 6 = v ∧ OwnS 1 l v j ((bytesOf (ls.take k)).map enc8) ∧ isNilS v = decide (bytesOf ls = [])) ?_ ?_
      · rintro k σ l hk ⟨g25, g26, g27, v, j, g6, ho, hnil⟩
        obtain ⟨σ, rfl⟩ := upds4 g6 g25 g26 g27
        clear g6 g25 g26 g27
        unfold l93_1
        simp
        by_cases h : k < ls.length
        · obtain ⟨s, hs, _⟩ := get_of h
          have hb := bytesOf_take ls k s hs
          have hle := bytesOf_le ls (k + 1)
          rw [hb, List.length_append] at hle
          have hwk : IntKind.i64.wrap ((k : Int) + 1) = k + 1 := wrap_i64 (by omega) (by omega)
          have hr : roomMax = 140737488355328 := rfl
          obtain ⟨v', j', l', h1, h2, h3, h4, h5, h6⟩ := app_law (by_ := 1) ho (x := encBs s) (xs := s.l.map enc8) (by simp [encBs]) (fun e he => by obtain ⟨x, _, rfl⟩ := List.mem_map.1 he; rfl) (by omega) (by omega) (by simp; omega)
          simp [h, hia k s hs, h1]
          refine AppK.keep ?_
          simp [h, hwk]
          refine ⟨⟨j', by rw [hb, List.map_append]; exact h2⟩, ?_⟩
          rw [isNil_app h6, hnil]
          by_cases he : bytesOf ls = []
          · have h0 : (bytesOf ls).length = 0 := by rw [he]; rfl
            have : s.l = [] := List.length_eq_zero_iff.1 (by omega)
            simp [he, this]
          · simp [he]
        · have hkl : k = ls.length := by omega
          subst hkl
          simp
          rw [List.take_length] at ho
          refine ho.rdN_enc (fun _ => rfl) _ ?_ (catB_l ls)
          rw [hnil]
          unfold catB
          split <;> simp_all
      · simp
        refine ⟨⟨j, by simpa [bytesOf] using ho⟩, ?_⟩
        rw [hnil]
        simp [List.length_eq_zero_iff]
  · simp [bytesOf]
end Sha
end Go.CM

/-
  SHA-256, walked: Clone, feed.
-/
namespace Go.CM
open Go Go.Proofs
set_option linter.unusedVariables false
set_option linter.unusedSimpArgs false
set_option maxRecDepth 100000
namespace Sha

theorem cloneB_nil (s : Sv B) : binC Tryd.prog .eql 73 (encS 1 enc8 s) .nilS = some (.bool s.isNone) := bin_nil_eql (e := 5) (by kernel_rfl) 1 enc8 s
theorem cloneB_own {s : Sv B} (hs : s.l.length ≤ 1000000000) {l : Hl} {K : CV → Hl → Prop} (hK : ∀ v j l', OwnS 1 l' v j (s.l.map enc8) → l.length ≤ l'.length → (∀ b, b < l.length → l'[b]? = l[b]?) → (v = .nilS ∨ l.length ≤ j) → isNilS v = s.isNone → K v l') : CallP Tryd.prog GS 95 [encS 1 enc8 s] l (c := ⟨K⟩) := by
  apply call_intro c95_eq r95_eq
  unfold c95 r95
  simp [cloneB_nil]
  cases s with
  | none =>
    simp
    exact hK _ 0 _ (.nil 0) (Nat.le_refl _) (fun _ _ => rfl) (.inl rfl) rfl
  | some b =>
    simp
    have hr : roomMax = 140737488355328 := rfl
    have hs' : b.length ≤ 1000000000 := hs
    have ho : OwnS 1 (l ++ [CB.cells 0 []]) (.sl 1 l.length 0 0 0 0) l.length [] := .sl l.length 0 0 0 [] [] (by simp) rfl rfl (by simp) (Nat.le_refl _) (by omega) rfl
    obtain ⟨v', j', l', h1, h2, h3, h4, h5, h6⟩ := app_law (by_ := 1) ho (x := encS 1 enc8 (some b)) (xs := b.map enc8) (by simp) (fun e he => by obtain ⟨x, _, rfl⟩ := List.mem_map.1 he; rfl) (by omega) (by omega) (by simp; omega)
    simp [h1]
    refine AppK.keep ?_
    simp
    have h3' : l.length + 1 ≤ l'.length := by simpa using h3
    refine hK _ j' _ h2 (by omega) (fun b hb => ?_) (.inr (by rcases h5 with h | h <;> (try simp only [List.length_append, List.length_cons, List.length_nil] at h) <;> omega)) ?_
    · rw [h4 b (by simp; omega) (by omega), List.getElem?_append_left hb]
    · rw [isNil_app h6]; rfl

structure Mill where
  st : St
  rest : Bs
  n : Int
def millC (s : St) (r : CV) (n : Int) : List CV := s.l.map e32 ++ [r, .int .i64 n]
def encM (m : Mill) : CV := .ag (millC m.st (encBs m.rest) m.n)
def feedM (m : Mill) (b : Bs) : Mill :=
  let all := m.rest.l ++ b.l
  ⟨(blocks m.st all).1, if all = [] then none else some (blocks m.st all).2, m.n + b.l.length⟩
theorem catB_two (a b : Bs) : catB [a, b] = if a.l ++ b.l = [] then none else some (a.l ++ b.l) := by
  have : bytesOf [a, b] = a.l ++ b.l := by simp [bytesOf]
  unfold catB
  rw [this]
theorem grind_take (h : St) (b : List B) : grind h (b.take 64) = grind h b := by unfold grind; rw [sched_take b 64 (by omega)]
theorem millC_len (s : St) (r : CV) (n : Int) : (millC s r n).length = 10 := rfl

set_option maxHeartbeats 8000000 in
theorem feed_ok (m : Mill) (b : Bs) (hl : m.rest.l.length + b.l.length ≤ 1000000000) (hn : 0 ≤ m.n) (hn2 : m.n ≤ 1000000000) : PureN Tryd.prog GS 78 [encM m, encBs b] (encM (feedM m b)) := by
  refine pureN_of Tryd.checked.mixed GS_closed ?_
  apply call_intro c78_eq r78_eq
  unfold c78 r78
  have hc : (CV.ag (millC m.st (encBs m.rest) m.n)).cells = some (millC m.st (encBs m.rest) m.n) := rfl
  have h8 : (millC m.st (encBs m.rest) m.n)[8]? = some (encBs m.rest) := rfl
  have hcat := concat_ok [m.rest, b] (by simp [bytesOf]; exact hl) (by simp)
  rw [catB_two] at hcat
  simp [encM, millC_len, h8]
  refine pureN_callB hcat (.cons ?_ .nil) ?_
  · exact rdH_rows (es := [[encBs m.rest], [encBs b]]) (rest := []) rfl rfl (by simp) (by simp [closedL, closed_Bs])
  obtain ⟨all, hall⟩ : ∃ all, all = m.rest.l ++ b.l := ⟨_, rfl⟩
  have hal : all.length ≤ 1000000000 := by rw [hall]; simpa using hl
  rw [← hall]
  simp
  refine loop_up (all.length / 64) (fun k σ l => σ 1 = encBs b ∧ σ 2 = .ptr 0 0 10 ∧ σ 4 = .ptr 1 0 10 ∧ ∃ h s zs junk, σ 5 = encBs s ∧ l = .cells 10 (millC h (encBs m.rest) m.n) :: .cells 10 zs :: junk ∧ blocks m.st all = blocks h s.l ∧ s.l.length = all.length - 64 * k ∧ zs.length = 10 ∧ s.isNone = decide (all = [])) ?_ ?_
  · rintro k σ l hk ⟨g1, g2, g4, h, s, zs, junk, g5, rfl, hbl, hcl, hz1, hnone⟩
    obtain ⟨σ, rfl⟩ := upds4 g1 g2 g4 g5
    clear g1 g2 g4 g5
    unfold l78_0
    have hlen : lenM (.sl 1) (encBs s) = some (.int .i64 s.l.length) := len_encS _
    simp [hlen]
    by_cases h64 : (64 : Int) ≤ s.l.length
    · cases s with
      | none => simp at h64
      | some cur =>
      have h64c : (64 : Int) ≤ cur.length := h64
      have h64' : 64 ≤ cur.length := by omega
      simp [h64c]
      refine grind_own (h := h) (b := cur) h64' (l := .cells 10 (millC h (encBs m.rest) m.n) :: .cells 10 zs :: junk) (bk := 0) (sz := 10) (rest := [encBs m.rest, .int .i64 m.n]) rfl (by omega) (rdH_same (closed_Bs _)) (fun jk => ?_)
      have hsl : sliceM (.sl 1) (encBs (some cur)) (some (.int .i64 64)) none none = some (encBs (some (cur.drop 64))) := by
        unfold encBs; rw [slice_from (by omega) (by omega)]; rfl
      simp [hsl]
      have hcl' : cur.length = all.length - 64 * k := hcl
      refine ⟨by omega, grind h cur, some (cur.drop 64), rfl, zs, ⟨rfl, rfl⟩, ?_, ?_, hz1, ?_⟩
      · rw [hbl]
        show blocks h cur = _
        rw [blocks_step h cur h64', grind_take]; rfl
      · simp; omega
      · exact hnone
    · have hlt : s.l.length < 64 := by omega
      have hw : IntKind.i64.wrap (m.n + (b.l.length : Int)) = m.n + b.l.length := wrap_i64 (by omega) (by omega)
      have h9 : (millC h (encBs m.rest) m.n)[9]? = some (.int .i64 m.n) := rfl
      have hlb : lenM (.sl 1) (encBs b) = some (.int .i64 b.l.length) := len_encS _
      simp [h64, h9, hlb, hw]
      refine cloneB_own (by omega) ?_
      intro v j l ho hl1 hl2 hj hnil
      obtain ⟨l', rfl⟩ : ∃ l', l = .cells 10 (millC h (encBs m.rest) m.n) :: .cells 10 zs :: l' := by
        have e0 := hl2 0 (by simp)
        have e1 := hl2 1 (by simp)
        cases l with
        | nil => simp at e0
        | cons a l => cases l with
          | nil => simp at e1
          | cons c l => simp at e0 e1; subst e0 e1; exact ⟨l, rfl⟩
      have hsp9 : ∀ r n n', splice (millC h r n) 9 [.int .i64 n'] = millC h r n' := fun _ _ _ => rfl
      have hsp8 : ∀ r n r', splice (millC h r n) 8 [r'] = millC h r' n := fun _ _ _ => rfl
      have hv := ho.cells
      simp [h9, hsp9, hsp8, hv, millC_len, hz1, splice_all]
      have htk : ∀ r n, List.take 10 (millC h r n) = millC h r n := fun _ _ => rfl
      rw [htk, htk]
      have hfin : feedM m b = ⟨h, if all = [] then none else some s.l, m.n + b.l.length⟩ := by
        unfold feedM
        rw [← hall]
        dsimp only
        rw [hbl, blocks_end h s.l hlt]
      rw [hfin]
      have hrd := (ho.frame2 (l' := .cells 10 (millC h v (m.n + (b.l.length : Int))) :: .cells 10 (millC h v (m.n + (b.l.length : Int))) :: l') (by
        rcases hj with hj | hj
        · exact .inl hj
        · obtain ⟨q, rfl⟩ : ∃ q, j = q + 2 := ⟨j - 2, by simp at hj; omega⟩
          exact .inr rfl)).rdN_enc (fun _ => rfl) (if all = [] then none else some s.l) (by
          rw [hnil, hnone]; split <;> simp_all) (by
          split
          · rename_i he; rw [he] at hcl; simp at hcl; rw [hcl]; rfl
          · rfl)
      refine .ag _ _ rfl fun i c c' hc1 hc2 => ?_
      rcases i with _ | _ | _ | _ | _ | _ | _ | _ | _ | _ | i <;> simp [millC, St.l] at hc1 hc2
      all_goals subst hc1 hc2
      all_goals first | exact hrd | exact .flat _ rfl
  · simp
    exact ⟨m.st, (if all = [] then none else some all), rfl, ⟨[.int .u32 0, .int .u32 0, .int .u32 0, .int .u32 0, .int .u32 0, .int .u32 0, .int .u32 0, .int .u32 0, .nilS, .int .i64 0], ⟨rfl, rfl⟩, by split <;> simp_all, by split <;> simp_all, rfl, by split <;> simp_all⟩⟩
end Sha
end Go.CM

/-
  SHA-256, walked: the end of a mill.
-/
namespace Go.CM
open Go Go.Proofs
set_option linter.unusedVariables false
set_option linter.unusedSimpArgs false
set_option maxRecDepth 100000
namespace Sha

def idC (b : List B) : CV := .ag (b.map e8)
/-- What comes behind, so far. -/
def tailAt (n k : Nat) : List B := 128#8 :: List.replicate ((119 - n % 64) % 64) 0#8 ++ (bytes8 (BitVec.ofNat 64 n * 8#64)).take k
theorem tailAt_end (n : Nat) : tailAt n 8 = tail n := rfl
theorem tailAt_succ (n k : Nat) (x : B) (hx : (bytes8 (BitVec.ofNat 64 n * 8#64))[k]? = some x) : tailAt n (k + 1) = tailAt n k ++ [x] := by
  unfold tailAt
  rw [List.take_add_one, hx]; simp
theorem tailAt_len (n k : Nat) : (tailAt n k).length ≤ 80 := by
  unfold tailAt
  have : (bytes8 (BitVec.ofNat 64 n * 8#64)).length = 8 := rfl
  simp; omega
theorem bytes8_get (q : BitVec 64) (k : Nat) (hk : k < 8) : (bytes8 q)[k]? = some ((q >>> (56 - 8 * k)).setWidth 8) := by
  match k, hk with
  | 0, _ => rfl
  | 1, _ => rfl
  | 2, _ => rfl
  | 3, _ => rfl
  | 4, _ => rfl
  | 5, _ => rfl
  | 6, _ => rfl
  | 7, _ => rfl
/-- The digest, so far. -/
def outAt (s : List W) (k : Nat) : List B := ((s.take k).map wbytes).flatten ++ List.replicate (32 - 4 * k) 0#8
theorem wflat_len (s : List W) : (s.map wbytes).flatten.length = 4 * s.length := by
  induction s with
  | nil => rfl
  | cons w s ih => simp [ih, wbytes]; omega
theorem outAt_len (s : List W) (k : Nat) (hk : k ≤ s.length) (hs : s.length = 8) : (outAt s k).length = 32 := by
  unfold outAt
  rw [List.length_append, wflat_len]
  simp; omega
theorem outAt_succ (s : List W) (k : Nat) (w : W) (hk : s[k]? = some w) (hs : s.length = 8) :
    ((((outAt s k).set (4 * k) ((w >>> 24).setWidth 8)).set (4 * k + 1) ((w >>> 16).setWidth 8)).set (4 * k + 2) ((w >>> 8).setWidth 8)).set (4 * k + 3) (w.setWidth 8) = outAt s (k + 1) := by
  have hk8 := (List.getElem?_eq_some_iff.1 hk).1
  unfold outAt
  rw [List.take_add_one, hk]
  have hA : ((s.take k).map wbytes).flatten.length = 4 * k := by rw [wflat_len]; simp; omega
  obtain ⟨A, hAe⟩ : ∃ A, A = ((s.take k).map wbytes).flatten := ⟨_, rfl⟩
  rw [← hAe] at hA ⊢
  have hr : 32 - 4 * k = (32 - 4 * (k + 1)) + 1 + 1 + 1 + 1 := by omega
  rw [hr, List.replicate_succ, List.replicate_succ, List.replicate_succ, List.replicate_succ]
  rw [List.set_append_right _ _ (by omega), List.set_append_right _ _ (by omega), List.set_append_right _ _ (by omega), List.set_append_right _ _ (by omega)]
  simp only [hA, Nat.sub_self, Nat.add_sub_cancel_left, List.set_cons_zero, List.set_cons_succ, List.map_append, List.flatten_append, ← hAe]
  simp [wbytes]

def endM (s : St) (r : Bs) (n : Nat) : List B := written (blocks s (r.l ++ tail n)).1

set_option maxHeartbeats 8000000 in
theorem end_ok (s : St) (r : Bs) (n : Nat) (hr : r.l.length ≤ 100000000) (hn : n ≤ 100000000) : PureC Tryd.prog GS 79 [encM ⟨s, r, n⟩] (idC (endM s r n)) := by
  refine pure_of Tryd.checked.mixed GS_closed ?_
  apply call_intro c79_eq r79_eq
  unfold c79 r79
  have h9 : (millC s (encBs r) n)[9]? = some (.int .i64 n) := rfl
  have hc : (CV.ag (millC s (encBs r) n)).cells = some (millC s (encBs r) n) := rfl
  have hrem := brem_nat n 64 (by omega)
  obtain ⟨q, hq⟩ : ∃ q, q = n % 64 := ⟨_, rfl⟩
  rw [show ((64 : Int).toNat) = 64 from rfl, ← hq] at hrem
  have hq64 : q < 64 := by rw [hq]; exact Nat.mod_lt _ (by omega)
  have hw1 : IntKind.i64.wrap (119 - (q : Int)) = (119 - q : Nat) := by rw [wrap_i64 (by omega) (by omega)]; omega
  have hrem2 := brem_nat (119 - q) 64 (by omega)
  rw [show ((64 : Int).toNat) = 64 from rfl] at hrem2
  obtain ⟨m, hm⟩ : ∃ m, m = (119 - q) % 64 := ⟨_, rfl⟩
  rw [← hm] at hrem2
  have hm64 : m < 64 := by rw [hm]; exact Nat.mod_lt _ (by omega)
  obtain ⟨t, ht⟩ : ∃ t, t = 119 - q := ⟨_, rfl⟩
  rw [← ht] at hw1 hrem2
  have hr0 : roomMax = 140737488355328 := rfl
  obtain ⟨L, hL⟩ : ∃ L : Hl, L = [CB.cells 10 (millC s (encBs r) n), CB.cells 32 (rep 32 (CV.int IntKind.u8 0)), CB.cells 1 [CV.int IntKind.u8 128]] := ⟨_, rfl⟩
  have hL0 : L[0]? = some (CB.cells 10 (millC s (encBs r) n)) := by rw [hL]; rfl
  have hL1 : L[1]? = some (CB.cells 32 (rep 32 (CV.int IntKind.u8 0))) := by rw [hL]; rfl
  have hLl : L.length = 3 := by rw [hL]; rfl
  have ho0 : OwnS 1 L (.sl 1 2 0 1 1 1) 2 [[CV.int IntKind.u8 128]] := by
    rw [hL]
    exact .sl 2 1 1 1 [.int .u8 128] _ rfl rfl rfl (by simp) (Nat.le_refl _) (Nat.le_refl _) rfl
  have hm9 : m < 9223372036854775808 := by omega
  have hroom : (List.length [[CV.int IntKind.u8 128]] + m) * 1 ≤ roomMax := by rw [hr0]; simp; omega
  have hlaw := appZ_law (n := m) (k := .i64) (by_ := 1) (zero := [.int .u8 0]) ho0 rfl (by omega) (by omega) hm9 hroom
  obtain ⟨v, j, l, h1, ho, h3, h4, h5, h6⟩ := hlaw
  have hv : isNilS v = false := by
    rw [Bool.eq_false_iff]; intro hh
    rw [isNil_iff, h6] at hh
    cases hh.1
  have hu : u 128#8 = 128 := by decide
  have he : ([[CV.int IntKind.u8 128]] ++ List.replicate m [CV.int IntKind.u8 0] : List (List CV)) = (tailAt n 0).map enc8 := by
    have : m = (119 - n % 64) % 64 := by rw [hm, hq]
    unfold tailAt
    rw [← this]
    simp [enc8, hu]
  rw [he] at ho
  have e0 := (h4 0 (by omega) (by omega)).trans hL0
  have e1 := (h4 1 (by omega) (by omega)).trans hL1
  have hj2 : 2 ≤ j := by rcases h5 with h | h <;> omega
  simp [encM, millC_len, h9, hrem, hw1, hrem2]
  rw [← hL]
  simp [h1]
  refine loop_up 8 (fun k σ l => σ 1 = .ptr 0 0 10 ∧ σ 2 = .ptr 1 0 32 ∧ σ 3 = e64 (BitVec.ofNat 64 n * 8#64) ∧ σ 5 = .int .i64 (56 - 8 * (k : Int)) ∧ ∃ v j, σ 4 = v ∧ 2 ≤ j ∧ isNilS v = false ∧ OwnS 1 l v j ((tailAt n k).map enc8) ∧ l[0]? = some (CB.cells 10 (millC s (encBs r) n)) ∧ l[1]? = some (CB.cells 32 (rep 32 (CV.int IntKind.u8 0)))) ?_ ?_
  · rintro k σ l hk ⟨g1, g2, g3, g5, v, j, g4, hj, hv, ho, e0, e1⟩
    obtain ⟨σ, rfl⟩ := upds5 g1 g2 g3 g4 g5
    clear g1 g2 g3 g4 g5
    unfold l79_0
    obtain ⟨c, hc⟩ : ∃ c : Int, c = 56 - 8 * (k : Int) := ⟨_, rfl⟩
    rw [← hc]
    simp
    by_cases hk8 : 0 ≤ c
    · have hk7 : k < 8 := by omega
      have hx := bytes8_get (BitVec.ofNat 64 n * 8#64) k hk7
      have hcn : c.toNat = 56 - 8 * k := by omega
      have hwc : IntKind.i64.wrap (c - 8) = 56 - 8 * ((k : Int) + 1) := by rw [wrap_i64 (by omega) (by omega)]; omega
      have htl := tailAt_len n k
      have ho2 : OwnS 1 (l ++ [CB.cells 1 [e8 (((BitVec.ofNat 64 n * 8#64) >>> (56 - 8 * k)).setWidth 8)]]) v j ((tailAt n k).map enc8) := ho.more _
      obtain ⟨v', j', l', h1, h2, h3, h4, h5, h6⟩ := app_law (by_ := 1) ho2 (x := .sl 1 l.length 0 1 1 1) (xs := [[e8 (((BitVec.ofNat 64 n * 8#64) >>> (56 - 8 * k)).setWidth 8)]]) (by simp [contentsL]) (by simp) (by omega) (by omega) (by simp; omega)
      have hjl : j < l.length := by
        rcases ho.lt with h | h
        · subst h; simp [isNilS] at hv
        · exact h
      have e0' : l'[0]? = some (CB.cells 10 (millC s (encBs r) n)) := by rw [h4 0 (by simp) (by omega), List.getElem?_append_left (get_lt e0)]; exact e0
      have e1' : l'[1]? = some (CB.cells 32 (rep 32 (CV.int IntKind.u8 0))) := by
        have := get_lt e1
        rw [h4 1 (by simp; omega) (by omega), List.getElem?_append_left (get_lt e1)]; exact e1
      have hv' : isNilS v' = false := by rw [isNil_app h6, hv]; rfl
      have hj' : 2 ≤ j' := by
        rcases h5 with h | h
        · omega
        · have h := Nat.le_trans (show l.length ≤ (l ++ [CB.cells 1 [e8 (((BitVec.ofNat 64 n * 8#64) >>> (56 - 8 * k)).setWidth 8)]]).length by simp) h
          omega
      simp [hk8, hcn, h1]
      refine AppK.keep ?_
      simp [hk8, hwc]
      exact ⟨by omega, j', hj', hv', by rw [tailAt_succ n k _ hx, List.map_append]; exact h2, e0', e1'⟩
    · have hk8' : k = 8 := by omega
      subst hk8'
      rw [tailAt_end] at ho
      have hfd := feed_ok ⟨s, r, n⟩ (some (tail n)) (by have := tailAt_len n 8; rw [tailAt_end] at this; simp; omega) (by simp) (by simp; omega)
      have hx := ho.rdH_enc (fun _ => rfl) (some (tail n)) (by rw [hv]; rfl) rfl
      have hfw : (feedM ⟨s, r, n⟩ (some (tail n))).st = (blocks s (r.l ++ tail n)).1 := rfl
      obtain ⟨F, hF⟩ : ∃ F, F = feedM ⟨s, r, n⟩ (some (tail n)) := ⟨_, rfl⟩
      rw [← hF] at hfd hfw
      have hmc : closedL [encM ⟨s, r, n⟩] = true := by simp [closedL, encM, CV.closed, millC, St.l, closed_Bs]
      have hfA : fldCA 8 0 (encM F) = some (.ag (F.st.l.map e32)) := rfl
      have hl8 : F.st.l.length = 8 := rfl
      simp [hk8, e0, millC_len]
      refine pureN_callB hfd (.cons (rdH_same ?_) (.cons hx .nil)) ?_
      · show (CV.ag (millC s (encBs r) n)).closed = true
        simp [CV.closed, closedL, millC, St.l, closed_Bs]
      simp [hfA]
      refine loop_up 8 (fun k σ l => σ 2 = .ptr 1 0 32 ∧ σ 33 = .ag (F.st.l.map e32) ∧ σ 34 = .int .i64 k ∧ l[1]? = some (CB.cells 32 ((outAt F.st.l k).map e8))) ?_ ?_
      · rintro k σ l hk ⟨g2, g33, g34, e1⟩
        obtain ⟨σ, rfl⟩ := upds3 g2 g33 g34
        clear g2 g33 g34
        obtain ⟨x0, l2, rfl⟩ := two_of e1
        clear e1
        unfold l79_1
        simp
        by_cases hk8 : (k : Int) < 8
        · have hk' : k < 8 := by omega
          obtain ⟨w, hw⟩ : ∃ w, F.st.l[k]? = some w := ⟨_, List.getElem?_eq_getElem (show k < F.st.l.length from hk')⟩
          have hol := outAt_len F.st.l k (by omega) hl8
          have hos := outAt_succ F.st.l k w hw hl8
          have w0 : IntKind.i64.wrap (4 * (k : Int)) = (4 * k : Nat) := by rw [wrap_i64 (by omega) (by omega)]; omega
          have w1 : IntKind.i64.wrap (((4 * k : Nat) : Int) + 1) = (4 * k + 1 : Nat) := by rw [wrap_i64 (by omega) (by omega)]; omega
          have w2 : IntKind.i64.wrap (((4 * k : Nat) : Int) + 2) = (4 * k + 2 : Nat) := by rw [wrap_i64 (by omega) (by omega)]; omega
          have w3 : IntKind.i64.wrap (((4 * k : Nat) : Int) + 3) = (4 * k + 3 : Nat) := by rw [wrap_i64 (by omega) (by omega)]; omega
          have wk : IntKind.i64.wrap ((k : Int) + 1) = k + 1 := wrap_i64 (by omega) (by omega)
          obtain ⟨a, ha⟩ : ∃ a, a = 4 * k := ⟨_, rfl⟩
          rw [← ha] at w0 w1 w2 w3 hos
          have s0 := splice_set e8 (outAt F.st.l k) a ((w >>> 24).setWidth 8) (by omega)
          have s1 := splice_set e8 ((outAt F.st.l k).set a ((w >>> 24).setWidth 8)) (a + 1) ((w >>> 16).setWidth 8) (by simp; omega)
          have s2 := splice_set e8 (((outAt F.st.l k).set a ((w >>> 24).setWidth 8)).set (a + 1) ((w >>> 16).setWidth 8)) (a + 2) ((w >>> 8).setWidth 8) (by simp; omega)
          have s3 := splice_set e8 ((((outAt F.st.l k).set a ((w >>> 24).setWidth 8)).set (a + 1) ((w >>> 16).setWidth 8)).set (a + 2) ((w >>> 8).setWidth 8)) (a + 3) (w.setWidth 8) (by simp; omega)
          rw [hos] at s3
          have b0 : (a : Int) < 32 := by omega
          have b1 : ((a + 1 : Nat) : Int) < 32 := by omega
          have b2 : ((a + 2 : Nat) : Int) < 32 := by omega
          have b3 : ((a + 3 : Nat) : Int) < 32 := by omega
          have c0 : a + 1 ≤ 32 := by omega
          have c1 : a + 1 + 1 ≤ 32 := by omega
          have c2 : a + 2 + 1 ≤ 32 := by omega
          have c3 : a + 3 + 1 ≤ 32 := by omega
          have d1 : (a : Int) + 1 < 32 := by omega
          have d2 : (a : Int) + 2 < 32 := by omega
          have d3 : (a : Int) + 3 < 32 := by omega
          have f1 : ((a : Int) + 1).toNat = a + 1 := by omega
          have f2 : ((a : Int) + 2).toNat = a + 2 := by omega
          have f3 : ((a : Int) + 3).toNat = a + 3 := by omega
          have o1 : (0 : Int) ≤ (a : Int) + 1 := by omega
          have o2 : (0 : Int) ≤ (a : Int) + 2 := by omega
          have o3 : (0 : Int) ≤ (a : Int) + 3 := by omega
          simp [hk8, hk', hw, w0, w1, w2, w3, wk, b0, s0, s1, s2, s3, c0, c1, c2, c3, d1, d2, d3, f1, f2, f3, o1, o2, o3, -List.map_set]
        · have hk8' : k = 8 := by omega
          subst hk8'
          have ho8 : outAt F.st.l 8 = written F.st := by simp [outAt, written, St.l]
          rw [ho8]
          have hwl : (written F.st).length = 32 := rfl
          simp [hwl, splice_all, List.take_of_length_le]
          exact rd_eq (by unfold idC endM; rw [hfw]) (closed_agm e8 (fun _ => rfl) _)
      · simp [e1]
        rw [rep_zero .u8 8]; rfl
  · simp
    exact ⟨j, hj2, hv, ho, e0, e1⟩
end Sha
end Go.CM

/-
  SHA-256, walked: Pieces, Sum.
-/
namespace Go.CM
open Go Go.Proofs
set_option linter.unusedVariables false
set_option linter.unusedSimpArgs false
set_option maxRecDepth 100000
namespace Sha

structure InvM (m : Mill) (b : List B) : Prop where
  bl : blocks first b = (m.st, m.rest.l)
  n : m.n = b.length
theorem invM_feed {m : Mill} {b : List B} (h : InvM m b) (s : Bs) : InvM (feedM m s) (b ++ s.l) := by
  have h1 : blocks first (b ++ s.l) = blocks m.st (m.rest.l ++ s.l) := by rw [blocks_two, h.bl]
  refine ⟨?_, ?_⟩
  · rw [h1]
    unfold feedM
    dsimp only
    split
    · rename_i he
      rw [he]; rfl
    · rfl
  · unfold feedM
    dsimp only
    rw [h.n]; simp
theorem invM_rest {m : Mill} {b : List B} (h : InvM m b) : m.rest.l.length < 64 := by
  have := blocks_rest first b
  rw [h.bl] at this
  simp only at this
  rw [this]; exact Nat.mod_lt _ (by omega)
theorem invM_end {m : Mill} {b : List B} (h : InvM m b) : endM m.st m.rest b.length = sha b := by
  unfold endM sha
  rw [blocks_two first b, h.bl]
def start : Mill := ⟨first, none, 0⟩
theorem invM_start : InvM start [] := ⟨rfl, rfl⟩

theorem start_ok : PureN Tryd.prog GS 77 [] (encM start) := by
  refine pureN_of Tryd.checked.mixed GS_closed ?_
  apply call_intro c77_eq r77_eq
  unfold c77 r77
  simp
  exact .flat _ rfl

def isLong (s : Bs) : Bool := decide ((10000 : Int) < s.l.length)
theorem long1_ok (s : Bs) : PureC Tryd.prog GS 76 [encBs s] (.bool (isLong s)) := by
  refine pure_of Tryd.checked.mixed GS_closed ?_
  apply call_intro c76_eq r76_eq
  unfold c76 r76
  simp [encBs]
  exact rd_eq rfl rfl
theorem fn_long : funOkB Tryd.prog 76 = true := by kernel_rfl
def idx (l : List Bs) : Int := match l.findIdx? isLong with | some i => (i : Int) | none => -1
theorem idx_some {l : List Bs} {k : Nat} {s : Bs} (hs : l[k]? = some s) (hl : isLong s = true) (hno : ∀ j s, j < k → l[j]? = some s → isLong s = false) : idx l = k := by
  have : l.findIdx? isLong = some k := by
    rw [List.findIdx?_eq_some_iff_getElem]
    obtain ⟨h1, rfl⟩ := List.getElem?_eq_some_iff.1 hs
    refine ⟨h1, hl, fun j hj => ?_⟩
    rw [hno j l[j] hj (List.getElem?_eq_getElem (by omega))]; simp
  unfold idx; rw [this]
theorem idx_none {l : List Bs} (hno : ∀ j s, j < l.length → l[j]? = some s → isLong s = false) : idx l = -1 := by
  have : l.findIdx? isLong = none := by
    rw [List.findIdx?_eq_none_iff]
    intro x hx
    obtain ⟨j, hj⟩ := List.mem_iff_getElem?.1 hx
    exact hno j x (List.getElem?_eq_some_iff.1 hj).1 hj
  unfold idx; rw [this]

theorem index_ok (ls : Sv Bs) (hl : ls.l.length ≤ 1000000000) : PureC Tryd.prog GS 92 [encL ls, .fn 76 [] []] (.int .i64 (idx ls.l)) := by
  refine pure_of Tryd.checked.mixed GS_closed ?_
  apply call_intro c92_eq r92_eq
  unfold c92 r92
  have hlen : lenM (.sl 1) (encL ls) = some (.int .i64 ls.l.length) := len_encS _
  simp [hlen]
  refine loop_up ls.l.length (fun k σ l => σ 0 = encL ls ∧ σ 1 = .fn 76 [] [] ∧ σ 7 = .int .i64 ls.l.length ∧ σ 8 = .int .i64 k ∧ ∀ j s, j < k → ls.l[j]? = some s → isLong s = false) ?_ (by simp)
  rintro k σ l hk ⟨g0, g1, g7, g8, hno⟩
  obtain ⟨σ, rfl⟩ := upds4 g0 g1 g7 g8
  clear g0 g1 g7 g8
  unfold l92_0
  simp
  by_cases h : k < ls.l.length
  · obtain ⟨s, hs, _⟩ := get_of h
    have hia : iaC (.sl 1) (encL ls) (.int .i64 k) = some (.rptr [encBs s] 0) := by
      rw [ia_encS]; simp [hs]
    have hwk : IntKind.i64.wrap ((k : Int) + 1) = k + 1 := wrap_i64 (by omega) (by omega)
    simp [h, hia]
    refine ⟨fn_long, pure_call (long1_ok s) (by simp [closedL, closed_Bs]) ?_⟩
    cases hls : isLong s with
    | true =>
      simp
      rw [idx_some hs hls hno]
      exact rd_eq rfl rfl
    | false =>
      simp [h, hwk]
      intro j s' hj hs'
      rcases Nat.lt_or_ge j k with h1 | h1
      · exact hno j s' h1 hs'
      · have : j = k := by omega
        subst this
        rw [hs] at hs'; cases hs'; exact hls
  · simp [h]
    rw [idx_none (fun j s hj hs => hno j s (by omega) hs)]
    exact rd_eq rfl rfl

theorem contains_ok (ls : Sv Bs) (hl : ls.l.length ≤ 1000000000) : PureC Tryd.prog GS 75 [encL ls, .fn 76 [] []] (.bool (decide (0 ≤ idx ls.l))) := by
  refine pure_of Tryd.checked.mixed GS_closed ?_
  apply call_intro c75_eq r75_eq
  unfold c75 r75
  simp
  refine pure_call (index_ok ls hl) (by simp [closedL, CV.closed, closed_L]) ?_
  simp
  exact rd_eq rfl rfl

set_option maxHeartbeats 4000000 in
theorem pieces_ok (ls : List Bs) (h20 : ls.length ≤ 20) (hno : ∀ s ∈ ls, s.l.length ≤ 10000) : PureC Tryd.prog GS 65 [encL (some ls)] (.tu [idC (sha (bytesOf ls)), .int .i64 0]) := by
  have hidx : idx ls = -1 := idx_none fun j s hj hs => by
    have := hno s (List.mem_of_getElem? hs)
    unfold isLong; simp; omega
  have hlen : ∀ k, (bytesOf (ls.take k)).length ≤ 200000 := fun k => by
    have : ∀ l : List Bs, (∀ s ∈ l, s.l.length ≤ 10000) → (bytesOf l).length ≤ 10000 * l.length := by
      intro l
      induction l with
      | nil => intro _; simp [bytesOf]
      | cons s l ih =>
        intro h
        have h1 := ih fun x hx => h x (by simp [hx])
        have h2 := h s (by simp)
        unfold bytesOf at h1 ⊢
        rw [List.map_cons, List.flatten_cons, List.length_append, List.length_cons]
        omega
    have h1 := this (ls.take k) fun s hs => hno s (List.mem_of_mem_take hs)
    have h2 : (ls.take k).length ≤ 20 := by simp; omega
    omega
  refine pure_of Tryd.checked.mixed GS_closed ?_
  apply call_intro c65_eq r65_eq
  unfold c65 r65
  have h20' : ¬(20 : Int) < ls.length := by omega
  have hcon := contains_ok (some ls) (by simp; omega)
  rw [Sv.l_some, hidx] at hcon
  simp [h20']
  refine pure_call hcon (by simp [closedL, CV.closed, closed_L]) ?_
  simp
  refine pure_call start_ok.toC rfl ?_
  simp [encM, millC_len, splice_all]
  refine loop_up ls.length (fun k σ l => σ 2 = .ptr 0 0 32 ∧ σ 4 = .ptr 1 0 10 ∧ σ 16 = encL (some ls) ∧ σ 17 = .int .i64 ls.length ∧ σ 18 = .int .i64 k ∧ ∃ m, InvM m (bytesOf (ls.take k)) ∧ l = [.cells 32 (rep 32 (.int .u8 0)), .cells 10 (millC m.st (encBs m.rest) m.n)]) ?_ ?_
  · rintro k σ l hk ⟨g2, g4, g16, g17, g18, m, hm, rfl⟩
    obtain ⟨σ, rfl⟩ := upds5 g2 g4 g16 g17 g18
    clear g2 g4 g16 g17 g18
    unfold l65_0
    simp
    have hcm : (CV.ag (millC m.st (encBs m.rest) m.n)).closed = true := by simp [CV.closed, closedL, millC, St.l, closed_Bs]
    have htk : List.take 10 (millC m.st (encBs m.rest) m.n) = millC m.st (encBs m.rest) m.n := rfl
    have hrl := invM_rest hm
    have hmn := hm.n
    have hlk := hlen k
    by_cases h : k < ls.length
    · obtain ⟨s, hs, hsm⟩ := get_of h
      have hia : iaC (.sl 1) (encL (some ls)) (.int .i64 k) = some (.rptr [encBs s] 0) := by
        rw [ia_encS]; simp [hs]
      have hwk : IntKind.i64.wrap ((k : Int) + 1) = k + 1 := wrap_i64 (by omega) (by omega)
      have h1 := hno s hsm
      have hf := feed_ok m s (by omega) (by omega) (by omega)
      have hm2 := invM_feed hm s
      rw [← bytesOf_take ls k s hs] at hm2
      obtain ⟨F, hF⟩ : ∃ F, F = feedM m s := ⟨_, rfl⟩
      rw [← hF] at hf hm2
      simp [h, hia, millC_len, htk]
      refine pure_call hf.toC ?_ ?_
      · simp only [closedL, hcm, closed_Bs, Bool.and_self]
      simp [encM, millC_len, splice_all, h, hwk]
      exact ⟨F, hm2, rfl⟩
    · have hkl : k = ls.length := by omega
      subst hkl
      rw [List.take_length] at hm hmn hlk
      have he := end_ok m.st m.rest (bytesOf ls).length (by omega) (by omega)
      rw [invM_end hm] at he
      have hmm : m = ⟨m.st, m.rest, ((bytesOf ls).length : Int)⟩ := by rw [← hmn]
      rw [← hmm] at he
      have hsl := sha_length (bytesOf ls)
      simp [h, millC_len, htk]
      refine pure_call he ?_ ?_
      · simp only [closedL, hcm, Bool.and_self]
      have hil : ((sha (bytesOf ls)).map e8).length = 32 := by rw [List.length_map, hsl]
      simp [idC, hsl, splice_all, List.take_of_length_le]
      exact rd_eq rfl (by simp [CV.closed, closedL, closedL_map e8 (fun _ => rfl)])
  · simp [bytesOf]
    exact ⟨start, invM_start, rfl⟩

theorem sum_ok (s : Bs) (h : s.l.length ≤ 10000) : PureC Tryd.prog GS 41 [encBs s] (.tu [idC (sha s.l), .int .i64 0]) := by
  have hb : bytesOf [s] = s.l := by simp [bytesOf]
  have hp := pieces_ok [s] (by simp) (by simpa using h)
  rw [hb] at hp
  refine pure_of Tryd.checked.mixed GS_closed ?_
  apply call_intro c41_eq r41_eq
  unfold c41 r41
  have hsl := sha_length s.l
  simp
  refine pure_callB hp (.cons ?_ .nil) (by simp [CV.flat, flatL, idC, flatL_map e8 (fun _ => rfl)]) ?_
  · exact rdH_rows (es := [[encBs s]]) (rest := []) rfl rfl (by simp) (by simp [closedL, closed_Bs])
  simp [idC, hsl, splice_all, List.take_of_length_le]
  exact rd_eq rfl (by simp [CV.closed, closedL, closedL_map e8 (fun _ => rfl)])
end Sha
end Go.CM

/-
  What comes in: bytes, ids, numbers; the table that the program lays.
-/
namespace Go.CM
open Go Go.Proofs Go.RowKit
set_option linter.unusedVariables false
set_option linter.unusedSimpArgs false
set_option maxRecDepth 100000
open Sha

theorem ty_bytes {e : TypeId} (hu : Tryd.prog.underlying e = some (.int .u8)) : ∀ (n : Nat) {ts : List TypeId} {cs : List CV}, Ty Tryd.prog (List.replicate n e ++ ts) cs → ∃ (x : List B) (cs' : List CV), cs = x.map e8 ++ cs' ∧ x.length = n ∧ Ty Tryd.prog ts cs'
  | 0, ts, cs, h => ⟨[], cs, rfl, rfl, h⟩
  | n + 1, ts, cs, h => by
    obtain ⟨k, cs1, rfl, h1, h2, h3⟩ := ty_int hu h
    obtain ⟨x, cs2, rfl, hx, h4⟩ := ty_bytes hu n h3
    have h5 : (0 : Int) ≤ k := h1
    have h6 : k ≤ 255 := h2
    refine ⟨BitVec.ofNat 8 k.toNat :: x, cs2, ?_, by simp [hx], h4⟩
    have : ((BitVec.ofNat 8 k.toNat).toNat : Int) = k := by
      rw [BitVec.toNat_ofNat, Nat.mod_eq_of_lt (by omega)]; omega
    simp [e8, u]; omega
theorem ty_id (r : List CV) (h : Ty Tryd.prog [24] r) : ∃ x : List B, r = x.map e8 ∧ x.length = 32 := by
  have h1 := ty_array (e := 5) (n := 32) (by kernel_rfl) h
  obtain ⟨x, cs', rfl, hx, h2⟩ := ty_bytes (by kernel_rfl) 32 h1
  rw [ty_nil h2, List.append_nil]
  exact ⟨x, rfl, hx⟩
theorem tyA_id {ts : List TypeId} {cs : List CV} (h : TyA Tryd.prog (24 :: ts) cs) : ∃ (x : List B) (cs' : List CV), cs = idC x :: cs' ∧ x.length = 32 ∧ TyA Tryd.prog ts cs' := by
  obtain ⟨c, cs', rfl, h1, h2⟩ := tyA_cons h
  obtain ⟨cs, rfl, h3⟩ := tyV_agg (by kernel_rfl) h1
  obtain ⟨x, rfl, hx⟩ := ty_id _ h3
  exact ⟨x, cs', rfl, hx, h2⟩
theorem tyA_int {ts : List TypeId} {cs : List CV} (h : TyA Tryd.prog (3 :: ts) cs) : ∃ (n : Int) (cs' : List CV), cs = .int .i64 n :: cs' ∧ IntKind.i64.min ≤ n ∧ n ≤ IntKind.i64.max ∧ TyA Tryd.prog ts cs' := by
  obtain ⟨c, cs', rfl, h1, h2⟩ := tyA_cons h
  obtain ⟨n, cs1, hs, hl, hi, h3⟩ := ty_int (k := .i64) (by kernel_rfl) (tyV_one (by kernel_rfl) h1)
  cases hs
  exact ⟨n, cs', rfl, hl, hi, h2⟩
theorem tyA_bool {ts : List TypeId} {cs : List CV} (h : TyA Tryd.prog (4 :: ts) cs) : ∃ (b : Bool) (cs' : List CV), cs = .bool b :: cs' ∧ TyA Tryd.prog ts cs' := by
  obtain ⟨c, cs', rfl, h1, h2⟩ := tyA_cons h
  obtain ⟨n, cs1, hs, h3⟩ := ty_bool (by kernel_rfl) (tyV_one (by kernel_rfl) h1)
  cases hs
  exact ⟨n, cs', rfl, h2⟩

def kInts : List Int := Sha.ks.map fun k => (k.toNat : Int)
theorem tblC_ints : tblC = kInts.map fun k => .int .u32 k := by unfold tblC kInts; rw [List.map_map]; rfl
theorem laid_glo {W : World} (h : laidMetH Tryd.prog [("braid/digest.constants", Go.Proofs.YtacddnkgkogabaaDoor.Rows.laid_braid_digest_constants)] W) : ∀ g, VR0 W (fun _ => True) (GS g) (.pointer (some ⟨g, 0, none⟩)) := by
  intro g
  unfold GS
  split
  · rename_i hb
    have := Nat.eq_of_beq_eq_true hb
    subst this
    rw [MakeChecks.laidMetH_plain _ _ _ (by kernel_rfl)] at h
    obtain ⟨ps, ⟨g0, t0, cs0, f0, p0, q0, hg0, ht0, hv0, hd0, _, _⟩, _, _⟩ := h
    have e1 : Tryd.prog.globalNamed "braid/digest.constants" = some 0 := by kernel_rfl
    have e2 : (Tryd.prog.globals[0]?).map (·.type) = some 147 := by kernel_rfl
    obtain rfl := Option.some.inj (e1.symm.trans hg0)
    obtain rfl := Option.some.inj (e2.symm.trans ht0)
    rw [tblC_ints]
    exact glo_u32 kInts e1 hv0 (n := 64) (e := 105) (by kernel_rfl) (by kernel_rfl) (by kernel_rfl) hd0 (by rfl)
  · exact .bad _
end Go.CM

/-
  Sketches, as data; sizes, ranges, numbers of bytes, exclusive or.
-/
namespace Go.CM
open Go Go.Proofs
set_option linter.unusedVariables false
set_option linter.unusedSimpArgs false
set_option maxRecDepth 100000
namespace Sk
open Sha

abbrev Q := BitVec 64
def sizedB (n : Int) : Bool := decide (3 ≤ n ∧ n ≤ 48 ∧ n % 3 = 0)
def rangedB (n : Int) : Bool := decide (-1000000 ≤ n ∧ n ≤ 1000000)
def big (l : List B) : Q := l.foldl (fun n x => (n <<< 8) ||| x.setWidth 64) 0#64
theorem big_snoc (l : List B) (x : B) : big (l ++ [x]) = (big l <<< 8) ||| x.setWidth 64 := by simp [big, List.foldl_append]
theorem big_take (l : List B) (k : Nat) (x : B) (h : l[k]? = some x) : big (l.take (k + 1)) = (big (l.take k) <<< 8) ||| x.setWidth 64 := by
  rw [List.take_add_one, h]; exact big_snoc _ x
def xorL (a b : List B) : List B := List.zipWith (· ^^^ ·) a b

theorem rem3 (n : Int) (h0 : 0 ≤ n) : binInt .rem .i64 n .i64 3 = some (.int .i64 (n % 3)) := by
  obtain ⟨m, rfl⟩ := Int.eq_ofNat_of_zero_le h0
  have := brem_nat m 3 (by omega)
  rw [show ((3 : Int).toNat) = 3 from rfl] at this
  rw [this]; congr 2
theorem sized_ok (n : Int) : PureC Tryd.prog GS 43 [.int .i64 n] (.bool (sizedB n)) := by
  refine pure_of Tryd.checked.mixed GS_closed ?_
  apply call_intro c43_eq r43_eq
  unfold c43 r43 sizedB
  by_cases h1 : 3 ≤ n
  · by_cases h2 : n ≤ 48
    · simp [h1, h2, rem3 n (by omega)]
      exact rd_eq rfl rfl
    · simp [h1, h2]
      exact rd_eq rfl rfl
  · simp [h1]
    exact rd_eq rfl rfl
theorem refSize_ok (n : Int) : PureC Tryd.prog GS 35 [.int .i64 n] (.bool (sizedB n)) := by
  refine pure_of Tryd.checked.mixed GS_closed ?_
  apply call_intro c35_eq r35_eq
  unfold c35 r35 sizedB
  by_cases h1 : 3 ≤ n
  · by_cases h2 : n ≤ 48
    · simp [h1, h2, rem3 n (by omega)]
      exact rd_eq rfl rfl
    · simp [h1, h2]
      exact rd_eq rfl rfl
  · simp [h1]
    exact rd_eq rfl rfl
theorem ranged_ok (n : Int) : PureC Tryd.prog GS 52 [.int .i64 n] (.bool (rangedB n)) := by
  refine pure_of Tryd.checked.mixed GS_closed ?_
  apply call_intro c52_eq r52_eq
  unfold c52 r52 rangedB
  by_cases h1 : -1000000 ≤ n
  · simp [h1]
    exact rd_eq rfl rfl
  · simp [h1]
    exact rd_eq rfl rfl

theorem big_ok (s : Bs) (hl : s.l.length ≤ 1000000000) : PureC Tryd.prog GS 44 [encBs s] (e64 (big s.l)) := by
  refine pure_of Tryd.checked.mixed GS_closed ?_
  apply call_intro c44_eq r44_eq
  unfold c44 r44
  have hlen : lenM (.sl 1) (encBs s) = some (.int .i64 s.l.length) := len_encS _
  simp [hlen]
  refine loop_up s.l.length (fun k σ l => σ 3 = e64 (big (s.l.take k)) ∧ σ 6 = encBs s ∧ σ 7 = .int .i64 s.l.length ∧ σ 8 = .int .i64 k) ?_ (by simp [big])
  rintro k σ l hk ⟨g3, g6, g7, g8⟩
  obtain ⟨σ, rfl⟩ := upds4 g3 g6 g7 g8
  clear g3 g6 g7 g8
  unfold l44_0
  by_cases h : k < s.l.length
  · obtain ⟨x, hx, _⟩ := get_of h
    have hia : iaC (.sl 1) (encBs s) (.int .i64 k) = some (.rptr (enc8 x) 0) := by rw [ia_encS]; simp [hx]
    have hwk : IntKind.i64.wrap ((k : Int) + 1) = (k + 1 : Nat) := wrap_i64 (by omega) (by omega)
    have hs := big_take s.l k x hx
    simp [h, hia, enc8, hwk]
    rw [← hs]
  · have hk' : k = s.l.length := by omega
    subst hk'
    simp
    exact rd_eq rfl rfl
def xorAt (a b : List B) (k : Nat) : List B := (xorL a b).take k ++ a.drop k
theorem xorAt_len {a b : List B} (h : a.length = b.length) (k : Nat) : (xorAt a b k).length = a.length := by simp [xorAt, xorL]; omega
theorem xorAt_get {a b : List B} (h : a.length = b.length) {k : Nat} (hk : k < a.length) : (xorAt a b k)[k]? = a[k]? := by
  unfold xorAt
  rw [List.getElem?_append_right (by simp [xorL]; omega)]
  have : (List.take k (xorL a b)).length = k := by simp [xorL]; omega
  rw [this, List.getElem?_drop]; simp
theorem xorAt_set {a b : List B} (h : a.length = b.length) {k : Nat} {x y : B} (hx : a[k]? = some x) (hy : b[k]? = some y) : (xorAt a b k).set k (x ^^^ y) = xorAt a b (k + 1) := by
  have hk := (List.getElem?_eq_some_iff.1 hx).1
  unfold xorAt
  have hl : (List.take k (xorL a b)).length = k := by simp [xorL]; omega
  have hz : (xorL a b)[k]? = some (x ^^^ y) := by unfold xorL; rw [List.getElem?_zipWith, hx, hy]
  rw [List.set_append_right _ _ (by omega), hl, Nat.sub_self, List.drop_eq_getElem_cons hk, List.set_cons_zero, List.take_add_one, hz]
  simp
theorem xorAt_end {a b : List B} (h : a.length = b.length) : xorAt a b a.length = xorL a b := by
  unfold xorAt
  rw [List.take_of_length_le (by simp [xorL]; omega), List.drop_length, List.append_nil]

set_option maxHeartbeats 4000000 in
theorem xor_ok (a b : List B) (ha : a.length = 32) (hb : b.length = 32) : PureC Tryd.prog GS 57 [idC a, idC b] (idC (xorL a b)) := by
  refine pure_of Tryd.checked.mixed GS_closed ?_
  apply call_intro c57_eq r57_eq
  unfold c57 r57
  have hab : a.length = b.length := by omega
  simp [idC, ha, hb]
  refine loop_up 32 (fun k σ l => σ 2 = .ptr 0 0 32 ∧ σ 3 = .ptr 1 0 32 ∧ σ 4 = .ptr 2 0 32 ∧ σ 6 = .int .i64 k ∧ l = [.cells 32 ((xorAt a b k).map e8), .cells 32 (b.map e8), .cells 32 (rep 32 (.int .u8 0))]) ?_ (by simp [xorAt])
  rintro k σ l hk ⟨g2, g3, g4, g6, rfl⟩
  obtain ⟨σ, rfl⟩ := upds4 g2 g3 g4 g6
  clear g2 g3 g4 g6
  unfold l57_0
  have hxl := xorAt_len hab k
  by_cases hk32 : (k : Int) < 32
  · have hkn : k < 32 := by omega
    have hk31 : k ≤ 31 := by omega
    have hwk : IntKind.i64.wrap ((k : Int) + 1) = (k + 1 : Nat) := wrap_i64 (by omega) (by omega)
    obtain ⟨x, hx, _⟩ := get_of (l := a) (k := k) (by omega)
    obtain ⟨y, hy, _⟩ := get_of (l := b) (k := k) (by omega)
    have hg := xorAt_get hab (k := k) (by omega)
    rw [hx] at hg
    have hss := splice_set e8 (xorAt a b k) k (x ^^^ y) (by omega)
    rw [xorAt_set hab hx hy] at hss
    obtain ⟨A, hA⟩ : ∃ A, A = (xorAt a b k).map e8 := ⟨_, rfl⟩
    have hAl : A.length = 32 := by rw [hA, List.length_map]; omega
    have hAg : A[k]? = some (e8 x) := by rw [hA, List.getElem?_map, hg]; rfl
    obtain ⟨_, hAg'⟩ := List.getElem?_eq_some_iff.1 hAg
    obtain ⟨C, hC⟩ : ∃ C, C = b.map e8 := ⟨_, rfl⟩
    have hCl : C.length = 32 := by rw [hC, List.length_map]; omega
    have hCg : C[k]? = some (e8 y) := by rw [hC, List.getElem?_map, hy]; rfl
    obtain ⟨_, hCg'⟩ := List.getElem?_eq_some_iff.1 hCg
    rw [← hA] at hss ⊢
    rw [← hC]
    simp [hk32, hkn, hwk, hAl, hAg', hCl, hCg', hss, hk31]
  · have hk' : k = 32 := by omega
    subst hk'
    have hend := xorAt_end hab
    rw [ha] at hend
    rw [hend]
    obtain ⟨A, hA⟩ : ∃ A, A = (xorL a b).map e8 := ⟨_, rfl⟩
    have hAl : A.length = 32 := by rw [hA, List.length_map]; simp [xorL]; omega
    have hAc : closedL A = true := by rw [hA]; exact closedL_map e8 (fun _ => rfl) _
    have ht : A.take 32 = A := List.take_of_length_le (by omega)
    rw [← hA]
    simp [hAl, ht, splice_all]
    exact rd_eq (by unfold idC; rw [hA]) (by rw [hA] at hAc; simp [CV.closed, idC, hAc])
end Sk
end Go.CM

/-
  Sketches: New, Places, Word, walked.
-/
namespace Go.CM
open Go Go.Proofs
set_option linter.unusedVariables false
set_option linter.unusedSimpArgs false
set_option maxRecDepth 100000
namespace Sk
open Sha

/-- A part of an array, cut out. -/
theorem slice_arr {n b lo hi : Nat} {k k' : IntKind} (h : lo ≤ hi) (h2 : hi ≤ n) (hlo : lo < n) : sliceM (.arr n 1) (.ptr b 0 n) (some (.int k (lo : Int))) (some (.int k' (hi : Int))) none = some (.sl 1 b lo (hi - lo) (n - lo) n) := by
  simp only [sliceM, bounds_both]
  rw [if_pos ⟨by omega, by omega, by omega⟩]
  simp only [Int.toNat_natCast]
  rw [if_pos (by omega), if_neg (by omega)]
  simp
theorem slice_arr_to {n b hi : Nat} {k : IntKind} (h2 : hi ≤ n) (hlo : 0 < n) : sliceM (.arr n 1) (.ptr b 0 n) none (some (.int k (hi : Int))) none = some (.sl 1 b 0 hi n n) := by
  simp only [sliceM, bounds_hi]
  rw [if_pos ⟨by omega, by omega⟩]
  simp only [Int.toNat_natCast]
  rw [if_pos (by omega), if_neg (by omega)]
  simp
theorem slice_arr_all {n b : Nat} (hlo : 0 < n) : sliceM (.arr n 1) (.ptr b 0 n) none none none = some (.sl 1 b 0 n n n) := by
  have : boundsC n n none none none = some (0, n, n) := rfl
  simp only [sliceM, this]
  rw [if_pos (by omega), if_neg (by omega)]
  simp
theorem rdH_part {l : Hl} {b sz : Nat} {id : List B} (hb : l[b]? = some (.cells sz (id.map e8))) (lo n cap : Nat) (h : lo + n ≤ id.length) : RdH (HL l) (.sl 1 b lo n cap sz) (encBs (some ((id.drop lo).take n))) := by
  show RdH (HL l) _ (.rsl 1 (((id.drop lo).take n).map enc8))
  refine .sl 1 b lo n cap sz _ _ (HL_cells.2 hb) (by simp; omega) (fun e he => ?_) (by simp; omega) (fun i j e c c' he hj hcc => ?_)
  · obtain ⟨x, _, rfl⟩ := List.mem_map.1 he; rfl
  · rw [List.getElem?_map] at he
    cases hx : ((id.drop lo).take n)[i]? with
    | none => rw [hx] at he; cases he
    | some x =>
      rw [hx] at he
      cases he
      have hi : i < n := by have := (List.getElem?_eq_some_iff.1 hx).1; simp at this; omega
      rw [List.getElem?_take_of_lt hi, List.getElem?_drop] at hx
      match j, hj with
      | 0, hj =>
        simp [enc8] at hj
        subst hj
        rw [Nat.mul_one, Nat.add_zero, List.getElem?_map, hx] at hcc
        cases hcc
        exact .same _ rfl
      | j + 1, hj => simp [enc8] at hj

def place (n : Nat) (id : List B) (r : Nat) : Nat := r * (n / 3) + (big ((id.drop (4 * r)).take 4)).toNat % (n / 3)
theorem sized_nat {n : Int} (h : sizedB n = true) : ∃ N : Nat, n = N ∧ 3 ≤ N ∧ N ≤ 48 ∧ N % 3 = 0 := by
  unfold sizedB at h
  have h := of_decide_eq_true h
  obtain ⟨h1, h2, h3⟩ := h
  obtain ⟨N, rfl⟩ := Int.eq_ofNat_of_zero_le (show 0 ≤ n by omega)
  exact ⟨N, rfl, by omega, by omega, by omega⟩
theorem place_lt {n : Nat} (hn : 3 ≤ n) (id : List B) {r : Nat} : r * (n / 3) ≤ place n id r ∧ place n id r < (r + 1) * (n / 3) := by
  unfold place
  have : 0 < n / 3 := by omega
  obtain ⟨y, hy⟩ : ∃ y, y = (big ((id.drop (4 * r)).take 4)).toNat % (n / 3) := ⟨_, rfl⟩
  have := Nat.mod_lt (big ((id.drop (4 * r)).take 4)).toNat this
  rw [← hy] at this ⊢
  rw [Nat.succ_mul]
  omega
def cellsP (n : Nat) (id : List B) (k : Nat) : List CV := (List.range 3).map fun r => if r < k then .int .i64 (place n id r) else .int .i64 0
def placesC (n : Nat) (id : List B) : CV := .ag [.int .i64 (place n id 0), .int .i64 (place n id 1), .int .i64 (place n id 2)]
theorem cellsP_0 (n : Nat) (id : List B) : cellsP n id 0 = [.int .i64 0, .int .i64 0, .int .i64 0] := rfl
theorem cellsP_3 (n : Nat) (id : List B) : cellsP n id 3 = [.int .i64 (place n id 0), .int .i64 (place n id 1), .int .i64 (place n id 2)] := rfl
theorem cellsP_set (n : Nat) (id : List B) (k : Nat) (hk : k < 3) : splice (cellsP n id k) k [.int .i64 (place n id k)] = cellsP n id (k + 1) := by
  match k, hk with
  | 0, _ => rfl
  | 1, _ => rfl
  | 2, _ => rfl
theorem cellsP_len (n : Nat) (id : List B) (k : Nat) : (cellsP n id k).length = 3 := by simp [cellsP]
theorem place_nums {N : Nat} (h3 : 3 ≤ N) (h48 : N ≤ 48) {q : Nat} (hq : q = N / 3) (x : Q) : BitVec.ofNat 64 q ≠ 0#64 ∧ IntKind.i64.wrap (u (x % BitVec.ofNat 64 q)) = (x.toNat % q : Nat) := by
  have hq1 : 1 ≤ q ∧ q ≤ 16 := by omega
  have hqt : (BitVec.ofNat 64 q).toNat = q := by rw [BitVec.toNat_ofNat]; exact Nat.mod_eq_of_lt (by omega)
  refine ⟨fun h => ?_, ?_⟩
  · have := congrArg BitVec.toNat h
    rw [hqt] at this
    simp at this; omega
  · have hu : u (x % BitVec.ofNat 64 q) = ((x.toNat % q : Nat) : Int) := by
      unfold u
      rw [BitVec.toNat_umod, hqt]
    rw [hu]
    have := Nat.mod_lt x.toNat (show 0 < q by omega)
    exact wrap_i64 (by omega) (by omega)

set_option maxHeartbeats 8000000 in
theorem places_ok (n : Int) (id : List B) (hid : id.length = 32) : PureC Tryd.prog GS 13 [.int .i64 n, idC id] (match sizedB n with | true => .tu [placesC n.toNat id, .int .i64 0] | false => .tu [.ag [.int .i64 0, .int .i64 0, .int .i64 0], .int .i64 2]) := by
  refine pure_of Tryd.checked.mixed GS_closed ?_
  apply call_intro c13_eq r13_eq
  unfold c13 r13
  have hs := sized_ok n
  simp [idC]
  refine pure_call hs rfl ?_
  cases hsz : sizedB n with
  | false =>
    simp
    exact rd_eq rfl rfl
  | true =>
    obtain ⟨N, rfl, h3, h48, hm⟩ := sized_nat hsz
    have hquo := bquo_nat N 3 (by omega) (by omega)
    rw [show ((3 : Int).toNat) = 3 from rfl] at hquo
    obtain ⟨q, hq⟩ : ∃ q, q = N / 3 := ⟨_, rfl⟩
    rw [← hq] at hquo
    simp [hquo]
    obtain ⟨A, hA⟩ : ∃ A, A = id.map e8 := ⟨_, rfl⟩
    have hAl : A.length = 32 := by rw [hA, List.length_map, hid]
    rw [← hA]
    refine loop_up 3 (fun k σ l => σ 3 = .ptr 0 0 32 ∧ σ 4 = .ptr 1 0 3 ∧ σ 6 = .ptr 2 0 3 ∧ σ 7 = .int .i64 q ∧ σ 15 = .int .i64 k ∧ l = [.cells 32 A, .cells 3 [.int .i64 0, .int .i64 0, .int .i64 0], .cells 3 (cellsP N id k)]) ?_ ?_
    · rintro k σ l hk ⟨g3, g4, g6, g7, g15, rfl⟩
      obtain ⟨σ, rfl⟩ := upds5 g3 g4 g6 g7 g15
      clear g3 g4 g6 g7 g15
      unfold l13_0
      by_cases hk3 : (k : Int) < 3
      · have hkn : k < 3 := by omega
        obtain ⟨lo, hlo⟩ : ∃ lo, lo = 4 * k := ⟨_, rfl⟩
        obtain ⟨hi, hhi⟩ : ∃ hi, hi = lo + 4 := ⟨_, rfl⟩
        obtain ⟨b0, hb0⟩ : ∃ b0, b0 = k * q := ⟨_, rfl⟩
        have hb0' : b0 ≤ 32 := by
          have : k * q ≤ 2 * 16 := Nat.mul_le_mul (by omega) (by omega)
          omega
        have w1 : IntKind.i64.wrap (4 * (k : Int)) = lo := by rw [wrap_i64 (by omega) (by omega)]; omega
        have w2 : IntKind.i64.wrap ((lo : Int) + 4) = hi := by rw [wrap_i64 (by omega) (by omega)]; omega
        have w3 : IntKind.i64.wrap ((k : Int) * (q : Int)) = b0 := by rw [← Int.natCast_mul, ← hb0, wrap_i64 (by omega) (by omega)]
        have wk : IntKind.i64.wrap ((k : Int) + 1) = (k + 1 : Nat) := wrap_i64 (by omega) (by omega)
        have hsl := slice_arr (n := 32) (b := 0) (lo := lo) (hi := hi) (k := .i64) (k' := .i64) (by omega) (by omega) (by omega)
        have h4 : hi - lo = 4 := by omega
        rw [h4] at hsl
        obtain ⟨P, hP⟩ : ∃ P, P = cellsP N id k := ⟨_, rfl⟩
        have hPl : P.length = 3 := by rw [hP]; exact cellsP_len _ _ _
        have hset := cellsP_set N id k hkn
        rw [← hP] at hset ⊢
        have hpart := rdH_part (l := [.cells 32 A, .cells 3 [.int .i64 0, .int .i64 0, .int .i64 0], .cells 3 P]) (b := 0) (sz := 32) (id := id) (by rw [hA]; rfl) lo 4 (32 - lo) (by omega)
        obtain ⟨x, hx⟩ : ∃ x, x = big ((id.drop lo).take 4) := ⟨_, rfl⟩
        have hbg := big_ok (some ((id.drop lo).take 4)) (by simp; omega)
        rw [Sv.l_some, ← hx] at hbg
        obtain ⟨hz, hw⟩ := place_nums h3 h48 hq x
        obtain ⟨m, hm2⟩ : ∃ m, m = x.toNat % q := ⟨_, rfl⟩
        rw [← hm2] at hw
        have hmq : m < q := by rw [hm2]; exact Nat.mod_lt _ (by omega)
        have w4 : IntKind.i64.wrap ((b0 : Int) + (m : Int)) = (place N id k : Nat) := by
          rw [wrap_i64 (by omega) (by omega)]
          unfold place
          rw [← hq, ← hb0, ← hlo, ← hx, ← hm2]; omega
        simp [hk3, hkn, w1, w2, w3, hsl]
        refine pure_callB hbg (.cons hpart .nil) rfl ?_
        have hk2 : k ≤ 2 := by omega
        simp [hk3, hkn, hz, hw, w4, wk, hset, hPl, hk2]
      · have hk' : k = 3 := by omega
        subst hk'
        simp [cellsP_3]
        exact rd_eq rfl rfl
    · simp [cellsP_0, hid]
def word (id : List B) : Q := big ((sha id).take 8)
set_option maxHeartbeats 4000000 in
theorem word_ok (id : List B) (hid : id.length = 32) : PureC Tryd.prog GS 15 [idC id] (.tu [e64 (word id), .int .i64 0]) := by
  refine pure_of Tryd.checked.mixed GS_closed ?_
  apply call_intro c15_eq r15_eq
  unfold c15 r15
  have hsum := sum_ok (some id) (by simp; omega)
  rw [Sv.l_some] at hsum
  have hbg := big_ok (some ((sha id).take 8)) (by simp; omega)
  have hsl := sha_length id
  have hs1 := slice_arr_all (n := 32) (b := 0) (by omega)
  have hs2 : sliceM (.arr 32 1) (.ptr 1 0 32) none (some (.int .i64 8)) none = some (.sl 1 1 0 8 32 32) := slice_arr_to (n := 32) (b := 1) (hi := 8) (k := .i64) (by omega) (by omega)
  have hp1 := rdH_part (l := [.cells 32 (id.map e8)]) (b := 0) (sz := 32) (id := id) rfl 0 32 32 (by omega)
  rw [List.drop_zero, List.take_of_length_le (by omega)] at hp1
  have hp2 := rdH_part (l := [.cells 32 (id.map e8), .cells 32 ((sha id).map e8)]) (b := 1) (sz := 32) (id := sha id) rfl 0 8 32 (by omega)
  rw [List.drop_zero] at hp2
  simp [idC, hid, hs1]
  refine pure_callB hsum (.cons hp1 .nil) (by simp [CV.flat, flatL, idC, flatL_map e8 (fun _ => rfl)]) ?_
  simp [idC, hsl, splice_all, hs2]
  refine pure_callB hbg (.cons hp2 .nil) rfl ?_
  simp
  exact rd_eq rfl rfl
end Sk
end Go.CM

/-
  Sketches: cells; New, Check, Same, walked.
-/
namespace Go.CM
open Go Go.Proofs
set_option linter.unusedVariables false
set_option linter.unusedSimpArgs false
set_option maxRecDepth 100000
namespace Sk
open Sha

structure Cell where
  count : Int
  sum : List B
  check : Q
deriving DecidableEq
def encCell (c : Cell) : List CV := .int .i64 c.count :: (c.sum.map e8 ++ [e64 c.check])
abbrev Sketch := Sv Cell
def encSk (s : Sketch) : CV := encS 34 encCell s
def okSk (s : Sketch) : Prop := ∀ c ∈ s.l, c.sum.length = 32
theorem cell_len {c : Cell} (h : c.sum.length = 32) : (encCell c).length = 34 := by simp [encCell, h]
theorem closed_cell (c : Cell) : closedL (encCell c) = true := by
  have : ∀ (l : List B) (r : List CV), closedL (l.map e8 ++ r) = closedL r := by
    intro l r
    induction l with
    | nil => rfl
    | cons x l ih => simp [closedL, CV.closed, ih]
  simp [encCell, closedL, CV.closed, this]
theorem closed_sk (s : Sketch) : (encSk s).closed = true := closed_encS closed_cell s
def zeroId : List B := List.replicate 32 0#8
def zeroCell : Cell := ⟨0, zeroId, 0#64⟩
theorem u_inj {a b : List B} : a.map (fun x => u x) = b.map (fun x => u x) ↔ a = b := by
  constructor
  · intro h
    induction a generalizing b with
    | nil => cases b with
      | nil => rfl
      | cons y b => cases h
    | cons x a ih => cases b with
      | nil => cases h
      | cons y b =>
        simp only [List.map_cons, List.cons.injEq] at h
        rw [ih h.2]
        congr 1
        have := h.1
        unfold u at this
        exact BitVec.eq_of_toNat_eq (by omega)
  · intro h; rw [h]
theorem u64_inj {a b : Q} : u a = u b ↔ a = b := by
  constructor
  · intro h
    unfold u at h
    exact BitVec.eq_of_toNat_eq (by omega)
  · intro h; rw [h]

theorem struct_cell : structIs Tryd.prog 69 [(2, 0), (24, 1), (36, 33)] = true := by kernel_rfl
theorem eq_id {a b : List B} (ha : a.length = 32) (hb : b.length = 32) {D : Nat} : eqT Tryd.prog (D + 2) 24 (.ag (a.map e8)) (.ag (b.map e8)) = some (decide (a = b)) := by
  have h := eq_ints (P := Tryd.prog) (t := 24) (e := 5) (k := .u8) (n := 32) (by kernel_rfl) (by kernel_rfl) (by kernel_rfl) (by kernel_rfl) (x := a.map fun x => u x) (y := b.map fun x => u x) (by simp [ha]) (by simp [hb]) (D := D)
  rw [List.map_map, List.map_map] at h
  rw [show a.map e8 = a.map (CV.int .u8 ∘ fun x => u x) from rfl, show b.map e8 = b.map (CV.int .u8 ∘ fun x => u x) from rfl, h]
  simp only [u_inj]
theorem eq_cell {a b : Cell} (ha : a.sum.length = 32) (hb : b.sum.length = 32) : eqT Tryd.prog 10000 69 (.ag (encCell a)) (.ag (encCell b)) = some (decide (a = b)) := by
  rw [eq_struct (D := 9999) struct_cell]
  have g1 : ∀ c : Cell, partC Tryd.prog 2 (encCell c) 0 = some (.int .i64 c.count) := fun c => by
    unfold partC
    rw [show aggT Tryd.prog 2 = some false by kernel_rfl]
    rfl
  have g2 : ∀ c : Cell, c.sum.length = 32 → partC Tryd.prog 24 (encCell c) 1 = some (.ag (c.sum.map e8)) := fun c hc => by
    unfold partC
    rw [show aggT Tryd.prog 24 = some true by kernel_rfl, show sizeT Tryd.prog 24 = some 32 by kernel_rfl]
    simp only
    rw [if_pos (by rw [cell_len hc]; omega)]
    unfold encCell
    rw [List.drop_succ_cons, List.drop_zero, List.take_append_of_le_length (by simp [hc]), List.take_of_length_le (by simp [hc])]
  have g3 : ∀ c : Cell, c.sum.length = 32 → partC Tryd.prog 36 (encCell c) 33 = some (e64 c.check) := fun c hc => by
    unfold partC
    rw [show aggT Tryd.prog 36 = some false by kernel_rfl]
    simp only
    unfold encCell
    rw [show (33 : Nat) = 32 + 1 from rfl, List.getElem?_cons_succ, List.getElem?_append_right (by simp [hc])]
    simp [hc]
  rw [eqFs_cons (g1 a) (g1 b) (eq_int (k := .i64) (by kernel_rfl) (D := 9998) _ _), eqFs_cons (g2 a ha) (g2 b hb) (eq_id ha hb (D := 9997)), eqFs_cons (g3 a ha) (g3 b hb) (eq_int (k := .u64) (by kernel_rfl) (D := 9998) _ _)]
  obtain ⟨c, s, k⟩ := a
  obtain ⟨c', s', k'⟩ := b
  simp only [Cell.mk.injEq]
  by_cases h1 : c = c'
  · by_cases h2 : s = s'
    · by_cases h3 : k = k'
      · simp [h1, h2, h3, eqFs]
      · have : ¬ u k = u k' := fun h => h3 (u64_inj.1 h)
        simp [h1, h2, h3, this]
    · simp [h1, h2]
  · simp [h1]
theorem cell_neq {a b : Cell} (ha : a.sum.length = 32) (hb : b.sum.length = 32) : binC Tryd.prog .neq 69 (.ag (encCell a)) (.ag (encCell b)) = some (.bool (!decide (a = b))) :=
  bin_neq_of (by kernel_rfl) (eq_cell ha hb)
theorem id_neq {a b : List B} (ha : a.length = 32) (hb : b.length = 32) : binC Tryd.prog .neq 24 (idC a) (idC b) = some (.bool (!decide (a = b))) :=
  bin_neq_of (by kernel_rfl) (eq_id ha hb (D := 9998))
theorem id_eql {a b : List B} (ha : a.length = 32) (hb : b.length = 32) : binC Tryd.prog .eql 24 (idC a) (idC b) = some (.bool (decide (a = b))) :=
  bin_eql_of (by kernel_rfl) (eq_id ha hb (D := 9998))

theorem rd_bool {l : Hl} {b b' : Bool} (h : b = b') : Rd l (.bool b) (.bool b') := by subst h; exact .same _ rfl
set_option maxHeartbeats 2000000 in
theorem same_ok (a b : Sketch) (ha : okSk a) (hb : okSk b) (hl : a.l.length ≤ 1000000) : PureC Tryd.prog GS 24 [encSk a, encSk b] (.bool (decide (a.l = b.l))) := by
  refine pure_of Tryd.checked.mixed GS_closed ?_
  apply call_intro c24_eq r24_eq
  unfold c24 r24
  have hla : lenM (.sl 34) (encSk a) = some (.int .i64 a.l.length) := len_encS _
  have hlb : lenM (.sl 34) (encSk b) = some (.int .i64 b.l.length) := len_encS _
  by_cases h1 : a.l.length = b.l.length
  · have h1' : ((a.l.length : Int) = b.l.length) := by omega
    simp [hla, hlb, h1']
    refine loop_up a.l.length (fun k σ l => σ 0 = encSk a ∧ σ 1 = encSk b ∧ σ 5 = .int .i64 k ∧ ∀ j, j < k → a.l[j]? = b.l[j]?) ?_ (by simp)
    rintro k σ l hk ⟨g0, g1, g5, hs⟩
    obtain ⟨σ, rfl⟩ := upds3 g0 g1 g5
    clear g0 g1 g5
    unfold l24_0
    by_cases h : k < a.l.length
    · obtain ⟨x, hx, hxm⟩ := get_of h
      obtain ⟨y, hy, hym⟩ := get_of (l := b.l) (k := k) (by omega)
      have hwk : IntKind.i64.wrap ((k : Int) + 1) = (k + 1 : Nat) := wrap_i64 (by omega) (by omega)
      have hix : iaC (.sl 34) (encSk a) (.int .i64 k) = some (.rptr (encCell x) 0) := by unfold encSk; rw [ia_encS]; simp [hx]
      have hiy : iaC (.sl 34) (encSk b) (.int .i64 k) = some (.rptr (encCell y) 0) := by unfold encSk; rw [ia_encS]; simp [hy]
      have hcx := cell_len (ha x hxm)
      have hcy := cell_len (hb y hym)
      simp [hla, h, hix, hiy, hcx, hcy, List.take_of_length_le, cell_neq (ha x hxm) (hb y hym)]
      by_cases he : x = y
      · simp [he, hla, h, hwk]
        intro j hj
        by_cases hjk : j = k
        · subst hjk; rw [hx, hy, he]
        · exact hs j (by omega)
      · simp [he]
        refine rd_bool (decide_eq_false fun hab => he ?_).symm
        rw [hab, hy] at hx; exact (Option.some.inj hx).symm
    · simp [hla, h]
      have : k = a.l.length := by omega
      subst this
      refine rd_bool (decide_eq_true ?_).symm
      apply List.ext_getElem?
      intro j
      by_cases hj : j < a.l.length
      · exact hs j hj
      · rw [List.getElem?_eq_none (by omega), List.getElem?_eq_none (by omega)]
  · have h1' : ¬ ((a.l.length : Int) = b.l.length) := by omega
    simp [hla, hlb, h1']
    exact rd_bool (decide_eq_false fun hab => h1 (by rw [hab])).symm

end Sk
end Go.CM

/-
  Sketches: New, Check, walked.
-/
namespace Go.CM
open Go Go.Proofs
set_option linter.unusedVariables false
set_option linter.unusedSimpArgs false
set_option maxRecDepth 100000
namespace Sk
open Sha

def newS (n : Int) : Sketch × Int := match sizedB n with | true => (some (List.replicate n.toNat zeroCell), 0) | false => (none, 2)
theorem rd_tu2 {l : Hl} {a b a' b' : CV} (h1 : Rd l a a') (h2 : Rd l b b') : Rd l (.tu [a, b]) (.tu [a', b']) := by
  refine rd_tu rfl fun j c c' hc hc' => ?_
  rcases j with _ | _ | j
  · simp at hc hc'; subst hc hc'; exact h1
  · simp at hc hc'; subst hc hc'; exact h2
  · simp at hc
theorem mks_nat {z by_ n : Nat} {k k' : IntKind} {zero : List CV} {l : Hl} (h1 : n < 9223372036854775808) (h2 : by_ * n ≤ roomMax) : mksC z by_ zero l (.int k (n : Int)) (.int k' (n : Int)) = some (.sl z l.length 0 n n (n * z), l ++ [.cells (n * z) (repeatC zero n)]) := by
  have h3 : ((by_ : Int) * (n : Int)) ≤ (roomMax : Int) := by rw [← Int.natCast_mul]; omega
  simp only [mksC, Int.toNat_natCast]
  rw [if_pos ⟨by omega, by omega, by omega, h3⟩]
theorem rd_new {l : Hl} {j n : Nat} {zero : List CV} (hzero : zero = encCell zeroCell) (h : l[j]? = some (.cells (n * 34) (repeatC zero n))) : Rd l (.sl 34 j 0 n n (n * 34)) (encSk (some (List.replicate n zeroCell))) := by
  refine OwnQ.rd_enc (j := j) (xs := List.replicate n zeroCell) ?_ closed_cell (some _) rfl rfl
  rw [hzero] at h
  have hz : (encCell zeroCell).length = 34 := rfl
  refine .sl j 0 n n _ _ _ h (by rw [repeatC_len', hz]) (by simp) (fun e he => ?_) (Nat.le_refl _) (by omega) ?_
  · obtain ⟨c, hc, rfl⟩ := List.mem_map.1 he
    rw [(List.mem_replicate.1 hc).2]; rfl
  · rw [List.drop_zero, repeatC_flat, List.map_replicate, List.take_of_length_le]
    rw [← repeatC_flat, repeatC_len', hz]; exact Nat.le_refl _
theorem new_ok (n : Int) : PureC Tryd.prog GS 11 [.int .i64 n] (.tu [encSk (newS n).1, .int .i64 (newS n).2]) := by
  refine pure_of Tryd.checked.mixed GS_closed ?_
  apply call_intro c11_eq r11_eq
  unfold c11 r11 newS
  simp
  refine pure_call (sized_ok n) rfl ?_
  cases hsz : sizedB n with
  | false =>
    simp
    exact rd_eq rfl rfl
  | true =>
    obtain ⟨N, rfl, h3, h48, hm⟩ := sized_nat hsz
    have hm := fun z => mks_nat (z := 34) (by_ := 48) (n := N) (k := .i64) (k' := .i64) (zero := z) (l := []) (by omega) (by rw [show roomMax = 140737488355328 from rfl]; omega)
    simp [hm]
    exact rd_tu2 (rd_new (by rfl) rfl) (.same _ rfl)
def inR (c : Cell) : Bool := rangedB c.count
def chk (s : Sketch) : Int := if sizedB s.l.length = true ∧ s.l.all inR = true then 0 else 8
theorem chk_8 (s : Sketch) : chk s = 0 ∨ chk s = 8 := by unfold chk; split <;> simp
def bad (c : Cell) : Bool := !inR c
theorem check1_ok (c : Cell) : PureC Tryd.prog GS 51 [.ag (encCell c)] (.bool (bad c)) := by
  refine pure_of Tryd.checked.mixed GS_closed ?_
  apply call_intro c51_eq r51_eq
  unfold c51 r51
  have h0 : (encCell c)[0]? = some (.int .i64 c.count) := rfl
  obtain ⟨A, hA⟩ : ∃ A, A = encCell c := ⟨_, rfl⟩
  rw [← hA] at h0 ⊢
  simp [h0]
  refine pure_call (ranged_ok c.count) rfl ?_
  simp
  exact rd_bool rfl
theorem fn_check1 : funOkB Tryd.prog 51 = true := by kernel_rfl
def idx (l : List Cell) : Int := match l.findIdx? bad with | some i => (i : Int) | none => -1
theorem idx_some {l : List Cell} {k : Nat} {s : Cell} (hs : l[k]? = some s) (hl : bad s = true) (hno : ∀ j s, j < k → l[j]? = some s → bad s = false) : idx l = k := by
  have : l.findIdx? bad = some k := by
    rw [List.findIdx?_eq_some_iff_getElem]
    obtain ⟨h1, rfl⟩ := List.getElem?_eq_some_iff.1 hs
    refine ⟨h1, hl, fun j hj => ?_⟩
    rw [hno j l[j] hj (List.getElem?_eq_getElem (by omega))]; simp
  unfold idx; rw [this]
theorem idx_none {l : List Cell} (hno : ∀ j s, j < l.length → l[j]? = some s → bad s = false) : idx l = -1 := by
  have : l.findIdx? bad = none := by
    rw [List.findIdx?_eq_none_iff]
    intro x hx
    obtain ⟨j, hj⟩ := List.mem_iff_getElem?.1 hx
    exact hno j x (List.getElem?_eq_some_iff.1 hj).1 hj
  unfold idx; rw [this]
theorem idx_iff (l : List Cell) : 0 ≤ idx l ↔ l.all inR = false := by
  unfold idx
  cases h : l.findIdx? bad with
  | none =>
    rw [List.findIdx?_eq_none_iff] at h
    simp only [List.all_eq_false]
    constructor
    · intro h1; omega
    · rintro ⟨x, hx, hb⟩
      have := h x hx
      unfold bad at this
      cases hi : inR x <;> simp_all
  | some i =>
    obtain ⟨h1, h2, _⟩ := List.findIdx?_eq_some_iff_getElem.1 h
    simp only [List.all_eq_false]
    refine ⟨fun _ => ⟨l[i], List.getElem_mem h1, ?_⟩, fun _ => by omega⟩
    unfold bad at h2
    cases hi : inR l[i] <;> simp_all
theorem index_ok (s : Sketch) (ho : okSk s) (hl : s.l.length ≤ 1000000000) : PureC Tryd.prog GS 67 [encSk s, .fn 51 [] []] (.int .i64 (idx s.l)) := by
  refine pure_of Tryd.checked.mixed GS_closed ?_
  apply call_intro c67_eq r67_eq
  unfold c67 r67
  have hlen : lenM (.sl 34) (encSk s) = some (.int .i64 s.l.length) := len_encS _
  simp [hlen]
  refine loop_up s.l.length (fun k σ l => σ 0 = encSk s ∧ σ 1 = .fn 51 [] [] ∧ σ 7 = .int .i64 s.l.length ∧ σ 8 = .int .i64 k ∧ ∀ j c, j < k → s.l[j]? = some c → bad c = false) ?_ (by simp)
  rintro k σ l hk ⟨g0, g1, g7, g8, hno⟩
  obtain ⟨σ, rfl⟩ := upds4 g0 g1 g7 g8
  clear g0 g1 g7 g8
  unfold l67_0
  by_cases h : k < s.l.length
  · obtain ⟨c, hc, hcm⟩ := get_of h
    have hia : iaC (.sl 34) (encSk s) (.int .i64 k) = some (.rptr (encCell c) 0) := by unfold encSk; rw [ia_encS]; simp [hc]
    have hwk : IntKind.i64.wrap ((k : Int) + 1) = k + 1 := wrap_i64 (by omega) (by omega)
    have hcl := cell_len (ho c hcm)
    simp [h, hia, hcl, List.take_of_length_le]
    refine ⟨fn_check1, pure_call (check1_ok c) (by simp [closedL, CV.closed, closed_cell]) ?_⟩
    cases hls : bad c with
    | true =>
      simp
      rw [idx_some hc hls hno]
      exact rd_eq rfl rfl
    | false =>
      simp [h, hwk]
      intro j s' hj hs'
      rcases Nat.lt_or_ge j k with h1 | h1
      · exact hno j s' h1 hs'
      · have : j = k := by omega
        subst this
        rw [hc] at hs'; cases hs'; exact hls
  · simp [h]
    rw [idx_none (fun j c hj hs => hno j c (by omega) hs)]
    exact rd_eq rfl rfl
theorem contains_ok (s : Sketch) (ho : okSk s) (hl : s.l.length ≤ 1000000000) : PureC Tryd.prog GS 50 [encSk s, .fn 51 [] []] (.bool (!s.l.all inR)) := by
  refine pure_of Tryd.checked.mixed GS_closed ?_
  apply call_intro c50_eq r50_eq
  unfold c50 r50
  simp
  refine pure_call (index_ok s ho hl) (by simp [closedL, CV.closed, closed_sk]) ?_
  have := idx_iff s.l
  simp
  refine rd_bool ?_
  cases h : s.l.all inR <;> simp_all
theorem check_ok (s : Sketch) (ho : okSk s) (hl : s.l.length ≤ 1000000000) : PureC Tryd.prog GS 22 [encSk s] (.int .i64 (chk s)) := by
  refine pure_of Tryd.checked.mixed GS_closed ?_
  apply call_intro c22_eq r22_eq
  unfold c22 r22
  have hlen : lenM (.sl 34) (encSk s) = some (.int .i64 s.l.length) := len_encS _
  simp [hlen]
  refine pure_call (sized_ok s.l.length) rfl ?_
  unfold chk
  cases h1 : sizedB s.l.length with
  | false =>
    simp
    exact rd_eq rfl rfl
  | true =>
    simp
    refine pure_call (contains_ok s ho hl) (by simp [closedL, CV.closed, closed_sk]) ?_
    cases h2 : s.l.all inR <;> simp [-List.all_eq_true, -List.all_eq_false]
    · exact rd_eq rfl rfl
    · exact rd_eq rfl rfl
theorem inR_iff (c : Cell) : inR c = true ↔ -1000000 ≤ c.count ∧ c.count ≤ 1000000 := by unfold inR rangedB; simp
end Sk
end Go.CM

/-
  Sketches: adding and removing, walked.
-/
namespace Go.CM
open Go Go.Proofs
set_option linter.unusedVariables false
set_option linter.unusedSimpArgs false
set_option maxRecDepth 100000

/-- One row of a slice of one's own, in its block. -/
theorem OwnS.split {z : Nat} {l : Hl} {v : CV} {j : Nat} {es : List (List CV)} (h : OwnS z l v j es) {i : Nat} {e : List CV} (he : es[i]? = some e) :
    ∃ n cap sz A B, v = .sl z j 0 n cap sz ∧ es.length = n ∧ l[j]? = some (.cells sz (A ++ (e ++ B))) ∧ A.length = i * z ∧ i * z + z ≤ sz ∧ (A ++ (e ++ B)).length = sz ∧ ∀ e' l', e'.length = z → l'[j]? = some (.cells sz (A ++ (e' ++ B))) → OwnS z l' v j (es.set i e') := by
  cases h with
  | nil j => simp at he
  | sl j n cap sz cs es hb hl hn hz hc hcap hcs =>
    have hi := (List.getElem?_eq_some_iff.1 he).1
    have hes : es = es.take i ++ (e :: es.drop (i + 1)) := by
      have : es.drop i = e :: es.drop (i + 1) := by rw [List.drop_eq_getElem_cons hi]; congr 1; exact (List.getElem?_eq_some_iff.1 he).2
      rw [← this, List.take_append_drop]
    have hfl : es.flatten = (es.take i).flatten ++ (e ++ (es.drop (i + 1)).flatten) := by
      conv => lhs; rw [hes]
      simp
    have hA : (es.take i).flatten.length = i * z := by
      rw [flatten_len (z := z) (fun x hx => hz x (List.mem_of_mem_take hx)), List.length_take]
      congr 1; omega
    have hez := hz e (List.mem_of_getElem? he)
    have hcs2 : cs = (es.take i).flatten ++ (e ++ ((es.drop (i + 1)).flatten ++ cs.drop (n * z))) := by
      conv => lhs; rw [← List.take_append_drop (n * z) cs, hcs, hfl]
      simp
    have hm : i * z + z ≤ n * z := by rw [← hn, ← Nat.succ_mul]; exact Nat.mul_le_mul_right _ hi
    have hm2 : n * z ≤ cap * z := Nat.mul_le_mul_right _ hc
    refine ⟨n, cap, sz, _, _, rfl, hn, by rw [← hcs2]; exact hb, hA, by omega, by rw [← hcs2]; exact hl, fun e' l' he' hl' => ?_⟩
    have hset : es.set i e' = es.take i ++ (e' :: es.drop (i + 1)) := by
      rw [List.set_eq_take_append_cons_drop, if_pos hi]
    have hflen : (es.set i e').flatten = (es.take i).flatten ++ (e' ++ (es.drop (i + 1)).flatten) := by rw [hset]; simp
    have hl2 : (es.drop (i + 1)).flatten.length = (n - (i + 1)) * z := by
      rw [flatten_len (z := z) (fun x hx => hz x (List.mem_of_mem_drop hx)), List.length_drop, hn]
    have hmm : (n - (i + 1)) * z + (i * z + z) = n * z := by
      rw [← Nat.succ_mul, ← Nat.add_mul]; congr 1; omega
    refine .sl j n cap sz _ _ hl' ?_ (by simpa using hn) (fun x hx => ?_) hc hcap ?_
    · have := congrArg List.length hcs2
      simp only [List.length_append] at this ⊢
      omega
    · rcases List.mem_or_eq_of_mem_set hx with h | h
      · exact hz x h
      · rw [h]; exact he'
    · rw [hflen]
      have : (List.take i es).flatten ++ (e' ++ ((List.drop (i + 1) es).flatten ++ List.drop (n * z) cs)) = ((List.take i es).flatten ++ (e' ++ (List.drop (i + 1) es).flatten)) ++ List.drop (n * z) cs := by simp
      rw [this, List.take_append_of_le_length (by simp only [List.length_append]; omega), List.take_of_length_le (by simp only [List.length_append]; omega)]

namespace Sk
open Sha

theorem splice_mid (A M M' B : List CV) (n : Nat) (hn : A.length = n) (h : M'.length = M.length) : splice (A ++ (M ++ B)) n M' = A ++ (M' ++ B) := by
  subst hn
  unfold splice
  have h1 : A ++ (M ++ B) = (A ++ M) ++ B := by simp
  have h2 : A.length + M'.length = (A ++ M).length := by simp [h]
  rw [List.take_left, h1, h2, List.drop_left]
  simp
/-- A cell's parts, within its block. -/
theorem row_ops (A S B : List CV) (x y : CV) (b : Nat) (hb : A.length = b) (hS : S.length = 32) :
    (A ++ ((x :: (S ++ [y])) ++ B))[b]? = some x ∧
    (∀ x', splice (A ++ ((x :: (S ++ [y])) ++ B)) b [x'] = A ++ ((x' :: (S ++ [y])) ++ B)) ∧
    ((A ++ ((x :: (S ++ [y])) ++ B)).drop (b + 1)).take 32 = S ∧
    (∀ S', S'.length = 32 → splice (A ++ ((x :: (S ++ [y])) ++ B)) (b + 1) S' = A ++ ((x :: (S' ++ [y])) ++ B)) ∧
    (A ++ ((x :: (S ++ [y])) ++ B))[b + 33]? = some y ∧
    (∀ y', splice (A ++ ((x :: (S ++ [y])) ++ B)) (b + 33) [y'] = A ++ ((x :: (S ++ [y'])) ++ B)) := by
  subst hb
  have e1 : A ++ ((x :: (S ++ [y])) ++ B) = A ++ ([x] ++ (S ++ ([y] ++ B))) := by simp
  have e2 : A ++ ((x :: (S ++ [y])) ++ B) = (A ++ [x]) ++ (S ++ ([y] ++ B)) := by simp
  have e3 : A ++ ((x :: (S ++ [y])) ++ B) = (A ++ (x :: S)) ++ ([y] ++ B) := by simp
  refine ⟨?_, fun x' => ?_, ?_, fun S' hS' => ?_, ?_, fun y' => ?_⟩
  · rw [List.getElem?_append_right (Nat.le_refl _)]; simp
  · rw [e1, splice_mid A [x] [x'] _ _ rfl rfl]; simp
  · rw [e2, show A.length + 1 = (A ++ [x]).length by simp, List.drop_left, ← hS, List.take_left]
  · rw [e2, splice_mid (A ++ [x]) S S' _ _ (by simp) (by omega)]; simp
  · rw [e3, List.getElem?_append_right (by simp; omega)]; simp [hS]
  · rw [e3, splice_mid (A ++ (x :: S)) [y] [y'] _ _ (by simp [hS]) rfl]; simp
end Sk
end Go.CM

/-
  Sketches: put, walked.
-/
namespace Go.CM
open Go Go.Proofs
set_option linter.unusedVariables false
set_option linter.unusedSimpArgs false
set_option maxRecDepth 100000
namespace Sk
open Sha

theorem sk_nil (s : Sketch) : binC Tryd.prog .eql 22 (encSk s) .nilS = some (.bool s.isNone) := bin_nil_eql (e := 69) (by kernel_rfl) 34 encCell s
theorem rows_sk {s : Sketch} (ho : okSk s) : ∀ e ∈ s.l.map encCell, e.length = 34 := fun e he => by obtain ⟨x, hx, rfl⟩ := List.mem_map.1 he; exact cell_len (ho x hx)
theorem cloneS_own {s : Sketch} (ho : okSk s) (hs : s.l.length ≤ 1000000000) {l : Hl} {K : CV → Hl → Prop} (hK : ∀ v j l', OwnS 34 l' v j (s.l.map encCell) → l.length ≤ l'.length → (∀ b, b < l.length → l'[b]? = l[b]?) → (v = .nilS ∨ l.length ≤ j) → isNilS v = s.isNone → K v l') : CallP Tryd.prog GS 56 [encSk s] l (c := ⟨K⟩) := by
  apply call_intro c56_eq r56_eq
  unfold c56 r56
  simp [sk_nil]
  cases s with
  | none =>
    simp
    exact hK _ 0 _ (.nil 0) (Nat.le_refl _) (fun _ _ => rfl) (.inl rfl) rfl
  | some b =>
    simp
    have hr : roomMax = 140737488355328 := rfl
    have hs' : b.length ≤ 1000000000 := hs
    have hO : OwnS 34 (l ++ [CB.cells 0 []]) (.sl 34 l.length 0 0 0 0) l.length [] := .sl l.length 0 0 0 [] [] (by simp) rfl rfl (by simp) (Nat.le_refl _) (by omega) rfl
    obtain ⟨v', j', l', h1, h2, h3, h4, h5, h6⟩ := app_law (by_ := 48) hO (x := encSk (some b)) (xs := b.map encCell) (by unfold encSk; rw [contents_encS]; simp) (rows_sk ho) (by omega) (by omega) (by simp; omega)
    simp [h1]
    refine AppK.keep ?_
    simp
    have h3' : l.length + 1 ≤ l'.length := by simpa using h3
    refine hK _ j' _ h2 (by omega) (fun b hb => ?_) (.inr (by rcases h5 with h | h <;> (try simp only [List.length_append, List.length_cons, List.length_nil] at h) <;> omega)) ?_
    · rw [h4 b (by simp; omega) (by omega), List.getElem?_append_left hb]
    · rw [isNil_app h6]; rfl

def stepC (c : Cell) (id : List B) (by_ : Int) (w : Q) : Cell := ⟨c.count + by_, xorL c.sum id, c.check ^^^ w⟩
def putAt (id : List B) (by_ : Int) (w : Q) : List Nat → List Cell → Option (List Cell)
  | [], s => some s
  | p :: ps, s => match s[p]? with
    | none => none
    | some c => match inR (stepC c id by_ w) with
      | true => putAt id by_ w ps (s.set p (stepC c id by_ w))
      | false => none
def placesL (n : Nat) (id : List B) : List Nat := [place n id 0, place n id 1, place n id 2]
def changed (s : List Cell) (id : List B) (by_ : Int) : Option (List Cell) := putAt id by_ (word id) (placesL s.length id) s
def put (s : Sketch) (id : List B) (by_ : Int) : Sketch × Int :=
  if chk s = 0 then match changed s.l id by_ with
    | some t => (some t, 0)
    | none => (none, 16)
  else (none, chk s)
theorem placesL_drop (n : Nat) (id : List B) (k : Nat) (hk : k < 3) : (placesL n id).drop k = place n id k :: (placesL n id).drop (k + 1) := by
  match k, hk with
  | 0, _ => rfl
  | 1, _ => rfl
  | 2, _ => rfl
theorem placesC_ix (n : Nat) (id : List B) (k : Nat) (hk : k < 3) : ixC1 3 1 (placesC n id) (.int .i64 k) = some (.int .i64 (place n id k)) := by
  match k, hk with
  | 0, _ => rfl
  | 1, _ => rfl
  | 2, _ => rfl
theorem place_lt_n {n : Nat} (h3 : 3 ≤ n) (hm : n % 3 = 0) (id : List B) {k : Nat} (hk : k < 3) : place n id k < n := by
  have := (place_lt h3 id (r := k)).2
  have h : (k + 1) * (n / 3) ≤ 3 * (n / 3) := Nat.mul_le_mul_right _ (by omega)
  omega
theorem xorL_len {a b : List B} (ha : a.length = 32) (hb : b.length = 32) : (xorL a b).length = 32 := by simp [xorL]; omega
theorem chk_0 {s : Sketch} (h : chk s = 0) : sizedB s.l.length = true ∧ ∀ c ∈ s.l, inR c = true := by
  unfold chk at h
  split at h
  · rename_i hh; exact ⟨hh.1, List.all_eq_true.1 hh.2⟩
  · cases h
theorem rd_put0 {l : Hl} {e e' : Int} (h : e = e') : Rd l (.tu [.nilS, .int .i64 e]) (.tu [encSk none, .int .i64 e']) := by subst h; exact .same _ rfl
/-- The state of a sketch that is being changed. -/
structure Mid (n : Nat) (cur : List Cell) : Prop where
  len : cur.length = n
  c : ∀ c ∈ cur, inR c = true ∧ c.sum.length = 32
theorem Mid.set {n : Nat} {cur : List Cell} (h : Mid n cur) {p : Nat} {c : Cell} (hc : inR c = true) (hl : c.sum.length = 32) : Mid n (cur.set p c) := by
  refine ⟨by rw [List.length_set]; exact h.len, fun x hx => ?_⟩
  rcases List.mem_or_eq_of_mem_set hx with h1 | h1
  · exact h.c x h1
  · subst h1; exact ⟨hc, hl⟩

set_option maxHeartbeats 16000000 in
theorem put_ok (s : Sketch) (id : List B) (by_ : Int) (ho : okSk s) (hl : s.l.length ≤ 1000000000) (hid : id.length = 32) (hby : -1000000 ≤ by_ ∧ by_ ≤ 1000000) :
    PureC Tryd.prog GS 46 [encSk s, idC id, .int .i64 by_] (.tu [encSk (put s id by_).1, .int .i64 (put s id by_).2]) := by
  refine pure_of Tryd.checked.mixed GS_closed ?_
  apply call_intro c46_eq r46_eq
  unfold c46 r46
  have hlen : lenM (.sl 34) (encSk s) = some (.int .i64 s.l.length) := len_encS _
  obtain ⟨I, hI⟩ : ∃ I, I = id.map e8 := ⟨_, rfl⟩
  have hIl : I.length = 32 := by rw [hI, List.length_map, hid]
  have hIc : closedL I = true := by rw [hI]; exact closedL_map e8 (fun _ => rfl) _
  unfold idC
  rw [← hI]
  simp [hIl]
  refine pure_call (check_ok s ho hl) (by simp [closedL, closed_sk]) ?_
  rcases chk_8 s with h0 | h0
  · obtain ⟨hsz, hin⟩ := chk_0 h0
    obtain ⟨N, hN, h3, h48, hm⟩ := sized_nat hsz
    have hN' : s.l.length = N := by omega
    have hpl := places_ok s.l.length id hid
    rw [hsz, hN'] at hpl
    simp only [Int.toNat_natCast] at hpl
    rw [hN'] at hlen
    have hwd := word_ok id hid
    unfold idC at hpl hwd
    rw [← hI] at hpl hwd
    obtain ⟨w, hw⟩ : ∃ w, w = word id := ⟨_, rfl⟩
    have hput : put s id by_ = match changed s.l id by_ with | some t => (some t, 0) | none => (none, 16) := by unfold put; rw [if_pos h0]
    rw [hput]
    unfold changed
    rw [hN', ← hw]
    rw [← hw] at hwd
    simp [h0, hlen, hIl, List.take_of_length_le]
    refine pure_call hpl (by simp [closedL, CV.closed, hIc]) ?_
    simp [placesC, List.take_of_length_le, hIl]
    refine pure_call hwd (by simp [closedL, CV.closed, hIc]) ?_
    simp
    refine cloneS_own ho hl fun v j l' hown hll hfr hj hnil => ?_
    have hf0 := hfr 0 (by simp)
    have hf1 := hfr 1 (by simp)
    simp at hf0 hf1 hj hll
    have hsn : isNilS v = false := by
      rw [hnil]
      cases s with
      | none => simp at hN'; omega
      | some l => rfl
    obtain ⟨n, cap, sz, cs0, rfl, _, _, hn, _⟩ := hown.view hsn
    have hnN : n = N := by rw [List.length_map] at hn; omega
    subst hnN
    have hj2 : 2 ≤ j := hj.resolve_left (by simp)
    obtain ⟨R, hR⟩ : ∃ R, R = putAt id by_ w (placesL n id) s.l := ⟨_, rfl⟩
    rw [← hR]
    simp [hf1]
    refine loop_up 3 (fun k σ l => σ 2 = .int .i64 by_ ∧ σ 4 = .ptr 0 0 32 ∧ σ 11 = e64 w ∧ σ 12 = .sl 34 j 0 n cap sz ∧ σ 41 = placesC n id ∧ σ 42 = .int .i64 k ∧ l[0]? = some (.cells 32 I) ∧
      ∃ cur, Mid n cur ∧ OwnS 34 l (.sl 34 j 0 n cap sz) j (cur.map encCell) ∧ putAt id by_ w ((placesL n id).drop k) cur = R) ?_ ?_
    · clear hown hll hfr hf0 hf1
      rintro k σ l hk ⟨g2, g4, g11, g12, g41, g42, hl0, cur, M, hown, hr⟩
      obtain ⟨σ, rfl⟩ := upds6 g2 g4 g11 g12 g41 g42
      clear g2 g4 g11 g12 g41 g42
      unfold l46_0
      by_cases hk3 : (k : Int) < 3
      · have hkn : k < 3 := by omega
        have hwk : IntKind.i64.wrap ((k : Int) + 1) = (k + 1 : Nat) := wrap_i64 (by omega) (by omega)
        rw [placesL_drop n id k hkn] at hr
        have hix := placesC_ix n id k hkn
        have hpn := place_lt_n h3 hm id hkn
        obtain ⟨p, hp⟩ : ∃ p, p = place n id k := ⟨_, rfl⟩
        rw [← hp] at hr hix hpn
        obtain ⟨c, hc, hcm⟩ := get_of (l := cur) (k := p) (by rw [M.len]; exact hpn)
        obtain ⟨hcr, hcl⟩ := M.c c hcm
        obtain ⟨_, _, _, A, B, hv, _, hlj, hA, hle, hcsl, hback⟩ := hown.split (i := p) (e := encCell c) (by rw [List.getElem?_map, hc]; rfl)
        cases hv
        unfold encCell at hlj hcsl
        obtain ⟨S, hS⟩ : ∃ S, S = c.sum.map e8 := ⟨_, rfl⟩
        have hSl : S.length = 32 := by rw [hS, List.length_map, hcl]
        rw [← hS] at hlj hcsl
        obtain ⟨c', hc'⟩ : ∃ c', c' = stepC c id by_ w := ⟨_, rfl⟩
        obtain ⟨S', hS'⟩ : ∃ S', S' = c'.sum.map e8 := ⟨_, rfl⟩
        have hsl' : c'.sum.length = 32 := by rw [hc']; exact xorL_len hcl hid
        have hSl' : S'.length = 32 := by rw [hS', List.length_map, hsl']
        have hjl := get_lt hlj
        obtain ⟨b34, hb34⟩ : ∃ b, b = p * 34 := ⟨_, rfl⟩
        rw [← hb34] at hA hle
        obtain ⟨o1, o2, _⟩ := row_ops A S B (.int .i64 c.count) (e64 c.check) b34 hA hSl
        obtain ⟨_, _, o3, o4, _⟩ := row_ops A S B (.int .i64 c'.count) (e64 c.check) b34 hA hSl
        obtain ⟨_, _, _, _, o5, o6⟩ := row_ops A S' B (.int .i64 c'.count) (e64 c.check) b34 hA hSl'
        obtain ⟨o7, _⟩ := row_ops A S' B (.int .i64 c'.count) (e64 c'.check) b34 hA hSl'
        have o2 := o2 (.int .i64 c'.count)
        have o4 := o4 S' hSl'
        have o6 := o6 (e64 c'.check)
        have l1 : (A ++ ((CV.int .i64 c'.count :: (S ++ [e64 c.check])) ++ B)).length = sz := by rw [← hcsl]; simp
        have l2 : (A ++ ((CV.int .i64 c'.count :: (S' ++ [e64 c.check])) ++ B)).length = sz := by rw [← hcsl]; simp [hSl, hSl']
        have l3 : (A ++ ((CV.int .i64 c'.count :: (S' ++ [e64 c'.check])) ++ B)).length = sz := by rw [← hcsl]; simp [hSl, hSl']
        have hback := hback (encCell c')
        obtain ⟨C0, hC0⟩ : ∃ C, C = A ++ ((CV.int .i64 c.count :: (S ++ [e64 c.check])) ++ B) := ⟨_, rfl⟩
        obtain ⟨C1, hC1⟩ : ∃ C, C = A ++ ((CV.int .i64 c'.count :: (S ++ [e64 c.check])) ++ B) := ⟨_, rfl⟩
        obtain ⟨C2, hC2⟩ : ∃ C, C = A ++ ((CV.int .i64 c'.count :: (S' ++ [e64 c.check])) ++ B) := ⟨_, rfl⟩
        obtain ⟨C3, hC3⟩ : ∃ C, C = A ++ ((CV.int .i64 c'.count :: (S' ++ [e64 c'.check])) ++ B) := ⟨_, rfl⟩
        rw [← hC0] at o1 o2 hlj hcsl
        rw [← hC1] at o2 o3 o4 l1
        rw [← hC2] at o4 o5 o6 l2
        rw [← hC3] at o6 o7 l3
        have hback3 : ∀ l', l'[j]? = some (CB.cells sz C3) → OwnS 34 l' (.sl 34 j 0 n cap sz) j ((cur.set p c').map encCell) := fun l' hl' => by
          rw [List.map_set]
          refine hback l' (cell_len hsl') ?_
          rw [hl', hC3, hS']; rfl
        have hcr' := (inR_iff c).1 hcr
        have hwc : IntKind.i64.wrap (c.count + by_) = c'.count := by rw [wrap_i64 (by omega) (by omega), hc']; rfl
        have hx := xor_ok c.sum id hcl hid
        have hxe : xorL c.sum id = c'.sum := by rw [hc']; rfl
        rw [hxe] at hx
        unfold idC at hx
        rw [← hS, ← hS', ← hI] at hx
        have hSc : closedL S = true := by rw [hS]; exact closedL_map e8 (fun _ => rfl) _
        have hcheck : c.check ^^^ w = c'.check := by rw [hc']; rfl
        have hrg := ranged_ok c'.count
        have hinr : rangedB c'.count = inR c' := rfl
        rw [hinr] at hrg
        have q1 : b34 + 1 ≤ sz := by omega
        have q2 : b34 + 1 + 32 ≤ sz := by omega
        have q3 : b34 + 33 + 1 ≤ sz := by omega
        have j0 : j ≠ 0 := by omega
        have j0' : ¬ 0 = j := by omega
        obtain ⟨_, hlj'⟩ := List.getElem?_eq_some_iff.1 hlj
        have hset0 : ∀ X : CB, (l.set j X)[0]? = some (CB.cells 32 I) := fun X => by rw [List.getElem?_set_ne j0]; exact hl0
        simp [hk3, hix, hpn, ← hb34, hlj', o1, hwc, o2, q1, hjl, l1, q2, o3, hset0, hIl, List.take_of_length_le]
        refine pure_call hx (by simp [closedL, CV.closed, hSc, hIc]) ?_
        simp [hjl, hSl', o4, l1, l2, q2, q3, o5, hcheck, o6, o7, l3]
        refine pure_call hrg rfl ?_
        unfold putAt at hr
        rw [hc] at hr
        simp only [← hc'] at hr
        cases hcase : inR c' with
        | false =>
          rw [hcase] at hr
          simp only at hr
          rw [← hr]
          simp
          exact rd_put0 rfl
        | true =>
          rw [hcase] at hr
          simp only at hr
          simp [hk3, hwk, hkn]
          exact ⟨by rw [List.getElem?_set_ne j0]; exact hl0, cur.set p c', M.set hcase hsl', by rw [List.map_set] at hback3; rw [List.map_set]; exact hback3 _ (by rw [List.getElem?_set_self hjl]), hr⟩
      · have hk' : k = 3 := by omega
        subst hk'
        have hr3 : some cur = R := hr
        rw [← hr3]
        simp
        have hrd := hown.q.rd_enc closed_cell (some cur) rfl rfl
        exact rd_tu2 hrd (.same _ rfl)
    · simp
      exact ⟨rfl, hf0, s.l, ⟨hN', fun c hc => ⟨hin c hc, ho c hc⟩⟩, hown, hR.symm⟩
  · simp [h0]
    have : put s id by_ = (none, 8) := by unfold put; rw [if_neg (by rw [h0]; simp), h0]
    rw [this]
    exact rd_put0 rfl
end Sk
end Go.CM

/-
  Sketches: Add, Remove, and the reference's, walked.
-/
namespace Go.CM
open Go Go.Proofs
set_option linter.unusedVariables false
set_option linter.unusedSimpArgs false
set_option maxRecDepth 100000
namespace Sk
open Sha

theorem closed_id (id : List B) : (idC id).closed = true := by simp [idC, CV.closed, closedL_map e8 (fun _ => rfl)]
theorem add_ok (s : Sketch) (id : List B) (ho : okSk s) (hl : s.l.length ≤ 1000000000) (hid : id.length = 32) :
    PureC Tryd.prog GS 16 [encSk s, idC id] (.tu [encSk (put s id 1).1, .int .i64 (put s id 1).2]) := by
  refine pure_of Tryd.checked.mixed GS_closed ?_
  apply call_intro c16_eq r16_eq
  unfold c16 r16
  have hp := put_ok s id 1 ho hl hid (by omega)
  have hc := closed_id id
  unfold idC at hp hc ⊢
  obtain ⟨I, hI⟩ : ∃ I, I = id.map e8 := ⟨_, rfl⟩
  have hIl : I.length = 32 := by rw [hI, List.length_map, hid]
  rw [← hI] at hp hc ⊢
  simp [hIl, List.take_of_length_le]
  refine pure_call hp (by simp [closedL, closed_sk, hc, CV.closed] at hc ⊢; exact hc) ?_
  simp
  exact rd_tu2 (.same _ (closed_sk _)) (.same _ rfl)
/-- A cell's parts, in a block of its own. -/
theorem row_ops0 (S : List CV) (x y : CV) (hS : S.length = 32) :
    (x :: (S ++ [y]))[0]? = some x ∧ (∀ x', splice (x :: (S ++ [y])) 0 [x'] = x' :: (S ++ [y])) ∧ ((x :: (S ++ [y])).drop 1).take 32 = S ∧
    (∀ S', S'.length = 32 → splice (x :: (S ++ [y])) 1 S' = x :: (S' ++ [y])) ∧ (x :: (S ++ [y]))[33]? = some y ∧ (∀ y', splice (x :: (S ++ [y])) 33 [y'] = x :: (S ++ [y'])) := by
  have h := row_ops [] S [] x y 0 rfl hS
  simpa using h
end Sk
end Go.CM

/-
  Sketches: Pure, and the reference's put, Add, Remove and Pure, walked.
-/
namespace Go.CM
open Go Go.Proofs
set_option linter.unusedVariables false
set_option linter.unusedSimpArgs false
set_option maxRecDepth 100000
namespace Sk
open Sha

/-! Pure -/
def eI (n : Int) : List CV := [.int .i64 n]
abbrev encI (s : Sv Int) : CV := encS 1 eI s
theorem closed_eI (n : Int) : closedL (eI n) = true := rfl
def ixI (l : List Int) (i : Int) : Int := match l.findIdx? (fun x => x == i) with | some k => (k : Int) | none => -1
theorem indexI_ok (l : List Int) (i : Int) (hl : l.length ≤ 1000000000) : PureC Tryd.prog GS 66 [encI (some l), .int .i64 i] (.int .i64 (ixI l i)) := by
  refine pure_of Tryd.checked.mixed GS_closed ?_
  apply call_intro c66_eq r66_eq
  unfold c66 r66
  have hlen : lenM (.sl 1) (encI (some l)) = some (.int .i64 l.length) := len_encS _
  simp [hlen]
  refine loop_up l.length (fun k σ h => σ 0 = encI (some l) ∧ σ 1 = .int .i64 i ∧ σ 7 = .int .i64 l.length ∧ σ 8 = .int .i64 k ∧ ∀ j x, j < k → l[j]? = some x → (x == i) = false) ?_ (by simp)
  rintro k σ h hk ⟨g0, g1, g7, g8, hno⟩
  obtain ⟨σ, rfl⟩ := upds4 g0 g1 g7 g8
  clear g0 g1 g7 g8
  unfold l66_0
  by_cases hkl : k < l.length
  · obtain ⟨x, hx, _⟩ := get_of hkl
    have hia : iaC (.sl 1) (encI (some l)) (.int .i64 k) = some (.rptr (eI x) 0) := by rw [ia_encS]; simp [hx]
    have hwk : IntKind.i64.wrap ((k : Int) + 1) = (k + 1 : Nat) := wrap_i64 (by omega) (by omega)
    simp [hkl, hia, eI]
    by_cases he : i = x
    · simp [he]
      have : l.findIdx? (fun y => y == x) = some k := by
        rw [List.findIdx?_eq_some_iff_getElem]
        obtain ⟨h1, h2⟩ := List.getElem?_eq_some_iff.1 hx
        refine ⟨h1, by rw [h2]; simp, fun j hj => ?_⟩
        have := hno j l[j] hj (List.getElem?_eq_getElem (by omega))
        rw [he] at this
        rw [this]; simp
      unfold ixI; rw [this]
      exact rd_eq rfl rfl
    · simp [he, hkl, hwk]
      intro j y hj hy
      rcases Nat.lt_or_ge j k with h1 | h1
      · have := hno j y h1 hy; simpa using this
      · have : j = k := by omega
        subst this
        rw [hx] at hy; cases hy; exact fun h => he h.symm
  · simp [hkl]
    have : l.findIdx? (fun y => y == i) = none := by
      rw [List.findIdx?_eq_none_iff]
      intro x hx
      obtain ⟨j, hj⟩ := List.mem_iff_getElem?.1 hx
      exact hno j x (by have := (List.getElem?_eq_some_iff.1 hj).1; omega) hj
    unfold ixI; rw [this]
    exact rd_eq rfl rfl
theorem ixI_iff (l : List Int) (i : Int) : 0 ≤ ixI l i ↔ i ∈ l := by
  unfold ixI
  cases h : l.findIdx? (fun y => y == i) with
  | none =>
    rw [List.findIdx?_eq_none_iff] at h
    constructor
    · intro h1; simp at h1
    · intro hm; have := h i hm; simp at this
  | some k =>
    obtain ⟨h1, h2, _⟩ := List.findIdx?_eq_some_iff_getElem.1 h
    simp at h2
    refine ⟨fun _ => by rw [← h2]; exact List.getElem_mem h1, fun _ => by simp⟩
theorem containsI_ok (l : List Int) (i : Int) (hl : l.length ≤ 1000000000) : PureC Tryd.prog GS 48 [encI (some l), .int .i64 i] (.bool (decide (i ∈ l))) := by
  refine pure_of Tryd.checked.mixed GS_closed ?_
  apply call_intro c48_eq r48_eq
  unfold c48 r48
  simp
  refine pure_call (indexI_ok l i hl) (by simp [closedL, CV.closed, closed_encS closed_eI]) ?_
  have := ixI_iff l i
  simp
  refine rd_bool ?_
  by_cases h : i ∈ l
  · simp [h, this.2 h]
  · have : ¬ 0 ≤ ixI l i := fun h' => h (this.1 h')
    simp [h, this]

/-- Whether a cell of a sketch is pure. -/
def pureB (n : Nat) (c : Cell) (i : Nat) : Bool := decide (c.count = 1 ∨ c.count = -1) && decide (i ∈ placesL n c.sum) && decide (word c.sum = c.check)
def pureS (s : Sketch) (i : Int) : Bool × Int :=
  if chk s = 0 then match (if 0 ≤ i then s.l[i.toNat]? else none) with
    | none => (false, 2)
    | some c => (pureB s.l.length c i.toNat, 0)
  else (false, chk s)
theorem row_parts (c : Cell) (hc : c.sum.length = 32) (C : List CV) (hC : C = encCell c) : C.length = 34 ∧ C[0]? = some (.int .i64 c.count) ∧ (C.drop 1).take 32 = c.sum.map e8 ∧ C[33]? = some (e64 c.check) := by
  subst hC
  obtain ⟨o1, _, o3, _, o5, _⟩ := row_ops0 (c.sum.map e8) (.int .i64 c.count) (e64 c.check) (by simp [hc])
  exact ⟨cell_len hc, o1, o3, o5⟩
theorem pureB_f1 {n : Nat} {c : Cell} {i : Nat} (h1 : c.count ≠ 1) (h2 : c.count ≠ -1) : pureB n c i = false := by unfold pureB; simp [h1, h2]
theorem pureS_some {s : Sketch} {k : Nat} {c : Cell} (h : chk s = 0) (hc : s.l[k]? = some c) : pureS s (k : Int) = (pureB s.l.length c k, 0) := by
  have h0 : (0 : Int) ≤ k := by omega
  unfold pureS
  rw [if_pos h, if_pos h0]
  simp only [Int.toNat_natCast, hc]
theorem pureS_out {s : Sketch} {i : Int} (h : chk s = 0) (hi : i < 0 ∨ s.l.length ≤ i) : pureS s i = (false, 2) := by
  unfold pureS
  rw [if_pos h]
  by_cases h0 : 0 ≤ i
  · rw [if_pos h0, List.getElem?_eq_none (by omega)]
  · rw [if_neg h0]
theorem pureS_bad {s : Sketch} {i : Int} (h : chk s = 8) : pureS s i = (false, 8) := by
  unfold pureS
  rw [if_neg (by rw [h]; simp), h]
set_option maxHeartbeats 4000000 in
theorem sketchPure_ok (s : Sketch) (i : Int) (ho : okSk s) (hl : s.l.length ≤ 1000000000) :
    PureC Tryd.prog GS 20 [encSk s, .int .i64 i] (.tu [.bool (pureS s i).1, .int .i64 (pureS s i).2]) := by
  refine pure_of Tryd.checked.mixed GS_closed ?_
  apply call_intro c20_eq r20_eq
  unfold c20 r20
  have hlen : lenM (.sl 34) (encSk s) = some (.int .i64 s.l.length) := len_encS _
  simp
  refine pure_call (check_ok s ho hl) (by simp [closedL, closed_sk]) ?_
  rcases chk_8 s with h0 | h0
  · obtain ⟨hsz, hin⟩ := chk_0 h0
    by_cases h1 : i < 0
    · rw [pureS_out h0 (.inl h1)]
      have h1' : ¬ 0 ≤ i := by omega
      simp [h0, hlen, h1, h1']
      exact rd_tu2 (.same _ rfl) (.same _ rfl)
    · obtain ⟨k, rfl⟩ := Int.eq_ofNat_of_zero_le (show 0 ≤ i by omega)
      by_cases h2 : k < s.l.length
      · obtain ⟨c, hc, hcm⟩ := get_of h2
        rw [pureS_some h0 hc]
        have hcl := ho c hcm
        obtain ⟨N, hN, h3, h48, hm⟩ := sized_nat hsz
        have hN' : s.l.length = N := by omega
        have hia : iaC (.sl 34) (encSk s) (.int .i64 k) = some (.rptr (encCell c) 0) := by unfold encSk; rw [ia_encS]; simp [hc]
        obtain ⟨C, hC⟩ : ∃ C, C = encCell c := ⟨_, rfl⟩
        obtain ⟨p1, p2, p3, p4⟩ := row_parts c hcl C hC
        have hpl := places_ok s.l.length c.sum hcl
        rw [hsz, hN'] at hpl
        simp only [Int.toNat_natCast] at hpl
        have hwd := word_ok c.sum hcl
        have hI := closed_id c.sum
        unfold idC at hpl hwd hI
        obtain ⟨I, hId⟩ : ∃ I, I = c.sum.map e8 := ⟨_, rfl⟩
        have hIl : I.length = 32 := by rw [hId, List.length_map, hcl]
        rw [← hId] at hpl hwd hI p3
        rw [← hC] at hia
        rw [List.drop_one] at p3
        have hs34 : splice (CV.int IntKind.i64 0 :: (rep 32 (CV.int IntKind.u8 0) ++ [CV.int IntKind.u64 0])) 0 C = C := splice_full (by rw [p1]; rfl)
        obtain ⟨_, q2⟩ := List.getElem?_eq_some_iff.1 p2
        obtain ⟨_, q4⟩ := List.getElem?_eq_some_iff.1 p4
        rw [hN'] at hlen h2
        have h2n : ¬ N ≤ k := by omega
        by_cases hcnt : c.count = 1 ∨ c.count = -1
        · have hpb : pureB N c k = (decide (k ∈ placesL N c.sum) && decide (word c.sum = c.check)) := by unfold pureB; simp [hcnt]
          rcases hcnt with h5 | h5
          all_goals
            simp [h0, hN', hlen, h1, h2, h2n, hc, hpb, hia, p1, List.take_of_length_le, hs34, q2, h5, p3]
            refine pure_call hpl (by simp [closedL, CV.closed] at hI ⊢; exact hI) ?_
            have hs := slice_arr_all (n := 3) (b := 1) (by omega)
            have hci := containsI_ok [(place N c.sum 0 : Int), (place N c.sum 1 : Int), (place N c.sum 2 : Int)] (k : Int) (by simp)
            simp [placesC, hs]
            refine pure_callB hci ?_ rfl ?_
            · refine .cons (OwnS.rdH_enc (j := 1) (xs := [(place N c.sum 0 : Int), (place N c.sum 1 : Int), (place N c.sum 2 : Int)]) ?_ closed_eI (some _) rfl rfl) (.cons (.same _ rfl) .nil)
              refine .sl 1 3 3 3 _ _ rfl rfl rfl (fun e he => ?_) (Nat.le_refl _) (by omega) rfl
              obtain ⟨x, _, rfl⟩ := List.mem_map.1 he; rfl
            · have hmem : (k : Int) ∈ [(place N c.sum 0 : Int), (place N c.sum 1 : Int), (place N c.sum 2 : Int)] ↔ k ∈ placesL N c.sum := by unfold placesL; simp; omega
              by_cases hm : k ∈ placesL N c.sum
              · simp [hmem, hm, p1, p3]
                refine pure_call hwd (by simp [closedL, hI]) ?_
                simp [p4]
                exact rd_tu2 (rd_bool (by rw [hN', hpb]; simp [hm])) (.same _ rfl)
              · simp [hmem, hm]
                exact rd_tu2 (rd_bool (by rw [hN', hpb]; simp [hm])) (.same _ rfl)
        · have h5 : c.count ≠ 1 := fun h => hcnt (.inl h)
          have h6 : c.count ≠ -1 := fun h => hcnt (.inr h)
          simp [h0, hN', hlen, h1, h2, h2n, hc, pureB_f1 h5 h6, hia, p1, List.take_of_length_le, hs34, q2, h5, h6]
          exact rd_tu2 (.same _ rfl) (.same _ rfl)
      · have h2' : s.l.length ≤ k := by omega
        rw [pureS_out h0 (.inr (by omega))]
        simp [h0, hlen, h1, h2, h2']
        exact rd_tu2 (.same _ rfl) (.same _ rfl)
  · rw [pureS_bad h0]
    simp [h0]
    exact rd_tu2 (.same _ rfl) (.same _ rfl)
end Sk
end Go.CM

/-
  Sketches: SketchTells, walked.
-/
namespace Go.CM
open Go Go.Proofs
set_option linter.unusedVariables false
set_option linter.unusedSimpArgs false
set_option maxRecDepth 100000
namespace Sk
open Sha

theorem eq_three {a b : List Int} (ha : a.length = 3) (hb : b.length = 3) : binC Tryd.prog .eql 31 (.ag (a.map (CV.int .i64))) (.ag (b.map (CV.int .i64))) = some (.bool (decide (a = b))) :=
  bin_eql_of (by kernel_rfl) (eq_ints (P := Tryd.prog) (t := 31) (e := 3) (k := .i64) (n := 3) (by kernel_rfl) (by kernel_rfl) (by kernel_rfl) (by kernel_rfl) ha hb (D := 9998))
end Sk
end Go.CM

/-
  Contracts for calls that are carried out: bytes, ids, SHA-256.
-/
namespace Go.CM
open Go Go.Proofs
set_option linter.unusedVariables false
set_option linter.unusedSimpArgs false
set_option maxRecDepth 100000
open Sha

def bOf : CV → Option B
  | .int .u8 (.ofNat n) => match Nat.ble n 255 with | true => some (BitVec.ofNat 8 n) | false => none
  | _ => none
theorem bOf_ok {c : CV} {b : B} (h : bOf c = some b) : c = e8 b := by
  unfold bOf at h
  split at h
  · split at h
    · rename_i n _ hn
      have := Nat.le_of_ble_eq_true hn
      cases h
      simp only [e8, u, BitVec.toNat_ofNat]
      congr 1
      show (n : Int) = ((n % 2 ^ 8 : Nat) : Int)
      rw [Nat.mod_eq_of_lt (show n < 2 ^ 8 by omega)]
    · cases h
  · cases h
def bsOf : List CV → Option (List B)
  | [] => some []
  | c :: r => match bOf c with
    | some b => match bsOf r with | some l => some (b :: l) | none => none
    | none => none
theorem bsOf_ok : ∀ {cs : List CV} {l : List B}, bsOf cs = some l → cs = l.map e8
  | [], l, h => by cases h; rfl
  | c :: r, l, h => by
    unfold bsOf at h
    split at h
    · rename_i b hb
      split at h
      · rename_i l' hl
        cases h
        rw [bOf_ok hb, bsOf_ok hl]; rfl
      · cases h
    · cases h
def idOf : CV → Option (List B)
  | .ag cs => match bsOf cs with | some l => (match Nat.beq l.length 32 with | true => some l | false => none) | none => none
  | _ => none
theorem idOf_ok {c : CV} {l : List B} (h : idOf c = some l) : c = idC l ∧ l.length = 32 := by
  unfold idOf at h
  split at h
  · split at h
    · rename_i l' hl
      split at h
      · rename_i hn
        cases h
        exact ⟨by rw [bsOf_ok hl]; rfl, Nat.eq_of_beq_eq_true hn⟩
      · cases h
    · cases h
  · cases h
end Go.CM

/-
  Bytes in a row, compared: cmp.Compare, slices.Compare, walked; the order of ids.
-/
namespace Go.CM
open Go Go.Proofs Go.Sort Go.Shelf
set_option linter.unusedVariables false
set_option linter.unusedSimpArgs false
set_option maxRecDepth 100000
open Sha

def cmpB : List B → List B → Int
  | [], [] => 0
  | [], _ :: _ => -1
  | _ :: _, [] => 1
  | a :: ra, b :: rb => if a.toNat < b.toNat then -1 else if b.toNat < a.toNat then 1 else cmpB ra rb
theorem cmpB_cons (a b : B) (ra rb : List B) : cmpB (a :: ra) (b :: rb) = if a.toNat < b.toNat then -1 else if b.toNat < a.toNat then 1 else cmpB ra rb := rfl
theorem cmpB_self : ∀ a : List B, cmpB a a = 0
  | [] => rfl
  | a :: ra => by unfold cmpB; simp; exact cmpB_self ra
theorem cmpB_eq : ∀ {a b : List B}, cmpB a b = 0 → a = b
  | [], [], _ => rfl
  | [], _ :: _, h => by simp [cmpB] at h
  | _ :: _, [], h => by simp [cmpB] at h
  | a :: ra, b :: rb, h => by
    unfold cmpB at h
    split at h
    · cases h
    · split at h
      · cases h
      · have h1 : a = b := BitVec.eq_of_toNat_eq (by omega)
        rw [h1, cmpB_eq h]
theorem cmpB_swap : ∀ a b : List B, cmpB b a = - cmpB a b
  | [], [] => rfl
  | [], _ :: _ => rfl
  | _ :: _, [] => rfl
  | a :: ra, b :: rb => by
    unfold cmpB
    by_cases h1 : a.toNat < b.toNat
    · simp [h1, show ¬ b.toNat < a.toNat by omega]
    · by_cases h2 : b.toNat < a.toNat
      · simp [h1, h2]
      · simp [h1, h2]; exact cmpB_swap ra rb
theorem cmpB_cases : ∀ a b : List B, cmpB a b = -1 ∨ cmpB a b = 0 ∨ cmpB a b = 1
  | [], [] => by simp [cmpB]
  | [], _ :: _ => by simp [cmpB]
  | _ :: _, [] => by simp [cmpB]
  | a :: ra, b :: rb => by
    unfold cmpB
    split
    · simp
    · split
      · simp
      · exact cmpB_cases ra rb
theorem cmpB_trans : ∀ a b c : List B, cmpB a b < 0 → cmpB b c < 0 → cmpB a c < 0
  | [], [], _, h, _ => by simp [cmpB] at h
  | [], _ :: _, [], _, h => by simp [cmpB] at h
  | [], _ :: _, _ :: _, _, _ => by simp [cmpB]
  | _ :: _, [], _, h, _ => by simp [cmpB] at h
  | _ :: _, _ :: _, [], _, h => by simp [cmpB] at h
  | a :: ra, b :: rb, c :: rc, h1, h2 => by
    unfold cmpB at h1 h2 ⊢
    have ih := cmpB_trans ra rb rc
    repeat' split at h1
    all_goals repeat' split at h2
    all_goals repeat' split
    all_goals first | omega | (exact ih h1 h2) | (exfalso; omega) | skip
def ltB (a b : List B) : Bool := ltOf cmpB a b
theorem swo_cmpB : SWO (ltOf cmpB) where
  irrefl x := by unfold ltOf; rw [cmpB_self]; rfl
  trans x y z h1 h2 := by
    unfold ltOf at *
    simp only [decide_eq_true_eq] at *
    exact cmpB_trans x y z h1 h2
  ntrans x y z h1 h2 := by
    unfold ltOf at *
    simp only [decide_eq_false_iff_not] at *
    intro h3
    have e1 := cmpB_swap x y
    have e2 := cmpB_swap y z
    rcases cmpB_cases x y with h | h | h
    · omega
    · have := cmpB_eq h; subst this; omega
    · rcases cmpB_cases y z with h' | h' | h'
      · omega
      · have := cmpB_eq h'; subst this; omega
      · have := cmpB_trans z y x (by omega) (by omega)
        have e3 := cmpB_swap x z
        omega
theorem anti_cmpB (x y : List B) (h1 : ltOf cmpB x y = false) (h2 : ltOf cmpB y x = false) : x = y := by
  unfold ltOf at *
  simp only [decide_eq_false_iff_not] at *
  have e := cmpB_swap x y
  exact cmpB_eq (by omega)

theorem isNaN_ok (x : B) : PureC Tryd.prog GS 103 [e8 x] (.bool false) := by
  refine pure_of Tryd.checked.mixed GS_closed ?_
  apply call_intro c103_eq r103_eq
  unfold c103 r103
  simp [e8]
  exact rd_eq rfl rfl
theorem cmp1_ok (x y : B) : PureC Tryd.prog GS 91 [e8 x, e8 y] (.int .i64 (if x.toNat < y.toNat then -1 else if y.toNat < x.toNat then 1 else 0)) := by
  refine pure_of Tryd.checked.mixed GS_closed ?_
  apply call_intro c91_eq r91_eq
  unfold c91 r91
  simp
  refine pure_call (isNaN_ok x) rfl ?_
  simp
  refine pure_call (isNaN_ok y) rfl ?_
  by_cases h1 : x.toNat < y.toNat
  · simp [h1, e8, u]
    exact rd_eq rfl rfl
  · by_cases h2 : y.toNat < x.toNat
    · simp [h1, h2, e8, u]
      exact rd_eq rfl rfl
    · simp [h1, h2, e8, u]
      exact rd_eq rfl rfl
theorem cmpB_drop {a b : List B} (k : Nat) (h : ∀ j, j < k → a[j]? = b[j]?) (ha : k ≤ a.length) (hb : k ≤ b.length) : cmpB (a.drop k) (b.drop k) = cmpB a b := by
  induction k with
  | zero => simp
  | succ k ih =>
    rw [← ih (fun j hj => h j (by omega)) (by omega) (by omega)]
    have h1 := h k (by omega)
    rw [List.drop_eq_getElem_cons (l := a) (i := k) (by omega), List.drop_eq_getElem_cons (l := b) (i := k) (by omega)]
    rw [List.getElem?_eq_getElem (by omega), List.getElem?_eq_getElem (by omega)] at h1
    have h2 := Option.some.inj h1
    conv => rhs; unfold cmpB
    rw [h2]
    simp
theorem compare_ok (a b : Bs) (ha : a.l.length ≤ 1000000000) (hb : b.l.length = a.l.length) : PureC Tryd.prog GS 74 [encBs a, encBs b] (.int .i64 (cmpB a.l b.l)) := by
  refine pure_of Tryd.checked.mixed GS_closed ?_
  apply call_intro c74_eq r74_eq
  unfold c74 r74
  have hlen : lenM (.sl 1) (encBs a) = some (.int .i64 a.l.length) := len_encS _
  have hlen2 : lenM (.sl 1) (encBs b) = some (.int .i64 b.l.length) := len_encS _
  simp [hlen]
  refine loop_up a.l.length (fun k σ l => σ 0 = encBs a ∧ σ 1 = encBs b ∧ σ 9 = encBs a ∧ σ 10 = .int .i64 a.l.length ∧ σ 11 = .int .i64 k ∧ ∀ j, j < k → a.l[j]? = b.l[j]?) ?_ (by simp)
  rintro k σ l hk ⟨g0, g1, g9, g10, g11, hs⟩
  obtain ⟨σ, rfl⟩ := upds5 g0 g1 g9 g10 g11
  clear g0 g1 g9 g10 g11
  unfold l74_0
  by_cases h : k < a.l.length
  · obtain ⟨x, hx, _⟩ := get_of h
    obtain ⟨y, hy, _⟩ := get_of (l := b.l) (k := k) (by omega)
    have hia : iaC (.sl 1) (encBs a) (.int .i64 k) = some (.rptr (enc8 x) 0) := by rw [ia_encS]; simp [hx]
    have hib : iaC (.sl 1) (encBs b) (.int .i64 k) = some (.rptr (enc8 y) 0) := by rw [ia_encS]; simp [hy]
    have hwk : IntKind.i64.wrap ((k : Int) + 1) = (k + 1 : Nat) := wrap_i64 (by omega) (by omega)
    have hnk : ¬ (b.l.length ≤ k) := by omega
    have hc := cmp1_ok x y
    have hd := cmpB_drop (a := a.l) (b := b.l) k hs (by omega) (by omega)
    rw [List.drop_eq_getElem_cons (l := a.l) (i := k) (by omega), List.drop_eq_getElem_cons (l := b.l) (i := k) (by omega), (List.getElem?_eq_some_iff.1 hx).2, (List.getElem?_eq_some_iff.1 hy).2] at hd
    rw [cmpB_cons] at hd
    simp [h, hia, hib, enc8, hlen2, hnk]
    refine pure_call hc rfl ?_
    by_cases h1 : x.toNat < y.toNat
    · rw [if_pos h1] at hd
      simp [h1]
      exact rd_eq (by rw [← hd]) rfl
    · by_cases h2 : y.toNat < x.toNat
      · rw [if_neg h1, if_pos h2] at hd
        simp [h1, h2]
        exact rd_eq (by rw [← hd]) rfl
      · have hxy : x = y := BitVec.eq_of_toNat_eq (by omega)
        simp [h1, h2, h, hwk]
        intro j hj
        by_cases hjk : j = k
        · subst hjk; rw [hx, hy, hxy]
        · exact hs j (by omega)
  · have hk' : k = a.l.length := by omega
    subst hk'
    have hab : a.l = b.l := by
      apply List.ext_getElem?
      intro j
      by_cases hj : j < a.l.length
      · exact hs j hj
      · rw [List.getElem?_eq_none (by omega), List.getElem?_eq_none (by omega)]
    simp [hlen, hlen2, hb]
    exact rd_eq (by rw [hab, cmpB_self]) rfl
end Go.CM

/-
  The sort of Go's library, laid at this translation (printed by program).
-/
namespace Go.Proofs
open Go.Shelf
set_option maxRecDepth 100000
def Tryd.sortL_ren : Go.Shelf.Ren := ⟨fun | 6 => 59 | 15 => 73 | 14 => 72 | 28 => 89 | 29 => 90 | 20 => 81 | 21 => 82 | 22 => 83 | 23 => 84 | 24 => 85 | 25 => 86 | 26 => 87 | 27 => 88 | 46 => 98 | 47 => 99 | 48 => 100 | 49 => 101 | 50 => 102 | 57 => 107 | n => n, fun | 22 => 50 | 24 => 24 | 25 => 94 | 3 => 3 | 39 => 74 | 0 => 0 | 53 => 105 | 55 => 36 | 4 => 4 | 46 => 122 | 45 => 121 | 50 => 126 | 5 => 5 | 9 => 9 | 66 => 139 | 70 => 143 | 76 => 150 | 77 => 151 | n => n, fun | n => n⟩
theorem Tryd.sortL : Go.Proofs.SlLaysF0.n6 Tryd.prog Tryd.sortL_ren where
  mixed := by kernel_rfl
  f6 := ⟨"slices.SortFunc[[]braid/api.ID,braid/api.ID]", by decide, Tryd.func59.trans (congrArg some (by kernel_rfl))⟩
  f14 := ⟨"slices.pdqsortCmpFunc[braid/api.ID]", by decide, Tryd.func72.trans (congrArg some (by kernel_rfl))⟩
  f15 := Tryd.func73.trans (congrArg some (by kernel_rfl))
  f20 := ⟨"slices.insertionSortCmpFunc[braid/api.ID]", by decide, Tryd.func81.trans (congrArg some (by kernel_rfl))⟩
  f21 := ⟨"slices.heapSortCmpFunc[braid/api.ID]", by decide, Tryd.func82.trans (congrArg some (by kernel_rfl))⟩
  f22 := ⟨"slices.breakPatternsCmpFunc[braid/api.ID]", by decide, Tryd.func83.trans (congrArg some (by kernel_rfl))⟩
  f23 := ⟨"slices.choosePivotCmpFunc[braid/api.ID]", by decide, Tryd.func84.trans (congrArg some (by kernel_rfl))⟩
  f24 := ⟨"slices.reverseRangeCmpFunc[braid/api.ID]", by decide, Tryd.func85.trans (congrArg some (by kernel_rfl))⟩
  f25 := ⟨"slices.partialInsertionSortCmpFunc[braid/api.ID]", by decide, Tryd.func86.trans (congrArg some (by kernel_rfl))⟩
  f26 := ⟨"slices.partitionEqualCmpFunc[braid/api.ID]", by decide, Tryd.func87.trans (congrArg some (by kernel_rfl))⟩
  f27 := ⟨"slices.partitionCmpFunc[braid/api.ID]", by decide, Tryd.func88.trans (congrArg some (by kernel_rfl))⟩
  f28 := Tryd.func89.trans (congrArg some (by kernel_rfl))
  f29 := Tryd.func90.trans (congrArg some (by kernel_rfl))
  f46 := ⟨"slices.siftDownCmpFunc[braid/api.ID]", by decide, Tryd.func98.trans (congrArg some (by kernel_rfl))⟩
  f47 := Tryd.func99.trans (congrArg some (by kernel_rfl))
  f48 := Tryd.func100.trans (congrArg some (by kernel_rfl))
  f49 := ⟨"slices.medianAdjacentCmpFunc[braid/api.ID]", by decide, Tryd.func101.trans (congrArg some (by kernel_rfl))⟩
  f50 := ⟨"slices.medianCmpFunc[braid/api.ID]", by decide, Tryd.func102.trans (congrArg some (by kernel_rfl))⟩
  f57 := ⟨"slices.order2CmpFunc[braid/api.ID]", by decide, Tryd.func107.trans (congrArg some (by kernel_rfl))⟩
  t0 := Tryd.underlying0
  a0 := Tryd.isAgg0
  z0 := Tryd.sizeOf0
  v0 := Tryd.zeroValue0
  t3 := Tryd.underlying3
  a3 := Tryd.isAgg3
  z3 := Tryd.sizeOf3
  v3 := Tryd.zeroValue3
  t4 := Tryd.underlying4
  a4 := Tryd.isAgg4
  z4 := Tryd.sizeOf4
  v4 := Tryd.zeroValue4
  t5 := Tryd.underlying5
  a5 := Tryd.isAgg5
  z5 := Tryd.sizeOf5
  v5 := Tryd.zeroValue5
  t9 := Tryd.underlying9
  a9 := Tryd.isAgg9
  z9 := Tryd.sizeOf9
  v9 := Tryd.zeroValue9
  t22 := Tryd.underlying50
  a22 := Tryd.isAgg50
  z22 := Tryd.sizeOf50
  v22 := Tryd.zeroValue50
  t25 := Tryd.underlying94
  a25 := Tryd.isAgg94
  z25 := Tryd.sizeOf94
  v25 := Tryd.zeroValue94
  t39 := Tryd.underlying74
  a39 := Tryd.isAgg74
  z39 := Tryd.sizeOf74
  v39 := Tryd.zeroValue74
  t45 := Tryd.underlying121
  a45 := Tryd.isAgg121
  z45 := Tryd.sizeOf121
  v45 := Tryd.zeroValue121
  t46 := Tryd.underlying122
  a46 := Tryd.isAgg122
  z46 := Tryd.sizeOf122
  v46 := Tryd.zeroValue122
  t50 := Tryd.underlying126
  a50 := Tryd.isAgg126
  z50 := Tryd.sizeOf126
  v50 := Tryd.zeroValue126
  t53 := Tryd.underlying105
  a53 := Tryd.isAgg105
  z53 := Tryd.sizeOf105
  v53 := Tryd.zeroValue105
  t55 := Tryd.underlying36
  a55 := Tryd.isAgg36
  z55 := Tryd.sizeOf36
  v55 := Tryd.zeroValue36
  t66 := Tryd.underlying139
  a66 := Tryd.isAgg139
  z66 := Tryd.sizeOf139
  v66 := Tryd.zeroValue139
  t70 := Tryd.underlying143
  a70 := Tryd.isAgg143
  z70 := Tryd.sizeOf143
  v70 := Tryd.zeroValue143
  t76 := Tryd.underlying150
  a76 := Tryd.isAgg150
  z76 := Tryd.sizeOf150
  v76 := Tryd.zeroValue150
  t77 := Tryd.underlying151
  a77 := Tryd.isAgg151
  z77 := Tryd.sizeOf151
  v77 := Tryd.zeroValue151
end Go.Proofs
