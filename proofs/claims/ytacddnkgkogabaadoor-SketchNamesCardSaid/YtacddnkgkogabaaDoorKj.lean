/-
  Sketches: New, Check, walked.
-/
import Derived.Test.YtacddnkgkogabaaDoorKi
import Derived.ProofKit
namespace Go.CM
open Go Go.Proofs
set_option linter.unusedVariables false
set_option linter.unusedSimpArgs false
set_option maxRecDepth 100000
namespace Sk
open Sha

def newS (n : Int) : Sketch × Int := match sizedB n with | true => (some (List.replicate n.toNat zeroCell), 0) | false => (none, 2)
theorem rd_tu2 {l : Hl} {a b a' b' : CV} (h1 : Rd l a a') (h2 : Rd l b b') : Rd l (.tu [a, b]) (.tu [a', b']) := by
  refine rd_tu rfl fun j c c' hc hc' => ?_
  rcases j with _ | _ | j
  · simp at hc hc'; subst hc hc'; exact h1
  · simp at hc hc'; subst hc hc'; exact h2
  · simp at hc
theorem mks_nat {z by_ n : Nat} {k k' : IntKind} {zero : List CV} {l : Hl} (h1 : n < 9223372036854775808) (h2 : by_ * n ≤ roomMax) : mksC z by_ zero l (.int k (n : Int)) (.int k' (n : Int)) = some (.sl z l.length 0 n n (n * z), l ++ [.cells (n * z) (repeatC zero n)]) := by
  have h3 : ((by_ : Int) * (n : Int)) ≤ (roomMax : Int) := by rw [← Int.natCast_mul]; omega
  simp only [mksC, Int.toNat_natCast]
  rw [if_pos ⟨by omega, by omega, by omega, h3⟩]
theorem rd_new {l : Hl} {j n : Nat} {zero : List CV} (hzero : zero = encCell zeroCell) (h : l[j]? = some (.cells (n * 34) (repeatC zero n))) : Rd l (.sl 34 j 0 n n (n * 34)) (encSk (some (List.replicate n zeroCell))) := by
  refine OwnQ.rd_enc (j := j) (xs := List.replicate n zeroCell) ?_ closed_cell (some _) rfl rfl
  rw [hzero] at h
  have hz : (encCell zeroCell).length = 34 := rfl
  refine .sl j 0 n n _ _ _ h (by rw [repeatC_len', hz]) (by simp) (fun e he => ?_) (Nat.le_refl _) (by omega) ?_
  · obtain ⟨c, hc, rfl⟩ := List.mem_map.1 he
    rw [(List.mem_replicate.1 hc).2]; rfl
  · rw [List.drop_zero, repeatC_flat, List.map_replicate, List.take_of_length_le]
    rw [← repeatC_flat, repeatC_len', hz]; exact Nat.le_refl _
theorem new_ok (n : Int) : PureC Tryd.prog GS 11 [.int .i64 n] (.tu [encSk (newS n).1, .int .i64 (newS n).2]) := by
  refine pure_of Tryd.checked.mixed GS_closed ?_
  apply call_intro c11_eq r11_eq
  unfold c11 r11 newS
  simp
  refine pure_call (sized_ok n) rfl ?_
  cases hsz : sizedB n with
  | false =>
    simp
    exact rd_eq rfl rfl
  | true =>
    obtain ⟨N, rfl, h3, h48, hm⟩ := sized_nat hsz
    have hm := fun z => mks_nat (z := 34) (by_ := 48) (n := N) (k := .i64) (k' := .i64) (zero := z) (l := []) (by omega) (by rw [show roomMax = 140737488355328 from rfl]; omega)
    simp [hm]
    exact rd_tu2 (rd_new (by rfl) rfl) (.same _ rfl)
theorem refNew_ok (n : Int) : PureC Tryd.prog GS 12 [.int .i64 n] (.tu [encSk (newS n).1, .int .i64 (newS n).2]) := by
  refine pure_of Tryd.checked.mixed GS_closed ?_
  apply call_intro c12_eq r12_eq
  unfold c12 r12 newS
  simp
  refine pure_call (refSize_ok n) rfl ?_
  cases hsz : sizedB n with
  | false =>
    simp
    exact rd_eq rfl rfl
  | true =>
    obtain ⟨N, rfl, h3, h48, hm⟩ := sized_nat hsz
    have hm := fun z => mks_nat (z := 34) (by_ := 48) (n := N) (k := .i64) (k' := .i64) (zero := z) (l := []) (by omega) (by rw [show roomMax = 140737488355328 from rfl]; omega)
    simp [hm]
    exact rd_tu2 (rd_new (by rfl) rfl) (.same _ rfl)

def inR (c : Cell) : Bool := rangedB c.count
def chk (s : Sketch) : Int := if sizedB s.l.length = true ∧ s.l.all inR = true then 0 else 8
theorem chk_8 (s : Sketch) : chk s = 0 ∨ chk s = 8 := by unfold chk; split <;> simp
def bad (c : Cell) : Bool := !inR c
theorem check1_ok (c : Cell) : PureC Tryd.prog GS 51 [.ag (encCell c)] (.bool (bad c)) := by
  refine pure_of Tryd.checked.mixed GS_closed ?_
  apply call_intro c51_eq r51_eq
  unfold c51 r51
  have h0 : (encCell c)[0]? = some (.int .i64 c.count) := rfl
  obtain ⟨A, hA⟩ : ∃ A, A = encCell c := ⟨_, rfl⟩
  rw [← hA] at h0 ⊢
  simp [h0]
  refine pure_call (ranged_ok c.count) rfl ?_
  simp
  exact rd_bool rfl
theorem fn_check1 : funOkB Tryd.prog 51 = true := by kernel_rfl
def idx (l : List Cell) : Int := match l.findIdx? bad with | some i => (i : Int) | none => -1
theorem idx_some {l : List Cell} {k : Nat} {s : Cell} (hs : l[k]? = some s) (hl : bad s = true) (hno : ∀ j s, j < k → l[j]? = some s → bad s = false) : idx l = k := by
  have : l.findIdx? bad = some k := by
    rw [List.findIdx?_eq_some_iff_getElem]
    obtain ⟨h1, rfl⟩ := List.getElem?_eq_some_iff.1 hs
    refine ⟨h1, hl, fun j hj => ?_⟩
    rw [hno j l[j] hj (List.getElem?_eq_getElem (by omega))]; simp
  unfold idx; rw [this]
theorem idx_none {l : List Cell} (hno : ∀ j s, j < l.length → l[j]? = some s → bad s = false) : idx l = -1 := by
  have : l.findIdx? bad = none := by
    rw [List.findIdx?_eq_none_iff]
    intro x hx
    obtain ⟨j, hj⟩ := List.mem_iff_getElem?.1 hx
    exact hno j x (List.getElem?_eq_some_iff.1 hj).1 hj
  unfold idx; rw [this]
theorem idx_iff (l : List Cell) : 0 ≤ idx l ↔ l.all inR = false := by
  unfold idx
  cases h : l.findIdx? bad with
  | none =>
    rw [List.findIdx?_eq_none_iff] at h
    simp only [List.all_eq_false]
    constructor
    · intro h1; omega
    · rintro ⟨x, hx, hb⟩
      have := h x hx
      unfold bad at this
      cases hi : inR x <;> simp_all
  | some i =>
    obtain ⟨h1, h2, _⟩ := List.findIdx?_eq_some_iff_getElem.1 h
    simp only [List.all_eq_false]
    refine ⟨fun _ => ⟨l[i], List.getElem_mem h1, ?_⟩, fun _ => by omega⟩
    unfold bad at h2
    cases hi : inR l[i] <;> simp_all
theorem index_ok (s : Sketch) (ho : okSk s) (hl : s.l.length ≤ 1000000000) : PureC Tryd.prog GS 67 [encSk s, .fn 51 [] []] (.int .i64 (idx s.l)) := by
  refine pure_of Tryd.checked.mixed GS_closed ?_
  apply call_intro c67_eq r67_eq
  unfold c67 r67
  have hlen : lenM (.sl 34) (encSk s) = some (.int .i64 s.l.length) := len_encS _
  simp [hlen]
  refine loop_up s.l.length (fun k σ l => σ 0 = encSk s ∧ σ 1 = .fn 51 [] [] ∧ σ 7 = .int .i64 s.l.length ∧ σ 8 = .int .i64 k ∧ ∀ j c, j < k → s.l[j]? = some c → bad c = false) ?_ (by simp)
  rintro k σ l hk ⟨g0, g1, g7, g8, hno⟩
  obtain ⟨σ, rfl⟩ := upds4 g0 g1 g7 g8
  clear g0 g1 g7 g8
  unfold l67_0
  by_cases h : k < s.l.length
  · obtain ⟨c, hc, hcm⟩ := get_of h
    have hia : iaC (.sl 34) (encSk s) (.int .i64 k) = some (.rptr (encCell c) 0) := by unfold encSk; rw [ia_encS]; simp [hc]
    have hwk : IntKind.i64.wrap ((k : Int) + 1) = k + 1 := wrap_i64 (by omega) (by omega)
    have hcl := cell_len (ho c hcm)
    simp [h, hia, hcl, List.take_of_length_le]
    refine ⟨fn_check1, pure_call (check1_ok c) (by simp [closedL, CV.closed, closed_cell]) ?_⟩
    cases hls : bad c with
    | true =>
      simp
      rw [idx_some hc hls hno]
      exact rd_eq rfl rfl
    | false =>
      simp [h, hwk]
      intro j s' hj hs'
      rcases Nat.lt_or_ge j k with h1 | h1
      · exact hno j s' h1 hs'
      · have : j = k := by omega
        subst this
        rw [hc] at hs'; cases hs'; exact hls
  · simp [h]
    rw [idx_none (fun j c hj hs => hno j c (by omega) hs)]
    exact rd_eq rfl rfl
theorem contains_ok (s : Sketch) (ho : okSk s) (hl : s.l.length ≤ 1000000000) : PureC Tryd.prog GS 50 [encSk s, .fn 51 [] []] (.bool (!s.l.all inR)) := by
  refine pure_of Tryd.checked.mixed GS_closed ?_
  apply call_intro c50_eq r50_eq
  unfold c50 r50
  simp
  refine pure_call (index_ok s ho hl) (by simp [closedL, CV.closed, closed_sk]) ?_
  have := idx_iff s.l
  simp
  refine rd_bool ?_
  cases h : s.l.all inR <;> simp_all
theorem check_ok (s : Sketch) (ho : okSk s) (hl : s.l.length ≤ 1000000000) : PureC Tryd.prog GS 22 [encSk s] (.int .i64 (chk s)) := by
  refine pure_of Tryd.checked.mixed GS_closed ?_
  apply call_intro c22_eq r22_eq
  unfold c22 r22
  have hlen : lenM (.sl 34) (encSk s) = some (.int .i64 s.l.length) := len_encS _
  simp [hlen]
  refine pure_call (sized_ok s.l.length) rfl ?_
  unfold chk
  cases h1 : sizedB s.l.length with
  | false =>
    simp
    exact rd_eq rfl rfl
  | true =>
    simp
    refine pure_call (contains_ok s ho hl) (by simp [closedL, CV.closed, closed_sk]) ?_
    cases h2 : s.l.all inR <;> simp [-List.all_eq_true, -List.all_eq_false]
    · exact rd_eq rfl rfl
    · exact rd_eq rfl rfl
theorem inR_iff (c : Cell) : inR c = true ↔ -1000000 ≤ c.count ∧ c.count ≤ 1000000 := by unfold inR rangedB; simp
theorem refCheck_ok (s : Sketch) (ho : okSk s) (hl : s.l.length ≤ 1000000000) : PureC Tryd.prog GS 23 [encSk s] (.int .i64 (chk s)) := by
  refine pure_of Tryd.checked.mixed GS_closed ?_
  apply call_intro c23_eq r23_eq
  unfold c23 r23
  have hlen : lenM (.sl 34) (encSk s) = some (.int .i64 s.l.length) := len_encS _
  simp [hlen]
  refine pure_call (refSize_ok s.l.length) rfl ?_
  unfold chk
  cases h1 : sizedB s.l.length with
  | false =>
    simp
    exact rd_eq rfl rfl
  | true =>
    simp [-List.all_eq_true]
    refine loop_up s.l.length (fun k σ l => σ 0 = encSk s ∧ σ 3 = .int .i64 k ∧ ∀ j c, j < k → s.l[j]? = some c → inR c = true) ?_ (by simp)
    rintro k σ l hk ⟨g0, g3, hall⟩
    obtain ⟨σ, rfl⟩ := upds2 g0 g3
    clear g0 g3
    unfold l23_0
    by_cases h : k < s.l.length
    · obtain ⟨c, hc, hcm⟩ := get_of h
      have hia : iaC (.sl 34) (encSk s) (.int .i64 k) = some (.rptr (encCell c) 0) := by unfold encSk; rw [ia_encS]; simp [hc]
      have hwk : IntKind.i64.wrap ((k : Int) + 1) = k + 1 := wrap_i64 (by omega) (by omega)
      have h0 : (encCell c)[0]? = some (.int .i64 c.count) := rfl
      have hbad : inR c = false → s.l.all inR = false := fun hb => by
        rw [List.all_eq_false]; exact ⟨c, hcm, by simp [hb]⟩
      obtain ⟨A, hA⟩ : ∃ A, A = encCell c := ⟨_, rfl⟩
      rw [← hA] at h0 hia
      by_cases h1 : c.count < -1000000
      · have hb := hbad (by cases hi : inR c with | false => rfl | true => rw [inR_iff] at hi; omega)
        simp [hlen, h, hia, h0, h1, hb, -List.all_eq_true, -List.all_eq_false]
        exact rd_eq rfl rfl
      · by_cases h2 : 1000000 < c.count
        · have hb := hbad (by cases hi : inR c with | false => rfl | true => rw [inR_iff] at hi; omega)
          simp [hlen, h, hia, h0, h1, h2, hb, -List.all_eq_true, -List.all_eq_false]
          exact rd_eq rfl rfl
        · simp [hlen, h, hia, h0, h1, h2, hwk, -List.all_eq_true, -List.all_eq_false]
          intro j c' hj hc'
          rcases Nat.lt_or_ge j k with h3 | h3
          · exact hall j c' h3 hc'
          · have : j = k := by omega
            subst this
            rw [hc] at hc'; cases hc'
            rw [inR_iff]; omega
    · have hg : s.l.all inR = true := by
        rw [List.all_eq_true]
        intro c hc
        obtain ⟨j, hj⟩ := List.mem_iff_getElem?.1 hc
        exact hall j c (by have := (List.getElem?_eq_some_iff.1 hj).1; omega) hj
      simp [hlen, h, hg, -List.all_eq_true]
      exact rd_eq rfl rfl
end Sk
end Go.CM

/-
  Sketches: adding and removing, walked.
-/
namespace Go.CM
open Go Go.Proofs
set_option linter.unusedVariables false
set_option linter.unusedSimpArgs false
set_option maxRecDepth 100000

/-- One row of a slice of one's own, in its block. -/
theorem OwnS.split {z : Nat} {l : Hl} {v : CV} {j : Nat} {es : List (List CV)} (h : OwnS z l v j es) {i : Nat} {e : List CV} (he : es[i]? = some e) :
    ∃ n cap sz A B, v = .sl z j 0 n cap sz ∧ es.length = n ∧ l[j]? = some (.cells sz (A ++ (e ++ B))) ∧ A.length = i * z ∧ i * z + z ≤ sz ∧ (A ++ (e ++ B)).length = sz ∧ ∀ e' l', e'.length = z → l'[j]? = some (.cells sz (A ++ (e' ++ B))) → OwnS z l' v j (es.set i e') := by
  cases h with
  | nil j => simp at he
  | sl j n cap sz cs es hb hl hn hz hc hcap hcs =>
    have hi := (List.getElem?_eq_some_iff.1 he).1
    have hes : es = es.take i ++ (e :: es.drop (i + 1)) := by
      have : es.drop i = e :: es.drop (i + 1) := by rw [List.drop_eq_getElem_cons hi]; congr 1; exact (List.getElem?_eq_some_iff.1 he).2
      rw [← this, List.take_append_drop]
    have hfl : es.flatten = (es.take i).flatten ++ (e ++ (es.drop (i + 1)).flatten) := by
      conv => lhs; rw [hes]
      simp
    have hA : (es.take i).flatten.length = i * z := by
      rw [flatten_len (z := z) (fun x hx => hz x (List.mem_of_mem_take hx)), List.length_take]
      congr 1; omega
    have hez := hz e (List.mem_of_getElem? he)
    have hcs2 : cs = (es.take i).flatten ++ (e ++ ((es.drop (i + 1)).flatten ++ cs.drop (n * z))) := by
      conv => lhs; rw [← List.take_append_drop (n * z) cs, hcs, hfl]
      simp
    have hm : i * z + z ≤ n * z := by rw [← hn, ← Nat.succ_mul]; exact Nat.mul_le_mul_right _ hi
    have hm2 : n * z ≤ cap * z := Nat.mul_le_mul_right _ hc
    refine ⟨n, cap, sz, _, _, rfl, hn, by rw [← hcs2]; exact hb, hA, by omega, by rw [← hcs2]; exact hl, fun e' l' he' hl' => ?_⟩
    have hset : es.set i e' = es.take i ++ (e' :: es.drop (i + 1)) := by
      rw [List.set_eq_take_append_cons_drop, if_pos hi]
    have hflen : (es.set i e').flatten = (es.take i).flatten ++ (e' ++ (es.drop (i + 1)).flatten) := by rw [hset]; simp
    have hl2 : (es.drop (i + 1)).flatten.length = (n - (i + 1)) * z := by
      rw [flatten_len (z := z) (fun x hx => hz x (List.mem_of_mem_drop hx)), List.length_drop, hn]
    have hmm : (n - (i + 1)) * z + (i * z + z) = n * z := by
      rw [← Nat.succ_mul, ← Nat.add_mul]; congr 1; omega
    refine .sl j n cap sz _ _ hl' ?_ (by simpa using hn) (fun x hx => ?_) hc hcap ?_
    · have := congrArg List.length hcs2
      simp only [List.length_append] at this ⊢
      omega
    · rcases List.mem_or_eq_of_mem_set hx with h | h
      · exact hz x h
      · rw [h]; exact he'
    · rw [hflen]
      have : (List.take i es).flatten ++ (e' ++ ((List.drop (i + 1) es).flatten ++ List.drop (n * z) cs)) = ((List.take i es).flatten ++ (e' ++ (List.drop (i + 1) es).flatten)) ++ List.drop (n * z) cs := by simp
      rw [this, List.take_append_of_le_length (by simp only [List.length_append]; omega), List.take_of_length_le (by simp only [List.length_append]; omega)]

namespace Sk
open Sha

theorem splice_mid (A M M' B : List CV) (n : Nat) (hn : A.length = n) (h : M'.length = M.length) : splice (A ++ (M ++ B)) n M' = A ++ (M' ++ B) := by
  subst hn
  unfold splice
  have h1 : A ++ (M ++ B) = (A ++ M) ++ B := by simp
  have h2 : A.length + M'.length = (A ++ M).length := by simp [h]
  rw [List.take_left, h1, h2, List.drop_left]
  simp
/-- A cell's parts, within its block. -/
theorem row_ops (A S B : List CV) (x y : CV) (b : Nat) (hb : A.length = b) (hS : S.length = 32) :
    (A ++ ((x :: (S ++ [y])) ++ B))[b]? = some x ∧
    (∀ x', splice (A ++ ((x :: (S ++ [y])) ++ B)) b [x'] = A ++ ((x' :: (S ++ [y])) ++ B)) ∧
    ((A ++ ((x :: (S ++ [y])) ++ B)).drop (b + 1)).take 32 = S ∧
    (∀ S', S'.length = 32 → splice (A ++ ((x :: (S ++ [y])) ++ B)) (b + 1) S' = A ++ ((x :: (S' ++ [y])) ++ B)) ∧
    (A ++ ((x :: (S ++ [y])) ++ B))[b + 33]? = some y ∧
    (∀ y', splice (A ++ ((x :: (S ++ [y])) ++ B)) (b + 33) [y'] = A ++ ((x :: (S ++ [y'])) ++ B)) := by
  subst hb
  have e1 : A ++ ((x :: (S ++ [y])) ++ B) = A ++ ([x] ++ (S ++ ([y] ++ B))) := by simp
  have e2 : A ++ ((x :: (S ++ [y])) ++ B) = (A ++ [x]) ++ (S ++ ([y] ++ B)) := by simp
  have e3 : A ++ ((x :: (S ++ [y])) ++ B) = (A ++ (x :: S)) ++ ([y] ++ B) := by simp
  refine ⟨?_, fun x' => ?_, ?_, fun S' hS' => ?_, ?_, fun y' => ?_⟩
  · rw [List.getElem?_append_right (Nat.le_refl _)]; simp
  · rw [e1, splice_mid A [x] [x'] _ _ rfl rfl]; simp
  · rw [e2, show A.length + 1 = (A ++ [x]).length by simp, List.drop_left, ← hS, List.take_left]
  · rw [e2, splice_mid (A ++ [x]) S S' _ _ (by simp) (by omega)]; simp
  · rw [e3, List.getElem?_append_right (by simp; omega)]; simp [hS]
  · rw [e3, splice_mid (A ++ (x :: S)) [y] [y'] _ _ (by simp [hS]) rfl]; simp
end Sk
end Go.CM

/-
  Sketches: put, walked.
-/
namespace Go.CM
open Go Go.Proofs
set_option linter.unusedVariables false
set_option linter.unusedSimpArgs false
set_option maxRecDepth 100000
namespace Sk
open Sha

theorem sk_nil (s : Sketch) : binC Tryd.prog .eql 22 (encSk s) .nilS = some (.bool s.isNone) := bin_nil_eql (e := 69) (by kernel_rfl) 34 encCell s
theorem rows_sk {s : Sketch} (ho : okSk s) : ∀ e ∈ s.l.map encCell, e.length = 34 := fun e he => by obtain ⟨x, hx, rfl⟩ := List.mem_map.1 he; exact cell_len (ho x hx)
theorem cloneS_own {s : Sketch} (ho : okSk s) (hs : s.l.length ≤ 1000000000) {l : Hl} {K : CV → Hl → Prop} (hK : ∀ v j l', OwnS 34 l' v j (s.l.map encCell) → l.length ≤ l'.length → (∀ b, b < l.length → l'[b]? = l[b]?) → (v = .nilS ∨ l.length ≤ j) → isNilS v = s.isNone → K v l') : CallP Tryd.prog GS 56 [encSk s] l (c := ⟨K⟩) := by
  apply call_intro c56_eq r56_eq
  unfold c56 r56
  simp [sk_nil]
  cases s with
  | none =>
    simp
    exact hK _ 0 _ (.nil 0) (Nat.le_refl _) (fun _ _ => rfl) (.inl rfl) rfl
  | some b =>
    simp
    have hr : roomMax = 140737488355328 := rfl
    have hs' : b.length ≤ 1000000000 := hs
    have hO : OwnS 34 (l ++ [CB.cells 0 []]) (.sl 34 l.length 0 0 0 0) l.length [] := .sl l.length 0 0 0 [] [] (by simp) rfl rfl (by simp) (Nat.le_refl _) (by omega) rfl
    obtain ⟨v', j', l', h1, h2, h3, h4, h5, h6⟩ := app_law (by_ := 48) hO (x := encSk (some b)) (xs := b.map encCell) (by unfold encSk; rw [contents_encS]; simp) (rows_sk ho) (by omega) (by omega) (by simp; omega)
    simp [h1]
    refine AppK.keep ?_
    simp
    have h3' : l.length + 1 ≤ l'.length := by simpa using h3
    refine hK _ j' _ h2 (by omega) (fun b hb => ?_) (.inr (by rcases h5 with h | h <;> (try simp only [List.length_append, List.length_cons, List.length_nil] at h) <;> omega)) ?_
    · rw [h4 b (by simp; omega) (by omega), List.getElem?_append_left hb]
    · rw [isNil_app h6]; rfl

def stepC (c : Cell) (id : List B) (by_ : Int) (w : Q) : Cell := ⟨c.count + by_, xorL c.sum id, c.check ^^^ w⟩
def putAt (id : List B) (by_ : Int) (w : Q) : List Nat → List Cell → Option (List Cell)
  | [], s => some s
  | p :: ps, s => match s[p]? with
    | none => none
    | some c => match inR (stepC c id by_ w) with
      | true => putAt id by_ w ps (s.set p (stepC c id by_ w))
      | false => none
def placesL (n : Nat) (id : List B) : List Nat := [place n id 0, place n id 1, place n id 2]
def changed (s : List Cell) (id : List B) (by_ : Int) : Option (List Cell) := putAt id by_ (word id) (placesL s.length id) s
def put (s : Sketch) (id : List B) (by_ : Int) : Sketch × Int :=
  if chk s = 0 then match changed s.l id by_ with
    | some t => (some t, 0)
    | none => (none, 16)
  else (none, chk s)
theorem placesL_drop (n : Nat) (id : List B) (k : Nat) (hk : k < 3) : (placesL n id).drop k = place n id k :: (placesL n id).drop (k + 1) := by
  match k, hk with
  | 0, _ => rfl
  | 1, _ => rfl
  | 2, _ => rfl
theorem placesC_ix (n : Nat) (id : List B) (k : Nat) (hk : k < 3) : ixC1 3 1 (placesC n id) (.int .i64 k) = some (.int .i64 (place n id k)) := by
  match k, hk with
  | 0, _ => rfl
  | 1, _ => rfl
  | 2, _ => rfl
theorem place_lt_n {n : Nat} (h3 : 3 ≤ n) (hm : n % 3 = 0) (id : List B) {k : Nat} (hk : k < 3) : place n id k < n := by
  have := (place_lt h3 id (r := k)).2
  have h : (k + 1) * (n / 3) ≤ 3 * (n / 3) := Nat.mul_le_mul_right _ (by omega)
  omega
theorem xorL_len {a b : List B} (ha : a.length = 32) (hb : b.length = 32) : (xorL a b).length = 32 := by simp [xorL]; omega
theorem chk_0 {s : Sketch} (h : chk s = 0) : sizedB s.l.length = true ∧ ∀ c ∈ s.l, inR c = true := by
  unfold chk at h
  split at h
  · rename_i hh; exact ⟨hh.1, List.all_eq_true.1 hh.2⟩
  · cases h
theorem rd_put0 {l : Hl} {e e' : Int} (h : e = e') : Rd l (.tu [.nilS, .int .i64 e]) (.tu [encSk none, .int .i64 e']) := by subst h; exact .same _ rfl
/-- The state of a sketch that is being changed. -/
structure Mid (n : Nat) (cur : List Cell) : Prop where
  len : cur.length = n
  c : ∀ c ∈ cur, inR c = true ∧ c.sum.length = 32
theorem Mid.set {n : Nat} {cur : List Cell} (h : Mid n cur) {p : Nat} {c : Cell} (hc : inR c = true) (hl : c.sum.length = 32) : Mid n (cur.set p c) := by
  refine ⟨by rw [List.length_set]; exact h.len, fun x hx => ?_⟩
  rcases List.mem_or_eq_of_mem_set hx with h1 | h1
  · exact h.c x h1
  · subst h1; exact ⟨hc, hl⟩

set_option maxHeartbeats 16000000 in
theorem put_ok (s : Sketch) (id : List B) (by_ : Int) (ho : okSk s) (hl : s.l.length ≤ 1000000000) (hid : id.length = 32) (hby : -1000000 ≤ by_ ∧ by_ ≤ 1000000) :
    PureC Tryd.prog GS 46 [encSk s, idC id, .int .i64 by_] (.tu [encSk (put s id by_).1, .int .i64 (put s id by_).2]) := by
  refine pure_of Tryd.checked.mixed GS_closed ?_
  apply call_intro c46_eq r46_eq
  unfold c46 r46
  have hlen : lenM (.sl 34) (encSk s) = some (.int .i64 s.l.length) := len_encS _
  obtain ⟨I, hI⟩ : ∃ I, I = id.map e8 := ⟨_, rfl⟩
  have hIl : I.length = 32 := by rw [hI, List.length_map, hid]
  have hIc : closedL I = true := by rw [hI]; exact closedL_map e8 (fun _ => rfl) _
  unfold idC
  rw [← hI]
  simp [hIl]
  refine pure_call (check_ok s ho hl) (by simp [closedL, closed_sk]) ?_
  rcases chk_8 s with h0 | h0
  · obtain ⟨hsz, hin⟩ := chk_0 h0
    obtain ⟨N, hN, h3, h48, hm⟩ := sized_nat hsz
    have hN' : s.l.length = N := by omega
    have hpl := places_ok s.l.length id hid
    rw [hsz, hN'] at hpl
    simp only [Int.toNat_natCast] at hpl
    rw [hN'] at hlen
    have hwd := word_ok id hid
    unfold idC at hpl hwd
    rw [← hI] at hpl hwd
    obtain ⟨w, hw⟩ : ∃ w, w = word id := ⟨_, rfl⟩
    have hput : put s id by_ = match changed s.l id by_ with | some t => (some t, 0) | none => (none, 16) := by unfold put; rw [if_pos h0]
    rw [hput]
    unfold changed
    rw [hN', ← hw]
    rw [← hw] at hwd
    simp [h0, hlen, hIl, List.take_of_length_le]
    refine pure_call hpl (by simp [closedL, CV.closed, hIc]) ?_
    simp [placesC, List.take_of_length_le, hIl]
    refine pure_call hwd (by simp [closedL, CV.closed, hIc]) ?_
    simp
    refine cloneS_own ho hl fun v j l' hown hll hfr hj hnil => ?_
    have hf0 := hfr 0 (by simp)
    have hf1 := hfr 1 (by simp)
    simp at hf0 hf1 hj hll
    have hsn : isNilS v = false := by
      rw [hnil]
      cases s with
      | none => simp at hN'; omega
      | some l => rfl
    obtain ⟨n, cap, sz, cs0, rfl, _, _, hn, _⟩ := hown.view hsn
    have hnN : n = N := by rw [List.length_map] at hn; omega
    subst hnN
    have hj2 : 2 ≤ j := hj.resolve_left (by simp)
    obtain ⟨R, hR⟩ : ∃ R, R = putAt id by_ w (placesL n id) s.l := ⟨_, rfl⟩
    rw [← hR]
    simp [hf1]
    refine loop_up 3 (fun k σ l => σ 2 = .int .i64 by_ ∧ σ 4 = .ptr 0 0 32 ∧ σ 11 = e64 w ∧ σ 12 = .sl 34 j 0 n cap sz ∧ σ 41 = placesC n id ∧ σ 42 = .int .i64 k ∧ l[0]? = some (.cells 32 I) ∧
      ∃ cur, Mid n cur ∧ OwnS 34 l (.sl 34 j 0 n cap sz) j (cur.map encCell) ∧ putAt id by_ w ((placesL n id).drop k) cur = R) ?_ ?_
    · clear hown hll hfr hf0 hf1
      rintro k σ l hk ⟨g2, g4, g11, g12, g41, g42, hl0, cur, M, hown, hr⟩
      obtain ⟨σ, rfl⟩ := upds6 g2 g4 g11 g12 g41 g42
      clear g2 g4 g11 g12 g41 g42
      unfold l46_0
      by_cases hk3 : (k : Int) < 3
      · have hkn : k < 3 := by omega
        have hwk : IntKind.i64.wrap ((k : Int) + 1) = (k + 1 : Nat) := wrap_i64 (by omega) (by omega)
        rw [placesL_drop n id k hkn] at hr
        have hix := placesC_ix n id k hkn
        have hpn := place_lt_n h3 hm id hkn
        obtain ⟨p, hp⟩ : ∃ p, p = place n id k := ⟨_, rfl⟩
        rw [← hp] at hr hix hpn
        obtain ⟨c, hc, hcm⟩ := get_of (l := cur) (k := p) (by rw [M.len]; exact hpn)
        obtain ⟨hcr, hcl⟩ := M.c c hcm
        obtain ⟨_, _, _, A, B, hv, _, hlj, hA, hle, hcsl, hback⟩ := hown.split (i := p) (e := encCell c) (by rw [List.getElem?_map, hc]; rfl)
        cases hv
        unfold encCell at hlj hcsl
        obtain ⟨S, hS⟩ : ∃ S, S = c.sum.map e8 := ⟨_, rfl⟩
        have hSl : S.length = 32 := by rw [hS, List.length_map, hcl]
        rw [← hS] at hlj hcsl
        obtain ⟨c', hc'⟩ : ∃ c', c' = stepC c id by_ w := ⟨_, rfl⟩
        obtain ⟨S', hS'⟩ : ∃ S', S' = c'.sum.map e8 := ⟨_, rfl⟩
        have hsl' : c'.sum.length = 32 := by rw [hc']; exact xorL_len hcl hid
        have hSl' : S'.length = 32 := by rw [hS', List.length_map, hsl']
        have hjl := get_lt hlj
        obtain ⟨b34, hb34⟩ : ∃ b, b = p * 34 := ⟨_, rfl⟩
        rw [← hb34] at hA hle
        obtain ⟨o1, o2, _⟩ := row_ops A S B (.int .i64 c.count) (e64 c.check) b34 hA hSl
        obtain ⟨_, _, o3, o4, _⟩ := row_ops A S B (.int .i64 c'.count) (e64 c.check) b34 hA hSl
        obtain ⟨_, _, _, _, o5, o6⟩ := row_ops A S' B (.int .i64 c'.count) (e64 c.check) b34 hA hSl'
        obtain ⟨o7, _⟩ := row_ops A S' B (.int .i64 c'.count) (e64 c'.check) b34 hA hSl'
        have o2 := o2 (.int .i64 c'.count)
        have o4 := o4 S' hSl'
        have o6 := o6 (e64 c'.check)
        have l1 : (A ++ ((CV.int .i64 c'.count :: (S ++ [e64 c.check])) ++ B)).length = sz := by rw [← hcsl]; simp
        have l2 : (A ++ ((CV.int .i64 c'.count :: (S' ++ [e64 c.check])) ++ B)).length = sz := by rw [← hcsl]; simp [hSl, hSl']
        have l3 : (A ++ ((CV.int .i64 c'.count :: (S' ++ [e64 c'.check])) ++ B)).length = sz := by rw [← hcsl]; simp [hSl, hSl']
        have hback := hback (encCell c')
        obtain ⟨C0, hC0⟩ : ∃ C, C = A ++ ((CV.int .i64 c.count :: (S ++ [e64 c.check])) ++ B) := ⟨_, rfl⟩
        obtain ⟨C1, hC1⟩ : ∃ C, C = A ++ ((CV.int .i64 c'.count :: (S ++ [e64 c.check])) ++ B) := ⟨_, rfl⟩
        obtain ⟨C2, hC2⟩ : ∃ C, C = A ++ ((CV.int .i64 c'.count :: (S' ++ [e64 c.check])) ++ B) := ⟨_, rfl⟩
        obtain ⟨C3, hC3⟩ : ∃ C, C = A ++ ((CV.int .i64 c'.count :: (S' ++ [e64 c'.check])) ++ B) := ⟨_, rfl⟩
        rw [← hC0] at o1 o2 hlj hcsl
        rw [← hC1] at o2 o3 o4 l1
        rw [← hC2] at o4 o5 o6 l2
        rw [← hC3] at o6 o7 l3
        have hback3 : ∀ l', l'[j]? = some (CB.cells sz C3) → OwnS 34 l' (.sl 34 j 0 n cap sz) j ((cur.set p c').map encCell) := fun l' hl' => by
          rw [List.map_set]
          refine hback l' (cell_len hsl') ?_
          rw [hl', hC3, hS']; rfl
        have hcr' := (inR_iff c).1 hcr
        have hwc : IntKind.i64.wrap (c.count + by_) = c'.count := by rw [wrap_i64 (by omega) (by omega), hc']; rfl
        have hx := xor_ok c.sum id hcl hid
        have hxe : xorL c.sum id = c'.sum := by rw [hc']; rfl
        rw [hxe] at hx
        unfold idC at hx
        rw [← hS, ← hS', ← hI] at hx
        have hSc : closedL S = true := by rw [hS]; exact closedL_map e8 (fun _ => rfl) _
        have hcheck : c.check ^^^ w = c'.check := by rw [hc']; rfl
        have hrg := ranged_ok c'.count
        have hinr : rangedB c'.count = inR c' := rfl
        rw [hinr] at hrg
        have q1 : b34 + 1 ≤ sz := by omega
        have q2 : b34 + 1 + 32 ≤ sz := by omega
        have q3 : b34 + 33 + 1 ≤ sz := by omega
        have j0 : j ≠ 0 := by omega
        have j0' : ¬ 0 = j := by omega
        obtain ⟨_, hlj'⟩ := List.getElem?_eq_some_iff.1 hlj
        have hset0 : ∀ X : CB, (l.set j X)[0]? = some (CB.cells 32 I) := fun X => by rw [List.getElem?_set_ne j0]; exact hl0
        simp [hk3, hix, hpn, ← hb34, hlj', o1, hwc, o2, q1, hjl, l1, q2, o3, hset0, hIl, List.take_of_length_le]
        refine pure_call hx (by simp [closedL, CV.closed, hSc, hIc]) ?_
        simp [hjl, hSl', o4, l1, l2, q2, q3, o5, hcheck, o6, o7, l3]
        refine pure_call hrg rfl ?_
        unfold putAt at hr
        rw [hc] at hr
        simp only [← hc'] at hr
        cases hcase : inR c' with
        | false =>
          rw [hcase] at hr
          simp only at hr
          rw [← hr]
          simp
          exact rd_put0 rfl
        | true =>
          rw [hcase] at hr
          simp only at hr
          simp [hk3, hwk, hkn]
          exact ⟨by rw [List.getElem?_set_ne j0]; exact hl0, cur.set p c', M.set hcase hsl', by rw [List.map_set] at hback3; rw [List.map_set]; exact hback3 _ (by rw [List.getElem?_set_self hjl]), hr⟩
      · have hk' : k = 3 := by omega
        subst hk'
        have hr3 : some cur = R := hr
        rw [← hr3]
        simp
        have hrd := hown.q.rd_enc closed_cell (some cur) rfl rfl
        exact rd_tu2 hrd (.same _ rfl)
    · simp
      exact ⟨rfl, hf0, s.l, ⟨hN', fun c hc => ⟨hin c hc, ho c hc⟩⟩, hown, hR.symm⟩
  · simp [h0]
    have : put s id by_ = (none, 8) := by unfold put; rw [if_neg (by rw [h0]; simp), h0]
    rw [this]
    exact rd_put0 rfl
end Sk
end Go.CM

/-
  Sketches: Add, Remove, and the reference's, walked.
-/
namespace Go.CM
open Go Go.Proofs
set_option linter.unusedVariables false
set_option linter.unusedSimpArgs false
set_option maxRecDepth 100000
namespace Sk
open Sha

theorem closed_id (id : List B) : (idC id).closed = true := by simp [idC, CV.closed, closedL_map e8 (fun _ => rfl)]
theorem add_ok (s : Sketch) (id : List B) (ho : okSk s) (hl : s.l.length ≤ 1000000000) (hid : id.length = 32) :
    PureC Tryd.prog GS 16 [encSk s, idC id] (.tu [encSk (put s id 1).1, .int .i64 (put s id 1).2]) := by
  refine pure_of Tryd.checked.mixed GS_closed ?_
  apply call_intro c16_eq r16_eq
  unfold c16 r16
  have hp := put_ok s id 1 ho hl hid (by omega)
  have hc := closed_id id
  unfold idC at hp hc ⊢
  obtain ⟨I, hI⟩ : ∃ I, I = id.map e8 := ⟨_, rfl⟩
  have hIl : I.length = 32 := by rw [hI, List.length_map, hid]
  rw [← hI] at hp hc ⊢
  simp [hIl, List.take_of_length_le]
  refine pure_call hp (by simp [closedL, closed_sk, hc, CV.closed] at hc ⊢; exact hc) ?_
  simp
  exact rd_tu2 (.same _ (closed_sk _)) (.same _ rfl)
theorem remove_ok (s : Sketch) (id : List B) (ho : okSk s) (hl : s.l.length ≤ 1000000000) (hid : id.length = 32) :
    PureC Tryd.prog GS 18 [encSk s, idC id] (.tu [encSk (put s id (-1)).1, .int .i64 (put s id (-1)).2]) := by
  refine pure_of Tryd.checked.mixed GS_closed ?_
  apply call_intro c18_eq r18_eq
  unfold c18 r18
  have hp := put_ok s id (-1) ho hl hid (by omega)
  have hc := closed_id id
  unfold idC at hp hc ⊢
  obtain ⟨I, hI⟩ : ∃ I, I = id.map e8 := ⟨_, rfl⟩
  have hIl : I.length = 32 := by rw [hI, List.length_map, hid]
  rw [← hI] at hp hc ⊢
  simp [hIl, List.take_of_length_le]
  refine pure_call hp (by simp [closedL, closed_sk, hc, CV.closed] at hc ⊢; exact hc) ?_
  simp
  exact rd_tu2 (.same _ (closed_sk _)) (.same _ rfl)

/-- A cell's parts, in a block of its own. -/
theorem row_ops0 (S : List CV) (x y : CV) (hS : S.length = 32) :
    (x :: (S ++ [y]))[0]? = some x ∧ (∀ x', splice (x :: (S ++ [y])) 0 [x'] = x' :: (S ++ [y])) ∧ ((x :: (S ++ [y])).drop 1).take 32 = S ∧
    (∀ S', S'.length = 32 → splice (x :: (S ++ [y])) 1 S' = x :: (S' ++ [y])) ∧ (x :: (S ++ [y]))[33]? = some y ∧ (∀ y', splice (x :: (S ++ [y])) 33 [y'] = x :: (S ++ [y'])) := by
  have h := row_ops [] S [] x y 0 rfl hS
  simpa using h
theorem splice_whole (z e : List CV) (h : e.length = z.length) : splice z 0 e = e := splice_full h
theorem part_row (A M B : List CV) (n : Nat) (hn : A.length = n) (m : Nat) (hm : M.length = m) : ((A ++ (M ++ B)).drop n).take m = M := by
  subst hn hm
  rw [List.drop_left, List.take_left]

def outC (o : Option (List Cell)) : CV := match o with | some t => .tu [encSk (some t), .bool true] | none => .tu [encSk none, .bool false]
set_option maxHeartbeats 16000000 in
theorem changed_ok (s : Sketch) (id : List B) (by_ : Int) (ho : okSk s) (hin : ∀ c ∈ s.l, inR c = true) (hsz : sizedB s.l.length = true) (hid : id.length = 32) (hby : -1000000 ≤ by_ ∧ by_ ≤ 1000000) :
    PureC Tryd.prog GS 55 [encSk s, idC id, .int .i64 by_] (outC (changed s.l id by_)) := by
  refine pure_of Tryd.checked.mixed GS_closed ?_
  apply call_intro c55_eq r55_eq
  unfold c55 r55
  have hr0 : roomMax = 140737488355328 := rfl
  have hlen : lenM (.sl 34) (encSk s) = some (.int .i64 s.l.length) := len_encS _
  obtain ⟨N, hN, h3, h48, hm⟩ := sized_nat hsz
  have hN' : s.l.length = N := by omega
  rw [hN'] at hlen
  have hpl := refPlaces_ok N id hid h3 h48
  have hwd := refWord_ok id hid
  obtain ⟨I, hI⟩ : ∃ I, I = id.map e8 := ⟨_, rfl⟩
  have hIl : I.length = 32 := by rw [hI, List.length_map, hid]
  have hIc : closedL I = true := by rw [hI]; exact closedL_map e8 (fun _ => rfl) _
  unfold idC at hpl hwd ⊢
  rw [← hI] at hpl hwd ⊢
  obtain ⟨w, hw⟩ : ∃ w, w = word id := ⟨_, rfl⟩
  unfold changed
  rw [hN', ← hw]
  rw [← hw] at hwd
  have o0 : OwnS 34 ([CB.cells 32 I] ++ [CB.cells 0 []]) (.sl 34 1 0 0 0 0) 1 [] := .sl 1 0 0 0 [] [] (by simp) rfl rfl (by simp) (Nat.le_refl _) (by omega) rfl
  obtain ⟨v, j, r, h1, hown, hj, hvn⟩ := app_pre (by_ := 48) o0 (.inr (Nat.le_refl _)) (x := encSk s) (xs := s.l.map encCell) (by unfold encSk; rw [contents_encS]; simp) (rows_sk ho) (by omega) (by omega) (by rw [hr0]; simp; omega)
  simp only [List.nil_append, List.singleton_append] at h1 hown
  have hsn : isNilS v = false := by rw [hvn]; rfl
  obtain ⟨n, cap, sz, cs0, rfl, hl0', _, hn, _⟩ := hown.view hsn
  have hnN : n = N := by rw [List.length_map] at hn; omega
  subst hnN
  have hj1 : 1 ≤ j := hj.resolve_left (by simp)
  have hjlt := get_lt hl0'
  obtain ⟨R, hR⟩ : ∃ R, R = putAt id by_ w (placesL n id) s.l := ⟨_, rfl⟩
  rw [← hR]
  simp [hIl, h1]
  refine AppK.keep ?_
  simp [hlen, hIl, List.take_of_length_le]
  refine pure_call hpl (by simp [closedL, CV.closed, hIc]) ?_
  simp [placesC, hIl, List.take_of_length_le]
  refine pure_call hwd (by simp [closedL, CV.closed, hIc]) ?_
  simp
  have hr1 : 1 ≤ r.length := by simp at hjlt hj1; omega
  obtain ⟨P, hP⟩ : ∃ P, P = r.length + 1 := ⟨_, rfl⟩
  rw [← hP]
  have hjP : j ≠ P := by simp at hjlt; omega
  have hPj : P ≠ j := fun h => hjP h.symm
  have hP0 : P ≠ 0 := by omega
  obtain ⟨E0, hE0⟩ : ∃ E, E = [CV.int IntKind.i64 ↑(place n id 0), CV.int IntKind.i64 ↑(place n id 1), CV.int IntKind.i64 ↑(place n id 2)] := ⟨_, rfl⟩
  rw [← hE0]
  have hE0l : E0.length = 3 := by rw [hE0]; rfl
  have hEp : ∀ k, k < 3 → E0[k]? = some (CV.int .i64 (place n id k)) := fun k hk => by rw [hE0]; match k, hk with | 0, _ => rfl | 1, _ => rfl | 2, _ => rfl
  refine loop_up 3 (fun k σ l => σ 2 = .int .i64 by_ ∧ σ 4 = .ptr 0 0 32 ∧ σ 8 = .sl 34 j 0 n cap sz ∧ σ 9 = .ptr P 0 3 ∧ σ 10 = e64 w ∧ σ 11 = .int .i64 k ∧ l[0]? = some (.cells 32 I) ∧ l[P]? = some (.cells 3 E0) ∧
      ∃ cur, Mid n cur ∧ OwnS 34 l (.sl 34 j 0 n cap sz) j (cur.map encCell) ∧ putAt id by_ w ((placesL n id).drop k) cur = R) ?_ ?_
  · rintro k σ l hk ⟨g2, g4, g8, g9, g10, g11, hl0, hlP, cur, M, hown, hr⟩
    obtain ⟨σ, rfl⟩ := upds6 g2 g4 g8 g9 g10 g11
    clear g2 g4 g8 g9 g10 g11
    unfold l55_0
    by_cases hk3 : (k : Int) < 3
    · have hkn : k < 3 := by omega
      have hwk : IntKind.i64.wrap ((k : Int) + 1) = (k + 1 : Nat) := wrap_i64 (by omega) (by omega)
      rw [placesL_drop n id k hkn] at hr
      have hix := hEp k hkn
      have hpn := place_lt_n h3 hm id hkn
      obtain ⟨p, hp⟩ : ∃ p, p = place n id k := ⟨_, rfl⟩
      rw [← hp] at hr hix hpn
      obtain ⟨c, hc, hcm⟩ := get_of (l := cur) (k := p) (by rw [M.len]; exact hpn)
      obtain ⟨hcr, hcl⟩ := M.c c hcm
      obtain ⟨_, _, _, A, B, hv, _, hlj, hA, hle, hcsl, hback⟩ := hown.split (i := p) (e := encCell c) (by rw [List.getElem?_map, hc]; rfl)
      cases hv
      have hjl := get_lt hlj
      have hPl := get_lt hlP
      have hpart := part_row A (encCell c) B (p * 34) hA 34 (by unfold encCell; simp [hcl])
      unfold encCell at hlj hcsl hpart
      obtain ⟨S, hS⟩ : ∃ S, S = c.sum.map e8 := ⟨_, rfl⟩
      have hSl : S.length = 32 := by rw [hS, List.length_map, hcl]
      rw [← hS] at hlj hcsl hpart
      obtain ⟨c', hc'⟩ : ∃ c', c' = stepC c id by_ w := ⟨_, rfl⟩
      obtain ⟨S', hS'⟩ : ∃ S', S' = c'.sum.map e8 := ⟨_, rfl⟩
      have hsl' : c'.sum.length = 32 := by rw [hc']; exact xorL_len hcl hid
      have hSl' : S'.length = 32 := by rw [hS', List.length_map, hsl']
      obtain ⟨b34, hb34⟩ : ∃ b, b = p * 34 := ⟨_, rfl⟩
      rw [← hb34] at hA hle hpart
      obtain ⟨o1, o2, _⟩ := row_ops0 S (.int .i64 c.count) (e64 c.check) hSl
      obtain ⟨o1', _, o3, o4, _⟩ := row_ops0 S (.int .i64 c'.count) (e64 c.check) hSl
      obtain ⟨_, _, _, _, o5, o6⟩ := row_ops0 S' (.int .i64 c'.count) (e64 c.check) hSl'
      have o2 := o2 (.int .i64 c'.count)
      have o4 := o4 S' hSl'
      have o6 := o6 (e64 c'.check)
      have hspl := splice_mid A (.int .i64 c.count :: (S ++ [e64 c.check])) (.int .i64 c'.count :: (S' ++ [e64 c'.check])) B b34 hA (by simp [hSl, hSl'])
      have hback := hback (encCell c')
      obtain ⟨C0, hC0⟩ : ∃ C, C = A ++ ((CV.int .i64 c.count :: (S ++ [e64 c.check])) ++ B) := ⟨_, rfl⟩
      obtain ⟨C3, hC3⟩ : ∃ C, C = A ++ ((CV.int .i64 c'.count :: (S' ++ [e64 c'.check])) ++ B) := ⟨_, rfl⟩
      have l3 : C3.length = sz := by rw [hC3, ← hcsl]; simp [hSl, hSl']
      obtain ⟨F0, hF0⟩ : ∃ C, C = (CV.int .i64 c.count :: (S ++ [e64 c.check])) := ⟨_, rfl⟩
      obtain ⟨F1, hF1⟩ : ∃ C, C = (CV.int .i64 c'.count :: (S ++ [e64 c.check])) := ⟨_, rfl⟩
      obtain ⟨F2, hF2⟩ : ∃ C, C = (CV.int .i64 c'.count :: (S' ++ [e64 c.check])) := ⟨_, rfl⟩
      obtain ⟨F3, hF3⟩ : ∃ C, C = (CV.int .i64 c'.count :: (S' ++ [e64 c'.check])) := ⟨_, rfl⟩
      have m0 : F0.length = 34 := by rw [hF0]; simp [hSl]
      have m1 : F1.length = 34 := by rw [hF1]; simp [hSl]
      have m2 : F2.length = 34 := by rw [hF2]; simp [hSl']
      have m3 : F3.length = 34 := by rw [hF3]; simp [hSl']
      rw [← hC0] at hlj hcsl hspl hpart
      rw [← hC3] at hspl
      rw [← hF0] at hpart o1 o2
      rw [← hF1] at o1' o2 o3 o4
      rw [← hF2] at o4 o5 o6
      rw [← hF3] at o6 hspl
      have hback3 : ∀ l', l'[j]? = some (CB.cells sz C3) → OwnS 34 l' (.sl 34 j 0 n cap sz) j ((cur.set p c').map encCell) := fun l' hl' => by
        rw [List.map_set]
        refine hback l' (cell_len hsl') ?_
        rw [hl', hC3, hS']; rfl
      have hcr' := (inR_iff c).1 hcr
      have hwc : IntKind.i64.wrap (c.count + by_) = c'.count := by rw [wrap_i64 (by omega) (by omega), hc']; rfl
      have hx := mixed_ok c.sum id hcl hid
      have hxe : xorL c.sum id = c'.sum := by rw [hc']; rfl
      rw [hxe] at hx
      unfold idC at hx
      rw [← hS, ← hS', ← hI] at hx
      have hSc : closedL S = true := by rw [hS]; exact closedL_map e8 (fun _ => rfl) _
      have hcheck : c.check ^^^ w = c'.check := by rw [hc']; rfl
      obtain ⟨_, o1⟩ := List.getElem?_eq_some_iff.1 o1
      obtain ⟨_, o1'⟩ := List.getElem?_eq_some_iff.1 o1'
      obtain ⟨_, o5⟩ := List.getElem?_eq_some_iff.1 o5
      obtain ⟨_, hix⟩ := List.getElem?_eq_some_iff.1 hix
      obtain ⟨_, hlj'⟩ := List.getElem?_eq_some_iff.1 hlj
      obtain ⟨_, hlP'⟩ := List.getElem?_eq_some_iff.1 hlP
      have g1 : ∀ X : List CB, (l ++ X)[j]? = some (CB.cells sz C0) := fun X => by rw [List.getElem?_append_left hjl]; exact hlj
      have g2 : ∀ X : List CB, (l ++ X)[P]? = some (CB.cells 3 E0) := fun X => by rw [List.getElem?_append_left hPl]; exact hlP
      have g3 : ∀ X : List CB, (l ++ X)[0]? = some (CB.cells 32 I) := fun X => by rw [List.getElem?_append_left (by omega)]; exact hl0
      have g3' : ∀ (X : List CB) h, (l ++ X)[0]'h = CB.cells 32 I := fun X h => Option.some.inj ((List.getElem?_eq_getElem h).symm.trans (g3 X))
      rw [List.drop_one] at o3
      have hs34 : splice (CV.int IntKind.i64 0 :: (rep 32 (CV.int IntKind.u8 0) ++ [CV.int IntKind.u64 0])) 0 F0 = F0 := splice_full (by rw [m0]; rfl)
      simp [hk3, hix, hlP, hE0l, hkn, hpn, ← hb34, hlj, hcsl, hle, hpart, m0, hs34, o1, hwc, o2, m1, o1']
      by_cases c1 : c'.count < -1000000
      · have hn : inR c' = false := by
          cases h : inR c' with
          | false => rfl
          | true => have := (inR_iff c').1 h; omega
        unfold putAt at hr
        rw [hc] at hr
        simp only [← hc', hn] at hr
        rw [← hr]
        simp [c1]
        exact .same _ rfl
      · by_cases c2 : 1000000 < c'.count
        · have hn : inR c' = false := by
            cases h : inR c' with
            | false => rfl
            | true => have := (inR_iff c').1 h; omega
          unfold putAt at hr
          rw [hc] at hr
          simp only [← hc', hn] at hr
          rw [← hr]
          simp [c1, c2, m1, o1']
          exact .same _ rfl
        · have hn : inR c' = true := (inR_iff c').2 (by omega)
          unfold putAt at hr
          rw [hc] at hr
          simp only [← hc', hn] at hr
          simp [c1, c2, m1, o1', o3, g1, g2, g3', hIl, List.take_of_length_le]
          refine pure_call hx (by simp [closedL, CV.closed, hSc, hIc]) ?_
          simp [hSl', m1, m2, o4, o5, hcheck, o6, m3, hk3, g1, g2, hix, hE0l, hkn, hcsl, hle, List.take_of_length_le, hpn, ← hb34, hspl, hwk]
          refine ⟨by rw [List.getElem_set_ne (by omega)]; exact g3' _ _, by rw [List.getElem?_set_ne hjP]; exact g2 _, cur.set p c', M.set hn hsl', ?_, hr⟩
          exact hback3 _ (by rw [List.getElem?_set_self (by simp; omega)])
    · have hk' : k = 3 := by omega
      subst hk'
      have hr3 : some cur = R := hr
      rw [← hr3]
      simp
      have hrd := hown.q.rd_enc closed_cell (some cur) rfl rfl
      exact rd_tu2 hrd (.same _ rfl)
  · simp
    have hb1 : (CB.cells 32 I :: (r ++ [CB.cells 3 E0]))[P]? = some (CB.cells 3 E0) := by
      rw [hP, List.getElem?_cons_succ, List.getElem?_append_right (Nat.le_refl _)]; simp
    refine ⟨hb1, s.l, ⟨hN', fun c hc => ⟨hin c hc, ho c hc⟩⟩, ?_, hR.symm⟩
    exact hown.frame2 (.inr (by rw [← List.cons_append, List.getElem?_append_left hjlt]))
end Sk
end Go.CM

/-
  Sketches: Pure, and the reference's put, Add, Remove and Pure, walked.
-/
namespace Go.CM
open Go Go.Proofs
set_option linter.unusedVariables false
set_option linter.unusedSimpArgs false
set_option maxRecDepth 100000
namespace Sk
open Sha

theorem refPut_ok (s : Sketch) (id : List B) (by_ : Int) (ho : okSk s) (hl : s.l.length ≤ 1000000000) (hid : id.length = 32) (hby : -1000000 ≤ by_ ∧ by_ ≤ 1000000) :
    PureC Tryd.prog GS 47 [encSk s, idC id, .int .i64 by_] (.tu [encSk (put s id by_).1, .int .i64 (put s id by_).2]) := by
  refine pure_of Tryd.checked.mixed GS_closed ?_
  apply call_intro c47_eq r47_eq
  unfold c47 r47
  have hc := closed_id id
  rcases chk_8 s with h0 | h0
  · obtain ⟨hsz, hin⟩ := chk_0 h0
    have hp := changed_ok s id by_ ho hin hsz hid hby
    have hput : put s id by_ = match changed s.l id by_ with | some t => (some t, 0) | none => (none, 16) := by unfold put; rw [if_pos h0]; try rfl
    rw [hput]
    unfold idC at hp hc ⊢
    obtain ⟨I, hI⟩ : ∃ I, I = id.map e8 := ⟨_, rfl⟩
    have hIl : I.length = 32 := by rw [hI, List.length_map, hid]
    rw [← hI] at hp hc ⊢
    simp [hIl, List.take_of_length_le]
    refine pure_call (refCheck_ok s ho hl) (by simp [closedL, closed_sk]) ?_
    simp [h0, hIl, List.take_of_length_le]
    refine pure_call hp (by simp [closedL, closed_sk, hc, CV.closed] at hc ⊢; exact hc) ?_
    cases changed s.l id by_ with
    | none => simp [outC]; exact rd_put0 rfl
    | some t => simp [outC]; exact rd_tu2 (.same _ (closed_sk _)) (.same _ rfl)
  · have : put s id by_ = (none, 8) := by unfold put; rw [if_neg (by rw [h0]; simp), h0]
    rw [this]
    unfold idC
    simp [hid]
    refine pure_call (refCheck_ok s ho hl) (by simp [closedL, closed_sk]) ?_
    simp [h0]
    exact rd_put0 rfl
theorem refAdd_ok (s : Sketch) (id : List B) (ho : okSk s) (hl : s.l.length ≤ 1000000000) (hid : id.length = 32) :
    PureC Tryd.prog GS 17 [encSk s, idC id] (.tu [encSk (put s id 1).1, .int .i64 (put s id 1).2]) := by
  refine pure_of Tryd.checked.mixed GS_closed ?_
  apply call_intro c17_eq r17_eq
  unfold c17 r17
  have hp := refPut_ok s id 1 ho hl hid (by omega)
  have hc := closed_id id
  unfold idC at hp hc ⊢
  obtain ⟨I, hI⟩ : ∃ I, I = id.map e8 := ⟨_, rfl⟩
  have hIl : I.length = 32 := by rw [hI, List.length_map, hid]
  rw [← hI] at hp hc ⊢
  simp [hIl, List.take_of_length_le]
  refine pure_call hp (by simp [closedL, closed_sk, hc, CV.closed] at hc ⊢; exact hc) ?_
  simp
  exact rd_tu2 (.same _ (closed_sk _)) (.same _ rfl)
theorem refRemove_ok (s : Sketch) (id : List B) (ho : okSk s) (hl : s.l.length ≤ 1000000000) (hid : id.length = 32) :
    PureC Tryd.prog GS 19 [encSk s, idC id] (.tu [encSk (put s id (-1)).1, .int .i64 (put s id (-1)).2]) := by
  refine pure_of Tryd.checked.mixed GS_closed ?_
  apply call_intro c19_eq r19_eq
  unfold c19 r19
  have hp := refPut_ok s id (-1) ho hl hid (by omega)
  have hc := closed_id id
  unfold idC at hp hc ⊢
  obtain ⟨I, hI⟩ : ∃ I, I = id.map e8 := ⟨_, rfl⟩
  have hIl : I.length = 32 := by rw [hI, List.length_map, hid]
  rw [← hI] at hp hc ⊢
  simp [hIl, List.take_of_length_le]
  refine pure_call hp (by simp [closedL, closed_sk, hc, CV.closed] at hc ⊢; exact hc) ?_
  simp
  exact rd_tu2 (.same _ (closed_sk _)) (.same _ rfl)

/-! Pure -/
def eI (n : Int) : List CV := [.int .i64 n]
abbrev encI (s : Sv Int) : CV := encS 1 eI s
theorem closed_eI (n : Int) : closedL (eI n) = true := rfl
def ixI (l : List Int) (i : Int) : Int := match l.findIdx? (fun x => x == i) with | some k => (k : Int) | none => -1
theorem indexI_ok (l : List Int) (i : Int) (hl : l.length ≤ 1000000000) : PureC Tryd.prog GS 66 [encI (some l), .int .i64 i] (.int .i64 (ixI l i)) := by
  refine pure_of Tryd.checked.mixed GS_closed ?_
  apply call_intro c66_eq r66_eq
  unfold c66 r66
  have hlen : lenM (.sl 1) (encI (some l)) = some (.int .i64 l.length) := len_encS _
  simp [hlen]
  refine loop_up l.length (fun k σ h => σ 0 = encI (some l) ∧ σ 1 = .int .i64 i ∧ σ 7 = .int .i64 l.length ∧ σ 8 = .int .i64 k ∧ ∀ j x, j < k → l[j]? = some x → (x == i) = false) ?_ (by simp)
  rintro k σ h hk ⟨g0, g1, g7, g8, hno⟩
  obtain ⟨σ, rfl⟩ := upds4 g0 g1 g7 g8
  clear g0 g1 g7 g8
  unfold l66_0
  by_cases hkl : k < l.length
  · obtain ⟨x, hx, _⟩ := get_of hkl
    have hia : iaC (.sl 1) (encI (some l)) (.int .i64 k) = some (.rptr (eI x) 0) := by rw [ia_encS]; simp [hx]
    have hwk : IntKind.i64.wrap ((k : Int) + 1) = (k + 1 : Nat) := wrap_i64 (by omega) (by omega)
    simp [hkl, hia, eI]
    by_cases he : i = x
    · simp [he]
      have : l.findIdx? (fun y => y == x) = some k := by
        rw [List.findIdx?_eq_some_iff_getElem]
        obtain ⟨h1, h2⟩ := List.getElem?_eq_some_iff.1 hx
        refine ⟨h1, by rw [h2]; simp, fun j hj => ?_⟩
        have := hno j l[j] hj (List.getElem?_eq_getElem (by omega))
        rw [he] at this
        rw [this]; simp
      unfold ixI; rw [this]
      exact rd_eq rfl rfl
    · simp [he, hkl, hwk]
      intro j y hj hy
      rcases Nat.lt_or_ge j k with h1 | h1
      · have := hno j y h1 hy; simpa using this
      · have : j = k := by omega
        subst this
        rw [hx] at hy; cases hy; exact fun h => he h.symm
  · simp [hkl]
    have : l.findIdx? (fun y => y == i) = none := by
      rw [List.findIdx?_eq_none_iff]
      intro x hx
      obtain ⟨j, hj⟩ := List.mem_iff_getElem?.1 hx
      exact hno j x (by have := (List.getElem?_eq_some_iff.1 hj).1; omega) hj
    unfold ixI; rw [this]
    exact rd_eq rfl rfl
theorem ixI_iff (l : List Int) (i : Int) : 0 ≤ ixI l i ↔ i ∈ l := by
  unfold ixI
  cases h : l.findIdx? (fun y => y == i) with
  | none =>
    rw [List.findIdx?_eq_none_iff] at h
    constructor
    · intro h1; simp at h1
    · intro hm; have := h i hm; simp at this
  | some k =>
    obtain ⟨h1, h2, _⟩ := List.findIdx?_eq_some_iff_getElem.1 h
    simp at h2
    refine ⟨fun _ => by rw [← h2]; exact List.getElem_mem h1, fun _ => by simp⟩
theorem containsI_ok (l : List Int) (i : Int) (hl : l.length ≤ 1000000000) : PureC Tryd.prog GS 48 [encI (some l), .int .i64 i] (.bool (decide (i ∈ l))) := by
  refine pure_of Tryd.checked.mixed GS_closed ?_
  apply call_intro c48_eq r48_eq
  unfold c48 r48
  simp
  refine pure_call (indexI_ok l i hl) (by simp [closedL, CV.closed, closed_encS closed_eI]) ?_
  have := ixI_iff l i
  simp
  refine rd_bool ?_
  by_cases h : i ∈ l
  · simp [h, this.2 h]
  · have : ¬ 0 ≤ ixI l i := fun h' => h (this.1 h')
    simp [h, this]

/-- Whether a cell of a sketch is pure. -/
def pureB (n : Nat) (c : Cell) (i : Nat) : Bool := decide (c.count = 1 ∨ c.count = -1) && decide (i ∈ placesL n c.sum) && decide (word c.sum = c.check)
def pureS (s : Sketch) (i : Int) : Bool × Int :=
  if chk s = 0 then match (if 0 ≤ i then s.l[i.toNat]? else none) with
    | none => (false, 2)
    | some c => (pureB s.l.length c i.toNat, 0)
  else (false, chk s)
theorem row_parts (c : Cell) (hc : c.sum.length = 32) (C : List CV) (hC : C = encCell c) : C.length = 34 ∧ C[0]? = some (.int .i64 c.count) ∧ (C.drop 1).take 32 = c.sum.map e8 ∧ C[33]? = some (e64 c.check) := by
  subst hC
  obtain ⟨o1, _, o3, _, o5, _⟩ := row_ops0 (c.sum.map e8) (.int .i64 c.count) (e64 c.check) (by simp [hc])
  exact ⟨cell_len hc, o1, o3, o5⟩
theorem pureB_f1 {n : Nat} {c : Cell} {i : Nat} (h1 : c.count ≠ 1) (h2 : c.count ≠ -1) : pureB n c i = false := by unfold pureB; simp [h1, h2]
set_option maxHeartbeats 4000000 in
theorem refpure_ok (s : Sketch) (i : Nat) (c : Cell) (ho : okSk s) (hsz : sizedB s.l.length = true) (hc : s.l[i]? = some c) :
    PureC Tryd.prog GS 49 [encSk s, .int .i64 i] (.bool (pureB s.l.length c i)) := by
  refine pure_of Tryd.checked.mixed GS_closed ?_
  apply call_intro c49_eq r49_eq
  unfold c49 r49
  have hlen : lenM (.sl 34) (encSk s) = some (.int .i64 s.l.length) := len_encS _
  have hil := (List.getElem?_eq_some_iff.1 hc).1
  obtain ⟨N, hN, h3, h48, hm⟩ := sized_nat hsz
  have hN' : s.l.length = N := by omega
  rw [hN'] at hlen
  have hcl := ho c (List.mem_of_getElem? hc)
  have hia : iaC (.sl 34) (encSk s) (.int .i64 i) = some (.rptr (encCell c) 0) := by unfold encSk; rw [ia_encS]; simp [hc]
  obtain ⟨C, hC⟩ : ∃ C, C = encCell c := ⟨_, rfl⟩
  obtain ⟨p1, p2, p3, p4⟩ := row_parts c hcl C hC
  have hpl := refPlaces_ok N c.sum hcl h3 h48
  have hwd := refWord_ok c.sum hcl
  have hI := closed_id c.sum
  unfold idC at hpl hwd hI
  obtain ⟨I, hId⟩ : ∃ I, I = c.sum.map e8 := ⟨_, rfl⟩
  have hIl : I.length = 32 := by rw [hId, List.length_map, hcl]
  rw [← hId] at hpl hwd hI p3
  rw [← hC] at hia
  rw [List.drop_one] at p3
  have hs34 : splice (CV.int IntKind.i64 0 :: (rep 32 (CV.int IntKind.u8 0) ++ [CV.int IntKind.u64 0])) 0 C = C := splice_full (by rw [p1]; rfl)
  obtain ⟨_, q2⟩ := List.getElem?_eq_some_iff.1 p2
  obtain ⟨_, q4⟩ := List.getElem?_eq_some_iff.1 p4
  rw [hN']
  by_cases hcnt : c.count = 1 ∨ c.count = -1
  · have hcnt' : (!decide (c.count = 1)) = false ∨ ((!decide (c.count = 1)) = true ∧ (!decide (c.count = -1)) = false) := by
      rcases hcnt with h | h <;> simp [h]
    have hpb : pureB N c i = (decide (i ∈ placesL N c.sum) && decide (word c.sum = c.check)) := by unfold pureB; simp [hcnt]
    rw [hpb]
    have hp0 : ((place N c.sum 0 : Int) = i) ↔ place N c.sum 0 = i := by omega
    have hp1 : ((place N c.sum 1 : Int) = i) ↔ place N c.sum 1 = i := by omega
    have hp2 : ((place N c.sum 2 : Int) = i) ↔ place N c.sum 2 = i := by omega
    have hmem : i ∈ placesL N c.sum ↔ place N c.sum 0 = i ∨ place N c.sum 1 = i ∨ place N c.sum 2 = i := by unfold placesL; simp [eq_comm]
    rcases hcnt with h1 | h1
    all_goals
      simp [hia, p1, List.take_of_length_le, hs34, q2, q4, p3, h1]
      refine pure_call hwd (by simp [closedL, hI]) ?_
      by_cases hw : c.check = word c.sum
      · simp [hw, p1, hlen, p3]
        refine ⟨by rw [q4, hw], ?_⟩
        refine pure_call hpl (by simp [closedL, CV.closed] at hI ⊢; exact hI) ?_
        simp [placesC, hmem]
        by_cases e0 : place N c.sum 0 = i
        · simp [e0]
          exact rd_bool (by simp [hmem, hw, e0])
        · by_cases e1 : place N c.sum 1 = i
          · simp [e0, e1, hp0, hp1]
            exact rd_bool (by simp [hmem, hw, e0, e1])
          · by_cases e2 : place N c.sum 2 = i
            · simp [e0, e1, e2, hp0, hp1, hp2]
              exact rd_bool (by simp [hmem, hw, e0, e1, e2])
            · simp [e0, e1, e2, hp0, hp1, hp2]
              exact rd_bool (by simp [hmem, hw, e0, e1, e2])
      · have hw' : ¬ word c.sum = c.check := fun h => hw h.symm
        simp [hw, hw']
        exact ⟨p4, rd_bool rfl⟩
  · have h1 : c.count ≠ 1 := fun h => hcnt (.inl h)
    have h2 : c.count ≠ -1 := fun h => hcnt (.inr h)
    rw [pureB_f1 h1 h2]
    simp [hia, p1, List.take_of_length_le, hs34, q2, q4, p3, h1, h2]
    exact rd_bool rfl
theorem pureS_some {s : Sketch} {k : Nat} {c : Cell} (h : chk s = 0) (hc : s.l[k]? = some c) : pureS s (k : Int) = (pureB s.l.length c k, 0) := by
  have h0 : (0 : Int) ≤ k := by omega
  unfold pureS
  rw [if_pos h, if_pos h0]
  simp only [Int.toNat_natCast, hc]
theorem pureS_out {s : Sketch} {i : Int} (h : chk s = 0) (hi : i < 0 ∨ s.l.length ≤ i) : pureS s i = (false, 2) := by
  unfold pureS
  rw [if_pos h]
  by_cases h0 : 0 ≤ i
  · rw [if_pos h0, List.getElem?_eq_none (by omega)]
  · rw [if_neg h0]
theorem pureS_bad {s : Sketch} {i : Int} (h : chk s = 8) : pureS s i = (false, 8) := by
  unfold pureS
  rw [if_neg (by rw [h]; simp), h]
theorem refPure_ok (s : Sketch) (i : Int) (ho : okSk s) (hl : s.l.length ≤ 1000000000) :
    PureC Tryd.prog GS 21 [encSk s, .int .i64 i] (.tu [.bool (pureS s i).1, .int .i64 (pureS s i).2]) := by
  refine pure_of Tryd.checked.mixed GS_closed ?_
  apply call_intro c21_eq r21_eq
  unfold c21 r21
  have hlen : lenM (.sl 34) (encSk s) = some (.int .i64 s.l.length) := len_encS _
  simp
  refine pure_call (refCheck_ok s ho hl) (by simp [closedL, closed_sk]) ?_
  rcases chk_8 s with h0 | h0
  · obtain ⟨hsz, hin⟩ := chk_0 h0
    by_cases h1 : i < 0
    · rw [pureS_out h0 (.inl h1)]
      have h1' : ¬ 0 ≤ i := by omega
      simp [h0, hlen, h1, h1']
      exact rd_tu2 (.same _ rfl) (.same _ rfl)
    · obtain ⟨k, rfl⟩ := Int.eq_ofNat_of_zero_le (show 0 ≤ i by omega)
      by_cases h2 : k < s.l.length
      · obtain ⟨c, hc, hcm⟩ := get_of h2
        rw [pureS_some h0 hc]
        have hp := refpure_ok s k c ho hsz hc
        have h2n : ¬ s.l.length ≤ k := by omega
        simp [h0, hlen, h1, h2, h2n, hc]
        refine pure_call hp (by simp [closedL, CV.closed, closed_sk]) ?_
        simp
        exact rd_tu2 (.same _ rfl) (.same _ rfl)
      · have h2' : s.l.length ≤ k := by omega
        rw [pureS_out h0 (.inr (by omega))]
        simp [h0, hlen, h1, h2, h2']
        exact rd_tu2 (.same _ rfl) (.same _ rfl)
  · rw [pureS_bad h0]
    simp [h0]
    exact rd_tu2 (.same _ rfl) (.same _ rfl)
set_option maxHeartbeats 4000000 in
theorem sketchPure_ok (s : Sketch) (i : Int) (ho : okSk s) (hl : s.l.length ≤ 1000000000) :
    PureC Tryd.prog GS 20 [encSk s, .int .i64 i] (.tu [.bool (pureS s i).1, .int .i64 (pureS s i).2]) := by
  refine pure_of Tryd.checked.mixed GS_closed ?_
  apply call_intro c20_eq r20_eq
  unfold c20 r20
  have hlen : lenM (.sl 34) (encSk s) = some (.int .i64 s.l.length) := len_encS _
  simp
  refine pure_call (check_ok s ho hl) (by simp [closedL, closed_sk]) ?_
  rcases chk_8 s with h0 | h0
  · obtain ⟨hsz, hin⟩ := chk_0 h0
    by_cases h1 : i < 0
    · rw [pureS_out h0 (.inl h1)]
      have h1' : ¬ 0 ≤ i := by omega
      simp [h0, hlen, h1, h1']
      exact rd_tu2 (.same _ rfl) (.same _ rfl)
    · obtain ⟨k, rfl⟩ := Int.eq_ofNat_of_zero_le (show 0 ≤ i by omega)
      by_cases h2 : k < s.l.length
      · obtain ⟨c, hc, hcm⟩ := get_of h2
        rw [pureS_some h0 hc]
        have hcl := ho c hcm
        obtain ⟨N, hN, h3, h48, hm⟩ := sized_nat hsz
        have hN' : s.l.length = N := by omega
        have hia : iaC (.sl 34) (encSk s) (.int .i64 k) = some (.rptr (encCell c) 0) := by unfold encSk; rw [ia_encS]; simp [hc]
        obtain ⟨C, hC⟩ : ∃ C, C = encCell c := ⟨_, rfl⟩
        obtain ⟨p1, p2, p3, p4⟩ := row_parts c hcl C hC
        have hpl := places_ok s.l.length c.sum hcl
        rw [hsz, hN'] at hpl
        simp only [Int.toNat_natCast] at hpl
        have hwd := word_ok c.sum hcl
        have hI := closed_id c.sum
        unfold idC at hpl hwd hI
        obtain ⟨I, hId⟩ : ∃ I, I = c.sum.map e8 := ⟨_, rfl⟩
        have hIl : I.length = 32 := by rw [hId, List.length_map, hcl]
        rw [← hId] at hpl hwd hI p3
        rw [← hC] at hia
        rw [List.drop_one] at p3
        have hs34 : splice (CV.int IntKind.i64 0 :: (rep 32 (CV.int IntKind.u8 0) ++ [CV.int IntKind.u64 0])) 0 C = C := splice_full (by rw [p1]; rfl)
        obtain ⟨_, q2⟩ := List.getElem?_eq_some_iff.1 p2
        obtain ⟨_, q4⟩ := List.getElem?_eq_some_iff.1 p4
        rw [hN'] at hlen h2
        have h2n : ¬ N ≤ k := by omega
        by_cases hcnt : c.count = 1 ∨ c.count = -1
        · have hpb : pureB N c k = (decide (k ∈ placesL N c.sum) && decide (word c.sum = c.check)) := by unfold pureB; simp [hcnt]
          rcases hcnt with h5 | h5
          all_goals
            simp [h0, hN', hlen, h1, h2, h2n, hc, hpb, hia, p1, List.take_of_length_le, hs34, q2, h5, p3]
            refine pure_call hpl (by simp [closedL, CV.closed] at hI ⊢; exact hI) ?_
            have hs := slice_arr_all (n := 3) (b := 1) (by omega)
            have hci := containsI_ok [(place N c.sum 0 : Int), (place N c.sum 1 : Int), (place N c.sum 2 : Int)] (k : Int) (by simp)
            simp [placesC, hs]
            refine pure_callB hci ?_ rfl ?_
            · refine .cons (OwnS.rdH_enc (j := 1) (xs := [(place N c.sum 0 : Int), (place N c.sum 1 : Int), (place N c.sum 2 : Int)]) ?_ closed_eI (some _) rfl rfl) (.cons (.same _ rfl) .nil)
              refine .sl 1 3 3 3 _ _ rfl rfl rfl (fun e he => ?_) (Nat.le_refl _) (by omega) rfl
              obtain ⟨x, _, rfl⟩ := List.mem_map.1 he; rfl
            · have hmem : (k : Int) ∈ [(place N c.sum 0 : Int), (place N c.sum 1 : Int), (place N c.sum 2 : Int)] ↔ k ∈ placesL N c.sum := by unfold placesL; simp; omega
              by_cases hm : k ∈ placesL N c.sum
              · simp [hmem, hm, p1, p3]
                refine pure_call hwd (by simp [closedL, hI]) ?_
                simp [p4]
                exact rd_tu2 (rd_bool (by rw [hN', hpb]; simp [hm])) (.same _ rfl)
              · simp [hmem, hm]
                exact rd_tu2 (rd_bool (by rw [hN', hpb]; simp [hm])) (.same _ rfl)
        · have h5 : c.count ≠ 1 := fun h => hcnt (.inl h)
          have h6 : c.count ≠ -1 := fun h => hcnt (.inr h)
          simp [h0, hN', hlen, h1, h2, h2n, hc, pureB_f1 h5 h6, hia, p1, List.take_of_length_le, hs34, q2, h5, h6]
          exact rd_tu2 (.same _ rfl) (.same _ rfl)
      · have h2' : s.l.length ≤ k := by omega
        rw [pureS_out h0 (.inr (by omega))]
        simp [h0, hlen, h1, h2, h2']
        exact rd_tu2 (.same _ rfl) (.same _ rfl)
  · rw [pureS_bad h0]
    simp [h0]
    exact rd_tu2 (.same _ rfl) (.same _ rfl)
end Sk
end Go.CM

/-
  Sketches: SketchTells, walked.
-/
namespace Go.CM
open Go Go.Proofs
set_option linter.unusedVariables false
set_option linter.unusedSimpArgs false
set_option maxRecDepth 100000
namespace Sk
open Sha

/-- The result of Places. -/
def plI (n : Int) (id : List B) : List Int := match sizedB n with | true => [(place n.toNat id 0 : Int), (place n.toNat id 1 : Int), (place n.toNat id 2 : Int)] | false => [0, 0, 0]
def plE (n : Int) : Int := match sizedB n with | true => 0 | false => 2
theorem plI_len (n : Int) (id : List B) : (plI n id).length = 3 := by unfold plI; split <;> rfl
theorem places2 (n : Int) (id : List B) (hid : id.length = 32) : PureC Tryd.prog GS 13 [.int .i64 n, idC id] (.tu [.ag ((plI n id).map (CV.int .i64)), .int .i64 (plE n)]) := by
  have h := places_ok n id hid
  unfold plI plE
  cases hs : sizedB n with
  | true => rw [hs] at h; exact h
  | false => rw [hs] at h; exact h
theorem refPlaces3 (n : Int) (id : List B) (hid : id.length = 32) : PureC Tryd.prog GS 14 [.int .i64 n, idC id] (.tu [.ag ((plI n id).map (CV.int .i64)), .int .i64 (plE n)]) := by
  have h := refPlaces2_ok n id hid
  unfold plI plE
  cases hs : sizedB n with
  | true => rw [hs] at h; exact h
  | false => rw [hs] at h; exact h
theorem eq_three {a b : List Int} (ha : a.length = 3) (hb : b.length = 3) : binC Tryd.prog .eql 31 (.ag (a.map (CV.int .i64))) (.ag (b.map (CV.int .i64))) = some (.bool (decide (a = b))) :=
  bin_eql_of (by kernel_rfl) (eq_ints (P := Tryd.prog) (t := 31) (e := 3) (k := .i64) (n := 3) (by kernel_rfl) (by kernel_rfl) (by kernel_rfl) (by kernel_rfl) ha hb (D := 9998))
theorem ok_put {s : Sketch} (id : List B) (by_ : Int) (ho : okSk s) (hid : id.length = 32) : okSk (put s id by_).1 := by
  have go : ∀ (ps : List Nat) (w : Q) (l : List Cell), (∀ c ∈ l, c.sum.length = 32) → ∀ t, putAt id by_ w ps l = some t → ∀ c ∈ t, c.sum.length = 32 := by
    intro ps w
    induction ps with
    | nil => intro l hl t ht; cases ht; exact hl
    | cons p ps ih =>
      intro l hl t ht
      unfold putAt at ht
      split at ht
      · cases ht
      · rename_i c hc
        split at ht
        · refine ih _ (fun x hx => ?_) t ht
          rcases List.mem_or_eq_of_mem_set hx with h | h
          · exact hl x h
          · subst h; exact xorL_len (hl c (List.mem_of_getElem? hc)) hid
        · cases ht
  unfold put
  split
  · cases h : changed s.l id by_ with
    | none => intro c hc; cases hc
    | some t => exact go _ _ _ ho t h
  · intro c hc; cases hc
theorem len_put {s : Sketch} (id : List B) (by_ : Int) : (put s id by_).1.l.length ≤ s.l.length := by
  have go : ∀ (ps : List Nat) (w : Q) (l : List Cell) t, putAt id by_ w ps l = some t → t.length = l.length := by
    intro ps w
    induction ps with
    | nil => intro l t ht; cases ht; rfl
    | cons p ps ih =>
      intro l t ht
      unfold putAt at ht
      split at ht
      · cases ht
      · split at ht
        · have := ih _ t ht; simpa using this
        · cases ht
  unfold put
  split
  · cases h : changed s.l id by_ with
    | none => simp
    | some t => have := go _ _ _ t h; simp only [Sv.l_some]; omega
  · simp
theorem ok_new (n : Int) : okSk (newS n).1 ∧ (newS n).1.l.length ≤ 1000000 := by
  unfold newS
  cases h : sizedB n with
  | false => exact ⟨fun c hc => (by cases hc), by simp⟩
  | true =>
    obtain ⟨N, rfl, h3, h48, _⟩ := sized_nat h
    refine ⟨fun c hc => ?_, by simp; omega⟩
    have hc' : c ∈ List.replicate (N : Int).toNat zeroCell := hc
    rw [(List.mem_replicate.1 hc').2]; rfl
set_option maxHeartbeats 16000000 in
theorem tells_call (s : Sketch) (n at_ : Int) (id : List B) (ho : okSk s) (hid : id.length = 32) : CallP Tryd.prog GS 3 [encSk s, .int .i64 n, idC id, .int .i64 at_] [] (c := ⟨fun r _ => r = .bool true⟩) := by
  apply call_intro c3_eq r3_eq
  unfold c3 r3
  have hcid := closed_id id
  have hcs := closed_sk s
  have hr0 : roomMax = 140737488355328 := rfl
  unfold idC at hcid ⊢
  obtain ⟨I, hI⟩ : ∃ I, I = id.map e8 := ⟨_, rfl⟩
  have hIl : I.length = 32 := by rw [hI, List.length_map, hid]
  have hIc : closedL I = true := by rw [hI]; exact closedL_map e8 (fun _ => rfl) _
  rw [← hI] at hcid ⊢
  simp [hIl]
  refine pure_call (great_ok s) (by simp [closedL, hcs]) ?_
  cases hg : great s with
  | true => simp
  | false =>
    have hl : s.l.length ≤ 60 := by unfold great at hg; have := of_decide_eq_false hg; omega
    have hpl := places2 n id hid
    have hrp := refPlaces3 n id hid
    have hwd := word_ok id hid
    have hrw := refWord_ok id hid
    have had := add_ok s id ho (by omega) hid
    have hra := refAdd_ok s id ho (by omega) hid
    have hre := remove_ok s id ho (by omega) hid
    have hrr := refRemove_ok s id ho (by omega) hid
    have hpu := sketchPure_ok s at_ ho (by omega)
    have hrpu := refPure_ok s at_ ho (by omega)
    unfold idC at hpl hrp hwd hrw had hra hre hrr
    rw [← hI] at hpl hrp hwd hrw had hra hre hrr
    have hchk := check_ok s ho (by omega)
    have hrchk := refCheck_ok s ho (by omega)
    obtain ⟨T, hT⟩ : ∃ T, T = (plI n id).map (CV.int .i64) := ⟨_, rfl⟩
    have hTl : T.length = 3 := by rw [hT, List.length_map, plI_len]
    have heq3 := eq_three (plI_len n id) (plI_len n id)
    rw [← hT] at hpl hrp heq3
    obtain ⟨a, ha⟩ : ∃ a, a = put s id 1 := ⟨_, rfl⟩
    obtain ⟨r, hr⟩ : ∃ r, r = put s id (-1) := ⟨_, rfl⟩
    obtain ⟨nw, hn⟩ : ∃ x, x = newS n := ⟨_, rfl⟩
    have hnw := new_ok n
    have hrn := refNew_ok n
    have hs1 := same_ok nw.1 nw.1 (by rw [hn]; exact (ok_new n).1) (by rw [hn]; exact (ok_new n).1) (by rw [hn]; exact (ok_new n).2)
    have hs2 := same_ok a.1 a.1 (by rw [ha]; exact ok_put id _ ho hid) (by rw [ha]; exact ok_put id _ ho hid) (by rw [ha]; have := len_put (s := s) id 1; omega)
    have hs3 := same_ok r.1 r.1 (by rw [hr]; exact ok_put id _ ho hid) (by rw [hr]; exact ok_put id _ ho hid) (by rw [hr]; have := len_put (s := s) id (-1); omega)
    have hs4 := same_ok s (some s.l) ho ho (by omega)
    simp only [decide_true] at hs1 hs2 hs3 hs4
    rw [← ha] at had hra
    rw [← hr] at hre hrr
    rw [← hn] at hnw hrn
    simp
    have o0 : OwnS 34 ([CB.cells 32 I] ++ [CB.cells 0 []]) (.sl 34 1 0 0 0 0) 1 [] := .sl 1 0 0 0 [] [] (by simp) rfl rfl (by simp) (Nat.le_refl _) (by omega) rfl
    obtain ⟨v, j, rr, h1, hown, hj, hvn⟩ := app_pre (by_ := 48) o0 (.inr (Nat.le_refl _)) (x := encSk s) (xs := s.l.map encCell) (by unfold encSk; rw [contents_encS]; simp) (rows_sk ho) (by omega) (by omega) (by rw [hr0]; simp; omega)
    simp only [List.nil_append, List.singleton_append] at h1 hown
    simp [h1]
    refine AppK.keep ?_
    simp
    refine pure_call hnw (by simp [closedL, CV.closed]) ?_
    simp
    refine pure_call hrn (by simp [closedL, CV.closed]) ?_
    simp [hIl, List.take_of_length_le]
    refine pure_call hpl (by simp [closedL, CV.closed, hIc]) ?_
    have hsT : splice [CV.int IntKind.i64 0, CV.int IntKind.i64 0, CV.int IntKind.i64 0] 0 T = T := splice_full (by rw [hTl]; rfl)
    simp [hIl, hTl, hsT, List.take_of_length_le]
    refine pure_call hrp (by simp [closedL, CV.closed, hIc]) ?_
    simp [hIl, hTl, hsT, List.take_of_length_le]
    refine pure_call hwd (by simp [closedL, CV.closed, hIc]) ?_
    simp [hIl, List.take_of_length_le]
    refine pure_call had (by simp [closedL, CV.closed, hIc, hcs]) ?_
    simp [hIl, List.take_of_length_le]
    refine pure_call hra (by simp [closedL, CV.closed, hIc, hcs]) ?_
    simp [hIl, List.take_of_length_le]
    refine pure_call hre (by simp [closedL, CV.closed, hIc, hcs]) ?_
    simp [hIl, List.take_of_length_le]
    refine pure_call hrr (by simp [closedL, CV.closed, hIc, hcs]) ?_
    simp [hIl, List.take_of_length_le]
    refine pure_call hpu (by simp [closedL, CV.closed, hIc, hcs]) ?_
    simp
    refine pure_call hrpu (by simp [closedL, CV.closed, hIc, hcs]) ?_
    simp
    refine pure_call hchk (by simp [closedL, CV.closed, hIc, hcs]) ?_
    simp
    refine pure_call hrchk (by simp [closedL, CV.closed, hIc, hcs]) ?_
    simp
    refine pure_call hs1 (by simp [closedL, CV.closed, closed_sk]) ?_
    have hT3 : T.take 3 = T := List.take_of_length_le (by rw [hTl]; exact Nat.le_refl _)
    simp only [decide_true] at heq3
    have hI32 : I.take 32 = I := List.take_of_length_le (by omega)
    simp [hTl, hT3, heq3, hIl, hI32]
    refine pure_call hrw (by simp [closedL, CV.closed, hIc]) ?_
    simp
    refine pure_call hs2 (by simp [closedL, CV.closed, closed_sk]) ?_
    simp
    refine pure_call hs3 (by simp [closedL, CV.closed, closed_sk]) ?_
    simp
    have hb1 := bin_bool_eql (P := Tryd.prog) (t := 4) (by kernel_rfl) (pureS s at_).1 (pureS s at_).1
    simp only [BEq.rfl] at hb1
    simp [hb1]
    refine pure_callB hs4 ?_ rfl ?_
    · refine .cons (.same _ hcs) (.cons ?_ .nil)
      have := ((hown.more [CB.cells 3 T, CB.cells 3 T]).rdH_enc closed_cell (some s.l) (by rw [hvn]; rfl) rfl)
      unfold encSk; simpa using this
    simp
end Sk
end Go.CM

/-
  Sketches: what comes in; the table that the program lays.
-/
namespace Go.CM
open Go Go.Proofs Go.RowKit
set_option linter.unusedVariables false
set_option linter.unusedSimpArgs false
set_option maxRecDepth 100000
namespace Sk
open Sha

theorem ty_cell (r : List CV) (h : Ty Tryd.prog [69] r) : ∃ c : Cell, r = encCell c ∧ c.sum.length = 32 := by
  have h1 := ty_struct (fs := [2, 24, 36]) (by kernel_rfl) h
  obtain ⟨n, _, rfl, _, _, h2⟩ := ty_int (k := .i64) (by kernel_rfl) h1
  have h3 := ty_array (e := 5) (n := 32) (by kernel_rfl) h2
  obtain ⟨x, _, rfl, hx, h4⟩ := ty_bytes (by kernel_rfl) 32 h3
  obtain ⟨w, _, rfl, h5⟩ := ty_u64 h4
  rw [ty_nil h5]
  exact ⟨⟨n, x, w⟩, rfl, hx⟩
theorem tyA_sk {ts : List TypeId} {cs : List CV} (h : TyA Tryd.prog (22 :: ts) cs) : ∃ (s : Sketch) (cs' : List CV), cs = encSk s :: cs' ∧ okSk s ∧ TyA Tryd.prog ts cs' := by
  obtain ⟨c, cs', rfl, h1, h2⟩ := tyA_cons h
  obtain ⟨s, cs1, hs, hl, hi, h3⟩ := ty_sl (e := 69) (z := 34) (by kernel_rfl) (by kernel_rfl) ty_cell (tyV_one (by kernel_rfl) h1)
  cases hs
  exact ⟨s, cs', rfl, hi, h2⟩
end Sk
end Go.CM

/-
  Contracts for calls that are carried out: bytes, ids, SHA-256.
-/
namespace Go.CM
open Go Go.Proofs
set_option linter.unusedVariables false
set_option linter.unusedSimpArgs false
set_option maxRecDepth 100000
open Sha

def bOf : CV → Option B
  | .int .u8 (.ofNat n) => match Nat.ble n 255 with | true => some (BitVec.ofNat 8 n) | false => none
  | _ => none
theorem bOf_ok {c : CV} {b : B} (h : bOf c = some b) : c = e8 b := by
  unfold bOf at h
  split at h
  · split at h
    · rename_i n _ hn
      have := Nat.le_of_ble_eq_true hn
      cases h
      simp only [e8, u, BitVec.toNat_ofNat]
      congr 1
      show (n : Int) = ((n % 2 ^ 8 : Nat) : Int)
      rw [Nat.mod_eq_of_lt (show n < 2 ^ 8 by omega)]
    · cases h
  · cases h
def bsOf : List CV → Option (List B)
  | [] => some []
  | c :: r => match bOf c with
    | some b => match bsOf r with | some l => some (b :: l) | none => none
    | none => none
theorem bsOf_ok : ∀ {cs : List CV} {l : List B}, bsOf cs = some l → cs = l.map e8
  | [], l, h => by cases h; rfl
  | c :: r, l, h => by
    unfold bsOf at h
    split at h
    · rename_i b hb
      split at h
      · rename_i l' hl
        cases h
        rw [bOf_ok hb, bsOf_ok hl]; rfl
      · cases h
    · cases h
def idOf : CV → Option (List B)
  | .ag cs => match bsOf cs with | some l => (match Nat.beq l.length 32 with | true => some l | false => none) | none => none
  | _ => none
theorem idOf_ok {c : CV} {l : List B} (h : idOf c = some l) : c = idC l ∧ l.length = 32 := by
  unfold idOf at h
  split at h
  · split at h
    · rename_i l' hl
      split at h
      · rename_i hn
        cases h
        exact ⟨by rw [bsOf_ok hl]; rfl, Nat.eq_of_beq_eq_true hn⟩
      · cases h
    · cases h
  · cases h
def rowsOf : List (List CV) → Option (List B)
  | [] => some []
  | [c] :: r => match bOf c with
    | some b => match rowsOf r with | some l => some (b :: l) | none => none
    | none => none
  | _ => none
theorem rowsOf_ok : ∀ {es : List (List CV)} {l : List B}, rowsOf es = some l → es = l.map enc8
  | [], l, h => by cases h; rfl
  | e :: r, l, h => by
    unfold rowsOf at h
    split at h
    · rename_i e1; cases e1
    · rename_i c r' e1
      cases e1
      split at h
      · rename_i b hb
        split at h
        · rename_i l' hl
          cases h
          rw [bOf_ok hb, rowsOf_ok hl]; rfl
        · cases h
      · cases h
    · cases h
def bytOf : CV → Option Bs
  | .nilS => some none
  | .rsl 1 es => match rowsOf es with | some l => some (some l) | none => none
  | _ => none
theorem bytOf_ok {c : CV} {s : Bs} (h : bytOf c = some s) : c = encBs s := by
  unfold bytOf at h
  split at h
  · cases h; rfl
  · split at h
    · rename_i l hl
      cases h
      rw [rowsOf_ok hl]; rfl
    · cases h
  · cases h
def sumF : List CV → Option CV
  | [c] => match bytOf c with
    | some s => match Nat.ble s.l.length 10000 with | true => some (.tu [idC (sha s.l), .int .i64 0]) | false => none
    | none => none
  | _ => none
abbrev sumO : FuncId × Bool × (List CV → Option CV) := (41, false, sumF)
theorem sumO_ok : OrcP Tryd.prog GS sumO := by
  intro args r h
  refine ⟨?_, fun h => by cases h⟩
  simp only [sumF] at h
  split at h
  · split at h
    · rename_i c s hs
      split at h
      · rename_i hn
        cases h
        rw [bytOf_ok hs]
        exact sum_ok s (Nat.le_of_ble_eq_true hn)
      · cases h
    · cases h
  · cases h
def refOfF : List CV → Option CV
  | [c] => match bytOf c with
    | some s => match Nat.ble s.l.length 1000000 with | true => some (idC (sha s.l)) | false => none
    | none => none
  | _ => none
abbrev refOfO : FuncId × Bool × (List CV → Option CV) := (53, false, refOfF)
theorem refOfO_ok : OrcP Tryd.prog GS refOfO := by
  intro args r h
  refine ⟨?_, fun h => by cases h⟩
  simp only [refOfF] at h
  split at h
  · split at h
    · rename_i c s hs
      split at h
      · rename_i hn
        cases h
        rw [bytOf_ok hs]
        exact refOf_ok s (Nat.le_of_ble_eq_true hn)
      · cases h
    · cases h
  · cases h
end Go.CM

/-
  Sketches: calls without unknowns, carried out.
-/
namespace Go.CM
open Go Go.Proofs
set_option linter.unusedVariables false
set_option linter.unusedSimpArgs false
set_option maxRecDepth 1000000
namespace Sk
open Sha

def xorF : List CV → Option CV
  | [a, b] => match idOf a, idOf b with
    | some a, some b => some (idC (xorL a b))
    | _, _ => none
  | _ => none
abbrev xorO : FuncId × Bool × (List CV → Option CV) := (57, false, xorF)
theorem xorO_ok : OrcP Tryd.prog GS xorO := by
  intro args r h
  refine ⟨?_, fun h => by cases h⟩
  simp only [xorF] at h
  split at h
  · split at h
    · rename_i a b ha hb
      cases h
      obtain ⟨rfl, h1⟩ := idOf_ok ha
      obtain ⟨rfl, h2⟩ := idOf_ok hb
      exact xor_ok _ _ h1 h2
    · cases h
  · cases h
def wordF : List CV → Option CV
  | [a] => match idOf a with
    | some a => some (.tu [e64 (word a), .int .i64 0])
    | none => none
  | _ => none
abbrev wordO : FuncId × Bool × (List CV → Option CV) := (15, false, wordF)
theorem wordO_ok : OrcP Tryd.prog GS wordO := by
  intro args r h
  refine ⟨?_, fun h => by cases h⟩
  simp only [wordF] at h
  split at h
  · split at h
    · rename_i a ha
      cases h
      obtain ⟨rfl, h1⟩ := idOf_ok ha
      exact word_ok _ h1
    · cases h
  · cases h
def placesF : List CV → Option CV
  | [.int .i64 n, a] => match idOf a with
    | some a => some (match sizedB n with | true => .tu [placesC n.toNat a, .int .i64 0] | false => .tu [.ag [.int .i64 0, .int .i64 0, .int .i64 0], .int .i64 2])
    | none => none
  | _ => none
abbrev placesO : FuncId × Bool × (List CV → Option CV) := (13, false, placesF)
theorem placesO_ok : OrcP Tryd.prog GS placesO := by
  intro args r h
  refine ⟨?_, fun h => by cases h⟩
  simp only [placesF] at h
  split at h
  · split at h
    · rename_i a ha
      cases h
      obtain ⟨rfl, h1⟩ := idOf_ok ha
      exact places_ok _ _ h1
    · cases h
  · cases h
end Sk
end Go.CM

/-
  Sketches: SketchNames, carried out in parts (printed by program).
-/
namespace Go.CM
open Go Go.Proofs
set_option linter.unusedVariables false
set_option maxRecDepth 1000000

-- (some braid/sketch.Of): 29323
abbrev kSketchNamesA0 : List CV := [ji (3)] ++ [.rsl 32 [rep 32 (.int .u8 0), rep 32 (.int .u8 0), rep 32 (.int .u8 0), rep 32 (.int .u8 0), rep 32 (.int .u8 0), rep 32 (.int .u8 0), rep 32 (.int .u8 0), rep 32 (.int .u8 0), rep 32 (.int .u8 0), rep 32 (.int .u8 0), rep 32 (.int .u8 0), rep 32 (.int .u8 0), rep 32 (.int .u8 0), rep 32 (.int .u8 0), rep 32 (.int .u8 0), rep 32 (.int .u8 0), rep 32 (.int .u8 0), rep 32 (.int .u8 0), rep 32 (.int .u8 0), rep 32 (.int .u8 0), rep 32 (.int .u8 0), rep 32 (.int .u8 0), rep 32 (.int .u8 0), rep 32 (.int .u8 0), rep 32 (.int .u8 0), rep 32 (.int .u8 0), rep 32 (.int .u8 0), rep 32 (.int .u8 0), rep 32 (.int .u8 0), rep 32 (.int .u8 0), rep 32 (.int .u8 0), rep 32 (.int .u8 0), rep 32 (.int .u8 0), rep 32 (.int .u8 0), rep 32 (.int .u8 0), rep 32 (.int .u8 0), rep 32 (.int .u8 0), rep 32 (.int .u8 0), rep 32 (.int .u8 0), rep 32 (.int .u8 0), rep 32 (.int .u8 0), rep 32 (.int .u8 0), rep 32 (.int .u8 0), rep 32 (.int .u8 0), rep 32 (.int .u8 0), rep 32 (.int .u8 0), rep 32 (.int .u8 0), rep 32 (.int .u8 0), rep 32 (.int .u8 0), rep 32 (.int .u8 0), rep 32 (.int .u8 0), rep 32 (.int .u8 0), rep 32 (.int .u8 0), rep 32 (.int .u8 0), rep 32 (.int .u8 0), rep 32 (.int .u8 0), rep 32 (.int .u8 0), rep 32 (.int .u8 0), rep 32 (.int .u8 0), rep 32 (.int .u8 0)]]
abbrev kSketchNamesR0 : CV := .tu ([.rsl 34 [[ji (60)] ++ rep 32 (.int .u8 0) ++ [.int .u64 (0)], [ji (60)] ++ rep 32 (.int .u8 0) ++ [.int .u64 (0)], [ji (60)] ++ rep 32 (.int .u8 0) ++ [.int .u64 (0)]]] ++ [ji (0)])
theorem kSketchNames0 : PureN Tryd.prog GS 27 kSketchNamesA0 kSketchNamesR0 :=
  pureN_runs Tryd.checked.mixed GS_closed (orcOf_ok (AllO.mem (allO_cons Sk.xorO_ok (allO_cons Sk.wordO_ok (allO_cons Sk.placesO_ok (allO_nil)))))) tbl_ok (orc := orcOf [Sk.xorO, Sk.wordO, Sk.placesO]) (fuel := 100000) (k := 60) (by kernel_rfl)
-- (some braid/sketch.Peel): 7018
abbrev kSketchNamesA1 : List CV := [.rsl 34 [[ji (0)] ++ rep 32 (.int .u8 0) ++ [.int .u64 (0)], [ji (1)] ++ jb [0, 0, 0, 5, 0, 0, 0, 6, 0, 0, 0, 7, 0, 0, 0, 0, 0, 0, 0, 0, 0, 0, 0, 0, 0, 0, 0, 0, 0, 0, 0, 0] ++ [.int .u64 (5119487410153467689)], [ji (0)] ++ rep 32 (.int .u8 0) ++ [.int .u64 (0)], [ji (0)] ++ rep 32 (.int .u8 0) ++ [.int .u64 (0)], [ji (0)] ++ rep 32 (.int .u8 0) ++ [.int .u64 (0)], [ji (0)] ++ rep 32 (.int .u8 0) ++ [.int .u64 (0)], [ji (1)] ++ jb [0, 0, 0, 5, 0, 0, 0, 6, 0, 0, 0, 7, 0, 0, 0, 0, 0, 0, 0, 0, 0, 0, 0, 0, 0, 0, 0, 0, 0, 0, 0, 0] ++ [.int .u64 (5119487410153467689)], [ji (0)] ++ rep 32 (.int .u8 0) ++ [.int .u64 (0)], [ji (0)] ++ rep 32 (.int .u8 0) ++ [.int .u64 (0)], [ji (0)] ++ rep 32 (.int .u8 0) ++ [.int .u64 (0)], [ji (0)] ++ rep 32 (.int .u8 0) ++ [.int .u64 (0)], [ji (1)] ++ jb [0, 0, 0, 5, 0, 0, 0, 6, 0, 0, 0, 7, 0, 0, 0, 0, 0, 0, 0, 0, 0, 0, 0, 0, 0, 0, 0, 0, 0, 0, 0, 0] ++ [.int .u64 (5119487410153467689)]]]
abbrev kSketchNamesR1 : CV := .tu ([.rsl 32 [jb [0, 0, 0, 5, 0, 0, 0, 6, 0, 0, 0, 7, 0, 0, 0, 0, 0, 0, 0, 0, 0, 0, 0, 0, 0, 0, 0, 0, 0, 0, 0, 0]]] ++ [.nilS] ++ [.rsl 34 [[ji (0)] ++ rep 32 (.int .u8 0) ++ [.int .u64 (0)], [ji (0)] ++ rep 32 (.int .u8 0) ++ [.int .u64 (0)], [ji (0)] ++ rep 32 (.int .u8 0) ++ [.int .u64 (0)], [ji (0)] ++ rep 32 (.int .u8 0) ++ [.int .u64 (0)], [ji (0)] ++ rep 32 (.int .u8 0) ++ [.int .u64 (0)], [ji (0)] ++ rep 32 (.int .u8 0) ++ [.int .u64 (0)], [ji (0)] ++ rep 32 (.int .u8 0) ++ [.int .u64 (0)], [ji (0)] ++ rep 32 (.int .u8 0) ++ [.int .u64 (0)], [ji (0)] ++ rep 32 (.int .u8 0) ++ [.int .u64 (0)], [ji (0)] ++ rep 32 (.int .u8 0) ++ [.int .u64 (0)], [ji (0)] ++ rep 32 (.int .u8 0) ++ [.int .u64 (0)], [ji (0)] ++ rep 32 (.int .u8 0) ++ [.int .u64 (0)]]] ++ [ji (0)])
theorem kSketchNames1 : PureN Tryd.prog GS 31 kSketchNamesA1 kSketchNamesR1 :=
  pureN_runs Tryd.checked.mixed GS_closed (orcOf_ok (AllO.mem (allO_cons Sk.xorO_ok (allO_cons Sk.wordO_ok (allO_cons Sk.placesO_ok (allO_nil)))))) tbl_ok (orc := orcOf [Sk.xorO, Sk.wordO, Sk.placesO]) (fuel := 100000) (k := 60) (by kernel_rfl)
-- (some braid/sketch.Peel): 7021
abbrev kSketchNamesA2 : List CV := [.rsl 34 [[ji (0)] ++ rep 32 (.int .u8 0) ++ [.int .u64 (0)], [ji (-1)] ++ jb [0, 0, 0, 5, 0, 0, 0, 6, 0, 0, 0, 7, 0, 0, 0, 0, 0, 0, 0, 0, 0, 0, 0, 0, 0, 0, 0, 0, 0, 0, 0, 0] ++ [.int .u64 (5119487410153467689)], [ji (0)] ++ rep 32 (.int .u8 0) ++ [.int .u64 (0)], [ji (0)] ++ rep 32 (.int .u8 0) ++ [.int .u64 (0)], [ji (0)] ++ rep 32 (.int .u8 0) ++ [.int .u64 (0)], [ji (0)] ++ rep 32 (.int .u8 0) ++ [.int .u64 (0)], [ji (-1)] ++ jb [0, 0, 0, 5, 0, 0, 0, 6, 0, 0, 0, 7, 0, 0, 0, 0, 0, 0, 0, 0, 0, 0, 0, 0, 0, 0, 0, 0, 0, 0, 0, 0] ++ [.int .u64 (5119487410153467689)], [ji (0)] ++ rep 32 (.int .u8 0) ++ [.int .u64 (0)], [ji (0)] ++ rep 32 (.int .u8 0) ++ [.int .u64 (0)], [ji (0)] ++ rep 32 (.int .u8 0) ++ [.int .u64 (0)], [ji (0)] ++ rep 32 (.int .u8 0) ++ [.int .u64 (0)], [ji (-1)] ++ jb [0, 0, 0, 5, 0, 0, 0, 6, 0, 0, 0, 7, 0, 0, 0, 0, 0, 0, 0, 0, 0, 0, 0, 0, 0, 0, 0, 0, 0, 0, 0, 0] ++ [.int .u64 (5119487410153467689)]]]
abbrev kSketchNamesR2 : CV := .tu ([.nilS] ++ [.rsl 32 [jb [0, 0, 0, 5, 0, 0, 0, 6, 0, 0, 0, 7, 0, 0, 0, 0, 0, 0, 0, 0, 0, 0, 0, 0, 0, 0, 0, 0, 0, 0, 0, 0]]] ++ [.rsl 34 [[ji (0)] ++ rep 32 (.int .u8 0) ++ [.int .u64 (0)], [ji (0)] ++ rep 32 (.int .u8 0) ++ [.int .u64 (0)], [ji (0)] ++ rep 32 (.int .u8 0) ++ [.int .u64 (0)], [ji (0)] ++ rep 32 (.int .u8 0) ++ [.int .u64 (0)], [ji (0)] ++ rep 32 (.int .u8 0) ++ [.int .u64 (0)], [ji (0)] ++ rep 32 (.int .u8 0) ++ [.int .u64 (0)], [ji (0)] ++ rep 32 (.int .u8 0) ++ [.int .u64 (0)], [ji (0)] ++ rep 32 (.int .u8 0) ++ [.int .u64 (0)], [ji (0)] ++ rep 32 (.int .u8 0) ++ [.int .u64 (0)], [ji (0)] ++ rep 32 (.int .u8 0) ++ [.int .u64 (0)], [ji (0)] ++ rep 32 (.int .u8 0) ++ [.int .u64 (0)], [ji (0)] ++ rep 32 (.int .u8 0) ++ [.int .u64 (0)]]] ++ [ji (0)])
theorem kSketchNames2 : PureN Tryd.prog GS 31 kSketchNamesA2 kSketchNamesR2 :=
  pureN_runs Tryd.checked.mixed GS_closed (orcOf_ok (AllO.mem (allO_cons Sk.xorO_ok (allO_cons Sk.wordO_ok (allO_cons Sk.placesO_ok (allO_nil)))))) tbl_ok (orc := orcOf [Sk.xorO, Sk.wordO, Sk.placesO]) (fuel := 100000) (k := 60) (by kernel_rfl)
-- (some braid/sketch.Peel): 5362
abbrev kSketchNamesA3 : List CV := [.rsl 34 [[ji (0)] ++ rep 32 (.int .u8 0) ++ [.int .u64 (0)], [ji (2)] ++ jb [0, 0, 0, 12, 0, 0, 0, 0, 0, 0, 0, 0, 0, 0, 0, 0, 0, 0, 0, 0, 0, 0, 0, 0, 0, 0, 0, 0, 0, 0, 0, 0] ++ [.int .u64 (742507902314508248)], [ji (0)] ++ rep 32 (.int .u8 0) ++ [.int .u64 (0)], [ji (0)] ++ rep 32 (.int .u8 0) ++ [.int .u64 (0)], [ji (0)] ++ rep 32 (.int .u8 0) ++ [.int .u64 (0)], [ji (0)] ++ rep 32 (.int .u8 0) ++ [.int .u64 (0)], [ji (2)] ++ jb [0, 0, 0, 12, 0, 0, 0, 0, 0, 0, 0, 0, 0, 0, 0, 0, 0, 0, 0, 0, 0, 0, 0, 0, 0, 0, 0, 0, 0, 0, 0, 0] ++ [.int .u64 (742507902314508248)], [ji (0)] ++ rep 32 (.int .u8 0) ++ [.int .u64 (0)], [ji (0)] ++ rep 32 (.int .u8 0) ++ [.int .u64 (0)], [ji (0)] ++ rep 32 (.int .u8 0) ++ [.int .u64 (0)], [ji (0)] ++ rep 32 (.int .u8 0) ++ [.int .u64 (0)], [ji (2)] ++ jb [0, 0, 0, 12, 0, 0, 0, 0, 0, 0, 0, 0, 0, 0, 0, 0, 0, 0, 0, 0, 0, 0, 0, 0, 0, 0, 0, 0, 0, 0, 0, 0] ++ [.int .u64 (742507902314508248)]]]
abbrev kSketchNamesR3 : CV := .tu ([.nilS] ++ [.nilS] ++ [.rsl 34 [[ji (0)] ++ rep 32 (.int .u8 0) ++ [.int .u64 (0)], [ji (2)] ++ jb [0, 0, 0, 12, 0, 0, 0, 0, 0, 0, 0, 0, 0, 0, 0, 0, 0, 0, 0, 0, 0, 0, 0, 0, 0, 0, 0, 0, 0, 0, 0, 0] ++ [.int .u64 (742507902314508248)], [ji (0)] ++ rep 32 (.int .u8 0) ++ [.int .u64 (0)], [ji (0)] ++ rep 32 (.int .u8 0) ++ [.int .u64 (0)], [ji (0)] ++ rep 32 (.int .u8 0) ++ [.int .u64 (0)], [ji (0)] ++ rep 32 (.int .u8 0) ++ [.int .u64 (0)], [ji (2)] ++ jb [0, 0, 0, 12, 0, 0, 0, 0, 0, 0, 0, 0, 0, 0, 0, 0, 0, 0, 0, 0, 0, 0, 0, 0, 0, 0, 0, 0, 0, 0, 0, 0] ++ [.int .u64 (742507902314508248)], [ji (0)] ++ rep 32 (.int .u8 0) ++ [.int .u64 (0)], [ji (0)] ++ rep 32 (.int .u8 0) ++ [.int .u64 (0)], [ji (0)] ++ rep 32 (.int .u8 0) ++ [.int .u64 (0)], [ji (0)] ++ rep 32 (.int .u8 0) ++ [.int .u64 (0)], [ji (2)] ++ jb [0, 0, 0, 12, 0, 0, 0, 0, 0, 0, 0, 0, 0, 0, 0, 0, 0, 0, 0, 0, 0, 0, 0, 0, 0, 0, 0, 0, 0, 0, 0, 0] ++ [.int .u64 (742507902314508248)]]] ++ [ji (0)])
theorem kSketchNames3 : PureN Tryd.prog GS 31 kSketchNamesA3 kSketchNamesR3 :=
  pureN_runs Tryd.checked.mixed GS_closed (orcOf_ok (AllO.mem (allO_nil))) tbl_ok (orc := orcOf []) (fuel := 100000) (k := 60) (by kernel_rfl)
-- (some braid/braidlaw39.alive): 9375
abbrev kSketchNamesA4 : List CV := []
abbrev kSketchNamesR4 : CV := .bool true
theorem kSketchNames4 : PureN Tryd.prog GS 34 kSketchNamesA4 kSketchNamesR4 :=
  pureN_runs Tryd.checked.mixed GS_closed (orcOf_ok (AllO.mem (allO_cons Sk.xorO_ok (allO_cons Sk.wordO_ok (allO_cons Sk.placesO_ok (allO_cons (pickO_ok (allK_cons kSketchNames1 (allK_cons kSketchNames2 (allK_cons kSketchNames3 (allK_nil))))) (allO_nil))))))) tbl_ok (orc := orcOf [Sk.xorO, Sk.wordO, Sk.placesO, (31, true, pickA [(kSketchNamesA1, kSketchNamesR1), (kSketchNamesA2, kSketchNamesR2), (kSketchNamesA3, kSketchNamesR3)])]) (fuel := 100000) (k := 60) (by kernel_rfl)
theorem kSketchNames_run : CallP Tryd.prog GS 7 [] [] (c := ⟨fun r _ => r = .bool true⟩) :=
  callP_of_runs (orcOf_ok (AllO.mem (allO_cons sumO_ok (allO_cons Sk.xorO_ok (allO_cons Sk.wordO_ok (allO_cons Sk.placesO_ok (allO_cons (pickO_ok (allK_cons kSketchNames4 (allK_nil))) (allO_cons (pickO_ok (allK_cons kSketchNames0 (allK_nil))) (allO_nil))))))))) tbl_ok (orc := orcOf [sumO, Sk.xorO, Sk.wordO, Sk.placesO, (34, true, pickA [(kSketchNamesA4, kSketchNamesR4)]), (27, true, pickA [(kSketchNamesA0, kSketchNamesR0)])]) (fuel := 100000) (k := 60) (by kernel_rfl)
end Go.CM
