/-
  Sketches: New, Check, walked.
-/
import Derived.Test.YtacddnkgkogabaaDoorKi
import Derived.Test.YtacddnkgkogabaaDoorRows
import Derived.Shelf.SlSortCmp.WholeK
import Derived.Shelf.SlGeneric
namespace Go.CM
open Go Go.Proofs
set_option linter.unusedVariables false
set_option linter.unusedSimpArgs false
set_option maxRecDepth 100000
namespace Sk
open Sha

def newS (n : Int) : Sketch × Int := match sizedB n with | true => (some (List.replicate n.toNat zeroCell), 0) | false => (none, 2)
theorem rd_tu2 {l : Hl} {a b a' b' : CV} (h1 : Rd l a a') (h2 : Rd l b b') : Rd l (.tu [a, b]) (.tu [a', b']) := by
  refine rd_tu rfl fun j c c' hc hc' => ?_
  rcases j with _ | _ | j
  · simp at hc hc'; subst hc hc'; exact h1
  · simp at hc hc'; subst hc hc'; exact h2
  · simp at hc
theorem mks_nat {z by_ n : Nat} {k k' : IntKind} {zero : List CV} {l : Hl} (h1 : n < 9223372036854775808) (h2 : by_ * n ≤ roomMax) : mksC z by_ zero l (.int k (n : Int)) (.int k' (n : Int)) = some (.sl z l.length 0 n n (n * z), l ++ [.cells (n * z) (repeatC zero n)]) := by
  have h3 : ((by_ : Int) * (n : Int)) ≤ (roomMax : Int) := by rw [← Int.natCast_mul]; omega
  simp only [mksC, Int.toNat_natCast]
  rw [if_pos ⟨by omega, by omega, by omega, h3⟩]
theorem rd_new {l : Hl} {j n : Nat} {zero : List CV} (hzero : zero = encCell zeroCell) (h : l[j]? = some (.cells (n * 34) (repeatC zero n))) : Rd l (.sl 34 j 0 n n (n * 34)) (encSk (some (List.replicate n zeroCell))) := by
  refine OwnQ.rd_enc (j := j) (xs := List.replicate n zeroCell) ?_ closed_cell (some _) rfl rfl
  rw [hzero] at h
  have hz : (encCell zeroCell).length = 34 := rfl
  refine .sl j 0 n n _ _ _ h (by rw [repeatC_len', hz]) (by simp) (fun e he => ?_) (Nat.le_refl _) (by omega) ?_
  · obtain ⟨c, hc, rfl⟩ := List.mem_map.1 he
    rw [(List.mem_replicate.1 hc).2]; rfl
  · rw [List.drop_zero, repeatC_flat, List.map_replicate, List.take_of_length_le]
    rw [← repeatC_flat, repeatC_len', hz]; exact Nat.le_refl _
theorem new_ok (n : Int) : PureC Tryd.prog GS 11 [.int .i64 n] (.tu [encSk (newS n).1, .int .i64 (newS n).2]) := by
  refine pure_of Tryd.checked.mixed GS_closed ?_
  apply call_intro c11_eq r11_eq
  unfold c11 r11 newS
  simp
  refine pure_call (sized_ok n) rfl ?_
  cases hsz : sizedB n with
  | false =>
    simp
    exact rd_eq rfl rfl
  | true =>
    obtain ⟨N, rfl, h3, h48, hm⟩ := sized_nat hsz
    have hm := fun z => mks_nat (z := 34) (by_ := 48) (n := N) (k := .i64) (k' := .i64) (zero := z) (l := []) (by omega) (by rw [show roomMax = 140737488355328 from rfl]; omega)
    simp [hm]
    exact rd_tu2 (rd_new (by rfl) rfl) (.same _ rfl)
theorem refNew_ok (n : Int) : PureC Tryd.prog GS 12 [.int .i64 n] (.tu [encSk (newS n).1, .int .i64 (newS n).2]) := by
  refine pure_of Tryd.checked.mixed GS_closed ?_
  apply call_intro c12_eq r12_eq
  unfold c12 r12 newS
  simp
  refine pure_call (refSize_ok n) rfl ?_
  cases hsz : sizedB n with
  | false =>
    simp
    exact rd_eq rfl rfl
  | true =>
    obtain ⟨N, rfl, h3, h48, hm⟩ := sized_nat hsz
    have hm := fun z => mks_nat (z := 34) (by_ := 48) (n := N) (k := .i64) (k' := .i64) (zero := z) (l := []) (by omega) (by rw [show roomMax = 140737488355328 from rfl]; omega)
    simp [hm]
    exact rd_tu2 (rd_new (by rfl) rfl) (.same _ rfl)

def inR (c : Cell) : Bool := rangedB c.count
def chk (s : Sketch) : Int := if sizedB s.l.length = true ∧ s.l.all inR = true then 0 else 8
theorem chk_8 (s : Sketch) : chk s = 0 ∨ chk s = 8 := by unfold chk; split <;> simp
def bad (c : Cell) : Bool := !inR c
theorem check1_ok (c : Cell) : PureC Tryd.prog GS 51 [.ag (encCell c)] (.bool (bad c)) := by
  refine pure_of Tryd.checked.mixed GS_closed ?_
  apply call_intro c51_eq r51_eq
  unfold c51 r51
  have h0 : (encCell c)[0]? = some (.int .i64 c.count) := rfl
  obtain ⟨A, hA⟩ : ∃ A, A = encCell c := ⟨_, rfl⟩
  rw [← hA] at h0 ⊢
  simp [h0]
  refine pure_call (ranged_ok c.count) rfl ?_
  simp
  exact rd_bool rfl
theorem fn_check1 : funOkB Tryd.prog 51 = true := by kernel_rfl
def idx (l : List Cell) : Int := match l.findIdx? bad with | some i => (i : Int) | none => -1
theorem idx_some {l : List Cell} {k : Nat} {s : Cell} (hs : l[k]? = some s) (hl : bad s = true) (hno : ∀ j s, j < k → l[j]? = some s → bad s = false) : idx l = k := by
  have : l.findIdx? bad = some k := by
    rw [List.findIdx?_eq_some_iff_getElem]
    obtain ⟨h1, rfl⟩ := List.getElem?_eq_some_iff.1 hs
    refine ⟨h1, hl, fun j hj => ?_⟩
    rw [hno j l[j] hj (List.getElem?_eq_getElem (by omega))]; simp
  unfold idx; rw [this]
theorem idx_none {l : List Cell} (hno : ∀ j s, j < l.length → l[j]? = some s → bad s = false) : idx l = -1 := by
  have : l.findIdx? bad = none := by
    rw [List.findIdx?_eq_none_iff]
    intro x hx
    obtain ⟨j, hj⟩ := List.mem_iff_getElem?.1 hx
    exact hno j x (List.getElem?_eq_some_iff.1 hj).1 hj
  unfold idx; rw [this]
theorem idx_iff (l : List Cell) : 0 ≤ idx l ↔ l.all inR = false := by
  unfold idx
  cases h : l.findIdx? bad with
  | none =>
    rw [List.findIdx?_eq_none_iff] at h
    simp only [List.all_eq_false]
    constructor
    · intro h1; omega
    · rintro ⟨x, hx, hb⟩
      have := h x hx
      unfold bad at this
      cases hi : inR x <;> simp_all
  | some i =>
    obtain ⟨h1, h2, _⟩ := List.findIdx?_eq_some_iff_getElem.1 h
    simp only [List.all_eq_false]
    refine ⟨fun _ => ⟨l[i], List.getElem_mem h1, ?_⟩, fun _ => by omega⟩
    unfold bad at h2
    cases hi : inR l[i] <;> simp_all
theorem index_ok (s : Sketch) (ho : okSk s) (hl : s.l.length ≤ 1000000000) : PureC Tryd.prog GS 67 [encSk s, .fn 51 [] []] (.int .i64 (idx s.l)) := by
  refine pure_of Tryd.checked.mixed GS_closed ?_
  apply call_intro c67_eq r67_eq
  unfold c67 r67
  have hlen : lenM (.sl 34) (encSk s) = some (.int .i64 s.l.length) := len_encS _
  simp [hlen]
  refine loop_up s.l.length (fun k σ l => σ 0 = encSk s ∧ σ 1 = .fn 51 [] [] ∧ σ 7 = .int .i64 s.l.length ∧ σ 8 = .int .i64 k ∧ ∀ j c, j < k → s.l[j]? = some c → bad c = false) ?_ (by simp)
  rintro k σ l hk ⟨g0, g1, g7, g8, hno⟩
  obtain ⟨σ, rfl⟩ := upds4 g0 g1 g7 g8
  clear g0 g1 g7 g8
  unfold l67_0
  by_cases h : k < s.l.length
  · obtain ⟨c, hc, hcm⟩ := get_of h
    have hia : iaC (.sl 34) (encSk s) (.int .i64 k) = some (.rptr (encCell c) 0) := by unfold encSk; rw [ia_encS]; simp [hc]
    have hwk : IntKind.i64.wrap ((k : Int) + 1) = k + 1 := wrap_i64 (by omega) (by omega)
    have hcl := cell_len (ho c hcm)
    simp [h, hia, hcl, List.take_of_length_le]
    refine ⟨fn_check1, pure_call (check1_ok c) (by simp [closedL, CV.closed, closed_cell]) ?_⟩
    cases hls : bad c with
    | true =>
      simp
      rw [idx_some hc hls hno]
      exact rd_eq rfl rfl
    | false =>
      simp [h, hwk]
      intro j s' hj hs'
      rcases Nat.lt_or_ge j k with h1 | h1
      · exact hno j s' h1 hs'
      · have : j = k := by omega
        subst this
        rw [hc] at hs'; cases hs'; exact hls
  · simp [h]
    rw [idx_none (fun j c hj hs => hno j c (by omega) hs)]
    exact rd_eq rfl rfl
theorem contains_ok (s : Sketch) (ho : okSk s) (hl : s.l.length ≤ 1000000000) : PureC Tryd.prog GS 50 [encSk s, .fn 51 [] []] (.bool (!s.l.all inR)) := by
  refine pure_of Tryd.checked.mixed GS_closed ?_
  apply call_intro c50_eq r50_eq
  unfold c50 r50
  simp
  refine pure_call (index_ok s ho hl) (by simp [closedL, CV.closed, closed_sk]) ?_
  have := idx_iff s.l
  simp
  refine rd_bool ?_
  cases h : s.l.all inR <;> simp_all
theorem check_ok (s : Sketch) (ho : okSk s) (hl : s.l.length ≤ 1000000000) : PureC Tryd.prog GS 22 [encSk s] (.int .i64 (chk s)) := by
  refine pure_of Tryd.checked.mixed GS_closed ?_
  apply call_intro c22_eq r22_eq
  unfold c22 r22
  have hlen : lenM (.sl 34) (encSk s) = some (.int .i64 s.l.length) := len_encS _
  simp [hlen]
  refine pure_call (sized_ok s.l.length) rfl ?_
  unfold chk
  cases h1 : sizedB s.l.length with
  | false =>
    simp
    exact rd_eq rfl rfl
  | true =>
    simp
    refine pure_call (contains_ok s ho hl) (by simp [closedL, CV.closed, closed_sk]) ?_
    cases h2 : s.l.all inR <;> simp [-List.all_eq_true, -List.all_eq_false]
    · exact rd_eq rfl rfl
    · exact rd_eq rfl rfl
theorem inR_iff (c : Cell) : inR c = true ↔ -1000000 ≤ c.count ∧ c.count ≤ 1000000 := by unfold inR rangedB; simp
theorem refCheck_ok (s : Sketch) (ho : okSk s) (hl : s.l.length ≤ 1000000000) : PureC Tryd.prog GS 23 [encSk s] (.int .i64 (chk s)) := by
  refine pure_of Tryd.checked.mixed GS_closed ?_
  apply call_intro c23_eq r23_eq
  unfold c23 r23
  have hlen : lenM (.sl 34) (encSk s) = some (.int .i64 s.l.length) := len_encS _
  simp [hlen]
  refine pure_call (refSize_ok s.l.length) rfl ?_
  unfold chk
  cases h1 : sizedB s.l.length with
  | false =>
    simp
    exact rd_eq rfl rfl
  | true =>
    simp [-List.all_eq_true]
    refine loop_up s.l.length (fun k σ l => σ 0 = encSk s ∧ σ 3 = .int .i64 k ∧ ∀ j c, j < k → s.l[j]? = some c → inR c = true) ?_ (by simp)
    rintro k σ l hk ⟨g0, g3, hall⟩
    obtain ⟨σ, rfl⟩ := upds2 g0 g3
    clear g0 g3
    unfold l23_0
    by_cases h : k < s.l.length
    · obtain ⟨c, hc, hcm⟩ := get_of h
      have hia : iaC (.sl 34) (encSk s) (.int .i64 k) = some (.rptr (encCell c) 0) := by unfold encSk; rw [ia_encS]; simp [hc]
      have hwk : IntKind.i64.wrap ((k : Int) + 1) = k + 1 := wrap_i64 (by omega) (by omega)
      have h0 : (encCell c)[0]? = some (.int .i64 c.count) := rfl
      have hbad : inR c = false → s.l.all inR = false := fun hb => by
        rw [List.all_eq_false]; exact ⟨c, hcm, by simp [hb]⟩
      obtain ⟨A, hA⟩ : ∃ A, A = encCell c := ⟨_, rfl⟩
      rw [← hA] at h0 hia
      by_cases h1 : c.count < -1000000
      · have hb := hbad (by cases hi : inR c with | false => rfl | true => rw [inR_iff] at hi; omega)
        simp [hlen, h, hia, h0, h1, hb, -List.all_eq_true, -List.all_eq_false]
        exact rd_eq rfl rfl
      · by_cases h2 : 1000000 < c.count
        · have hb := hbad (by cases hi : inR c with | false => rfl | true => rw [inR_iff] at hi; omega)
          simp [hlen, h, hia, h0, h1, h2, hb, -List.all_eq_true, -List.all_eq_false]
          exact rd_eq rfl rfl
        · simp [hlen, h, hia, h0, h1, h2, hwk, -List.all_eq_true, -List.all_eq_false]
          intro j c' hj hc'
          rcases Nat.lt_or_ge j k with h3 | h3
          · exact hall j c' h3 hc'
          · have : j = k := by omega
            subst this
            rw [hc] at hc'; cases hc'
            rw [inR_iff]; omega
    · have hg : s.l.all inR = true := by
        rw [List.all_eq_true]
        intro c hc
        obtain ⟨j, hj⟩ := List.mem_iff_getElem?.1 hc
        exact hall j c (by have := (List.getElem?_eq_some_iff.1 hj).1; omega) hj
      simp [hlen, h, hg, -List.all_eq_true]
      exact rd_eq rfl rfl
end Sk
end Go.CM

/-
  Sketches: adding and removing, walked.
-/
namespace Go.CM
open Go Go.Proofs
set_option linter.unusedVariables false
set_option linter.unusedSimpArgs false
set_option maxRecDepth 100000

/-- One row of a slice of one's own, in its block. -/
theorem OwnS.split {z : Nat} {l : Hl} {v : CV} {j : Nat} {es : List (List CV)} (h : OwnS z l v j es) {i : Nat} {e : List CV} (he : es[i]? = some e) :
    ∃ n cap sz A B, v = .sl z j 0 n cap sz ∧ es.length = n ∧ l[j]? = some (.cells sz (A ++ (e ++ B))) ∧ A.length = i * z ∧ i * z + z ≤ sz ∧ (A ++ (e ++ B)).length = sz ∧ ∀ e' l', e'.length = z → l'[j]? = some (.cells sz (A ++ (e' ++ B))) → OwnS z l' v j (es.set i e') := by
  cases h with
  | nil j => simp at he
  | sl j n cap sz cs es hb hl hn hz hc hcap hcs =>
    have hi := (List.getElem?_eq_some_iff.1 he).1
    have hes : es = es.take i ++ (e :: es.drop (i + 1)) := by
      have : es.drop i = e :: es.drop (i + 1) := by rw [List.drop_eq_getElem_cons hi]; congr 1; exact (List.getElem?_eq_some_iff.1 he).2
      rw [← this, List.take_append_drop]
    have hfl : es.flatten = (es.take i).flatten ++ (e ++ (es.drop (i + 1)).flatten) := by
      conv => lhs; rw [hes]
      simp
    have hA : (es.take i).flatten.length = i * z := by
      rw [flatten_len (z := z) (fun x hx => hz x (List.mem_of_mem_take hx)), List.length_take]
      congr 1; omega
    have hez := hz e (List.mem_of_getElem? he)
    have hcs2 : cs = (es.take i).flatten ++ (e ++ ((es.drop (i + 1)).flatten ++ cs.drop (n * z))) := by
      conv => lhs; rw [← List.take_append_drop (n * z) cs, hcs, hfl]
      simp
    have hm : i * z + z ≤ n * z := by rw [← hn, ← Nat.succ_mul]; exact Nat.mul_le_mul_right _ hi
    have hm2 : n * z ≤ cap * z := Nat.mul_le_mul_right _ hc
    refine ⟨n, cap, sz, _, _, rfl, hn, by rw [← hcs2]; exact hb, hA, by omega, by rw [← hcs2]; exact hl, fun e' l' he' hl' => ?_⟩
    have hset : es.set i e' = es.take i ++ (e' :: es.drop (i + 1)) := by
      rw [List.set_eq_take_append_cons_drop, if_pos hi]
    have hflen : (es.set i e').flatten = (es.take i).flatten ++ (e' ++ (es.drop (i + 1)).flatten) := by rw [hset]; simp
    have hl2 : (es.drop (i + 1)).flatten.length = (n - (i + 1)) * z := by
      rw [flatten_len (z := z) (fun x hx => hz x (List.mem_of_mem_drop hx)), List.length_drop, hn]
    have hmm : (n - (i + 1)) * z + (i * z + z) = n * z := by
      rw [← Nat.succ_mul, ← Nat.add_mul]; congr 1; omega
    refine .sl j n cap sz _ _ hl' ?_ (by simpa using hn) (fun x hx => ?_) hc hcap ?_
    · have := congrArg List.length hcs2
      simp only [List.length_append] at this ⊢
      omega
    · rcases List.mem_or_eq_of_mem_set hx with h | h
      · exact hz x h
      · rw [h]; exact he'
    · rw [hflen]
      have : (List.take i es).flatten ++ (e' ++ ((List.drop (i + 1) es).flatten ++ List.drop (n * z) cs)) = ((List.take i es).flatten ++ (e' ++ (List.drop (i + 1) es).flatten)) ++ List.drop (n * z) cs := by simp
      rw [this, List.take_append_of_le_length (by simp only [List.length_append]; omega), List.take_of_length_le (by simp only [List.length_append]; omega)]

namespace Sk
open Sha

theorem splice_mid (A M M' B : List CV) (n : Nat) (hn : A.length = n) (h : M'.length = M.length) : splice (A ++ (M ++ B)) n M' = A ++ (M' ++ B) := by
  subst hn
  unfold splice
  have h1 : A ++ (M ++ B) = (A ++ M) ++ B := by simp
  have h2 : A.length + M'.length = (A ++ M).length := by simp [h]
  rw [List.take_left, h1, h2, List.drop_left]
  simp
/-- A cell's parts, within its block. -/
theorem row_ops (A S B : List CV) (x y : CV) (b : Nat) (hb : A.length = b) (hS : S.length = 32) :
    (A ++ ((x :: (S ++ [y])) ++ B))[b]? = some x ∧
    (∀ x', splice (A ++ ((x :: (S ++ [y])) ++ B)) b [x'] = A ++ ((x' :: (S ++ [y])) ++ B)) ∧
    ((A ++ ((x :: (S ++ [y])) ++ B)).drop (b + 1)).take 32 = S ∧
    (∀ S', S'.length = 32 → splice (A ++ ((x :: (S ++ [y])) ++ B)) (b + 1) S' = A ++ ((x :: (S' ++ [y])) ++ B)) ∧
    (A ++ ((x :: (S ++ [y])) ++ B))[b + 33]? = some y ∧
    (∀ y', splice (A ++ ((x :: (S ++ [y])) ++ B)) (b + 33) [y'] = A ++ ((x :: (S ++ [y'])) ++ B)) := by
  subst hb
  have e1 : A ++ ((x :: (S ++ [y])) ++ B) = A ++ ([x] ++ (S ++ ([y] ++ B))) := by simp
  have e2 : A ++ ((x :: (S ++ [y])) ++ B) = (A ++ [x]) ++ (S ++ ([y] ++ B)) := by simp
  have e3 : A ++ ((x :: (S ++ [y])) ++ B) = (A ++ (x :: S)) ++ ([y] ++ B) := by simp
  refine ⟨?_, fun x' => ?_, ?_, fun S' hS' => ?_, ?_, fun y' => ?_⟩
  · rw [List.getElem?_append_right (Nat.le_refl _)]; simp
  · rw [e1, splice_mid A [x] [x'] _ _ rfl rfl]; simp
  · rw [e2, show A.length + 1 = (A ++ [x]).length by simp, List.drop_left, ← hS, List.take_left]
  · rw [e2, splice_mid (A ++ [x]) S S' _ _ (by simp) (by omega)]; simp
  · rw [e3, List.getElem?_append_right (by simp; omega)]; simp [hS]
  · rw [e3, splice_mid (A ++ (x :: S)) [y] [y'] _ _ (by simp [hS]) rfl]; simp
end Sk
end Go.CM

/-
  Sketches: put, walked.
-/
namespace Go.CM
open Go Go.Proofs
set_option linter.unusedVariables false
set_option linter.unusedSimpArgs false
set_option maxRecDepth 100000
namespace Sk
open Sha

theorem sk_nil (s : Sketch) : binC Tryd.prog .eql 22 (encSk s) .nilS = some (.bool s.isNone) := bin_nil_eql (e := 69) (by kernel_rfl) 34 encCell s
theorem rows_sk {s : Sketch} (ho : okSk s) : ∀ e ∈ s.l.map encCell, e.length = 34 := fun e he => by obtain ⟨x, hx, rfl⟩ := List.mem_map.1 he; exact cell_len (ho x hx)
theorem cloneS_own {s : Sketch} (ho : okSk s) (hs : s.l.length ≤ 1000000000) {l : Hl} {K : CV → Hl → Prop} (hK : ∀ v j l', OwnS 34 l' v j (s.l.map encCell) → l.length ≤ l'.length → (∀ b, b < l.length → l'[b]? = l[b]?) → (v = .nilS ∨ l.length ≤ j) → isNilS v = s.isNone → K v l') : CallP Tryd.prog GS 56 [encSk s] l (c := ⟨K⟩) := by
  apply call_intro c56_eq r56_eq
  unfold c56 r56
  simp [sk_nil]
  cases s with
  | none =>
    simp
    exact hK _ 0 _ (.nil 0) (Nat.le_refl _) (fun _ _ => rfl) (.inl rfl) rfl
  | some b =>
    simp
    have hr : roomMax = 140737488355328 := rfl
    have hs' : b.length ≤ 1000000000 := hs
    have hO : OwnS 34 (l ++ [CB.cells 0 []]) (.sl 34 l.length 0 0 0 0) l.length [] := .sl l.length 0 0 0 [] [] (by simp) rfl rfl (by simp) (Nat.le_refl _) (by omega) rfl
    obtain ⟨v', j', l', h1, h2, h3, h4, h5, h6⟩ := app_law (by_ := 48) hO (x := encSk (some b)) (xs := b.map encCell) (by unfold encSk; rw [contents_encS]; simp) (rows_sk ho) (by omega) (by omega) (by simp; omega)
    simp [h1]
    refine AppK.keep ?_
    simp
    have h3' : l.length + 1 ≤ l'.length := by simpa using h3
    refine hK _ j' _ h2 (by omega) (fun b hb => ?_) (.inr (by rcases h5 with h | h <;> (try simp only [List.length_append, List.length_cons, List.length_nil] at h) <;> omega)) ?_
    · rw [h4 b (by simp; omega) (by omega), List.getElem?_append_left hb]
    · rw [isNil_app h6]; rfl

def stepC (c : Cell) (id : List B) (by_ : Int) (w : Q) : Cell := ⟨c.count + by_, xorL c.sum id, c.check ^^^ w⟩
def putAt (id : List B) (by_ : Int) (w : Q) : List Nat → List Cell → Option (List Cell)
  | [], s => some s
  | p :: ps, s => match s[p]? with
    | none => none
    | some c => match inR (stepC c id by_ w) with
      | true => putAt id by_ w ps (s.set p (stepC c id by_ w))
      | false => none
def placesL (n : Nat) (id : List B) : List Nat := [place n id 0, place n id 1, place n id 2]
def changed (s : List Cell) (id : List B) (by_ : Int) : Option (List Cell) := putAt id by_ (word id) (placesL s.length id) s
def put (s : Sketch) (id : List B) (by_ : Int) : Sketch × Int :=
  if chk s = 0 then match changed s.l id by_ with
    | some t => (some t, 0)
    | none => (none, 16)
  else (none, chk s)
theorem placesL_drop (n : Nat) (id : List B) (k : Nat) (hk : k < 3) : (placesL n id).drop k = place n id k :: (placesL n id).drop (k + 1) := by
  match k, hk with
  | 0, _ => rfl
  | 1, _ => rfl
  | 2, _ => rfl
theorem placesC_ix (n : Nat) (id : List B) (k : Nat) (hk : k < 3) : ixC1 3 1 (placesC n id) (.int .i64 k) = some (.int .i64 (place n id k)) := by
  match k, hk with
  | 0, _ => rfl
  | 1, _ => rfl
  | 2, _ => rfl
theorem place_lt_n {n : Nat} (h3 : 3 ≤ n) (hm : n % 3 = 0) (id : List B) {k : Nat} (hk : k < 3) : place n id k < n := by
  have := (place_lt h3 id (r := k)).2
  have h : (k + 1) * (n / 3) ≤ 3 * (n / 3) := Nat.mul_le_mul_right _ (by omega)
  omega
theorem xorL_len {a b : List B} (ha : a.length = 32) (hb : b.length = 32) : (xorL a b).length = 32 := by simp [xorL]; omega
theorem chk_0 {s : Sketch} (h : chk s = 0) : sizedB s.l.length = true ∧ ∀ c ∈ s.l, inR c = true := by
  unfold chk at h
  split at h
  · rename_i hh; exact ⟨hh.1, List.all_eq_true.1 hh.2⟩
  · cases h
theorem rd_put0 {l : Hl} {e e' : Int} (h : e = e') : Rd l (.tu [.nilS, .int .i64 e]) (.tu [encSk none, .int .i64 e']) := by subst h; exact .same _ rfl
/-- The state of a sketch that is being changed. -/
structure Mid (n : Nat) (cur : List Cell) : Prop where
  len : cur.length = n
  c : ∀ c ∈ cur, inR c = true ∧ c.sum.length = 32
theorem Mid.set {n : Nat} {cur : List Cell} (h : Mid n cur) {p : Nat} {c : Cell} (hc : inR c = true) (hl : c.sum.length = 32) : Mid n (cur.set p c) := by
  refine ⟨by rw [List.length_set]; exact h.len, fun x hx => ?_⟩
  rcases List.mem_or_eq_of_mem_set hx with h1 | h1
  · exact h.c x h1
  · subst h1; exact ⟨hc, hl⟩

set_option maxHeartbeats 16000000 in
theorem put_ok (s : Sketch) (id : List B) (by_ : Int) (ho : okSk s) (hl : s.l.length ≤ 1000000000) (hid : id.length = 32) (hby : -1000000 ≤ by_ ∧ by_ ≤ 1000000) :
    PureC Tryd.prog GS 46 [encSk s, idC id, .int .i64 by_] (.tu [encSk (put s id by_).1, .int .i64 (put s id by_).2]) := by
  refine pure_of Tryd.checked.mixed GS_closed ?_
  apply call_intro c46_eq r46_eq
  unfold c46 r46
  have hlen : lenM (.sl 34) (encSk s) = some (.int .i64 s.l.length) := len_encS _
  obtain ⟨I, hI⟩ : ∃ I, I = id.map e8 := ⟨_, rfl⟩
  have hIl : I.length = 32 := by rw [hI, List.length_map, hid]
  have hIc : closedL I = true := by rw [hI]; exact closedL_map e8 (fun _ => rfl) _
  unfold idC
  rw [← hI]
  simp [hIl]
  refine pure_call (check_ok s ho hl) (by simp [closedL, closed_sk]) ?_
  rcases chk_8 s with h0 | h0
  · obtain ⟨hsz, hin⟩ := chk_0 h0
    obtain ⟨N, hN, h3, h48, hm⟩ := sized_nat hsz
    have hN' : s.l.length = N := by omega
    have hpl := places_ok s.l.length id hid
    rw [hsz, hN'] at hpl
    simp only [Int.toNat_natCast] at hpl
    rw [hN'] at hlen
    have hwd := word_ok id hid
    unfold idC at hpl hwd
    rw [← hI] at hpl hwd
    obtain ⟨w, hw⟩ : ∃ w, w = word id := ⟨_, rfl⟩
    have hput : put s id by_ = match changed s.l id by_ with | some t => (some t, 0) | none => (none, 16) := by unfold put; rw [if_pos h0]
    rw [hput]
    unfold changed
    rw [hN', ← hw]
    rw [← hw] at hwd
    simp [h0, hlen, hIl, List.take_of_length_le]
    refine pure_call hpl (by simp [closedL, CV.closed, hIc]) ?_
    simp [placesC, List.take_of_length_le, hIl]
    refine pure_call hwd (by simp [closedL, CV.closed, hIc]) ?_
    simp
    refine cloneS_own ho hl fun v j l' hown hll hfr hj hnil => ?_
    have hf0 := hfr 0 (by simp)
    have hf1 := hfr 1 (by simp)
    simp at hf0 hf1 hj hll
    have hsn : isNilS v = false := by
      rw [hnil]
      cases s with
      | none => simp at hN'; omega
      | some l => rfl
    obtain ⟨n, cap, sz, cs0, rfl, _, _, hn, _⟩ := hown.view hsn
    have hnN : n = N := by rw [List.length_map] at hn; omega
    subst hnN
    have hj2 : 2 ≤ j := hj.resolve_left (by simp)
    obtain ⟨R, hR⟩ : ∃ R, R = putAt id by_ w (placesL n id) s.l := ⟨_, rfl⟩
    rw [← hR]
    simp [hf1]
    refine loop_up 3 (fun k σ l => σ 2 = .int .i64 by_ ∧ σ 4 = .ptr 0 0 32 ∧ σ 11 = e64 w ∧ σ 12 = .sl 34 j 0 n cap sz ∧ σ 41 = placesC n id ∧ σ 42 = .int .i64 k ∧ l[0]? = some (.cells 32 I) ∧
      ∃ cur, Mid n cur ∧ OwnS 34 l (.sl 34 j 0 n cap sz) j (cur.map encCell) ∧ putAt id by_ w ((placesL n id).drop k) cur = R) ?_ ?_
    · clear hown hll hfr hf0 hf1
      rintro k σ l hk ⟨g2, g4, g11, g12, g41, g42, hl0, cur, M, hown, hr⟩
      obtain ⟨σ, rfl⟩ := upds6 g2 g4 g11 g12 g41 g42
      clear g2 g4 g11 g12 g41 g42
      unfold l46_0
      by_cases hk3 : (k : Int) < 3
      · have hkn : k < 3 := by omega
        have hwk : IntKind.i64.wrap ((k : Int) + 1) = (k + 1 : Nat) := wrap_i64 (by omega) (by omega)
        rw [placesL_drop n id k hkn] at hr
        have hix := placesC_ix n id k hkn
        have hpn := place_lt_n h3 hm id hkn
        obtain ⟨p, hp⟩ : ∃ p, p = place n id k := ⟨_, rfl⟩
        rw [← hp] at hr hix hpn
        obtain ⟨c, hc, hcm⟩ := get_of (l := cur) (k := p) (by rw [M.len]; exact hpn)
        obtain ⟨hcr, hcl⟩ := M.c c hcm
        obtain ⟨_, _, _, A, B, hv, _, hlj, hA, hle, hcsl, hback⟩ := hown.split (i := p) (e := encCell c) (by rw [List.getElem?_map, hc]; rfl)
        cases hv
        unfold encCell at hlj hcsl
        obtain ⟨S, hS⟩ : ∃ S, S = c.sum.map e8 := ⟨_, rfl⟩
        have hSl : S.length = 32 := by rw [hS, List.length_map, hcl]
        rw [← hS] at hlj hcsl
        obtain ⟨c', hc'⟩ : ∃ c', c' = stepC c id by_ w := ⟨_, rfl⟩
        obtain ⟨S', hS'⟩ : ∃ S', S' = c'.sum.map e8 := ⟨_, rfl⟩
        have hsl' : c'.sum.length = 32 := by rw [hc']; exact xorL_len hcl hid
        have hSl' : S'.length = 32 := by rw [hS', List.length_map, hsl']
        have hjl := get_lt hlj
        obtain ⟨b34, hb34⟩ : ∃ b, b = p * 34 := ⟨_, rfl⟩
        rw [← hb34] at hA hle
        obtain ⟨o1, o2, _⟩ := row_ops A S B (.int .i64 c.count) (e64 c.check) b34 hA hSl
        obtain ⟨_, _, o3, o4, _⟩ := row_ops A S B (.int .i64 c'.count) (e64 c.check) b34 hA hSl
        obtain ⟨_, _, _, _, o5, o6⟩ := row_ops A S' B (.int .i64 c'.count) (e64 c.check) b34 hA hSl'
        obtain ⟨o7, _⟩ := row_ops A S' B (.int .i64 c'.count) (e64 c'.check) b34 hA hSl'
        have o2 := o2 (.int .i64 c'.count)
        have o4 := o4 S' hSl'
        have o6 := o6 (e64 c'.check)
        have l1 : (A ++ ((CV.int .i64 c'.count :: (S ++ [e64 c.check])) ++ B)).length = sz := by rw [← hcsl]; simp
        have l2 : (A ++ ((CV.int .i64 c'.count :: (S' ++ [e64 c.check])) ++ B)).length = sz := by rw [← hcsl]; simp [hSl, hSl']
        have l3 : (A ++ ((CV.int .i64 c'.count :: (S' ++ [e64 c'.check])) ++ B)).length = sz := by rw [← hcsl]; simp [hSl, hSl']
        have hback := hback (encCell c')
        obtain ⟨C0, hC0⟩ : ∃ C, C = A ++ ((CV.int .i64 c.count :: (S ++ [e64 c.check])) ++ B) := ⟨_, rfl⟩
        obtain ⟨C1, hC1⟩ : ∃ C, C = A ++ ((CV.int .i64 c'.count :: (S ++ [e64 c.check])) ++ B) := ⟨_, rfl⟩
        obtain ⟨C2, hC2⟩ : ∃ C, C = A ++ ((CV.int .i64 c'.count :: (S' ++ [e64 c.check])) ++ B) := ⟨_, rfl⟩
        obtain ⟨C3, hC3⟩ : ∃ C, C = A ++ ((CV.int .i64 c'.count :: (S' ++ [e64 c'.check])) ++ B) := ⟨_, rfl⟩
        rw [← hC0] at o1 o2 hlj hcsl
        rw [← hC1] at o2 o3 o4 l1
        rw [← hC2] at o4 o5 o6 l2
        rw [← hC3] at o6 o7 l3
        have hback3 : ∀ l', l'[j]? = some (CB.cells sz C3) → OwnS 34 l' (.sl 34 j 0 n cap sz) j ((cur.set p c').map encCell) := fun l' hl' => by
          rw [List.map_set]
          refine hback l' (cell_len hsl') ?_
          rw [hl', hC3, hS']; rfl
        have hcr' := (inR_iff c).1 hcr
        have hwc : IntKind.i64.wrap (c.count + by_) = c'.count := by rw [wrap_i64 (by omega) (by omega), hc']; rfl
        have hx := xor_ok c.sum id hcl hid
        have hxe : xorL c.sum id = c'.sum := by rw [hc']; rfl
        rw [hxe] at hx
        unfold idC at hx
        rw [← hS, ← hS', ← hI] at hx
        have hSc : closedL S = true := by rw [hS]; exact closedL_map e8 (fun _ => rfl) _
        have hcheck : c.check ^^^ w = c'.check := by rw [hc']; rfl
        have hrg := ranged_ok c'.count
        have hinr : rangedB c'.count = inR c' := rfl
        rw [hinr] at hrg
        have q1 : b34 + 1 ≤ sz := by omega
        have q2 : b34 + 1 + 32 ≤ sz := by omega
        have q3 : b34 + 33 + 1 ≤ sz := by omega
        have j0 : j ≠ 0 := by omega
        have j0' : ¬ 0 = j := by omega
        obtain ⟨_, hlj'⟩ := List.getElem?_eq_some_iff.1 hlj
        have hset0 : ∀ X : CB, (l.set j X)[0]? = some (CB.cells 32 I) := fun X => by rw [List.getElem?_set_ne j0]; exact hl0
        simp [hk3, hix, hpn, ← hb34, hlj', o1, hwc, o2, q1, hjl, l1, q2, o3, hset0, hIl, List.take_of_length_le]
        refine pure_call hx (by simp [closedL, CV.closed, hSc, hIc]) ?_
        simp [hjl, hSl', o4, l1, l2, q2, q3, o5, hcheck, o6, o7, l3]
        refine pure_call hrg rfl ?_
        unfold putAt at hr
        rw [hc] at hr
        simp only [← hc'] at hr
        cases hcase : inR c' with
        | false =>
          rw [hcase] at hr
          simp only at hr
          rw [← hr]
          simp
          exact rd_put0 rfl
        | true =>
          rw [hcase] at hr
          simp only at hr
          simp [hk3, hwk, hkn]
          exact ⟨by rw [List.getElem?_set_ne j0]; exact hl0, cur.set p c', M.set hcase hsl', by rw [List.map_set] at hback3; rw [List.map_set]; exact hback3 _ (by rw [List.getElem?_set_self hjl]), hr⟩
      · have hk' : k = 3 := by omega
        subst hk'
        have hr3 : some cur = R := hr
        rw [← hr3]
        simp
        have hrd := hown.q.rd_enc closed_cell (some cur) rfl rfl
        exact rd_tu2 hrd (.same _ rfl)
    · simp
      exact ⟨rfl, hf0, s.l, ⟨hN', fun c hc => ⟨hin c hc, ho c hc⟩⟩, hown, hR.symm⟩
  · simp [h0]
    have : put s id by_ = (none, 8) := by unfold put; rw [if_neg (by rw [h0]; simp), h0]
    rw [this]
    exact rd_put0 rfl
end Sk
end Go.CM

/-
  Sketches: Add, Remove, and the reference's, walked.
-/
namespace Go.CM
open Go Go.Proofs
set_option linter.unusedVariables false
set_option linter.unusedSimpArgs false
set_option maxRecDepth 100000
namespace Sk
open Sha

theorem closed_id (id : List B) : (idC id).closed = true := by simp [idC, CV.closed, closedL_map e8 (fun _ => rfl)]
theorem add_ok (s : Sketch) (id : List B) (ho : okSk s) (hl : s.l.length ≤ 1000000000) (hid : id.length = 32) :
    PureC Tryd.prog GS 16 [encSk s, idC id] (.tu [encSk (put s id 1).1, .int .i64 (put s id 1).2]) := by
  refine pure_of Tryd.checked.mixed GS_closed ?_
  apply call_intro c16_eq r16_eq
  unfold c16 r16
  have hp := put_ok s id 1 ho hl hid (by omega)
  have hc := closed_id id
  unfold idC at hp hc ⊢
  obtain ⟨I, hI⟩ : ∃ I, I = id.map e8 := ⟨_, rfl⟩
  have hIl : I.length = 32 := by rw [hI, List.length_map, hid]
  rw [← hI] at hp hc ⊢
  simp [hIl, List.take_of_length_le]
  refine pure_call hp (by simp [closedL, closed_sk, hc, CV.closed] at hc ⊢; exact hc) ?_
  simp
  exact rd_tu2 (.same _ (closed_sk _)) (.same _ rfl)
/-- A cell's parts, in a block of its own. -/
theorem row_ops0 (S : List CV) (x y : CV) (hS : S.length = 32) :
    (x :: (S ++ [y]))[0]? = some x ∧ (∀ x', splice (x :: (S ++ [y])) 0 [x'] = x' :: (S ++ [y])) ∧ ((x :: (S ++ [y])).drop 1).take 32 = S ∧
    (∀ S', S'.length = 32 → splice (x :: (S ++ [y])) 1 S' = x :: (S' ++ [y])) ∧ (x :: (S ++ [y]))[33]? = some y ∧ (∀ y', splice (x :: (S ++ [y])) 33 [y'] = x :: (S ++ [y'])) := by
  have h := row_ops [] S [] x y 0 rfl hS
  simpa using h
theorem part_row (A M B : List CV) (n : Nat) (hn : A.length = n) (m : Nat) (hm : M.length = m) : ((A ++ (M ++ B)).drop n).take m = M := by
  subst hn hm
  rw [List.drop_left, List.take_left]

def outC (o : Option (List Cell)) : CV := match o with | some t => .tu [encSk (some t), .bool true] | none => .tu [encSk none, .bool false]
set_option maxHeartbeats 16000000 in
theorem changed_ok (s : Sketch) (id : List B) (by_ : Int) (ho : okSk s) (hin : ∀ c ∈ s.l, inR c = true) (hsz : sizedB s.l.length = true) (hid : id.length = 32) (hby : -1000000 ≤ by_ ∧ by_ ≤ 1000000) :
    PureC Tryd.prog GS 55 [encSk s, idC id, .int .i64 by_] (outC (changed s.l id by_)) := by
  refine pure_of Tryd.checked.mixed GS_closed ?_
  apply call_intro c55_eq r55_eq
  unfold c55 r55
  have hr0 : roomMax = 140737488355328 := rfl
  have hlen : lenM (.sl 34) (encSk s) = some (.int .i64 s.l.length) := len_encS _
  obtain ⟨N, hN, h3, h48, hm⟩ := sized_nat hsz
  have hN' : s.l.length = N := by omega
  rw [hN'] at hlen
  have hpl := refPlaces_ok N id hid h3 h48
  have hwd := refWord_ok id hid
  obtain ⟨I, hI⟩ : ∃ I, I = id.map e8 := ⟨_, rfl⟩
  have hIl : I.length = 32 := by rw [hI, List.length_map, hid]
  have hIc : closedL I = true := by rw [hI]; exact closedL_map e8 (fun _ => rfl) _
  unfold idC at hpl hwd ⊢
  rw [← hI] at hpl hwd ⊢
  obtain ⟨w, hw⟩ : ∃ w, w = word id := ⟨_, rfl⟩
  unfold changed
  rw [hN', ← hw]
  rw [← hw] at hwd
  have o0 : OwnS 34 ([CB.cells 32 I] ++ [CB.cells 0 []]) (.sl 34 1 0 0 0 0) 1 [] := .sl 1 0 0 0 [] [] (by simp) rfl rfl (by simp) (Nat.le_refl _) (by omega) rfl
  obtain ⟨v, j, r, h1, hown, hj, hvn⟩ := app_pre (by_ := 48) o0 (.inr (Nat.le_refl _)) (x := encSk s) (xs := s.l.map encCell) (by unfold encSk; rw [contents_encS]; simp) (rows_sk ho) (by omega) (by omega) (by rw [hr0]; simp; omega)
  simp only [List.nil_append, List.singleton_append] at h1 hown
  have hsn : isNilS v = false := by rw [hvn]; rfl
  obtain ⟨n, cap, sz, cs0, rfl, hl0', _, hn, _⟩ := hown.view hsn
  have hnN : n = N := by rw [List.length_map] at hn; omega
  subst hnN
  have hj1 : 1 ≤ j := hj.resolve_left (by simp)
  have hjlt := get_lt hl0'
  obtain ⟨R, hR⟩ : ∃ R, R = putAt id by_ w (placesL n id) s.l := ⟨_, rfl⟩
  rw [← hR]
  simp [hIl, h1]
  refine AppK.keep ?_
  simp [hlen, hIl, List.take_of_length_le]
  refine pure_call hpl (by simp [closedL, CV.closed, hIc]) ?_
  simp [placesC, hIl, List.take_of_length_le]
  refine pure_call hwd (by simp [closedL, CV.closed, hIc]) ?_
  simp
  have hr1 : 1 ≤ r.length := by simp at hjlt hj1; omega
  obtain ⟨P, hP⟩ : ∃ P, P = r.length + 1 := ⟨_, rfl⟩
  rw [← hP]
  have hjP : j ≠ P := by simp at hjlt; omega
  have hPj : P ≠ j := fun h => hjP h.symm
  have hP0 : P ≠ 0 := by omega
  obtain ⟨E0, hE0⟩ : ∃ E, E = [CV.int IntKind.i64 ↑(place n id 0), CV.int IntKind.i64 ↑(place n id 1), CV.int IntKind.i64 ↑(place n id 2)] := ⟨_, rfl⟩
  rw [← hE0]
  have hE0l : E0.length = 3 := by rw [hE0]; rfl
  have hEp : ∀ k, k < 3 → E0[k]? = some (CV.int .i64 (place n id k)) := fun k hk => by rw [hE0]; match k, hk with | 0, _ => rfl | 1, _ => rfl | 2, _ => rfl
  refine loop_up 3 (fun k σ l => σ 2 = .int .i64 by_ ∧ σ 4 = .ptr 0 0 32 ∧ σ 8 = .sl 34 j 0 n cap sz ∧ σ 9 = .ptr P 0 3 ∧ σ 10 = e64 w ∧ σ 11 = .int .i64 k ∧ l[0]? = some (.cells 32 I) ∧ l[P]? = some (.cells 3 E0) ∧
      ∃ cur, Mid n cur ∧ OwnS 34 l (.sl 34 j 0 n cap sz) j (cur.map encCell) ∧ putAt id by_ w ((placesL n id).drop k) cur = R) ?_ ?_
  · rintro k σ l hk ⟨g2, g4, g8, g9, g10, g11, hl0, hlP, cur, M, hown, hr⟩
    obtain ⟨σ, rfl⟩ := upds6 g2 g4 g8 g9 g10 g11
    clear g2 g4 g8 g9 g10 g11
    unfold l55_0
    by_cases hk3 : (k : Int) < 3
    · have hkn : k < 3 := by omega
      have hwk : IntKind.i64.wrap ((k : Int) + 1) = (k + 1 : Nat) := wrap_i64 (by omega) (by omega)
      rw [placesL_drop n id k hkn] at hr
      have hix := hEp k hkn
      have hpn := place_lt_n h3 hm id hkn
      obtain ⟨p, hp⟩ : ∃ p, p = place n id k := ⟨_, rfl⟩
      rw [← hp] at hr hix hpn
      obtain ⟨c, hc, hcm⟩ := get_of (l := cur) (k := p) (by rw [M.len]; exact hpn)
      obtain ⟨hcr, hcl⟩ := M.c c hcm
      obtain ⟨_, _, _, A, B, hv, _, hlj, hA, hle, hcsl, hback⟩ := hown.split (i := p) (e := encCell c) (by rw [List.getElem?_map, hc]; rfl)
      cases hv
      have hjl := get_lt hlj
      have hPl := get_lt hlP
      have hpart := part_row A (encCell c) B (p * 34) hA 34 (by unfold encCell; simp [hcl])
      unfold encCell at hlj hcsl hpart
      obtain ⟨S, hS⟩ : ∃ S, S = c.sum.map e8 := ⟨_, rfl⟩
      have hSl : S.length = 32 := by rw [hS, List.length_map, hcl]
      rw [← hS] at hlj hcsl hpart
      obtain ⟨c', hc'⟩ : ∃ c', c' = stepC c id by_ w := ⟨_, rfl⟩
      obtain ⟨S', hS'⟩ : ∃ S', S' = c'.sum.map e8 := ⟨_, rfl⟩
      have hsl' : c'.sum.length = 32 := by rw [hc']; exact xorL_len hcl hid
      have hSl' : S'.length = 32 := by rw [hS', List.length_map, hsl']
      obtain ⟨b34, hb34⟩ : ∃ b, b = p * 34 := ⟨_, rfl⟩
      rw [← hb34] at hA hle hpart
      obtain ⟨o1, o2, _⟩ := row_ops0 S (.int .i64 c.count) (e64 c.check) hSl
      obtain ⟨o1', _, o3, o4, _⟩ := row_ops0 S (.int .i64 c'.count) (e64 c.check) hSl
      obtain ⟨_, _, _, _, o5, o6⟩ := row_ops0 S' (.int .i64 c'.count) (e64 c.check) hSl'
      have o2 := o2 (.int .i64 c'.count)
      have o4 := o4 S' hSl'
      have o6 := o6 (e64 c'.check)
      have hspl := splice_mid A (.int .i64 c.count :: (S ++ [e64 c.check])) (.int .i64 c'.count :: (S' ++ [e64 c'.check])) B b34 hA (by simp [hSl, hSl'])
      have hback := hback (encCell c')
      obtain ⟨C0, hC0⟩ : ∃ C, C = A ++ ((CV.int .i64 c.count :: (S ++ [e64 c.check])) ++ B) := ⟨_, rfl⟩
      obtain ⟨C3, hC3⟩ : ∃ C, C = A ++ ((CV.int .i64 c'.count :: (S' ++ [e64 c'.check])) ++ B) := ⟨_, rfl⟩
      have l3 : C3.length = sz := by rw [hC3, ← hcsl]; simp [hSl, hSl']
      obtain ⟨F0, hF0⟩ : ∃ C, C = (CV.int .i64 c.count :: (S ++ [e64 c.check])) := ⟨_, rfl⟩
      obtain ⟨F1, hF1⟩ : ∃ C, C = (CV.int .i64 c'.count :: (S ++ [e64 c.check])) := ⟨_, rfl⟩
      obtain ⟨F2, hF2⟩ : ∃ C, C = (CV.int .i64 c'.count :: (S' ++ [e64 c.check])) := ⟨_, rfl⟩
      obtain ⟨F3, hF3⟩ : ∃ C, C = (CV.int .i64 c'.count :: (S' ++ [e64 c'.check])) := ⟨_, rfl⟩
      have m0 : F0.length = 34 := by rw [hF0]; simp [hSl]
      have m1 : F1.length = 34 := by rw [hF1]; simp [hSl]
      have m2 : F2.length = 34 := by rw [hF2]; simp [hSl']
      have m3 : F3.length = 34 := by rw [hF3]; simp [hSl']
      rw [← hC0] at hlj hcsl hspl hpart
      rw [← hC3] at hspl
      rw [← hF0] at hpart o1 o2
      rw [← hF1] at o1' o2 o3 o4
      rw [← hF2] at o4 o5 o6
      rw [← hF3] at o6 hspl
      have hback3 : ∀ l', l'[j]? = some (CB.cells sz C3) → OwnS 34 l' (.sl 34 j 0 n cap sz) j ((cur.set p c').map encCell) := fun l' hl' => by
        rw [List.map_set]
        refine hback l' (cell_len hsl') ?_
        rw [hl', hC3, hS']; rfl
      have hcr' := (inR_iff c).1 hcr
      have hwc : IntKind.i64.wrap (c.count + by_) = c'.count := by rw [wrap_i64 (by omega) (by omega), hc']; rfl
      have hx := mixed_ok c.sum id hcl hid
      have hxe : xorL c.sum id = c'.sum := by rw [hc']; rfl
      rw [hxe] at hx
      unfold idC at hx
      rw [← hS, ← hS', ← hI] at hx
      have hSc : closedL S = true := by rw [hS]; exact closedL_map e8 (fun _ => rfl) _
      have hcheck : c.check ^^^ w = c'.check := by rw [hc']; rfl
      obtain ⟨_, o1⟩ := List.getElem?_eq_some_iff.1 o1
      obtain ⟨_, o1'⟩ := List.getElem?_eq_some_iff.1 o1'
      obtain ⟨_, o5⟩ := List.getElem?_eq_some_iff.1 o5
      obtain ⟨_, hix⟩ := List.getElem?_eq_some_iff.1 hix
      obtain ⟨_, hlj'⟩ := List.getElem?_eq_some_iff.1 hlj
      obtain ⟨_, hlP'⟩ := List.getElem?_eq_some_iff.1 hlP
      have g1 : ∀ X : List CB, (l ++ X)[j]? = some (CB.cells sz C0) := fun X => by rw [List.getElem?_append_left hjl]; exact hlj
      have g2 : ∀ X : List CB, (l ++ X)[P]? = some (CB.cells 3 E0) := fun X => by rw [List.getElem?_append_left hPl]; exact hlP
      have g3 : ∀ X : List CB, (l ++ X)[0]? = some (CB.cells 32 I) := fun X => by rw [List.getElem?_append_left (by omega)]; exact hl0
      have g3' : ∀ (X : List CB) h, (l ++ X)[0]'h = CB.cells 32 I := fun X h => Option.some.inj ((List.getElem?_eq_getElem h).symm.trans (g3 X))
      rw [List.drop_one] at o3
      have hs34 : splice (CV.int IntKind.i64 0 :: (rep 32 (CV.int IntKind.u8 0) ++ [CV.int IntKind.u64 0])) 0 F0 = F0 := splice_full (by rw [m0]; rfl)
      simp [hk3, hix, hlP, hE0l, hkn, hpn, ← hb34, hlj, hcsl, hle, hpart, m0, hs34, o1, hwc, o2, m1, o1']
      by_cases c1 : c'.count < -1000000
      · have hn : inR c' = false := by
          cases h : inR c' with
          | false => rfl
          | true => have := (inR_iff c').1 h; omega
        unfold putAt at hr
        rw [hc] at hr
        simp only [← hc', hn] at hr
        rw [← hr]
        simp [c1]
        exact .same _ rfl
      · by_cases c2 : 1000000 < c'.count
        · have hn : inR c' = false := by
            cases h : inR c' with
            | false => rfl
            | true => have := (inR_iff c').1 h; omega
          unfold putAt at hr
          rw [hc] at hr
          simp only [← hc', hn] at hr
          rw [← hr]
          simp [c1, c2, m1, o1']
          exact .same _ rfl
        · have hn : inR c' = true := (inR_iff c').2 (by omega)
          unfold putAt at hr
          rw [hc] at hr
          simp only [← hc', hn] at hr
          simp [c1, c2, m1, o1', o3, g1, g2, g3', hIl, List.take_of_length_le]
          refine pure_call hx (by simp [closedL, CV.closed, hSc, hIc]) ?_
          simp [hSl', m1, m2, o4, o5, hcheck, o6, m3, hk3, g1, g2, hix, hE0l, hkn, hcsl, hle, List.take_of_length_le, hpn, ← hb34, hspl, hwk]
          refine ⟨by rw [List.getElem_set_ne (by omega)]; exact g3' _ _, by rw [List.getElem?_set_ne hjP]; exact g2 _, cur.set p c', M.set hn hsl', ?_, hr⟩
          exact hback3 _ (by rw [List.getElem?_set_self (by simp; omega)])
    · have hk' : k = 3 := by omega
      subst hk'
      have hr3 : some cur = R := hr
      rw [← hr3]
      simp
      have hrd := hown.q.rd_enc closed_cell (some cur) rfl rfl
      exact rd_tu2 hrd (.same _ rfl)
  · simp
    have hb1 : (CB.cells 32 I :: (r ++ [CB.cells 3 E0]))[P]? = some (CB.cells 3 E0) := by
      rw [hP, List.getElem?_cons_succ, List.getElem?_append_right (Nat.le_refl _)]; simp
    refine ⟨hb1, s.l, ⟨hN', fun c hc => ⟨hin c hc, ho c hc⟩⟩, ?_, hR.symm⟩
    exact hown.frame2 (.inr (by rw [← List.cons_append, List.getElem?_append_left hjlt]))
end Sk
end Go.CM

/-
  Sketches: Pure, and the reference's put, Add, Remove and Pure, walked.
-/
namespace Go.CM
open Go Go.Proofs
set_option linter.unusedVariables false
set_option linter.unusedSimpArgs false
set_option maxRecDepth 100000
namespace Sk
open Sha

/-! Pure -/
def eI (n : Int) : List CV := [.int .i64 n]
abbrev encI (s : Sv Int) : CV := encS 1 eI s
theorem closed_eI (n : Int) : closedL (eI n) = true := rfl
def ixI (l : List Int) (i : Int) : Int := match l.findIdx? (fun x => x == i) with | some k => (k : Int) | none => -1
theorem indexI_ok (l : List Int) (i : Int) (hl : l.length ≤ 1000000000) : PureC Tryd.prog GS 66 [encI (some l), .int .i64 i] (.int .i64 (ixI l i)) := by
  refine pure_of Tryd.checked.mixed GS_closed ?_
  apply call_intro c66_eq r66_eq
  unfold c66 r66
  have hlen : lenM (.sl 1) (encI (some l)) = some (.int .i64 l.length) := len_encS _
  simp [hlen]
  refine loop_up l.length (fun k σ h => σ 0 = encI (some l) ∧ σ 1 = .int .i64 i ∧ σ 7 = .int .i64 l.length ∧ σ 8 = .int .i64 k ∧ ∀ j x, j < k → l[j]? = some x → (x == i) = false) ?_ (by simp)
  rintro k σ h hk ⟨g0, g1, g7, g8, hno⟩
  obtain ⟨σ, rfl⟩ := upds4 g0 g1 g7 g8
  clear g0 g1 g7 g8
  unfold l66_0
  by_cases hkl : k < l.length
  · obtain ⟨x, hx, _⟩ := get_of hkl
    have hia : iaC (.sl 1) (encI (some l)) (.int .i64 k) = some (.rptr (eI x) 0) := by rw [ia_encS]; simp [hx]
    have hwk : IntKind.i64.wrap ((k : Int) + 1) = (k + 1 : Nat) := wrap_i64 (by omega) (by omega)
    simp [hkl, hia, eI]
    by_cases he : i = x
    · simp [he]
      have : l.findIdx? (fun y => y == x) = some k := by
        rw [List.findIdx?_eq_some_iff_getElem]
        obtain ⟨h1, h2⟩ := List.getElem?_eq_some_iff.1 hx
        refine ⟨h1, by rw [h2]; simp, fun j hj => ?_⟩
        have := hno j l[j] hj (List.getElem?_eq_getElem (by omega))
        rw [he] at this
        rw [this]; simp
      unfold ixI; rw [this]
      exact rd_eq rfl rfl
    · simp [he, hkl, hwk]
      intro j y hj hy
      rcases Nat.lt_or_ge j k with h1 | h1
      · have := hno j y h1 hy; simpa using this
      · have : j = k := by omega
        subst this
        rw [hx] at hy; cases hy; exact fun h => he h.symm
  · simp [hkl]
    have : l.findIdx? (fun y => y == i) = none := by
      rw [List.findIdx?_eq_none_iff]
      intro x hx
      obtain ⟨j, hj⟩ := List.mem_iff_getElem?.1 hx
      exact hno j x (by have := (List.getElem?_eq_some_iff.1 hj).1; omega) hj
    unfold ixI; rw [this]
    exact rd_eq rfl rfl
theorem ixI_iff (l : List Int) (i : Int) : 0 ≤ ixI l i ↔ i ∈ l := by
  unfold ixI
  cases h : l.findIdx? (fun y => y == i) with
  | none =>
    rw [List.findIdx?_eq_none_iff] at h
    constructor
    · intro h1; simp at h1
    · intro hm; have := h i hm; simp at this
  | some k =>
    obtain ⟨h1, h2, _⟩ := List.findIdx?_eq_some_iff_getElem.1 h
    simp at h2
    refine ⟨fun _ => by rw [← h2]; exact List.getElem_mem h1, fun _ => by simp⟩
theorem containsI_ok (l : List Int) (i : Int) (hl : l.length ≤ 1000000000) : PureC Tryd.prog GS 48 [encI (some l), .int .i64 i] (.bool (decide (i ∈ l))) := by
  refine pure_of Tryd.checked.mixed GS_closed ?_
  apply call_intro c48_eq r48_eq
  unfold c48 r48
  simp
  refine pure_call (indexI_ok l i hl) (by simp [closedL, CV.closed, closed_encS closed_eI]) ?_
  have := ixI_iff l i
  simp
  refine rd_bool ?_
  by_cases h : i ∈ l
  · simp [h, this.2 h]
  · have : ¬ 0 ≤ ixI l i := fun h' => h (this.1 h')
    simp [h, this]

/-- Whether a cell of a sketch is pure. -/
def pureB (n : Nat) (c : Cell) (i : Nat) : Bool := decide (c.count = 1 ∨ c.count = -1) && decide (i ∈ placesL n c.sum) && decide (word c.sum = c.check)
def pureS (s : Sketch) (i : Int) : Bool × Int :=
  if chk s = 0 then match (if 0 ≤ i then s.l[i.toNat]? else none) with
    | none => (false, 2)
    | some c => (pureB s.l.length c i.toNat, 0)
  else (false, chk s)
theorem row_parts (c : Cell) (hc : c.sum.length = 32) (C : List CV) (hC : C = encCell c) : C.length = 34 ∧ C[0]? = some (.int .i64 c.count) ∧ (C.drop 1).take 32 = c.sum.map e8 ∧ C[33]? = some (e64 c.check) := by
  subst hC
  obtain ⟨o1, _, o3, _, o5, _⟩ := row_ops0 (c.sum.map e8) (.int .i64 c.count) (e64 c.check) (by simp [hc])
  exact ⟨cell_len hc, o1, o3, o5⟩
theorem pureB_f1 {n : Nat} {c : Cell} {i : Nat} (h1 : c.count ≠ 1) (h2 : c.count ≠ -1) : pureB n c i = false := by unfold pureB; simp [h1, h2]
set_option maxHeartbeats 4000000 in
theorem refpure_ok (s : Sketch) (i : Nat) (c : Cell) (ho : okSk s) (hsz : sizedB s.l.length = true) (hc : s.l[i]? = some c) :
    PureC Tryd.prog GS 49 [encSk s, .int .i64 i] (.bool (pureB s.l.length c i)) := by
  refine pure_of Tryd.checked.mixed GS_closed ?_
  apply call_intro c49_eq r49_eq
  unfold c49 r49
  have hlen : lenM (.sl 34) (encSk s) = some (.int .i64 s.l.length) := len_encS _
  have hil := (List.getElem?_eq_some_iff.1 hc).1
  obtain ⟨N, hN, h3, h48, hm⟩ := sized_nat hsz
  have hN' : s.l.length = N := by omega
  rw [hN'] at hlen
  have hcl := ho c (List.mem_of_getElem? hc)
  have hia : iaC (.sl 34) (encSk s) (.int .i64 i) = some (.rptr (encCell c) 0) := by unfold encSk; rw [ia_encS]; simp [hc]
  obtain ⟨C, hC⟩ : ∃ C, C = encCell c := ⟨_, rfl⟩
  obtain ⟨p1, p2, p3, p4⟩ := row_parts c hcl C hC
  have hpl := refPlaces_ok N c.sum hcl h3 h48
  have hwd := refWord_ok c.sum hcl
  have hI := closed_id c.sum
  unfold idC at hpl hwd hI
  obtain ⟨I, hId⟩ : ∃ I, I = c.sum.map e8 := ⟨_, rfl⟩
  have hIl : I.length = 32 := by rw [hId, List.length_map, hcl]
  rw [← hId] at hpl hwd hI p3
  rw [← hC] at hia
  rw [List.drop_one] at p3
  have hs34 : splice (CV.int IntKind.i64 0 :: (rep 32 (CV.int IntKind.u8 0) ++ [CV.int IntKind.u64 0])) 0 C = C := splice_full (by rw [p1]; rfl)
  obtain ⟨_, q2⟩ := List.getElem?_eq_some_iff.1 p2
  obtain ⟨_, q4⟩ := List.getElem?_eq_some_iff.1 p4
  rw [hN']
  by_cases hcnt : c.count = 1 ∨ c.count = -1
  · have hcnt' : (!decide (c.count = 1)) = false ∨ ((!decide (c.count = 1)) = true ∧ (!decide (c.count = -1)) = false) := by
      rcases hcnt with h | h <;> simp [h]
    have hpb : pureB N c i = (decide (i ∈ placesL N c.sum) && decide (word c.sum = c.check)) := by unfold pureB; simp [hcnt]
    rw [hpb]
    have hp0 : ((place N c.sum 0 : Int) = i) ↔ place N c.sum 0 = i := by omega
    have hp1 : ((place N c.sum 1 : Int) = i) ↔ place N c.sum 1 = i := by omega
    have hp2 : ((place N c.sum 2 : Int) = i) ↔ place N c.sum 2 = i := by omega
    have hmem : i ∈ placesL N c.sum ↔ place N c.sum 0 = i ∨ place N c.sum 1 = i ∨ place N c.sum 2 = i := by unfold placesL; simp [eq_comm]
    rcases hcnt with h1 | h1
    all_goals
      simp [hia, p1, List.take_of_length_le, hs34, q2, q4, p3, h1]
      refine pure_call hwd (by simp [closedL, hI]) ?_
      by_cases hw : c.check = word c.sum
      · simp [hw, p1, hlen, p3]
        refine ⟨by rw [q4, hw], ?_⟩
        refine pure_call hpl (by simp [closedL, CV.closed] at hI ⊢; exact hI) ?_
        simp [placesC, hmem]
        by_cases e0 : place N c.sum 0 = i
        · simp [e0]
          exact rd_bool (by simp [hmem, hw, e0])
        · by_cases e1 : place N c.sum 1 = i
          · simp [e0, e1, hp0, hp1]
            exact rd_bool (by simp [hmem, hw, e0, e1])
          · by_cases e2 : place N c.sum 2 = i
            · simp [e0, e1, e2, hp0, hp1, hp2]
              exact rd_bool (by simp [hmem, hw, e0, e1, e2])
            · simp [e0, e1, e2, hp0, hp1, hp2]
              exact rd_bool (by simp [hmem, hw, e0, e1, e2])
      · have hw' : ¬ word c.sum = c.check := fun h => hw h.symm
        simp [hw, hw']
        exact ⟨p4, rd_bool rfl⟩
  · have h1 : c.count ≠ 1 := fun h => hcnt (.inl h)
    have h2 : c.count ≠ -1 := fun h => hcnt (.inr h)
    rw [pureB_f1 h1 h2]
    simp [hia, p1, List.take_of_length_le, hs34, q2, q4, p3, h1, h2]
    exact rd_bool rfl
theorem pureS_some {s : Sketch} {k : Nat} {c : Cell} (h : chk s = 0) (hc : s.l[k]? = some c) : pureS s (k : Int) = (pureB s.l.length c k, 0) := by
  have h0 : (0 : Int) ≤ k := by omega
  unfold pureS
  rw [if_pos h, if_pos h0]
  simp only [Int.toNat_natCast, hc]
theorem pureS_out {s : Sketch} {i : Int} (h : chk s = 0) (hi : i < 0 ∨ s.l.length ≤ i) : pureS s i = (false, 2) := by
  unfold pureS
  rw [if_pos h]
  by_cases h0 : 0 ≤ i
  · rw [if_pos h0, List.getElem?_eq_none (by omega)]
  · rw [if_neg h0]
theorem pureS_bad {s : Sketch} {i : Int} (h : chk s = 8) : pureS s i = (false, 8) := by
  unfold pureS
  rw [if_neg (by rw [h]; simp), h]
set_option maxHeartbeats 4000000 in
theorem sketchPure_ok (s : Sketch) (i : Int) (ho : okSk s) (hl : s.l.length ≤ 1000000000) :
    PureC Tryd.prog GS 20 [encSk s, .int .i64 i] (.tu [.bool (pureS s i).1, .int .i64 (pureS s i).2]) := by
  refine pure_of Tryd.checked.mixed GS_closed ?_
  apply call_intro c20_eq r20_eq
  unfold c20 r20
  have hlen : lenM (.sl 34) (encSk s) = some (.int .i64 s.l.length) := len_encS _
  simp
  refine pure_call (check_ok s ho hl) (by simp [closedL, closed_sk]) ?_
  rcases chk_8 s with h0 | h0
  · obtain ⟨hsz, hin⟩ := chk_0 h0
    by_cases h1 : i < 0
    · rw [pureS_out h0 (.inl h1)]
      have h1' : ¬ 0 ≤ i := by omega
      simp [h0, hlen, h1, h1']
      exact rd_tu2 (.same _ rfl) (.same _ rfl)
    · obtain ⟨k, rfl⟩ := Int.eq_ofNat_of_zero_le (show 0 ≤ i by omega)
      by_cases h2 : k < s.l.length
      · obtain ⟨c, hc, hcm⟩ := get_of h2
        rw [pureS_some h0 hc]
        have hcl := ho c hcm
        obtain ⟨N, hN, h3, h48, hm⟩ := sized_nat hsz
        have hN' : s.l.length = N := by omega
        have hia : iaC (.sl 34) (encSk s) (.int .i64 k) = some (.rptr (encCell c) 0) := by unfold encSk; rw [ia_encS]; simp [hc]
        obtain ⟨C, hC⟩ : ∃ C, C = encCell c := ⟨_, rfl⟩
        obtain ⟨p1, p2, p3, p4⟩ := row_parts c hcl C hC
        have hpl := places_ok s.l.length c.sum hcl
        rw [hsz, hN'] at hpl
        simp only [Int.toNat_natCast] at hpl
        have hwd := word_ok c.sum hcl
        have hI := closed_id c.sum
        unfold idC at hpl hwd hI
        obtain ⟨I, hId⟩ : ∃ I, I = c.sum.map e8 := ⟨_, rfl⟩
        have hIl : I.length = 32 := by rw [hId, List.length_map, hcl]
        rw [← hId] at hpl hwd hI p3
        rw [← hC] at hia
        rw [List.drop_one] at p3
        have hs34 : splice (CV.int IntKind.i64 0 :: (rep 32 (CV.int IntKind.u8 0) ++ [CV.int IntKind.u64 0])) 0 C = C := splice_full (by rw [p1]; rfl)
        obtain ⟨_, q2⟩ := List.getElem?_eq_some_iff.1 p2
        obtain ⟨_, q4⟩ := List.getElem?_eq_some_iff.1 p4
        rw [hN'] at hlen h2
        have h2n : ¬ N ≤ k := by omega
        by_cases hcnt : c.count = 1 ∨ c.count = -1
        · have hpb : pureB N c k = (decide (k ∈ placesL N c.sum) && decide (word c.sum = c.check)) := by unfold pureB; simp [hcnt]
          rcases hcnt with h5 | h5
          all_goals
            simp [h0, hN', hlen, h1, h2, h2n, hc, hpb, hia, p1, List.take_of_length_le, hs34, q2, h5, p3]
            refine pure_call hpl (by simp [closedL, CV.closed] at hI ⊢; exact hI) ?_
            have hs := slice_arr_all (n := 3) (b := 1) (by omega)
            have hci := containsI_ok [(place N c.sum 0 : Int), (place N c.sum 1 : Int), (place N c.sum 2 : Int)] (k : Int) (by simp)
            simp [placesC, hs]
            refine pure_callB hci ?_ rfl ?_
            · refine .cons (OwnS.rdH_enc (j := 1) (xs := [(place N c.sum 0 : Int), (place N c.sum 1 : Int), (place N c.sum 2 : Int)]) ?_ closed_eI (some _) rfl rfl) (.cons (.same _ rfl) .nil)
              refine .sl 1 3 3 3 _ _ rfl rfl rfl (fun e he => ?_) (Nat.le_refl _) (by omega) rfl
              obtain ⟨x, _, rfl⟩ := List.mem_map.1 he; rfl
            · have hmem : (k : Int) ∈ [(place N c.sum 0 : Int), (place N c.sum 1 : Int), (place N c.sum 2 : Int)] ↔ k ∈ placesL N c.sum := by unfold placesL; simp; omega
              by_cases hm : k ∈ placesL N c.sum
              · simp [hmem, hm, p1, p3]
                refine pure_call hwd (by simp [closedL, hI]) ?_
                simp [p4]
                exact rd_tu2 (rd_bool (by rw [hN', hpb]; simp [hm])) (.same _ rfl)
              · simp [hmem, hm]
                exact rd_tu2 (rd_bool (by rw [hN', hpb]; simp [hm])) (.same _ rfl)
        · have h5 : c.count ≠ 1 := fun h => hcnt (.inl h)
          have h6 : c.count ≠ -1 := fun h => hcnt (.inr h)
          simp [h0, hN', hlen, h1, h2, h2n, hc, pureB_f1 h5 h6, hia, p1, List.take_of_length_le, hs34, q2, h5, h6]
          exact rd_tu2 (.same _ rfl) (.same _ rfl)
      · have h2' : s.l.length ≤ k := by omega
        rw [pureS_out h0 (.inr (by omega))]
        simp [h0, hlen, h1, h2, h2']
        exact rd_tu2 (.same _ rfl) (.same _ rfl)
  · rw [pureS_bad h0]
    simp [h0]
    exact rd_tu2 (.same _ rfl) (.same _ rfl)
end Sk
end Go.CM

/-
  Contracts for calls that are carried out: bytes, ids, SHA-256.
-/
namespace Go.CM
open Go Go.Proofs
set_option linter.unusedVariables false
set_option linter.unusedSimpArgs false
set_option maxRecDepth 100000
open Sha

def bOf : CV → Option B
  | .int .u8 (.ofNat n) => match Nat.ble n 255 with | true => some (BitVec.ofNat 8 n) | false => none
  | _ => none
theorem bOf_ok {c : CV} {b : B} (h : bOf c = some b) : c = e8 b := by
  unfold bOf at h
  split at h
  · split at h
    · rename_i n _ hn
      have := Nat.le_of_ble_eq_true hn
      cases h
      simp only [e8, u, BitVec.toNat_ofNat]
      congr 1
      show (n : Int) = ((n % 2 ^ 8 : Nat) : Int)
      rw [Nat.mod_eq_of_lt (show n < 2 ^ 8 by omega)]
    · cases h
  · cases h
def bsOf : List CV → Option (List B)
  | [] => some []
  | c :: r => match bOf c with
    | some b => match bsOf r with | some l => some (b :: l) | none => none
    | none => none
theorem bsOf_ok : ∀ {cs : List CV} {l : List B}, bsOf cs = some l → cs = l.map e8
  | [], l, h => by cases h; rfl
  | c :: r, l, h => by
    unfold bsOf at h
    split at h
    · rename_i b hb
      split at h
      · rename_i l' hl
        cases h
        rw [bOf_ok hb, bsOf_ok hl]; rfl
      · cases h
    · cases h
def idOf : CV → Option (List B)
  | .ag cs => match bsOf cs with | some l => (match Nat.beq l.length 32 with | true => some l | false => none) | none => none
  | _ => none
theorem idOf_ok {c : CV} {l : List B} (h : idOf c = some l) : c = idC l ∧ l.length = 32 := by
  unfold idOf at h
  split at h
  · split at h
    · rename_i l' hl
      split at h
      · rename_i hn
        cases h
        exact ⟨by rw [bsOf_ok hl]; rfl, Nat.eq_of_beq_eq_true hn⟩
      · cases h
    · cases h
  · cases h
end Go.CM

/-
  Bytes in a row, compared: cmp.Compare, slices.Compare, walked; the order of ids.
-/
namespace Go.CM
open Go Go.Proofs Go.Sort Go.Shelf
set_option linter.unusedVariables false
set_option linter.unusedSimpArgs false
set_option maxRecDepth 100000
open Sha

def cmpB : List B → List B → Int
  | [], [] => 0
  | [], _ :: _ => -1
  | _ :: _, [] => 1
  | a :: ra, b :: rb => if a.toNat < b.toNat then -1 else if b.toNat < a.toNat then 1 else cmpB ra rb
theorem cmpB_cons (a b : B) (ra rb : List B) : cmpB (a :: ra) (b :: rb) = if a.toNat < b.toNat then -1 else if b.toNat < a.toNat then 1 else cmpB ra rb := rfl
theorem cmpB_self : ∀ a : List B, cmpB a a = 0
  | [] => rfl
  | a :: ra => by unfold cmpB; simp; exact cmpB_self ra
theorem cmpB_eq : ∀ {a b : List B}, cmpB a b = 0 → a = b
  | [], [], _ => rfl
  | [], _ :: _, h => by simp [cmpB] at h
  | _ :: _, [], h => by simp [cmpB] at h
  | a :: ra, b :: rb, h => by
    unfold cmpB at h
    split at h
    · cases h
    · split at h
      · cases h
      · have h1 : a = b := BitVec.eq_of_toNat_eq (by omega)
        rw [h1, cmpB_eq h]
theorem cmpB_swap : ∀ a b : List B, cmpB b a = - cmpB a b
  | [], [] => rfl
  | [], _ :: _ => rfl
  | _ :: _, [] => rfl
  | a :: ra, b :: rb => by
    unfold cmpB
    by_cases h1 : a.toNat < b.toNat
    · simp [h1, show ¬ b.toNat < a.toNat by omega]
    · by_cases h2 : b.toNat < a.toNat
      · simp [h1, h2]
      · simp [h1, h2]; exact cmpB_swap ra rb
theorem cmpB_cases : ∀ a b : List B, cmpB a b = -1 ∨ cmpB a b = 0 ∨ cmpB a b = 1
  | [], [] => by simp [cmpB]
  | [], _ :: _ => by simp [cmpB]
  | _ :: _, [] => by simp [cmpB]
  | a :: ra, b :: rb => by
    unfold cmpB
    split
    · simp
    · split
      · simp
      · exact cmpB_cases ra rb
theorem cmpB_trans : ∀ a b c : List B, cmpB a b < 0 → cmpB b c < 0 → cmpB a c < 0
  | [], [], _, h, _ => by simp [cmpB] at h
  | [], _ :: _, [], _, h => by simp [cmpB] at h
  | [], _ :: _, _ :: _, _, _ => by simp [cmpB]
  | _ :: _, [], _, h, _ => by simp [cmpB] at h
  | _ :: _, _ :: _, [], _, h => by simp [cmpB] at h
  | a :: ra, b :: rb, c :: rc, h1, h2 => by
    unfold cmpB at h1 h2 ⊢
    have ih := cmpB_trans ra rb rc
    repeat' split at h1
    all_goals repeat' split at h2
    all_goals repeat' split
    all_goals first | omega | (exact ih h1 h2) | (exfalso; omega) | skip
def ltB (a b : List B) : Bool := ltOf cmpB a b
theorem ltB_iff (a b : List B) : ltB a b = true ↔ cmpB a b < 0 := by unfold ltB ltOf; simp
theorem swo_cmpB : SWO (ltOf cmpB) where
  irrefl x := by unfold ltOf; rw [cmpB_self]; rfl
  trans x y z h1 h2 := by
    unfold ltOf at *
    simp only [decide_eq_true_eq] at *
    exact cmpB_trans x y z h1 h2
  ntrans x y z h1 h2 := by
    unfold ltOf at *
    simp only [decide_eq_false_iff_not] at *
    intro h3
    have e1 := cmpB_swap x y
    have e2 := cmpB_swap y z
    rcases cmpB_cases x y with h | h | h
    · omega
    · have := cmpB_eq h; subst this; omega
    · rcases cmpB_cases y z with h' | h' | h'
      · omega
      · have := cmpB_eq h'; subst this; omega
      · have := cmpB_trans z y x (by omega) (by omega)
        have e3 := cmpB_swap x z
        omega
theorem anti_cmpB (x y : List B) (h1 : ltOf cmpB x y = false) (h2 : ltOf cmpB y x = false) : x = y := by
  unfold ltOf at *
  simp only [decide_eq_false_iff_not] at *
  have e := cmpB_swap x y
  exact cmpB_eq (by omega)

theorem isNaN_ok (x : B) : PureC Tryd.prog GS 103 [e8 x] (.bool false) := by
  refine pure_of Tryd.checked.mixed GS_closed ?_
  apply call_intro c103_eq r103_eq
  unfold c103 r103
  simp [e8]
  exact rd_eq rfl rfl
theorem cmp1_ok (x y : B) : PureC Tryd.prog GS 91 [e8 x, e8 y] (.int .i64 (if x.toNat < y.toNat then -1 else if y.toNat < x.toNat then 1 else 0)) := by
  refine pure_of Tryd.checked.mixed GS_closed ?_
  apply call_intro c91_eq r91_eq
  unfold c91 r91
  simp
  refine pure_call (isNaN_ok x) rfl ?_
  simp
  refine pure_call (isNaN_ok y) rfl ?_
  by_cases h1 : x.toNat < y.toNat
  · simp [h1, e8, u]
    exact rd_eq rfl rfl
  · by_cases h2 : y.toNat < x.toNat
    · simp [h1, h2, e8, u]
      exact rd_eq rfl rfl
    · simp [h1, h2, e8, u]
      exact rd_eq rfl rfl
theorem cmpB_drop {a b : List B} (k : Nat) (h : ∀ j, j < k → a[j]? = b[j]?) (ha : k ≤ a.length) (hb : k ≤ b.length) : cmpB (a.drop k) (b.drop k) = cmpB a b := by
  induction k with
  | zero => simp
  | succ k ih =>
    rw [← ih (fun j hj => h j (by omega)) (by omega) (by omega)]
    have h1 := h k (by omega)
    rw [List.drop_eq_getElem_cons (l := a) (i := k) (by omega), List.drop_eq_getElem_cons (l := b) (i := k) (by omega)]
    rw [List.getElem?_eq_getElem (by omega), List.getElem?_eq_getElem (by omega)] at h1
    have h2 := Option.some.inj h1
    conv => rhs; unfold cmpB
    rw [h2]
    simp
theorem compare_ok (a b : Bs) (ha : a.l.length ≤ 1000000000) (hb : b.l.length = a.l.length) : PureC Tryd.prog GS 74 [encBs a, encBs b] (.int .i64 (cmpB a.l b.l)) := by
  refine pure_of Tryd.checked.mixed GS_closed ?_
  apply call_intro c74_eq r74_eq
  unfold c74 r74
  have hlen : lenM (.sl 1) (encBs a) = some (.int .i64 a.l.length) := len_encS _
  have hlen2 : lenM (.sl 1) (encBs b) = some (.int .i64 b.l.length) := len_encS _
  simp [hlen]
  refine loop_up a.l.length (fun k σ l => σ 0 = encBs a ∧ σ 1 = encBs b ∧ σ 9 = encBs a ∧ σ 10 = .int .i64 a.l.length ∧ σ 11 = .int .i64 k ∧ ∀ j, j < k → a.l[j]? = b.l[j]?) ?_ (by simp)
  rintro k σ l hk ⟨g0, g1, g9, g10, g11, hs⟩
  obtain ⟨σ, rfl⟩ := upds5 g0 g1 g9 g10 g11
  clear g0 g1 g9 g10 g11
  unfold l74_0
  by_cases h : k < a.l.length
  · obtain ⟨x, hx, _⟩ := get_of h
    obtain ⟨y, hy, _⟩ := get_of (l := b.l) (k := k) (by omega)
    have hia : iaC (.sl 1) (encBs a) (.int .i64 k) = some (.rptr (enc8 x) 0) := by rw [ia_encS]; simp [hx]
    have hib : iaC (.sl 1) (encBs b) (.int .i64 k) = some (.rptr (enc8 y) 0) := by rw [ia_encS]; simp [hy]
    have hwk : IntKind.i64.wrap ((k : Int) + 1) = (k + 1 : Nat) := wrap_i64 (by omega) (by omega)
    have hnk : ¬ (b.l.length ≤ k) := by omega
    have hc := cmp1_ok x y
    have hd := cmpB_drop (a := a.l) (b := b.l) k hs (by omega) (by omega)
    rw [List.drop_eq_getElem_cons (l := a.l) (i := k) (by omega), List.drop_eq_getElem_cons (l := b.l) (i := k) (by omega), (List.getElem?_eq_some_iff.1 hx).2, (List.getElem?_eq_some_iff.1 hy).2] at hd
    rw [cmpB_cons] at hd
    simp [h, hia, hib, enc8, hlen2, hnk]
    refine pure_call hc rfl ?_
    by_cases h1 : x.toNat < y.toNat
    · rw [if_pos h1] at hd
      simp [h1]
      exact rd_eq (by rw [← hd]) rfl
    · by_cases h2 : y.toNat < x.toNat
      · rw [if_neg h1, if_pos h2] at hd
        simp [h1, h2]
        exact rd_eq (by rw [← hd]) rfl
      · have hxy : x = y := BitVec.eq_of_toNat_eq (by omega)
        simp [h1, h2, h, hwk]
        intro j hj
        by_cases hjk : j = k
        · subst hjk; rw [hx, hy, hxy]
        · exact hs j (by omega)
  · have hk' : k = a.l.length := by omega
    subst hk'
    have hab : a.l = b.l := by
      apply List.ext_getElem?
      intro j
      by_cases hj : j < a.l.length
      · exact hs j hj
      · rw [List.getElem?_eq_none (by omega), List.getElem?_eq_none (by omega)]
    simp [hlen, hlen2, hb]
    exact rd_eq (by rw [hab, cmpB_self]) rfl
end Go.CM

/-
  The sort of Go's library, laid at this translation (printed by program).
-/
namespace Go.Proofs
open Go.Shelf
set_option maxRecDepth 100000
def Tryd.sortL_ren : Go.Shelf.Ren := ⟨fun | 6 => 59 | 15 => 73 | 14 => 72 | 28 => 89 | 29 => 90 | 20 => 81 | 21 => 82 | 22 => 83 | 23 => 84 | 24 => 85 | 25 => 86 | 26 => 87 | 27 => 88 | 46 => 98 | 47 => 99 | 48 => 100 | 49 => 101 | 50 => 102 | 57 => 107 | n => n, fun | 22 => 50 | 24 => 24 | 25 => 94 | 3 => 3 | 39 => 74 | 0 => 0 | 53 => 105 | 55 => 36 | 4 => 4 | 46 => 122 | 45 => 121 | 50 => 126 | 5 => 5 | 9 => 9 | 66 => 139 | 70 => 143 | 76 => 150 | 77 => 151 | n => n, fun | n => n⟩
theorem Tryd.sortL : Go.Proofs.SlLaysF0.n6 Tryd.prog Tryd.sortL_ren where
  mixed := by kernel_rfl
  f6 := ⟨"slices.SortFunc[[]braid/api.ID,braid/api.ID]", by decide, Tryd.func59.trans (congrArg some (by kernel_rfl))⟩
  f14 := ⟨"slices.pdqsortCmpFunc[braid/api.ID]", by decide, Tryd.func72.trans (congrArg some (by kernel_rfl))⟩
  f15 := Tryd.func73.trans (congrArg some (by kernel_rfl))
  f20 := ⟨"slices.insertionSortCmpFunc[braid/api.ID]", by decide, Tryd.func81.trans (congrArg some (by kernel_rfl))⟩
  f21 := ⟨"slices.heapSortCmpFunc[braid/api.ID]", by decide, Tryd.func82.trans (congrArg some (by kernel_rfl))⟩
  f22 := ⟨"slices.breakPatternsCmpFunc[braid/api.ID]", by decide, Tryd.func83.trans (congrArg some (by kernel_rfl))⟩
  f23 := ⟨"slices.choosePivotCmpFunc[braid/api.ID]", by decide, Tryd.func84.trans (congrArg some (by kernel_rfl))⟩
  f24 := ⟨"slices.reverseRangeCmpFunc[braid/api.ID]", by decide, Tryd.func85.trans (congrArg some (by kernel_rfl))⟩
  f25 := ⟨"slices.partialInsertionSortCmpFunc[braid/api.ID]", by decide, Tryd.func86.trans (congrArg some (by kernel_rfl))⟩
  f26 := ⟨"slices.partitionEqualCmpFunc[braid/api.ID]", by decide, Tryd.func87.trans (congrArg some (by kernel_rfl))⟩
  f27 := ⟨"slices.partitionCmpFunc[braid/api.ID]", by decide, Tryd.func88.trans (congrArg some (by kernel_rfl))⟩
  f28 := Tryd.func89.trans (congrArg some (by kernel_rfl))
  f29 := Tryd.func90.trans (congrArg some (by kernel_rfl))
  f46 := ⟨"slices.siftDownCmpFunc[braid/api.ID]", by decide, Tryd.func98.trans (congrArg some (by kernel_rfl))⟩
  f47 := Tryd.func99.trans (congrArg some (by kernel_rfl))
  f48 := Tryd.func100.trans (congrArg some (by kernel_rfl))
  f49 := ⟨"slices.medianAdjacentCmpFunc[braid/api.ID]", by decide, Tryd.func101.trans (congrArg some (by kernel_rfl))⟩
  f50 := ⟨"slices.medianCmpFunc[braid/api.ID]", by decide, Tryd.func102.trans (congrArg some (by kernel_rfl))⟩
  f57 := ⟨"slices.order2CmpFunc[braid/api.ID]", by decide, Tryd.func107.trans (congrArg some (by kernel_rfl))⟩
  t0 := Tryd.underlying0
  a0 := Tryd.isAgg0
  z0 := Tryd.sizeOf0
  v0 := Tryd.zeroValue0
  t3 := Tryd.underlying3
  a3 := Tryd.isAgg3
  z3 := Tryd.sizeOf3
  v3 := Tryd.zeroValue3
  t4 := Tryd.underlying4
  a4 := Tryd.isAgg4
  z4 := Tryd.sizeOf4
  v4 := Tryd.zeroValue4
  t5 := Tryd.underlying5
  a5 := Tryd.isAgg5
  z5 := Tryd.sizeOf5
  v5 := Tryd.zeroValue5
  t9 := Tryd.underlying9
  a9 := Tryd.isAgg9
  z9 := Tryd.sizeOf9
  v9 := Tryd.zeroValue9
  t22 := Tryd.underlying50
  a22 := Tryd.isAgg50
  z22 := Tryd.sizeOf50
  v22 := Tryd.zeroValue50
  t25 := Tryd.underlying94
  a25 := Tryd.isAgg94
  z25 := Tryd.sizeOf94
  v25 := Tryd.zeroValue94
  t39 := Tryd.underlying74
  a39 := Tryd.isAgg74
  z39 := Tryd.sizeOf74
  v39 := Tryd.zeroValue74
  t45 := Tryd.underlying121
  a45 := Tryd.isAgg121
  z45 := Tryd.sizeOf121
  v45 := Tryd.zeroValue121
  t46 := Tryd.underlying122
  a46 := Tryd.isAgg122
  z46 := Tryd.sizeOf122
  v46 := Tryd.zeroValue122
  t50 := Tryd.underlying126
  a50 := Tryd.isAgg126
  z50 := Tryd.sizeOf126
  v50 := Tryd.zeroValue126
  t53 := Tryd.underlying105
  a53 := Tryd.isAgg105
  z53 := Tryd.sizeOf105
  v53 := Tryd.zeroValue105
  t55 := Tryd.underlying36
  a55 := Tryd.isAgg36
  z55 := Tryd.sizeOf36
  v55 := Tryd.zeroValue36
  t66 := Tryd.underlying139
  a66 := Tryd.isAgg139
  z66 := Tryd.sizeOf139
  v66 := Tryd.zeroValue139
  t70 := Tryd.underlying143
  a70 := Tryd.isAgg143
  z70 := Tryd.sizeOf143
  v70 := Tryd.zeroValue143
  t76 := Tryd.underlying150
  a76 := Tryd.isAgg150
  z76 := Tryd.sizeOf150
  v76 := Tryd.zeroValue150
  t77 := Tryd.underlying151
  a77 := Tryd.isAgg151
  z77 := Tryd.sizeOf151
  v77 := Tryd.zeroValue151
end Go.Proofs

/-
  Ids, sorted by Go's library.
-/
namespace Go.CM
open Go Go.Proofs Go.Sort Go.Shelf
set_option linter.unusedVariables false
set_option linter.unusedSimpArgs false
set_option maxRecDepth 100000
open Sha

abbrev Idx := {l : List B // l.length = 32}
instance : Inhabited Idx := ⟨⟨List.replicate 32 0#8, by simp⟩⟩
def encX (x : Idx) : List CV := x.1.map e8
def cmpX (x y : Idx) : Int := cmpB x.1 y.1
theorem swo_X : SWO (ltOf cmpX) where
  irrefl x := swo_cmpB.irrefl x.1
  trans x y z := swo_cmpB.trans x.1 y.1 z.1
  ntrans x y z := swo_cmpB.ntrans x.1 y.1 z.1
theorem anti_X (x y : Idx) (h1 : ltOf cmpX x y = false) (h2 : ltOf cmpX y x = false) : x = y := Subtype.ext (anti_cmpB x.1 y.1 h1 h2)
theorem encX_len (x : Idx) : (encX x).length = 32 := by unfold encX; rw [List.length_map, x.2]
theorem encX_plain (x : Idx) : ∀ c ∈ encX x, plainC c = true := fun c hc => by obtain ⟨b, _, rfl⟩ := List.mem_map.1 hc; rfl
theorem sortL_ids {g : Nat} (eg : ∀ args w, (callFunc g args).run Tryd.prog w = .ok (.enter g args) w) : SortL Tryd.prog 59 g 32 (fun x => (encX x).map valOf) cmpX :=
  fun blk off cap d w hcmp hH hblk hsz =>
    AnyQ.slices_SortFunc Tryd.sortL 32 (by intro w; exact Tryd.isAgg24 w) (by intro w; exact Tryd.sizeOf24 w) _ (fun x => by rw [List.length_map, encX_len]) (fun x v hv => by obtain ⟨c, _, rfl⟩ := List.mem_map.1 hv; exact valOf_one c) cmpX swo_X g #[] blk off cap d w eg hcmp hH hblk hsz
end Go.CM

/-
  Sketches: compare, Of, walked.
-/
namespace Go.CM
open Go Go.Proofs Go.Sort Go.Shelf
set_option linter.unusedVariables false
set_option linter.unusedSimpArgs false
set_option maxRecDepth 100000
namespace Sk
open Sha

theorem enc8_flat : ∀ a : List B, (a.map enc8).flatten = a.map e8
  | [] => rfl
  | x :: a => by rw [List.map_cons, List.flatten_cons, enc8_flat a]; rfl
theorem own_arr {l : Hl} {j n : Nat} {a : List B} (ha : a.length = n) (hj : l[j]? = some (.cells n (a.map e8))) : OwnS 1 l (.sl 1 j 0 n n n) j (a.map enc8) := by
  refine .sl j n n n (a.map e8) _ hj (by simp [ha]) (by simp [ha]) (fun e he => ?_) (Nat.le_refl _) (by omega) ?_
  · obtain ⟨x, _, rfl⟩ := List.mem_map.1 he; rfl
  · rw [List.take_of_length_le (by simp [ha]), enc8_flat]
theorem skcmp_ok (a b : List B) (ha : a.length = 32) (hb : b.length = 32) : PureC Tryd.prog GS 60 [idC a, idC b] (.int .i64 (cmpB a b)) := by
  refine pure_of Tryd.checked.mixed GS_closed ?_
  apply call_intro c60_eq r60_eq
  unfold c60 r60
  have hs := slice_arr_all (n := 32) (b := 1) (by omega)
  have hs0 := slice_arr_all (n := 32) (b := 0) (by omega)
  simp [idC, ha, hb, hs, hs0]
  have hc := compare_ok (some a) (some b) (by simp [ha]) (by simp [ha, hb])
  refine pure_callB hc ?_ rfl ?_
  · exact .cons ((own_arr (j := 0) ha rfl).rdH_enc (fun _ => rfl) (some a) rfl rfl) (.cons ((own_arr (j := 1) hb rfl).rdH_enc (fun _ => rfl) (some b) rfl rfl) .nil)
  · simp
    exact rd_eq rfl rfl

/-! Of -/
def eId (i : List B) : List CV := i.map e8
abbrev Ids := Sv (List B)
def encIds (s : Ids) : CV := encS 32 eId s
def okIds (s : Ids) : Prop := ∀ i ∈ s.l, i.length = 32
theorem closed_eId (i : List B) : closedL (eId i) = true := closedL_map e8 (fun _ => rfl) _
theorem closed_ids (s : Ids) : (encIds s).closed = true := closed_encS closed_eId s
/-- Bounds of all counts. -/
def Bnd (m : Int) (l : List Cell) : Prop := ∀ c ∈ l, -m ≤ c.count ∧ c.count ≤ m
theorem putAt_some {N : Nat} {id : List B} {by_ : Int} {w : Q} (hid : id.length = 32) (hby : -1 ≤ by_ ∧ by_ ≤ 1) : ∀ (ps : List Nat) (l : List Cell) (m : Int), (∀ p ∈ ps, p < N) → l.length = N → (∀ c ∈ l, c.sum.length = 32) → Bnd m l → m + ps.length ≤ 1000000 →
    ∃ t, putAt id by_ w ps l = some t ∧ t.length = N ∧ (∀ c ∈ t, c.sum.length = 32) ∧ Bnd (m + ps.length) t
  | [], l, m, _, hl, ho, hb, _ => ⟨l, rfl, hl, ho, by simpa using hb⟩
  | p :: ps, l, m, hp, hl, ho, hb, hm => by
    have hpl : p < l.length := by rw [hl]; exact hp p (by simp)
    unfold putAt
    rw [List.getElem?_eq_getElem hpl]
    simp only
    have hc := hb l[p] (List.getElem_mem hpl)
    have hin : inR (stepC l[p] id by_ w) = true := by
      rw [inR_iff]; simp only [stepC]; simp only [List.length_cons] at hm; omega
    rw [hin]
    simp only
    obtain ⟨t, h1, h2, h3, h4⟩ := putAt_some (N := N) (w := w) hid hby ps (l.set p (stepC l[p] id by_ w)) (m + 1) (fun q hq => hp q (by simp [hq])) (by simpa using hl) (fun c hc => by
      rcases List.mem_or_eq_of_mem_set hc with h | h
      · exact ho c h
      · subst h; exact xorL_len (ho _ (List.getElem_mem hpl)) hid) (fun c hc => by
      rcases List.mem_or_eq_of_mem_set hc with h | h
      · have := hb c h; omega
      · subst h; simp only [stepC]; omega) (by simp only [List.length_cons] at hm; omega)
    refine ⟨t, h1, h2, h3, fun c hc => ?_⟩
    have := h4 c hc
    simp only [List.length_cons]
    omega
theorem changed_some {l : List Cell} {id : List B} {by_ m : Int} (hid : id.length = 32) (hby : -1 ≤ by_ ∧ by_ ≤ 1) (hsz : sizedB l.length = true) (ho : ∀ c ∈ l, c.sum.length = 32) (hb : Bnd m l) (hm : m + 3 ≤ 1000000) :
    ∃ t, changed l id by_ = some t ∧ t.length = l.length ∧ (∀ c ∈ t, c.sum.length = 32) ∧ Bnd (m + 3) t := by
  obtain ⟨N, hN, h3, h48, hmod⟩ := sized_nat hsz
  have hN' : l.length = N := by omega
  have := putAt_some (N := l.length) (w := word id) hid hby (placesL l.length id) l m (fun p hp => by
    simp only [placesL, List.mem_cons, List.not_mem_nil, or_false] at hp
    rcases hp with rfl | rfl | rfl <;> exact place_lt_n (by omega) (by omega) id (by omega)) rfl ho hb (by simpa [placesL] using hm)
  simpa [placesL, changed] using this
theorem chk_of {s : Sketch} (hsz : sizedB s.l.length = true) (hb : Bnd 1000000 s.l) : chk s = 0 := by
  unfold chk
  rw [if_pos ⟨hsz, List.all_eq_true.2 fun c hc => by rw [inR_iff]; exact hb c hc⟩]
theorem put_of {s : Sketch} {id : List B} {by_ : Int} {t : List Cell} (h0 : chk s = 0) (h : changed s.l id by_ = some t) : put s id by_ = (some t, 0) := by unfold put; rw [if_pos h0, h]
/-- A sketch, valid, with bounded counts. -/
structure Good (N : Nat) (m : Int) (l : List Cell) : Prop where
  len : l.length = N
  sum : ∀ c ∈ l, c.sum.length = 32
  bnd : Bnd m l
def addAll (l : List Cell) (ids : List (List B)) : List Cell := ids.foldl (fun l i => (changed l i 1).getD []) l
theorem addAll_snoc (l : List Cell) (ids : List (List B)) (i : List B) : addAll l (ids ++ [i]) = (changed (addAll l ids) i 1).getD [] := by unfold addAll; rw [List.foldl_append]; rfl
theorem Good.step {N : Nat} {m : Int} {l : List Cell} (g : Good N m l) (hN : sizedB N = true) {id : List B} (hid : id.length = 32) {by_ : Int} (hby : -1 ≤ by_ ∧ by_ ≤ 1) (hm : m + 3 ≤ 1000000) :
    ∃ t, changed l id by_ = some t ∧ Good N (m + 3) t := by
  obtain ⟨t, h1, h2, h3, h4⟩ := changed_some hid hby (by rw [g.len]; exact hN) g.sum g.bnd hm
  exact ⟨t, h1, ⟨by rw [h2, g.len], h3, h4⟩⟩
theorem Good.add {N : Nat} (hN : sizedB N = true) : ∀ (ids : List (List B)) (m : Int) (l : List Cell), Good N m l → (∀ i ∈ ids, i.length = 32) → m + 3 * ids.length ≤ 1000000 → Good N (m + 3 * ids.length) (addAll l ids)
  | [], m, l, g, _, _ => by simpa [addAll] using g
  | i :: ids, m, l, g, hi, hm => by
    simp only [List.length_cons] at hm
    obtain ⟨t, h1, h2⟩ := g.step hN (hi i (by simp)) (by_ := 1) (by omega) (by omega)
    have := Good.add hN ids (m + 3) t h2 (fun j hj => hi j (by simp [hj])) (by omega)
    have e : addAll l (i :: ids) = addAll t ids := by unfold addAll; rw [List.foldl_cons, h1]; rfl
    rw [e]
    have e2 : m + 3 * ((i :: ids).length : Int) = m + 3 + 3 * ids.length := by simp only [List.length_cons]; omega
    rw [e2]; exact this
theorem Good.zero (N : Nat) : Good N 0 (List.replicate N zeroCell) := ⟨by simp, fun c hc => by rw [(List.mem_replicate.1 hc).2]; rfl, fun c hc => by rw [(List.mem_replicate.1 hc).2]; simp [zeroCell]⟩
def ofS (n : Int) (ids : List (List B)) : Sketch × Int :=
  match sizedB n with
  | false => (none, 2)
  | true => if 60 < ids.length then (none, 4) else (some (addAll (List.replicate n.toNat zeroCell) ids), 0)
theorem of_ok (n : Int) (ids : Ids) (ho : okIds ids) (hl : ids.l.length ≤ 1000000000) : PureC Tryd.prog GS 27 [.int .i64 n, encIds ids] (.tu [encSk (ofS n ids.l).1, .int .i64 (ofS n ids.l).2]) := by
  refine pure_of Tryd.checked.mixed GS_closed ?_
  apply call_intro c27_eq r27_eq
  unfold c27 r27 ofS
  have hlen : lenM (.sl 32) (encIds ids) = some (.int .i64 ids.l.length) := len_encS _
  simp
  refine pure_call (new_ok n) rfl ?_
  unfold newS
  cases hsz : sizedB n with
  | false =>
    simp
    exact rd_put0 rfl
  | true =>
    simp [hlen]
    by_cases h60 : 60 < ids.l.length
    · have h60' : (60 : Int) < ids.l.length := by omega
      simp [h60, h60']
      exact rd_put0 rfl
    · have h60' : ¬ (60 : Int) < ids.l.length := by omega
      simp [h60, h60', hlen]
      obtain ⟨N, rfl, h3, h48, hmod⟩ := sized_nat hsz
      simp only [Int.toNat_natCast]
      rw [if_neg h60]
      refine loop_up ids.l.length (fun k σ l => σ 6 = encSk (some (addAll (List.replicate N zeroCell) (ids.l.take k))) ∧ σ 21 = encIds ids ∧ σ 22 = .int .i64 ids.l.length ∧ σ 23 = .int .i64 k) ?_ (by simp [addAll])
      rintro k σ l hk ⟨g6, g21, g22, g23⟩
      obtain ⟨σ, rfl⟩ := upds4 g6 g21 g22 g23
      clear g6 g21 g22 g23
      unfold l27_0
      by_cases h : k < ids.l.length
      · obtain ⟨x, hx, hxm⟩ := get_of h
        have hwk : IntKind.i64.wrap ((k : Int) + 1) = (k + 1 : Nat) := wrap_i64 (by omega) (by omega)
        have hia : iaC (.sl 32) (encIds ids) (.int .i64 k) = some (.rptr (eId x) 0) := by unfold encIds; rw [ia_encS]; simp [hx]
        have hxl := ho x hxm
        have gk := Good.add hsz (ids.l.take k) 0 _ (Good.zero N) (fun i hi => ho i (List.mem_of_mem_take hi)) (by simp; omega)
        obtain ⟨t, h1, h2⟩ := gk.step hsz hxl (by_ := 1) (by omega) (by simp; omega)
        obtain ⟨cur, hcur⟩ : ∃ cur, cur = addAll (List.replicate N zeroCell) (ids.l.take k) := ⟨_, rfl⟩
        rw [← hcur] at gk h1
        have hchk : chk (some cur) = 0 := chk_of (by rw [Sv.l_some, gk.len]; exact hsz) (fun c hc => by have := gk.bnd c hc; simp at this; omega)
        have hput := put_of (s := some cur) hchk h1
        have hadd := add_ok (some cur) x (fun c hc => gk.sum c hc) (by rw [Sv.l_some, gk.len]; omega) hxl
        rw [hput] at hadd
        have hnext : addAll (List.replicate N zeroCell) (ids.l.take (k + 1)) = t := by
          rw [List.take_add_one, hx]; simp only [Option.toList_some]; rw [addAll_snoc, ← hcur, h1]; rfl
        have hI : (x.map e8).length = 32 := by simp [hxl]
        have hIc : closedL (x.map e8) = true := closedL_map e8 (fun _ => rfl) _
        unfold idC at hadd
        have hsp : splice (rep 32 (CV.int IntKind.u8 0)) 0 (x.map e8) = x.map e8 := splice_full (by simp [hxl])
        simp [h, hia, eId, hI, hxl, List.take_of_length_le, hsp, ← hcur]
        refine pure_call hadd (by simp [closedL, CV.closed, closed_sk, hIc]) ?_
        simp [h, hwk, hnext]
      · have hk' : k = ids.l.length := by omega
        subst hk'
        simp
        exact rd_tu2 (.same _ (closed_sk _)) (.same _ rfl)
theorem refOf2_ok (n : Int) (ids : Ids) (ho : okIds ids) (hl : ids.l.length ≤ 1000000000) : PureC Tryd.prog GS 28 [.int .i64 n, encIds ids] (.tu [encSk (ofS n ids.l).1, .int .i64 (ofS n ids.l).2]) := by
  refine pure_of Tryd.checked.mixed GS_closed ?_
  apply call_intro c28_eq r28_eq
  unfold c28 r28 ofS
  have hlen : lenM (.sl 32) (encIds ids) = some (.int .i64 ids.l.length) := len_encS _
  simp
  refine pure_call (refNew_ok n) rfl ?_
  unfold newS
  cases hsz : sizedB n with
  | false =>
    simp
    exact rd_put0 rfl
  | true =>
    simp [hlen]
    by_cases h60 : 60 < ids.l.length
    · have h60' : (60 : Int) < ids.l.length := by omega
      simp [h60, h60']
      exact rd_put0 rfl
    · have h60' : ¬ (60 : Int) < ids.l.length := by omega
      simp [h60, h60', hlen]
      obtain ⟨N, rfl, h3, h48, hmod⟩ := sized_nat hsz
      simp only [Int.toNat_natCast]
      rw [if_neg h60]
      refine loop_up ids.l.length (fun k σ l => σ 6 = encSk (some (addAll (List.replicate N zeroCell) (ids.l.take k))) ∧ σ 1 = encIds ids ∧ σ 8 = .int .i64 k) ?_ (by simp [addAll])
      rintro k σ l hk ⟨g6, g1, g8⟩
      obtain ⟨σ, rfl⟩ := upds3 g1 g6 g8
      clear g6 g1 g8
      unfold l28_0
      by_cases h : k < ids.l.length
      · obtain ⟨x, hx, hxm⟩ := get_of h
        have hwk : IntKind.i64.wrap ((k : Int) + 1) = (k + 1 : Nat) := wrap_i64 (by omega) (by omega)
        have hia : iaC (.sl 32) (encIds ids) (.int .i64 k) = some (.rptr (eId x) 0) := by unfold encIds; rw [ia_encS]; simp [hx]
        have hxl := ho x hxm
        have gk := Good.add hsz (ids.l.take k) 0 _ (Good.zero N) (fun i hi => ho i (List.mem_of_mem_take hi)) (by simp; omega)
        obtain ⟨t, h1, h2⟩ := gk.step hsz hxl (by_ := 1) (by omega) (by simp; omega)
        obtain ⟨cur, hcur⟩ : ∃ cur, cur = addAll (List.replicate N zeroCell) (ids.l.take k) := ⟨_, rfl⟩
        rw [← hcur] at gk h1
        have hch := changed_ok (some cur) x 1 (fun c hc => gk.sum c hc) (fun c hc => by have := gk.bnd c hc; rw [inR_iff]; simp at this; omega) (by rw [Sv.l_some, gk.len]; exact hsz) hxl (by omega)
        have hnext : addAll (List.replicate N zeroCell) (ids.l.take (k + 1)) = t := by
          rw [List.take_add_one, hx]; simp only [Option.toList_some]; rw [addAll_snoc, ← hcur, h1]; rfl
        have hI : (x.map e8).length = 32 := by simp [hxl]
        have hIc : closedL (x.map e8) = true := closedL_map e8 (fun _ => rfl) _
        simp only [Sv.l_some, h1] at hch
        unfold idC at hch
        simp [hlen, h, hia, eId, hI, hxl, List.take_of_length_le, ← hcur]
        refine pure_call hch (by simp [closedL, CV.closed, closed_sk, hIc]) ?_
        simp [outC, h, hwk, hnext]
      · have hk' : k = ids.l.length := by omega
        subst hk'
        simp [hlen]
        exact rd_tu2 (.same _ (closed_sk _)) (.same _ rfl)
end Sk
end Go.CM

/-
  Sketches: Sub, walked.
-/
namespace Go.CM
open Go Go.Proofs Go.Sort Go.Shelf
set_option linter.unusedVariables false
set_option linter.unusedSimpArgs false
set_option maxRecDepth 100000
namespace Sk
open Sha

def subC (c d : Cell) : Cell := ⟨c.count - d.count, xorL c.sum d.sum, c.check ^^^ d.check⟩
def subL (a b : List Cell) : List Cell := List.zipWith subC a b
def subS (a b : Sketch) : Sketch × Int :=
  if chk a = 0 then (if chk b = 0 then (if a.l.length = b.l.length then (if (subL a.l b.l).all inR = true then (some (subL a.l b.l), 0) else (none, 16)) else (none, 2)) else (none, chk b)) else (none, chk a)
theorem subL_get {a b : List Cell} {k : Nat} {x y : Cell} (hx : a[k]? = some x) (hy : b[k]? = some y) : (subL a b)[k]? = some (subC x y) := by unfold subL; rw [List.getElem?_zipWith, hx, hy]
theorem subL_len {a b : List Cell} (h : a.length = b.length) : (subL a b).length = a.length := by unfold subL; simp; omega
/-- The first ones are changed. -/
def subK (a b : List Cell) (k : Nat) : List Cell := (subL a b).take k ++ a.drop k
theorem subK_get {a b : List Cell} (h : a.length = b.length) {k : Nat} (hk : k < a.length) : (subK a b k)[k]? = a[k]? := by
  unfold subK
  have hl : (List.take k (subL a b)).length = k := by rw [List.length_take, subL_len h]; omega
  rw [List.getElem?_append_right (by omega), hl, List.getElem?_drop]; simp
theorem subK_set {a b : List Cell} (h : a.length = b.length) {k : Nat} {x y : Cell} (hx : a[k]? = some x) (hy : b[k]? = some y) : (subK a b k).set k (subC x y) = subK a b (k + 1) := by
  have hk := (List.getElem?_eq_some_iff.1 hx).1
  unfold subK
  have hl : (List.take k (subL a b)).length = k := by rw [List.length_take, subL_len h]; omega
  rw [List.set_append_right _ _ (by omega), hl, Nat.sub_self, List.drop_eq_getElem_cons hk, List.set_cons_zero, List.take_add_one, subL_get hx hy]
  simp
theorem subK_end {a b : List Cell} (h : a.length = b.length) : subK a b a.length = subL a b := by
  unfold subK
  rw [List.take_of_length_le (by rw [subL_len h]; exact Nat.le_refl _), List.drop_length, List.append_nil]
theorem all_of {l : List Cell} (h : ∀ (k : Nat) (c : Cell), l[k]? = some c → inR c = true) : l.all inR = true := by
  rw [List.all_eq_true]; intro c hc; obtain ⟨j, hj⟩ := List.mem_iff_getElem?.1 hc; exact h j c hj
theorem all_not {l : List Cell} {k : Nat} {c : Cell} (h : l[k]? = some c) (hc : inR c = false) : ¬ l.all inR = true := by
  rw [List.all_eq_true]; intro h2; have := h2 c (List.mem_of_getElem? h); rw [hc] at this; cases this

set_option maxHeartbeats 16000000 in
theorem sub_ok (a b : Sketch) (ha : okSk a) (hb : okSk b) (hla : a.l.length ≤ 1000000) (hlb : b.l.length ≤ 1000000) :
    PureC Tryd.prog GS 29 [encSk a, encSk b] (.tu [encSk (subS a b).1, .int .i64 (subS a b).2]) := by
  refine pure_of Tryd.checked.mixed GS_closed ?_
  apply call_intro c29_eq r29_eq
  unfold c29 r29
  have h1 : lenM (.sl 34) (encSk a) = some (.int .i64 a.l.length) := len_encS _
  have h2 : lenM (.sl 34) (encSk b) = some (.int .i64 b.l.length) := len_encS _
  have hca : (encSk a).closed = true := closed_sk a
  have hcb : (encSk b).closed = true := closed_sk b
  have hea : (encSk a).cells = some [encSk a] := by unfold encSk encS; cases a <;> rfl
  have heb : (encSk b).cells = some [encSk b] := by unfold encSk encS; cases b <;> rfl
  have hs1 : splice [CV.nilS, CV.nilS] 0 [encSk a] = [encSk a, .nilS] := rfl
  have hs2 : splice [encSk a, CV.nilS] 1 [encSk b] = [encSk a, encSk b] := rfl
  simp [hea, heb, hs1, hs2]
  refine loop_up 2 (fun k σ l => σ 0 = encSk a ∧ σ 1 = encSk b ∧ σ 14 = .sl 1 0 0 2 2 2 ∧ σ 15 = .int .i64 2 ∧ σ 16 = .int .i64 k ∧ l = [.cells 2 [encSk a, encSk b]] ∧ (1 ≤ k → chk a = 0) ∧ (2 ≤ k → chk b = 0)) ?_ (by simp)
  rintro k σ l hk ⟨g0, g1, g14, g15, g16, rfl, hA, hB⟩
  obtain ⟨σ, rfl⟩ := upds5 g0 g1 g14 g15 g16
  clear g0 g1 g14 g15 g16
  unfold l29_0
  match k, hk with
  | 0, _ =>
    simp
    refine pure_call (check_ok a ha (by omega)) (by simp [closedL, hca]) ?_
    rcases chk_8 a with h0 | h0
    · simp [h0]; rfl
    · have : subS a b = (none, 8) := by unfold subS; rw [if_neg (by rw [h0]; simp), h0]
      simp [h0, this]
      exact rd_put0 rfl
  | 1, _ =>
    have hA := hA (Nat.le_refl _)
    simp
    refine pure_call (check_ok b hb (by omega)) (by simp [closedL, hcb]) ?_
    rcases chk_8 b with h0 | h0
    · simp [h0, hA]; rfl
    · have : subS a b = (none, 8) := by unfold subS; rw [if_pos hA, if_neg (by rw [h0]; simp), h0]
      simp [h0, this]
      exact rd_put0 rfl
  | 2, _ =>
    have hA := hA (by omega)
    have hB := hB (by omega)
    simp [h1, h2]
    by_cases hab : a.l.length = b.l.length
    · have hab' : ((a.l.length : Int) = b.l.length) := by omega
      simp [hab']
      obtain ⟨hsz, hin⟩ := chk_0 hA
      obtain ⟨_, hinb⟩ := chk_0 hB
      obtain ⟨N, hN, h3, h48, hmod⟩ := sized_nat hsz
      have hN' : a.l.length = N := by omega
      refine cloneS_own ha (by omega) fun v j l' hown hll hfr hj hnil => ?_
      have hsn : isNilS v = false := by
        rw [hnil]
        cases a with
        | none => simp at hN'; omega
        | some l => rfl
      obtain ⟨n, cap, sz, cs0, rfl, _, _, hn, _⟩ := hown.view hsn
      have hnN : n = N := by rw [List.length_map] at hn; omega
      subst hnN
      clear hfr hj hnil hsn hll
      simp [h2]
      refine loop_up b.l.length (fun k σ l => σ 9 = .sl 34 j 0 n cap sz ∧ σ 33 = encSk b ∧ σ 34 = .int .i64 b.l.length ∧ σ 35 = .int .i64 k ∧ OwnS 34 l (.sl 34 j 0 n cap sz) j ((subK a.l b.l k).map encCell) ∧ ∀ (i : Nat) (c : Cell), i < k → (subL a.l b.l)[i]? = some c → inR c = true) ?_ ⟨by simp, by simp, by simp, by simp, by simpa [subK] using hown, fun i c hi => by omega⟩
      clear hown
      rintro k σ l hk ⟨g9, g33, g34, g35, hown, hall⟩
      obtain ⟨σ, rfl⟩ := upds4 g9 g33 g34 g35
      clear g9 g33 g34 g35
      unfold l29_1
      by_cases hkl : k < b.l.length
      · have hwk : IntKind.i64.wrap ((k : Int) + 1) = (k + 1 : Nat) := wrap_i64 (by omega) (by omega)
        obtain ⟨c, hc, hcm⟩ := get_of (l := a.l) (k := k) (by omega)
        obtain ⟨d, hd, hdm⟩ := get_of (l := b.l) (k := k) hkl
        have hcl := ha c hcm
        have hdl := hb d hdm
        have hcr := (inR_iff c).1 (hin c hcm)
        have hdr := (inR_iff d).1 (hinb d hdm)
        have hkg := subK_get (b := b.l) (a := a.l) (by omega) (k := k) (by omega)
        rw [hc] at hkg
        have hkn : k < n := by omega
        obtain ⟨_, _, _, A, B, hv, _, hlj, hA1, hle, hcsl, hback⟩ := hown.split (i := k) (e := encCell c) (by rw [List.getElem?_map, hkg]; rfl)
        cases hv
        have hdC : iaC (.sl 34) (encSk b) (.int .i64 k) = some (.rptr (encCell d) 0) := by unfold encSk; rw [ia_encS]; simp [hd]
        obtain ⟨D, hD⟩ : ∃ D, D = encCell d := ⟨_, rfl⟩
        obtain ⟨p1, p2, p3, p4⟩ := row_parts d hdl D hD
        obtain ⟨T, hT⟩ : ∃ T, T = d.sum.map e8 := ⟨_, rfl⟩
        have hTl : T.length = 32 := by rw [hT, List.length_map, hdl]
        have hTc : closedL T = true := by rw [hT]; exact closedL_map e8 (fun _ => rfl) _
        rw [← hT, List.drop_one] at p3
        rw [← hD] at hdC
        have hs34 : splice (CV.int IntKind.i64 0 :: (rep 32 (CV.int IntKind.u8 0) ++ [CV.int IntKind.u64 0])) 0 D = D := splice_full (by rw [p1]; rfl)
        obtain ⟨_, q2⟩ := List.getElem?_eq_some_iff.1 p2
        obtain ⟨_, q4⟩ := List.getElem?_eq_some_iff.1 p4
        unfold encCell at hlj hcsl
        obtain ⟨S, hS⟩ : ∃ S, S = c.sum.map e8 := ⟨_, rfl⟩
        have hSl : S.length = 32 := by rw [hS, List.length_map, hcl]
        rw [← hS] at hlj hcsl
        obtain ⟨c', hc'⟩ : ∃ c', c' = subC c d := ⟨_, rfl⟩
        obtain ⟨S', hS'⟩ : ∃ S', S' = c'.sum.map e8 := ⟨_, rfl⟩
        have hsl' : c'.sum.length = 32 := by rw [hc']; exact xorL_len hcl hdl
        have hSl' : S'.length = 32 := by rw [hS', List.length_map, hsl']
        have hjl := get_lt hlj
        obtain ⟨b34, hb34⟩ : ∃ b, b = k * 34 := ⟨_, rfl⟩
        rw [← hb34] at hA1 hle
        obtain ⟨o1, o2, _⟩ := row_ops A S B (.int .i64 c.count) (e64 c.check) b34 hA1 hSl
        obtain ⟨_, _, o3, o4, _⟩ := row_ops A S B (.int .i64 c'.count) (e64 c.check) b34 hA1 hSl
        obtain ⟨_, _, _, _, o5, o6⟩ := row_ops A S' B (.int .i64 c'.count) (e64 c.check) b34 hA1 hSl'
        obtain ⟨o7, _⟩ := row_ops A S' B (.int .i64 c'.count) (e64 c'.check) b34 hA1 hSl'
        have o2 := o2 (.int .i64 c'.count)
        have o4 := o4 S' hSl'
        have o6 := o6 (e64 c'.check)
        have l1 : (A ++ ((CV.int .i64 c'.count :: (S ++ [e64 c.check])) ++ B)).length = sz := by rw [← hcsl]; simp
        have l2 : (A ++ ((CV.int .i64 c'.count :: (S' ++ [e64 c.check])) ++ B)).length = sz := by rw [← hcsl]; simp [hSl, hSl']
        have l3 : (A ++ ((CV.int .i64 c'.count :: (S' ++ [e64 c'.check])) ++ B)).length = sz := by rw [← hcsl]; simp [hSl, hSl']
        have hback := hback (encCell c')
        obtain ⟨C0, hC0⟩ : ∃ C, C = A ++ ((CV.int .i64 c.count :: (S ++ [e64 c.check])) ++ B) := ⟨_, rfl⟩
        obtain ⟨C1, hC1⟩ : ∃ C, C = A ++ ((CV.int .i64 c'.count :: (S ++ [e64 c.check])) ++ B) := ⟨_, rfl⟩
        obtain ⟨C2, hC2⟩ : ∃ C, C = A ++ ((CV.int .i64 c'.count :: (S' ++ [e64 c.check])) ++ B) := ⟨_, rfl⟩
        obtain ⟨C3, hC3⟩ : ∃ C, C = A ++ ((CV.int .i64 c'.count :: (S' ++ [e64 c'.check])) ++ B) := ⟨_, rfl⟩
        rw [← hC0] at o1 o2 hlj hcsl
        rw [← hC1] at o2 o3 o4 l1
        rw [← hC2] at o4 o5 o6 l2
        rw [← hC3] at o6 o7 l3
        have hset := subK_set (a := a.l) (b := b.l) (by omega) hc hd
        rw [← hc'] at hset
        have hback3 : ∀ l', l'[j]? = some (CB.cells sz C3) → OwnS 34 l' (.sl 34 j 0 n cap sz) j ((subK a.l b.l (k + 1)).map encCell) := fun l' hl' => by
          rw [← hset, List.map_set]
          refine hback l' (cell_len hsl') ?_
          rw [hl', hC3, hS']; rfl
        have hwc : IntKind.i64.wrap (c.count - d.count) = c'.count := by rw [wrap_i64 (by omega) (by omega), hc']; rfl
        have hx := xor_ok c.sum d.sum hcl hdl
        have hxe : xorL c.sum d.sum = c'.sum := by rw [hc']; rfl
        rw [hxe] at hx
        unfold idC at hx
        rw [← hS, ← hS', ← hT] at hx
        have hSc : closedL S = true := by rw [hS]; exact closedL_map e8 (fun _ => rfl) _
        have hcheck : c.check ^^^ d.check = c'.check := by rw [hc']; rfl
        have hrg := ranged_ok c'.count
        have hinr : rangedB c'.count = inR c' := rfl
        rw [hinr] at hrg
        have q1 : b34 + 1 ≤ sz := by omega
        have q5 : b34 + 1 + 32 ≤ sz := by omega
        have q3 : b34 + 33 + 1 ≤ sz := by omega
        obtain ⟨_, hlj'⟩ := List.getElem?_eq_some_iff.1 hlj
        obtain ⟨L0, hL0⟩ : ∃ L, L = l ++ [CB.cells 34 D] := ⟨_, rfl⟩
        obtain ⟨m, hm⟩ : ∃ m, m = l.length := ⟨_, rfl⟩
        have hjL : j < L0.length := by rw [hL0]; simp; omega
        have hmL : m < L0.length := by rw [hL0]; simp; omega
        have hjm : j ≠ m := by omega
        have happ : L0[j]? = some (.cells sz C0) := by rw [hL0, List.getElem?_append_left hjl]; exact hlj
        have hmD : L0[m]? = some (.cells 34 D) := by rw [hL0, hm]; simp
        obtain ⟨_, happ'⟩ := List.getElem?_eq_some_iff.1 happ
        obtain ⟨_, hmD'⟩ := List.getElem?_eq_some_iff.1 hmD
        have hset0 : ∀ X : CB, (L0.set j X)[m]? = some (CB.cells 34 D) := fun X => by rw [List.getElem?_set_ne hjm]; exact hmD
        have hD33 : D[33]? = some (e64 d.check) := p4
        have hDS : (D.drop 1).take 32 = T := by rw [List.drop_one]; exact p3
        simp [hkl, hdC, p1, hs34, hkn, ← hb34, List.take_of_length_le, ← hL0, ← hm, happ', hmD', hmL, o1, q2, hwc, q1, o2, hjL, l1, hset0, hjm, o3, p3, q5]
        refine pure_call hx (by simp [closedL, CV.closed, hSc, hTc]) ?_
        simp [hjL, hSl', o4, l1, l2, q1, q5, q3, o5, p4, hcheck, o6, o7, l3, hset0, hkn, ← hb34]
        refine pure_call hrg rfl ?_
        have hcg : (subL a.l b.l)[k]? = some c' := by rw [hc']; exact subL_get hc hd
        cases hcase : inR c' with
        | false =>
          have : subS a b = (none, 16) := by unfold subS; rw [if_pos hA, if_pos hB, if_pos hab, if_neg (all_not hcg hcase)]
          rw [this]
          simp
          exact rd_put0 rfl
        | true =>
          simp [hkl, hwk]
          refine ⟨hback3 _ (List.getElem?_set_self hjL), fun i e hi he => ?_⟩
          rcases Nat.lt_or_ge i k with h5 | h5
          · exact hall i e h5 he
          · have : i = k := by omega
            subst this
            rw [hcg] at he; cases he; exact hcase
      · have hk' : k = b.l.length := by omega
        subst hk'
        have hall2 : (subL a.l b.l).all inR = true := all_of fun i c hi => hall i c (by have := (List.getElem?_eq_some_iff.1 hi).1; rw [subL_len hab] at this; omega) hi
        have hres : subS a b = (some (subL a.l b.l), 0) := by unfold subS; rw [if_pos hA, if_pos hB, if_pos hab, if_pos hall2]
        rw [← hab, subK_end hab] at hown
        rw [hres]
        simp
        exact rd_tu2 (hown.q.rd_enc closed_cell (some _) rfl rfl) (.same _ rfl)
    · have hab' : ¬ ((a.l.length : Int) = b.l.length) := by omega
      have : subS a b = (none, 2) := by unfold subS; rw [if_pos hA, if_pos hB, if_neg hab]
      simp [hab', this]
      exact rd_put0 rfl
set_option maxHeartbeats 16000000 in
theorem refSub_ok (a b : Sketch) (ha : okSk a) (hb : okSk b) (hla : a.l.length ≤ 1000000) (hlb : b.l.length ≤ 1000000) :
    PureC Tryd.prog GS 30 [encSk a, encSk b] (.tu [encSk (subS a b).1, .int .i64 (subS a b).2]) := by
  refine pure_of Tryd.checked.mixed GS_closed ?_
  apply call_intro c30_eq r30_eq
  unfold c30 r30
  have h1 : lenM (.sl 34) (encSk a) = some (.int .i64 a.l.length) := len_encS _
  have h2 : lenM (.sl 34) (encSk b) = some (.int .i64 b.l.length) := len_encS _
  have hca : (encSk a).closed = true := closed_sk a
  have hcb : (encSk b).closed = true := closed_sk b
  simp
  refine pure_call (refCheck_ok a ha (by omega)) (by simp [closedL, hca]) ?_
  rcases chk_8 a with hA | hA
  · simp [hA]
    refine pure_call (refCheck_ok b hb (by omega)) (by simp [closedL, hcb]) ?_
    rcases chk_8 b with hB | hB
    · simp [hB, h1, h2]
      by_cases hab : a.l.length = b.l.length
      · have hab' : ((a.l.length : Int) = b.l.length) := by omega
        obtain ⟨hsz, hin⟩ := chk_0 hA
        obtain ⟨_, hinb⟩ := chk_0 hB
        obtain ⟨N, hN, h3, h48, hmod⟩ := sized_nat hsz
        have hN' : a.l.length = N := by omega
        simp [hab']
        refine loop_up a.l.length (fun k σ l => σ 0 = encSk a ∧ σ 1 = encSk b ∧ σ 9 = .int .i64 k ∧ (∀ (i : Nat) (c : Cell), i < k → (subL a.l b.l)[i]? = some c → inR c = true) ∧ ∃ v j, σ 8 = v ∧ OwnS 34 l v j (((subL a.l b.l).take k).map encCell) ∧ (isNilS v = decide (k = 0))) ?_ ⟨by simp, by simp, by simp, fun i c hi => by omega, .nilS, 0, by simp, .nil 0, rfl⟩
        rintro k σ l hk ⟨g0, g1, g9, hall, v, j, g8, hown, hnil⟩
        obtain ⟨σ, rfl⟩ := upds4 g0 g1 g8 g9
        clear g0 g1 g8 g9
        unfold l30_0
        by_cases hkl : k < a.l.length
        · have hwk : IntKind.i64.wrap ((k : Int) + 1) = (k + 1 : Nat) := wrap_i64 (by omega) (by omega)
          obtain ⟨c, hc, hcm⟩ := get_of (l := a.l) (k := k) hkl
          obtain ⟨d, hd, hdm⟩ := get_of (l := b.l) (k := k) (by omega)
          have hcl := ha c hcm
          have hdl := hb d hdm
          have hcr := (inR_iff c).1 (hin c hcm)
          have hdr := (inR_iff d).1 (hinb d hdm)
          have hcC : iaC (.sl 34) (encSk a) (.int .i64 k) = some (.rptr (encCell c) 0) := by unfold encSk; rw [ia_encS]; simp [hc]
          have hdC : iaC (.sl 34) (encSk b) (.int .i64 k) = some (.rptr (encCell d) 0) := by unfold encSk; rw [ia_encS]; simp [hd]
          obtain ⟨C, hC⟩ : ∃ C, C = encCell c := ⟨_, rfl⟩
          obtain ⟨p1, p2, p3, p4⟩ := row_parts c hcl C hC
          obtain ⟨D, hD⟩ : ∃ D, D = encCell d := ⟨_, rfl⟩
          obtain ⟨r1, r2, r3, r4⟩ := row_parts d hdl D hD
          obtain ⟨S, hS⟩ : ∃ S, S = c.sum.map e8 := ⟨_, rfl⟩
          obtain ⟨T, hT⟩ : ∃ T, T = d.sum.map e8 := ⟨_, rfl⟩
          have hSl : S.length = 32 := by rw [hS, List.length_map, hcl]
          have hTl : T.length = 32 := by rw [hT, List.length_map, hdl]
          have hSc : closedL S = true := by rw [hS]; exact closedL_map e8 (fun _ => rfl) _
          have hTc : closedL T = true := by rw [hT]; exact closedL_map e8 (fun _ => rfl) _
          rw [← hS] at p3
          rw [← hT] at r3
          rw [← hC] at hcC
          rw [← hD] at hdC
          rw [List.drop_one] at p3 r3
          obtain ⟨c', hc'⟩ : ∃ c', c' = subC c d := ⟨_, rfl⟩
          obtain ⟨S', hS'⟩ : ∃ S', S' = c'.sum.map e8 := ⟨_, rfl⟩
          have hsl' : c'.sum.length = 32 := by rw [hc']; exact xorL_len hcl hdl
          have hSl' : S'.length = 32 := by rw [hS', List.length_map, hsl']
          have hwc : IntKind.i64.wrap (c.count - d.count) = c'.count := by rw [wrap_i64 (by omega) (by omega), hc']; rfl
          have hx := mixed_ok c.sum d.sum hcl hdl
          have hxe : xorL c.sum d.sum = c'.sum := by rw [hc']; rfl
          rw [hxe] at hx
          unfold idC at hx
          rw [← hS, ← hS', ← hT] at hx
          have hcheck : c.check ^^^ d.check = c'.check := by rw [hc']; rfl
          obtain ⟨_, p2⟩ := List.getElem?_eq_some_iff.1 p2
          obtain ⟨_, r2⟩ := List.getElem?_eq_some_iff.1 r2
          obtain ⟨_, p4⟩ := List.getElem?_eq_some_iff.1 p4
          obtain ⟨_, r4⟩ := List.getElem?_eq_some_iff.1 r4
          simp [h1, hkl, hcC, hdC, p1, p2, p3, p4, r1, r2, r3, r4, List.take_of_length_le, hwc, hcheck]
          refine pure_call hx (by simp [closedL, CV.closed, hSc, hTc]) ?_
          have e1 : splice (rep 32 (CV.int .u8 0) ++ [CV.int .u64 0]) 0 S' = S' ++ [CV.int .u64 0] := by unfold splice; simp [hSl', List.drop_append]
          have e2 : ∀ y, splice (S' ++ [CV.int .u64 0]) 32 [y] = S' ++ [y] := fun y => by unfold splice; simp [← hSl']
          have e3 : ∀ y, (S' ++ [y]).length = 33 := fun y => by simp [hSl']
          have hec : encCell c' = CV.int .i64 c'.count :: (S' ++ [CV.int .u64 (u c'.check)]) := by rw [hS']; rfl
          have hcc := cell_len hsl'
          have hcg : (subL a.l b.l)[k]? = some c' := by rw [hc']; exact subL_get hc hd
          have hge := inR_iff c'
          have hout : (c'.count < -1000000 ∨ 1000000 < c'.count) → inR c' = false := fun h => by
            cases hi : inR c' with
            | false => rfl
            | true => have := hge.1 hi; omega
          have hsf : inR c' = false → subS a b = (none, 16) := fun h => by unfold subS; rw [if_pos hA, if_pos hB, if_pos hab, if_neg (all_not hcg h)]
          obtain ⟨E, hE⟩ : ∃ E, E = S' ++ [CV.int .u64 (u c'.check)] := ⟨_, rfl⟩
          rw [← hE] at hec
          have hEl : E.length = 33 := by rw [hE]; exact e3 _
          simp [hSl', p1, p2, p4, r1, r2, r4, e1, e2, e3, ← hE, hEl]
          by_cases hlow : c'.count < -1000000
          · simp [hlow, hsf (hout (.inl hlow))]
            exact rd_put0 rfl
          · by_cases hhigh : 1000000 < c'.count
            · simp [hlow, hhigh, hsf (hout (.inr hhigh))]
              exact rd_put0 rfl
            · have e4 : splice (rep 32 (CV.int .u8 0) ++ [CV.int .u64 0]) 0 E = E := splice_full (by simp [hEl])
              have e5 : E.take 33 = E := List.take_of_length_le (by omega)
              simp [hlow, hhigh, hEl, e4, e5]
              rw [← hec]
              have hr0 : roomMax = 140737488355328 := rfl
              obtain ⟨L, hL⟩ : ∃ L, L = l ++ [CB.cells 34 (encCell c'), CB.cells 34 (encCell c')] := ⟨_, rfl⟩
              have ho := hown.more [CB.cells 34 (encCell c'), CB.cells 34 (encCell c')]
              have hcont : contentsL L 34 (.sl 34 (l.length + 1) 0 1 1 34) = some (([encCell c'] : List (List CV)).flatten, [encCell c'].length) := by
                rw [hL]; simp [contentsL, hcc, List.take_of_length_le]
              rw [← hL] at ho ⊢
              obtain ⟨v', j', l', a1, a2, a3, a4, a5, a6⟩ := app_law (by_ := 48) ho (x := .sl 34 (l.length + 1) 0 1 1 34) (xs := [encCell c']) hcont (by simp [hcc]) (by omega) (by omega) (by simp [subL_len hab]; omega)
              simp [a1]
              refine AppK.keep ?_
              simp [h1, hkl, hwk]
              have htk : ((subL a.l b.l).take (k + 1)).map encCell = ((subL a.l b.l).take k).map encCell ++ [encCell c'] := by rw [List.take_add_one, hcg]; simp
              refine ⟨fun i e hi he => ?_, ⟨j', by rw [← List.map_take, htk]; exact a2⟩, ?_⟩
              · rcases Nat.lt_or_ge i k with h5 | h5
                · exact hall i e h5 he
                · have : i = k := by omega
                  subst this
                  rw [hcg] at he; cases he
                  rw [hge]; omega
              · rw [isNil_app a6]; simp
        · have hk' : k = a.l.length := by omega
          subst hk'
          have hall2 : (subL a.l b.l).all inR = true := all_of fun i c hi => hall i c (by have := (List.getElem?_eq_some_iff.1 hi).1; rw [subL_len hab] at this; exact this) hi
          have hres : subS a b = (some (subL a.l b.l), 0) := by unfold subS; rw [if_pos hA, if_pos hB, if_pos hab, if_pos hall2]
          rw [List.take_of_length_le (by rw [subL_len hab]; exact Nat.le_refl _)] at hown
          rw [hres]
          simp [h1]
          exact rd_tu2 (hown.q.rd_enc closed_cell (some _) (by rw [hnil]; simp; intro h; rw [h] at hN'; simp at hN'; omega) rfl) (.same _ rfl)
      · have hab' : ¬ ((a.l.length : Int) = b.l.length) := by omega
        have : subS a b = (none, 2) := by unfold subS; rw [if_pos hA, if_pos hB, if_neg hab]
        simp [hab', this]
        exact rd_put0 rfl
    · have : subS a b = (none, 8) := by unfold subS; rw [if_pos hA, if_neg (by rw [hB]; simp), hB]
      simp [hB, this]
      exact rd_put0 rfl
  · have : subS a b = (none, 8) := by unfold subS; rw [if_neg (by rw [hA]; simp), hA]
    simp [hA, this]
    exact rd_put0 rfl
end Sk
end Go.CM

/-
  Sets of ids that are maps of one's own.
-/
namespace Go.CM
open Go Go.Proofs
set_option linter.unusedVariables false
set_option linter.unusedSimpArgs false
set_option maxRecDepth 100000
open Sha Sk

theorem beqL_refl : ∀ l : List B, beqL (l.map e8) (l.map e8) = true
  | [] => rfl
  | x :: l => by
    have h1 : CV.beq (e8 x) (e8 x) = true := by simp [e8, CV.beq]
    show (CV.beq (e8 x) (e8 x) && beqL (l.map e8) (l.map e8)) = true
    rw [h1, beqL_refl l]; rfl
theorem beq_id (x : List B) : CV.beq (idC x) (idC x) = true := beqL_refl x
theorem fits_id {x : List B} (h : x.length = 32) : keyFits Tryd.prog 24 (idC x) = true := by
  have h1 : keyTy Tryd.prog 8 24 = true := by kernel_rfl
  have h2 : aggT Tryd.prog 24 = some true := by kernel_rfl
  have h3 : sizeT Tryd.prog 24 = some 32 := by kernel_rfl
  have h4 : (x.map e8).all plain1 = true := by rw [List.all_eq_true]; intro c hc; obtain ⟨b, _, rfl⟩ := List.mem_map.1 hc; rfl
  show (keyTy Tryd.prog 8 24 && (match aggT Tryd.prog 24, sizeT Tryd.prog 24 with | some true, some m => Nat.beq (x.map e8).length m | _, _ => false) && (x.map e8).all plain1) = true
  rw [h1, h2, h3, h4, List.length_map, h]
  rfl
/-- The entries of a set. -/
inductive Ents : List (CV × CV × Nat) → List (List B) → Prop
  | nil : Ents [] []
  | cons {es : List (CV × CV × Nat)} {ks : List (List B)} {k : List B} (n : Nat) (hk : k.length = 32) (h : Ents es ks) : Ents ((idC k, .bool true, n) :: es) (k :: ks)
theorem Ents.len {es : List (CV × CV × Nat)} {ks : List (List B)} (h : Ents es ks) : es.length = ks.length := by induction h <;> simp_all
theorem Ents.snoc {es : List (CV × CV × Nat)} {ks : List (List B)} (h : Ents es ks) {k : List B} (hk : k.length = 32) (n : Nat) : Ents (es ++ [(idC k, .bool true, n)]) (ks ++ [k]) := by
  induction h with
  | nil => exact .cons n hk .nil
  | cons m hk' h ih => exact .cons m hk' ih
theorem find_id {x : List B} (hx : x.length = 32) {es : List (CV × CV × Nat)} {ks : List (List B)} (h : Ents es ks) : ∀ i, (x ∈ ks → ∃ j, findC Tryd.prog 24 (idC x) es i = some (some (j, .bool true))) ∧ (x ∉ ks → findC Tryd.prog 24 (idC x) es i = some none) := by
  induction h with
  | nil => intro i; exact ⟨fun h => by simp at h, fun _ => rfl⟩
  | @cons es ks k n hk h ih =>
    intro i
    unfold findC
    rw [fits_id hk]
    simp only
    rw [show eqT Tryd.prog 10000 24 (idC x) (idC k) = some (decide (x = k)) from eq_id hx hk (D := 9998)]
    by_cases he : x = k
    · subst he
      simp only [decide_true, beq_id]
      exact ⟨fun _ => ⟨i, rfl⟩, fun h => absurd (by simp) h⟩
    · simp only [he, decide_false]
      obtain ⟨h1, h2⟩ := ih (i + 1)
      exact ⟨fun h => h1 (by simpa [he] using h), fun h => h2 (fun h' => h (by simp [h']))⟩
/-- A set of one's own. -/
structure OwnM (l : Hl) (j : Nat) (ks : List (List B)) : Prop where
  e : ∃ es ck, l[j]? = some (.map es ck) ∧ Ents es ks
theorem OwnM.look {l : Hl} {j : Nat} {ks : List (List B)} (h : OwnM l j ks) {x : List B} (hx : x.length = 32) : lookupL Tryd.prog l 24 (.bool false) false (.mp j) (idC x) = some (.bool (decide (x ∈ ks))) := by
  obtain ⟨es, ck, h1, h2⟩ := h.e
  have h3 : mapOfL l (.mp j) = some es := by simp [mapOfL, h1]
  unfold lookupL
  rw [h3]
  simp only [fits_id hx]
  obtain ⟨f1, f2⟩ := find_id hx h2 0
  by_cases hm : x ∈ ks
  · obtain ⟨i, hi⟩ := f1 hm
    rw [hi]; simp [hm]
  · rw [f2 hm]; simp [hm]
theorem OwnM.put {l : Hl} {j : Nat} {ks : List (List B)} (h : OwnM l j ks) {x : List B} (hx : x.length = 32) (hn : x ∉ ks) : ∃ c, mapUpdL Tryd.prog l 24 (.mp j) (idC x) (.bool true) = some (l.set j c) ∧ (∀ l' : Hl, l'[j]? = some c → OwnM l' j (ks ++ [x])) := by
  obtain ⟨es, ck, h1, h2⟩ := h.e
  unfold mapUpdL
  simp only [h1, fits_id hx, (find_id hx h2 0).2 hn]
  exact ⟨_, rfl, fun l' hl' => ⟨_, _, hl', h2.snoc hx _⟩⟩
theorem OwnM.len {l : Hl} {j : Nat} {ks : List (List B)} (h : OwnM l j ks) : lenMapL l (.mp j) = some (.int .i64 ks.length) := by
  obtain ⟨es, ck, h1, h2⟩ := h.e
  unfold lenMapL
  simp only [h1, h2.len]
theorem OwnM.frame {l l' : Hl} {j : Nat} {ks : List (List B)} (h : OwnM l j ks) (hj : l'[j]? = l[j]?) : OwnM l' j ks := by
  obtain ⟨es, ck, h1, h2⟩ := h.e
  exact ⟨es, ck, by rw [hj, h1], h2⟩
theorem OwnM.lt {l : Hl} {j : Nat} {ks : List (List B)} (h : OwnM l j ks) : j < l.length := by
  obtain ⟨es, ck, h1, h2⟩ := h.e
  exact (List.getElem?_eq_some_iff.1 h1).1
end Go.CM

/-
  Sketches: the reference's Less, In, SameIDs, with, next, walked.
-/
namespace Go.CM
open Go Go.Proofs Go.Sort Go.Shelf
set_option linter.unusedVariables false
set_option linter.unusedSimpArgs false
set_option maxRecDepth 100000
namespace Sk
open Sha

set_option maxHeartbeats 2000000 in
theorem less_ok (a b : List B) (ha : a.length = 32) (hb : b.length = 32) : PureC Tryd.prog GS 63 [idC a, idC b] (.bool (ltB a b)) := by
  refine pure_of Tryd.checked.mixed GS_closed ?_
  apply call_intro c63_eq r63_eq
  unfold c63 r63
  simp [idC, ha, hb]
  refine loop_up 32 (fun k σ l => σ 2 = .ptr 0 0 32 ∧ σ 3 = .ptr 1 0 32 ∧ σ 5 = .int .i64 k ∧ l = [.cells 32 (a.map e8), .cells 32 (b.map e8)] ∧ ∀ j, j < k → a[j]? = b[j]?) ?_ (by simp)
  rintro k σ l hk ⟨g2, g3, g5, rfl, hs⟩
  obtain ⟨σ, rfl⟩ := upds3 g2 g3 g5
  clear g2 g3 g5
  unfold l63_0
  by_cases hk32 : (k : Int) < 32
  · have hkn : k < 32 := by omega
    have hk31 : k ≤ 31 := by omega
    have hwk : IntKind.i64.wrap ((k : Int) + 1) = (k + 1 : Nat) := wrap_i64 (by omega) (by omega)
    obtain ⟨x, hx, _⟩ := get_of (l := a) (k := k) (by omega)
    obtain ⟨y, hy, _⟩ := get_of (l := b) (k := k) (by omega)
    have hd := cmpB_drop (a := a) (b := b) k hs (by omega) (by omega)
    rw [List.drop_eq_getElem_cons (l := a) (i := k) (by omega), List.drop_eq_getElem_cons (l := b) (i := k) (by omega), (List.getElem?_eq_some_iff.1 hx).2, (List.getElem?_eq_some_iff.1 hy).2, cmpB_cons] at hd
    have hlt : ltB a b = decide (cmpB a b < 0) := rfl
    simp [hk32, hk31, hkn, hx, hy, e8, u]
    by_cases hxy : x = y
    · subst hxy
      simp [hk32, hwk]
      refine ⟨hkn, fun j hj => ?_⟩
      by_cases hjk : j = k
      · subst hjk; rw [hx, hy]
      · exact hs j (by omega)
    · have hne : x.toNat ≠ y.toNat := fun h => hxy (BitVec.eq_of_toNat_eq h)
      have hne' : ¬ ((x.toNat : Int) = y.toNat) := by omega
      by_cases h1 : x.toNat < y.toNat
      · rw [if_pos h1] at hd
        simp [hne', hne, hk32, hk31, hkn, hx, hy, e8, u, h1]
        exact rd_bool (by rw [hlt, ← hd]; rfl)
      · rw [if_neg h1, if_pos (by omega)] at hd
        simp [hne', hne, hk32, hk31, hkn, hx, hy, e8, u, h1]
        exact rd_bool (by rw [hlt, ← hd]; rfl)
  · have hk' : k = 32 := by omega
    subst hk'
    have hab : a = b := by
      apply List.ext_getElem?
      intro j
      by_cases hj : j < 32
      · exact hs j hj
      · rw [List.getElem?_eq_none (by omega), List.getElem?_eq_none (by omega)]
    simp
    exact rd_bool (by subst hab; unfold ltB ltOf; rw [cmpB_self]; rfl)

theorem in_ok (s : Ids) (x : List B) (ho : okIds s) (hl : s.l.length ≤ 1000000) (hx : x.length = 32) : PureC Tryd.prog GS 39 [encIds s, idC x] (.bool (decide (x ∈ s.l))) := by
  refine pure_of Tryd.checked.mixed GS_closed ?_
  apply call_intro c39_eq r39_eq
  unfold c39 r39
  have hlen : lenM (.sl 32) (encIds s) = some (.int .i64 s.l.length) := len_encS _
  simp [idC, hx]
  refine loop_up s.l.length (fun k σ l => σ 0 = encIds s ∧ σ 3 = .ptr 0 0 32 ∧ σ 5 = .int .i64 k ∧ l = [.cells 32 (x.map e8)] ∧ ∀ (j : Nat) (y : List B), j < k → s.l[j]? = some y → y ≠ x) ?_ (by simp)
  rintro k σ l hk ⟨g0, g3, g5, rfl, hs⟩
  obtain ⟨σ, rfl⟩ := upds3 g0 g3 g5
  clear g0 g3 g5
  unfold l39_0
  by_cases h : k < s.l.length
  · obtain ⟨y, hy, hym⟩ := get_of h
    have hyl := ho y hym
    have hwk : IntKind.i64.wrap ((k : Int) + 1) = (k + 1 : Nat) := wrap_i64 (by omega) (by omega)
    have hia : iaC (.sl 32) (encIds s) (.int .i64 k) = some (.rptr (eId y) 0) := by unfold encIds; rw [ia_encS]; simp [hy]
    have heq := id_eql hyl hx
    unfold idC at heq
    simp [hlen, h, hia, eId, hyl, hx, List.take_of_length_le, heq]
    by_cases he : y = x
    · subst he
      have : y ∈ s.l := hym
      simp [this]
      exact rd_eq rfl rfl
    · simp [he, h, hwk]
      intro j z hj hz
      by_cases hjk : j = k
      · subst hjk; rw [hy] at hz; cases hz; exact he
      · exact hs j z (by omega) hz
  · have : x ∉ s.l := fun hm => by
      obtain ⟨j, hj⟩ := List.mem_iff_getElem?.1 hm
      exact hs j x (by have := (List.getElem?_eq_some_iff.1 hj).1; omega) hj rfl
    simp [hlen, h, this]
    exact rd_eq rfl rfl

theorem sameIds_ok (a b : Ids) (ha : okIds a) (hb : okIds b) (hl : a.l.length ≤ 1000000) : PureC Tryd.prog GS 33 [encIds a, encIds b] (.bool (decide (a.l = b.l))) := by
  refine pure_of Tryd.checked.mixed GS_closed ?_
  apply call_intro c33_eq r33_eq
  unfold c33 r33
  have hla : lenM (.sl 32) (encIds a) = some (.int .i64 a.l.length) := len_encS _
  have hlb : lenM (.sl 32) (encIds b) = some (.int .i64 b.l.length) := len_encS _
  by_cases h1 : a.l.length = b.l.length
  · have h1' : ((a.l.length : Int) = b.l.length) := by omega
    simp [hla, hlb, h1']
    refine loop_up a.l.length (fun k σ l => σ 0 = encIds a ∧ σ 1 = encIds b ∧ σ 5 = .int .i64 k ∧ ∀ j, j < k → a.l[j]? = b.l[j]?) ?_ (by simp)
    rintro k σ l hk ⟨g0, g1, g5, hs⟩
    obtain ⟨σ, rfl⟩ := upds3 g0 g1 g5
    clear g0 g1 g5
    unfold l33_0
    by_cases h : k < a.l.length
    · obtain ⟨x, hx, hxm⟩ := get_of h
      obtain ⟨y, hy, hym⟩ := get_of (l := b.l) (k := k) (by omega)
      have hwk : IntKind.i64.wrap ((k : Int) + 1) = (k + 1 : Nat) := wrap_i64 (by omega) (by omega)
      have hix : iaC (.sl 32) (encIds a) (.int .i64 k) = some (.rptr (eId x) 0) := by unfold encIds; rw [ia_encS]; simp [hx]
      have hiy : iaC (.sl 32) (encIds b) (.int .i64 k) = some (.rptr (eId y) 0) := by unfold encIds; rw [ia_encS]; simp [hy]
      have hcx := ha x hxm
      have hcy := hb y hym
      have hne := id_neq hcx hcy
      unfold idC at hne
      simp [hla, h, hix, hiy, eId, hcx, hcy, List.take_of_length_le, hne]
      by_cases he : x = y
      · simp [he, hla, h, hwk]
        intro j hj
        by_cases hjk : j = k
        · subst hjk; rw [hx, hy, he]
        · exact hs j (by omega)
      · simp [he]
        refine rd_bool (decide_eq_false fun hab => he ?_).symm
        rw [hab, hy] at hx; exact (Option.some.inj hx).symm
    · simp [hla, h]
      have : k = a.l.length := by omega
      subst this
      refine rd_bool (decide_eq_true ?_).symm
      apply List.ext_getElem?
      intro j
      by_cases hj : j < a.l.length
      · exact hs j hj
      · rw [List.getElem?_eq_none (by omega), List.getElem?_eq_none (by omega)]
  · have h1' : ¬ ((a.l.length : Int) = b.l.length) := by omega
    simp [hla, hlb, h1']
    exact rd_bool (decide_eq_false fun hab => h1 (by rw [hab])).symm

/-- The next pure cell. -/
def wants (s : List Cell) (done : List (List B)) (i : Nat) : Bool := match s[i]? with | some c => pureB s.length c i && !decide (c.sum ∈ done) | none => false
def nextN (s : List Cell) (done : List (List B)) : Option Nat := (List.range s.length).find? (wants s done)
def optI : Option Nat → Int | some i => i | none => -1
theorem find_range {p : Nat → Bool} {n k : Nat} (hk : k < n) (hp : p k = true) (hno : ∀ j, j < k → p j = false) : (List.range n).find? p = some k := by
  rw [List.find?_eq_some_iff_getElem]
  refine ⟨hp, k, by simpa using hk, by simp, fun j hj => ?_⟩
  simp [hno j hj]
theorem next_ok (s : Sketch) (done : Ids) (ho : okSk s) (hd : okIds done) (hdl : done.l.length ≤ 1000000) (hsz : sizedB s.l.length = true) : PureC Tryd.prog GS 61 [encSk s, encIds done] (.int .i64 (optI (nextN s.l done.l))) := by
  refine pure_of Tryd.checked.mixed GS_closed ?_
  apply call_intro c61_eq r61_eq
  unfold c61 r61
  have hlen : lenM (.sl 34) (encSk s) = some (.int .i64 s.l.length) := len_encS _
  obtain ⟨N, hN, h3, h48, hmod⟩ := sized_nat hsz
  have hcs := closed_sk s
  have hcd := closed_ids done
  simp
  refine loop_up s.l.length (fun k σ l => σ 0 = encSk s ∧ σ 1 = encIds done ∧ σ 5 = .int .i64 k ∧ ∀ j, j < k → wants s.l done.l j = false) ?_ (by simp)
  rintro k σ l hk ⟨g0, g1, g5, hs⟩
  obtain ⟨σ, rfl⟩ := upds3 g0 g1 g5
  clear g0 g1 g5
  unfold l61_0
  by_cases h : k < s.l.length
  · obtain ⟨c, hc, hcm⟩ := get_of h
    have hwk : IntKind.i64.wrap ((k : Int) + 1) = (k + 1 : Nat) := wrap_i64 (by omega) (by omega)
    have hcl := ho c hcm
    have hia : iaC (.sl 34) (encSk s) (.int .i64 k) = some (.rptr (encCell c) 0) := by unfold encSk; rw [ia_encS]; simp [hc]
    obtain ⟨C, hC⟩ : ∃ C, C = encCell c := ⟨_, rfl⟩
    obtain ⟨p1, p2, p3, p4⟩ := row_parts c hcl C hC
    rw [← hC] at hia
    rw [List.drop_one] at p3
    have hin := in_ok done c.sum hd hdl hcl
    unfold idC at hin
    have hIc : closedL (c.sum.map e8) = true := closedL_map e8 (fun _ => rfl) _
    have hw : wants s.l done.l k = (pureB s.l.length c k && !decide (c.sum ∈ done.l)) := by unfold wants; rw [hc]
    simp [hlen, h]
    refine pure_call (refpure_ok s k c ho hsz hc) (by simp [closedL, CV.closed, hcs]) ?_
    cases hp : pureB s.l.length c k with
    | false =>
      rw [hp] at hw
      simp [h, hwk]
      intro j hj
      by_cases hjk : j = k
      · subst hjk; rw [hw]; rfl
      · exact hs j (by omega)
    | true =>
      rw [hp] at hw
      simp [hia, p1, p3]
      refine pure_call hin (by simp [closedL, CV.closed, hcd, hIc]) ?_
      by_cases hm : c.sum ∈ done.l
      · simp [hm, h, hwk]
        intro j hj
        by_cases hjk : j = k
        · subst hjk; rw [hw]; simp [hm]
        · exact hs j (by omega)
      · have : nextN s.l done.l = some k := find_range h (by rw [hw]; simp [hm]) hs
        simp [hm, this, optI]
        exact rd_eq rfl rfl
  · have hk' : k = s.l.length := by omega
    subst hk'
    have : nextN s.l done.l = none := by
      unfold nextN
      rw [List.find?_eq_none]
      intro j hj
      rw [hs j (by simpa using hj)]; simp
    simp [hlen, this, optI]
    exact rd_eq rfl rfl
end Sk
end Go.CM
