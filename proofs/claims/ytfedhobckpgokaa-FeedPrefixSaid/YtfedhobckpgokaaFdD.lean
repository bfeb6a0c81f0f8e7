/-
  Feeds: Great; errors of a number; new ones.
-/
import Derived.Test.YtfedhobckpgokaaFdC
namespace Go.CM
open Go Go.Proofs
set_option linter.unusedVariables false
set_option linter.unusedSimpArgs false
set_option maxRecDepth 100000
namespace Fd

theorem great_of {f : Feed} (h : great f = false) : f.subs.l.length ≤ 100 ∧ ∀ q ∈ f.subs.l, q.ids.l.length ≤ 100 := by
  simp only [great, Bool.or_eq_false_iff, decide_eq_false_iff_not, List.any_eq_false, decide_eq_true_eq] at h
  refine ⟨by omega, fun q hq => ?_⟩
  have := h.2 q (by rw [List.take_of_length_le (by omega)]; exact hq)
  omega

set_option maxHeartbeats 1000000 in
theorem great_ok (f : Feed) (hl : f.subs.l.length ≤ maxLen) : PureC Try.prog G0 16 [encF f] (.bool (great f)) := by
  refine pure_of Try.checked.mixed G0_closed ?_
  apply call_intro c16_eq r16_eq
  unfold c16 r16
  simp [encF, encSubs]
  refine loop_up (min f.subs.l.length 101) (fun k σ l => σ 1 = .ptr 0 0 3 ∧ σ 3 = .int .i64 k ∧ (∃ rest, l = .cells 3 [.int .i64 f.cap, .int .i64 f.ver, encS 4 encQ f.subs] :: rest) ∧
    ∀ (j : Nat) q, j < k → f.subs.l[j]? = some q → ¬ 100 < q.ids.l.length) ?_ (by simp [encF])
  rintro k σ l hk ⟨g1, g3, ⟨rest, rfl⟩, hs⟩
  obtain ⟨s, rfl⟩ := upds2 g1 g3
  clear g1 g3
  unfold l16_0
  simp
  by_cases h : k < f.subs.l.length
  · by_cases h1 : k < 101
    · have h1' : ((k : Int) < 101) := by omega
      obtain ⟨q, hq, hqm⟩ := get_of h
      have hq2 : f.subs.l[k] = q := (List.getElem?_eq_some_iff.1 hq).2
      simp [h, h1', hq, hq2, encQ, encIds]
      by_cases h2 : 100 < q.ids.l.length
      · have h2' : ((100 : Int) < q.ids.l.length) := by omega
        simp [h2, h2']
        refine rd_bool ?_
        simp only [great, eq_comm (a := true), Bool.or_eq_true, decide_eq_true_eq, List.any_eq_true]
        exact .inr ⟨q, List.mem_of_getElem? (by rw [List.getElem?_take_of_lt h1]; exact hq), h2⟩
      · have h2' : ¬ ((100 : Int) < q.ids.l.length) := by omega
        simp (disch := omega) [h2, h2', wrap_i64]
        refine ⟨by omega, fun j q' hj hq' => ?_⟩
        by_cases hjk : j = k
        · subst hjk; rw [hq] at hq'; cases hq'; omega
        · have := hs j q' (by omega) hq'; omega
    · have h1' : ¬ ((k : Int) < 101) := by omega
      have hk : k = 101 := by omega
      subst hk
      simp [h]
      refine rd_bool ?_
      have : 100 < f.subs.l.length := by omega
      simp [great, this]
      omega
  · simp [h]
    have hk : k = f.subs.l.length := by omega
    subst hk
    refine rd_bool ?_
    have : ¬ 100 < f.subs.l.length ∨ 100 < f.subs.l.length := by omega
    rcases this with h2 | h2
    · have h2' : ¬ (100 : Int) < f.subs.l.length := by omega
      simp only [great, h2, h2', decide_false, Bool.false_or, eq_comm (a := false), List.any_eq_false, decide_eq_true_eq]
      intro q hq
      obtain ⟨j, hj⟩ := List.getElem?_of_mem hq
      have hjl : j < f.subs.l.length := by
        have := (List.getElem?_eq_some_iff.1 hj).1
        rw [List.length_take] at this; omega
      rw [List.getElem?_take_of_lt (by have := (List.getElem?_eq_some_iff.1 hj).1; rw [List.length_take] at this; omega)] at hj
      exact hs j q hjl hj
    · have h2' : (100 : Int) < f.subs.l.length := by omega
      simp [great, h2, h2']

/-- The error of a feed and the number of a subscriber. -/
def num (f : Feed) (n : Int) : Int :=
  if chk f ≠ 0 then chk f else if n < 0 then 2 else if (f.subs.l.length : Int) ≤ n then 2 else match f.subs.l[n.toNat]? with | some q => if q.en then 34 else 0 | none => 2

set_option maxHeartbeats 1000000 in
theorem checkN_ok (f : Feed) (n : Int) (hl : f.subs.l.length ≤ 1000000) : PureC Try.prog G0 30 [encF f, .int .i64 n] (.int .i64 (num f n)) := by
  refine pure_of Try.checked.mixed G0_closed ?_
  apply call_intro c30_eq r30_eq
  unfold c30 r30
  simp [encF, encSubs]
  refine pure_call (check_ok f hl) (show closedL [encF f] = true by simp [closedL, closed_F]) ?_
  simp
  by_cases h1 : chk f = 0
  · by_cases h2 : n < 0
    · simp [h1, h2]; exact rd_int (by simp [num, h1, h2])
    · by_cases h3 : (f.subs.l.length : Int) ≤ n
      · simp [h1, h2, h3]; exact rd_int (by simp [num, h1, h2, h3])
      · obtain ⟨q, hq, _⟩ := get_of (l := f.subs.l) (k := n.toNat) (by omega)
        have h2' : 0 ≤ n := by omega
        cases he : q.en <;> (simp [h1, h2, h3, h2', hq, he, encQ]; exact rd_int (by simp [num, h1, h2, h3, hq, he]))
  · simp [h1]; exact rd_int (by simp [num, h1])

set_option maxHeartbeats 1000000 in
theorem number_ok (f : Feed) (n : Int) (hl : f.subs.l.length ≤ 1000000) : PureC Try.prog G0 31 [encF f, .int .i64 n] (.int .i64 (num f n)) := by
  refine pure_of Try.checked.mixed G0_closed ?_
  apply call_intro c31_eq r31_eq
  unfold c31 r31
  simp [encF, encSubs]
  refine pure_call (refCheck_ok f hl) (show closedL [encF f] = true by simp [closedL, closed_F]) ?_
  simp
  by_cases h1 : chk f = 0
  · by_cases h2 : n < 0
    · simp [h1, h2]; exact rd_int (by simp [num, h1, h2])
    · by_cases h3 : (f.subs.l.length : Int) ≤ n
      · simp [h1, h2, h3]; exact rd_int (by simp [num, h1, h2, h3])
      · obtain ⟨q, hq, _⟩ := get_of (l := f.subs.l) (k := n.toNat) (by omega)
        have h2' : 0 ≤ n := by omega
        cases he : q.en <;> (simp [h1, h2, h3, h2', hq, he, encQ]; exact rd_int (by simp [num, h1, h2, h3, hq, he]))
  · simp [h1]
    refine pure_call (refCheck_ok f hl) (show closedL [encF f] = true by simp [closedL, closed_F]) ?_
    simp
    exact rd_int (by simp [num, h1])

def zeroF : Feed := ⟨0, 0, none⟩
def newF (n : Int) : Feed × Int := if n < 1 then (zeroF, 2) else if 8 < n then (zeroF, 2) else (⟨n, 0, none⟩, 0)

theorem rd_F {l : Hl} {cs : List CV} {f : Feed} (h : cs = [.int .i64 f.cap, .int .i64 f.ver, encSubs f.subs]) : Rd l (.ag cs) (encF f) := by subst h; exact .same _ (closed_F f)
theorem rd_tu2 {l : Hl} {a b a' b' : CV} (h1 : Rd l a a') (h2 : Rd l b b') : Rd l (.tu [a, b]) (.tu [a', b']) := by
  refine .tu _ _ rfl fun j c c' hc hc' => ?_
  rcases j with _ | _ | j
  · simp at hc hc'; subst hc hc'; exact h1
  · simp at hc hc'; subst hc hc'; exact h2
  · simp at hc
theorem rd_tu3 {l : Hl} {a b d a' b' d' : CV} (h1 : Rd l a a') (h2 : Rd l b b') (h3 : Rd l d d') : Rd l (.tu [a, b, d]) (.tu [a', b', d']) := by
  refine .tu _ _ rfl fun j c c' hc hc' => ?_
  rcases j with _ | _ | _ | j
  · simp at hc hc'; subst hc hc'; exact h1
  · simp at hc hc'; subst hc hc'; exact h2
  · simp at hc hc'; subst hc hc'; exact h3
  · simp at hc

set_option maxHeartbeats 1000000 in
theorem new_ok (n : Int) : PureC Try.prog G0 9 [.int .i64 n] (.tu [encF (newF n).1, .int .i64 (newF n).2]) := by
  refine pure_of Try.checked.mixed G0_closed ?_
  apply call_intro c9_eq r9_eq
  unfold c9 r9
  simp
  by_cases h1 : n < 1
  · simp [h1]
    exact rd_tu2 (rd_F (by simp [newF, h1, zeroF, encSubs, encS])) (rd_int (by simp [newF, h1]))
  · by_cases h2 : 8 < n
    · simp [h1, h2]
      exact rd_tu2 (rd_F (by simp [newF, h1, h2, zeroF, encSubs, encS])) (rd_int (by simp [newF, h1, h2]))
    · simp [h1, h2]
      exact rd_tu2 (rd_F (by simp [newF, h1, h2, encSubs, encS])) (rd_int (by simp [newF, h1, h2]))
set_option maxHeartbeats 1000000 in
theorem refNew_ok (n : Int) : PureC Try.prog G0 18 [.int .i64 n] (.tu [encF (newF n).1, .int .i64 (newF n).2]) := by
  refine pure_of Try.checked.mixed G0_closed ?_
  apply call_intro c18_eq r18_eq
  unfold c18 r18
  simp
  by_cases h1 : n < 1
  · simp [h1]
    exact rd_tu2 (rd_F (by simp [newF, h1, zeroF, encSubs, encS])) (rd_int (by simp [newF, h1]))
  · by_cases h2 : 8 < n
    · simp [h1, h2]
      exact rd_tu2 (rd_F (by simp [newF, h1, h2, zeroF, encSubs, encS])) (rd_int (by simp [newF, h1, h2]))
    · simp [h1, h2]
      exact rd_tu2 (rd_F (by simp [newF, h1, h2, encSubs, encS])) (rd_int (by simp [newF, h1, h2]))

end Fd
end Go.CM
