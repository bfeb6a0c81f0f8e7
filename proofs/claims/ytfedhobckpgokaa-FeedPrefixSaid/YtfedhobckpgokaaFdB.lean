/-
  Feeds: the reference's functions that only look, and comparing.
-/
import Derived.Test.YtfedhobckpgokaaFdA
namespace Go.CM
open Go Go.Proofs
set_option linter.unusedVariables false
set_option linter.unusedSimpArgs false
set_option maxRecDepth 100000
namespace Fd

set_option maxHeartbeats 2000000 in
theorem refCheck_ok (f : Feed) (hl : f.subs.l.length ≤ 1000000) : PureC Try.prog G0 13 [encF f] (.int .i64 (chk f)) := by
  refine pure_of Try.checked.mixed G0_closed ?_
  apply call_intro c13_eq r13_eq
  unfold c13 r13
  simp [encF, encSubs]
  by_cases h1 : f.cap < 1
  · simp [h1]; exact rd_int (by simp [chk, h1])
  by_cases h2 : 8 < f.cap
  · simp [h1, h2]; exact rd_int (by simp [chk, h1, h2])
  by_cases h3 : f.ver < 0
  · simp [h1, h2, h3]; exact rd_int (by simp [chk, h1, h2, h3])
  by_cases h4 : 1000000000 < f.ver
  · simp [h1, h2, h3, h4]; exact rd_int (by simp [chk, h1, h2, h3, h4])
  by_cases h5 : 60 < (f.subs.l.length : Int)
  · simp [h1, h2, h3, h4, h5]; exact rd_int (by simp [chk, h1, h2, h3, h4, h5])
  simp [h1, h2, h3, h4, h5]
  refine pure_call (refLive_ok f hl) (show closedL [encF f] = true by simp [closedL, closed_F]) ?_
  simp
  by_cases h6 : 4 < (f.live : Int)
  · simp [h6]; exact rd_int (by simp [chk, h1, h2, h3, h4, h5, h6])
  simp [h6]
  have hchk : chk f = if okFs f then 0 else 8 := by simp [chk, h1, h2, h3, h4, h5, h6]
  refine loop_up f.subs.l.length (fun k σ l => σ 1 = .ptr 0 0 3 ∧ σ 3 = .int .i64 k ∧ (∃ rest, l = .cells 3 [.int .i64 f.cap, .int .i64 f.ver, encS 4 encQ f.subs] :: rest) ∧
    ∀ j q, j < k → f.subs.l[j]? = some q → okQ f q = true) ?_ (by simp [encF])
  rintro k σ l hk ⟨g1, g3, ⟨rest, rfl⟩, hok⟩
  obtain ⟨s, rfl⟩ := upds2 g1 g3
  clear g1 g3
  unfold l13_0
  simp
  refine kIf_intro (fun h => ?_) (fun h => ?_)
  · simp only [decide_eq_true_eq] at h
    obtain ⟨q, hq, _⟩ := get_of h
    have next : okQ f q = true → ∀ j q', j < k + 1 → f.subs.l[j]? = some q' → okQ f q' = true := fun hq2 j q' hj hq' => by
      by_cases hjk : j = k
      · subst hjk; rw [hq] at hq'; cases hq'; exact hq2
      · exact hok j q' (by omega) hq'
    have bad : okQ f q = false → ∀ l, Rd l (.int .i64 8) (.int .i64 (chk f)) := fun hq2 l => rd_int (by rw [hchk, okFs_bad hq hq2]; rfl)
    have hwk : IntKind.i64.wrap (k + 1) = k + 1 := wrap_i64 (by omega) (by omega)
    simp [hq, encQ, encIds]
    by_cases q1 : q.next < 0
    · simp [q1]; exact bad (by simp [okQ, q1]) _
    by_cases q2 : 1000000000 < q.next
    · simp [q1, q2]; exact bad (by simp [okQ, q1, q2]) _
    by_cases q3 : f.cap < (q.ids.l.length : Int)
    · simp [q1, q2, q3]; exact bad (by simp [okQ, q1, q2, q3]) _
    have hw : IntKind.i64.wrap (q.next + q.ids.l.length) = q.next + q.ids.l.length := wrap_i64 (by omega) (by omega)
    have hl0 : (0 < q.ids.l.length) = ¬ (q.ids.l = []) := by
      cases q.ids.l <;> simp
    simp [q1, q2, q3, hw]
    cases he : q.en
    · cases hl : q.lag
      · simp [hw, he, hl]
        by_cases q4 : q.next + q.ids.l.length = f.ver
        · simp [q4, hwk, h]; exact next (by simp [okQ, q1, q2, q3, he, hl, q4])
        · by_cases q5 : q.ids.l = []
          · have q4' : ¬ q.next = f.ver := by simpa [q5] using q4
            have q3' : ¬ f.cap < 0 := by simpa [q5] using q3
            by_cases q6 : q.next < f.ver
            · simp [q4', hl0, q5, q6]; exact bad (by simp [okQ, q1, q2, q3', he, hl, q4', q5]; omega) _
            · simp [q4', hl0, q5, q6, hwk, h]; exact next (by simp [okQ, q1, q2, q3', he, hl, q4', q5]; omega)
          · simp [q4, hl0, q5]; exact bad (by simp [okQ, q1, q2, q3, he, hl, q4, q5]) _
      · simp [hw, he, hl]
        by_cases q4 : f.ver < q.next + q.ids.l.length
        · simp [q4]; exact bad (by simp [okQ, q1, q2, q3, he, hl]; omega) _
        · simp [q4, hwk, h]; exact next (by simp [okQ, q1, q2, q3, he, hl]; omega)
    · simp [hw, he, hl0]
      by_cases q5 : q.ids.l = []
      · have q3' : ¬ f.cap < 0 := by simpa [q5] using q3
        cases hl : q.lag
        · simp [q5, hl, hwk, h]; exact next (by simp [okQ, q1, q2, q3', he, hl, q5])
        · simp [q5, hl]; exact bad (by simp [okQ, q1, q2, q3', he, hl, q5]) _
      · simp [q5]; exact bad (by simp [okQ, q1, q2, q3, he, q5]) _
  · simp [h]
    have : k = f.subs.l.length := by simp at h; omega
    subst this
    exact rd_int (by rw [hchk, okFs_all hok]; rfl)

end Fd
end Go.CM
