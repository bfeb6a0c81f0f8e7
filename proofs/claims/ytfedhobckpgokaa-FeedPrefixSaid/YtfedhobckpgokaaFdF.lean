/-
  Feeds: Subscribe.
-/
import Derived.Test.YtfedhobckpgokaaFdE
namespace Go.CM
open Go Go.Proofs
set_option linter.unusedVariables false
set_option linter.unusedSimpArgs false
set_option maxRecDepth 100000
namespace Fd

def newQ (n : Int) : Queue := ⟨n, none, false, false⟩
def sub (f : Feed) (from_ : Int) : Feed × Int × Int :=
  if chk f ≠ 0 then (zeroF, 0, chk f) else if from_ < f.ver then (zeroF, 0, 2) else if 1000000000 < from_ then (zeroF, 0, 2)
  else if (f.subs.l.length : Int) = 60 then (zeroF, 0, 18) else if (f.live : Int) = 4 then (zeroF, 0, 18)
  else ({ f with subs := some (f.subs.l ++ [newQ from_]) }, f.subs.l.length, 0)

theorem closedLL_rows (qs : List Queue) : closedLL (qs.map encQ) = true := by
  have := closed_subs (some qs)
  simpa [encSubs, encS, CV.closed] using this

/-- A slice of queues of one's own, as it reads. -/
theorem rd_subs {l : Hl} {b n cap sz : Nat} {qs : List Queue} (hb : l[b]? = some (.cells sz (qs.map encQ).flatten)) (hn : qs.length = n) : Rd l (.sl 4 b 0 n cap sz) (encSubs (some qs)) :=
  rd_rows (rest := []) (by simpa using hb) (by simp [hn]) (rows_Q qs) (closedLL_rows qs)
theorem rd_Fs {l : Hl} {f : Feed} {v : CV} (h : Rd l v (encSubs f.subs)) : Rd l (.ag [.int .i64 f.cap, .int .i64 f.ver, v]) (encF f) := by
  refine .ag _ _ rfl fun j c c' hc hc' => ?_
  rcases j with _ | _ | _ | j
  · simp at hc hc'; subst hc hc'; exact .same _ rfl
  · simp at hc hc'; subst hc hc'; exact .same _ rfl
  · simp at hc hc'; subst hc hc'; exact h
  · simp at hc

set_option maxHeartbeats 2000000 in
theorem subscribe_ok (f : Feed) (n : Int) (hf : okF f) : PureC Try.prog G0 12 [encF f, .int .i64 n] (.tu [encF (sub f n).1, .int .i64 (sub f n).2.1, .int .i64 (sub f n).2.2]) := by
  refine pure_of Try.checked.mixed G0_closed ?_
  apply call_intro c12_eq r12_eq
  unfold c12 r12
  simp [encF]
  refine pure_call (check_ok f hf.2) (show closedL [encF f] = true by simp [closedL, closed_F]) ?_
  have hz : ∀ l, Rd l (.ag [.int .i64 0, .int .i64 0, .nilS]) (encF zeroF) := fun l => .same _ (closed_F zeroF)
  simp
  by_cases h1 : chk f = 0
  · by_cases h2 : n < f.ver
    · simp [h1, h2]
      simp only [sub, h1, h2, ne_eq, not_true_eq_false, if_false, if_true]
      exact rd_tu3 (hz _) (.same _ rfl) (.same _ rfl)
    · by_cases h3 : 1000000000 < n
      · simp [h1, h2, h3]
        simp only [sub, h1, h2, h3, ne_eq, not_true_eq_false, if_false, if_true]
        exact rd_tu3 (hz _) (.same _ rfl) (.same _ rfl)
      · have hsl : lenM (.sl 4) (encSubs f.subs) = some (.int .i64 f.subs.l.length) := len_encS _
        by_cases h4 : (f.subs.l.length : Int) = 60
        · simp [h1, h2, h3, hsl, h4]
          simp only [sub, h1, h2, h3, h4, ne_eq, not_true_eq_false, if_false, if_true]
          exact rd_tu3 (hz _) (.same _ rfl) (.same _ rfl)
        · simp [h1, h2, h3, hsl, h4]
          refine pure_call (live_ok f hf.2) (show closedL [encF f] = true by simp [closedL, closed_F]) ?_
          simp
          by_cases h5 : (f.live : Int) = 4
          · simp [h5]
            simp only [sub, h1, h2, h3, h4, h5, ne_eq, not_true_eq_false, if_false, if_true]
            exact rd_tu3 (hz _) (.same _ rfl) (.same _ rfl)
          · have hsub : sub f n = ({ f with subs := some (f.subs.l ++ [newQ n]) }, (f.subs.l.length : Int), (0 : Int)) := by
              simp only [sub, h1, h2, h3, h4, h5, ne_eq, not_true_eq_false, if_false]
            simp [h5]
            refine twin_own f hf (fun hn x y => ?_) (fun qs hs x y => ?_)
            · simp
              rw [app_nil (xs := [encQ (newQ n)]) (by simp [contentsL, encQ, newQ, encIds, encS]) (by omega) (by omega) (by simp) (by simp [roomMax])]
              simp
              refine AppK.keep ?_
              simp [hsl, hsub]
              exact rd_tu3 (rd_Fs (f := { f with subs := _ }) (rd_subs (qs := f.subs.l ++ [newQ n]) (by simp [hn]) (by simp [hn]))) (.same _ rfl) (.same _ rfl)
            · have hq1 : qs.length ≤ 1000000 := by have := hf.2; rw [hs] at this; exact this
              simp
              rw [app_own (es := qs.map encQ) (xs := [encQ (newQ n)]) (m := 1) (by simp) (by simp [contentsL, encQ, newQ, encIds, encS]) (by simp) (by simp) rfl (rows_Q qs) (by omega) (by omega) (by simp [roomMax]; omega)]
              simp
              refine AppK.keep ?_
              simp [hsl, hsub]
              exact rd_tu3 (rd_Fs (f := { f with subs := _ }) (rd_subs (qs := f.subs.l ++ [newQ n]) (by simp [hs]) (by simp [hs]))) (.same _ rfl) (.same _ rfl)
  · simp [h1]
    simp only [sub, h1, ne_eq, not_false_eq_true, if_true]
    exact rd_tu3 (hz _) (.same _ rfl) (.same _ rfl)
end Fd
end Go.CM
