/-
  Feeds, as data; the functions that only look.
-/
import Derived.Test.YtfedhobckpgokaaCode
import Derived.Test.YtfedhobckpgokaaCnE
namespace Go.CM
open Go Go.Proofs
set_option linter.unusedVariables false
set_option linter.unusedSimpArgs false
set_option maxRecDepth 100000

namespace Fd
abbrev Id := List Int
def encId (x : Id) : List CV := x.map (.int .u8)
structure Queue where
  next : Int
  ids : Sv Id
  lag : Bool
  en : Bool
structure Feed where
  cap : Int
  ver : Int
  subs : Sv Queue
def encIds (s : Sv Id) : CV := encS 32 encId s
def encQ (q : Queue) : List CV := [.int .i64 q.next, encIds q.ids, .bool q.lag, .bool q.en]
def encSubs (s : Sv Queue) : CV := encS 4 encQ s
def encF (f : Feed) : CV := .ag [.int .i64 f.cap, .int .i64 f.ver, encSubs f.subs]

theorem closedL_ints (k : IntKind) (l : List Int) : closedL (l.map (.int k)) = true := by
  induction l with
  | nil => rfl
  | cons x l ih => simp [closedL, CV.closed, ih]
theorem closed_ids (s : Sv Id) : (encIds s).closed = true := closed_encS (fun x => closedL_ints _ x) s
theorem closed_Q (q : Queue) : closedL (encQ q) = true := by simp [encQ, closedL, CV.closed, closed_ids]
theorem closed_subs (s : Sv Queue) : (encSubs s).closed = true := closed_encS closed_Q s
theorem closed_F (f : Feed) : (encF f).closed = true := by simp [encF, CV.closed, closedL, closed_subs]

def liveL (l : List Queue) : Nat := (l.filter fun q => !q.en).length
def Feed.live (f : Feed) : Nat := liveL f.subs.l

theorem liveL_le (l : List Queue) : liveL l ≤ l.length := List.length_filter_le _ _

theorem live_take (l : List Queue) (k : Nat) (q : Queue) (h : l[k]? = some q) : liveL (l.take (k + 1)) = liveL (l.take k) + if q.en then 0 else 1 := by
  rw [List.take_add_one, h]
  simp only [liveL, List.filter_append, List.length_append, Option.toList_some]
  cases hq : q.en <;> simp [List.filter, hq]

set_option maxHeartbeats 1000000 in
theorem live_ok (f : Feed) (hl : f.subs.l.length ≤ 1000000) : PureC Try.prog G0 28 [encF f] (.int .i64 f.live) := by
  refine pure_of Try.checked.mixed G0_closed ?_
  apply call_intro c28_eq r28_eq
  unfold c28 r28
  simp [encF, encSubs]
  refine loop_up f.subs.l.length (fun k σ l => σ 7 = encS 4 encQ f.subs ∧ σ 8 = .int .i64 f.subs.l.length ∧ σ 9 = .int .i64 k ∧ σ 3 = .int .i64 (liveL (f.subs.l.take k))) ?_ (by simp [liveL])
  rintro k σ l hk ⟨h7, h8, h9, h3⟩
  unfold l28_0
  simp [h7, h8, h9, h3]
  refine kIf_intro (fun h => ?_) (fun h => ?_)
  · simp only [decide_eq_true_eq] at h
    obtain ⟨q, hq, _⟩ := get_of h
    have hlt := live_take f.subs.l k q hq
    have hle : liveL (f.subs.l.take k) ≤ k := Nat.le_trans (liveL_le _) (List.length_take_le _ _)
    simp [hq, encQ, h7, h8, h9, h3]
    cases hqe : q.en <;> simp (disch := omega) [h7, h8, h9, h3, h, hlt, hqe, wrap_i64]
    trace_state
  · simp [h, h3]
    have : k = f.subs.l.length := by simp at h; omega
    subst this
    rw [List.take_length]
    exact .same _ rfl

set_option maxHeartbeats 1000000 in
theorem refLive_ok (f : Feed) (hl : f.subs.l.length ≤ 1000000) : PureC Try.prog G0 29 [encF f] (.int .i64 f.live) := by
  refine pure_of Try.checked.mixed G0_closed ?_
  apply call_intro c29_eq r29_eq
  unfold c29 r29
  simp [encF, encSubs]
  refine loop_up f.subs.l.length (fun k σ l => σ 1 = .ptr 0 0 3 ∧ σ 4 = .int .i64 k ∧ σ 3 = .int .i64 (liveL (f.subs.l.take k)) ∧ l = [.cells 3 [.int .i64 f.cap, .int .i64 f.ver, encS 4 encQ f.subs]]) ?_ (by simp [liveL])
  rintro k σ l hk ⟨h1, h4, h3, rfl⟩
  unfold l29_0
  simp [h1, h4, h3]
  refine kIf_intro (fun h => ?_) (fun h => ?_)
  · simp only [decide_eq_true_eq] at h
    obtain ⟨q, hq, _⟩ := get_of h
    have hlt := live_take f.subs.l k q hq
    have hle : liveL (f.subs.l.take k) ≤ k := Nat.le_trans (liveL_le _) (List.length_take_le _ _)
    simp [hq, encQ, h1, h4, h3]
    cases hqe : q.en <;> simp (disch := omega) [h1, h4, h3, h, hlt, hqe, wrap_i64]
  · simp [h, h3]
    have : k = f.subs.l.length := by simp at h; omega
    subst this
    rw [List.take_length]
    exact .same _ rfl

/-- A queue of a feed is valid. -/
def okQ (f : Feed) (q : Queue) : Bool :=
  if q.next < 0 then false else if 1000000000 < q.next then false else if f.cap < (q.ids.l.length : Int) then false
  else if q.en then decide (q.ids.l = []) && !q.lag
  else if q.lag then decide (q.next + q.ids.l.length ≤ f.ver)
  else decide (q.next + q.ids.l.length = f.ver) || (decide (q.ids.l = []) && decide (f.ver < q.next))

theorem rd_bool {l : Hl} {b b' : Bool} (h : b = b') : Rd l (.bool b) (.bool b') := by subst h; exact .same _ rfl
theorem rd_int {l : Hl} {k : IntKind} {n n' : Int} (h : n = n') : Rd l (.int k n) (.int k n') := by subst h; exact .same _ rfl

set_option maxHeartbeats 1000000 in
theorem queue_ok (f : Feed) (q : Queue) (hc : f.cap ≤ 8) : PureC Try.prog G0 32 [encF f, .ag (encQ q)] (.bool (okQ f q)) := by
  refine pure_of Try.checked.mixed G0_closed ?_
  apply call_intro c32_eq r32_eq
  unfold c32 r32
  simp [encF, encIds, encSubs, encQ]
  by_cases h1 : q.next < 0
  · simp [h1]; exact rd_bool (by simp [okQ, h1])
  by_cases h2 : 1000000000 < q.next
  · simp [h1, h2]; exact rd_bool (by simp [okQ, h1, h2])
  by_cases h3 : f.cap < (q.ids.l.length : Int)
  · simp [h1, h2, h3]; exact rd_bool (by simp [okQ, h1, h2, h3])
  have hw : IntKind.i64.wrap (q.next + q.ids.l.length) = q.next + q.ids.l.length := wrap_i64 (by omega) (by omega)
  have hw0 : IntKind.i64.wrap q.next = q.next := wrap_i64 (by omega) (by omega)
  cases he : q.en
  · cases hl : q.lag
    · by_cases h4 : q.next + q.ids.l.length = f.ver
      · have hw4 : IntKind.i64.wrap f.ver = f.ver := by rw [← h4]; exact hw
        simp [h1, h2, h3, hw4, he, hl, h4]; exact rd_bool (by simp [okQ, h1, h2, h3, he, hl, h4])
      · by_cases h5 : q.ids.l = []
        · have h4' : ¬ q.next = f.ver := by simpa [h5] using h4
          have h3' : ¬ f.cap < 0 := by simpa [h5] using h3
          simp [h1, h2, h3', hw0, he, hl, h4', h5]; exact rd_bool (by simp [okQ, h1, h2, h3', he, hl, h4', h5])
        · simp [h1, h2, h3, hw, he, hl, h4, h5]; exact rd_bool (by simp [okQ, h1, h2, h3, he, hl, h4, h5])
    · simp [h1, h2, h3, hw, he, hl]; exact rd_bool (by simp [okQ, h1, h2, h3, he, hl])
  · by_cases h5 : q.ids.l = []
    · have h3' : ¬ f.cap < 0 := by simpa [h5] using h3
      simp [h1, h2, h3', he, h5]; exact rd_bool (by simp [okQ, h1, h2, h3', he, h5])
    · simp [h1, h2, h3, hw, he, h5]; exact rd_bool (by simp [okQ, h1, h2, h3, he, h5])

def okFs (f : Feed) : Bool := f.subs.l.all (okQ f)
/-- The error of a feed. -/
def chk (f : Feed) : Int :=
  if f.cap < 1 then 8 else if 8 < f.cap then 8 else if f.ver < 0 then 8 else if 1000000000 < f.ver then 8 else if 60 < (f.subs.l.length : Int) then 8 else if 4 < (f.live : Int) then 8
  else if okFs f then 0 else 8

theorem okFs_bad {f : Feed} {k : Nat} {q : Queue} (hq : f.subs.l[k]? = some q) (hb : okQ f q = false) : okFs f = false := by
  unfold okFs
  rw [List.all_eq_false]
  exact ⟨q, List.mem_of_getElem? hq, by simp [hb]⟩
theorem okFs_all {f : Feed} (h : ∀ k q, k < f.subs.l.length → f.subs.l[k]? = some q → okQ f q = true) : okFs f = true := by
  unfold okFs
  rw [List.all_eq_true]
  intro q hq
  obtain ⟨k, hk⟩ := List.getElem?_of_mem hq
  exact h k q (List.getElem?_eq_some_iff.1 hk).1 hk

set_option maxHeartbeats 1000000 in
theorem check_ok (f : Feed) (hl : f.subs.l.length ≤ 1000000) : PureC Try.prog G0 25 [encF f] (.int .i64 (chk f)) := by
  refine pure_of Try.checked.mixed G0_closed ?_
  apply call_intro c25_eq r25_eq
  unfold c25 r25
  simp [encF, encSubs]
  by_cases h1 : f.cap < 1
  · simp [h1]; exact rd_int (by simp [chk, h1])
  by_cases h2 : 8 < f.cap
  · simp [h1, h2]; exact rd_int (by simp [chk, h1, h2])
  by_cases h3 : f.ver < 0
  · simp [h1, h2, h3]; exact rd_int (by simp [chk, h1, h2, h3])
  by_cases h4 : 1000000000 < f.ver
  · simp [h1, h2, h3, h4]; exact rd_int (by simp [chk, h1, h2, h3, h4])
  by_cases h5 : 60 < (f.subs.l.length : Int)
  · simp [h1, h2, h3, h4, h5]; exact rd_int (by simp [chk, h1, h2, h3, h4, h5])
  simp [h1, h2, h3, h4, h5]
  refine pure_call (live_ok f hl) (show closedL [encF f] = true by simp [closedL, closed_F]) ?_
  simp
  by_cases h6 : 4 < (f.live : Int)
  · simp [h6]; exact rd_int (by simp [chk, h1, h2, h3, h4, h5, h6])
  simp [h6]
  have hchk : chk f = if okFs f then 0 else 8 := by simp [chk, h1, h2, h3, h4, h5, h6]
  refine loop_up f.subs.l.length (fun k σ l => σ 1 = .ptr 0 0 3 ∧ σ 35 = encS 4 encQ f.subs ∧ σ 36 = .int .i64 f.subs.l.length ∧ σ 37 = .int .i64 k ∧ (∃ rest, l = .cells 3 [.int .i64 f.cap, .int .i64 f.ver, encS 4 encQ f.subs] :: rest) ∧
    ∀ j q, j < k → f.subs.l[j]? = some q → okQ f q = true) ?_ (by simp [encF])
  rintro k σ l hk ⟨g1, g35, g36, g37, ⟨rest, rfl⟩, hok⟩
  unfold l25_0
  simp [g1, g35, g36, g37]
  refine kIf_intro (fun h => ?_) (fun h => ?_)
  · simp only [decide_eq_true_eq] at h
    obtain ⟨q, hq, _⟩ := get_of h
    simp [hq, encQ, g1, g35, g36, g37]
    refine pure_call (queue_ok f q (by omega)) (show closedL [encF f, .ag (encQ q)] = true by simp [closedL, closed_F, CV.closed, closed_Q]) ?_
    cases hq2 : okQ f q
    · simp
      exact rd_int (by rw [hchk, okFs_bad hq hq2]; rfl)
    · simp (disch := omega) [g1, g35, g36, g37, wrap_i64, h]
      intro j q' hj hq'
      by_cases hjk : j = k
      · subst hjk; rw [hq] at hq'; cases hq'; exact hq2
      · exact hok j q' (by omega) hq'
  · simp [h]
    have : k = f.subs.l.length := by simp at h; omega
    subst this
    exact rd_int (by rw [hchk, okFs_all hok]; rfl)
end Fd
end Go.CM
