/-
  Feeds: comparing.
-/
import Derived.Test.YtfedhobckpgokaaFdB
namespace Go.CM
open Go Go.Proofs
set_option linter.unusedVariables false
set_option linter.unusedSimpArgs false
set_option maxRecDepth 100000
namespace Fd

theorem id_neq {x y : Id} (hx : x.length = 32) (hy : y.length = 32) : binC Try.prog .neq 37 (.ag (encId x)) (.ag (encId y)) = some (.bool (!decide (x = y))) :=
  bin_ints_neq (e := 5) (by kernel_rfl) (by kernel_rfl) (by kernel_rfl) (by kernel_rfl) (by kernel_rfl) hx hy
theorem id_eql {x y : Id} (hx : x.length = 32) (hy : y.length = 32) : binC Try.prog .eql 37 (.ag (encId x)) (.ag (encId y)) = some (.bool (decide (x = y))) :=
  bin_ints_eql (e := 5) (by kernel_rfl) (by kernel_rfl) (by kernel_rfl) (by kernel_rfl) (by kernel_rfl) hx hy
theorem bool_eql (a b : Bool) : binC Try.prog .eql 4 (.bool a) (.bool b) = some (.bool (a == b)) := bin_bool_eql (by kernel_rfl) a b
theorem id_len {x : Id} (hx : x.length = 32) : (encId x).length = 32 := by simp [encId, hx]
theorem id_part {x : Id} (hx : x.length = 32) : partA 32 (encId x) 0 = some (.ag (encId x)) := by
  simp [partA, id_len hx, List.take_of_length_le]

def okIds (s : Sv Id) : Prop := ∀ x ∈ s.l, x.length = 32

set_option maxHeartbeats 1000000 in
theorem sameIDs_ok (a b : Sv Id) (ha : okIds a) (hb : okIds b) (hl : a.l.length ≤ 1000000) : PureC Try.prog G0 33 [encIds a, encIds b] (.bool (decide (a.l = b.l))) := by
  refine pure_of Try.checked.mixed G0_closed ?_
  apply call_intro c33_eq r33_eq
  unfold c33 r33
  simp [encIds]
  by_cases h1 : a.l.length = b.l.length
  · have h1' : ((a.l.length : Int) = b.l.length) := by omega
    simp [h1]
    refine loop_up a.l.length (fun k σ l => σ 0 = encS 32 encId a ∧ σ 1 = encS 32 encId b ∧ σ 5 = .int .i64 k ∧ ∀ j, j < k → a.l[j]? = b.l[j]?) ?_ (by simp [encIds])
    rintro k σ l hk ⟨g0, g1, g5, hs⟩
    obtain ⟨s, rfl⟩ := upds3 g0 g1 g5
    clear g0 g1 g5
    unfold l33_0
    simp
    refine kIf_intro (fun h => ?_) (fun h => ?_)
    · simp only [decide_eq_true_eq] at h
      obtain ⟨x, hx, hxm⟩ := get_of h
      obtain ⟨y, hy, hym⟩ := get_of (l := b.l) (k := k) (by omega)
      simp [hx, hy, id_len (ha x hxm), id_len (hb y hym), List.take_of_length_le, id_neq (ha x hxm) (hb y hym)]
      by_cases he : x = y
      · simp (disch := omega) [he, wrap_i64, h]
        intro j hj
        by_cases hjk : j = k
        · subst hjk; rw [hx, hy, he]
        · exact hs j (by omega)
      · simp [he]
        refine rd_bool (decide_eq_false fun hab => he ?_).symm
        rw [hab, hy] at hx; exact (Option.some.inj hx).symm
    · simp [h]
      have : k = a.l.length := by simp at h; omega
      subst this
      refine rd_bool (decide_eq_true ?_).symm
      apply List.ext_getElem?
      intro j
      by_cases hj : j < a.l.length
      · exact hs j hj
      · rw [List.getElem?_eq_none (by omega), List.getElem?_eq_none (by omega)]
  · have h1' : ¬ ((a.l.length : Int) = b.l.length) := by omega
    simp [h1, h1']
    exact rd_bool (decide_eq_false fun hab => h1 (by rw [hab])).symm

def okQs (q : Queue) : Prop := okIds q.ids ∧ q.ids.l.length ≤ 1000000
/-- Queues that are the same but for nil. -/
def sameQ (a b : Queue) : Bool := decide (a.next = b.next) && (a.lag == b.lag) && (a.en == b.en) && decide (a.ids.l = b.ids.l)

set_option maxHeartbeats 1000000 in
theorem sameQ_ok (a b : Queue) (ha : okQs a) (hb : okQs b) : PureC Try.prog G0 26 [.ag (encQ a), .ag (encQ b)] (.bool (sameQ a b)) := by
  refine pure_of Try.checked.mixed G0_closed ?_
  apply call_intro c26_eq r26_eq
  unfold c26 r26
  simp [encQ, encIds]
  by_cases h1 : a.next = b.next
  · by_cases h2 : a.lag = b.lag
    · by_cases h3 : a.en = b.en
      · simp [h1, h2, h3, bool_eql]
        refine pure_call (sameIDs_ok a.ids b.ids ha.1 hb.1 ha.2) (show closedL [encIds a.ids, encIds b.ids] = true by simp [closedL, closed_ids]) ?_
        simp
        exact rd_bool (by simp [sameQ, h1, h2, h3])
      · have h3' : (a.en == b.en) = false := by simp [h3]
        simp [h1, h2, h3', bool_eql]
        exact rd_bool (by simp [sameQ, h3])
    · have h2' : (a.lag == b.lag) = false := by simp [h2]
      simp [h1, h2', bool_eql]
      exact rd_bool (by simp [sameQ, h2])
  · simp [h1]
    exact rd_bool (by simp [sameQ, h1])

def okF (f : Feed) : Prop := (∀ q ∈ f.subs.l, okQs q) ∧ f.subs.l.length ≤ 1000000
def sameL : List Queue → List Queue → Bool
  | [], [] => true
  | a :: xs, b :: ys => sameQ a b && sameL xs ys
  | _, _ => false
def sameF (a b : Feed) : Bool := decide (a.cap = b.cap) && decide (a.ver = b.ver) && sameL a.subs.l b.subs.l

theorem sameL_spec : ∀ {xs ys : List Queue}, xs.length = ys.length → (sameL xs ys = true ↔ ∀ (k : Nat) (a b : Queue), xs[k]? = some a → ys[k]? = some b → sameQ a b = true)
  | [], [], _ => by simp [sameL]
  | a :: xs, b :: ys, h => by
    simp only [sameL, Bool.and_eq_true, sameL_spec (xs := xs) (ys := ys) (by simpa using h)]
    constructor
    · rintro ⟨h1, h2⟩ k x y hx hy
      cases k with
      | zero => simp at hx hy; subst hx hy; exact h1
      | succ k => exact h2 k x y (by simpa using hx) (by simpa using hy)
    · intro h
      exact ⟨h 0 a b rfl rfl, fun k x y hx hy => h (k + 1) x y (by simpa using hx) (by simpa using hy)⟩
  | [], _ :: _, h => by simp at h
  | _ :: _, [], h => by simp at h
theorem sameL_len : ∀ {xs ys : List Queue}, sameL xs ys = true → xs.length = ys.length
  | [], [], _ => rfl
  | a :: xs, b :: ys, h => by simp only [sameL, Bool.and_eq_true] at h; simp [sameL_len h.2]
  | [], _ :: _, h => by simp [sameL] at h
  | _ :: _, [], h => by simp [sameL] at h

set_option maxHeartbeats 1000000 in
theorem same_ok (a b : Feed) (ha : okF a) (hb : okF b) : PureC Try.prog G0 21 [encF a, encF b] (.bool (sameF a b)) := by
  refine pure_of Try.checked.mixed G0_closed ?_
  apply call_intro c21_eq r21_eq
  unfold c21 r21
  simp [encF, encSubs]
  by_cases h1 : a.cap = b.cap
  · by_cases h2 : a.ver = b.ver
    · by_cases h3 : a.subs.l.length = b.subs.l.length
      · have h3' : ((a.subs.l.length : Int) = b.subs.l.length) := by omega
        simp [h1, h2, h3]
        have hse : sameF a b = sameL a.subs.l b.subs.l := by simp [sameF, h1, h2]
        refine loop_up a.subs.l.length (fun k σ l => σ 2 = .ptr 0 0 3 ∧ σ 3 = .ptr 1 0 3 ∧ σ 5 = .int .i64 k ∧ (∃ rest, l = .cells 3 [.int .i64 b.cap, .int .i64 b.ver, encS 4 encQ a.subs] :: .cells 3 [.int .i64 b.cap, .int .i64 b.ver, encS 4 encQ b.subs] :: rest) ∧
          ∀ j x y, j < k → a.subs.l[j]? = some x → b.subs.l[j]? = some y → sameQ x y = true) ?_ (by simp)
        rintro k σ l hk ⟨g2, g3, g5, ⟨rest, rfl⟩, hs⟩
        obtain ⟨s, rfl⟩ := upds3 g2 g3 g5
        clear g2 g3 g5
        unfold l21_0
        simp
        refine kIf_intro (fun h => ?_) (fun h => ?_)
        · simp only [decide_eq_true_eq] at h
          obtain ⟨x, hx, hxm⟩ := get_of h
          obtain ⟨y, hy, hym⟩ := get_of (l := b.subs.l) (k := k) (by omega)
          simp [hx, hy, encQ]
          refine pure_call (sameQ_ok x y (ha.1 x hxm) (hb.1 y hym)) (show closedL [.ag (encQ x), .ag (encQ y)] = true by simp [closedL, CV.closed, closed_Q]) ?_
          have hb := ha.2
          cases he : sameQ x y
          · simp
            refine rd_bool ?_
            rw [hse]
            cases hsl : sameL a.subs.l b.subs.l with
            | false => rfl
            | true => rw [sameL_spec h3] at hsl; rw [hsl k x y hx hy] at he; cases he
          · simp (disch := omega) [wrap_i64, h]
            intro j x' y' hj hx' hy'
            by_cases hjk : j = k
            · subst hjk; rw [hx] at hx'; rw [hy] at hy'; cases hx'; cases hy'; exact he
            · exact hs j x' y' (by omega) hx' hy'
        · simp [h]
          have : k = a.subs.l.length := by simp at h; omega
          subst this
          refine rd_bool ?_
          rw [hse, eq_comm, sameL_spec h3]
          intro j x y hx hy
          exact hs j x y (List.getElem?_eq_some_iff.1 hx).1 hx hy
      · have h3' : ¬ ((a.subs.l.length : Int) = b.subs.l.length) := by omega
        simp [h1, h2, h3, h3']
        refine rd_bool ?_
        cases hsl : sameF a b with
        | false => rfl
        | true => simp only [sameF, Bool.and_eq_true] at hsl; exact absurd (sameL_len hsl.2) h3
    · simp [h1, h2]
      exact rd_bool (by simp [sameF, h2])
  · simp [h1]
    exact rd_bool (by simp [sameF, h1])

/-- More than the statements consider. -/
def great (f : Feed) : Bool := decide (100 < f.subs.l.length) || (f.subs.l.take 101).any fun q => decide (100 < q.ids.l.length)

end Fd
end Go.CM
