/-
  Feeds: copies.
-/
import Derived.Test.YtfedhobckpgokaaFdD
namespace Go.CM
open Go Go.Proofs
set_option linter.unusedVariables false
set_option linter.unusedSimpArgs false
set_option maxRecDepth 100000
namespace Fd

theorem ids_nil (s : Sv Id) : binC Try.prog .eql 31 (encIds s) .nilS = some (.bool s.isNone) := bin_nil_eql (e := 37) (by kernel_rfl) 32 encId s
theorem subs_nil (s : Sv Queue) : binC Try.prog .eql 24 (encSubs s) .nilS = some (.bool s.isNone) := bin_nil_eql (e := 58) (by kernel_rfl) 4 encQ s

set_option maxHeartbeats 1000000 in
theorem cloneIds_ok (s : Sv Id) (hs : okIds s) (hl : s.l.length ≤ 1000000) : PureC Try.prog G0 35 [encIds s] (encIds s) := by
  refine pure_of Try.checked.mixed G0_closed ?_
  apply call_intro c35_eq r35_eq
  unfold c35 r35
  simp [ids_nil]
  cases s with
  | none => simp; exact .same _ rfl
  | some xs =>
    have hxs : xs.length ≤ 1000000 := hl
    simp
    rw [app_fresh (m := xs.length) (xs := xs.map encId) (by simp) (by simp [encIds]) (by simp) (by omega) (by omega) (by simp [roomMax]; omega)]
    simp
    refine AppK.keep ?_
    simp
    refine rd_rows (rest := []) (by simp) (by simp) (fun e he => ?_) ?_
    · obtain ⟨x, hx, rfl⟩ := List.mem_map.1 he
      exact id_len (hs x hx)
    · have := closed_ids (some xs)
      simpa [encIds, encS, CV.closed] using this

set_option maxHeartbeats 1000000 in
theorem cloneQ_own (s : Sv Queue) (hl : s.l.length ≤ 1000000) {l : Hl} {K : CV → Hl → Prop} (h0 : s = none → K .nilS l)
    (h1 : ∀ qs, s = some qs → K (.sl 4 l.length 0 qs.length qs.length (qs.length * 4)) (l ++ [.cells (qs.length * 4) (qs.map encQ).flatten])) : CallP Try.prog G0 34 [encSubs s] l (c := ⟨K⟩) := by
  apply call_intro c34_eq r34_eq
  unfold c34 r34
  simp [subs_nil]
  cases s with
  | none => simp; exact h0 rfl
  | some xs =>
    have hxs : xs.length ≤ 1000000 := hl
    simp
    rw [app_fresh (m := xs.length) (xs := xs.map encQ) (by simp) (by simp [encSubs]) (by simp) (by omega) (by omega) (by simp [roomMax]; omega)]
    simp
    refine AppK.keep ?_
    simp
    exact h1 xs rfl

theorem rows_Q (qs : List Queue) : ∀ e ∈ qs.map encQ, e.length = 4 := fun e he => by
  obtain ⟨q, _, rfl⟩ := List.mem_map.1 he; rfl

theorem cells_Q {qs : List Queue} {k : Nat} {q : Queue} (hq : qs[k]? = some q) : (qs.map encQ).flatten[k * 4]? = some (.int .i64 q.next) ∧ (qs.map encQ).flatten[k * 4 + 1]? = some (encIds q.ids) ∧
    (qs.map encQ).flatten[k * 4 + 2]? = some (.bool q.lag) ∧ (qs.map encQ).flatten[k * 4 + 3]? = some (.bool q.en) ∧ ((qs.map encQ).flatten.drop (k * 4)).take 4 = encQ q := by
  have hrow : (qs.map encQ)[k]? = some (encQ q) := by rw [List.getElem?_map, hq]; rfl
  exact ⟨flat_get (rows_Q qs) hrow (j := 0) (by omega), flat_get (rows_Q qs) hrow (j := 1) (by omega), flat_get (rows_Q qs) hrow (j := 2) (by omega), flat_get (rows_Q qs) hrow (j := 3) (by omega), flat_row (rows_Q qs) hrow⟩
theorem splice_Q {qs : List Queue} {k : Nat} {q : Queue} (hq : qs[k]? = some q) (j : Nat) (vs : List CV) (q' : Queue) (hj : j + vs.length ≤ 4) (h : splice (encQ q) j vs = encQ q') : splice (qs.map encQ).flatten (k * 4 + j) vs = ((qs.set k q').map encQ).flatten := by
  have hrow : (qs.map encQ)[k]? = some (encQ q) := by rw [List.getElem?_map, hq]; rfl
  rw [flat_splice (rows_Q qs) hrow (by omega), h, List.map_set]
theorem get_set {α : Type} {l : List α} {k : Nat} {x y : α} (h : l[k]? = some x) : (l.set k y)[k]? = some y := by
  rw [List.getElem?_set, if_pos rfl, if_pos (List.getElem?_eq_some_iff.1 h).1]

set_option maxHeartbeats 2000000 in
theorem twin_own (f : Feed) (hf : okF f) {l : Hl} {K : CV → Hl → Prop} (h0 : f.subs = none → ∀ x y, K (.ag [.int .i64 f.cap, .int .i64 f.ver, .nilS]) (l ++ [x, y]))
    (h1 : ∀ qs, f.subs = some qs → ∀ x y, K (.ag [.int .i64 f.cap, .int .i64 f.ver, .sl 4 (l.length + 2) 0 qs.length qs.length (qs.length * 4)]) (l ++ [x, y, .cells (qs.length * 4) (qs.map encQ).flatten])) :
    CallP Try.prog G0 27 [encF f] l (c := ⟨K⟩) := by
  apply call_intro c27_eq r27_eq
  unfold c27 r27
  simp [encF]
  refine cloneQ_own f.subs hf.2 (fun hn => ?_) (fun qs hs => ?_)
  · simp
    refine loop_up 0 (fun k σ l' => σ 1 = .ptr l.length 0 3 ∧ σ 2 = .ptr (l.length + 1) 0 3 ∧ σ 10 = .int .i64 0 ∧ σ 11 = .int .i64 k ∧
      l' = l ++ [.cells 3 [.int .i64 f.cap, .int .i64 f.ver, .nilS], .cells 3 [.int .i64 0, .int .i64 0, .nilS]]) ?_ (by simp)
    rintro k σ l' hk ⟨g1, g2, g10, g11, rfl⟩
    obtain rfl : k = 0 := by omega
    obtain ⟨s, rfl⟩ := upds4 g1 g2 g10 g11
    clear g1 g2 g10 g11
    unfold l27_0
    simp
    exact h0 hn _ _
  · simp
    have hq1 : qs.length ≤ 1000000 := by have := hf.2; rw [hs] at this; exact this
    refine loop_up qs.length (fun k σ l' => σ 1 = .ptr l.length 0 3 ∧ σ 2 = .ptr (l.length + 1) 0 3 ∧ σ 10 = .int .i64 qs.length ∧ σ 11 = .int .i64 k ∧
      l' = l ++ [.cells 3 [.int .i64 f.cap, .int .i64 f.ver, .sl 4 (l.length + 2) 0 qs.length qs.length (qs.length * 4)], .cells 3 [.int .i64 0, .int .i64 0, .nilS], .cells (qs.length * 4) (qs.map encQ).flatten]) ?_ (by simp)
    rintro k σ l' hk ⟨g1, g2, g10, g11, rfl⟩
    obtain ⟨s, rfl⟩ := upds4 g1 g2 g10 g11
    clear g1 g2 g10 g11
    unfold l27_0
    simp
    by_cases h : k < qs.length
    · obtain ⟨q, hq, hqm⟩ := get_of h
      have hrow : (qs.map encQ)[k]? = some (encQ q) := by rw [List.getElem?_map, hq]; rfl
      have hg := flat_get (rows_Q qs) hrow (j := 1) (by omega)
      have hsp := flat_splice (rows_Q qs) hrow (j := 1) (vs := [encIds q.ids]) (by simp)
      have hsame : (qs.map encQ).set k (splice (encQ q) 1 [encIds q.ids]) = qs.map encQ := by
        apply List.ext_getElem?
        intro j
        rw [List.getElem?_set]
        by_cases hj : k = j
        · subst hj; rw [if_pos rfl, if_pos (by simpa using h), hrow]; simp [encQ]
        · rw [if_neg hj]
      rw [hsame] at hsp
      have hqq := hf.1 q (by rw [hs]; exact hqm)
      have hwk : IntKind.i64.wrap ((k : Int) + 1) = k + 1 := wrap_i64 (by omega) (by omega)
      simp [h, hg, encQ]
      refine pure_call (cloneIds_ok q.ids hqq.1 hqq.2) (show closedL [encIds q.ids] = true by simp [closedL, closed_ids]) ?_
      have hci : (encIds q.ids).cells = some [encIds q.ids] := cells_encS _
      have hle : k * 4 + 1 + 1 ≤ qs.length * 4 := by omega
      simp [h, hg, encQ, hci, hle, hwk, hsp]
    · simp [h]
      exact h1 qs hs _ _
end Fd
end Go.CM
