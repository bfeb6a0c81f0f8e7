/-
  Feeds: queues whose lists of ids are each of one's own.
-/
import Derived.Test.YtfedhobckpgokaaFdI
namespace Go.CM
open Go Go.Proofs
set_option linter.unusedVariables false
set_option linter.unusedSimpArgs false
set_option maxRecDepth 100000
namespace Fd

/-- A list of ids of one's own, in a heap that stands behind 'c' other blocks. -/
def ownIds (c : Nat) (r : Hl) (v : CV) (s : Sv Id) : Prop := match s with
  | none => v = .nilS
  | some xs => v = encIds (some xs) ∨ ∃ b, v = .sl 32 (b + c) 0 xs.length xs.length (xs.length * 32) ∧ r[b]? = some (.cells (xs.length * 32) (xs.map encId).flatten)
/-- Not a list that is read by value. -/
def isOwn : CV → Prop
  | .nilS => True
  | .sl .. => True
  | _ => False
def blkOf : CV → Option Nat
  | .sl _ b _ _ _ _ => some b
  | _ => none
def rowQ (v : CV) (q : Queue) : List CV := [.int .i64 q.next, v, .bool q.lag, .bool q.en]
def rowsQ (vs : List CV) (qs : List Queue) : List (List CV) := List.zipWith rowQ vs qs

theorem rowsQ_len (vs : List CV) (qs : List Queue) (h : vs.length = qs.length) : (rowsQ vs qs).length = qs.length := by simp [rowsQ, h]
theorem rowsQ_4 (vs : List CV) (qs : List Queue) : ∀ e ∈ rowsQ vs qs, e.length = 4 := fun e he => by
  obtain ⟨i, hi⟩ := List.getElem?_of_mem he
  simp only [rowsQ, List.getElem?_zipWith] at hi
  split at hi
  · cases hi; rfl
  · cases hi
theorem rowsQ_get {vs : List CV} {qs : List Queue} {i : Nat} {v : CV} {q : Queue} (hv : vs[i]? = some v) (hq : qs[i]? = some q) : (rowsQ vs qs)[i]? = some (rowQ v q) := by
  simp [rowsQ, List.getElem?_zipWith, hv, hq]
theorem rowsQ_set {vs : List CV} {qs : List Queue} {i : Nat} (v : CV) (q : Queue) : (rowsQ vs qs).set i (rowQ v q) = rowsQ (vs.set i v) (qs.set i q) := by
  apply List.ext_getElem?
  intro j
  simp only [rowsQ, List.getElem?_set, List.getElem?_zipWith, List.length_zipWith]
  by_cases hij : i = j
  · subst hij
    simp only [if_true]
    by_cases h1 : i < vs.length <;> by_cases h2 : i < qs.length <;> simp [h1, h2] <;> omega
  · simp [hij]
theorem rowsQ_cells {vs : List CV} {qs : List Queue} {i : Nat} {v : CV} {q : Queue} (hv : vs[i]? = some v) (hq : qs[i]? = some q) :
    (rowsQ vs qs).flatten[i * 4]? = some (.int .i64 q.next) ∧ (rowsQ vs qs).flatten[i * 4 + 1]? = some v ∧ (rowsQ vs qs).flatten[i * 4 + 2]? = some (.bool q.lag) ∧ (rowsQ vs qs).flatten[i * 4 + 3]? = some (.bool q.en) ∧
    ((rowsQ vs qs).flatten.drop (i * 4)).take 4 = rowQ v q := by
  have hrow := rowsQ_get hv hq
  have h4 := rowsQ_4 vs qs
  exact ⟨flat_get h4 hrow (j := 0) (by omega), flat_get h4 hrow (j := 1) (by omega), flat_get h4 hrow (j := 2) (by omega), flat_get h4 hrow (j := 3) (by omega), flat_row h4 hrow⟩
theorem rowsQ_splice {vs : List CV} {qs : List Queue} {i : Nat} {v : CV} {q : Queue} (hv : vs[i]? = some v) (hq : qs[i]? = some q) (j : Nat) (ws : List CV) (v' : CV) (q' : Queue) (hj : j + ws.length ≤ 4) (h : splice (rowQ v q) j ws = rowQ v' q') :
    splice (rowsQ vs qs).flatten (i * 4 + j) ws = (rowsQ (vs.set i v') (qs.set i q')).flatten := by
  rw [flat_splice (rowsQ_4 vs qs) (rowsQ_get hv hq) (by omega), h, rowsQ_set]
theorem rowsQ_flat {vs : List CV} {qs : List Queue} (h : vs.length = qs.length) : (rowsQ vs qs).flatten.length = qs.length * 4 := by
  rw [flat_len (rowsQ_4 vs qs), rowsQ_len vs qs h]

/-- Queues in block s, their lists each in a block of its own, none of them among the blocks T. -/
structure Nest (c : Nat) (r : Hl) (T : List Nat) (s : Nat) (vs : List CV) (qs : List Queue) : Prop where
  len : vs.length = qs.length
  row : r[s]? = some (.cells (qs.length * 4) (rowsQ vs qs).flatten)
  own : ∀ (i : Nat) (v : CV) (q : Queue), vs[i]? = some v → qs[i]? = some q → ownIds c r v q.ids
  far : ∀ (i : Nat) (v : CV) (b : Nat), vs[i]? = some v → blkOf v = some b → b ≠ s + c ∧ ∀ t ∈ T, b ≠ t + c
  apart : ∀ (i j : Nat) (v v' : CV) (b : Nat), i ≠ j → vs[i]? = some v → vs[j]? = some v' → blkOf v = some b → blkOf v' ≠ some b
  ts : s ∉ T

theorem ownIds.keep {c : Nat} {r r' : Hl} {v : CV} {x : Sv Id} (h : ownIds c r v x) (hk : ∀ b, blkOf v = some (b + c) → r'[b]? = r[b]?) : ownIds c r' v x := by
  cases x with
  | none => exact h
  | some xs =>
    rcases h with h | ⟨b, rfl, hb⟩
    · exact .inl h
    · exact .inr ⟨b, rfl, by rw [hk b rfl]; exact hb⟩
theorem ownIds.blk {c : Nat} {r : Hl} {v : CV} {x : Sv Id} (h : ownIds c r v x) {b : Nat} (hb : blkOf v = some b) : ∃ b', b = b' + c ∧ b' < r.length := by
  cases x with
  | none => rw [h] at hb; cases hb
  | some xs =>
    rcases h with h | ⟨b', rfl, h2⟩
    · rw [h] at hb; cases hb
    · cases hb
      exact ⟨b', rfl, get_lt h2⟩

/-- The blocks other than those of the queues may do what they want. -/
theorem Nest.keep {c : Nat} {r r' : Hl} {T : List Nat} {s : Nat} {vs : List CV} {qs : List Queue} (N : Nest c r T s vs qs) (hk : ∀ b, b < r.length → b ∉ T → r'[b]? = r[b]?) : Nest c r' T s vs qs := by
  refine ⟨N.len, ?_, fun i v q hv hq => (N.own i v q hv hq).keep fun b hb => ?_, N.far, N.apart, N.ts⟩
  · rw [hk s (get_lt N.row) N.ts]; exact N.row
  · obtain ⟨b', h1, h2⟩ := (N.own i v q hv hq).blk hb
    obtain rfl : b' = b := by omega
    exact hk b' h2 (fun h => (N.far i v _ hv hb).2 b' h rfl)

/-- Other blocks are named. -/
theorem Nest.to {c : Nat} {r : Hl} {T T' : List Nat} {s : Nat} {vs : List CV} {qs : List Queue} (N : Nest c r T s vs qs) (h : ∀ t ∈ T', t ∈ T ∨ r.length ≤ t) : Nest c r T' s vs qs := by
  refine ⟨N.len, N.row, N.own, fun i v b hv hb => ⟨(N.far i v b hv hb).1, fun t ht => ?_⟩, N.apart, fun ht => ?_⟩
  · rcases h t ht with h1 | h1
    · exact (N.far i v b hv hb).2 t h1
    · obtain ⟨q, hq⟩ : ∃ q, qs[i]? = some q := ⟨qs[i]'(by rw [← N.len]; exact (List.getElem?_eq_some_iff.1 hv).1), List.getElem?_eq_getElem _⟩
      obtain ⟨b', h2, h3⟩ := (N.own i v q hv hq).blk hb
      omega
  · rcases h s ht with h1 | h1
    · exact N.ts h1
    · have := get_lt N.row; omega

/-- One queue is turned. -/
theorem Nest.upd {c : Nat} {r r' : Hl} {T : List Nat} {s : Nat} {vs : List CV} {qs : List Queue} (N : Nest c r T s vs qs) {i : Nat} {v : CV} {q : Queue} (hv : vs[i]? = some v) (hq : qs[i]? = some q) {v' : CV} {q' : Queue}
    (hrow : r'[s]? = some (.cells (qs.length * 4) (rowsQ (vs.set i v') (qs.set i q')).flatten))
    (hk : ∀ b, b < r.length → b ≠ s → blkOf v ≠ some (b + c) → r'[b]? = r[b]?)
    (hown : ownIds c r' v' q'.ids) (hb : ∀ b, blkOf v' = some b → blkOf v = some b ∨ (r.length + c ≤ b ∧ b ≠ s + c ∧ ∀ t ∈ T, b ≠ t + c)) : Nest c r' T s (vs.set i v') (qs.set i q') := by
  have hi : i < vs.length := (List.getElem?_eq_some_iff.1 hv).1
  have hiq : i < qs.length := (List.getElem?_eq_some_iff.1 hq).1
  have fv : ∀ b, blkOf v' = some b → b ≠ s + c ∧ ∀ t ∈ T, b ≠ t + c := fun b h => by
    rcases hb b h with h1 | h1
    · exact N.far i v b hv h1
    · exact h1.2
  refine ⟨by simp [N.len], by simpa using hrow, fun j w p hw hp => ?_, fun j w b hw hbw => ?_, fun j k w w' b hjk hw hw' hbw => ?_, N.ts⟩
  · by_cases hij : i = j
    · subst hij
      rw [List.getElem?_set, if_pos rfl, if_pos hi] at hw
      rw [List.getElem?_set, if_pos rfl, if_pos hiq] at hp
      cases hw; cases hp; exact hown
    · rw [List.getElem?_set, if_neg hij] at hw hp
      have ho := N.own j w p hw hp
      refine ho.keep fun b hbw => ?_
      obtain ⟨b', h1, h2⟩ := ho.blk hbw
      obtain rfl : b' = b := by omega
      exact hk b' h2 (fun h => (N.far j w _ hw hbw).1 (by rw [h])) (fun h => N.apart i j v w _ hij hv hw h hbw)
  · by_cases hij : i = j
    · subst hij
      rw [List.getElem?_set, if_pos rfl, if_pos hi] at hw
      cases hw; exact fv b hbw
    · rw [List.getElem?_set, if_neg hij] at hw
      exact N.far j w b hw hbw
  · by_cases hij : i = j
    · subst hij
      rw [List.getElem?_set, if_pos rfl, if_pos hi] at hw
      rw [List.getElem?_set, if_neg hjk] at hw'
      cases hw
      intro hbw'
      rcases hb b hbw with h1 | ⟨h1, _⟩
      · exact N.apart i k v w' b hjk hv hw' h1 hbw'
      · obtain ⟨p, hp⟩ : ∃ p, qs[k]? = some p := ⟨qs[k]'(by rw [← N.len]; exact (List.getElem?_eq_some_iff.1 hw').1), List.getElem?_eq_getElem _⟩
        obtain ⟨b', h2, h3⟩ := (N.own k w' p hw' hp).blk hbw'
        omega
    · rw [List.getElem?_set, if_neg hij] at hw
      by_cases hik : i = k
      · subst hik
        rw [List.getElem?_set, if_pos rfl, if_pos hi] at hw'
        cases hw'
        intro hbw'
        rcases hb b hbw' with h1 | ⟨h1, _⟩
        · exact N.apart j i w v b hjk hw hv hbw h1
        · obtain ⟨p, hp⟩ : ∃ p, qs[j]? = some p := ⟨qs[j]'(by rw [← N.len]; exact (List.getElem?_eq_some_iff.1 hw).1), List.getElem?_eq_getElem _⟩
          obtain ⟨b', h2, h3⟩ := (N.own j w p hw hp).blk hbw
          omega
      · rw [List.getElem?_set, if_neg hik] at hw'
        exact N.apart j k w w' b hjk hw hw' hbw

/-- What they read as. -/
theorem ownIds.rd {c : Nat} {L r : Hl} (hc : L.length = c) {v : CV} {x : Sv Id} (h : ownIds c r v x) (hx : okIds x) : Rd (L ++ r) v (encIds x) := by
  cases x with
  | none => rw [h]; exact .same _ rfl
  | some xs =>
    rcases h with h | ⟨b, rfl, hb⟩
    · rw [h]; exact .same _ (closed_ids _)
    refine rd_rows (rest := []) ?_ (by simp) (fun e he => ?_) ?_
    · rw [List.append_nil, List.getElem?_append_right (by omega), show b + c - L.length = b by omega]; exact hb
    · obtain ⟨y, hy, rfl⟩ := List.mem_map.1 he; exact id_len (hx y hy)
    · have := closed_ids (some xs); simpa [encIds, encS, CV.closed] using this
theorem Nest.rd {c : Nat} {L r : Hl} (hc : L.length = c) {T : List Nat} {s : Nat} {vs : List CV} {qs : List Queue} (N : Nest c r T s vs qs) (hx : ∀ q ∈ qs, okIds q.ids) (cap sz : Nat) (hsz : sz = qs.length * 4) : Rd (L ++ r) (.sl 4 (s + c) 0 qs.length cap sz) (encSubs (some qs)) := by
  subst hsz
  refine .sl 4 (s + c) 0 qs.length cap _ (rowsQ vs qs).flatten _ ?_ (by simp) (rows_Q qs) (by rw [rowsQ_flat N.len]; omega) (fun i j e x x' he hj hxx => ?_)
  · rw [List.getElem?_append_right (by omega), show s + c - L.length = s by omega]; exact N.row
  · rw [List.getElem?_map] at he
    cases hq : qs[i]? with
    | none => rw [hq] at he; cases he
    | some q =>
      rw [hq] at he
      cases he
      have hi : i < vs.length := by rw [N.len]; exact (List.getElem?_eq_some_iff.1 hq).1
      obtain ⟨v, hv⟩ : ∃ v, vs[i]? = some v := ⟨vs[i], List.getElem?_eq_getElem hi⟩
      have hj4 : j < 4 := (List.getElem?_eq_some_iff.1 hj).1
      rw [Nat.zero_add, flat_get (rowsQ_4 vs qs) (rowsQ_get hv hq) hj4] at hxx
      rcases j with _ | _ | _ | _ | j
      · simp [rowQ, encQ] at hxx hj; subst hxx hj; exact .same _ rfl
      · simp [rowQ, encQ] at hxx hj; subst hxx hj; exact (N.own i v q hv hq).rd hc (hx q (List.mem_of_getElem? hq))
      · simp [rowQ, encQ] at hxx hj; subst hxx hj; exact .same _ rfl
      · simp [rowQ, encQ] at hxx hj; subst hxx hj; exact .same _ rfl
      · omega
end Fd
end Go.CM
