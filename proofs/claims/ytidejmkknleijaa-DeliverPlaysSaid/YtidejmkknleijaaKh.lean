/-
  Feeds: Subscribe.
-/
import Derived.Test.YtidejmkknleijaaKg
namespace Go.CM
open Go Go.Proofs
set_option linter.unusedVariables false
set_option linter.unusedSimpArgs false
set_option maxRecDepth 100000
namespace Fd

def newQ (n : Int) : Queue := ⟨n, none, false, false⟩
def sub (f : Feed) (from_ : Int) : Feed × Int × Int :=
  if chk f ≠ 0 then (zeroF, 0, chk f) else if from_ < f.ver then (zeroF, 0, 2) else if 1000000000 < from_ then (zeroF, 0, 2)
  else if (f.subs.l.length : Int) = 60 then (zeroF, 0, 18) else if (f.live : Int) = 4 then (zeroF, 0, 18)
  else ({ f with subs := some (f.subs.l ++ [newQ from_]) }, f.subs.l.length, 0)

theorem closedLL_rows (qs : List Queue) : closedLL (qs.map encQ) = true := by
  have := closed_subs (some qs)
  simpa [encSubs, encS, CV.closed] using this

/-- A slice of queues of one's own, as it reads. -/
theorem rd_subs {l : Hl} {b n cap sz : Nat} {qs : List Queue} (hb : l[b]? = some (.cells sz (qs.map encQ).flatten)) (hn : qs.length = n) : Rd l (.sl 4 b 0 n cap sz) (encSubs (some qs)) :=
  rd_rows (rest := []) (by simpa using hb) (by simp [hn]) (rows_Q qs) (closedLL_rows qs)
theorem rd_Fs {l : Hl} {f : Feed} {v : CV} (h : Rd l v (encSubs f.subs)) : Rd l (.ag [.int .i64 f.cap, .int .i64 f.ver, v]) (encF f) := by
  refine .ag _ _ rfl fun j c c' hc hc' => ?_
  rcases j with _ | _ | _ | j
  · simp at hc hc'; subst hc hc'; exact .same _ rfl
  · simp at hc hc'; subst hc hc'; exact .same _ rfl
  · simp at hc hc'; subst hc hc'; exact h
  · simp at hc

set_option maxHeartbeats 2000000 in
theorem subscribe_ok (f : Feed) (n : Int) (hf : okF f) : PureC Try.prog G0 8 [encF f, .int .i64 n] (.tu [encF (sub f n).1, .int .i64 (sub f n).2.1, .int .i64 (sub f n).2.2]) := by
  refine pure_of Try.checked.mixed G0_closed ?_
  apply call_intro c8_eq r8_eq
  unfold c8 r8
  simp [encF]
  refine pure_call (check_ok f hf.2) (show closedL [encF f] = true by simp [closedL, closed_F]) ?_
  have hz : ∀ l, Rd l (.ag [.int .i64 0, .int .i64 0, .nilS]) (encF zeroF) := fun l => .same _ (closed_F zeroF)
  simp
  by_cases h1 : chk f = 0
  · by_cases h2 : n < f.ver
    · simp [h1, h2]
      simp only [sub, h1, h2, ne_eq, not_true_eq_false, if_false, if_true]
      exact rd_tu3 (hz _) (.same _ rfl) (.same _ rfl)
    · by_cases h3 : 1000000000 < n
      · simp [h1, h2, h3]
        simp only [sub, h1, h2, h3, ne_eq, not_true_eq_false, if_false, if_true]
        exact rd_tu3 (hz _) (.same _ rfl) (.same _ rfl)
      · have hsl : lenM (.sl 4) (encSubs f.subs) = some (.int .i64 f.subs.l.length) := len_encS _
        by_cases h4 : (f.subs.l.length : Int) = 60
        · simp [h1, h2, h3, hsl, h4]
          simp only [sub, h1, h2, h3, h4, ne_eq, not_true_eq_false, if_false, if_true]
          exact rd_tu3 (hz _) (.same _ rfl) (.same _ rfl)
        · simp [h1, h2, h3, hsl, h4]
          refine pure_call (live_ok f hf.2) (show closedL [encF f] = true by simp [closedL, closed_F]) ?_
          simp
          by_cases h5 : (f.live : Int) = 4
          · simp [h5]
            simp only [sub, h1, h2, h3, h4, h5, ne_eq, not_true_eq_false, if_false, if_true]
            exact rd_tu3 (hz _) (.same _ rfl) (.same _ rfl)
          · have hsub : sub f n = ({ f with subs := some (f.subs.l ++ [newQ n]) }, (f.subs.l.length : Int), (0 : Int)) := by
              simp only [sub, h1, h2, h3, h4, h5, ne_eq, not_true_eq_false, if_false]
            simp [h5]
            refine twin_own f hf (fun hn x y => ?_) (fun qs hs x y => ?_)
            · simp
              rw [app_nil (xs := [encQ (newQ n)]) (by simp [contentsL, encQ, newQ, encIds, encS]) (by omega) (by omega) (by simp) (by simp [roomMax])]
              simp
              refine AppK.keep ?_
              simp [hsl, hsub]
              exact rd_tu3 (rd_Fs (f := { f with subs := _ }) (rd_subs (qs := f.subs.l ++ [newQ n]) (by simp [hn]) (by simp [hn]))) (.same _ rfl) (.same _ rfl)
            · have hq1 : qs.length ≤ 1000000 := by have := hf.2; rw [hs] at this; exact this
              simp
              rw [app_own (es := qs.map encQ) (xs := [encQ (newQ n)]) (m := 1) (by simp) (by simp [contentsL, encQ, newQ, encIds, encS]) (by simp) (by simp) rfl (rows_Q qs) (by omega) (by omega) (by simp [roomMax]; omega)]
              simp
              refine AppK.keep ?_
              simp [hsl, hsub]
              exact rd_tu3 (rd_Fs (f := { f with subs := _ }) (rd_subs (qs := f.subs.l ++ [newQ n]) (by simp [hs]) (by simp [hs]))) (.same _ rfl) (.same _ rfl)
  · simp [h1]
    simp only [sub, h1, ne_eq, not_false_eq_true, if_true]
    exact rd_tu3 (hz _) (.same _ rfl) (.same _ rfl)
end Fd
end Go.CM

/-
  Feeds: Take, End.
-/
namespace Go.CM
open Go Go.Proofs
set_option linter.unusedVariables false
set_option linter.unusedSimpArgs false
set_option maxRecDepth 100000
namespace Fd

def zeroId : Id := List.replicate 32 0
structure Taken where
  f : Feed
  kind : Int
  number : Int
  id : Id
  e : Int
def Taken.enc (t : Taken) : CV := .tu [encF t.f, .int .u8 t.kind, .int .i64 t.number, .ag (encId t.id), .int .i64 t.e]
def setQ (f : Feed) (k : Nat) (q : Queue) : Feed := { f with subs := some (f.subs.l.set k q) }
def take (f : Feed) (n : Int) : Taken :=
  if num f n ≠ 0 then ⟨zeroF, 0, 0, zeroId, num f n⟩ else
  match f.subs.l[n.toNat]? with
  | none => ⟨zeroF, 0, 0, zeroId, 38⟩
  | some q => match q.ids.l with
    | x :: r => ⟨setQ f n.toNat { q with next := q.next + 1, ids := some r }, 1, q.next, x, 0⟩
    | [] => if q.lag then ⟨setQ f n.toNat { q with lag := false, en := true }, 2, q.next, zeroId, 0⟩ else ⟨zeroF, 0, 0, zeroId, 38⟩

theorem rd_taken {l : Hl} {f : CV} {k n e : Int} {i : CV} {t : Taken} (h1 : Rd l f (encF t.f)) (h2 : k = t.kind) (h3 : n = t.number) (h4 : i = .ag (encId t.id)) (h5 : e = t.e) : Rd l (.tu [f, .int .u8 k, .int .i64 n, i, .int .i64 e]) t.enc := by
  subst h2 h3 h4 h5
  refine .tu _ _ rfl fun j c c' hc hc' => ?_
  rcases j with _ | _ | _ | _ | _ | j
  · simp at hc hc'; subst hc hc'; exact h1
  · simp at hc hc'; subst hc hc'; exact .same _ rfl
  · simp at hc hc'; subst hc hc'; exact .same _ rfl
  · simp at hc hc'; subst hc hc'; exact .same _ (by simp [CV.closed, encId, closedL_ints])
  · simp at hc hc'; subst hc hc'; exact .same _ rfl
  · simp at hc

theorem zero_id : encId zeroId = [.int .u8 0, .int .u8 0, .int .u8 0, .int .u8 0, .int .u8 0, .int .u8 0, .int .u8 0, .int .u8 0, .int .u8 0, .int .u8 0, .int .u8 0, .int .u8 0, .int .u8 0, .int .u8 0, .int .u8 0, .int .u8 0, .int .u8 0, .int .u8 0, .int .u8 0, .int .u8 0, .int .u8 0, .int .u8 0, .int .u8 0, .int .u8 0, .int .u8 0, .int .u8 0, .int .u8 0, .int .u8 0, .int .u8 0, .int .u8 0, .int .u8 0, .int .u8 0] := rfl

theorem chk_ok {f : Feed} (h : chk f = 0) {q : Queue} (hq : q ∈ f.subs.l) : okQ f q = true ∧ 0 ≤ q.next ∧ q.next ≤ 1000000000 := by
  have h1 : okFs f = true := by
    unfold chk at h
    repeat' split at h
    all_goals first | assumption | (exfalso; omega)
  have h2 : okQ f q = true := by
    unfold okFs at h1
    rw [List.all_eq_true] at h1
    exact h1 q hq
  refine ⟨h2, ?_⟩
  unfold okQ at h2
  repeat' split at h2
  all_goals first | cases h2; done | omega

theorem num_ok {f : Feed} {n : Int} (h : num f n = 0) : chk f = 0 ∧ 0 ≤ n ∧ ∃ q, f.subs.l[n.toNat]? = some q ∧ q.en = false := by
  unfold num at h
  split at h
  · rename_i h1; exact absurd h h1
  rename_i h1
  split at h
  · cases h
  split at h
  · cases h
  split at h
  · rename_i q hq
    split at h
    · cases h
    · rename_i he; exact ⟨by omega, by omega, q, hq, by simpa using he⟩
  · cases h

theorem take_bad {f : Feed} {n : Int} (h : num f n ≠ 0) : take f n = ⟨zeroF, 0, 0, zeroId, num f n⟩ := by unfold take; rw [if_pos h]
theorem take_busy {f : Feed} {k : Nat} {q : Queue} (h : num f k = 0) (hq : f.subs.l[k]? = some q) (hi : q.ids.l = []) (hl : q.lag = false) : take f k = ⟨zeroF, 0, 0, zeroId, 38⟩ := by
  unfold take; rw [if_neg (by simpa using h), Int.toNat_natCast, hq]; simp only [hi, hl]; rfl
theorem take_lag {f : Feed} {k : Nat} {q : Queue} (h : num f k = 0) (hq : f.subs.l[k]? = some q) (hi : q.ids.l = []) (hl : q.lag = true) : take f k = ⟨setQ f k { q with lag := false, en := true }, 2, q.next, zeroId, 0⟩ := by
  unfold take; rw [if_neg (by simpa using h), Int.toNat_natCast, hq]; simp only [hi, hl]; rfl
theorem take_id {f : Feed} {k : Nat} {q : Queue} {x : Id} {r : List Id} (h : num f k = 0) (hq : f.subs.l[k]? = some q) (hi : q.ids.l = x :: r) : take f k = ⟨setQ f k { q with next := q.next + 1, ids := some r }, 1, q.next, x, 0⟩ := by
  unfold take; rw [if_neg (by simpa using h), Int.toNat_natCast, hq]; simp only [hi]

set_option maxHeartbeats 4000000 in
theorem take_ok (f : Feed) (n : Int) (hf : okF f) : PureC Try.prog G0 10 [encF f, .int .i64 n] (take f n).enc := by
  refine pure_of Try.checked.mixed G0_closed ?_
  apply call_intro c10_eq r10_eq
  unfold c10 r10
  simp [encF]
  refine pure_call (checkN_ok f n hf.2) (show closedL [encF f, .int .i64 n] = true by simp [closedL, closed_F, CV.closed]) ?_
  have hz : ∀ l, Rd l (.ag [.int .i64 0, .int .i64 0, .nilS]) (encF zeroF) := fun l => .same _ (closed_F zeroF)
  simp
  by_cases h1 : num f n = 0
  · obtain ⟨hc, hn, q, hq, he⟩ := num_ok h1
    have hk : n.toNat < f.subs.l.length := (List.getElem?_eq_some_iff.1 hq).1
    have hqm := List.mem_of_getElem? hq
    obtain ⟨_, hq1, hq2⟩ := chk_ok hc hqm
    simp [h1]
    refine twin_own f hf (fun hs x y => ?_) (fun qs hs x y => ?_)
    · rw [hs] at hk; simp at hk
    · have hqs : f.subs.l = qs := by rw [hs]; rfl
      rw [hqs] at hq hk hqm
      have hnl : n < qs.length := by omega
      obtain ⟨k, rfl⟩ : ∃ k : Nat, n = k := ⟨n.toNat, by omega⟩
      simp only [Int.toNat_natCast] at hq hk
      obtain ⟨c0, c1, c2, c3, _⟩ := cells_Q hq
      have hle : k * 4 + 4 ≤ qs.length * 4 := by omega
      have hw : IntKind.i64.wrap (q.next + 1) = q.next + 1 := wrap_i64 (by omega) (by omega)
      have b0 : k * 4 + 1 ≤ qs.length * 4 := by omega
      have b1 : k * 4 + 1 + 1 ≤ qs.length * 4 := by omega
      have b2 : k * 4 + 2 + 1 ≤ qs.length * 4 := by omega
      have b3 : k * 4 + 3 + 1 ≤ qs.length * 4 := by omega
      have hlen : lenM (.sl 32) (encIds q.ids) = some (.int .i64 q.ids.l.length) := len_encS _
      have hq' : f.subs.l[k]? = some q := by rw [hqs]; exact hq
      simp [hnl, c0, c1]
      cases hids : q.ids.l with
      | nil =>
        cases hl : q.lag
        · simp [hlen, hids, hl, c2]
          rw [take_busy h1 hq' hids hl]
          exact rd_taken (hz _) rfl rfl rfl rfl
        · simp [hlen, hids, hl, c2]
          refine ⟨b2, b3, ?_⟩
          rw [splice_Q hq 2 [.bool false] { q with lag := false } (by simp) (by simp [encQ]), splice_Q (get_set hq) 3 [.bool true] { q with lag := false, en := true } (by simp) (by simp [encQ]), List.set_set]
          rw [take_lag h1 hq' hids hl]
          exact rd_taken (rd_Fs (f := setQ f k { q with lag := false, en := true }) (rd_subs (qs := f.subs.l.set k { q with lag := false, en := true }) (by simp [hqs]) (by simp [hqs]))) rfl rfl rfl rfl
      | cons x0 r =>
        obtain ⟨xs, hxs⟩ : ∃ xs, q.ids = some xs := by cases h : q.ids with | none => rw [h] at hids; cases hids | some xs => exact ⟨xs, rfl⟩
        have hx2 : xs = x0 :: r := by rw [hxs] at hids; exact hids
        subst hx2
        have hx0 : x0.length = 32 := (hf.1 q (by rw [hqs]; exact hqm)).1 x0 (by rw [hids]; simp)
        have hia : iaC (.sl 32) (encIds (some (x0 :: r))) (.int .i64 0) = some (.rptr (encId x0) 0) := by simp [encIds, ia_encS]
        have hsl : sliceM (.sl 32) (encIds (some (x0 :: r))) (some (.int .i64 1)) none none = some (encIds (some r)) := by
          unfold encIds; rw [slice_from (by omega) (by simp; omega)]; rfl
        have hci : ∀ s, (encIds s).cells = some [encIds s] := fun s => cells_encS _
        rw [hxs] at hlen c1
        simp at hlen
        have hpos : (0 : Int) < (r.length : Int) + 1 := by omega
        simp [hlen, hids, hxs, hia, hsl, hci, c1, b1, hpos, id_len hx0, List.take_of_length_le]
        rw [splice_Q hq 1 [encIds (some r)] { q with ids := some r } (by simp) (by simp [encQ])]
        obtain ⟨d0, d1, d2, d3, _⟩ := cells_Q (get_set (y := { q with ids := some r }) hq)
        have hsf := splice_full (cs := encId zeroId) (vs := encId x0) (by rw [id_len hx0]; rfl)
        rw [zero_id] at hsf
        have hsf2 := splice_full (cs := encId x0) (vs := encId x0) rfl
        have hs0 := splice_Q (get_set (y := { q with ids := some r }) hq) 0 [.int .i64 (q.next + 1)] { q with next := q.next + 1, ids := some r } (by simp) (by simp [encQ])
        rw [List.set_set, Nat.add_zero] at hs0
        simp [d0, hw, b0, id_len hx0, hsf, hsf2, hs0, List.take_of_length_le, -List.map_set]
        rw [take_id h1 hq' hids]
        exact rd_taken (rd_Fs (f := setQ f k { q with next := q.next + 1, ids := some r }) (rd_subs (qs := f.subs.l.set k { q with next := q.next + 1, ids := some r }) (by simp [hqs]) (by simp [hqs]))) rfl rfl rfl rfl
  · simp [h1]
    rw [take_bad h1]
    exact rd_taken (hz _) rfl rfl rfl rfl
end Fd
end Go.CM

/-
  Feeds: End; the reference's copy.
-/
namespace Go.CM
open Go Go.Proofs
set_option linter.unusedVariables false
set_option linter.unusedSimpArgs false
set_option maxRecDepth 100000
namespace Fd

def endQ (q : Queue) : Queue := { q with ids := none, lag := false, en := true }
def endF (f : Feed) (n : Int) : Feed × Int :=
  if num f n ≠ 0 then (zeroF, num f n) else match f.subs.l[n.toNat]? with
  | none => (zeroF, 0)
  | some q => (setQ f n.toNat (endQ q), 0)
theorem end_bad {f : Feed} {n : Int} (h : num f n ≠ 0) : endF f n = (zeroF, num f n) := by unfold endF; rw [if_pos h]
theorem end_good {f : Feed} {k : Nat} {q : Queue} (h : num f k = 0) (hq : f.subs.l[k]? = some q) : endF f k = (setQ f k (endQ q), 0) := by
  unfold endF; rw [if_neg (by simpa using h), Int.toNat_natCast, hq]

/-- The reference's copy: nothing is nil but an empty list of queues. -/
def twQ (q : Queue) : Queue := { q with ids := some q.ids.l }
def twF (f : Feed) : Feed := { f with subs := if f.subs.l = [] then none else some (f.subs.l.map twQ) }

theorem rows_take {l : List Queue} {k : Nat} {q : Queue} (hq : l[k]? = some q) : ((l.take (k + 1)).map twQ).map encQ = ((l.take k).map twQ).map encQ ++ [encQ (twQ q)] := by
  rw [List.take_add_one, hq]; simp

end Fd
end Go.CM

/-
  Feeds: the reference's Subscribe, Take, End.
-/
namespace Go.CM
open Go Go.Proofs
set_option linter.unusedVariables false
set_option linter.unusedSimpArgs false
set_option maxRecDepth 100000
namespace Fd

def rsub (f : Feed) (from_ : Int) : Feed × Int × Int :=
  if chk f ≠ 0 then (zeroF, 0, chk f) else if from_ < f.ver then (zeroF, 0, 2) else if 1000000000 < from_ then (zeroF, 0, 2)
  else if (f.subs.l.length : Int) = 60 then (zeroF, 0, 18) else if (f.live : Int) = 4 then (zeroF, 0, 18)
  else ({ f with subs := some (f.subs.l.map twQ ++ [newQ from_]) }, f.subs.l.length, 0)

def rsetQ (f : Feed) (k : Nat) (q : Queue) : Feed := { f with subs := some ((f.subs.l.map twQ).set k q) }
def rtake (f : Feed) (n : Int) : Taken :=
  if num f n ≠ 0 then ⟨zeroF, 0, 0, zeroId, num f n⟩ else
  match f.subs.l[n.toNat]? with
  | none => ⟨zeroF, 0, 0, zeroId, 38⟩
  | some q => match q.ids.l with
    | x :: r => ⟨rsetQ f n.toNat { q with next := q.next + 1, ids := some r }, 1, q.next, x, 0⟩
    | [] => if q.lag then ⟨rsetQ f n.toNat { q with ids := some [], lag := false, en := true }, 2, q.next, zeroId, 0⟩ else ⟨zeroF, 0, 0, zeroId, 38⟩
theorem rtake_bad {f : Feed} {n : Int} (h : num f n ≠ 0) : rtake f n = ⟨zeroF, 0, 0, zeroId, num f n⟩ := by unfold rtake; rw [if_pos h]
theorem rtake_busy {f : Feed} {k : Nat} {q : Queue} (h : num f k = 0) (hq : f.subs.l[k]? = some q) (hi : q.ids.l = []) (hl : q.lag = false) : rtake f k = ⟨zeroF, 0, 0, zeroId, 38⟩ := by
  unfold rtake; rw [if_neg (by simpa using h), Int.toNat_natCast, hq]; simp only [hi, hl]; rfl
theorem rtake_lag {f : Feed} {k : Nat} {q : Queue} (h : num f k = 0) (hq : f.subs.l[k]? = some q) (hi : q.ids.l = []) (hl : q.lag = true) : rtake f k = ⟨rsetQ f k { q with ids := some [], lag := false, en := true }, 2, q.next, zeroId, 0⟩ := by
  unfold rtake; rw [if_neg (by simpa using h), Int.toNat_natCast, hq]; simp only [hi, hl]; rfl
theorem rtake_id {f : Feed} {k : Nat} {q : Queue} {x : Id} {r : List Id} (h : num f k = 0) (hq : f.subs.l[k]? = some q) (hi : q.ids.l = x :: r) : rtake f k = ⟨rsetQ f k { q with next := q.next + 1, ids := some r }, 1, q.next, x, 0⟩ := by
  unfold rtake; rw [if_neg (by simpa using h), Int.toNat_natCast, hq]; simp only [hi]

def rendF (f : Feed) (n : Int) : Feed × Int :=
  if num f n ≠ 0 then (zeroF, num f n) else match f.subs.l[n.toNat]? with
  | none => (zeroF, 0)
  | some q => (rsetQ f n.toNat (endQ q), 0)
theorem rend_bad {f : Feed} {n : Int} (h : num f n ≠ 0) : rendF f n = (zeroF, num f n) := by unfold rendF; rw [if_pos h]
theorem rend_good {f : Feed} {k : Nat} {q : Queue} (h : num f k = 0) (hq : f.subs.l[k]? = some q) : rendF f k = (rsetQ f k (endQ q), 0) := by
  unfold rendF; rw [if_neg (by simpa using h), Int.toNat_natCast, hq]

end Fd
end Go.CM

/-
  Feeds: queues whose lists of ids are each of one's own.
-/
namespace Go.CM
open Go Go.Proofs
set_option linter.unusedVariables false
set_option linter.unusedSimpArgs false
set_option maxRecDepth 100000
namespace Fd

/-- A list of ids of one's own, in a heap that stands behind 'c' other blocks. -/
def ownIds (c : Nat) (r : Hl) (v : CV) (s : Sv Id) : Prop := match s with
  | none => v = .nilS
  | some xs => v = encIds (some xs) ∨ ∃ b, v = .sl 32 (b + c) 0 xs.length xs.length (xs.length * 32) ∧ r[b]? = some (.cells (xs.length * 32) (xs.map encId).flatten)
/-- Not a list that is read by value. -/
def isOwn : CV → Prop
  | .nilS => True
  | .sl .. => True
  | _ => False
def blkOf : CV → Option Nat
  | .sl _ b _ _ _ _ => some b
  | _ => none
def rowQ (v : CV) (q : Queue) : List CV := [.int .i64 q.next, v, .bool q.lag, .bool q.en]
def rowsQ (vs : List CV) (qs : List Queue) : List (List CV) := List.zipWith rowQ vs qs

theorem rowsQ_len (vs : List CV) (qs : List Queue) (h : vs.length = qs.length) : (rowsQ vs qs).length = qs.length := by simp [rowsQ, h]
theorem rowsQ_4 (vs : List CV) (qs : List Queue) : ∀ e ∈ rowsQ vs qs, e.length = 4 := fun e he => by
  obtain ⟨i, hi⟩ := List.getElem?_of_mem he
  simp only [rowsQ, List.getElem?_zipWith] at hi
  split at hi
  · cases hi; rfl
  · cases hi
theorem rowsQ_get {vs : List CV} {qs : List Queue} {i : Nat} {v : CV} {q : Queue} (hv : vs[i]? = some v) (hq : qs[i]? = some q) : (rowsQ vs qs)[i]? = some (rowQ v q) := by
  simp [rowsQ, List.getElem?_zipWith, hv, hq]
theorem rowsQ_set {vs : List CV} {qs : List Queue} {i : Nat} (v : CV) (q : Queue) : (rowsQ vs qs).set i (rowQ v q) = rowsQ (vs.set i v) (qs.set i q) := by
  apply List.ext_getElem?
  intro j
  simp only [rowsQ, List.getElem?_set, List.getElem?_zipWith, List.length_zipWith]
  by_cases hij : i = j
  · subst hij
    simp only [if_true]
    by_cases h1 : i < vs.length <;> by_cases h2 : i < qs.length <;> simp [h1, h2] <;> omega
  · simp [hij]
theorem rowsQ_cells {vs : List CV} {qs : List Queue} {i : Nat} {v : CV} {q : Queue} (hv : vs[i]? = some v) (hq : qs[i]? = some q) :
    (rowsQ vs qs).flatten[i * 4]? = some (.int .i64 q.next) ∧ (rowsQ vs qs).flatten[i * 4 + 1]? = some v ∧ (rowsQ vs qs).flatten[i * 4 + 2]? = some (.bool q.lag) ∧ (rowsQ vs qs).flatten[i * 4 + 3]? = some (.bool q.en) ∧
    ((rowsQ vs qs).flatten.drop (i * 4)).take 4 = rowQ v q := by
  have hrow := rowsQ_get hv hq
  have h4 := rowsQ_4 vs qs
  exact ⟨flat_get h4 hrow (j := 0) (by omega), flat_get h4 hrow (j := 1) (by omega), flat_get h4 hrow (j := 2) (by omega), flat_get h4 hrow (j := 3) (by omega), flat_row h4 hrow⟩
theorem rowsQ_splice {vs : List CV} {qs : List Queue} {i : Nat} {v : CV} {q : Queue} (hv : vs[i]? = some v) (hq : qs[i]? = some q) (j : Nat) (ws : List CV) (v' : CV) (q' : Queue) (hj : j + ws.length ≤ 4) (h : splice (rowQ v q) j ws = rowQ v' q') :
    splice (rowsQ vs qs).flatten (i * 4 + j) ws = (rowsQ (vs.set i v') (qs.set i q')).flatten := by
  rw [flat_splice (rowsQ_4 vs qs) (rowsQ_get hv hq) (by omega), h, rowsQ_set]
theorem rowsQ_flat {vs : List CV} {qs : List Queue} (h : vs.length = qs.length) : (rowsQ vs qs).flatten.length = qs.length * 4 := by
  rw [flat_len (rowsQ_4 vs qs), rowsQ_len vs qs h]

/-- Queues in block s, their lists each in a block of its own, none of them among the blocks T. -/
structure Nest (c : Nat) (r : Hl) (T : List Nat) (s : Nat) (vs : List CV) (qs : List Queue) : Prop where
  len : vs.length = qs.length
  row : r[s]? = some (.cells (qs.length * 4) (rowsQ vs qs).flatten)
  own : ∀ (i : Nat) (v : CV) (q : Queue), vs[i]? = some v → qs[i]? = some q → ownIds c r v q.ids
  far : ∀ (i : Nat) (v : CV) (b : Nat), vs[i]? = some v → blkOf v = some b → b ≠ s + c ∧ ∀ t ∈ T, b ≠ t + c
  apart : ∀ (i j : Nat) (v v' : CV) (b : Nat), i ≠ j → vs[i]? = some v → vs[j]? = some v' → blkOf v = some b → blkOf v' ≠ some b
  ts : s ∉ T

theorem ownIds.keep {c : Nat} {r r' : Hl} {v : CV} {x : Sv Id} (h : ownIds c r v x) (hk : ∀ b, blkOf v = some (b + c) → r'[b]? = r[b]?) : ownIds c r' v x := by
  cases x with
  | none => exact h
  | some xs =>
    rcases h with h | ⟨b, rfl, hb⟩
    · exact .inl h
    · exact .inr ⟨b, rfl, by rw [hk b rfl]; exact hb⟩
theorem ownIds.blk {c : Nat} {r : Hl} {v : CV} {x : Sv Id} (h : ownIds c r v x) {b : Nat} (hb : blkOf v = some b) : ∃ b', b = b' + c ∧ b' < r.length := by
  cases x with
  | none => rw [h] at hb; cases hb
  | some xs =>
    rcases h with h | ⟨b', rfl, h2⟩
    · rw [h] at hb; cases hb
    · cases hb
      exact ⟨b', rfl, get_lt h2⟩

/-- The blocks other than those of the queues may do what they want. -/
theorem Nest.keep {c : Nat} {r r' : Hl} {T : List Nat} {s : Nat} {vs : List CV} {qs : List Queue} (N : Nest c r T s vs qs) (hk : ∀ b, b < r.length → b ∉ T → r'[b]? = r[b]?) : Nest c r' T s vs qs := by
  refine ⟨N.len, ?_, fun i v q hv hq => (N.own i v q hv hq).keep fun b hb => ?_, N.far, N.apart, N.ts⟩
  · rw [hk s (get_lt N.row) N.ts]; exact N.row
  · obtain ⟨b', h1, h2⟩ := (N.own i v q hv hq).blk hb
    obtain rfl : b' = b := by omega
    exact hk b' h2 (fun h => (N.far i v _ hv hb).2 b' h rfl)

/-- Other blocks are named. -/
theorem Nest.to {c : Nat} {r : Hl} {T T' : List Nat} {s : Nat} {vs : List CV} {qs : List Queue} (N : Nest c r T s vs qs) (h : ∀ t ∈ T', t ∈ T ∨ r.length ≤ t) : Nest c r T' s vs qs := by
  refine ⟨N.len, N.row, N.own, fun i v b hv hb => ⟨(N.far i v b hv hb).1, fun t ht => ?_⟩, N.apart, fun ht => ?_⟩
  · rcases h t ht with h1 | h1
    · exact (N.far i v b hv hb).2 t h1
    · obtain ⟨q, hq⟩ : ∃ q, qs[i]? = some q := ⟨qs[i]'(by rw [← N.len]; exact (List.getElem?_eq_some_iff.1 hv).1), List.getElem?_eq_getElem _⟩
      obtain ⟨b', h2, h3⟩ := (N.own i v q hv hq).blk hb
      omega
  · rcases h s ht with h1 | h1
    · exact N.ts h1
    · have := get_lt N.row; omega

/-- One queue is turned. -/
theorem Nest.upd {c : Nat} {r r' : Hl} {T : List Nat} {s : Nat} {vs : List CV} {qs : List Queue} (N : Nest c r T s vs qs) {i : Nat} {v : CV} {q : Queue} (hv : vs[i]? = some v) (hq : qs[i]? = some q) {v' : CV} {q' : Queue}
    (hrow : r'[s]? = some (.cells (qs.length * 4) (rowsQ (vs.set i v') (qs.set i q')).flatten))
    (hk : ∀ b, b < r.length → b ≠ s → blkOf v ≠ some (b + c) → r'[b]? = r[b]?)
    (hown : ownIds c r' v' q'.ids) (hb : ∀ b, blkOf v' = some b → blkOf v = some b ∨ (r.length + c ≤ b ∧ b ≠ s + c ∧ ∀ t ∈ T, b ≠ t + c)) : Nest c r' T s (vs.set i v') (qs.set i q') := by
  have hi : i < vs.length := (List.getElem?_eq_some_iff.1 hv).1
  have hiq : i < qs.length := (List.getElem?_eq_some_iff.1 hq).1
  have fv : ∀ b, blkOf v' = some b → b ≠ s + c ∧ ∀ t ∈ T, b ≠ t + c := fun b h => by
    rcases hb b h with h1 | h1
    · exact N.far i v b hv h1
    · exact h1.2
  refine ⟨by simp [N.len], by simpa using hrow, fun j w p hw hp => ?_, fun j w b hw hbw => ?_, fun j k w w' b hjk hw hw' hbw => ?_, N.ts⟩
  · by_cases hij : i = j
    · subst hij
      rw [List.getElem?_set, if_pos rfl, if_pos hi] at hw
      rw [List.getElem?_set, if_pos rfl, if_pos hiq] at hp
      cases hw; cases hp; exact hown
    · rw [List.getElem?_set, if_neg hij] at hw hp
      have ho := N.own j w p hw hp
      refine ho.keep fun b hbw => ?_
      obtain ⟨b', h1, h2⟩ := ho.blk hbw
      obtain rfl : b' = b := by omega
      exact hk b' h2 (fun h => (N.far j w _ hw hbw).1 (by rw [h])) (fun h => N.apart i j v w _ hij hv hw h hbw)
  · by_cases hij : i = j
    · subst hij
      rw [List.getElem?_set, if_pos rfl, if_pos hi] at hw
      cases hw; exact fv b hbw
    · rw [List.getElem?_set, if_neg hij] at hw
      exact N.far j w b hw hbw
  · by_cases hij : i = j
    · subst hij
      rw [List.getElem?_set, if_pos rfl, if_pos hi] at hw
      rw [List.getElem?_set, if_neg hjk] at hw'
      cases hw
      intro hbw'
      rcases hb b hbw with h1 | ⟨h1, _⟩
      · exact N.apart i k v w' b hjk hv hw' h1 hbw'
      · obtain ⟨p, hp⟩ : ∃ p, qs[k]? = some p := ⟨qs[k]'(by rw [← N.len]; exact (List.getElem?_eq_some_iff.1 hw').1), List.getElem?_eq_getElem _⟩
        obtain ⟨b', h2, h3⟩ := (N.own k w' p hw' hp).blk hbw'
        omega
    · rw [List.getElem?_set, if_neg hij] at hw
      by_cases hik : i = k
      · subst hik
        rw [List.getElem?_set, if_pos rfl, if_pos hi] at hw'
        cases hw'
        intro hbw'
        rcases hb b hbw' with h1 | ⟨h1, _⟩
        · exact N.apart j i w v b hjk hw hv hbw h1
        · obtain ⟨p, hp⟩ : ∃ p, qs[j]? = some p := ⟨qs[j]'(by rw [← N.len]; exact (List.getElem?_eq_some_iff.1 hw).1), List.getElem?_eq_getElem _⟩
          obtain ⟨b', h2, h3⟩ := (N.own j w p hw hp).blk hbw
          omega
      · rw [List.getElem?_set, if_neg hik] at hw'
        exact N.apart j k w w' b hjk hw hw' hbw

/-- What they read as. -/
theorem ownIds.rd {c : Nat} {L r : Hl} (hc : L.length = c) {v : CV} {x : Sv Id} (h : ownIds c r v x) (hx : okIds x) : Rd (L ++ r) v (encIds x) := by
  cases x with
  | none => rw [h]; exact .same _ rfl
  | some xs =>
    rcases h with h | ⟨b, rfl, hb⟩
    · rw [h]; exact .same _ (closed_ids _)
    refine rd_rows (rest := []) ?_ (by simp) (fun e he => ?_) ?_
    · rw [List.append_nil, List.getElem?_append_right (by omega), show b + c - L.length = b by omega]; exact hb
    · obtain ⟨y, hy, rfl⟩ := List.mem_map.1 he; exact id_len (hx y hy)
    · have := closed_ids (some xs); simpa [encIds, encS, CV.closed] using this
theorem Nest.rd {c : Nat} {L r : Hl} (hc : L.length = c) {T : List Nat} {s : Nat} {vs : List CV} {qs : List Queue} (N : Nest c r T s vs qs) (hx : ∀ q ∈ qs, okIds q.ids) (cap sz : Nat) (hsz : sz = qs.length * 4) : Rd (L ++ r) (.sl 4 (s + c) 0 qs.length cap sz) (encSubs (some qs)) := by
  subst hsz
  refine .sl 4 (s + c) 0 qs.length cap _ (rowsQ vs qs).flatten _ ?_ (by simp) (rows_Q qs) (by rw [rowsQ_flat N.len]; omega) (fun i j e x x' he hj hxx => ?_)
  · rw [List.getElem?_append_right (by omega), show s + c - L.length = s by omega]; exact N.row
  · rw [List.getElem?_map] at he
    cases hq : qs[i]? with
    | none => rw [hq] at he; cases he
    | some q =>
      rw [hq] at he
      cases he
      have hi : i < vs.length := by rw [N.len]; exact (List.getElem?_eq_some_iff.1 hq).1
      obtain ⟨v, hv⟩ : ∃ v, vs[i]? = some v := ⟨vs[i], List.getElem?_eq_getElem hi⟩
      have hj4 : j < 4 := (List.getElem?_eq_some_iff.1 hj).1
      rw [Nat.zero_add, flat_get (rowsQ_4 vs qs) (rowsQ_get hv hq) hj4] at hxx
      rcases j with _ | _ | _ | _ | j
      · simp [rowQ, encQ] at hxx hj; subst hxx hj; exact .same _ rfl
      · simp [rowQ, encQ] at hxx hj; subst hxx hj; exact (N.own i v q hv hq).rd hc (hx q (List.mem_of_getElem? hq))
      · simp [rowQ, encQ] at hxx hj; subst hxx hj; exact .same _ rfl
      · simp [rowQ, encQ] at hxx hj; subst hxx hj; exact .same _ rfl
      · omega
end Fd
end Go.CM

/-
  Feeds: copies with lists of one's own.
-/
namespace Go.CM
open Go Go.Proofs
set_option linter.unusedVariables false
set_option linter.unusedSimpArgs false
set_option maxRecDepth 100000
namespace Fd

set_option maxHeartbeats 1000000 in
theorem cloneIds_own (s : Sv Id) (hl : s.l.length ≤ 1000000) {l : Hl} {K : CV → Hl → Prop} (h0 : s = none → K .nilS l)
    (h1 : ∀ xs, s = some xs → K (.sl 32 l.length 0 xs.length xs.length (xs.length * 32)) (l ++ [.cells (xs.length * 32) (xs.map encId).flatten])) : CallP Try.prog G0 18 [encIds s] l (c := ⟨K⟩) := by
  apply call_intro c18_eq r18_eq
  unfold c18 r18
  simp [ids_nil]
  cases s with
  | none => simp; exact h0 rfl
  | some xs =>
    have hxs : xs.length ≤ 1000000 := hl
    simp
    rw [app_fresh (m := xs.length) (xs := xs.map encId) (by simp) (by simp [encIds]) (by simp) (by omega) (by omega) (by simp [roomMax]; omega)]
    simp
    refine AppK.keep ?_
    simp
    exact h1 xs rfl

theorem cellsI_own {c : Nat} {r : Hl} {v : CV} {s : Sv Id} (h : ownIds c r v s) : v.cells = some [v] := by
  cases s with
  | none => rw [h]; rfl
  | some xs =>
    rcases h with h | ⟨b, rfl, hb⟩
    · rw [h]; rfl
    · rfl

theorem gA {α : Type} (l r : List α) (i : Nat) : (l ++ r)[l.length + i]? = r[i]? := by
  rw [List.getElem?_append_right (by omega)]; congr 1; omega
theorem sA {α : Type} (l r : List α) (i : Nat) (x : α) : (l ++ r).set (l.length + i) x = l ++ r.set i x := by
  rw [List.set_append_right _ _ (by omega)]; congr 2; omega
theorem lt_get {α : Type} {l : List α} {i : Nat} {x : α} (h : l[i]? = some x) : i < l.length := (List.getElem?_eq_some_iff.1 h).1
theorem set_selfT {α : Type} {l : List α} {i : Nat} {x : α} (h : l[i]? = some x) : l.set i x = l := by
  apply List.ext_getElem?
  intro j
  rw [List.getElem?_set]
  by_cases hj : i = j
  · subst hj; rw [if_pos rfl, if_pos (lt_get h), h]
  · rw [if_neg hj]
theorem wOwn {r : Hl} {c : Nat} {v : CV} {s : Sv Id} (h : ownIds c r v s) {r' : Hl} (hk : ∀ b, b < r.length → r'[b]? = r[b]?) : ownIds c r' v s :=
  h.keep fun b hb => by
    obtain ⟨b', h1, h2⟩ := h.blk hb
    obtain rfl : b' = b := by omega
    exact hk b' h2
theorem Nest.cons2 {c : Nat} {r : Hl} {s : Nat} {vs : List CV} {qs : List Queue} (N : Nest (c + 2) r [] s vs qs) (a b : CB) : Nest c (a :: b :: r) [] (s + 2) vs qs := by
  refine ⟨N.len, N.row, fun i v q hv hq => ?_, fun i v b hv hb => ⟨?_, fun t ht => by cases ht⟩, N.apart, by simp⟩
  · have h := N.own i v q hv hq
    revert h
    cases q.ids with
    | none => exact id
    | some xs =>
      rintro (h | ⟨b', rfl, hb⟩)
      · exact .inl h
      · exact .inr ⟨b' + 2, by rw [show b' + 2 + c = b' + (c + 2) by omega], hb⟩
  · have := (N.far i v b hv hb).1
    omega
theorem nest_start {c : Nat} (qs : List Queue) : Nest c [.cells (qs.length * 4) (qs.map encQ).flatten] [] 0 (qs.map fun q => encIds q.ids) qs := by
  refine ⟨by simp, ?_, fun i v q hv hq => ?_, fun i v b hv hb => ?_, fun i j v v' b hij hv hv' hb => ?_, by simp⟩
  · have : rowsQ (qs.map fun q => encIds q.ids) qs = qs.map encQ := by
      unfold rowsQ
      rw [List.zipWith_map_left, List.zipWith_self]
      rfl
    rw [this]; rfl
  · rw [List.getElem?_map, hq] at hv
    cases hv
    dsimp only
    unfold ownIds
    split
    · rename_i h; rw [h]; rfl
    · rename_i h; rw [h]; exact .inl rfl
  · rw [List.getElem?_map] at hv
    cases hq : qs[i]? with
    | none => rw [hq] at hv; cases hv
    | some q =>
      rw [hq] at hv; cases hv
      dsimp only at hb
      cases h : q.ids <;> rw [h] at hb <;> cases hb
  · rw [List.getElem?_map] at hv
    cases hq : qs[i]? with
    | none => rw [hq] at hv; cases hv
    | some q =>
      rw [hq] at hv; cases hv
      dsimp only at hb
      cases h : q.ids <;> rw [h] at hb <;> cases hb

set_option maxHeartbeats 4000000 in
theorem twin_nest (f : Feed) (hf : okF f) {l : Hl} {K : CV → Hl → Prop} (h0 : f.subs = none → ∀ x y, K (.ag [.int .i64 f.cap, .int .i64 f.ver, .nilS]) (l ++ [x, y]))
    (h1 : ∀ qs, f.subs = some qs → ∀ (rest : Hl) (s : Nat) (vs : List CV), Nest l.length rest [] s vs qs → (∀ v ∈ vs, isOwn v) → K (.ag [.int .i64 f.cap, .int .i64 f.ver, .sl 4 (s + l.length) 0 qs.length qs.length (qs.length * 4)]) (l ++ rest)) :
    CallP Try.prog G0 14 [encF f] l (c := ⟨K⟩) := by
  apply call_intro c14_eq r14_eq
  unfold c14 r14
  simp [encF]
  refine cloneQ_own f.subs hf.2 (fun hn => ?_) (fun qs hs => ?_)
  · simp
    refine loop_up 0 (fun k σ l' => σ 1 = .ptr l.length 0 3 ∧ σ 2 = .ptr (l.length + 1) 0 3 ∧ σ 10 = .int .i64 0 ∧ σ 11 = .int .i64 k ∧
      l' = l ++ [.cells 3 [.int .i64 f.cap, .int .i64 f.ver, .nilS], .cells 3 [.int .i64 0, .int .i64 0, .nilS]]) ?_ (by simp)
    rintro k σ l' hk ⟨g1, g2, g10, g11, rfl⟩
    obtain rfl : k = 0 := by omega
    obtain ⟨s, rfl⟩ := upds4 g1 g2 g10 g11
    clear g1 g2 g10 g11
    unfold l14_0
    simp
    exact h0 hn _ _
  · simp
    have hq1 : qs.length ≤ 1000000 := by have := hf.2; rw [hs] at this; exact this
    refine loop_up qs.length (fun k σ l' => σ 1 = .ptr l.length 0 3 ∧ σ 2 = .ptr (l.length + 1) 0 3 ∧ σ 10 = .int .i64 qs.length ∧ σ 11 = .int .i64 k ∧
      ∃ r vs, l' = l ++ (.cells 3 [.int .i64 f.cap, .int .i64 f.ver, .sl 4 (l.length + 2) 0 qs.length qs.length (qs.length * 4)] :: .cells 3 [.int .i64 0, .int .i64 0, .nilS] :: r) ∧
        Nest (l.length + 2) r [] 0 vs qs ∧ ∀ i v q, vs[i]? = some v → qs[i]? = some q → if i < k then isOwn v else v = encIds q.ids) ?_ ?_
    · rintro k σ l' hk ⟨g1, g2, g10, g11, r, vs, rfl, N, hvs⟩
      obtain ⟨s, rfl⟩ := upds4 g1 g2 g10 g11
      clear g1 g2 g10 g11
      unfold l14_0
      simp
      by_cases h : k < qs.length
      · obtain ⟨q, hq, hqm⟩ := get_of h
        obtain ⟨v, hv⟩ : ∃ v, vs[k]? = some v := ⟨vs[k]'(by rw [N.len]; exact h), List.getElem?_eq_getElem _⟩
        have hve : v = encIds q.ids := by simpa using hvs k v q hv hq
        subst hve
        obtain ⟨_, d1, _, _, _⟩ := rowsQ_cells hv hq
        have hrow := N.row
        have hqq := hf.1 q (by rw [hs]; exact hqm)
        have hwk : IntKind.i64.wrap ((k : Int) + 1) = k + 1 := wrap_i64 (by omega) (by omega)
        have hle : k * 4 + 1 + 1 ≤ qs.length * 4 := by omega
        have hr0 := get_lt hrow
        have hrr : ∀ X : CB, (r ++ [X])[0]? = some (.cells (qs.length * 4) (rowsQ vs qs).flatten) := fun X => by rw [List.getElem?_append_left hr0]; exact hrow
        have hrr0 : ∀ (X : CB) (h : 0 < (r ++ [X]).length), (r ++ [X])[0] = .cells (qs.length * 4) (rowsQ vs qs).flatten := fun X h => by
          have := hrr X; rw [List.getElem?_eq_getElem h] at this; exact Option.some.inj this
        simp [h, hrow, d1, gA]
        have own' : ∀ (v' : CV) (i : Nat) (w : CV) (p : Queue), isOwn v' → (vs.set k v')[i]? = some w → qs[i]? = some p → if i < k + 1 then isOwn w else w = encIds p.ids := by
          intro v' i w p ho hw hp
          by_cases hik : k = i
          · subst hik
            rw [List.getElem?_set, if_pos rfl, if_pos (lt_get hv)] at hw
            cases hw
            rw [if_pos (by omega)]; exact ho
          · rw [List.getElem?_set, if_neg hik] at hw
            have := hvs i w p hw hp
            by_cases h2 : i < k
            · rw [if_pos h2] at this; rw [if_pos (by omega)]; exact this
            · rw [if_neg h2] at this; rw [if_neg (by omega)]; exact this
        have hsetq : qs.set k q = qs := set_selfT hq
        refine cloneIds_own q.ids hqq.2 (fun hn => ?_) (fun xs hx => ?_)
        · have hsp := rowsQ_splice hv hq 1 [.nilS] .nilS q (by simp) (by simp [rowQ])
          rw [hsetq] at hsp
          simp [h, hrow, d1, gA, sA, CV.cells, hle, hwk, hsp]
          refine ⟨vs.set k .nilS, ?_, fun i w p => own' .nilS i w p trivial⟩
          have := N.upd hv hq (v' := .nilS) (q' := q) (r' := r.set 0 (CB.cells (qs.length * 4) (rowsQ (vs.set k CV.nilS) qs).flatten)) (by rw [hsetq, List.getElem?_set, if_pos rfl, if_pos hr0]) (fun b hb hb0 _ => by rw [List.getElem?_set, if_neg (fun h => hb0 h.symm)]) (by rw [hn]; rfl) (fun b hb => by cases hb)
          rwa [hsetq] at this
        · have hsp := rowsQ_splice hv hq 1 [.sl 32 (l.length + (r.length + 1 + 1)) 0 xs.length xs.length (xs.length * 32)] (.sl 32 (l.length + (r.length + 1 + 1)) 0 xs.length xs.length (xs.length * 32)) q (by simp) (by simp [rowQ])
          rw [hsetq] at hsp
          simp [h, hrow, d1, gA, sA, CV.cells, hle, hwk, hsp, hrr, hrr0]
          refine ⟨_, ?_, fun i w p => own' (.sl 32 (l.length + (r.length + 1 + 1)) 0 xs.length xs.length (xs.length * 32)) i w p trivial⟩
          have := N.upd hv hq (v' := .sl 32 (l.length + (r.length + 1 + 1)) 0 xs.length xs.length (xs.length * 32)) (q' := q) (r' := (r ++ [CB.cells (xs.length * 32) (List.map encId xs).flatten]).set 0
            (CB.cells (qs.length * 4) (rowsQ (vs.set k (CV.sl 32 (l.length + (r.length + 1 + 1)) 0 xs.length xs.length (xs.length * 32))) qs).flatten)) (by rw [hsetq, List.getElem?_set, if_pos rfl, if_pos (by simp)])
            (fun b hb hb0 _ => by rw [List.getElem?_set, if_neg (fun h => hb0 h.symm), List.getElem?_append_left hb])
            (by rw [hx]; refine .inr ⟨r.length, by congr 1; omega, ?_⟩; rw [List.getElem?_set, if_neg (by omega)]; simp)
            (fun b hb => .inr (by cases hb; refine ⟨by omega, by omega, fun t ht => by cases ht⟩))
          rwa [hsetq] at this
      · simp [h]
        have := h1 qs hs _ _ vs (N.cons2 (.cells 3 [.int .i64 f.cap, .int .i64 f.ver, .sl 4 (l.length + 2) 0 qs.length qs.length (qs.length * 4)]) (.cells 3 [.int .i64 f.cap, .int .i64 f.ver, .sl 4 (l.length + 2) 0 qs.length qs.length (qs.length * 4)])) (fun v hv => by
          obtain ⟨i, hi⟩ := List.getElem?_of_mem hv
          obtain ⟨q, hq, _⟩ := get_of (show i < qs.length by rw [← N.len]; exact lt_get hi)
          have := hvs i v q hi hq
          rwa [if_pos (by have := lt_get hq; omega)] at this)
        rw [Nat.zero_add, Nat.add_comm 2] at this
        exact this
    · simp
      refine ⟨_, nest_start qs, fun i v q hv hq => ?_⟩
      rw [List.getElem?_map, hq] at hv
      cases hv; rfl
end Fd
end Go.CM

/-
  Feeds: Publish.
-/
namespace Go.CM
open Go Go.Proofs
set_option linter.unusedVariables false
set_option linter.unusedSimpArgs false
set_option maxRecDepth 100000
namespace Fd

/-- One queue is told one id. -/
def pubQ (cap ver : Int) (x : Id) (q : Queue) : Queue :=
  if q.en = true ∨ q.lag = true ∨ ver < q.next then q else if (q.ids.l.length : Int) = cap then { q with lag := true } else { q with ids := some (q.ids.l ++ [x]) }
def pubs (cap : Int) : Int → List Queue → List Id → List Queue
  | _, qs, [] => qs
  | ver, qs, x :: r => pubs cap (ver + 1) (qs.map (pubQ cap ver x)) r
def publish (f : Feed) (ids : List Id) : Feed × Int :=
  if chk f ≠ 0 then (zeroF, chk f) else if 60 < (ids.length : Int) ∨ 1000000000 < f.ver + ids.length then (zeroF, 4)
  else ({ f with ver := f.ver + ids.length, subs := f.subs.map fun qs => pubs f.cap f.ver qs ids }, 0)

/-- The first k are turned. -/
def mix (f : Queue → Queue) (k : Nat) (qs : List Queue) : List Queue := (qs.take k).map f ++ qs.drop k
theorem mix_len (f : Queue → Queue) (k : Nat) (qs : List Queue) : (mix f k qs).length = qs.length := by
  simp [mix]; omega
theorem mix_0 (f : Queue → Queue) (qs : List Queue) : mix f 0 qs = qs := by simp [mix]
theorem mix_all {f : Queue → Queue} {k : Nat} {qs : List Queue} (h : qs.length ≤ k) : mix f k qs = qs.map f := by
  simp [mix, List.take_of_length_le h, List.drop_of_length_le h]
theorem mix_get {f : Queue → Queue} {k : Nat} {qs : List Queue} {q : Queue} (h : qs[k]? = some q) : (mix f k qs)[k]? = some q := by
  have := lt_get h
  unfold mix
  rw [List.getElem?_append_right (by simp; omega), List.getElem?_drop, ← h]
  congr 1
  simp; omega
theorem mix_set {f : Queue → Queue} {k : Nat} {qs : List Queue} {q : Queue} (h : qs[k]? = some q) : (mix f k qs).set k (f q) = mix f (k + 1) qs := by
  have hk := lt_get h
  unfold mix
  rw [List.set_append_right _ _ (by simp; omega), List.take_add_one, h]
  have : qs.drop k = q :: qs.drop (k + 1) := by rw [List.drop_eq_getElem_cons hk]; congr 1; exact (List.getElem?_eq_some_iff.1 h).2
  rw [this]
  have h0 : k - (List.map f (List.take k qs)).length = 0 := by simp; omega
  rw [h0]
  simp
theorem pubs_len (cap : Int) : ∀ (ids : List Id) (ver : Int) (qs : List Queue), (pubs cap ver qs ids).length = qs.length
  | [], _, _ => rfl
  | _ :: r, ver, qs => by rw [pubs, pubs_len cap r]; simp
theorem pubQ_skip {cap ver : Int} {x : Id} {q : Queue} (h : q.en = true ∨ q.lag = true ∨ ver < q.next) : pubQ cap ver x q = q := by unfold pubQ; rw [if_pos h]
theorem pubQ_lag {cap ver : Int} {x : Id} {q : Queue} (h : ¬(q.en = true ∨ q.lag = true ∨ ver < q.next)) (h2 : (q.ids.l.length : Int) = cap) : pubQ cap ver x q = { q with lag := true } := by unfold pubQ; rw [if_neg h, if_pos h2]
theorem pubQ_add {cap ver : Int} {x : Id} {q : Queue} (h : ¬(q.en = true ∨ q.lag = true ∨ ver < q.next)) (h2 : (q.ids.l.length : Int) ≠ cap) : pubQ cap ver x q = { q with ids := some (q.ids.l ++ [x]) } := by unfold pubQ; rw [if_neg h, if_neg h2]
/-- Bounds. -/
def okN (m : Nat) (qs : List Queue) : Prop := ∀ q ∈ qs, okIds q.ids ∧ q.ids.l.length ≤ 1000000 + m
theorem pubQ_ok {cap ver : Int} {x : Id} {q : Queue} {m : Nat} (hx : x.length = 32) (h : okIds q.ids ∧ q.ids.l.length ≤ 1000000 + m) : okIds (pubQ cap ver x q).ids ∧ (pubQ cap ver x q).ids.l.length ≤ 1000000 + (m + 1) := by
  unfold pubQ
  split
  · exact ⟨h.1, by omega⟩
  split
  · exact ⟨h.1, by simp; omega⟩
  · refine ⟨fun y hy => ?_, by simp; omega⟩
    simp at hy
    rcases hy with hy | rfl
    · exact h.1 y hy
    · exact hx
theorem len_own {c : Nat} {r : Hl} {v : CV} {s : Sv Id} (h : ownIds c r v s) : lenM (.sl 32) v = some (.int .i64 s.l.length) := by
  cases s with
  | none => rw [h]; rfl
  | some xs =>
    rcases h with h | ⟨b, rfl, hb⟩
    · rw [h]; exact len_encS _
    · rfl

theorem own_set {vs : List CV} {k : Nat} {v : CV} (h : ∀ w ∈ vs, isOwn w) (hv : isOwn v) : ∀ w ∈ vs.set k v, isOwn w := fun w hw => by
  rcases List.mem_or_eq_of_mem_set hw with h1 | h1
  · exact h w h1
  · rw [h1]; exact hv

set_option maxHeartbeats 8000000 in
theorem publish_ok (f : Feed) (ids : Sv Id) (hf : okF f) (hi : okIds ids) (hil : ids.l.length ≤ 1000000) : PureC Try.prog G0 9 [encF f, encIds ids] (.tu [encF (publish f ids.l).1, .int .i64 (publish f ids.l).2]) := by
  refine pure_of Try.checked.mixed G0_closed ?_
  apply call_intro c9_eq r9_eq
  unfold c9 r9
  simp [encF]
  refine pure_call (check_ok f hf.2) (show closedL [encF f] = true by simp [closedL, closed_F]) ?_
  have hz : ∀ l, Rd l (.ag [.int .i64 0, .int .i64 0, .nilS]) (encF zeroF) := fun l => .same _ (closed_F zeroF)
  have hlen : lenM (.sl 32) (encIds ids) = some (.int .i64 ids.l.length) := len_encS _
  simp
  by_cases h1 : chk f = 0
  · have hver : 0 ≤ f.ver ∧ f.ver ≤ 1000000000 := by
      unfold chk at h1
      repeat' split at h1
      all_goals first | omega | cases h1
    have hw0 : IntKind.i64.wrap (1000000000 - (ids.l.length : Int)) = 1000000000 - (ids.l.length : Int) := wrap_i64 (by omega) (by omega)
    have hbad : (60 < (ids.l.length : Int) ∨ 1000000000 < f.ver + ids.l.length) → publish f ids.l = (zeroF, 4) := fun h => by
      unfold publish; rw [if_neg (by simp [h1]), if_pos h]
    by_cases h2 : 60 < (ids.l.length : Int)
    · simp [h1, hlen, hw0, h2]
      rw [hbad (.inl h2)]
      exact rd_tu2 (hz _) (.same _ rfl)
    by_cases h3 : 1000000000 - (ids.l.length : Int) < f.ver
    · simp [h1, hlen, hw0, h2, h3]
      rw [hbad (.inr (by omega))]
      exact rd_tu2 (hz _) (.same _ rfl)
    have hgood : publish f ids.l = ({ f with ver := f.ver + ids.l.length, subs := f.subs.map fun qs => pubs f.cap f.ver qs ids.l }, 0) := by
      unfold publish; rw [if_neg (by simp [h1]), if_neg (by omega)]
    simp [h1, hlen, hw0, h2, h3]
    refine twin_nest f hf (fun hs x y => ?_) (fun qs hs r0 s vs0 N0 ho0 => ?_)
    · simp [hlen]
      refine loop_up ids.l.length (fun j σ l => σ 4 = .ptr 1 0 3 ∧ σ 7 = .ptr 4 0 3 ∧ σ 32 = encIds ids ∧ σ 33 = .int .i64 ids.l.length ∧ σ 34 = .int .i64 j ∧
        ∃ x0 x2 x3 rest, l = x0 :: .cells 3 [.int .i64 0, .int .i64 0, .nilS] :: x2 :: x3 :: .cells 3 [.int .i64 f.cap, .int .i64 (f.ver + j), .nilS] :: rest) ?_ (by simp)
      rintro j σ l hj ⟨g4, g7, g32, g33, g34, x0, x2, x3, rest, rfl⟩
      obtain ⟨σ, rfl⟩ := upds5 g4 g7 g32 g33 g34
      clear g4 g7 g32 g33 g34
      unfold l9_1
      simp
      by_cases h : j < ids.l.length
      · obtain ⟨x, hx, hxm⟩ := get_of h
        have hx32 : x.length = 32 := hi x hxm
        have hia : iaC (.sl 32) (encIds ids) (.int .i64 j) = some (.rptr (encId x) 0) := by
          cases hh : ids with
          | none => rw [hh] at hx; simp at hx
          | some xs => rw [hh] at hx; simp at hx; simp [encIds, ia_encS, hx]
        have hsf := splice_full (cs := encId zeroId) (vs := encId x) (by rw [id_len hx32]; rfl)
        rw [zero_id] at hsf
        have hwj : IntKind.i64.wrap ((j : Int) + 1) = j + 1 := wrap_i64 (by omega) (by omega)
        have hwv : IntKind.i64.wrap (f.ver + (j : Int) + 1) = f.ver + j + 1 := wrap_i64 (by omega) (by omega)
        simp [h, hia, id_len hx32, List.take_of_length_le, hsf]
        refine loop_up 0 (fun k σ l => σ 4 = .ptr 1 0 3 ∧ σ 7 = .ptr 4 0 3 ∧ σ 32 = encIds ids ∧ σ 33 = .int .i64 ids.l.length ∧ σ 34 = .int .i64 j ∧ σ 40 = .int .i64 0 ∧ σ 41 = .int .i64 k ∧
          ∃ rest, l = x0 :: .cells 3 [.int .i64 0, .int .i64 0, .nilS] :: x2 :: x3 :: .cells 3 [.int .i64 f.cap, .int .i64 (f.ver + j), .nilS] :: rest) ?_ (by simp)
        rintro k σ l hk ⟨g4, g7, g32, g33, g34, g40, g41, rest2, rfl⟩
        obtain ⟨σ, rfl⟩ := upds7 g4 g7 g32 g33 g34 g40 g41
        clear g4 g7 g32 g33 g34 g40 g41
        obtain rfl : k = 0 := by omega
        unfold l9_0
        simp [h, hwj, hwv]
        omega
      · simp [h]
        have hjl : j = ids.l.length := by omega
        rw [hgood, hjl, hs]
        have hF := rd_Fs (l := x0 :: CB.cells 3 [.int .i64 f.cap, .int .i64 (f.ver + ids.l.length), .nilS] :: x2 :: x3 :: CB.cells 3 [.int .i64 f.cap, .int .i64 (f.ver + ids.l.length), .nilS] :: rest) (f := { f with ver := f.ver + ids.l.length, subs := none }) (v := .nilS) (.same _ rfl)
        exact rd_tu2 hF (.same _ rfl)
    · replace N0 : Nest 2 r0 [] s vs0 qs := N0
      have hfs : f.subs.l = qs := by rw [hs]; rfl
      obtain ⟨t, ht⟩ : ∃ t, t = r0.length := ⟨_, rfl⟩
      obtain ⟨n, hn⟩ : ∃ n, n = qs.length := ⟨_, rfl⟩
      have hn1 : n ≤ 1000000 := by rw [hn, ← hfs]; exact hf.2
      simp [hlen]
      rw [← ht, ← hn]
      refine loop_up ids.l.length (fun j σ l => σ 4 = .ptr 1 0 3 ∧ σ 7 = .ptr (t + 2) 0 3 ∧ σ 32 = encIds ids ∧ σ 33 = .int .i64 ids.l.length ∧ σ 34 = .int .i64 j ∧
        ∃ x0 rest vs qs', l = x0 :: .cells 3 [.int .i64 0, .int .i64 0, .nilS] :: rest ∧ rest[t]? = some (.cells 3 [.int .i64 f.cap, .int .i64 (f.ver + j), .sl 4 (s + 2) 0 n n (n * 4)]) ∧
          Nest 2 rest [t] s vs qs' ∧ (∀ v ∈ vs, isOwn v) ∧ qs'.length = n ∧ okN j qs' ∧ pubs f.cap (f.ver + j) qs' (ids.l.drop j) = pubs f.cap f.ver qs ids.l) ?_ ?_
      · rintro j σ l hj ⟨g4, g7, g32, g33, g34, x0, rest, vs, qs', rfl, hg, N, hown, hlq, hok, hp⟩
        obtain ⟨σ, rfl⟩ := upds5 g4 g7 g32 g33 g34
        clear g4 g7 g32 g33 g34
        unfold l9_1
        simp
        by_cases h : j < ids.l.length
        · obtain ⟨x, hx, hxm⟩ := get_of h
          have hx32 : x.length = 32 := hi x hxm
          have hia : iaC (.sl 32) (encIds ids) (.int .i64 j) = some (.rptr (encId x) 0) := by
            cases hh : ids with
            | none => rw [hh] at hx; simp at hx
            | some xs => rw [hh] at hx; simp at hx; simp [encIds, ia_encS, hx]
          have hsf := splice_full (cs := encId zeroId) (vs := encId x) (by rw [id_len hx32]; rfl)
          rw [zero_id] at hsf
          have htl := get_lt hg
          have hg1 : ∀ X : CB, (rest ++ [X])[t]? = some (.cells 3 [.int .i64 f.cap, .int .i64 (f.ver + j), .sl 4 (s + 2) 0 n n (n * 4)]) := fun X => by rw [List.getElem?_append_left htl]; exact hg
          obtain ⟨p, hpl⟩ : ∃ p, p = rest.length := ⟨_, rfl⟩
          have hpt : t ≠ p := by omega
          simp [h, hia, id_len hx32, List.take_of_length_le, hsf, hg1]
          rw [← hpl]
          refine loop_up n (fun k σ l => σ 4 = .ptr 1 0 3 ∧ σ 7 = .ptr (t + 2) 0 3 ∧ σ 9 = .ptr (p + 2) 0 32 ∧ σ 32 = encIds ids ∧ σ 33 = .int .i64 ids.l.length ∧ σ 34 = .int .i64 j ∧ σ 40 = .int .i64 n ∧ σ 41 = .int .i64 k ∧
            ∃ r vs, l = x0 :: .cells 3 [.int .i64 0, .int .i64 0, .nilS] :: r ∧ r[t]? = some (.cells 3 [.int .i64 f.cap, .int .i64 (f.ver + j), .sl 4 (s + 2) 0 n n (n * 4)]) ∧
              r[p]? = some (.cells 32 (encId x)) ∧ Nest 2 r [t, p] s vs (mix (pubQ f.cap (f.ver + j) x) k qs') ∧ ∀ v ∈ vs, isOwn v) ?_ ?_
          · rintro k σ l hk ⟨g4, g7, g9, g32, g33, g34, g40, g41, r, vs1, rfl, hgr, hpr, N1, hown1⟩
            obtain ⟨σ, rfl⟩ := upds8 g4 g7 g9 g32 g33 g34 g40 g41
            clear g4 g7 g9 g32 g33 g34 g40 g41
            unfold l9_0
            simp
            by_cases h' : k < n
            · obtain ⟨q, hq', hqm⟩ := get_of (show k < qs'.length by omega)
              have hq := mix_get (f := pubQ f.cap (f.ver + j) x) hq'
              have hms := mix_set (f := pubQ f.cap (f.ver + j) x) hq'
              have hQl : (mix (pubQ f.cap (f.ver + j) x) k qs').length = n := by rw [mix_len, hlq]
              obtain ⟨Q, hQ⟩ : ∃ Q, Q = mix (pubQ f.cap (f.ver + j) x) k qs' := ⟨_, rfl⟩
              rw [← hQ] at hq hms N1 hQl
              obtain ⟨v, hv⟩ : ∃ v, vs1[k]? = some v := ⟨vs1[k]'(by rw [N1.len, hQl]; exact h'), List.getElem?_eq_getElem _⟩
              have hov := hown1 v (List.mem_of_getElem? hv)
              have hoq := N1.own k v q hv hq
              have hlv := len_own hoq
              have hqk := hok q hqm
              obtain ⟨d0, d1, d2, d3, _⟩ := rowsQ_cells hv hq
              have hrow := N1.row
              rw [hQl] at hrow
              have hwk : IntKind.i64.wrap ((k : Int) + 1) = k + 1 := wrap_i64 (by omega) (by omega)
              have b1 : k * 4 + 1 + 1 ≤ n * 4 := by omega
              have b2 : k * 4 + 2 + 1 ≤ n * 4 := by omega
              have hskip : (q.en = true ∨ q.lag = true ∨ f.ver + j < q.next) → mix (pubQ f.cap (f.ver + j) x) (k + 1) qs' = Q := fun h => by
                rw [← hms, pubQ_skip h, set_selfT hq]
              have hts : t ≠ s := fun h => N1.ts (by simp [h])
              have hps : p ≠ s := fun h => N1.ts (by simp [h])
              cases he : q.en
              case true =>
                rw [he] at d3
                simp [h', hgr, hrow, d0, d2, d3, hwk]
                exact ⟨hpr, vs1, by rw [hskip (.inl he)]; exact N1, hown1⟩
              case false =>
              rw [he] at d3
              cases hl : q.lag
              case true =>
                rw [hl] at d2
                simp [h', hgr, hrow, d0, d2, d3, hwk]
                exact ⟨hpr, vs1, by rw [hskip (.inr (.inl hl))]; exact N1, hown1⟩
              case false =>
              rw [hl] at d2
              by_cases hnx : f.ver + j < q.next
              · simp [h', hgr, hrow, d0, d2, d3, hwk, hnx]
                exact ⟨hpr, vs1, by rw [hskip (.inr (.inr hnx))]; exact N1, hown1⟩
              have hgo : ¬(q.en = true ∨ q.lag = true ∨ f.ver + j < q.next) := by simp [he, hl]; omega
              by_cases hcap : (q.ids.l.length : Int) = f.cap
              · simp [h', hgr, hrow, d0, d1, d2, d3, hwk, hnx, hlv, hcap, b2]
                rw [rowsQ_splice hv hq 2 [.bool true] v { q with lag := true } (by simp) (by simp [rowQ])]
                have hst : ∀ (X : CB) (b : Nat), b ≠ s → (r.set s X)[b]? = r[b]? := fun X b hb => by rw [List.getElem?_set, if_neg (fun h => hb h.symm)]
                refine ⟨by rw [hst _ _ hts]; exact hgr, by rw [hst _ _ hps]; exact hpr, vs1.set k v, ?_, own_set hown1 hov⟩
                rw [← hms, pubQ_lag hgo hcap]
                exact N1.upd hv hq (by rw [hQl, List.getElem?_set, if_pos rfl, if_pos (get_lt hrow)]) (fun b _ hb _ => hst _ b hb) (hoq.keep fun b hb => hst _ _ fun h => (N1.far k v _ hv hb).1 (by rw [h])) (fun b hb => .inl hb)
              simp [h', hgr, hpr, hrow, d0, d1, d2, d3, hwk, hnx, hlv, hcap, b1, id_len hx32, List.take_of_length_le, hsf]
              have hpa : mix (pubQ f.cap (f.ver + j) x) (k + 1) qs' = Q.set k { q with ids := some (q.ids.l ++ [x]) } := by rw [← hms, pubQ_add hgo hcap]
              have N2 := N1.keep (r' := r ++ [.cells 32 (encId x)]) (fun b hb _ => List.getElem?_append_left hb)
              have hgr2 : (r ++ [CB.cells 32 (encId x)])[t]? = some (.cells 3 [.int .i64 f.cap, .int .i64 (f.ver + j), .sl 4 (s + 2) 0 n n (n * 4)]) := by rw [List.getElem?_append_left (get_lt hgr)]; exact hgr
              have hpr2 : (r ++ [CB.cells 32 (encId x)])[p]? = some (.cells 32 (encId x)) := by rw [List.getElem?_append_left (get_lt hpr)]; exact hpr
              have hlast : (r ++ [CB.cells 32 (encId x)])[r.length]? = some (.cells 32 (encId x)) := by simp
              obtain ⟨r2, hr2⟩ : ∃ r2, r2 = r ++ [CB.cells 32 (encId x)] := ⟨_, rfl⟩
              have hrl : r2.length = r.length + 1 := by rw [hr2]; simp
              rw [← hr2] at N2 hgr2 hpr2 hlast ⊢
              have hrow2 := N2.row
              rw [hQl] at hrow2
              have hoq2 := N2.own k v q hv hq
              have htk : List.take 32 (encId x) = encId x := List.take_of_length_le (by rw [id_len hx32]; omega)
              have hsl := get_lt hrow2
              cases hids : q.ids with
              | none =>
                rw [hids] at hoq2
                obtain rfl : v = .nilS := hoq2
                rw [app_nil (xs := [encId x]) (by simp [contentsL, hlast, htk]) (by omega) (by omega) (by simp) (by simp [roomMax])]
                simp
                refine AppK.keep ?_
                have hrow3 : ∀ X : CB, (r2 ++ [X])[s]? = some (.cells (n * 4) (rowsQ vs1 Q).flatten) := fun X => by rw [List.getElem?_append_left hsl]; exact hrow2
                simp [h', hrow3, b1, hwk]
                rw [rowsQ_splice hv hq 1 [_] (.sl 32 (r2.length + 1 + 1) 0 1 1 32) { q with ids := some [x] } (by simp) (by simp [rowQ])]
                have hst : ∀ (X Y : CB) (b : Nat), b < r2.length → b ≠ s → ((r2 ++ [Y]).set s X)[b]? = r2[b]? := fun X Y b hb hbs => by rw [List.getElem?_set, if_neg (fun h => hbs h.symm), List.getElem?_append_left hb]
                refine ⟨by rw [hst _ _ _ (get_lt hgr2) hts]; exact hgr2, by rw [hst _ _ _ (get_lt hpr2) hps]; exact hpr2, vs1.set k (.sl 32 (r2.length + 1 + 1) 0 1 1 32), ?_, own_set hown1 trivial⟩
                rw [hpa, hids]
                refine N2.upd hv hq (by rw [hQl, List.getElem?_set, if_pos rfl, if_pos (by simp; omega)]; rfl) (fun b hb hbs _ => hst _ _ b hb hbs) (.inr ⟨r2.length, rfl, ?_⟩) (fun b hb => .inr ?_)
                · rw [List.getElem?_set, if_neg (by omega)]; simp
                · cases hb
                  refine ⟨by omega, by omega, fun u hu => ?_⟩
                  have h1 := get_lt hgr2
                  have h2 := get_lt hpr2
                  simp at hu
                  omega
              | some ys =>
                rw [hids] at hoq2
                rcases hoq2 with h | ⟨b, rfl, hb⟩
                · rw [h] at hov; exact hov.elim
                rw [hids] at hqk
                have hyl : ys.length ≤ 1000000 + j := hqk.2
                rw [app_own (es := ys.map encId) (xs := [encId x]) (m := 1) (by simpa using hb) (by simp [contentsL, hlast, htk]) (by simp) rfl (by simp) (fun e he => by
                  obtain ⟨y, hy, rfl⟩ := List.mem_map.1 he; exact id_len (hqk.1 y hy)) (by omega) (by omega) (by simp [roomMax]; omega)]
                simp
                refine AppK.keep ?_
                have hbs : b ≠ s := fun h => (N2.far k _ _ hv rfl).1 (by rw [h])
                have hrow3 : ∀ X : CB, (r2.set b X)[s]? = some (.cells (n * 4) (rowsQ vs1 Q).flatten) := fun X => by rw [List.getElem?_set, if_neg hbs]; exact hrow2
                simp [h', hrow3, b1, hwk]
                rw [rowsQ_splice hv hq 1 [_] (.sl 32 (b + 2) 0 (ys.length + 1) (ys.length + 1) ((ys.length + 1) * 32)) { q with ids := some (ys ++ [x]) } (by simp) (by simp [rowQ])]
                have hst : ∀ (X Y : CB) (b' : Nat), b' ≠ b → b' ≠ s → ((r2.set b Y).set s X)[b']? = r2[b']? := fun X Y b' hb hbs => by rw [List.getElem?_set, if_neg (fun h => hbs h.symm), List.getElem?_set, if_neg (fun h => hb h.symm)]
                have hbT := (N2.far k _ _ hv rfl).2
                have hbt : t ≠ b := fun h => hbT t (by simp) (by rw [h])
                have hbp : p ≠ b := fun h => hbT p (by simp) (by rw [h])
                refine ⟨by rw [hst _ _ _ hbt hts]; exact hgr2, by rw [hst _ _ _ hbp hps]; exact hpr2, vs1.set k (.sl 32 (b + 2) 0 (ys.length + 1) (ys.length + 1) ((ys.length + 1) * 32)), ?_, own_set hown1 trivial⟩
                rw [hpa, hids]
                refine N2.upd hv hq (by rw [hQl, List.getElem?_set, if_pos rfl, if_pos (by simp; omega)]; rfl) (fun b' hb' hbs hne => hst _ _ b' (fun h => hne (by rw [h]; rfl)) hbs) (.inr ⟨b, by simp, ?_⟩) (fun b' hb' => .inl (by cases hb'; rfl))
                rw [List.getElem?_set, if_neg (fun h => hbs h.symm), List.getElem?_set, if_pos rfl, if_pos (get_lt hb)]
                simp
            · have hwj : IntKind.i64.wrap ((j : Int) + 1) = j + 1 := wrap_i64 (by omega) (by omega)
              have hwv : IntKind.i64.wrap (f.ver + (j : Int) + 1) = f.ver + j + 1 := wrap_i64 (by omega) (by omega)
              simp [h', hgr, hwj, hwv]
              have hkn : k = n := by omega
              rw [mix_all (by omega)] at N1
              have hst : ∀ (X : CB) (b : Nat), b ∉ [t, p] → (r.set t X)[b]? = r[b]? := fun X b hb => by rw [List.getElem?_set, if_neg (by simp at hb; omega)]
              refine ⟨h, _, _, ⟨rfl, rfl⟩, by rw [List.getElem?_set, if_pos rfl, if_pos (get_lt hgr), Int.add_assoc], vs1, _, (N1.keep fun b _ hb => hst _ b hb).to (fun u hu => .inl (by simp at hu ⊢; exact .inl hu)), hown1, by simp [hlq], fun q hq => ?_, ?_⟩
              · obtain ⟨q', hq', rfl⟩ := List.mem_map.1 hq
                exact pubQ_ok hx32 (hok q' hq')
              · rw [← hp, List.drop_eq_getElem_cons h, (List.getElem?_eq_some_iff.1 hx).2, pubs, Int.add_assoc]
          · simp
            refine ⟨hg1 _, by rw [hpl]; simp, vs, ?_, hown⟩
            rw [mix_0]
            exact (N.to (T' := [t, p]) (fun b hb => by simp at hb ⊢; omega)).keep (fun b hb _ => List.getElem?_append_left hb)
        · simp [h, hg]
          have hjl : j = ids.l.length := by omega
          rw [hgood]
          rw [hjl, List.drop_length] at hp
          have hp2 : qs' = pubs f.cap f.ver qs ids.l := hp
          rw [hjl]
          have hr := N.rd (L := [x0, CB.cells 3 [.int .i64 f.cap, .int .i64 (f.ver + ids.l.length), .sl 4 (s + 2) 0 n n (n * 4)]]) rfl (fun q hq => (hok q hq).1) n (n * 4) (by rw [hlq])
          rw [hlq, hp2] at hr
          have hF := rd_Fs (f := { f with ver := f.ver + ids.l.length, subs := some (pubs f.cap f.ver qs ids.l) }) hr
          rw [hs]
          exact rd_tu2 hF (.same _ rfl)
      · simp
        refine ⟨_, _, ⟨rfl, rfl⟩, by rw [ht]; simp, vs0, qs, ?_, ho0, hn.symm, fun q hq => ?_, rfl⟩
        · exact (N0.to (T' := [t]) (fun b hb => by simp at hb ⊢; omega)).keep (fun b hb _ => List.getElem?_append_left hb)
        · exact hf.1 q (by rw [hfs]; exact hq)
  · simp [h1]
    unfold publish
    rw [if_pos h1]
    exact rd_tu2 (hz _) (.same _ rfl)
end Fd
end Go.CM

/-
  Feeds: the reference's copy, with lists of one's own.
-/
namespace Go.CM
open Go Go.Proofs
set_option linter.unusedVariables false
set_option linter.unusedSimpArgs false
set_option maxRecDepth 100000
namespace Fd

theorem Nest.one {c : Nat} {r : Hl} {s : Nat} {v : CV} {q : Queue} (hrow : r[s]? = some (.cells 4 (rowQ v q))) (hown : ownIds c r v q.ids) (hb : ∀ b, blkOf v = some b → b ≠ s + c) : Nest c r [] s [v] [q] := by
  refine ⟨rfl, by simpa [rowsQ] using hrow, fun i w p hw hp => ?_, fun i w b hw hbw => ?_, fun i j w w' b hij hw hw' _ => ?_, by simp⟩
  · cases i with
    | zero => simp at hw hp; subst hw hp; exact hown
    | succ i => simp at hw
  · cases i with
    | zero => simp at hw; subst hw; exact ⟨hb b hbw, fun t ht => by cases ht⟩
    | succ i => simp at hw
  · have h1 := lt_get hw
    have h2 := lt_get hw'
    simp at h1 h2
    omega
theorem rowsQ_push {vs : List CV} {qs : List Queue} (h : vs.length = qs.length) (v : CV) (q : Queue) : rowsQ (vs ++ [v]) (qs ++ [q]) = rowsQ vs qs ++ [rowQ v q] := by
  unfold rowsQ
  rw [List.zipWith_append h]; rfl
theorem Nest.push {c : Nat} {r r' : Hl} {T : List Nat} {s : Nat} {vs : List CV} {qs : List Queue} (N : Nest c r T s vs qs) {v : CV} {q : Queue} (hrow : r'[s]? = some (.cells ((qs.length + 1) * 4) (rowsQ (vs ++ [v]) (qs ++ [q])).flatten))
    (hk : ∀ b, b < r.length → b ≠ s → r'[b]? = r[b]?) (hown : ownIds c r' v q.ids) (hb : ∀ b, blkOf v = some b → r.length + c ≤ b ∧ b ≠ s + c ∧ ∀ t ∈ T, b ≠ t + c) : Nest c r' T s (vs ++ [v]) (qs ++ [q]) := by
  have key : ∀ i w, (vs ++ [v])[i]? = some w → vs[i]? = some w ∨ (i = vs.length ∧ w = v) := fun i w h => by
    by_cases hi : i < vs.length
    · rw [List.getElem?_append_left hi] at h; exact .inl h
    · have := lt_get h
      simp at this
      obtain rfl : i = vs.length := by omega
      simp at h
      exact .inr ⟨rfl, h.symm⟩
  have old : ∀ i w b, vs[i]? = some w → blkOf w = some b → b < r.length + c := fun i w b hw hbw => by
    obtain ⟨p, hp⟩ : ∃ p, qs[i]? = some p := ⟨qs[i]'(by rw [← N.len]; exact lt_get hw), List.getElem?_eq_getElem _⟩
    obtain ⟨b', h2, h3⟩ := (N.own i w p hw hp).blk hbw
    omega
  refine ⟨by simp [N.len], by simpa using hrow, fun i w p hw hp => ?_, fun i w b hw hbw => ?_, fun i j w w' b hij hw hw' hbw => ?_, N.ts⟩
  · rcases key i w hw with h1 | ⟨rfl, rfl⟩
    · have hi := lt_get h1
      rw [List.getElem?_append_left (by rw [← N.len]; exact hi)] at hp
      have ho := N.own i w p h1 hp
      refine ho.keep fun b hbw => ?_
      obtain ⟨b', h2, h3⟩ := ho.blk hbw
      obtain rfl : b' = b := by omega
      exact hk b' h3 fun h => (N.far i w _ h1 hbw).1 (by rw [h])
    · rw [N.len] at hp
      simp at hp
      subst hp
      exact hown
  · rcases key i w hw with h1 | ⟨rfl, rfl⟩
    · exact N.far i w b h1 hbw
    · exact (hb b hbw).2
  · rcases key i w hw with h1 | ⟨rfl, rfl⟩ <;> rcases key j w' hw' with h2 | ⟨rfl, rfl⟩
    · exact N.apart i j w w' b hij h1 h2 hbw
    · intro h
      have h3 := old i w b h1 hbw
      have h4 := (hb b h).1
      omega
    · intro h
      have h3 := old j w' b h2 h
      have h4 := (hb b hbw).1
      omega
    · exact absurd rfl hij

end Fd
end Go.CM

/-
  Feeds: the reference's Publish.
-/
namespace Go.CM
open Go Go.Proofs
set_option linter.unusedVariables false
set_option linter.unusedSimpArgs false
set_option maxRecDepth 100000
namespace Fd

def refPublish (f : Feed) (ids : List Id) : Feed × Int :=
  if chk f ≠ 0 then (zeroF, chk f) else if 60 < (ids.length : Int) ∨ 1000000000 < f.ver + ids.length then (zeroF, 4)
  else ({ f with ver := f.ver + ids.length, subs := if f.subs.l = [] then none else some (pubs f.cap f.ver (f.subs.l.map twQ) ids) }, 0)

end Fd
end Go.CM

/-
  Feeds: plain laws of FeedDoes; the reference's copy by value.
-/
namespace Go.CM
open Go Go.Proofs
set_option linter.unusedVariables false
set_option linter.unusedSimpArgs false
set_option maxRecDepth 100000
namespace Fd

theorem tw_subs (f : Feed) : (twF f).subs.l = f.subs.l.map twQ := by
  unfold twF
  by_cases h : f.subs.l = []
  · simp [h]
  · simp [h]
theorem okQ_tw (f : Feed) (q : Queue) : okQ (twF f) (twQ q) = okQ f q := rfl
theorem okFs_tw (f : Feed) : okFs (twF f) = okFs f := by
  unfold okFs
  rw [tw_subs, List.all_map]
  rfl
theorem live_tw (f : Feed) : (twF f).live = f.live := by
  unfold Feed.live liveL
  rw [tw_subs, List.filter_map, List.length_map]
  rfl
theorem chk_tw (f : Feed) : chk (twF f) = chk f := by
  unfold chk
  rw [okFs_tw, live_tw, tw_subs, List.length_map]
  rfl
theorem num_tw (f : Feed) (n : Int) : num (twF f) n = num f n := by
  unfold num
  rw [chk_tw, tw_subs, List.length_map, List.getElem?_map]
  cases f.subs.l[n.toNat]? <;> rfl
theorem sub_tw (f : Feed) (n : Int) : sub (twF f) n = rsub f n := by
  unfold sub rsub
  rw [chk_tw, live_tw, tw_subs, List.length_map]
  rfl
theorem publish_tw (f : Feed) (l : List Id) : publish (twF f) l = refPublish f l := by
  unfold publish refPublish
  rw [chk_tw]
  unfold twF
  by_cases h : f.subs.l = [] <;> simp [h]
theorem take_tw (f : Feed) (n : Int) : take (twF f) n = rtake f n := by
  unfold take rtake
  rw [num_tw, tw_subs, List.getElem?_map]
  cases f.subs.l[n.toNat]? with
  | none => rfl
  | some q =>
    simp only [Option.map_some]
    have h1 : (twQ q).ids.l = q.ids.l := rfl
    have h2 : ∀ p, setQ (twF f) n.toNat p = rsetQ f n.toNat p := fun p => by unfold setQ rsetQ; rw [tw_subs]; rfl
    rw [h1]
    cases hq : q.ids.l with
    | nil =>
      simp only [h2]
      rw [show (twQ q).lag = q.lag from rfl]
      have h3 : { twQ q with lag := false, en := true } = { q with ids := some [], lag := false, en := true } := by unfold twQ; rw [hq]
      rw [h3]; rfl
    | cons x r => simp only [h2]; rfl
theorem end_tw (f : Feed) (n : Int) : endF (twF f) n = rendF f n := by
  unfold endF rendF
  rw [num_tw, tw_subs, List.getElem?_map]
  cases f.subs.l[n.toNat]? with
  | none => rfl
  | some q =>
    simp only [Option.map_some]
    have h2 : ∀ p, setQ (twF f) n.toNat p = rsetQ f n.toNat p := fun p => by unfold setQ rsetQ; rw [tw_subs]; rfl
    rw [h2]; rfl
theorem sameQ_refl (q : Queue) : sameQ q q = true := by simp [sameQ]
theorem sameL_refl : ∀ l, sameL l l = true
  | [] => rfl
  | q :: l => by simp [sameL, sameQ_refl, sameL_refl l]
theorem sameF_refl (f : Feed) : sameF f f = true := by simp [sameF, sameL_refl]
theorem sameL_tw : ∀ l, sameL (l.map twQ) l = true
  | [] => rfl
  | q :: l => by simp [sameL, sameL_tw l, sameQ, twQ]
theorem sameF_tw (f : Feed) : sameF (twF f) f = true := by
  unfold sameF
  rw [tw_subs, sameL_tw]
  simp [twF]

/-- Bounds. -/
def okI (m : Nat) (q : Queue) : Prop := okIds q.ids ∧ q.ids.l.length ≤ m
def okB (m : Nat) (f : Feed) : Prop := (∀ q ∈ f.subs.l, okI m q) ∧ f.subs.l.length ≤ m
theorem okI.mono {m n : Nat} {q : Queue} (h : okI m q) (hm : m ≤ n) : okI n q := ⟨h.1, Nat.le_trans h.2 hm⟩
theorem okB.mono {m n : Nat} {f : Feed} (h : okB m f) (hm : m ≤ n) : okB n f := ⟨fun q hq => (h.1 q hq).mono hm, Nat.le_trans h.2 hm⟩
theorem okB.ok {m : Nat} {f : Feed} (h : okB m f) (hm : m ≤ 1000000) : okF f :=
  ⟨fun q hq => ⟨(h.1 q hq).1, Nat.le_trans (h.1 q hq).2 hm⟩, Nat.le_trans h.2 hm⟩
theorem okB_zero (m : Nat) : okB m zeroF := ⟨fun q hq => (by cases hq), Nat.zero_le _⟩
theorem okB_new (m : Nat) (n : Int) : okB m (newF n).1 := by
  unfold newF
  split
  · exact okB_zero m
  split
  · exact okB_zero m
  · exact ⟨fun q hq => (by cases hq), Nat.zero_le _⟩
theorem okB_tw {m : Nat} {f : Feed} (h : okB m f) : okB m (twF f) := by
  unfold okB
  rw [tw_subs, List.length_map]
  refine ⟨fun q hq => ?_, h.2⟩
  obtain ⟨p, hp, rfl⟩ := List.mem_map.1 hq
  exact h.1 p hp
theorem okB_sub {m : Nat} {f : Feed} (h : okB m f) (n : Int) : okB (m + 1) (sub f n).1 := by
  unfold sub
  repeat' split
  all_goals first | exact okB_zero _ | skip
  refine ⟨fun q hq => ?_, by have := h.2; simp; omega⟩
  simp at hq
  rcases hq with hq | rfl
  · exact (h.1 q hq).mono (by omega)
  · exact ⟨fun x hx => (by cases hx), by simp [newQ]⟩
theorem okB_setQ {m : Nat} {f : Feed} (h : okB m f) (k : Nat) {q : Queue} (hq : okI m q) : okB m (setQ f k q) := by
  refine ⟨fun p hp => ?_, by have := h.2; simp [setQ]; omega⟩
  rcases List.mem_or_eq_of_mem_set (show p ∈ f.subs.l.set k q from hp) with h1 | h1
  · exact h.1 p h1
  · rw [h1]; exact hq
theorem okB_take {m : Nat} {f : Feed} (h : okB m f) (n : Int) : okB m (take f n).f := by
  unfold take
  split
  · exact okB_zero m
  split
  · exact okB_zero m
  · rename_i q hq
    have hqi := h.1 q (List.mem_of_getElem? hq)
    split
    · rename_i x r hr
      refine okB_setQ h _ ⟨fun y hy => hqi.1 y ?_, ?_⟩
      · rw [hr]; exact List.mem_cons_of_mem _ hy
      · have := hqi.2; rw [hr] at this; simp at this ⊢; omega
    · split
      · exact okB_setQ h _ ⟨hqi.1, hqi.2⟩
      · exact okB_zero m
theorem take_id32 {m : Nat} {f : Feed} (h : okB m f) (n : Int) : (take f n).id.length = 32 := by
  unfold take
  split
  · rfl
  split
  · rfl
  · rename_i q hq
    have hqi := h.1 q (List.mem_of_getElem? hq)
    split
    · rename_i x r hr
      exact hqi.1 x (by rw [hr]; simp)
    · split <;> rfl
theorem okB_end {m : Nat} {f : Feed} (h : okB m f) (n : Int) : okB m (endF f n).1 := by
  unfold endF
  split
  · exact okB_zero m
  split
  · exact okB_zero m
  · exact okB_setQ h _ ⟨fun x hx => (by cases hx), by simp [endQ]⟩
theorem okI_pub {m : Nat} {q : Queue} (h : okI m q) (cap ver : Int) {x : Id} (hx : x.length = 32) : okI (m + 1) (pubQ cap ver x q) := by
  unfold pubQ
  split
  · exact h.mono (by omega)
  split
  · exact h.mono (by omega)
  · refine ⟨fun y hy => ?_, by have := h.2; simp; omega⟩
    simp at hy
    rcases hy with hy | rfl
    · exact h.1 y hy
    · exact hx
theorem okI_pubs (cap : Int) : ∀ (ids : List Id) (ver : Int) (qs : List Queue) (m : Nat), (∀ x ∈ ids, x.length = 32) → (∀ q ∈ qs, okI m q) → ∀ q ∈ pubs cap ver qs ids, okI (m + ids.length) q
  | [], ver, qs, m, _, h => h
  | x :: r, ver, qs, m, hx, h => fun q hq => by
    have := okI_pubs cap r (ver + 1) (qs.map (pubQ cap ver x)) (m + 1) (fun y hy => hx y (List.mem_cons_of_mem _ hy)) (fun p hp => by
      obtain ⟨p', hp', rfl⟩ := List.mem_map.1 hp
      exact okI_pub (h p' hp') cap ver (hx x (by simp))) q hq
    exact this.mono (by simp; omega)
theorem okB_publish {m : Nat} {f : Feed} (h : okB m f) {ids : List Id} (hx : ∀ x ∈ ids, x.length = 32) : okB (m + ids.length) (publish f ids).1 := by
  unfold publish
  split
  · exact okB_zero _
  split
  · exact okB_zero _
  · cases hs : f.subs with
    | none => exact ⟨fun q hq => (by cases hq), Nat.zero_le _⟩
    | some qs =>
      have h1 : f.subs.l = qs := by rw [hs]; rfl
      have h2 := h.2
      rw [h1] at h2
      refine ⟨okI_pubs f.cap ids f.ver qs m hx (fun q hq => h.1 q (by rw [h1]; exact hq)), ?_⟩
      show (pubs f.cap f.ver qs ids).length ≤ _
      rw [pubs_len]; omega

end Fd
end Go.CM

/-
  Feeds: the law FeedDoes, walked.
-/
namespace Go.CM
open Go Go.Proofs
set_option linter.unusedVariables false
set_option linter.unusedSimpArgs false
set_option maxRecDepth 100000
namespace Fd

theorem cF (f : Feed) : closedL [encF f] = true := by simp [closedL, closed_F]
theorem cFn (f : Feed) (k : IntKind) (n : Int) : closedL [encF f, .int k n] = true := by simp [closedL, closed_F, CV.closed]
theorem cFF (f g : Feed) : closedL [encF f, encF g] = true := by simp [closedL, closed_F]
theorem cFi (f : Feed) (s : Sv Id) : closedL [encF f, encIds s] = true := by simp [closedL, closed_F, closed_ids]

end Fd
end Go.CM

/-
  Feeds: what comes in.
-/
namespace Go.CM
open Go Go.Proofs
set_option linter.unusedVariables false
set_option linter.unusedSimpArgs false
set_option maxRecDepth 100000
namespace Fd

theorem ty_id (r : List CV) (h : Ty Try.prog [42] r) : ∃ x : Id, r = encId x ∧ x.length = 32 := by
  have h1 := ty_array (e := 5) (n := 32) (by kernel_rfl) h
  obtain ⟨x, cs', rfl, hx, h2⟩ := ty_ints (k := .u8) (by kernel_rfl) 32 h1
  rw [ty_nil h2, List.append_nil]
  exact ⟨x, rfl, hx⟩
theorem ty_ids {ts : List TypeId} {cs : List CV} (h : Ty Try.prog (22 :: ts) cs) : ∃ (s : Sv Id) (cs' : List CV), cs = encIds s :: cs' ∧ s.l.length ≤ maxLen ∧ okIds s ∧ Ty Try.prog ts cs' :=
  ty_sl (e := 42) (by kernel_rfl) (by kernel_rfl) ty_id h
theorem ty_q (r : List CV) (h : Ty Try.prog [50] r) : ∃ q : Queue, r = encQ q ∧ okIds q.ids ∧ q.ids.l.length ≤ maxLen := by
  have h1 := ty_struct (fs := [3, 22, 4, 4]) (by kernel_rfl) h
  obtain ⟨n, _, rfl, _, _, h2⟩ := ty_int (k := .i64) (by kernel_rfl) h1
  obtain ⟨s, _, rfl, hl, hi, h3⟩ := ty_ids h2
  obtain ⟨b, _, rfl, h4⟩ := ty_bool (by kernel_rfl) h3
  obtain ⟨d, _, rfl, h5⟩ := ty_bool (by kernel_rfl) h4
  rw [ty_nil h5]
  exact ⟨⟨n, s, b, d⟩, rfl, hi, hl⟩
theorem ty_f {cs : List CV} (h : Ty Try.prog [35] cs) : ∃ f : Feed, .ag cs = encF f ∧ f.subs.l.length ≤ maxLen ∧ (∀ q ∈ f.subs.l, okIds q.ids ∧ q.ids.l.length ≤ maxLen) ∧
    IntKind.i64.min ≤ f.cap ∧ f.cap ≤ IntKind.i64.max ∧ IntKind.i64.min ≤ f.ver ∧ f.ver ≤ IntKind.i64.max := by
  have h1 := ty_struct (fs := [3, 3, 33]) (by kernel_rfl) h
  obtain ⟨n, _, rfl, a1, a2, h2⟩ := ty_int (k := .i64) (by kernel_rfl) h1
  obtain ⟨m, _, rfl, b1, b2, h3⟩ := ty_int (k := .i64) (by kernel_rfl) h2
  obtain ⟨s, _, rfl, hl, hi, h4⟩ := ty_sl (e := 50) (z := 4) (by kernel_rfl) (by kernel_rfl) ty_q h3
  rw [ty_nil h4]
  exact ⟨⟨n, m, s⟩, rfl, hl, hi, a1, a2, b1, b2⟩
theorem tyA_f {ts : List TypeId} {cs : List CV} (h : TyA Try.prog (35 :: ts) cs) : ∃ (f : Feed) (cs' : List CV), cs = encF f :: cs' ∧ f.subs.l.length ≤ maxLen ∧ (∀ q ∈ f.subs.l, okIds q.ids ∧ q.ids.l.length ≤ maxLen) ∧ TyA Try.prog ts cs' := by
  obtain ⟨c, cs', rfl, h1, h2⟩ := tyA_cons h
  obtain ⟨cs, rfl, h3⟩ := tyV_agg (by kernel_rfl) h1
  obtain ⟨f, hf, hl, hq, _⟩ := ty_f h3
  exact ⟨f, cs', by rw [hf], hl, hq, h2⟩
theorem tyA_ids {ts : List TypeId} {cs : List CV} (h : TyA Try.prog (22 :: ts) cs) : ∃ (s : Sv Id) (cs' : List CV), cs = encIds s :: cs' ∧ s.l.length ≤ maxLen ∧ okIds s ∧ TyA Try.prog ts cs' := by
  obtain ⟨c, cs', rfl, h1, h2⟩ := tyA_cons h
  obtain ⟨s, cs1, hs, hl, hi, h3⟩ := ty_ids (tyV_one (by kernel_rfl) h1)
  cases hs
  exact ⟨s, cs', rfl, hl, hi, h2⟩
theorem tyA_int {ts : List TypeId} {cs : List CV} (h : TyA Try.prog (3 :: ts) cs) : ∃ (n : Int) (cs' : List CV), cs = .int .i64 n :: cs' ∧ IntKind.i64.min ≤ n ∧ n ≤ IntKind.i64.max ∧ TyA Try.prog ts cs' := by
  obtain ⟨c, cs', rfl, h1, h2⟩ := tyA_cons h
  obtain ⟨n, cs1, hs, hl, hi, h3⟩ := ty_int (k := .i64) (by kernel_rfl) (tyV_one (by kernel_rfl) h1)
  cases hs
  exact ⟨n, cs', rfl, hl, hi, h2⟩
end Fd
end Go.CM

/-
  Feeds: what Subscribe, Publish, Take and End leave valid.
-/
namespace Go.CM
open Go Go.Proofs
set_option linter.unusedVariables false
set_option linter.unusedSimpArgs false
set_option maxRecDepth 100000
namespace Fd

/-- A queue is valid at a capacity and a version. -/
def OkQ (cap ver : Int) (q : Queue) : Prop :=
  0 ≤ q.next ∧ q.next ≤ 1000000000 ∧ (q.ids.l.length : Int) ≤ cap ∧
  (q.en = true → q.ids.l = [] ∧ q.lag = false) ∧ (q.en = false → q.lag = true → q.next + q.ids.l.length ≤ ver) ∧
  (q.en = false → q.lag = false → q.next + q.ids.l.length = ver ∨ (q.ids.l = [] ∧ ver < q.next))
theorem okQ_iff (f : Feed) (q : Queue) : okQ f q = true ↔ OkQ f.cap f.ver q := by
  unfold okQ OkQ
  by_cases h1 : q.next < 0
  · simp [h1]; omega
  by_cases h2 : 1000000000 < q.next
  · simp [h1, h2]; omega
  by_cases h3 : f.cap < (q.ids.l.length : Int)
  · simp [h1, h2, h3]; omega
  by_cases hn : q.ids.l = []
  · rw [hn] at h3 ⊢
    have h3' : ¬f.cap < 0 := by simpa using h3
    cases h4 : q.en <;> cases h5 : q.lag <;> simp [h1, h2, h3'] <;> omega
  · cases h4 : q.en <;> cases h5 : q.lag <;> simp [h1, h2, h3, hn] <;> omega
structure Valid (f : Feed) : Prop where
  c1 : 1 ≤ f.cap
  c8 : f.cap ≤ 8
  v0 : 0 ≤ f.ver
  v9 : f.ver ≤ 1000000000
  len : f.subs.l.length ≤ 60
  live : f.live ≤ 4
  qs : ∀ q ∈ f.subs.l, OkQ f.cap f.ver q
theorem chk_iff (f : Feed) : chk f = 0 ↔ Valid f := by
  unfold chk
  constructor
  · intro h
    have hall : okFs f = true := by
      repeat' split at h
      all_goals first | assumption | (exfalso; omega)
    have hq : ∀ q ∈ f.subs.l, OkQ f.cap f.ver q := fun q hq => by
      unfold okFs at hall
      rw [List.all_eq_true] at hall
      exact (okQ_iff f q).1 (hall q hq)
    repeat' split at h
    all_goals first | (exfalso; omega) | skip
    exact ⟨by omega, by omega, by omega, by omega, by omega, by omega, hq⟩
  · rintro ⟨a, b, c, d, e, g, hq⟩
    have hall : okFs f = true := by
      unfold okFs
      rw [List.all_eq_true]
      exact fun q h => (okQ_iff f q).2 (hq q h)
    rw [if_neg (by omega), if_neg (by omega), if_neg (by omega), if_neg (by omega), if_neg (by omega), if_neg (by omega), if_pos hall]
theorem chk_8 (f : Feed) : chk f = 0 ∨ chk f = 8 := by
  unfold chk
  repeat' split
  all_goals simp

theorem OkQ.pub {cap ver : Int} {q : Queue} (h : OkQ cap ver q) (hc : 1 ≤ cap) (x : Id) : OkQ cap (ver + 1) (pubQ cap ver x q) := by
  obtain ⟨h1, h2, h3, h4, h5, h6⟩ := h
  by_cases hs : q.en = true ∨ q.lag = true ∨ ver < q.next
  · rw [pubQ_skip hs]
    refine ⟨h1, h2, h3, h4, fun a b => by have := h5 a b; omega, fun a b => ?_⟩
    rcases h6 a b with h | h
    · rcases hs with e | e | e
      · rw [a] at e; cases e
      · rw [b] at e; cases e
      · omega
    · rcases Int.lt_or_le (ver + 1) q.next with e | e
      · exact .inr ⟨h.1, e⟩
      · refine .inl ?_
        have : q.ids.l.length = 0 := by rw [h.1]; rfl
        omega
  · have hen : q.en = false := by cases he : q.en <;> simp_all
    have hlg : q.lag = false := by cases he : q.lag <;> simp_all
    have hnx : ¬ver < q.next := fun e => hs (.inr (.inr e))
    have heq : q.next + q.ids.l.length = ver := by
      rcases h6 hen hlg with e | e
      · exact e
      · exact absurd e.2 hnx
    by_cases hcap : (q.ids.l.length : Int) = cap
    · rw [pubQ_lag hs hcap]
      refine ⟨h1, h2, h3, fun a => ?_, fun _ _ => ?_, fun _ a => by cases a⟩
      · rw [hen] at a; cases a
      · show q.next + (q.ids.l.length : Int) ≤ ver + 1
        omega
    · rw [pubQ_add hs hcap]
      refine ⟨h1, h2, ?_, fun a => ?_, fun _ a => ?_, fun _ _ => .inl ?_⟩
      · show ((q.ids.l ++ [x]).length : Int) ≤ cap
        simp; omega
      · rw [hen] at a; cases a
      · rw [hlg] at a; cases a
      · show q.next + ((q.ids.l ++ [x]).length : Int) = ver + 1
        simp; omega
theorem pubQ_en (cap ver : Int) (x : Id) (q : Queue) : (pubQ cap ver x q).en = q.en := by
  unfold pubQ
  repeat' split
  all_goals rfl
theorem live_map {g : Queue → Queue} (hg : ∀ q, (g q).en = q.en) (qs : List Queue) : liveL (qs.map g) = liveL qs := by
  unfold liveL
  rw [List.filter_map, List.length_map]
  congr 2
  funext q
  simp [hg]
theorem pubs_ok (cap : Int) (hc : 1 ≤ cap) : ∀ (ids : List Id) (ver : Int) (qs : List Queue), (∀ q ∈ qs, OkQ cap ver q) → (∀ q ∈ pubs cap ver qs ids, OkQ cap (ver + ids.length) q) ∧ liveL (pubs cap ver qs ids) = liveL qs
  | [], ver, qs, h => ⟨by simpa [pubs] using h, rfl⟩
  | x :: r, ver, qs, h => by
    have := pubs_ok cap hc r (ver + 1) (qs.map (pubQ cap ver x)) (fun q hq => by
      obtain ⟨p, hp, rfl⟩ := List.mem_map.1 hq
      exact (h p hp).pub hc x)
    refine ⟨fun q hq => ?_, ?_⟩
    · have h1 := this.1 q hq
      rw [show ver + ((x :: r).length : Int) = ver + 1 + r.length by simp; omega]
      exact h1
    · rw [pubs, this.2, live_map (pubQ_en cap ver x)]
end Fd
end Go.CM
/-
  Feeds: validity is kept.
-/
namespace Go.CM
open Go Go.Proofs
set_option linter.unusedVariables false
set_option linter.unusedSimpArgs false
set_option maxRecDepth 100000
namespace Fd

theorem publish_ok0 {f : Feed} (h : chk f = 0) {ids : List Id} (h1 : ids.length ≤ 60) (h2 : f.ver + ids.length ≤ 1000000000) :
    publish f ids = ({ f with ver := f.ver + ids.length, subs := f.subs.map fun qs => pubs f.cap f.ver qs ids }, 0) := by
  unfold publish; rw [if_neg (by simp [h]), if_neg (by omega)]
theorem publish_subs (f : Feed) (v : Int) (ids : List Id) : ({ f with ver := v, subs := f.subs.map fun qs => pubs f.cap f.ver qs ids } : Feed).subs.l = pubs f.cap f.ver f.subs.l ids := by
  cases hs : f.subs with
  | none =>
    show ([] : List Queue) = pubs f.cap f.ver [] ids
    exact (List.length_eq_zero_iff.1 (by rw [pubs_len]; rfl)).symm
  | some qs => rfl
theorem valid_publish {f : Feed} (h : chk f = 0) {ids : List Id} (h1 : ids.length ≤ 60) (h2 : f.ver + ids.length ≤ 1000000000) : chk (publish f ids).1 = 0 := by
  rw [publish_ok0 h h1 h2]
  have V := (chk_iff f).1 h
  obtain ⟨p1, p2⟩ := pubs_ok f.cap V.c1 ids f.ver f.subs.l V.qs
  have hv := V.live
  refine (chk_iff _).2 ⟨V.c1, V.c8, ?_, h2, ?_, ?_, ?_⟩
  · have := V.v0
    show 0 ≤ f.ver + (ids.length : Int)
    omega
  · rw [publish_subs, pubs_len]; exact V.len
  · unfold Feed.live
    rw [publish_subs, p2]; exact hv
  · rw [publish_subs]; exact p1
theorem live_set {qs : List Queue} {k : Nat} {q p : Queue} (hq : qs[k]? = some q) (h : q.en = true → p.en = true) : liveL (qs.set k p) ≤ liveL qs := by
  induction qs generalizing k with
  | nil => simp at hq
  | cons a l ih =>
    cases k with
    | zero =>
      simp at hq
      subst hq
      simp only [List.set_cons_zero, liveL, List.filter_cons]
      cases ha : a.en <;> cases hp : p.en <;> simp_all
    | succ k =>
      simp at hq
      have := ih hq
      simp only [List.set_cons_succ, liveL, List.filter_cons] at this ⊢
      split <;> simp <;> omega
theorem valid_setQ {f : Feed} (h : chk f = 0) {k : Nat} {q p : Queue} (hq : f.subs.l[k]? = some q) (he : q.en = true → p.en = true) (hp : OkQ f.cap f.ver p) : chk (setQ f k p) = 0 := by
  have V := (chk_iff f).1 h
  refine (chk_iff _).2 ⟨V.c1, V.c8, V.v0, V.v9, ?_, ?_, fun r hr => ?_⟩
  · show (f.subs.l.set k p).length ≤ 60
    rw [List.length_set]; exact V.len
  · show liveL (f.subs.l.set k p) ≤ 4
    exact Nat.le_trans (live_set hq he) V.live
  · rcases List.mem_or_eq_of_mem_set (show r ∈ f.subs.l.set k p from hr) with h1 | h1
    · exact V.qs r h1
    · rw [h1]; exact hp
theorem OkQ.tk {cap ver : Int} {q : Queue} {x : Id} {r : List Id} (h : OkQ cap ver q) (hv : ver ≤ 1000000000) (hi : q.ids.l = x :: r) (he : q.en = false) : OkQ cap ver { q with next := q.next + 1, ids := some r } := by
  obtain ⟨h1, h2, h3, h4, h5, h6⟩ := h
  rw [hi] at h3 h5 h6
  simp at h3 h5 h6
  have hb : q.next + 1 + (r.length : Int) ≤ ver := by
    cases hl : q.lag
    · have := h6 he hl; omega
    · have := h5 he hl; omega
  refine ⟨?_, ?_, ?_, fun a => ?_, fun _ a => ?_, fun _ a => .inl ?_⟩
  · show 0 ≤ q.next + 1; omega
  · show q.next + 1 ≤ 1000000000; omega
  · show (r.length : Int) ≤ cap; omega
  · rw [he] at a; cases a
  · show q.next + 1 + (r.length : Int) ≤ ver; omega
  · show q.next + 1 + (r.length : Int) = ver
    have := h6 he a; omega
theorem OkQ.lg {cap ver : Int} {q : Queue} (h : OkQ cap ver q) (hi : q.ids.l = []) : OkQ cap ver { q with lag := false, en := true } := by
  obtain ⟨h1, h2, h3, _⟩ := h
  exact ⟨h1, h2, h3, fun _ => ⟨hi, rfl⟩, fun a => (by cases a), fun a => (by cases a)⟩
theorem OkQ.nd {cap ver : Int} {q : Queue} (h : OkQ cap ver q) (hc : 1 ≤ cap) : OkQ cap ver (endQ q) := by
  obtain ⟨h1, h2, h3, _⟩ := h
  exact ⟨h1, h2, by show ((0 : Nat) : Int) ≤ cap; omega, fun _ => ⟨rfl, rfl⟩, fun a => (by cases a), fun a => (by cases a)⟩
theorem valid_sub {f : Feed} (h : chk f = 0) {n : Int} (hn : (sub f n).2.2 = 0) : chk (sub f n).1 = 0 := by
  have V := (chk_iff f).1 h
  unfold sub at hn ⊢
  repeat' split at hn
  all_goals first | (exfalso; revert hn; simp; done) | skip
  all_goals first | (exfalso; simp_all; done) | skip
  rename_i a1 a2 a3 a4 a5
  rw [if_neg a1, if_neg a2, if_neg a3, if_neg a4, if_neg a5]
  have hl : liveL (f.subs.l ++ [newQ n]) = liveL f.subs.l + 1 := by simp [liveL, List.filter_append, newQ]
  have v1 := V.len
  have v2 := V.live
  have v3 := V.v0
  have v4 := V.c1
  unfold Feed.live at a5 v2
  refine (chk_iff _).2 ⟨V.c1, V.c8, V.v0, V.v9, ?_, ?_, fun r hr => ?_⟩
  · show (f.subs.l ++ [newQ n]).length ≤ 60
    simp; omega
  · show liveL (f.subs.l ++ [newQ n]) ≤ 4
    omega
  · rcases List.mem_append.1 (show r ∈ f.subs.l ++ [newQ n] from hr) with h1 | h1
    · exact V.qs r h1
    · simp at h1; subst h1
      refine ⟨?_, ?_, ?_, fun a => (by cases a), fun _ a => (by cases a), fun _ _ => ?_⟩
      · show 0 ≤ n; omega
      · show n ≤ 1000000000; omega
      · show ((0 : Nat) : Int) ≤ f.cap; omega
      · show n + ((0 : Nat) : Int) = f.ver ∨ (([] : List Id) = [] ∧ f.ver < n)
        rcases Int.lt_or_le f.ver n with e | e
        · exact .inr ⟨rfl, e⟩
        · exact .inl (by omega)
end Fd
end Go.CM

/-
  Feeds: alive, id, ids.
-/
namespace Go.CM
open Go Go.Proofs
set_option linter.unusedVariables false
set_option linter.unusedSimpArgs false
set_option maxRecDepth 100000
namespace Fd

def idOf (n : Nat) : Id := (n : Int) :: 0 :: 1 :: List.replicate 29 0
theorem idOf_len (n : Nat) : (idOf n).length = 32 := by simp [idOf]
theorem enc_idOf (n : Nat) : encId (idOf n) = [.int .u8 n, .int .u8 0, .int .u8 1, .int .u8 0, .int .u8 0, .int .u8 0, .int .u8 0, .int .u8 0, .int .u8 0, .int .u8 0, .int .u8 0, .int .u8 0, .int .u8 0, .int .u8 0, .int .u8 0, .int .u8 0, .int .u8 0, .int .u8 0, .int .u8 0, .int .u8 0, .int .u8 0, .int .u8 0, .int .u8 0, .int .u8 0, .int .u8 0, .int .u8 0, .int .u8 0, .int .u8 0, .int .u8 0, .int .u8 0, .int .u8 0, .int .u8 0] := rfl

def idsL (a n : Nat) : List Id := (List.range n).map fun i => idOf (a + i)
def idsOf (a n : Nat) : Sv Id := if n = 0 then none else some (idsL a n)
theorem idsL_succ (a n : Nat) : idsL a (n + 1) = idsL a n ++ [idOf (a + n)] := by simp [idsL, List.range_succ]
theorem idsL_len (a n : Nat) : (idsL a n).length = n := by simp [idsL]
theorem idsL_32 (a n : Nat) : ∀ x ∈ idsL a n, x.length = 32 := fun x hx => by
  obtain ⟨i, _, rfl⟩ := List.mem_map.1 hx; exact idOf_len _
theorem idsOf_l (a n : Nat) : (idsOf a n).l = idsL a n := by
  unfold idsOf
  split
  · rename_i h; rw [h]; rfl
  · rfl
theorem idsOf_ok (a n : Nat) : okIds (idsOf a n) := fun x hx => idsL_32 a n x (by rw [← idsOf_l]; exact hx)

end Fd
end Go.CM

/-
  Feeds: the law FeedKeeps: one round, plain.
-/
namespace Go.CM
open Go Go.Proofs
set_option linter.unusedVariables false
set_option linter.unusedSimpArgs false
set_option maxRecDepth 100000
namespace Fd

/-- A subscriber whose queue is empty and up to date. -/
structure Now (m : Nat) (v : Int) (k : Nat) (f : Feed) : Prop where
  ok : chk f = 0
  b : okB m f
  ver : f.ver = v
  q : ∃ q, f.subs.l[k]? = some q ∧ q.next = v ∧ q.ids.l = [] ∧ q.lag = false ∧ q.en = false
theorem pubs1 (cap ver : Int) (qs : List Queue) (x : Id) : pubs cap ver qs [x] = qs.map (pubQ cap ver x) := rfl

theorem now_round {m : Nat} {v : Int} {k : Nat} {f : Feed} (N : Now m v k f) (hv : v ≤ 1000040) {x : Id} (hx : x.length = 32) :
    (publish f [x]).2 = 0 ∧ (take (publish f [x]).1 k).kind = 1 ∧ (take (publish f [x]).1 k).number = v ∧ (take (publish f [x]).1 k).id = x ∧ (take (publish f [x]).1 k).e = 0 ∧
    Now (m + 1) (v + 1) k (take (publish f [x]).1 k).f ∧ (take (take (publish f [x]).1 k).f k).e = 38 := by
  obtain ⟨q, hq, hn, hi, hl, he⟩ := N.q
  have V := (chk_iff f).1 N.ok
  have hver := N.ver
  have hp := publish_ok0 N.ok (ids := [x]) (by simp) (by simp; omega)
  have hvp := valid_publish N.ok (ids := [x]) (by simp) (by simp; omega)
  have hbp := okB_publish N.b (ids := [x]) (fun y hy => by simp at hy; rw [hy]; exact hx)
  obtain ⟨g, hg⟩ : ∃ g, g = (publish f [x]).1 := ⟨_, rfl⟩
  have hg2 : g.subs.l = f.subs.l.map (pubQ f.cap f.ver x) := by
    rw [hg, hp, publish_subs, pubs1]
  have hgv : g.ver = v + 1 := by rw [hg, hp]; show f.ver + 1 = v + 1; omega
  rw [← hg] at hvp hbp ⊢
  have hpq : pubQ f.cap f.ver x q = { q with ids := some [x] } := by
    rw [pubQ_add (by simp [he, hl]; omega) (by rw [hi]; have := V.c1; simp; omega), hi]; rfl
  have hgq : g.subs.l[k]? = some { q with ids := some [x] } := by
    rw [hg2, List.getElem?_map, hq, ← hpq]; rfl
  have hnum : num g k = 0 := by
    unfold num
    rw [if_neg (by simp [hvp]), if_neg (by omega), if_neg (by have := lt_get hgq; omega), Int.toNat_natCast, hgq]
    simp [he]
  have ht := take_id (x := x) (r := []) hnum hgq rfl
  have hVg := (chk_iff g).1 hvp
  have hok2 : OkQ g.cap g.ver { ({ q with ids := some [x] } : Queue) with next := q.next + 1, ids := some [] } := (hVg.qs _ (List.mem_of_getElem? hgq)).tk hVg.v9 rfl he
  have hv2 := valid_setQ hvp hgq (fun a => by exact a) hok2
  have hb2 := okB_take hbp k
  rw [ht] at hb2 ⊢
  refine ⟨by rw [hp], rfl, hn, rfl, rfl, ⟨hv2, hb2, hgv, ?_⟩, ?_⟩
  · exact ⟨_, get_set hgq, by show q.next + 1 = v + 1; omega, rfl, hl, he⟩
  · have hq3 : (setQ g k { ({ q with ids := some [x] } : Queue) with next := q.next + 1, ids := some [] }).subs.l[k]? = some { ({ q with ids := some [x] } : Queue) with next := q.next + 1, ids := some [] } := get_set hgq
    rw [take_busy (by
      unfold num
      rw [if_neg (by simp [hv2]), if_neg (by omega), if_neg (by have := lt_get hq3; omega), Int.toNat_natCast, hq3]
      simp [he]) hq3 rfl hl]
end Fd
end Go.CM

/-
  Feeds: the law FeedKeeps, walked.
-/
namespace Go.CM
open Go Go.Proofs
set_option linter.unusedVariables false
set_option linter.unusedSimpArgs false
set_option maxRecDepth 100000
namespace Fd

theorem sub_err {f : Feed} (h : chk f = 0) (hv : f.ver ≤ 1000000000) : (sub f f.ver).2.2 = 0 ∨ (sub f f.ver).2.2 = 18 := by
  unfold sub
  rw [if_neg (by simp [h]), if_neg (by omega), if_neg (by omega)]
  repeat' split
  all_goals simp
theorem now_sub {f : Feed} (h : chk f = 0) (hb : okB 100 f) (hv : f.ver ≤ 1000000000) (h0 : (sub f f.ver).2.2 = 0) : Now 101 f.ver f.subs.l.length (sub f f.ver).1 ∧ (sub f f.ver).2.1 = f.subs.l.length := by
  have h1 := valid_sub h h0
  have h2 := okB_sub hb f.ver
  have hs : sub f f.ver = ({ f with subs := some (f.subs.l ++ [newQ f.ver]) }, (f.subs.l.length : Int), (0 : Int)) := by
    unfold sub at h0 ⊢
    rw [if_neg (by simp [h]), if_neg (by omega), if_neg (by omega)] at h0 ⊢
    split at h0
    · simp at h0
    · split at h0
      · simp at h0
      · rename_i a b; rw [if_neg a, if_neg b]
  rw [hs] at h1 h2 ⊢
  refine ⟨⟨h1, h2, rfl, newQ f.ver, ?_, rfl, rfl, rfl, rfl⟩, rfl⟩
  show (f.subs.l ++ [newQ f.ver])[f.subs.l.length]? = _
  simp

end Fd
end Go.CM

/-
  Play, as plain data: what is played, step by step; a feed with one subscriber does the same.
-/
namespace Go.CM
open Go Go.Proofs
set_option linter.unusedVariables false
set_option linter.unusedSimpArgs false
set_option maxRecDepth 100000
namespace Fd

structure PS where
  w : List Id
  lag : Bool
  en : Bool
  nx : Nat
  out : List Id
def pstep (cap : Int) (order : List Id) (s : PS) (take : Bool) : PS :=
  match take with
  | true => match s.w with
    | x :: r => { s with w := r, out := s.out ++ [x] }
    | [] => if s.lag = true then { s with lag := false, en := true } else s
  | false => match order[s.nx]? with
    | none => s
    | some x => if s.lag = true ∨ s.en = true then { s with nx := s.nx + 1 } else if (s.w.length : Int) < cap then { s with w := s.w ++ [x], nx := s.nx + 1 } else { s with lag := true, nx := s.nx + 1 }
def pstart : PS := ⟨[], false, false, 0, []⟩
def pAt (cap : Int) (order : List Id) (moves : List Bool) (k : Nat) : PS := (moves.take k).foldl (pstep cap order) pstart
theorem pAt_succ (cap : Int) (order : List Id) (moves : List Bool) (k : Nat) (t : Bool) (h : moves[k]? = some t) : pAt cap order moves (k + 1) = pstep cap order (pAt cap order moves k) t := by
  unfold pAt
  rw [List.take_add_one, h]; simp [List.foldl_append]
theorem pAt_all (cap : Int) (order : List Id) (moves : List Bool) (k : Nat) (h : moves.length ≤ k) : pAt cap order moves k = pAt cap order moves moves.length := by
  unfold pAt
  rw [List.take_of_length_le h, List.take_length]

/-- What holds of what is played. -/
structure PsOk (cap : Int) (order : List Id) (s : PS) : Prop where
  c : (s.w.length : Int) ≤ cap
  le : s.out.length + s.w.length ≤ s.nx
  nx : s.nx ≤ order.length
  w : ∀ x ∈ s.w, x.length = 32
  o : ∀ x ∈ s.out, x.length = 32
  e : s.en = true → s.w = [] ∧ s.lag = false
theorem psOk_start (cap : Int) (order : List Id) (hc : 1 ≤ cap) : PsOk cap order pstart := ⟨by show ((0 : Nat) : Int) ≤ cap; omega, Nat.le_refl _, Nat.zero_le _, by simp [pstart], by simp [pstart], by simp [pstart]⟩
theorem psOk_step {cap : Int} {order : List Id} (ho : ∀ x ∈ order, x.length = 32) {s : PS} (h : PsOk cap order s) (t : Bool) : PsOk cap order (pstep cap order s t) := by
  obtain ⟨h1, h2, h3, h4, h5, h6⟩ := h
  cases t with
  | true =>
    unfold pstep
    cases hw : s.w with
    | cons x r =>
      rw [hw] at h1 h2 h4 h6
      simp only
      refine ⟨?_, ?_, h3, fun y hy => h4 y (by simp [hy]), fun y hy => ?_, fun he => by cases (h6 he).1⟩
      · simp at h1 ⊢; omega
      · simp at h2 ⊢; omega
      · simp at hy
        rcases hy with hy | rfl
        · exact h5 y hy
        · exact h4 _ (by simp)
    | nil =>
      simp only
      split
      · exact ⟨by rw [hw] at h1; exact h1, by rw [hw] at h2; exact h2, h3, by simp, h5, fun _ => ⟨rfl, rfl⟩⟩
      · exact ⟨h1, h2, h3, h4, h5, h6⟩
  | false =>
    unfold pstep
    cases hx : order[s.nx]? with
    | none => exact ⟨h1, h2, h3, h4, h5, h6⟩
    | some x =>
      have hlt := (List.getElem?_eq_some_iff.1 hx).1
      simp only
      split
      · exact ⟨h1, by show s.out.length + s.w.length ≤ s.nx + 1; omega, hlt, h4, h5, h6⟩
      · rename_i hn
        split
        · rename_i hc
          refine ⟨?_, ?_, hlt, fun y hy => ?_, h5, fun he => absurd (.inr he) hn⟩
          · simp; omega
          · simp; omega
          · simp at hy
            rcases hy with hy | rfl
            · exact h4 y hy
            · exact ho _ (List.mem_of_getElem? hx)
        · exact ⟨h1, by show s.out.length + s.w.length ≤ s.nx + 1; omega, hlt, h4, h5, fun he => absurd (.inr he) hn⟩
theorem psOk_at {cap : Int} {order : List Id} (hc : 1 ≤ cap) (ho : ∀ x ∈ order, x.length = 32) (moves : List Bool) : ∀ k, PsOk cap order (pAt cap order moves k)
  | 0 => psOk_start cap order hc
  | k + 1 => by
    cases hm : moves[k]? with
    | none =>
      have hk := List.getElem?_eq_none_iff.1 hm
      rw [pAt_all _ _ _ _ (by omega), ← pAt_all _ _ _ k hk]
      exact psOk_at hc ho moves k
    | some t =>
      rw [pAt_succ _ _ _ _ t hm]
      exact psOk_step ho (psOk_at hc ho moves k) t

/-- A feed with one subscriber, played so far. -/
structure Pl (cap from_ : Int) (s : PS) (f : Feed) : Prop where
  ok : chk f = 0
  cap : f.cap = cap
  ver : f.ver = from_ + s.nx
  q : ∃ q, f.subs.l = [q] ∧ q.next = from_ + s.out.length ∧ q.ids.l = s.w ∧ q.lag = s.lag ∧ q.en = s.en
theorem Pl.okF {cap from_ : Int} {s : PS} {f : Feed} {order : List Id} (P : Pl cap from_ s f) (hs : PsOk cap order s) (hc : cap ≤ 8) : okF f := by
  obtain ⟨q, hq, _, h2, _⟩ := P.q
  refine ⟨fun q' hq' => ?_, by rw [hq]; simp⟩
  rw [hq] at hq'
  simp at hq'
  subst hq'
  have := hs.c
  exact ⟨fun x hx => hs.w x (by rw [← h2]; exact hx), by rw [h2]; omega⟩
theorem Pl.num {cap from_ : Int} {s : PS} {f : Feed} (P : Pl cap from_ s f) : num f 0 = if s.en then 34 else 0 := by
  obtain ⟨q, hq, _, _, _, h4⟩ := P.q
  unfold Fd.num
  rw [if_neg (by simp [P.ok]), if_neg (by omega), if_neg (by rw [hq]; simp)]
  have : f.subs.l[0]? = some q := by rw [hq]; rfl
  simp [this, h4]
theorem pubs1' (cap ver : Int) (qs : List Queue) (x : Id) : pubs cap ver qs [x] = qs.map (pubQ cap ver x) := rfl
theorem pl_pub {cap from_ : Int} {order : List Id} {s : PS} {f : Feed} {x : Id} (P : Pl cap from_ s f) (hs : PsOk cap order s) (hx : order[s.nx]? = some x) (hn : s.nx ≤ 1000) (h60 : from_ ≤ 60) :
    (publish f [x]).2 = 0 ∧ Pl cap from_ (pstep cap order s false) (publish f [x]).1 := by
  obtain ⟨q, hq, e1, e2, e3, e4⟩ := P.q
  have V := (chk_iff f).1 P.ok
  have hver := P.ver
  have hp := publish_ok0 P.ok (ids := [x]) (by simp) (by simp; omega)
  have hvp := valid_publish P.ok (ids := [x]) (by simp) (by simp; omega)
  have hsub : (publish f [x]).1.subs.l = [pubQ f.cap f.ver x q] := by rw [hp, publish_subs, pubs1', hq]; rfl
  have hle := hs.le
  have hstep : pstep cap order s false = if s.lag = true ∨ s.en = true then { s with nx := s.nx + 1 } else if (s.w.length : Int) < cap then { s with w := s.w ++ [x], nx := s.nx + 1 } else { s with lag := true, nx := s.nx + 1 } := by
    unfold pstep; rw [hx]
  have hnv : ¬ f.ver < q.next := by omega
  have hcap := hs.c
  have hnx : (pstep cap order s false).nx = s.nx + 1 := by rw [hstep]; split <;> (try split) <;> rfl
  refine ⟨by rw [hp], hvp, by rw [hp]; exact P.cap, by rw [hp, hnx]; show f.ver + 1 = _; omega, _, hsub, ?_⟩
  rw [hstep]
  by_cases h1 : s.lag = true ∨ s.en = true
  · rw [if_pos h1, pubQ_skip (by rw [e3, e4]; rcases h1 with h | h <;> simp [h])]
    exact ⟨e1, e2, e3, e4⟩
  · have hno : ¬(q.en = true ∨ q.lag = true ∨ f.ver < q.next) := by
      rw [e3, e4]
      rintro (h | h | h)
      · exact h1 (.inr h)
      · exact h1 (.inl h)
      · exact hnv h
    rw [if_neg h1]
    by_cases h2 : (s.w.length : Int) < cap
    · rw [if_pos h2, pubQ_add hno (by rw [e2, P.cap]; omega)]
      exact ⟨e1, by show q.ids.l ++ [x] = s.w ++ [x]; rw [e2], e3, e4⟩
    · rw [if_neg h2, pubQ_lag hno (by rw [e2, P.cap]; omega)]
      exact ⟨e1, e2, rfl, e4⟩
theorem pl_take {cap from_ : Int} {order : List Id} {s : PS} {f : Feed} (P : Pl cap from_ s f) (hs : PsOk cap order s) (hn : s.nx ≤ 1000) (h60 : from_ ≤ 60) :
    ((take f 0).e = 0 ∧ (take f 0).kind = 1 ∧ (∃ r, s.w = (take f 0).id :: r) ∧ Pl cap from_ (pstep cap order s true) (take f 0).f) ∨
    ((take f 0).e = 0 ∧ (take f 0).kind = 2 ∧ s.w = [] ∧ s.lag = true ∧ Pl cap from_ (pstep cap order s true) (take f 0).f) ∨
    (((take f 0).e = 38 ∨ (take f 0).e = 34) ∧ s.w = [] ∧ s.lag = false ∧ pstep cap order s true = s) := by
  have hnum := P.num
  obtain ⟨q, hq, e1, e2, e3, e4⟩ := P.q
  have V := (chk_iff f).1 P.ok
  have hver := P.ver
  have hg : f.subs.l[0]? = some q := by rw [hq]; rfl
  have hok := V.qs q (by rw [hq]; simp)
  cases hen : s.en with
  | true =>
    obtain ⟨h1, h2⟩ := hs.e hen
    rw [hen] at hnum
    right; right
    rw [take_bad (by rw [hnum]; simp)]
    refine ⟨.inr (by rw [hnum]; rfl), h1, h2, ?_⟩
    unfold pstep; rw [h1]; simp [h2]
  | false =>
    rw [hen] at hnum e4
    have hnum0 : num f (0 : Nat) = 0 := by simpa using hnum
    cases hw : s.w with
    | cons x r =>
      left
      rw [hw] at e2
      have ht := take_id hnum0 hg e2
      have hv2 := valid_setQ P.ok hg (fun a => by exact a) (hok.tk V.v9 e2 e4)
      rw [show ((0 : Nat) : Int) = 0 from rfl] at ht
      rw [ht]
      have hst : pstep cap order s true = { s with w := r, out := s.out ++ [x] } := by unfold pstep; rw [hw]
      rw [hst]
      refine ⟨rfl, rfl, ⟨r, rfl⟩, hv2, P.cap, P.ver, { q with next := q.next + 1, ids := some r }, (by show f.subs.l.set 0 _ = _; rw [hq]; rfl), ?_, rfl, e3, by rw [hen]; exact e4⟩
      show q.next + 1 = from_ + ((s.out ++ [x]).length : Int)
      simp; omega
    | nil =>
      right
      rw [hw] at e2
      cases hl : s.lag with
      | true =>
        left
        have ht := take_lag hnum0 hg e2 (by rw [e3]; exact hl)
        have hv2 := valid_setQ P.ok hg (fun a => (by rfl)) (hok.lg e2)
        rw [show ((0 : Nat) : Int) = 0 from rfl] at ht
        rw [ht]
        have hst : pstep cap order s true = { s with lag := false, en := true } := by unfold pstep; rw [hw]; simp [hl]
        rw [hst]
        exact ⟨rfl, rfl, rfl, rfl, hv2, P.cap, P.ver, { q with lag := false, en := true }, (by show f.subs.l.set 0 _ = _; rw [hq]; rfl), e1, by show q.ids.l = s.w; rw [e2, hw], rfl, rfl⟩
      | false =>
        right
        have ht := take_busy hnum0 hg e2 (by rw [e3]; exact hl)
        rw [show ((0 : Nat) : Int) = 0 from rfl] at ht
        rw [ht]
        refine ⟨.inl rfl, rfl, rfl, ?_⟩
        unfold pstep; rw [hw]; simp [hl]
/-- The start: a new feed at a number, with one subscriber. -/
theorem pl_start {cap from_ : Int} (hc1 : 1 ≤ cap) (hc8 : cap ≤ 8) (h0 : 0 ≤ from_) (h60 : from_ ≤ 60) : (sub ⟨cap, from_, none⟩ from_).2 = (0, 0) ∧ Pl cap from_ pstart (sub ⟨cap, from_, none⟩ from_).1 := by
  have hchk : chk ⟨cap, from_, none⟩ = 0 := (chk_iff _).2 ⟨hc1, hc8, h0, by show from_ ≤ 1000000000; omega, by show 0 ≤ 60; omega, by show (0 : Nat) ≤ 4; omega, fun q hq => by cases hq⟩
  have hs : sub ⟨cap, from_, none⟩ from_ = (⟨cap, from_, some [newQ from_]⟩, 0, 0) := by
    unfold sub
    rw [if_neg (by simp [hchk]), if_neg (by show ¬ from_ < from_; omega), if_neg (by omega), if_neg (by show ¬((0 : Nat) : Int) = 60; omega), if_neg (by show ¬((0 : Nat) : Int) = 4; omega)]
    rfl
  have hv := valid_sub hchk (n := from_) (by rw [hs])
  rw [hs] at hv ⊢
  exact ⟨rfl, hv, rfl, by show from_ = from_ + ((0 : Nat) : Int); omega, _, rfl, by show from_ = from_ + ((0 : Nat) : Int); omega, rfl, rfl, rfl⟩
/-- What Play answers: the ids, whether it lagged, the error. -/
def play (cap from_ : Int) (order : List Id) (moves : List Bool) : Int × List Id × Bool × Int :=
  if from_ < 0 ∨ 60 < from_ ∨ cap < 1 ∨ 8 < cap then (0, [], false, 2) else if 60 < (order.length : Int) ∨ 200 < (moves.length : Int) then (0, [], false, 4)
  else (from_, (pAt cap order moves moves.length).out, (pAt cap order moves moves.length).en, 0)
def sOf (l : List Id) : Sv Id := match l with | [] => none | x :: r => some (x :: r)
theorem sOf_l (l : List Id) : (sOf l).l = l := by cases l <;> rfl
theorem sOf_nil (l : List Id) : (sOf l).isNone = l.isEmpty := by cases l <;> rfl
def encD (n : Int) (s : Sv Id) (b : Bool) : CV := .ag [.int .i64 n, encIds s, .bool b]
def encPlay (p : Int × List Id × Bool × Int) : CV := .tu [encD p.1 (sOf p.2.1) p.2.2.1, .int .i64 p.2.2.2]
end Fd
end Go.CM

/-
  deliver.Play, walked.
-/
namespace Go.CM
open Go Go.Proofs
set_option linter.unusedVariables false
set_option linter.unusedSimpArgs false
set_option maxRecDepth 100000
namespace Fd

def encMoves (s : Sv Bool) : CV := encS 1 (fun b => [.bool b]) s
def cellsF (f : Feed) : List CV := [.int .i64 f.cap, .int .i64 f.ver, encSubs f.subs]
theorem encF_cells (f : Feed) : encF f = .ag (cellsF f) := rfl
theorem cellsF_len (f : Feed) : (cellsF f).length = 3 := rfl
theorem spF (f g : Feed) : splice (cellsF f) 0 (cellsF g) = cellsF g := rfl
theorem tkF (f : Feed) : (cellsF f).take 3 = cellsF f := rfl
theorem closed_cellsF (f : Feed) : closedL (cellsF f) = true := by have := closed_F f; simpa [encF, CV.closed, cellsF] using this
theorem rd_play0 {l : Hl} {e e' : Int} (h : e = e') : Rd l (.tu [.ag [.int .i64 0, .nilS, .bool false], .int .i64 e]) (encPlay (0, [], false, e')) := by subst h; exact .same _ rfl

theorem take_id_len (f : Feed) (n : Int) (h : ∀ q ∈ f.subs.l, okQs q) : (take f n).id.length = 32 := by
  unfold take
  split
  · rfl
  · split
    · rfl
    · rename_i q hq
      split
      · rename_i x r hx
        exact (h q (List.mem_of_getElem? hq)).1 x (by rw [hx]; simp)
      · split <;> rfl
def InvP (cap from_ : Int) (order : List Id) (moves : List Bool) (k : Nat) (o : CV) (l : Hl) : Prop :=
  ∃ (s : PS) (f : Feed) (os : Sv Id) (v : CV) (j : Nat) (rest : Hl), s = pAt cap order moves k ∧ Pl cap from_ s f ∧ o = encIds os ∧ os.l = order.drop s.nx ∧ OwnS 32 l v j (s.out.map encId) ∧ (v = .nilS ∨ 3 ≤ j) ∧ isNilS v = s.out.isEmpty ∧
      l = .cells 3 [.int .i64 0, .nilS, .bool false] :: .cells 3 (cellsF f) :: .cells 3 [.int .i64 from_, v, .bool s.en] :: rest

set_option maxHeartbeats 16000000 in
theorem play_ok (cap from_ : Int) (order : Sv Id) (moves : Sv Bool) (ho : okIds order) (hol : order.l.length ≤ 1000000) (hml : moves.l.length ≤ 1000000) :
    PureC Try.prog G0 4 [.int .i64 cap, .int .i64 from_, encIds order, encMoves moves] (encPlay (play cap from_ order.l moves.l)) := by
  have hr0 : roomMax = 140737488355328 := rfl
  refine pure_of Try.checked.mixed G0_closed ?_
  apply call_intro c4_eq r4_eq
  unfold c4 r4
  have hlo : lenM (.sl 32) (encIds order) = some (.int .i64 order.l.length) := len_encS _
  have hlm : lenM (.sl 1) (encMoves moves) = some (.int .i64 moves.l.length) := len_encS _
  have h2 : ∀ p : from_ < 0 ∨ 60 < from_ ∨ cap < 1 ∨ 8 < cap, play cap from_ order.l moves.l = (0, [], false, 2) := fun p => by unfold play; rw [if_pos p]
  by_cases hf0 : from_ < 0
  · simp [hf0]
    rw [h2 (.inl hf0)]
    exact rd_play0 rfl
  by_cases hf60 : 60 < from_
  · simp [hf0, hf60]
    rw [h2 (.inr (.inl hf60))]
    exact rd_play0 rfl
  have hnew := new_ok cap
  by_cases hc : cap < 1 ∨ 8 < cap
  · have hn : newF cap = (zeroF, 2) := by
      unfold newF
      by_cases h1 : cap < 1
      · rw [if_pos h1]
      · rw [if_neg h1, if_pos (by omega)]
    rw [hn] at hnew
    simp [hf0, hf60]
    refine pure_call hnew rfl ?_
    simp [encF]
    rw [h2 (by omega)]
    exact rd_play0 rfl
  have hn : newF cap = (⟨cap, 0, none⟩, 0) := by unfold newF; rw [if_neg (by omega), if_neg (by omega)]
  rw [hn] at hnew
  by_cases h4 : 60 < (order.l.length : Int) ∨ 200 < (moves.l.length : Int)
  · have hp : play cap from_ order.l moves.l = (0, [], false, 4) := by unfold play; rw [if_neg (by omega), if_pos h4]
    simp [hf0, hf60]
    refine pure_call hnew rfl ?_
    rcases h4 with h4 | h4
    · simp [encF, hlo, h4]
      rw [hp]; exact rd_play0 rfl
    · by_cases h5 : 60 < (order.l.length : Int)
      · simp [encF, hlo, h5]
        rw [hp]; exact rd_play0 rfl
      · simp [encF, hlo, h5, hlm, h4]
        rw [hp]; exact rd_play0 rfl
  have hp : play cap from_ order.l moves.l = (from_, (pAt cap order.l moves.l moves.l.length).out, (pAt cap order.l moves.l moves.l.length).en, 0) := by unfold play; rw [if_neg (by omega), if_neg h4]
  rw [hp]
  have h41 : ¬ 60 < (order.l.length : Int) := fun h => h4 (.inl h)
  have h42 : ¬ 200 < (moves.l.length : Int) := fun h => h4 (.inr h)
  obtain ⟨hs1, hs2⟩ := pl_start (cap := cap) (from_ := from_) (by omega) (by omega) (by omega) (by omega)
  have hsub := subscribe_ok ⟨cap, from_, none⟩ from_ ⟨fun q hq => (by cases hq), by show 0 ≤ 1000000; omega⟩
  rw [show (sub ⟨cap, from_, none⟩ from_).2.1 = 0 by rw [hs1], show (sub ⟨cap, from_, none⟩ from_).2.2 = 0 by rw [hs1]] at hsub
  simp [hf0, hf60]
  refine pure_call hnew rfl ?_
  simp [encF, hlo, h41, hlm, h42, encSubs, encS]
  refine pure_call hsub (by simp [closedL, closed_F, CV.closed]) ?_
  obtain ⟨F0, hF0⟩ : ∃ F0, F0 = (sub ⟨cap, from_, none⟩ from_).1 := ⟨_, rfl⟩
  rw [← hF0] at hs2
  rw [← hF0]
  simp [encF_cells, cellsF_len, hlm]
  refine loop_up moves.l.length (fun k σ l => σ 8 = .ptr 0 0 3 ∧ σ 10 = .ptr 1 0 3 ∧ σ 12 = .int .i64 0 ∧ σ 13 = .ptr 2 0 3 ∧ σ 61 = encMoves moves ∧ σ 62 = .int .i64 moves.l.length ∧ σ 63 = .int .i64 k ∧
    InvP cap from_ order.l moves.l k (σ 2) l) ?_ ?_
  · rintro k σ l hk ⟨g8, g10, g12, g13, g61, g62, g63, hinv⟩
    obtain ⟨s, f, os, v, j, rest, hs, P, g2, hos, hown, hj, hnil, rfl⟩ := hinv
    obtain ⟨σ, rfl⟩ := upds8 g2 g8 g10 g12 g13 g61 g62 g63
    clear g2 g8 g10 g12 g13 g61 g62 g63
    unfold l4_0
    have hso : PsOk cap order.l s := by rw [hs]; exact psOk_at (by omega) ho _ _
    by_cases hkm : k < moves.l.length
    · obtain ⟨t, ht, _⟩ := get_of hkm
      have hsucc := pAt_succ cap order.l moves.l k t ht
      rw [← hs] at hsucc
      have hia : iaC (.sl 1) (encMoves moves) (.int .i64 k) = some (.rptr [.bool t] 0) := by unfold encMoves; rw [ia_encS]; simp [ht]
      have hwk : IntKind.i64.wrap ((k : Int) + 1) = (k + 1 : Nat) := wrap_i64 (by omega) (by omega)
      have hlos : lenM (.sl 32) (encIds os) = some (.int .i64 os.l.length) := len_encS _
      cases t with
      | false =>
        by_cases hex : s.nx < order.l.length
        · obtain ⟨x, hx, hxm⟩ := get_of hex
          have hd : order.l.drop s.nx = x :: order.l.drop (s.nx + 1) := by
            rw [List.drop_eq_getElem_cons hex]; congr 1; exact (List.getElem?_eq_some_iff.1 hx).2
          rw [hd] at hos
          obtain ⟨os', rfl⟩ : ∃ l', os = some l' := by
            cases os with
            | none => cases hos
            | some l' => exact ⟨l', rfl⟩
          rw [Sv.l_some] at hos
          subst hos
          obtain ⟨hp2, P2⟩ := pl_pub P hso hx (by omega) (by omega)
          have hpub := publish_ok f (some [x]) (P.okF hso (by omega)) (fun y hy => by simp at hy; rw [hy]; exact ho _ hxm) (by simp)
          rw [Sv.l_some, hp2] at hpub
          obtain ⟨f', hf'⟩ : ∃ f', f' = (publish f [x]).1 := ⟨_, rfl⟩
          rw [← hf'] at hpub P2
          have hst : sliceM (.sl 32) (encIds (some (x :: order.l.drop (s.nx + 1)))) none (some (.int .i64 1)) none = some (encIds (some [x])) := by
            unfold encIds; rw [slice_to (by omega) (by simp; omega)]; rfl
          have hsf : sliceM (.sl 32) (encIds (some (x :: order.l.drop (s.nx + 1)))) (some (.int .i64 1)) none none = some (encIds (some (order.l.drop (s.nx + 1)))) := by
            unfold encIds; rw [slice_from (by omega) (by simp; omega)]; rfl
          have hlos2 : lenM (.sl 32) (encIds (some (x :: order.l.drop (s.nx + 1)))) = some (.int .i64 ((order.l.drop (s.nx + 1)).length + 1 : Nat)) := len_encS _
          have hpos : (0 : Int) < ((order.l.drop (s.nx + 1)).length + 1 : Nat) := by omega
          have hcl : closedL [CV.ag (cellsF f), encIds (some [x])] = true := by simp [closedL, CV.closed, closed_cellsF, closed_ids]
          rw [encF_cells, encF_cells] at hpub
          have hst8 : (pstep cap order.l s false).nx = s.nx + 1 ∧ (pstep cap order.l s false).out = s.out ∧ (pstep cap order.l s false).en = s.en := by
            unfold pstep; rw [hx]; simp only; split <;> (try split) <;> exact ⟨rfl, rfl, rfl⟩
          have hown2 := hown.frame2 (l' := CB.cells 3 [CV.int IntKind.i64 0, CV.nilS, CV.bool false] :: CB.cells 3 (cellsF f') :: CB.cells 3 [CV.int IntKind.i64 from_, v, CV.bool s.en] :: rest) (by
            rcases hj with h | h
            · exact .inl h
            · right
              obtain ⟨jj, rfl⟩ : ∃ jj, j = jj + 3 := ⟨j - 3, by omega⟩
              rfl)
          obtain ⟨n1, hn1⟩ : ∃ n1, n1 = (order.l.drop (s.nx + 1)).length + 1 := ⟨_, rfl⟩
          rw [← hn1] at hlos2 hpos
          have hposN : 0 < n1 := by omega
          simp [hkm, hia, hlos2, hpos, hposN, hst, cellsF_len, List.take_of_length_le]
          refine pure_call hpub hcl ?_
          simp [cellsF_len, spF, hsf, hkm, hwk]
          exact ⟨pstep cap order.l s false, f', some (order.l.drop (s.nx + 1)), v, j, rest, hsucc.symm, P2, rfl, by rw [hst8.1]; rfl, by rw [hst8.2.1]; exact hown2, hj, by rw [hst8.2.1]; exact hnil, by rw [hst8.2.2]⟩
        · have hx : order.l[s.nx]? = none := List.getElem?_eq_none (by omega)
          have hst : pstep cap order.l s false = s := by unfold pstep; rw [hx]
          rw [hst] at hsucc
          have hd : order.l.drop s.nx = [] := List.drop_of_length_le (by omega)
          rw [hd] at hos
          rw [hos] at hlos
          simp [hkm, hia, hlos, hwk]
          exact ⟨s, f, os, v, j, rest, hsucc.symm, P, rfl, by rw [hos, hd], hown, hj, hnil, rfl⟩
      | true =>
        have htk := take_ok f 0 (P.okF hso (by omega))
        have hcl : closedL [CV.ag (cellsF f), .int .i64 0] = true := by simp [closedL, CV.closed, closed_cellsF]
        rw [encF_cells] at htk
        have hpt := pl_take P hso (by have := hso.nx; omega) (by omega)
        have hown2 : ∀ (c1 : List CV) (x : Hl), OwnS 32 (CB.cells 3 [CV.int IntKind.i64 0, CV.nilS, CV.bool false] :: CB.cells 3 c1 :: CB.cells 3 [CV.int IntKind.i64 from_, v, CV.bool s.en] :: (rest ++ x)) v j (s.out.map encId) := fun c1 x => (hown.more x).frame2 (by
          rcases hj with h | h
          · exact .inl h
          · right
            obtain ⟨jj, rfl⟩ : ∃ jj, j = jj + 3 := ⟨j - 3, by omega⟩
            rfl)
        obtain ⟨T, hT⟩ : ∃ T, T = take f 0 := ⟨_, rfl⟩
        rw [← hT] at htk hpt
        unfold Taken.enc at htk
        rw [encF_cells] at htk
        have hzl : ∀ c : CV, (rep 32 c).length = 32 := fun c => rfl
        rcases hpt with ⟨te, tk, ⟨r, hw⟩, P2⟩ | ⟨te, tk, hw, hlg, P2⟩ | ⟨te, hw, hlg, hsame⟩
        · have hidl : T.id.length = 32 := hso.w _ (by rw [hw]; simp)
          have hst : pstep cap order.l s true = { s with w := r, out := s.out ++ [T.id] } := by unfold pstep; rw [hw]
          have hs3 : (pstep cap order.l s true).out = s.out ++ [T.id] := by rw [hst]
          have hol2 : s.out.length ≤ 60 := by have := hso.le; have := hso.nx; omega
          obtain ⟨v', j', r', h1, h2', h3, h4'⟩ := app_pre (by_ := 32) (pre := [CB.cells 3 [CV.int IntKind.i64 0, CV.nilS, CV.bool false], CB.cells 3 (cellsF T.f), CB.cells 3 [CV.int IntKind.i64 from_, v, CV.bool s.en]]) (rest := rest ++ [CB.cells 3 (cellsF T.f), CB.cells 32 (encId T.id), CB.cells 32 (encId T.id)]) (hown2 _ _) hj (x := .sl 32 (rest.length + 2 + 1 + 1 + 1) 0 1 1 32) (xs := [encId T.id]) (by simp [contentsL, id_len hidl, List.take_of_length_le]) (by simp [id_len hidl]) (by omega) (by omega) (by rw [hr0]; simp; omega)
          rw [te, tk] at htk
          simp [hkm, hia, cellsF_len, List.take_of_length_le]
          refine pure_call htk hcl ?_
          have hsp0 : ∀ c : List CV, c.length = 32 → splice [CV.int IntKind.u8 0, .int .u8 0, .int .u8 0, .int .u8 0, .int .u8 0, .int .u8 0, .int .u8 0, .int .u8 0, .int .u8 0, .int .u8 0, .int .u8 0, .int .u8 0, .int .u8 0, .int .u8 0, .int .u8 0, .int .u8 0, .int .u8 0, .int .u8 0, .int .u8 0, .int .u8 0, .int .u8 0, .int .u8 0, .int .u8 0, .int .u8 0, .int .u8 0, .int .u8 0, .int .u8 0, .int .u8 0, .int .u8 0, .int .u8 0, .int .u8 0, .int .u8 0] 0 c = c := fun c hc => splice_full (by rw [hc]; rfl)
          have hsp1 : splice [CV.int IntKind.i64 0, .int .i64 0, .nilS] 0 (cellsF T.f) = cellsF T.f := rfl
          have hvc := h2'.cells
          simp only [List.cons_append, List.nil_append] at h1
          simp [cellsF_len, spF, tkF, hsp1, hsp0 _ (id_len hidl), id_len hidl, List.take_of_length_le, h1]
          refine AppK.keep ?_
          simp [hvc, hkm, hwk]
          have hown3 : OwnS 32 (CB.cells 3 [CV.int IntKind.i64 0, CV.nilS, CV.bool false] :: CB.cells 3 (cellsF T.f) :: CB.cells 3 [CV.int IntKind.i64 from_, v', CV.bool s.en] :: r') v' j' ((s.out ++ [T.id]).map encId) := by
            rw [List.map_append]
            refine h2'.frame2 ?_
            rcases h3 with h | h
            · exact .inl h
            · right
              obtain ⟨jj, rfl⟩ : ∃ jj, j' = jj + 3 := ⟨j' - 3, by simp at h; omega⟩
              rfl
          exact ⟨pstep cap order.l s true, T.f, os, v', j', r', hsucc.symm, P2, rfl, by rw [hst]; exact hos, by rw [hs3]; exact hown3, h3, by rw [h4', hs3]; cases isNilS v <;> cases s.out <;> rfl, by rw [hst]⟩
        · have hst : pstep cap order.l s true = { s with lag := false, en := true } := by unfold pstep; rw [hw]; simp [hlg]
          rw [te, tk] at htk
          have hidl : T.id.length = 32 := by rw [hT]; exact take_id_len f 0 (P.okF hso (by omega)).1
          simp [hkm, hia, cellsF_len, List.take_of_length_le]
          refine pure_call htk hcl ?_
          have hsp0 : ∀ c : List CV, c.length = 32 → splice [CV.int IntKind.u8 0, .int .u8 0, .int .u8 0, .int .u8 0, .int .u8 0, .int .u8 0, .int .u8 0, .int .u8 0, .int .u8 0, .int .u8 0, .int .u8 0, .int .u8 0, .int .u8 0, .int .u8 0, .int .u8 0, .int .u8 0, .int .u8 0, .int .u8 0, .int .u8 0, .int .u8 0, .int .u8 0, .int .u8 0, .int .u8 0, .int .u8 0, .int .u8 0, .int .u8 0, .int .u8 0, .int .u8 0, .int .u8 0, .int .u8 0, .int .u8 0, .int .u8 0] 0 c = c := fun c hc => splice_full (by rw [hc]; rfl)
          have hsp1 : splice [CV.int IntKind.i64 0, .int .i64 0, .nilS] 0 (cellsF T.f) = cellsF T.f := rfl
          have hown3 : OwnS 32 (CB.cells 3 [CV.int IntKind.i64 0, CV.nilS, CV.bool false] :: CB.cells 3 (cellsF T.f) :: CB.cells 3 [CV.int IntKind.i64 from_, v, CV.bool true] :: (rest ++ [CB.cells 3 (cellsF T.f), CB.cells 32 (encId T.id)])) v j (s.out.map encId) := by
            refine (hown2 (cellsF T.f) [CB.cells 3 (cellsF T.f), CB.cells 32 (encId T.id)]).frame2 ?_
            rcases hj with h | h
            · exact .inl h
            · right
              obtain ⟨jj, rfl⟩ : ∃ jj, j = jj + 3 := ⟨j - 3, by omega⟩
              rfl
          simp [cellsF_len, spF, tkF, hsp1, hsp0 _ (id_len hidl), id_len hidl, List.take_of_length_le, hkm, hwk]
          exact ⟨pstep cap order.l s true, T.f, os, v, j, _, hsucc.symm, P2, rfl, by rw [hst]; exact hos, by rw [hst]; exact hown3, hj, by rw [hst]; exact hnil, by rw [hst]⟩
        · rw [hsame] at hsucc
          have hidl : T.id.length = 32 := by rw [hT]; exact take_id_len f 0 (P.okF hso (by omega)).1
          simp [hkm, hia, cellsF_len, List.take_of_length_le]
          refine pure_call htk hcl ?_
          have hown3 := hown2 (cellsF f) [CB.cells 3 (cellsF T.f), CB.cells 32 (encId T.id)]
          have hsp0 : ∀ c : List CV, c.length = 32 → splice [CV.int IntKind.u8 0, .int .u8 0, .int .u8 0, .int .u8 0, .int .u8 0, .int .u8 0, .int .u8 0, .int .u8 0, .int .u8 0, .int .u8 0, .int .u8 0, .int .u8 0, .int .u8 0, .int .u8 0, .int .u8 0, .int .u8 0, .int .u8 0, .int .u8 0, .int .u8 0, .int .u8 0, .int .u8 0, .int .u8 0, .int .u8 0, .int .u8 0, .int .u8 0, .int .u8 0, .int .u8 0, .int .u8 0, .int .u8 0, .int .u8 0, .int .u8 0, .int .u8 0] 0 c = c := fun c hc => splice_full (by rw [hc]; rfl)
          have hsp1 : splice [CV.int IntKind.i64 0, .int .i64 0, .nilS] 0 (cellsF T.f) = cellsF T.f := rfl
          have hend : InvP cap from_ order.l moves.l (k + 1) (encIds os) (CB.cells 3 [CV.int IntKind.i64 0, CV.nilS, CV.bool false] :: CB.cells 3 (cellsF f) :: CB.cells 3 [CV.int IntKind.i64 from_, v, CV.bool s.en] :: (rest ++ [CB.cells 3 (cellsF T.f), CB.cells 32 (encId T.id)])) :=
            ⟨s, f, os, v, j, _, hsucc.symm, P, rfl, hos, hown3, hj, hnil, rfl⟩
          rcases te with te | te
          · rw [te]
            simp [cellsF_len, spF, tkF, hsp1, hsp0 _ (id_len hidl), id_len hidl, List.take_of_length_le, hkm, hwk]
            exact hend
          · rw [te]
            simp [cellsF_len, spF, tkF, hsp1, hsp0 _ (id_len hidl), id_len hidl, List.take_of_length_le, hkm, hwk]
            exact hend
    · have hke : k = moves.l.length := by omega
      subst hke
      rw [← hs]
      unfold encPlay encD
      simp [List.take_of_length_le]
      have hown3 := hown.frame2 (l' := CB.cells 3 [CV.int IntKind.i64 from_, v, CV.bool s.en] :: CB.cells 3 (cellsF f) :: CB.cells 3 [CV.int IntKind.i64 from_, v, CV.bool s.en] :: rest) (by
        rcases hj with h | h
        · exact .inl h
        · right
          obtain ⟨jj, rfl⟩ : ∃ jj, j = jj + 3 := ⟨j - 3, by omega⟩
          rfl)
      have hrd := hown3.q.rd_enc (fun x => closedL_ints .u8 x) (sOf s.out) (by rw [hnil, sOf_nil]) (sOf_l _)
      exact rd_tu2 (rd_ag3 (.same _ rfl) hrd (.same _ rfl)) (.same _ rfl)
  · simp
    exact ⟨pstart, F0, order, .nilS, 0, [], rfl, hs2, rfl, rfl, .nil 0, .inl rfl, rfl, rfl⟩
end Fd
end Go.CM

/-
  The reference's Play, walked.
-/
namespace Go.CM
open Go Go.Proofs
set_option linter.unusedVariables false
set_option linter.unusedSimpArgs false
set_option maxRecDepth 100000
namespace Fd

theorem two_frame {z : Nat} {a b a' b' : CB} {rest : Hl} {v : CV} {j : Nat} {es : List (List CV)} (h : OwnQ z (a :: b :: rest) v j es) (hj : v = .nilS ∨ 2 ≤ j) : OwnQ z (a' :: b' :: rest) v j es := h.frame2 (by
  rcases hj with h | h
  · exact .inl h
  · right
    obtain ⟨jj, rfl⟩ : ∃ jj, j = jj + 2 := ⟨j - 2, by omega⟩
    rfl)
structure InvR (cap from_ : Int) (order : List Id) (moves : List Bool) (k : Nat) (w nx lg : CV) (l : Hl) : Prop where
  ex : ∃ (s : PS) (jw : Nat) (vd : CV) (jd : Nat) (rest : Hl), s = pAt cap order moves k ∧ nx = .int .i64 s.nx ∧ lg = .bool (s.lag || s.en) ∧ OwnQ 32 l w jw (s.w.map encId) ∧ OwnQ 32 l vd jd (s.out.map encId) ∧ (w = .nilS ∨ 2 ≤ jw) ∧ (vd = .nilS ∨ 2 ≤ jd) ∧
    (w = .nilS ∨ vd = .nilS ∨ jw ≠ jd) ∧ isNilS vd = s.out.isEmpty ∧ l = .cells 3 [.int .i64 0, .nilS, .bool false] :: .cells 3 [.int .i64 from_, vd, .bool s.en] :: rest

set_option maxHeartbeats 16000000 in
theorem refPlay_ok (cap from_ : Int) (order : Sv Id) (moves : Sv Bool) (ho : okIds order) (hol : order.l.length ≤ 1000000) (hml : moves.l.length ≤ 1000000) :
    PureC Try.prog G0 5 [.int .i64 cap, .int .i64 from_, encIds order, encMoves moves] (encPlay (play cap from_ order.l moves.l)) := by
  have hr0 : roomMax = 140737488355328 := rfl
  have hsp0 : ∀ c : List CV, c.length = 32 → splice [CV.int IntKind.u8 0, CV.int IntKind.u8 0, CV.int IntKind.u8 0, CV.int IntKind.u8 0, CV.int IntKind.u8 0, CV.int IntKind.u8 0, CV.int IntKind.u8 0, CV.int IntKind.u8 0, CV.int IntKind.u8 0, CV.int IntKind.u8 0, CV.int IntKind.u8 0, CV.int IntKind.u8 0, CV.int IntKind.u8 0, CV.int IntKind.u8 0, CV.int IntKind.u8 0, CV.int IntKind.u8 0, CV.int IntKind.u8 0, CV.int IntKind.u8 0, CV.int IntKind.u8 0, CV.int IntKind.u8 0, CV.int IntKind.u8 0, CV.int IntKind.u8 0, CV.int IntKind.u8 0, CV.int IntKind.u8 0, CV.int IntKind.u8 0, CV.int IntKind.u8 0, CV.int IntKind.u8 0, CV.int IntKind.u8 0, CV.int IntKind.u8 0, CV.int IntKind.u8 0, CV.int IntKind.u8 0, CV.int IntKind.u8 0] 0 c = c := fun c hc => splice_full (by rw [hc]; rfl)
  refine pure_of Try.checked.mixed G0_closed ?_
  apply call_intro c5_eq r5_eq
  unfold c5 r5
  have hlo : lenM (.sl 32) (encIds order) = some (.int .i64 order.l.length) := len_encS _
  have hlm : lenM (.sl 1) (encMoves moves) = some (.int .i64 moves.l.length) := len_encS _
  have h2 : ∀ p : from_ < 0 ∨ 60 < from_ ∨ cap < 1 ∨ 8 < cap, play cap from_ order.l moves.l = (0, [], false, 2) := fun p => by unfold play; rw [if_pos p]
  by_cases hc1 : cap < 1
  · simp [hc1]
    rw [h2 (by omega)]
    exact rd_play0 rfl
  by_cases hc8 : 8 < cap
  · simp [hc1, hc8]
    rw [h2 (by omega)]
    exact rd_play0 rfl
  by_cases hf0 : from_ < 0
  · simp [hc1, hc8, hf0]
    rw [h2 (.inl hf0)]
    exact rd_play0 rfl
  by_cases hf60 : 60 < from_
  · simp [hc1, hc8, hf0, hf60]
    rw [h2 (.inr (.inl hf60))]
    exact rd_play0 rfl
  by_cases h4 : 60 < (order.l.length : Int) ∨ 200 < (moves.l.length : Int)
  · have hp : play cap from_ order.l moves.l = (0, [], false, 4) := by unfold play; rw [if_neg (by omega), if_pos h4]
    rcases h4 with h4 | h4
    · simp [hc1, hc8, hf0, hf60, hlo, h4]
      rw [hp]; exact rd_play0 rfl
    · by_cases h5 : 60 < (order.l.length : Int)
      · simp [hc1, hc8, hf0, hf60, hlo, h5]
        rw [hp]; exact rd_play0 rfl
      · simp [hc1, hc8, hf0, hf60, hlo, h5, hlm, h4]
        rw [hp]; exact rd_play0 rfl
  have hp : play cap from_ order.l moves.l = (from_, (pAt cap order.l moves.l moves.l.length).out, (pAt cap order.l moves.l moves.l.length).en, 0) := by unfold play; rw [if_neg (by omega), if_neg h4]
  rw [hp]
  have h41 : ¬ 60 < (order.l.length : Int) := fun h => h4 (.inl h)
  have h42 : ¬ 200 < (moves.l.length : Int) := fun h => h4 (.inr h)
  simp [hc1, hc8, hf0, hf60, hlo, h41, hlm, h42]
  refine loop_up moves.l.length (fun k σ l => σ 0 = .int .i64 cap ∧ σ 2 = encIds order ∧ σ 3 = encMoves moves ∧ σ 8 = .ptr 0 0 3 ∧ σ 10 = .ptr 1 0 3 ∧ σ 14 = .int .i64 k ∧
    InvR cap from_ order.l moves.l k (σ 11) (σ 12) (σ 13) l) ?_ ?_
  · rintro k σ l hk ⟨g0, g2, g3, g8, g10, g14, ⟨s, jw, vd, jd, rest, hs, g12, g13, hw, hd, hjw, hjd, hdis, hnil, rfl⟩⟩
    obtain ⟨vw, g11⟩ : ∃ vw, σ 11 = vw := ⟨_, rfl⟩
    rw [g11] at hw hjw hdis
    obtain ⟨σ, rfl⟩ := upds9 g0 g2 g3 g8 g10 g11 g12 g13 g14
    clear g0 g2 g3 g8 g10 g11 g12 g13 g14
    unfold l5_0
    have hso : PsOk cap order.l s := by rw [hs]; exact psOk_at (by omega) ho _ _
    have hwlen : lenM (.sl 32) vw = some (.int .i64 s.w.length) := by have := hw.len; rwa [List.length_map] at this
    by_cases hkm : k < moves.l.length
    · obtain ⟨t, ht, _⟩ := get_of hkm
      have hsucc := pAt_succ cap order.l moves.l k t ht
      rw [← hs] at hsucc
      have hia : iaC (.sl 1) (encMoves moves) (.int .i64 k) = some (.rptr [.bool t] 0) := by unfold encMoves; rw [ia_encS]; simp [ht]
      have hwk : IntKind.i64.wrap ((k : Int) + 1) = (k + 1 : Nat) := wrap_i64 (by omega) (by omega)
      have hnx := hso.nx
      have hwnx : IntKind.i64.wrap ((s.nx : Int) + 1) = (s.nx + 1 : Nat) := wrap_i64 (by omega) (by omega)
      cases t with
      | false =>
        by_cases hex : s.nx < order.l.length
        · obtain ⟨x, hx, hxm⟩ := get_of hex
          have hx32 : x.length = 32 := ho x hxm
          have hst : pstep cap order.l s false = if s.lag = true ∨ s.en = true then { s with nx := s.nx + 1 } else if (s.w.length : Int) < cap then { s with w := s.w ++ [x], nx := s.nx + 1 } else { s with lag := true, nx := s.nx + 1 } := by
            unfold pstep; rw [hx]
          cases hlg : (s.lag || s.en) with
          | true =>
            have h1 : s.lag = true ∨ s.en = true := by simpa using hlg
            rw [if_pos h1] at hst
            rw [hst] at hsucc
            simp [hkm, hlm, hia, hlo, hex, hwk, hwnx]
            exact ⟨_, jw, vd, jd, rest, hsucc.symm, rfl, by rw [hlg], hw, hd, hjw, hjd, hdis, hnil, rfl⟩
          | false =>
            have h1 : ¬(s.lag = true ∨ s.en = true) := by simpa using hlg
            have hen : s.en = false := by cases h : s.en <;> simp_all
            rw [if_neg h1] at hst
            by_cases h2 : (s.w.length : Int) < cap
            · rw [if_pos h2] at hst
              rw [hst] at hsucc
              have hwl : s.w.length ≤ 60 := by have := hso.le; omega
              have hix : iaC (.sl 32) (encIds order) (.int .i64 s.nx) = some (.rptr (encId x) 0) := by unfold encIds; rw [ia_encS]; simp [hx]
              have hw2 : OwnQ 32 ([CB.cells 3 [.int .i64 0, .nilS, .bool false], CB.cells 3 [.int .i64 from_, vd, .bool s.en]] ++ (rest ++ [CB.cells 32 (encId x)])) vw jw (s.w.map encId) := hw.more _
              obtain ⟨v', j', r', k1, k2, k3, k4, k5, k6⟩ := appQ (by_ := 32) hw2 hjw (x := .sl 32 (rest.length + 2) 0 1 1 32) (xs := [encId x]) (by simp [contentsL, id_len hx32, List.take_of_length_le]) (by simp [id_len hx32]) (by omega) (by omega) (by rw [hr0]; simp; omega)
              have hd2 : OwnQ 32 ([CB.cells 3 [.int .i64 0, .nilS, .bool false], CB.cells 3 [.int .i64 from_, vd, .bool s.en]] ++ r') vd jd (s.out.map encId) := by
                refine (hd.more [CB.cells 32 (encId x)]).frame2 ?_
                by_cases hv : vd = .nilS
                · exact .inl hv
                · right
                  have hlt := (hd.lt).resolve_left hv
                  refine (k5 jd (by simp at hlt ⊢; omega) ?_)
                  rcases hdis with h | h | h
                  · exact .inl h
                  · exact absurd h hv
                  · exact .inr fun e => h e.symm
              simp only [List.cons_append, List.nil_append] at k1 k2 hd2 k5 k6
              simp [hkm, hlm, hia, hlo, hex, hlg, hwlen, h2, hix, hsp0 _ (id_len hx32), id_len hx32, List.take_of_length_le, k1]
              refine AppK.keep ?_
              simp [hkm, hwk, hwnx]
              refine ⟨_, j', vd, jd, r', hsucc.symm, rfl, by rw [hlg], by rw [List.map_append]; exact k2, hd2, k3, hjd, ?_, hnil, rfl⟩
              by_cases hv : vd = .nilS
              · exact .inr (.inl hv)
              · have hlt := (hd.lt).resolve_left hv
                rcases k6 with h | ⟨h, rfl⟩ | h
                · exact .inl h
                · rcases hdis with h' | h' | h'
                  · exact absurd h' h
                  · exact .inr (.inl h')
                  · exact .inr (.inr h')
                · right; right
                  simp at h hlt; omega
            · rw [if_neg h2] at hst
              rw [hst] at hsucc
              simp [hkm, hlm, hia, hlo, hex, hlg, hwlen, h2, hwk, hwnx]
              exact ⟨_, jw, vd, jd, rest, hsucc.symm, rfl, rfl, hw, hd, hjw, hjd, hdis, hnil, rfl⟩
        · have hx : order.l[s.nx]? = none := List.getElem?_eq_none (by omega)
          have hst : pstep cap order.l s false = s := by unfold pstep; rw [hx]
          rw [hst] at hsucc
          simp [hkm, hlm, hia, hlo, hex, hwk]
          exact ⟨s, jw, vd, jd, rest, hsucc.symm, rfl, rfl, hw, hd, hjw, hjd, hdis, hnil, rfl⟩
      | true =>
        cases hwl : s.w with
        | cons x r =>
          have hx32 : x.length = 32 := hso.w x (by rw [hwl]; simp)
          have hst : pstep cap order.l s true = { s with w := r, out := s.out ++ [x] } := by unfold pstep; rw [hwl]
          rw [hst] at hsucc
          have hvw : isNilS vw = false := by
            cases h : isNilS vw with
            | false => rfl
            | true =>
              rw [isNil_iff] at h
              subst h
              have := hw.nil_of
              rw [hwl] at this; cases this
          rw [hwl] at hw hwlen
          obtain ⟨p, cs, o, q1, q2, q3, q4⟩ := hw.get (k := .i64) (i := 0) (e := encId x) rfl
          obtain ⟨vw', z1, z2, z3⟩ := hw.from hvw (k := .i64) (i := 1) (by simp)
          have hol2 : s.out.length ≤ 60 := by have := hso.le; omega
          have hd2 : OwnQ 32 ([CB.cells 3 [.int .i64 0, .nilS, .bool false], CB.cells 3 [.int .i64 from_, vd, .bool s.en]] ++ (rest ++ [CB.cells 32 (encId x)])) vd jd (s.out.map encId) := hd.more _
          obtain ⟨v', j', r', k1, k2, k3, k4, k5, k6⟩ := appQ (by_ := 32) hd2 hjd (x := .sl 32 (rest.length + 2) 0 1 1 32) (xs := [encId x]) (by simp [contentsL, id_len hx32, List.take_of_length_le]) (by simp [id_len hx32]) (by omega) (by omega) (by rw [hr0]; simp; omega)
          have hvwn : vw ≠ .nilS := fun h => by rw [isNil_iff.2 h] at hvw; cases hvw
          have hlt := (hw.lt).resolve_left hvwn
          have hw2 : OwnQ 32 ([CB.cells 3 [.int .i64 0, .nilS, .bool false], CB.cells 3 [.int .i64 from_, vd, .bool s.en]] ++ r') vw' jw (r.map encId) := by
            refine (z2.more [CB.cells 32 (encId x)]).frame2 (.inr ?_)
            refine (k5 jw (by simp at hlt ⊢; omega) ?_)
            rcases hdis with h | h | h
            · exact absurd h hvwn
            · exact .inl h
            · exact .inr h
          simp only [List.cons_append, List.nil_append] at k1 k2 hw2 k5 k6
          have hvc := k2.cells
          simp at q1 z1
          simp [hkm, hlm, hia, hwlen, q1, q2, q3, q4, z1, hsp0 _ (id_len hx32), id_len hx32, List.take_of_length_le, k1]
          refine AppK.keep ?_
          simp [hvc, hkm, hwk]
          refine ⟨_, jw, v', j', r', hsucc.symm, rfl, rfl, two_frame hw2 (.inr (hjw.resolve_left hvwn)), ?_, .inr (hjw.resolve_left hvwn), k3, ?_, ?_, rfl⟩
          · show OwnQ 32 _ v' j' ((s.out ++ [x]).map encId)
            rw [List.map_append]
            exact two_frame k2 k3
          · rcases k6 with h | ⟨h, rfl⟩ | h
            · exact .inr (.inl h)
            · rcases hdis with h' | h' | h'
              · exact absurd h' hvwn
              · exact absurd h' h
              · exact .inr (.inr h')
            · right; right
              simp at h hlt; omega
          · rw [k4]; cases isNilS vd <;> cases s.out <;> rfl
        | nil =>
          rw [hwl] at hw hwlen
          cases hlg : (s.lag || s.en) with
          | true =>
            have hst : pstep cap order.l s true = { s with lag := false, en := true } := by
              unfold pstep; rw [hwl]
              simp only
              cases hl : s.lag with
              | true => simp [hwl]
              | false =>
                have hen : s.en = true := by simpa [hl] using hlg
                obtain ⟨w, lag, en, nx, out⟩ := s
                simp at hl hen hwl
                subst hl hen hwl
                rfl
            rw [hst] at hsucc
            simp [hkm, hlm, hia, hwlen, hwk]
            exact ⟨_, jw, vd, jd, rest, hsucc.symm, rfl, rfl, by rw [hwl]; exact two_frame hw hjw, two_frame hd hjd, hjw, hjd, hdis, hnil, rfl⟩
          | false =>
            have hlag : s.lag = false := by cases h : s.lag <;> simp_all
            have hst : pstep cap order.l s true = s := by unfold pstep; rw [hwl]; simp [hlag]
            rw [hst] at hsucc
            simp [hkm, hlm, hia, hwlen, hwk]
            exact ⟨s, jw, vd, jd, rest, hsucc.symm, rfl, by rw [hlg], by rw [hwl]; exact hw, hd, hjw, hjd, hdis, hnil, rfl⟩
    · have hke : k = moves.l.length := by omega
      subst hke
      rw [← hs]
      unfold encPlay encD
      simp [hlm, List.take_of_length_le]
      have hrd := (two_frame (a' := CB.cells 3 [CV.int IntKind.i64 from_, vd, CV.bool s.en]) (b' := CB.cells 3 [CV.int IntKind.i64 from_, vd, CV.bool s.en]) hd hjd).rd_enc (fun x => closedL_ints .u8 x) (sOf s.out) (by rw [hnil, sOf_nil]) (sOf_l _)
      exact rd_tu2 (rd_ag3 (.same _ rfl) hrd (.same _ rfl)) (.same _ rfl)
  · simp
    exact ⟨pstart, 0, .nilS, 0, [], rfl, rfl, rfl, .nil 0, .nil 0, .inl rfl, .inl rfl, .inl rfl, rfl, rfl⟩
end Fd
end Go.CM

/-
  The law DeliverPlays, walked.
-/
namespace Go.CM
open Go Go.Proofs
set_option linter.unusedVariables false
set_option linter.unusedSimpArgs false
set_option maxRecDepth 100000
namespace Fd

set_option maxHeartbeats 1000000 in
theorem sameIDs4_ok (a b : Sv Id) (ha : okIds a) (hb : okIds b) (hl : a.l.length ≤ 1000000) : PureC Try.prog G0 11 [encIds a, encIds b] (.bool (decide (a.l = b.l))) := by
  refine pure_of Try.checked.mixed G0_closed ?_
  apply call_intro c11_eq r11_eq
  unfold c11 r11
  simp [encIds]
  by_cases h1 : a.l.length = b.l.length
  · have h1' : ((a.l.length : Int) = b.l.length) := by omega
    simp [h1]
    refine loop_up a.l.length (fun k σ l => σ 0 = encS 32 encId a ∧ σ 1 = encS 32 encId b ∧ σ 5 = .int .i64 k ∧ ∀ j, j < k → a.l[j]? = b.l[j]?) ?_ (by simp [encIds])
    rintro k σ l hk ⟨g0, g1, g5, hs⟩
    obtain ⟨s, rfl⟩ := upds3 g0 g1 g5
    clear g0 g1 g5
    unfold l11_0
    simp
    refine kIf_intro (fun h => ?_) (fun h => ?_)
    · simp only [decide_eq_true_eq] at h
      obtain ⟨x, hx, hxm⟩ := get_of h
      obtain ⟨y, hy, hym⟩ := get_of (l := b.l) (k := k) (by omega)
      simp [hx, hy, id_len (ha x hxm), id_len (hb y hym), List.take_of_length_le, id_neq (ha x hxm) (hb y hym)]
      by_cases he : x = y
      · simp (disch := omega) [he, wrap_i64, h]
        intro j hj
        by_cases hjk : j = k
        · subst hjk; rw [hx, hy, he]
        · exact hs j (by omega)
      · simp [he]
        refine rd_bool (decide_eq_false fun hab => he ?_).symm
        rw [hab, hy] at hx; exact (Option.some.inj hx).symm
    · simp [h]
      have : k = a.l.length := by simp at h; omega
      subst this
      refine rd_bool (decide_eq_true ?_).symm
      apply List.ext_getElem?
      intro j
      by_cases hj : j < a.l.length
      · exact hs j hj
      · rw [List.getElem?_eq_none (by omega), List.getElem?_eq_none (by omega)]
  · have h1' : ¬ ((a.l.length : Int) = b.l.length) := by omega
    simp [h1, h1']
    exact rd_bool (decide_eq_false fun hab => h1 (by rw [hab])).symm

def sameD (n : Int) (s : Sv Id) (b : Bool) (n' : Int) (s' : Sv Id) (b' : Bool) : Bool := decide (n = n') && (b == b') && decide (s.l = s'.l)
set_option maxHeartbeats 4000000 in
theorem sameD_ok (n : Int) (s : Sv Id) (b : Bool) (n' : Int) (s' : Sv Id) (b' : Bool) (hs : okIds s) (hs' : okIds s') (hl : s.l.length ≤ 1000000) : PureC Try.prog G0 6 [encD n s b, encD n' s' b'] (.bool (sameD n s b n' s' b')) := by
  refine pure_of Try.checked.mixed G0_closed ?_
  apply call_intro c6_eq r6_eq
  unfold c6 r6
  unfold sameD
  simp [encD]
  by_cases h1 : n = n'
  · simp [h1, bool_eql]
    by_cases h2 : b = b'
    · simp [h2]
      refine pure_call (sameIDs4_ok s s' hs hs' hl) (show closedL [encIds s, encIds s'] = true by simp [closedL, closed_ids]) ?_
      simp [h1, h2]
      exact rd_bool (by simp [h1, h2])
    · have h2' : (b == b') = false := by simpa using h2
      simp [h2, h2']
      exact rd_bool (by simp [h1, h2])
  · simp [h1]
    exact rd_bool (by simp [h1])
theorem psOut_len {cap : Int} {order : List Id} {s : PS} (h : PsOk cap order s) : s.out.length ≤ order.length := by have := h.le; have := h.nx; omega
theorem play_facts (cap from_ : Int) (order : List Id) (moves : List Bool) (ho : ∀ x ∈ order, x.length = 32) : (∀ x ∈ (play cap from_ order moves).2.1, x.length = 32) ∧ (play cap from_ order moves).2.1.length ≤ order.length := by
  unfold play
  split
  · exact ⟨by simp, by simp⟩
  · rename_i h
    split
    · exact ⟨by simp, by simp⟩
    · have := psOk_at (cap := cap) (by omega) ho moves moves.length
      exact ⟨this.o, psOut_len this⟩

set_option maxHeartbeats 4000000 in
theorem plays_call (cap from_ : Int) (order : Sv Id) (moves : Sv Bool) (ho : okIds order) : CallP Try.prog G0 3 [.int .i64 cap, .int .i64 from_, encIds order, encMoves moves] [] (c := ⟨fun r _ => r = .bool true⟩) := by
  apply call_intro c3_eq r3_eq
  unfold c3 r3
  have hlo : lenM (.sl 32) (encIds order) = some (.int .i64 order.l.length) := len_encS _
  have hlm : lenM (.sl 1) (encMoves moves) = some (.int .i64 moves.l.length) := len_encS _
  by_cases h1 : 80 < (order.l.length : Int)
  · simp [hlo, h1]
  by_cases h2 : 300 < (moves.l.length : Int)
  · simp [hlo, h1, hlm, h2]
  have hcl : closedL [.int .i64 cap, .int .i64 from_, encIds order, encMoves moves] = true := by simp [closedL, CV.closed, closed_ids, encMoves, closed_encS]
  have k1 := play_ok cap from_ order moves ho (by omega) (by omega)
  have k2 := refPlay_ok cap from_ order moves ho (by omega) (by omega)
  obtain ⟨hp1, hp2⟩ := play_facts cap from_ order.l moves.l ho
  obtain ⟨p, hp⟩ : ∃ p, p = play cap from_ order.l moves.l := ⟨_, rfl⟩
  rw [← hp] at k1 k2 hp1 hp2
  obtain ⟨n, out, b, e⟩ := p
  simp only at hp1 hp2
  have hk := sameD_ok n (sOf out) b n (sOf out) b (by unfold okIds; rw [sOf_l]; exact hp1) (by unfold okIds; rw [sOf_l]; exact hp1) (by rw [sOf_l]; omega)
  unfold encPlay at k1 k2
  simp only at k1 k2
  have hst : sameD n (sOf out) b n (sOf out) b = true := by simp [sameD]
  rw [hst] at hk
  unfold encD at k1 k2 hk
  simp [hlo, h1, hlm, h2]
  refine pure_call k1 hcl ?_
  simp
  refine pure_call k2 hcl ?_
  simp
  refine pure_call hk (by simp [closedL, CV.closed, closed_ids]) ?_
  simp
end Fd
end Go.CM
