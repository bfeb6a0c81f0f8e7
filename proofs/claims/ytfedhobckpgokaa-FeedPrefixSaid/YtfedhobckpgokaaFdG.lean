/-
  Feeds: Take, End.
-/
import Derived.Test.YtfedhobckpgokaaFdF
namespace Go.CM
open Go Go.Proofs
set_option linter.unusedVariables false
set_option linter.unusedSimpArgs false
set_option maxRecDepth 100000
namespace Fd

def zeroId : Id := List.replicate 32 0
structure Taken where
  f : Feed
  kind : Int
  number : Int
  id : Id
  e : Int
def Taken.enc (t : Taken) : CV := .tu [encF t.f, .int .u8 t.kind, .int .i64 t.number, .ag (encId t.id), .int .i64 t.e]
def setQ (f : Feed) (k : Nat) (q : Queue) : Feed := { f with subs := some (f.subs.l.set k q) }
def take (f : Feed) (n : Int) : Taken :=
  if num f n ≠ 0 then ⟨zeroF, 0, 0, zeroId, num f n⟩ else
  match f.subs.l[n.toNat]? with
  | none => ⟨zeroF, 0, 0, zeroId, 38⟩
  | some q => match q.ids.l with
    | x :: r => ⟨setQ f n.toNat { q with next := q.next + 1, ids := some r }, 1, q.next, x, 0⟩
    | [] => if q.lag then ⟨setQ f n.toNat { q with lag := false, en := true }, 2, q.next, zeroId, 0⟩ else ⟨zeroF, 0, 0, zeroId, 38⟩

theorem rd_taken {l : Hl} {f : CV} {k n e : Int} {i : CV} {t : Taken} (h1 : Rd l f (encF t.f)) (h2 : k = t.kind) (h3 : n = t.number) (h4 : i = .ag (encId t.id)) (h5 : e = t.e) : Rd l (.tu [f, .int .u8 k, .int .i64 n, i, .int .i64 e]) t.enc := by
  subst h2 h3 h4 h5
  refine .tu _ _ rfl fun j c c' hc hc' => ?_
  rcases j with _ | _ | _ | _ | _ | j
  · simp at hc hc'; subst hc hc'; exact h1
  · simp at hc hc'; subst hc hc'; exact .same _ rfl
  · simp at hc hc'; subst hc hc'; exact .same _ rfl
  · simp at hc hc'; subst hc hc'; exact .same _ (by simp [CV.closed, encId, closedL_ints])
  · simp at hc hc'; subst hc hc'; exact .same _ rfl
  · simp at hc

theorem zero_id : encId zeroId = [.int .u8 0, .int .u8 0, .int .u8 0, .int .u8 0, .int .u8 0, .int .u8 0, .int .u8 0, .int .u8 0, .int .u8 0, .int .u8 0, .int .u8 0, .int .u8 0, .int .u8 0, .int .u8 0, .int .u8 0, .int .u8 0, .int .u8 0, .int .u8 0, .int .u8 0, .int .u8 0, .int .u8 0, .int .u8 0, .int .u8 0, .int .u8 0, .int .u8 0, .int .u8 0, .int .u8 0, .int .u8 0, .int .u8 0, .int .u8 0, .int .u8 0, .int .u8 0] := rfl

theorem chk_ok {f : Feed} (h : chk f = 0) {q : Queue} (hq : q ∈ f.subs.l) : okQ f q = true ∧ 0 ≤ q.next ∧ q.next ≤ 1000000000 := by
  have h1 : okFs f = true := by
    unfold chk at h
    repeat' split at h
    all_goals first | assumption | (exfalso; omega)
  have h2 : okQ f q = true := by
    unfold okFs at h1
    rw [List.all_eq_true] at h1
    exact h1 q hq
  refine ⟨h2, ?_⟩
  unfold okQ at h2
  repeat' split at h2
  all_goals first | cases h2; done | omega

theorem num_ok {f : Feed} {n : Int} (h : num f n = 0) : chk f = 0 ∧ 0 ≤ n ∧ ∃ q, f.subs.l[n.toNat]? = some q ∧ q.en = false := by
  unfold num at h
  split at h
  · rename_i h1; exact absurd h h1
  rename_i h1
  split at h
  · cases h
  split at h
  · cases h
  split at h
  · rename_i q hq
    split at h
    · cases h
    · rename_i he; exact ⟨by omega, by omega, q, hq, by simpa using he⟩
  · cases h

theorem take_bad {f : Feed} {n : Int} (h : num f n ≠ 0) : take f n = ⟨zeroF, 0, 0, zeroId, num f n⟩ := by unfold take; rw [if_pos h]
theorem take_busy {f : Feed} {k : Nat} {q : Queue} (h : num f k = 0) (hq : f.subs.l[k]? = some q) (hi : q.ids.l = []) (hl : q.lag = false) : take f k = ⟨zeroF, 0, 0, zeroId, 38⟩ := by
  unfold take; rw [if_neg (by simpa using h), Int.toNat_natCast, hq]; simp only [hi, hl]; rfl
theorem take_lag {f : Feed} {k : Nat} {q : Queue} (h : num f k = 0) (hq : f.subs.l[k]? = some q) (hi : q.ids.l = []) (hl : q.lag = true) : take f k = ⟨setQ f k { q with lag := false, en := true }, 2, q.next, zeroId, 0⟩ := by
  unfold take; rw [if_neg (by simpa using h), Int.toNat_natCast, hq]; simp only [hi, hl]; rfl
theorem take_id {f : Feed} {k : Nat} {q : Queue} {x : Id} {r : List Id} (h : num f k = 0) (hq : f.subs.l[k]? = some q) (hi : q.ids.l = x :: r) : take f k = ⟨setQ f k { q with next := q.next + 1, ids := some r }, 1, q.next, x, 0⟩ := by
  unfold take; rw [if_neg (by simpa using h), Int.toNat_natCast, hq]; simp only [hi]

set_option maxHeartbeats 4000000 in
theorem take_ok (f : Feed) (n : Int) (hf : okF f) : PureC Try.prog G0 14 [encF f, .int .i64 n] (take f n).enc := by
  refine pure_of Try.checked.mixed G0_closed ?_
  apply call_intro c14_eq r14_eq
  unfold c14 r14
  simp [encF]
  refine pure_call (checkN_ok f n hf.2) (show closedL [encF f, .int .i64 n] = true by simp [closedL, closed_F, CV.closed]) ?_
  have hz : ∀ l, Rd l (.ag [.int .i64 0, .int .i64 0, .nilS]) (encF zeroF) := fun l => .same _ (closed_F zeroF)
  simp
  by_cases h1 : num f n = 0
  · obtain ⟨hc, hn, q, hq, he⟩ := num_ok h1
    have hk : n.toNat < f.subs.l.length := (List.getElem?_eq_some_iff.1 hq).1
    have hqm := List.mem_of_getElem? hq
    obtain ⟨_, hq1, hq2⟩ := chk_ok hc hqm
    simp [h1]
    refine twin_own f hf (fun hs x y => ?_) (fun qs hs x y => ?_)
    · rw [hs] at hk; simp at hk
    · have hqs : f.subs.l = qs := by rw [hs]; rfl
      rw [hqs] at hq hk hqm
      have hnl : n < qs.length := by omega
      obtain ⟨k, rfl⟩ : ∃ k : Nat, n = k := ⟨n.toNat, by omega⟩
      simp only [Int.toNat_natCast] at hq hk
      obtain ⟨c0, c1, c2, c3, _⟩ := cells_Q hq
      have hle : k * 4 + 4 ≤ qs.length * 4 := by omega
      have hw : IntKind.i64.wrap (q.next + 1) = q.next + 1 := wrap_i64 (by omega) (by omega)
      have b0 : k * 4 + 1 ≤ qs.length * 4 := by omega
      have b1 : k * 4 + 1 + 1 ≤ qs.length * 4 := by omega
      have b2 : k * 4 + 2 + 1 ≤ qs.length * 4 := by omega
      have b3 : k * 4 + 3 + 1 ≤ qs.length * 4 := by omega
      have hlen : lenM (.sl 32) (encIds q.ids) = some (.int .i64 q.ids.l.length) := len_encS _
      have hq' : f.subs.l[k]? = some q := by rw [hqs]; exact hq
      simp [hnl, c0, c1]
      cases hids : q.ids.l with
      | nil =>
        cases hl : q.lag
        · simp [hlen, hids, hl, c2]
          rw [take_busy h1 hq' hids hl]
          exact rd_taken (hz _) rfl rfl rfl rfl
        · simp [hlen, hids, hl, c2]
          refine ⟨b2, b3, ?_⟩
          rw [splice_Q hq 2 [.bool false] { q with lag := false } (by simp) (by simp [encQ]), splice_Q (get_set hq) 3 [.bool true] { q with lag := false, en := true } (by simp) (by simp [encQ]), List.set_set]
          rw [take_lag h1 hq' hids hl]
          exact rd_taken (rd_Fs (f := setQ f k { q with lag := false, en := true }) (rd_subs (qs := f.subs.l.set k { q with lag := false, en := true }) (by simp [hqs]) (by simp [hqs]))) rfl rfl rfl rfl
      | cons x0 r =>
        obtain ⟨xs, hxs⟩ : ∃ xs, q.ids = some xs := by cases h : q.ids with | none => rw [h] at hids; cases hids | some xs => exact ⟨xs, rfl⟩
        have hx2 : xs = x0 :: r := by rw [hxs] at hids; exact hids
        subst hx2
        have hx0 : x0.length = 32 := (hf.1 q (by rw [hqs]; exact hqm)).1 x0 (by rw [hids]; simp)
        have hia : iaC (.sl 32) (encIds (some (x0 :: r))) (.int .i64 0) = some (.rptr (encId x0) 0) := by simp [encIds, ia_encS]
        have hsl : sliceM (.sl 32) (encIds (some (x0 :: r))) (some (.int .i64 1)) none none = some (encIds (some r)) := by
          unfold encIds; rw [slice_from (by omega) (by simp; omega)]; rfl
        have hci : ∀ s, (encIds s).cells = some [encIds s] := fun s => cells_encS _
        rw [hxs] at hlen c1
        simp at hlen
        have hpos : (0 : Int) < (r.length : Int) + 1 := by omega
        simp [hlen, hids, hxs, hia, hsl, hci, c1, b1, hpos, id_len hx0, List.take_of_length_le]
        rw [splice_Q hq 1 [encIds (some r)] { q with ids := some r } (by simp) (by simp [encQ])]
        obtain ⟨d0, d1, d2, d3, _⟩ := cells_Q (get_set (y := { q with ids := some r }) hq)
        have hsf := splice_full (cs := encId zeroId) (vs := encId x0) (by rw [id_len hx0]; rfl)
        rw [zero_id] at hsf
        have hsf2 := splice_full (cs := encId x0) (vs := encId x0) rfl
        have hs0 := splice_Q (get_set (y := { q with ids := some r }) hq) 0 [.int .i64 (q.next + 1)] { q with next := q.next + 1, ids := some r } (by simp) (by simp [encQ])
        rw [List.set_set, Nat.add_zero] at hs0
        simp [d0, hw, b0, id_len hx0, hsf, hsf2, hs0, List.take_of_length_le, -List.map_set]
        rw [take_id h1 hq' hids]
        exact rd_taken (rd_Fs (f := setQ f k { q with next := q.next + 1, ids := some r }) (rd_subs (qs := f.subs.l.set k { q with next := q.next + 1, ids := some r }) (by simp [hqs]) (by simp [hqs]))) rfl rfl rfl rfl
  · simp [h1]
    rw [take_bad h1]
    exact rd_taken (hz _) rfl rfl rfl rfl
end Fd
end Go.CM
