/-
  Feeds: End; the reference's copy.
-/
import Derived.Test.YtfedhobckpgokaaFdG
namespace Go.CM
open Go Go.Proofs
set_option linter.unusedVariables false
set_option linter.unusedSimpArgs false
set_option maxRecDepth 100000
namespace Fd

def endQ (q : Queue) : Queue := { q with ids := none, lag := false, en := true }
def endF (f : Feed) (n : Int) : Feed × Int :=
  if num f n ≠ 0 then (zeroF, num f n) else match f.subs.l[n.toNat]? with
  | none => (zeroF, 0)
  | some q => (setQ f n.toNat (endQ q), 0)
theorem end_bad {f : Feed} {n : Int} (h : num f n ≠ 0) : endF f n = (zeroF, num f n) := by unfold endF; rw [if_pos h]
theorem end_good {f : Feed} {k : Nat} {q : Queue} (h : num f k = 0) (hq : f.subs.l[k]? = some q) : endF f k = (setQ f k (endQ q), 0) := by
  unfold endF; rw [if_neg (by simpa using h), Int.toNat_natCast, hq]

set_option maxHeartbeats 4000000 in
theorem end_ok (f : Feed) (n : Int) (hf : okF f) : PureC Try.prog G0 23 [encF f, .int .i64 n] (.tu [encF (endF f n).1, .int .i64 (endF f n).2]) := by
  refine pure_of Try.checked.mixed G0_closed ?_
  apply call_intro c23_eq r23_eq
  unfold c23 r23
  simp [encF]
  refine pure_call (checkN_ok f n hf.2) (show closedL [encF f, .int .i64 n] = true by simp [closedL, closed_F, CV.closed]) ?_
  have hz : ∀ l, Rd l (.ag [.int .i64 0, .int .i64 0, .nilS]) (encF zeroF) := fun l => .same _ (closed_F zeroF)
  simp
  by_cases h1 : num f n = 0
  · obtain ⟨hc, hn, q, hq, he⟩ := num_ok h1
    have hk : n.toNat < f.subs.l.length := (List.getElem?_eq_some_iff.1 hq).1
    simp [h1]
    refine twin_own f hf (fun hs x y => ?_) (fun qs hs x y => ?_)
    · rw [hs] at hk; simp at hk
    · have hqs : f.subs.l = qs := by rw [hs]; rfl
      rw [hqs] at hq hk
      have hnl : n < qs.length := by omega
      obtain ⟨k, rfl⟩ : ∃ k : Nat, n = k := ⟨n.toNat, by omega⟩
      simp only [Int.toNat_natCast] at hq hk
      have b1 : k * 4 + 1 + 1 ≤ qs.length * 4 := by omega
      have b2 : k * 4 + 2 + 1 ≤ qs.length * 4 := by omega
      have b3 : k * 4 + 3 + 1 ≤ qs.length * 4 := by omega
      have hq' : f.subs.l[k]? = some q := by rw [hqs]; exact hq
      have s1 := splice_Q hq 1 [.nilS] { q with ids := none } (by simp) (by simp [encQ, encIds, encS])
      have s2 := splice_Q (get_set (y := { q with ids := none }) hq) 2 [.bool false] { q with ids := none, lag := false } (by simp) (by simp [encQ])
      rw [List.set_set] at s2
      have s3 := splice_Q (get_set (y := { q with ids := none, lag := false }) hq) 3 [.bool true] (endQ q) (by simp) (by simp [encQ, endQ])
      rw [List.set_set] at s3
      simp [hnl, b1, b2, b3, s1, s2, s3, -List.map_set]
      rw [end_good h1 hq']
      exact rd_tu2 (rd_Fs (f := setQ f k (endQ q)) (rd_subs (qs := f.subs.l.set k (endQ q)) (by simp [hqs]) (by simp [hqs]))) (.same _ rfl)
  · simp [h1]
    rw [end_bad h1]
    exact rd_tu2 (hz _) (.same _ rfl)

/-- The reference's copy: nothing is nil but an empty list of queues. -/
def twQ (q : Queue) : Queue := { q with ids := some q.ids.l }
def twF (f : Feed) : Feed := { f with subs := if f.subs.l = [] then none else some (f.subs.l.map twQ) }

theorem rows_take {l : List Queue} {k : Nat} {q : Queue} (hq : l[k]? = some q) : ((l.take (k + 1)).map twQ).map encQ = ((l.take k).map twQ).map encQ ++ [encQ (twQ q)] := by
  rw [List.take_add_one, hq]; simp

set_option maxHeartbeats 4000000 in
theorem refTwin_own (f : Feed) (hf : okF f) {l : Hl} {K : CV → Hl → Prop} (h0 : f.subs.l = [] → ∀ x y, K (.ag [.int .i64 f.cap, .int .i64 f.ver, .nilS]) (l ++ [x, y]))
    (h1 : ∀ (rest : Hl) (j : Nat), rest[j]? = some (.cells (f.subs.l.length * 4) ((f.subs.l.map twQ).map encQ).flatten) → K (.ag [.int .i64 f.cap, .int .i64 f.ver, .sl 4 (j + l.length) 0 f.subs.l.length f.subs.l.length (f.subs.l.length * 4)]) (l ++ rest)) :
    CallP Try.prog G0 17 [encF f] l (c := ⟨K⟩) := by
  apply call_intro c17_eq r17_eq
  unfold c17 r17
  simp [encF, encSubs]
  have hl := hf.2
  refine loop_up f.subs.l.length (fun k σ l' => σ 1 = .ptr l.length 0 3 ∧ σ 2 = .ptr (l.length + 1) 0 3 ∧ σ 4 = .int .i64 k ∧
    ∃ rest, l' = l ++ (.cells 3 [.int .i64 f.cap, .int .i64 f.ver, encS 4 encQ f.subs] :: .cells 3 [.int .i64 0, .int .i64 0, .nilS] :: rest) ∧
      ((k = 0 ∧ σ 3 = .nilS ∧ rest = []) ∨ ∃ j, σ 3 = .sl 4 (l.length + (j + 2)) 0 k k (k * 4) ∧ rest[j]? = some (.cells (k * 4) (((f.subs.l.take k).map twQ).map encQ).flatten))) ?_ (by simp)
  rintro k σ l' hk ⟨g1, g2, g4, rest, rfl, hcase⟩
  unfold l17_0
  by_cases h : k < f.subs.l.length
  · obtain ⟨q, hq, hqm⟩ := get_of h
    have hq2 : f.subs.l[k] = q := (List.getElem?_eq_some_iff.1 hq).2
    have hci : ∀ s, (encIds s).cells = some [encIds s] := fun s => cells_encS _
    have hqq := hf.1 q hqm
    rcases hcase with ⟨rfl, g3, rfl⟩ | ⟨j, g3, hr⟩
    · obtain ⟨s, rfl⟩ := upds4 g1 g2 g3 g4
      clear g1 g2 g3 g4
      simp [h, hq, hq2, encQ]
      rw [app_fresh (m := q.ids.l.length) (xs := q.ids.l.map encId) (by simp) (by simp [encIds]) (by simp) (by omega) (by omega) (by simp [roomMax]; have := hqq.2; omega)]
      simp
      refine AppK.frz (es := q.ids.l.map encId) _ (by simp) (by simp) (fun e he => ?_) ?_
      · obtain ⟨x, hx, rfl⟩ := List.mem_map.1 he; exact id_len (hqq.1 x hx)
      have hcr : encIds (some q.ids.l) = .rsl 32 (q.ids.l.map encId) := rfl
      rw [← hcr]
      simp [hci]
      rw [app_nil (xs := [encQ (twQ q)]) (by simp [contentsL, encQ, twQ]) (by omega) (by omega) (by simp) (by simp [roomMax])]
      simp
      refine AppK.keep ?_
      have ht := rows_take hq
      simp at ht
      simp [h, wrap_i64, ht]
    · obtain ⟨s, rfl⟩ := upds4 g1 g2 g3 g4
      clear g1 g2 g3 g4
      have hj := get_lt hr
      have hwk : IntKind.i64.wrap ((k : Int) + 1) = k + 1 := wrap_i64 (by omega) (by omega)
      simp [h, hq, hq2, encQ]
      rw [app_fresh (m := q.ids.l.length) (xs := q.ids.l.map encId) (by simp) (by simp [encIds]) (by simp) (by omega) (by omega) (by simp [roomMax]; have := hqq.2; omega)]
      simp
      refine AppK.frz (es := q.ids.l.map encId) _ (by simp) (by simp) (fun e he => ?_) ?_
      · obtain ⟨x, hx, rfl⟩ := List.mem_map.1 he; exact id_len (hqq.1 x hx)
      have hcr : encIds (some q.ids.l) = .rsl 32 (q.ids.l.map encId) := rfl
      rw [← hcr]
      simp [hci]
      rw [app_own (es := ((f.subs.l.take k).map twQ).map encQ) (xs := [encQ (twQ q)]) (m := 1) (by simp only [List.getElem?_append_right (Nat.le_add_right _ _), Nat.add_sub_cancel_left, List.getElem?_cons_succ, List.getElem?_append_left hj, hr]) (by simp [contentsL, encQ, twQ]) (by simp; omega) (by simp) rfl (fun e he => ?_) (by omega) (by omega) (by simp [roomMax]; omega)]
      rotate_left
      · obtain ⟨x, hx, rfl⟩ := List.mem_map.1 he; rfl
      simp
      refine AppK.keep ?_
      simp [h, hwk]
      have ht := rows_take hq
      simp at ht
      rw [List.getElem?_set, if_pos rfl, if_pos (by simp; omega), ht]
      simp
  · have hkl : k = f.subs.l.length := by omega
    rcases hcase with ⟨rfl, g3, rfl⟩ | ⟨j, g3, hr⟩
    · obtain ⟨s, rfl⟩ := upds4 g1 g2 g3 g4
      clear g1 g2 g3 g4
      have hnil : f.subs.l = [] := List.length_eq_zero_iff.1 hkl.symm
      simp [h]
      exact h0 hnil _ _
    · obtain ⟨s, rfl⟩ := upds4 g1 g2 g3 g4
      clear g1 g2 g3 g4
      simp [h]
      have := h1 (.cells 3 [.int .i64 f.cap, .int .i64 f.ver, .sl 4 (l.length + (j + 2)) 0 k k (k * 4)] :: .cells 3 [.int .i64 f.cap, .int .i64 f.ver, .sl 4 (l.length + (j + 2)) 0 k k (k * 4)] :: rest) (j + 2) (by
        rw [hkl, List.take_length] at hr
        simp only [List.getElem?_cons_succ]; exact hr)
      rw [← hkl, show j + 2 + l.length = l.length + (j + 2) by omega] at this
      exact this
end Fd
end Go.CM
