/-
  Feeds: the reference's copy, with lists of one's own.
-/
import Derived.Test.YtfedhobckpgokaaFdL
namespace Go.CM
open Go Go.Proofs
set_option linter.unusedVariables false
set_option linter.unusedSimpArgs false
set_option maxRecDepth 100000
namespace Fd

theorem Nest.one {c : Nat} {r : Hl} {s : Nat} {v : CV} {q : Queue} (hrow : r[s]? = some (.cells 4 (rowQ v q))) (hown : ownIds c r v q.ids) (hb : ∀ b, blkOf v = some b → b ≠ s + c) : Nest c r [] s [v] [q] := by
  refine ⟨rfl, by simpa [rowsQ] using hrow, fun i w p hw hp => ?_, fun i w b hw hbw => ?_, fun i j w w' b hij hw hw' _ => ?_, by simp⟩
  · cases i with
    | zero => simp at hw hp; subst hw hp; exact hown
    | succ i => simp at hw
  · cases i with
    | zero => simp at hw; subst hw; exact ⟨hb b hbw, fun t ht => by cases ht⟩
    | succ i => simp at hw
  · have h1 := lt_get hw
    have h2 := lt_get hw'
    simp at h1 h2
    omega
theorem rowsQ_push {vs : List CV} {qs : List Queue} (h : vs.length = qs.length) (v : CV) (q : Queue) : rowsQ (vs ++ [v]) (qs ++ [q]) = rowsQ vs qs ++ [rowQ v q] := by
  unfold rowsQ
  rw [List.zipWith_append h]; rfl
theorem Nest.push {c : Nat} {r r' : Hl} {T : List Nat} {s : Nat} {vs : List CV} {qs : List Queue} (N : Nest c r T s vs qs) {v : CV} {q : Queue} (hrow : r'[s]? = some (.cells ((qs.length + 1) * 4) (rowsQ (vs ++ [v]) (qs ++ [q])).flatten))
    (hk : ∀ b, b < r.length → b ≠ s → r'[b]? = r[b]?) (hown : ownIds c r' v q.ids) (hb : ∀ b, blkOf v = some b → r.length + c ≤ b ∧ b ≠ s + c ∧ ∀ t ∈ T, b ≠ t + c) : Nest c r' T s (vs ++ [v]) (qs ++ [q]) := by
  have key : ∀ i w, (vs ++ [v])[i]? = some w → vs[i]? = some w ∨ (i = vs.length ∧ w = v) := fun i w h => by
    by_cases hi : i < vs.length
    · rw [List.getElem?_append_left hi] at h; exact .inl h
    · have := lt_get h
      simp at this
      obtain rfl : i = vs.length := by omega
      simp at h
      exact .inr ⟨rfl, h.symm⟩
  have old : ∀ i w b, vs[i]? = some w → blkOf w = some b → b < r.length + c := fun i w b hw hbw => by
    obtain ⟨p, hp⟩ : ∃ p, qs[i]? = some p := ⟨qs[i]'(by rw [← N.len]; exact lt_get hw), List.getElem?_eq_getElem _⟩
    obtain ⟨b', h2, h3⟩ := (N.own i w p hw hp).blk hbw
    omega
  refine ⟨by simp [N.len], by simpa using hrow, fun i w p hw hp => ?_, fun i w b hw hbw => ?_, fun i j w w' b hij hw hw' hbw => ?_, N.ts⟩
  · rcases key i w hw with h1 | ⟨rfl, rfl⟩
    · have hi := lt_get h1
      rw [List.getElem?_append_left (by rw [← N.len]; exact hi)] at hp
      have ho := N.own i w p h1 hp
      refine ho.keep fun b hbw => ?_
      obtain ⟨b', h2, h3⟩ := ho.blk hbw
      obtain rfl : b' = b := by omega
      exact hk b' h3 fun h => (N.far i w _ h1 hbw).1 (by rw [h])
    · rw [N.len] at hp
      simp at hp
      subst hp
      exact hown
  · rcases key i w hw with h1 | ⟨rfl, rfl⟩
    · exact N.far i w b h1 hbw
    · exact (hb b hbw).2
  · rcases key i w hw with h1 | ⟨rfl, rfl⟩ <;> rcases key j w' hw' with h2 | ⟨rfl, rfl⟩
    · exact N.apart i j w w' b hij h1 h2 hbw
    · intro h
      have h3 := old i w b h1 hbw
      have h4 := (hb b h).1
      omega
    · intro h
      have h3 := old j w' b h2 h
      have h4 := (hb b hbw).1
      omega
    · exact absurd rfl hij

set_option maxHeartbeats 4000000 in
theorem refTwin_nest (f : Feed) (hf : okF f) {l : Hl} {K : CV → Hl → Prop} (h0 : f.subs.l = [] → ∀ x y, K (.ag [.int .i64 f.cap, .int .i64 f.ver, .nilS]) (l ++ [x, y]))
    (h1 : f.subs.l ≠ [] → ∀ (rest : Hl) (s : Nat) (vs : List CV), Nest l.length rest [] s vs (f.subs.l.map twQ) → (∀ v ∈ vs, isOwn v) → K (.ag [.int .i64 f.cap, .int .i64 f.ver, .sl 4 (s + l.length) 0 f.subs.l.length f.subs.l.length (f.subs.l.length * 4)]) (l ++ rest)) :
    CallP Try.prog G0 17 [encF f] l (c := ⟨K⟩) := by
  apply call_intro c17_eq r17_eq
  unfold c17 r17
  simp [encF, encSubs]
  have hl := hf.2
  refine loop_up f.subs.l.length (fun k σ l' => σ 1 = .ptr l.length 0 3 ∧ σ 2 = .ptr (l.length + 1) 0 3 ∧ σ 4 = .int .i64 k ∧
    ∃ rest, l' = l ++ (.cells 3 [.int .i64 f.cap, .int .i64 f.ver, encS 4 encQ f.subs] :: .cells 3 [.int .i64 0, .int .i64 0, .nilS] :: rest) ∧
      ((k = 0 ∧ σ 3 = .nilS ∧ rest = []) ∨ 0 < k ∧ ∃ s vs, σ 3 = .sl 4 (l.length + (s + 2)) 0 k k (k * 4) ∧ Nest (l.length + 2) rest [] s vs ((f.subs.l.take k).map twQ) ∧ ∀ v ∈ vs, isOwn v)) ?_ (by simp)
  rintro k σ l' hk ⟨g1, g2, g4, rest, rfl, hcase⟩
  unfold l17_0
  by_cases h : k < f.subs.l.length
  · obtain ⟨q, hq, hqm⟩ := get_of h
    have hq2 : f.subs.l[k] = q := (List.getElem?_eq_some_iff.1 hq).2
    have hci : ∀ s, (encIds s).cells = some [encIds s] := fun s => cells_encS _
    have hqq := hf.1 q hqm
    rcases hcase with ⟨rfl, g3, rfl⟩ | ⟨hk0, s, vs, g3, N, hown⟩
    · obtain ⟨σ, rfl⟩ := upds4 g1 g2 g3 g4
      clear g1 g2 g3 g4
      simp [h, hq, hq2, encQ]
      rw [app_fresh (m := q.ids.l.length) (xs := q.ids.l.map encId) (by simp) (by simp [encIds]) (by simp) (by omega) (by omega) (by simp [roomMax]; have := hqq.2; omega)]
      simp
      refine AppK.keep ?_
      simp [hci, CV.cells]
      rw [app_nil (xs := [rowQ (.sl 32 (l.length + 3) 0 q.ids.l.length q.ids.l.length (q.ids.l.length * 32)) (twQ q)]) (by simp [contentsL, rowQ, twQ]) (by omega) (by omega) (by simp) (by simp [roomMax])]
      simp
      refine AppK.keep ?_
      simp [h, wrap_i64]
      have ht : List.take 1 (List.map twQ f.subs.l) = [twQ q] := by
        rw [← List.map_take, List.take_add_one (i := 0), hq]; simp
      rw [ht]
      exact ⟨_, Nest.one (v := .sl 32 (l.length + 3) 0 q.ids.l.length q.ids.l.length (q.ids.l.length * 32)) rfl (.inr ⟨1, by congr 1; omega, rfl⟩) (fun b hb => by cases hb; omega), fun v hv => by simp at hv; subst hv; trivial⟩
    · obtain ⟨σ, rfl⟩ := upds4 g1 g2 g3 g4
      clear g1 g2 g3 g4
      have hrow := N.row
      have hs := get_lt hrow
      have hwk : IntKind.i64.wrap ((k : Int) + 1) = k + 1 := wrap_i64 (by omega) (by omega)
      simp [h, hq, hq2, encQ]
      rw [app_fresh (m := q.ids.l.length) (xs := q.ids.l.map encId) (by simp) (by simp [encIds]) (by simp) (by omega) (by omega) (by simp [roomMax]; have := hqq.2; omega)]
      simp
      refine AppK.keep ?_
      simp [hci, CV.cells]
      have hkq : ((f.subs.l.take k).map twQ).length = k := by simp; omega
      have ht : List.take (k + 1) (List.map twQ f.subs.l) = (f.subs.l.take k).map twQ ++ [twQ q] := by
        rw [← List.map_take, List.take_add_one, hq]; simp
      obtain ⟨v, hv⟩ : ∃ v, v = CV.sl 32 (l.length + (rest.length + 1 + 1 + 1)) 0 q.ids.l.length q.ids.l.length (q.ids.l.length * 32) := ⟨_, rfl⟩
      rw [← hv]
      obtain ⟨X, hX⟩ : ∃ X, X = [CB.cells 4 [.int .i64 q.next, v, .bool q.lag, .bool q.en], CB.cells (q.ids.l.length * 32) (q.ids.l.map encId).flatten, CB.cells 4 [.int .i64 q.next, v, .bool q.lag, .bool q.en]] := ⟨_, rfl⟩
      have hXl : X.length = 3 := by rw [hX]; rfl
      have hrl : (rest ++ X)[rest.length + 2]? = some (CB.cells 4 [.int .i64 q.next, v, .bool q.lag, .bool q.en]) := by rw [gA, hX]; rfl
      have hrl1 : (rest ++ X)[rest.length + 1]? = some (CB.cells (q.ids.l.length * 32) (q.ids.l.map encId).flatten) := by rw [gA, hX]; rfl
      have hrs : (rest ++ X)[s]? = some (.cells (k * 4) (rowsQ vs ((f.subs.l.take k).map twQ)).flatten) := by
        rw [List.getElem?_append_left hs, hrow, hkq]
      rw [← hX]
      rw [app_own (es := rowsQ vs ((f.subs.l.take k).map twQ)) (xs := [rowQ v (twQ q)]) (m := 1) (by simp [gA, hrs]) (by simp [contentsL, gA, hrl]; rfl) (by rw [rowsQ_len _ _ N.len, hkq]) rfl rfl (rowsQ_4 _ _) (by omega) (by omega) (by simp [roomMax]; omega)]
      simp
      refine AppK.keep ?_
      simp [h, hwk]
      rw [ht, ← List.map_take]
      refine ⟨vs ++ [v], N.push (by rw [hkq, List.getElem?_set, if_pos rfl, if_pos (by simp; omega), rowsQ_push N.len, List.flatten_append]; simp) (fun b hb hbs => by rw [List.getElem?_set, if_neg (fun h => hbs h.symm), List.getElem?_append_left hb])
        (.inr ⟨rest.length + 1, by rw [hv]; congr 1; omega, ?_⟩) (fun b hb => ?_), fun w hw => ?_⟩
      · rw [List.getElem?_set, if_neg (by omega)]; exact hrl1
      · rw [hv] at hb; cases hb
        exact ⟨by omega, by omega, fun t ht => by cases ht⟩
      · rcases List.mem_append.1 hw with hw | hw
        · exact hown w hw
        · simp at hw; rw [hw, hv]; trivial
  · have hkl : k = f.subs.l.length := by omega
    rcases hcase with ⟨rfl, g3, rfl⟩ | ⟨hk0, s, vs, g3, N, hown⟩
    · obtain ⟨s, rfl⟩ := upds4 g1 g2 g3 g4
      clear g1 g2 g3 g4
      have hnil : f.subs.l = [] := List.length_eq_zero_iff.1 hkl.symm
      simp [h]
      exact h0 hnil _ _
    · obtain ⟨σ, rfl⟩ := upds4 g1 g2 g3 g4
      clear g1 g2 g3 g4
      simp [h]
      rw [hkl, List.take_length] at N
      have := h1 (fun h => by rw [h] at hkl; simp at hkl; omega) _ _ _ (N.cons2 (.cells 3 [.int .i64 f.cap, .int .i64 f.ver, .sl 4 (l.length + (s + 2)) 0 k k (k * 4)]) (.cells 3 [.int .i64 f.cap, .int .i64 f.ver, .sl 4 (l.length + (s + 2)) 0 k k (k * 4)])) hown
      rw [← hkl, show s + 2 + l.length = l.length + (s + 2) by omega] at this
      exact this
end Fd
end Go.CM
