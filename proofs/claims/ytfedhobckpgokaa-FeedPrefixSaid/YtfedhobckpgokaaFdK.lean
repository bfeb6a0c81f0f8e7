/-
  Feeds: copies with lists of one's own.
-/
import Derived.Test.YtfedhobckpgokaaFdJ
namespace Go.CM
open Go Go.Proofs
set_option linter.unusedVariables false
set_option linter.unusedSimpArgs false
set_option maxRecDepth 100000
namespace Fd

set_option maxHeartbeats 1000000 in
theorem cloneIds_own (s : Sv Id) (hl : s.l.length ≤ 1000000) {l : Hl} {K : CV → Hl → Prop} (h0 : s = none → K .nilS l)
    (h1 : ∀ xs, s = some xs → K (.sl 32 l.length 0 xs.length xs.length (xs.length * 32)) (l ++ [.cells (xs.length * 32) (xs.map encId).flatten])) : CallP Try.prog G0 35 [encIds s] l (c := ⟨K⟩) := by
  apply call_intro c35_eq r35_eq
  unfold c35 r35
  simp [ids_nil]
  cases s with
  | none => simp; exact h0 rfl
  | some xs =>
    have hxs : xs.length ≤ 1000000 := hl
    simp
    rw [app_fresh (m := xs.length) (xs := xs.map encId) (by simp) (by simp [encIds]) (by simp) (by omega) (by omega) (by simp [roomMax]; omega)]
    simp
    refine AppK.keep ?_
    simp
    exact h1 xs rfl

theorem cellsI_own {c : Nat} {r : Hl} {v : CV} {s : Sv Id} (h : ownIds c r v s) : v.cells = some [v] := by
  cases s with
  | none => rw [h]; rfl
  | some xs =>
    rcases h with h | ⟨b, rfl, hb⟩
    · rw [h]; rfl
    · rfl

theorem gA {α : Type} (l r : List α) (i : Nat) : (l ++ r)[l.length + i]? = r[i]? := by
  rw [List.getElem?_append_right (by omega)]; congr 1; omega
theorem sA {α : Type} (l r : List α) (i : Nat) (x : α) : (l ++ r).set (l.length + i) x = l ++ r.set i x := by
  rw [List.set_append_right _ _ (by omega)]; congr 2; omega
theorem lt_get {α : Type} {l : List α} {i : Nat} {x : α} (h : l[i]? = some x) : i < l.length := (List.getElem?_eq_some_iff.1 h).1
theorem set_selfT {α : Type} {l : List α} {i : Nat} {x : α} (h : l[i]? = some x) : l.set i x = l := by
  apply List.ext_getElem?
  intro j
  rw [List.getElem?_set]
  by_cases hj : i = j
  · subst hj; rw [if_pos rfl, if_pos (lt_get h), h]
  · rw [if_neg hj]
theorem wOwn {r : Hl} {c : Nat} {v : CV} {s : Sv Id} (h : ownIds c r v s) {r' : Hl} (hk : ∀ b, b < r.length → r'[b]? = r[b]?) : ownIds c r' v s :=
  h.keep fun b hb => by
    obtain ⟨b', h1, h2⟩ := h.blk hb
    obtain rfl : b' = b := by omega
    exact hk b' h2
theorem Nest.cons2 {c : Nat} {r : Hl} {s : Nat} {vs : List CV} {qs : List Queue} (N : Nest (c + 2) r [] s vs qs) (a b : CB) : Nest c (a :: b :: r) [] (s + 2) vs qs := by
  refine ⟨N.len, N.row, fun i v q hv hq => ?_, fun i v b hv hb => ⟨?_, fun t ht => by cases ht⟩, N.apart, by simp⟩
  · have h := N.own i v q hv hq
    revert h
    cases q.ids with
    | none => exact id
    | some xs =>
      rintro (h | ⟨b', rfl, hb⟩)
      · exact .inl h
      · exact .inr ⟨b' + 2, by rw [show b' + 2 + c = b' + (c + 2) by omega], hb⟩
  · have := (N.far i v b hv hb).1
    omega
theorem nest_start {c : Nat} (qs : List Queue) : Nest c [.cells (qs.length * 4) (qs.map encQ).flatten] [] 0 (qs.map fun q => encIds q.ids) qs := by
  refine ⟨by simp, ?_, fun i v q hv hq => ?_, fun i v b hv hb => ?_, fun i j v v' b hij hv hv' hb => ?_, by simp⟩
  · have : rowsQ (qs.map fun q => encIds q.ids) qs = qs.map encQ := by
      unfold rowsQ
      rw [List.zipWith_map_left, List.zipWith_self]
      rfl
    rw [this]; rfl
  · rw [List.getElem?_map, hq] at hv
    cases hv
    dsimp only
    unfold ownIds
    split
    · rename_i h; rw [h]; rfl
    · rename_i h; rw [h]; exact .inl rfl
  · rw [List.getElem?_map] at hv
    cases hq : qs[i]? with
    | none => rw [hq] at hv; cases hv
    | some q =>
      rw [hq] at hv; cases hv
      dsimp only at hb
      cases h : q.ids <;> rw [h] at hb <;> cases hb
  · rw [List.getElem?_map] at hv
    cases hq : qs[i]? with
    | none => rw [hq] at hv; cases hv
    | some q =>
      rw [hq] at hv; cases hv
      dsimp only at hb
      cases h : q.ids <;> rw [h] at hb <;> cases hb

set_option maxHeartbeats 4000000 in
theorem twin_nest (f : Feed) (hf : okF f) {l : Hl} {K : CV → Hl → Prop} (h0 : f.subs = none → ∀ x y, K (.ag [.int .i64 f.cap, .int .i64 f.ver, .nilS]) (l ++ [x, y]))
    (h1 : ∀ qs, f.subs = some qs → ∀ (rest : Hl) (s : Nat) (vs : List CV), Nest l.length rest [] s vs qs → (∀ v ∈ vs, isOwn v) → K (.ag [.int .i64 f.cap, .int .i64 f.ver, .sl 4 (s + l.length) 0 qs.length qs.length (qs.length * 4)]) (l ++ rest)) :
    CallP Try.prog G0 27 [encF f] l (c := ⟨K⟩) := by
  apply call_intro c27_eq r27_eq
  unfold c27 r27
  simp [encF]
  refine cloneQ_own f.subs hf.2 (fun hn => ?_) (fun qs hs => ?_)
  · simp
    refine loop_up 0 (fun k σ l' => σ 1 = .ptr l.length 0 3 ∧ σ 2 = .ptr (l.length + 1) 0 3 ∧ σ 10 = .int .i64 0 ∧ σ 11 = .int .i64 k ∧
      l' = l ++ [.cells 3 [.int .i64 f.cap, .int .i64 f.ver, .nilS], .cells 3 [.int .i64 0, .int .i64 0, .nilS]]) ?_ (by simp)
    rintro k σ l' hk ⟨g1, g2, g10, g11, rfl⟩
    obtain rfl : k = 0 := by omega
    obtain ⟨s, rfl⟩ := upds4 g1 g2 g10 g11
    clear g1 g2 g10 g11
    unfold l27_0
    simp
    exact h0 hn _ _
  · simp
    have hq1 : qs.length ≤ 1000000 := by have := hf.2; rw [hs] at this; exact this
    refine loop_up qs.length (fun k σ l' => σ 1 = .ptr l.length 0 3 ∧ σ 2 = .ptr (l.length + 1) 0 3 ∧ σ 10 = .int .i64 qs.length ∧ σ 11 = .int .i64 k ∧
      ∃ r vs, l' = l ++ (.cells 3 [.int .i64 f.cap, .int .i64 f.ver, .sl 4 (l.length + 2) 0 qs.length qs.length (qs.length * 4)] :: .cells 3 [.int .i64 0, .int .i64 0, .nilS] :: r) ∧
        Nest (l.length + 2) r [] 0 vs qs ∧ ∀ i v q, vs[i]? = some v → qs[i]? = some q → if i < k then isOwn v else v = encIds q.ids) ?_ ?_
    · rintro k σ l' hk ⟨g1, g2, g10, g11, r, vs, rfl, N, hvs⟩
      obtain ⟨s, rfl⟩ := upds4 g1 g2 g10 g11
      clear g1 g2 g10 g11
      unfold l27_0
      simp
      by_cases h : k < qs.length
      · obtain ⟨q, hq, hqm⟩ := get_of h
        obtain ⟨v, hv⟩ : ∃ v, vs[k]? = some v := ⟨vs[k]'(by rw [N.len]; exact h), List.getElem?_eq_getElem _⟩
        have hve : v = encIds q.ids := by simpa using hvs k v q hv hq
        subst hve
        obtain ⟨_, d1, _, _, _⟩ := rowsQ_cells hv hq
        have hrow := N.row
        have hqq := hf.1 q (by rw [hs]; exact hqm)
        have hwk : IntKind.i64.wrap ((k : Int) + 1) = k + 1 := wrap_i64 (by omega) (by omega)
        have hle : k * 4 + 1 + 1 ≤ qs.length * 4 := by omega
        have hr0 := get_lt hrow
        have hrr : ∀ X : CB, (r ++ [X])[0]? = some (.cells (qs.length * 4) (rowsQ vs qs).flatten) := fun X => by rw [List.getElem?_append_left hr0]; exact hrow
        have hrr0 : ∀ (X : CB) (h : 0 < (r ++ [X]).length), (r ++ [X])[0] = .cells (qs.length * 4) (rowsQ vs qs).flatten := fun X h => by
          have := hrr X; rw [List.getElem?_eq_getElem h] at this; exact Option.some.inj this
        simp [h, hrow, d1, gA]
        have own' : ∀ (v' : CV) (i : Nat) (w : CV) (p : Queue), isOwn v' → (vs.set k v')[i]? = some w → qs[i]? = some p → if i < k + 1 then isOwn w else w = encIds p.ids := by
          intro v' i w p ho hw hp
          by_cases hik : k = i
          · subst hik
            rw [List.getElem?_set, if_pos rfl, if_pos (lt_get hv)] at hw
            cases hw
            rw [if_pos (by omega)]; exact ho
          · rw [List.getElem?_set, if_neg hik] at hw
            have := hvs i w p hw hp
            by_cases h2 : i < k
            · rw [if_pos h2] at this; rw [if_pos (by omega)]; exact this
            · rw [if_neg h2] at this; rw [if_neg (by omega)]; exact this
        have hsetq : qs.set k q = qs := set_selfT hq
        refine cloneIds_own q.ids hqq.2 (fun hn => ?_) (fun xs hx => ?_)
        · have hsp := rowsQ_splice hv hq 1 [.nilS] .nilS q (by simp) (by simp [rowQ])
          rw [hsetq] at hsp
          simp [h, hrow, d1, gA, sA, CV.cells, hle, hwk, hsp]
          refine ⟨vs.set k .nilS, ?_, fun i w p => own' .nilS i w p trivial⟩
          have := N.upd hv hq (v' := .nilS) (q' := q) (r' := r.set 0 (CB.cells (qs.length * 4) (rowsQ (vs.set k CV.nilS) qs).flatten)) (by rw [hsetq, List.getElem?_set, if_pos rfl, if_pos hr0]) (fun b hb hb0 _ => by rw [List.getElem?_set, if_neg (fun h => hb0 h.symm)]) (by rw [hn]; rfl) (fun b hb => by cases hb)
          rwa [hsetq] at this
        · have hsp := rowsQ_splice hv hq 1 [.sl 32 (l.length + (r.length + 1 + 1)) 0 xs.length xs.length (xs.length * 32)] (.sl 32 (l.length + (r.length + 1 + 1)) 0 xs.length xs.length (xs.length * 32)) q (by simp) (by simp [rowQ])
          rw [hsetq] at hsp
          simp [h, hrow, d1, gA, sA, CV.cells, hle, hwk, hsp, hrr, hrr0]
          refine ⟨_, ?_, fun i w p => own' (.sl 32 (l.length + (r.length + 1 + 1)) 0 xs.length xs.length (xs.length * 32)) i w p trivial⟩
          have := N.upd hv hq (v' := .sl 32 (l.length + (r.length + 1 + 1)) 0 xs.length xs.length (xs.length * 32)) (q' := q) (r' := (r ++ [CB.cells (xs.length * 32) (List.map encId xs).flatten]).set 0
            (CB.cells (qs.length * 4) (rowsQ (vs.set k (CV.sl 32 (l.length + (r.length + 1 + 1)) 0 xs.length xs.length (xs.length * 32))) qs).flatten)) (by rw [hsetq, List.getElem?_set, if_pos rfl, if_pos (by simp)])
            (fun b hb hb0 _ => by rw [List.getElem?_set, if_neg (fun h => hb0 h.symm), List.getElem?_append_left hb])
            (by rw [hx]; refine .inr ⟨r.length, by congr 1; omega, ?_⟩; rw [List.getElem?_set, if_neg (by omega)]; simp)
            (fun b hb => .inr (by cases hb; refine ⟨by omega, by omega, fun t ht => by cases ht⟩))
          rwa [hsetq] at this
      · simp [h]
        have := h1 qs hs _ _ vs (N.cons2 (.cells 3 [.int .i64 f.cap, .int .i64 f.ver, .sl 4 (l.length + 2) 0 qs.length qs.length (qs.length * 4)]) (.cells 3 [.int .i64 f.cap, .int .i64 f.ver, .sl 4 (l.length + 2) 0 qs.length qs.length (qs.length * 4)])) (fun v hv => by
          obtain ⟨i, hi⟩ := List.getElem?_of_mem hv
          obtain ⟨q, hq, _⟩ := get_of (show i < qs.length by rw [← N.len]; exact lt_get hi)
          have := hvs i v q hi hq
          rwa [if_pos (by have := lt_get hq; omega)] at this)
        rw [Nat.zero_add, Nat.add_comm 2] at this
        exact this
    · simp
      refine ⟨_, nest_start qs, fun i v q hv hq => ?_⟩
      rw [List.getElem?_map, hq] at hv
      cases hv; rfl
end Fd
end Go.CM
