/-
  Feeds: Publish.
-/
import Derived.Test.YtfedhobckpgokaaFdK
namespace Go.CM
open Go Go.Proofs
set_option linter.unusedVariables false
set_option linter.unusedSimpArgs false
set_option maxRecDepth 100000
namespace Fd

/-- One queue is told one id. -/
def pubQ (cap ver : Int) (x : Id) (q : Queue) : Queue :=
  if q.en = true ∨ q.lag = true ∨ ver < q.next then q else if (q.ids.l.length : Int) = cap then { q with lag := true } else { q with ids := some (q.ids.l ++ [x]) }
def pubs (cap : Int) : Int → List Queue → List Id → List Queue
  | _, qs, [] => qs
  | ver, qs, x :: r => pubs cap (ver + 1) (qs.map (pubQ cap ver x)) r
def publish (f : Feed) (ids : List Id) : Feed × Int :=
  if chk f ≠ 0 then (zeroF, chk f) else if 60 < (ids.length : Int) ∨ 1000000000 < f.ver + ids.length then (zeroF, 4)
  else ({ f with ver := f.ver + ids.length, subs := f.subs.map fun qs => pubs f.cap f.ver qs ids }, 0)

/-- The first k are turned. -/
def mix (f : Queue → Queue) (k : Nat) (qs : List Queue) : List Queue := (qs.take k).map f ++ qs.drop k
theorem mix_len (f : Queue → Queue) (k : Nat) (qs : List Queue) : (mix f k qs).length = qs.length := by
  simp [mix]; omega
theorem mix_0 (f : Queue → Queue) (qs : List Queue) : mix f 0 qs = qs := by simp [mix]
theorem mix_all {f : Queue → Queue} {k : Nat} {qs : List Queue} (h : qs.length ≤ k) : mix f k qs = qs.map f := by
  simp [mix, List.take_of_length_le h, List.drop_of_length_le h]
theorem mix_get {f : Queue → Queue} {k : Nat} {qs : List Queue} {q : Queue} (h : qs[k]? = some q) : (mix f k qs)[k]? = some q := by
  have := lt_get h
  unfold mix
  rw [List.getElem?_append_right (by simp; omega), List.getElem?_drop, ← h]
  congr 1
  simp; omega
theorem mix_set {f : Queue → Queue} {k : Nat} {qs : List Queue} {q : Queue} (h : qs[k]? = some q) : (mix f k qs).set k (f q) = mix f (k + 1) qs := by
  have hk := lt_get h
  unfold mix
  rw [List.set_append_right _ _ (by simp; omega), List.take_add_one, h]
  have : qs.drop k = q :: qs.drop (k + 1) := by rw [List.drop_eq_getElem_cons hk]; congr 1; exact (List.getElem?_eq_some_iff.1 h).2
  rw [this]
  have h0 : k - (List.map f (List.take k qs)).length = 0 := by simp; omega
  rw [h0]
  simp
theorem pubs_len (cap : Int) : ∀ (ids : List Id) (ver : Int) (qs : List Queue), (pubs cap ver qs ids).length = qs.length
  | [], _, _ => rfl
  | _ :: r, ver, qs => by rw [pubs, pubs_len cap r]; simp
theorem pubQ_skip {cap ver : Int} {x : Id} {q : Queue} (h : q.en = true ∨ q.lag = true ∨ ver < q.next) : pubQ cap ver x q = q := by unfold pubQ; rw [if_pos h]
theorem pubQ_lag {cap ver : Int} {x : Id} {q : Queue} (h : ¬(q.en = true ∨ q.lag = true ∨ ver < q.next)) (h2 : (q.ids.l.length : Int) = cap) : pubQ cap ver x q = { q with lag := true } := by unfold pubQ; rw [if_neg h, if_pos h2]
theorem pubQ_add {cap ver : Int} {x : Id} {q : Queue} (h : ¬(q.en = true ∨ q.lag = true ∨ ver < q.next)) (h2 : (q.ids.l.length : Int) ≠ cap) : pubQ cap ver x q = { q with ids := some (q.ids.l ++ [x]) } := by unfold pubQ; rw [if_neg h, if_neg h2]
/-- Bounds. -/
def okN (m : Nat) (qs : List Queue) : Prop := ∀ q ∈ qs, okIds q.ids ∧ q.ids.l.length ≤ 1000000 + m
theorem pubQ_ok {cap ver : Int} {x : Id} {q : Queue} {m : Nat} (hx : x.length = 32) (h : okIds q.ids ∧ q.ids.l.length ≤ 1000000 + m) : okIds (pubQ cap ver x q).ids ∧ (pubQ cap ver x q).ids.l.length ≤ 1000000 + (m + 1) := by
  unfold pubQ
  split
  · exact ⟨h.1, by omega⟩
  split
  · exact ⟨h.1, by simp; omega⟩
  · refine ⟨fun y hy => ?_, by simp; omega⟩
    simp at hy
    rcases hy with hy | rfl
    · exact h.1 y hy
    · exact hx
theorem len_own {c : Nat} {r : Hl} {v : CV} {s : Sv Id} (h : ownIds c r v s) : lenM (.sl 32) v = some (.int .i64 s.l.length) := by
  cases s with
  | none => rw [h]; rfl
  | some xs =>
    rcases h with h | ⟨b, rfl, hb⟩
    · rw [h]; exact len_encS _
    · rfl

theorem own_set {vs : List CV} {k : Nat} {v : CV} (h : ∀ w ∈ vs, isOwn w) (hv : isOwn v) : ∀ w ∈ vs.set k v, isOwn w := fun w hw => by
  rcases List.mem_or_eq_of_mem_set hw with h1 | h1
  · exact h w h1
  · rw [h1]; exact hv

set_option maxHeartbeats 8000000 in
theorem publish_ok (f : Feed) (ids : Sv Id) (hf : okF f) (hi : okIds ids) (hil : ids.l.length ≤ 1000000) : PureC Try.prog G0 10 [encF f, encIds ids] (.tu [encF (publish f ids.l).1, .int .i64 (publish f ids.l).2]) := by
  refine pure_of Try.checked.mixed G0_closed ?_
  apply call_intro c10_eq r10_eq
  unfold c10 r10
  simp [encF]
  refine pure_call (check_ok f hf.2) (show closedL [encF f] = true by simp [closedL, closed_F]) ?_
  have hz : ∀ l, Rd l (.ag [.int .i64 0, .int .i64 0, .nilS]) (encF zeroF) := fun l => .same _ (closed_F zeroF)
  have hlen : lenM (.sl 32) (encIds ids) = some (.int .i64 ids.l.length) := len_encS _
  simp
  by_cases h1 : chk f = 0
  · have hver : 0 ≤ f.ver ∧ f.ver ≤ 1000000000 := by
      unfold chk at h1
      repeat' split at h1
      all_goals first | omega | cases h1
    have hw0 : IntKind.i64.wrap (1000000000 - (ids.l.length : Int)) = 1000000000 - (ids.l.length : Int) := wrap_i64 (by omega) (by omega)
    have hbad : (60 < (ids.l.length : Int) ∨ 1000000000 < f.ver + ids.l.length) → publish f ids.l = (zeroF, 4) := fun h => by
      unfold publish; rw [if_neg (by simp [h1]), if_pos h]
    by_cases h2 : 60 < (ids.l.length : Int)
    · simp [h1, hlen, hw0, h2]
      rw [hbad (.inl h2)]
      exact rd_tu2 (hz _) (.same _ rfl)
    by_cases h3 : 1000000000 - (ids.l.length : Int) < f.ver
    · simp [h1, hlen, hw0, h2, h3]
      rw [hbad (.inr (by omega))]
      exact rd_tu2 (hz _) (.same _ rfl)
    have hgood : publish f ids.l = ({ f with ver := f.ver + ids.l.length, subs := f.subs.map fun qs => pubs f.cap f.ver qs ids.l }, 0) := by
      unfold publish; rw [if_neg (by simp [h1]), if_neg (by omega)]
    simp [h1, hlen, hw0, h2, h3]
    refine twin_nest f hf (fun hs x y => ?_) (fun qs hs r0 s vs0 N0 ho0 => ?_)
    · simp [hlen]
      refine loop_up ids.l.length (fun j σ l => σ 4 = .ptr 1 0 3 ∧ σ 7 = .ptr 4 0 3 ∧ σ 32 = encIds ids ∧ σ 33 = .int .i64 ids.l.length ∧ σ 34 = .int .i64 j ∧
        ∃ x0 x2 x3 rest, l = x0 :: .cells 3 [.int .i64 0, .int .i64 0, .nilS] :: x2 :: x3 :: .cells 3 [.int .i64 f.cap, .int .i64 (f.ver + j), .nilS] :: rest) ?_ (by simp)
      rintro j σ l hj ⟨g4, g7, g32, g33, g34, x0, x2, x3, rest, rfl⟩
      obtain ⟨σ, rfl⟩ := upds5 g4 g7 g32 g33 g34
      clear g4 g7 g32 g33 g34
      unfold l10_1
      simp
      by_cases h : j < ids.l.length
      · obtain ⟨x, hx, hxm⟩ := get_of h
        have hx32 : x.length = 32 := hi x hxm
        have hia : iaC (.sl 32) (encIds ids) (.int .i64 j) = some (.rptr (encId x) 0) := by
          cases hh : ids with
          | none => rw [hh] at hx; simp at hx
          | some xs => rw [hh] at hx; simp at hx; simp [encIds, ia_encS, hx]
        have hsf := splice_full (cs := encId zeroId) (vs := encId x) (by rw [id_len hx32]; rfl)
        rw [zero_id] at hsf
        have hwj : IntKind.i64.wrap ((j : Int) + 1) = j + 1 := wrap_i64 (by omega) (by omega)
        have hwv : IntKind.i64.wrap (f.ver + (j : Int) + 1) = f.ver + j + 1 := wrap_i64 (by omega) (by omega)
        simp [h, hia, id_len hx32, List.take_of_length_le, hsf]
        refine loop_up 0 (fun k σ l => σ 4 = .ptr 1 0 3 ∧ σ 7 = .ptr 4 0 3 ∧ σ 32 = encIds ids ∧ σ 33 = .int .i64 ids.l.length ∧ σ 34 = .int .i64 j ∧ σ 40 = .int .i64 0 ∧ σ 41 = .int .i64 k ∧
          ∃ rest, l = x0 :: .cells 3 [.int .i64 0, .int .i64 0, .nilS] :: x2 :: x3 :: .cells 3 [.int .i64 f.cap, .int .i64 (f.ver + j), .nilS] :: rest) ?_ (by simp)
        rintro k σ l hk ⟨g4, g7, g32, g33, g34, g40, g41, rest2, rfl⟩
        obtain ⟨σ, rfl⟩ := upds7 g4 g7 g32 g33 g34 g40 g41
        clear g4 g7 g32 g33 g34 g40 g41
        obtain rfl : k = 0 := by omega
        unfold l10_0
        simp [h, hwj, hwv]
        omega
      · simp [h]
        have hjl : j = ids.l.length := by omega
        rw [hgood, hjl, hs]
        have hF := rd_Fs (l := x0 :: CB.cells 3 [.int .i64 f.cap, .int .i64 (f.ver + ids.l.length), .nilS] :: x2 :: x3 :: CB.cells 3 [.int .i64 f.cap, .int .i64 (f.ver + ids.l.length), .nilS] :: rest) (f := { f with ver := f.ver + ids.l.length, subs := none }) (v := .nilS) (.same _ rfl)
        exact rd_tu2 hF (.same _ rfl)
    · replace N0 : Nest 2 r0 [] s vs0 qs := N0
      have hfs : f.subs.l = qs := by rw [hs]; rfl
      obtain ⟨t, ht⟩ : ∃ t, t = r0.length := ⟨_, rfl⟩
      obtain ⟨n, hn⟩ : ∃ n, n = qs.length := ⟨_, rfl⟩
      have hn1 : n ≤ 1000000 := by rw [hn, ← hfs]; exact hf.2
      simp [hlen]
      rw [← ht, ← hn]
      refine loop_up ids.l.length (fun j σ l => σ 4 = .ptr 1 0 3 ∧ σ 7 = .ptr (t + 2) 0 3 ∧ σ 32 = encIds ids ∧ σ 33 = .int .i64 ids.l.length ∧ σ 34 = .int .i64 j ∧
        ∃ x0 rest vs qs', l = x0 :: .cells 3 [.int .i64 0, .int .i64 0, .nilS] :: rest ∧ rest[t]? = some (.cells 3 [.int .i64 f.cap, .int .i64 (f.ver + j), .sl 4 (s + 2) 0 n n (n * 4)]) ∧
          Nest 2 rest [t] s vs qs' ∧ (∀ v ∈ vs, isOwn v) ∧ qs'.length = n ∧ okN j qs' ∧ pubs f.cap (f.ver + j) qs' (ids.l.drop j) = pubs f.cap f.ver qs ids.l) ?_ ?_
      · rintro j σ l hj ⟨g4, g7, g32, g33, g34, x0, rest, vs, qs', rfl, hg, N, hown, hlq, hok, hp⟩
        obtain ⟨σ, rfl⟩ := upds5 g4 g7 g32 g33 g34
        clear g4 g7 g32 g33 g34
        unfold l10_1
        simp
        by_cases h : j < ids.l.length
        · obtain ⟨x, hx, hxm⟩ := get_of h
          have hx32 : x.length = 32 := hi x hxm
          have hia : iaC (.sl 32) (encIds ids) (.int .i64 j) = some (.rptr (encId x) 0) := by
            cases hh : ids with
            | none => rw [hh] at hx; simp at hx
            | some xs => rw [hh] at hx; simp at hx; simp [encIds, ia_encS, hx]
          have hsf := splice_full (cs := encId zeroId) (vs := encId x) (by rw [id_len hx32]; rfl)
          rw [zero_id] at hsf
          have htl := get_lt hg
          have hg1 : ∀ X : CB, (rest ++ [X])[t]? = some (.cells 3 [.int .i64 f.cap, .int .i64 (f.ver + j), .sl 4 (s + 2) 0 n n (n * 4)]) := fun X => by rw [List.getElem?_append_left htl]; exact hg
          obtain ⟨p, hpl⟩ : ∃ p, p = rest.length := ⟨_, rfl⟩
          have hpt : t ≠ p := by omega
          simp [h, hia, id_len hx32, List.take_of_length_le, hsf, hg1]
          rw [← hpl]
          refine loop_up n (fun k σ l => σ 4 = .ptr 1 0 3 ∧ σ 7 = .ptr (t + 2) 0 3 ∧ σ 9 = .ptr (p + 2) 0 32 ∧ σ 32 = encIds ids ∧ σ 33 = .int .i64 ids.l.length ∧ σ 34 = .int .i64 j ∧ σ 40 = .int .i64 n ∧ σ 41 = .int .i64 k ∧
            ∃ r vs, l = x0 :: .cells 3 [.int .i64 0, .int .i64 0, .nilS] :: r ∧ r[t]? = some (.cells 3 [.int .i64 f.cap, .int .i64 (f.ver + j), .sl 4 (s + 2) 0 n n (n * 4)]) ∧
              r[p]? = some (.cells 32 (encId x)) ∧ Nest 2 r [t, p] s vs (mix (pubQ f.cap (f.ver + j) x) k qs') ∧ ∀ v ∈ vs, isOwn v) ?_ ?_
          · rintro k σ l hk ⟨g4, g7, g9, g32, g33, g34, g40, g41, r, vs1, rfl, hgr, hpr, N1, hown1⟩
            obtain ⟨σ, rfl⟩ := upds8 g4 g7 g9 g32 g33 g34 g40 g41
            clear g4 g7 g9 g32 g33 g34 g40 g41
            unfold l10_0
            simp
            by_cases h' : k < n
            · obtain ⟨q, hq', hqm⟩ := get_of (show k < qs'.length by omega)
              have hq := mix_get (f := pubQ f.cap (f.ver + j) x) hq'
              have hms := mix_set (f := pubQ f.cap (f.ver + j) x) hq'
              have hQl : (mix (pubQ f.cap (f.ver + j) x) k qs').length = n := by rw [mix_len, hlq]
              obtain ⟨Q, hQ⟩ : ∃ Q, Q = mix (pubQ f.cap (f.ver + j) x) k qs' := ⟨_, rfl⟩
              rw [← hQ] at hq hms N1 hQl
              obtain ⟨v, hv⟩ : ∃ v, vs1[k]? = some v := ⟨vs1[k]'(by rw [N1.len, hQl]; exact h'), List.getElem?_eq_getElem _⟩
              have hov := hown1 v (List.mem_of_getElem? hv)
              have hoq := N1.own k v q hv hq
              have hlv := len_own hoq
              have hqk := hok q hqm
              obtain ⟨d0, d1, d2, d3, _⟩ := rowsQ_cells hv hq
              have hrow := N1.row
              rw [hQl] at hrow
              have hwk : IntKind.i64.wrap ((k : Int) + 1) = k + 1 := wrap_i64 (by omega) (by omega)
              have b1 : k * 4 + 1 + 1 ≤ n * 4 := by omega
              have b2 : k * 4 + 2 + 1 ≤ n * 4 := by omega
              have hskip : (q.en = true ∨ q.lag = true ∨ f.ver + j < q.next) → mix (pubQ f.cap (f.ver + j) x) (k + 1) qs' = Q := fun h => by
                rw [← hms, pubQ_skip h, set_selfT hq]
              have hts : t ≠ s := fun h => N1.ts (by simp [h])
              have hps : p ≠ s := fun h => N1.ts (by simp [h])
              cases he : q.en
              case true =>
                rw [he] at d3
                simp [h', hgr, hrow, d0, d2, d3, hwk]
                exact ⟨hpr, vs1, by rw [hskip (.inl he)]; exact N1, hown1⟩
              case false =>
              rw [he] at d3
              cases hl : q.lag
              case true =>
                rw [hl] at d2
                simp [h', hgr, hrow, d0, d2, d3, hwk]
                exact ⟨hpr, vs1, by rw [hskip (.inr (.inl hl))]; exact N1, hown1⟩
              case false =>
              rw [hl] at d2
              by_cases hnx : f.ver + j < q.next
              · simp [h', hgr, hrow, d0, d2, d3, hwk, hnx]
                exact ⟨hpr, vs1, by rw [hskip (.inr (.inr hnx))]; exact N1, hown1⟩
              have hgo : ¬(q.en = true ∨ q.lag = true ∨ f.ver + j < q.next) := by simp [he, hl]; omega
              by_cases hcap : (q.ids.l.length : Int) = f.cap
              · simp [h', hgr, hrow, d0, d1, d2, d3, hwk, hnx, hlv, hcap, b2]
                rw [rowsQ_splice hv hq 2 [.bool true] v { q with lag := true } (by simp) (by simp [rowQ])]
                have hst : ∀ (X : CB) (b : Nat), b ≠ s → (r.set s X)[b]? = r[b]? := fun X b hb => by rw [List.getElem?_set, if_neg (fun h => hb h.symm)]
                refine ⟨by rw [hst _ _ hts]; exact hgr, by rw [hst _ _ hps]; exact hpr, vs1.set k v, ?_, own_set hown1 hov⟩
                rw [← hms, pubQ_lag hgo hcap]
                exact N1.upd hv hq (by rw [hQl, List.getElem?_set, if_pos rfl, if_pos (get_lt hrow)]) (fun b _ hb _ => hst _ b hb) (hoq.keep fun b hb => hst _ _ fun h => (N1.far k v _ hv hb).1 (by rw [h])) (fun b hb => .inl hb)
              simp [h', hgr, hpr, hrow, d0, d1, d2, d3, hwk, hnx, hlv, hcap, b1, id_len hx32, List.take_of_length_le, hsf]
              have hpa : mix (pubQ f.cap (f.ver + j) x) (k + 1) qs' = Q.set k { q with ids := some (q.ids.l ++ [x]) } := by rw [← hms, pubQ_add hgo hcap]
              have N2 := N1.keep (r' := r ++ [.cells 32 (encId x)]) (fun b hb _ => List.getElem?_append_left hb)
              have hgr2 : (r ++ [CB.cells 32 (encId x)])[t]? = some (.cells 3 [.int .i64 f.cap, .int .i64 (f.ver + j), .sl 4 (s + 2) 0 n n (n * 4)]) := by rw [List.getElem?_append_left (get_lt hgr)]; exact hgr
              have hpr2 : (r ++ [CB.cells 32 (encId x)])[p]? = some (.cells 32 (encId x)) := by rw [List.getElem?_append_left (get_lt hpr)]; exact hpr
              have hlast : (r ++ [CB.cells 32 (encId x)])[r.length]? = some (.cells 32 (encId x)) := by simp
              obtain ⟨r2, hr2⟩ : ∃ r2, r2 = r ++ [CB.cells 32 (encId x)] := ⟨_, rfl⟩
              have hrl : r2.length = r.length + 1 := by rw [hr2]; simp
              rw [← hr2] at N2 hgr2 hpr2 hlast ⊢
              have hrow2 := N2.row
              rw [hQl] at hrow2
              have hoq2 := N2.own k v q hv hq
              have htk : List.take 32 (encId x) = encId x := List.take_of_length_le (by rw [id_len hx32]; omega)
              have hsl := get_lt hrow2
              cases hids : q.ids with
              | none =>
                rw [hids] at hoq2
                obtain rfl : v = .nilS := hoq2
                rw [app_nil (xs := [encId x]) (by simp [contentsL, hlast, htk]) (by omega) (by omega) (by simp) (by simp [roomMax])]
                simp
                refine AppK.keep ?_
                have hrow3 : ∀ X : CB, (r2 ++ [X])[s]? = some (.cells (n * 4) (rowsQ vs1 Q).flatten) := fun X => by rw [List.getElem?_append_left hsl]; exact hrow2
                simp [h', hrow3, b1, hwk]
                rw [rowsQ_splice hv hq 1 [_] (.sl 32 (r2.length + 1 + 1) 0 1 1 32) { q with ids := some [x] } (by simp) (by simp [rowQ])]
                have hst : ∀ (X Y : CB) (b : Nat), b < r2.length → b ≠ s → ((r2 ++ [Y]).set s X)[b]? = r2[b]? := fun X Y b hb hbs => by rw [List.getElem?_set, if_neg (fun h => hbs h.symm), List.getElem?_append_left hb]
                refine ⟨by rw [hst _ _ _ (get_lt hgr2) hts]; exact hgr2, by rw [hst _ _ _ (get_lt hpr2) hps]; exact hpr2, vs1.set k (.sl 32 (r2.length + 1 + 1) 0 1 1 32), ?_, own_set hown1 trivial⟩
                rw [hpa, hids]
                refine N2.upd hv hq (by rw [hQl, List.getElem?_set, if_pos rfl, if_pos (by simp; omega)]; rfl) (fun b hb hbs _ => hst _ _ b hb hbs) (.inr ⟨r2.length, rfl, ?_⟩) (fun b hb => .inr ?_)
                · rw [List.getElem?_set, if_neg (by omega)]; simp
                · cases hb
                  refine ⟨by omega, by omega, fun u hu => ?_⟩
                  have h1 := get_lt hgr2
                  have h2 := get_lt hpr2
                  simp at hu
                  omega
              | some ys =>
                rw [hids] at hoq2
                rcases hoq2 with h | ⟨b, rfl, hb⟩
                · rw [h] at hov; exact hov.elim
                rw [hids] at hqk
                have hyl : ys.length ≤ 1000000 + j := hqk.2
                rw [app_own (es := ys.map encId) (xs := [encId x]) (m := 1) (by simpa using hb) (by simp [contentsL, hlast, htk]) (by simp) rfl (by simp) (fun e he => by
                  obtain ⟨y, hy, rfl⟩ := List.mem_map.1 he; exact id_len (hqk.1 y hy)) (by omega) (by omega) (by simp [roomMax]; omega)]
                simp
                refine AppK.keep ?_
                have hbs : b ≠ s := fun h => (N2.far k _ _ hv rfl).1 (by rw [h])
                have hrow3 : ∀ X : CB, (r2.set b X)[s]? = some (.cells (n * 4) (rowsQ vs1 Q).flatten) := fun X => by rw [List.getElem?_set, if_neg hbs]; exact hrow2
                simp [h', hrow3, b1, hwk]
                rw [rowsQ_splice hv hq 1 [_] (.sl 32 (b + 2) 0 (ys.length + 1) (ys.length + 1) ((ys.length + 1) * 32)) { q with ids := some (ys ++ [x]) } (by simp) (by simp [rowQ])]
                have hst : ∀ (X Y : CB) (b' : Nat), b' ≠ b → b' ≠ s → ((r2.set b Y).set s X)[b']? = r2[b']? := fun X Y b' hb hbs => by rw [List.getElem?_set, if_neg (fun h => hbs h.symm), List.getElem?_set, if_neg (fun h => hb h.symm)]
                have hbT := (N2.far k _ _ hv rfl).2
                have hbt : t ≠ b := fun h => hbT t (by simp) (by rw [h])
                have hbp : p ≠ b := fun h => hbT p (by simp) (by rw [h])
                refine ⟨by rw [hst _ _ _ hbt hts]; exact hgr2, by rw [hst _ _ _ hbp hps]; exact hpr2, vs1.set k (.sl 32 (b + 2) 0 (ys.length + 1) (ys.length + 1) ((ys.length + 1) * 32)), ?_, own_set hown1 trivial⟩
                rw [hpa, hids]
                refine N2.upd hv hq (by rw [hQl, List.getElem?_set, if_pos rfl, if_pos (by simp; omega)]; rfl) (fun b' hb' hbs hne => hst _ _ b' (fun h => hne (by rw [h]; rfl)) hbs) (.inr ⟨b, by simp, ?_⟩) (fun b' hb' => .inl (by cases hb'; rfl))
                rw [List.getElem?_set, if_neg (fun h => hbs h.symm), List.getElem?_set, if_pos rfl, if_pos (get_lt hb)]
                simp
            · have hwj : IntKind.i64.wrap ((j : Int) + 1) = j + 1 := wrap_i64 (by omega) (by omega)
              have hwv : IntKind.i64.wrap (f.ver + (j : Int) + 1) = f.ver + j + 1 := wrap_i64 (by omega) (by omega)
              simp [h', hgr, hwj, hwv]
              have hkn : k = n := by omega
              rw [mix_all (by omega)] at N1
              have hst : ∀ (X : CB) (b : Nat), b ∉ [t, p] → (r.set t X)[b]? = r[b]? := fun X b hb => by rw [List.getElem?_set, if_neg (by simp at hb; omega)]
              refine ⟨h, _, _, ⟨rfl, rfl⟩, by rw [List.getElem?_set, if_pos rfl, if_pos (get_lt hgr), Int.add_assoc], vs1, _, (N1.keep fun b _ hb => hst _ b hb).to (fun u hu => .inl (by simp at hu ⊢; exact .inl hu)), hown1, by simp [hlq], fun q hq => ?_, ?_⟩
              · obtain ⟨q', hq', rfl⟩ := List.mem_map.1 hq
                exact pubQ_ok hx32 (hok q' hq')
              · rw [← hp, List.drop_eq_getElem_cons h, (List.getElem?_eq_some_iff.1 hx).2, pubs, Int.add_assoc]
          · simp
            refine ⟨hg1 _, by rw [hpl]; simp, vs, ?_, hown⟩
            rw [mix_0]
            exact (N.to (T' := [t, p]) (fun b hb => by simp at hb ⊢; omega)).keep (fun b hb _ => List.getElem?_append_left hb)
        · simp [h, hg]
          have hjl : j = ids.l.length := by omega
          rw [hgood]
          rw [hjl, List.drop_length] at hp
          have hp2 : qs' = pubs f.cap f.ver qs ids.l := hp
          rw [hjl]
          have hr := N.rd (L := [x0, CB.cells 3 [.int .i64 f.cap, .int .i64 (f.ver + ids.l.length), .sl 4 (s + 2) 0 n n (n * 4)]]) rfl (fun q hq => (hok q hq).1) n (n * 4) (by rw [hlq])
          rw [hlq, hp2] at hr
          have hF := rd_Fs (f := { f with ver := f.ver + ids.l.length, subs := some (pubs f.cap f.ver qs ids.l) }) hr
          rw [hs]
          exact rd_tu2 hF (.same _ rfl)
      · simp
        refine ⟨_, _, ⟨rfl, rfl⟩, by rw [ht]; simp, vs0, qs, ?_, ho0, hn.symm, fun q hq => ?_, rfl⟩
        · exact (N0.to (T' := [t]) (fun b hb => by simp at hb ⊢; omega)).keep (fun b hb _ => List.getElem?_append_left hb)
        · exact hf.1 q (by rw [hfs]; exact hq)
  · simp [h1]
    unfold publish
    rw [if_pos h1]
    exact rd_tu2 (hz _) (.same _ rfl)
end Fd
end Go.CM
