/-
  Feeds: the reference's Publish.
-/
import Derived.Test.YtfedhobckpgokaaFdM
namespace Go.CM
open Go Go.Proofs
set_option linter.unusedVariables false
set_option linter.unusedSimpArgs false
set_option maxRecDepth 100000
namespace Fd

def refPublish (f : Feed) (ids : List Id) : Feed × Int :=
  if chk f ≠ 0 then (zeroF, chk f) else if 60 < (ids.length : Int) ∨ 1000000000 < f.ver + ids.length then (zeroF, 4)
  else ({ f with ver := f.ver + ids.length, subs := if f.subs.l = [] then none else some (pubs f.cap f.ver (f.subs.l.map twQ) ids) }, 0)

set_option maxHeartbeats 8000000 in
theorem refPublish_ok (f : Feed) (ids : Sv Id) (hf : okF f) (hi : okIds ids) (hil : ids.l.length ≤ 1000000) : PureC Try.prog G0 20 [encF f, encIds ids] (.tu [encF (refPublish f ids.l).1, .int .i64 (refPublish f ids.l).2]) := by
  refine pure_of Try.checked.mixed G0_closed ?_
  apply call_intro c20_eq r20_eq
  unfold c20 r20
  simp [encF]
  refine pure_call (refCheck_ok f hf.2) (show closedL [encF f] = true by simp [closedL, closed_F]) ?_
  have hz : ∀ l, Rd l (.ag [.int .i64 0, .int .i64 0, .nilS]) (encF zeroF) := fun l => .same _ (closed_F zeroF)
  have hlen : lenM (.sl 32) (encIds ids) = some (.int .i64 ids.l.length) := len_encS _
  simp
  by_cases h1 : chk f = 0
  · have hver : 0 ≤ f.ver ∧ f.ver ≤ 1000000000 := by
      unfold chk at h1
      repeat' split at h1
      all_goals first | omega | cases h1
    have hw0 : IntKind.i64.wrap (f.ver + (ids.l.length : Int)) = f.ver + (ids.l.length : Int) := wrap_i64 (by omega) (by omega)
    have hbad : (60 < (ids.l.length : Int) ∨ 1000000000 < f.ver + ids.l.length) → refPublish f ids.l = (zeroF, 4) := fun h => by
      unfold refPublish; rw [if_neg (by simp [h1]), if_pos h]
    by_cases h2 : 60 < (ids.l.length : Int)
    · simp [h1, hlen, hw0, h2]
      rw [hbad (.inl h2)]
      exact rd_tu2 (hz _) (.same _ rfl)
    by_cases h3 : 1000000000 < f.ver + (ids.l.length : Int)
    · simp [h1, hlen, hw0, h2, h3]
      rw [hbad (.inr (by omega))]
      exact rd_tu2 (hz _) (.same _ rfl)
    have hgood : refPublish f ids.l = ({ f with ver := f.ver + ids.l.length, subs := if f.subs.l = [] then none else some (pubs f.cap f.ver (f.subs.l.map twQ) ids.l) }, 0) := by
      unfold refPublish; rw [if_neg (by simp [h1]), if_neg (by omega)]
    simp [h1, hlen, hw0, h2, h3]
    refine refTwin_nest f hf (fun hs x y => ?_) (fun hne r0 s vs0 N0 ho0 => ?_)
    · simp [hlen]
      refine loop_up ids.l.length (fun j σ l => σ 1 = encIds ids ∧ σ 4 = .ptr 1 0 3 ∧ σ 6 = .ptr 4 0 3 ∧ σ 7 = .int .i64 j ∧
        ∃ x0 x2 x3 rest, l = x0 :: .cells 3 [.int .i64 0, .int .i64 0, .nilS] :: x2 :: x3 :: .cells 3 [.int .i64 f.cap, .int .i64 (f.ver + j), .nilS] :: rest) ?_ (by simp)
      rintro j σ l hj ⟨g1, g4, g6, g7, x0, x2, x3, rest, rfl⟩
      obtain ⟨σ, rfl⟩ := upds4 g1 g4 g6 g7
      clear g1 g4 g6 g7
      unfold l20_1
      simp [hlen]
      by_cases h : j < ids.l.length
      · have hwj : IntKind.i64.wrap ((j : Int) + 1) = j + 1 := wrap_i64 (by omega) (by omega)
        have hwv : IntKind.i64.wrap (f.ver + (j : Int) + 1) = f.ver + j + 1 := wrap_i64 (by omega) (by omega)
        simp [h]
        refine loop_up 0 (fun k σ l => σ 1 = encIds ids ∧ σ 4 = .ptr 1 0 3 ∧ σ 6 = .ptr 4 0 3 ∧ σ 7 = .int .i64 j ∧ σ 8 = .int .i64 k ∧
          ∃ rest, l = x0 :: .cells 3 [.int .i64 0, .int .i64 0, .nilS] :: x2 :: x3 :: .cells 3 [.int .i64 f.cap, .int .i64 (f.ver + j), .nilS] :: rest) ?_ (by simp)
        rintro k σ l hk ⟨g1, g4, g6, g7, g8, rest2, rfl⟩
        obtain ⟨σ, rfl⟩ := upds5 g1 g4 g6 g7 g8
        clear g1 g4 g6 g7 g8
        obtain rfl : k = 0 := by omega
        unfold l20_0
        simp [h, hwj, hwv]
        omega
      · simp [h]
        have hjl : j = ids.l.length := by omega
        rw [hgood, hjl, if_pos hs]
        have hF := rd_Fs (l := x0 :: CB.cells 3 [.int .i64 f.cap, .int .i64 (f.ver + ids.l.length), .nilS] :: x2 :: x3 :: CB.cells 3 [.int .i64 f.cap, .int .i64 (f.ver + ids.l.length), .nilS] :: rest) (f := { f with ver := f.ver + ids.l.length, subs := none }) (v := .nilS) (.same _ rfl)
        exact rd_tu2 hF (.same _ rfl)
    · replace N0 : Nest 2 r0 [] s vs0 (f.subs.l.map twQ) := N0
      obtain ⟨qs, hqs⟩ : ∃ qs, qs = f.subs.l.map twQ := ⟨_, rfl⟩
      rw [← hqs] at N0
      obtain ⟨t, ht⟩ : ∃ t, t = r0.length := ⟨_, rfl⟩
      obtain ⟨n, hn⟩ : ∃ n, n = qs.length := ⟨_, rfl⟩
      have hn0 : n = f.subs.l.length := by rw [hn, hqs]; simp
      have hn1 : n ≤ 1000000 := by rw [hn0]; exact hf.2
      have hbase : okN 0 qs := fun q hq => by
        rw [hqs] at hq
        obtain ⟨q', hq', rfl⟩ := List.mem_map.1 hq
        exact hf.1 q' hq'
      simp [hlen]
      rw [← ht, ← hn0]
      refine loop_up ids.l.length (fun j σ l => σ 1 = encIds ids ∧ σ 4 = .ptr 1 0 3 ∧ σ 6 = .ptr (t + 2) 0 3 ∧ σ 7 = .int .i64 j ∧
        ∃ x0 rest vs qs', l = x0 :: .cells 3 [.int .i64 0, .int .i64 0, .nilS] :: rest ∧ rest[t]? = some (.cells 3 [.int .i64 f.cap, .int .i64 (f.ver + j), .sl 4 (s + 2) 0 n n (n * 4)]) ∧
          Nest 2 rest [t] s vs qs' ∧ (∀ v ∈ vs, isOwn v) ∧ qs'.length = n ∧ okN j qs' ∧ pubs f.cap (f.ver + j) qs' (ids.l.drop j) = pubs f.cap f.ver qs ids.l) ?_ ?_
      · rintro j σ l hj ⟨g1, g4, g6, g7, x0, rest, vs, qs', rfl, hg, N, hown, hlq, hok, hp⟩
        obtain ⟨σ, rfl⟩ := upds4 g1 g4 g6 g7
        clear g1 g4 g6 g7
        unfold l20_1
        simp [hlen]
        by_cases h : j < ids.l.length
        · obtain ⟨x, hx, hxm⟩ := get_of h
          have hx32 : x.length = 32 := hi x hxm
          have hia : iaC (.sl 32) (encIds ids) (.int .i64 j) = some (.rptr (encId x) 0) := by
            cases hh : ids with
            | none => rw [hh] at hx; simp at hx
            | some xs => rw [hh] at hx; simp at hx; simp [encIds, ia_encS, hx]
          have htl := get_lt hg
          have hsf := splice_full (cs := encId zeroId) (vs := encId x) (by rw [id_len hx32]; rfl)
          rw [zero_id] at hsf
          simp [h]
          refine loop_up n (fun k σ l => σ 1 = encIds ids ∧ σ 4 = .ptr 1 0 3 ∧ σ 6 = .ptr (t + 2) 0 3 ∧ σ 7 = .int .i64 j ∧ σ 8 = .int .i64 k ∧
            ∃ r vs, l = x0 :: .cells 3 [.int .i64 0, .int .i64 0, .nilS] :: r ∧ r[t]? = some (.cells 3 [.int .i64 f.cap, .int .i64 (f.ver + j), .sl 4 (s + 2) 0 n n (n * 4)]) ∧
              Nest 2 r [t] s vs (mix (pubQ f.cap (f.ver + j) x) k qs') ∧ ∀ v ∈ vs, isOwn v) ?_ ?_
          · rintro k σ l hk ⟨g1, g4, g6, g7, g8, r, vs1, rfl, hgr, N1, hown1⟩
            obtain ⟨σ, rfl⟩ := upds5 g1 g4 g6 g7 g8
            clear g1 g4 g6 g7 g8
            unfold l20_0
            simp [hgr]
            by_cases h' : k < n
            · obtain ⟨q, hq', hqm⟩ := get_of (show k < qs'.length by omega)
              have hq := mix_get (f := pubQ f.cap (f.ver + j) x) hq'
              have hms := mix_set (f := pubQ f.cap (f.ver + j) x) hq'
              have hQl : (mix (pubQ f.cap (f.ver + j) x) k qs').length = n := by rw [mix_len, hlq]
              obtain ⟨Q, hQ⟩ : ∃ Q, Q = mix (pubQ f.cap (f.ver + j) x) k qs' := ⟨_, rfl⟩
              rw [← hQ] at hq hms N1 hQl
              obtain ⟨v, hv⟩ : ∃ v, vs1[k]? = some v := ⟨vs1[k]'(by rw [N1.len, hQl]; exact h'), List.getElem?_eq_getElem _⟩
              have hov := hown1 v (List.mem_of_getElem? hv)
              have hoq := N1.own k v q hv hq
              have hlv := len_own hoq
              have hcv := cellsI_own hoq
              have hqk := hok q hqm
              obtain ⟨d0, d1, d2, d3, d4⟩ := rowsQ_cells hv hq
              have hrow := N1.row
              rw [hQl] at hrow
              have hfl := rowsQ_flat N1.len
              rw [hQl] at hfl
              have hwk : IntKind.i64.wrap ((k : Int) + 1) = k + 1 := wrap_i64 (by omega) (by omega)
              have b4 : k * 4 + 4 ≤ n * 4 := by omega
              have hskip : (q.en = true ∨ q.lag = true ∨ f.ver + j < q.next) → mix (pubQ f.cap (f.ver + j) x) (k + 1) qs' = Q := fun h => by
                rw [← hms, pubQ_skip h, set_selfT hq]
              have hts : t ≠ s := fun h => N1.ts (by simp [h])
              have hgr2 : ∀ X : List CB, (r ++ X)[t]? = some (.cells 3 [.int .i64 f.cap, .int .i64 (f.ver + j), .sl 4 (s + 2) 0 n n (n * 4)]) := fun X => by rw [List.getElem?_append_left (get_lt hgr)]; exact hgr
              have hrow2 : ∀ X : List CB, (r ++ X)[s]? = some (.cells (n * 4) (rowsQ vs1 Q).flatten) := fun X => by rw [List.getElem?_append_left (get_lt hrow)]; exact hrow
              have kp : ∀ X : List CB, Nest 2 (r ++ X) [t] s vs1 Q := fun X => N1.keep (fun b hb _ => List.getElem?_append_left hb)
              have hst : ∀ (X : CB) (Y : List CB) (b : Nat), b < r.length → b ≠ s → ((r ++ Y).set s X)[b]? = r[b]? := fun X Y b hb hbs => by rw [List.getElem?_set, if_neg (fun h => hbs h.symm), List.getElem?_append_left hb]
              cases he : q.en
              case true =>
                simp [h', hgr, hgr2, hrow, d4, b4, hfl, rowQ, he, hwk]
                exact ⟨vs1, by rw [hskip (.inl he)]; exact kp _, hown1⟩
              case false =>
              cases hl : q.lag
              case true =>
                simp [h', hgr, hgr2, hrow, d4, b4, hfl, rowQ, he, hl, hwk]
                exact ⟨vs1, by rw [hskip (.inr (.inl hl))]; exact kp _, hown1⟩
              case false =>
              by_cases hnx : f.ver + j < q.next
              · simp [h', hgr, hgr2, hrow, d4, b4, hfl, rowQ, he, hl, hwk, hnx]
                exact ⟨vs1, by rw [hskip (.inr (.inr hnx))]; exact kp _, hown1⟩
              have hgo : ¬(q.en = true ∨ q.lag = true ∨ f.ver + j < q.next) := by simp [he, hl]; omega
              by_cases hcap : (q.ids.l.length : Int) = f.cap
              · simp [h', hgr, hgr2, hrow, hrow2, d4, b4, hfl, rowQ, he, hl, hwk, hnx, hlv, hcap]
                have hsp := rowsQ_splice hv hq 0 (rowQ v { q with lag := true }) v { q with lag := true } (by simp [rowQ]) (by simp [rowQ])
                simp [rowQ, he] at hsp
                rw [hsp]
                refine ⟨by rw [hst _ _ _ (get_lt hgr) hts]; exact hgr, vs1.set k v, ?_, own_set hown1 hov⟩
                rw [← hms, pubQ_lag hgo hcap]
                rw [he]
                exact (kp _).upd hv hq (q' := { q with lag := true, en := false }) (by rw [hQl, List.getElem?_set, if_pos rfl, if_pos (by simp; have := get_lt hrow; omega)]) (fun b hb hbs _ => by rw [List.getElem?_set, if_neg (fun h => hbs h.symm)])
                  (((kp _).own k v q hv hq).keep fun b hb => by rw [List.getElem?_set, if_neg (fun h => (N1.far k v _ hv hb).1 (by rw [h]))]) (fun b hb => .inl hb)
              simp [h', hgr, hgr2, hrow, hrow2, d4, b4, hfl, rowQ, he, hl, hwk, hnx, hlv, hcap, hia, id_len hx32, List.take_of_length_le, hsf]
              have hpa : mix (pubQ f.cap (f.ver + j) x) (k + 1) qs' = Q.set k { q with ids := some (q.ids.l ++ [x]) } := by rw [← hms, pubQ_add hgo hcap]
              obtain ⟨X, hX⟩ : ∃ X, X = [CB.cells 4 [.int .i64 q.next, v, .bool false, .bool false], CB.cells 32 (encId x)] := ⟨_, rfl⟩
              have hXl : X.length = 2 := by rw [hX]; rfl
              obtain ⟨r2, hr2⟩ : ∃ r2, r2 = r ++ X := ⟨_, rfl⟩
              have N2 := kp X
              have hgr3 := hgr2 X
              have hrl : r2.length = r.length + 2 := by rw [hr2, List.length_append, hXl]
              have hcopy : r2[r.length]? = some (.cells 4 [.int .i64 q.next, v, .bool false, .bool false]) := by
                rw [hr2, hX]; simp
              have hlast : r2[r.length + 1]? = some (.cells 32 (encId x)) := by rw [hr2, gA, hX]; rfl
              rw [← hX, ← hr2]
              rw [← hr2] at N2 hgr3
              have hrow3 := N2.row
              rw [hQl] at hrow3
              have hoq2 := N2.own k v q hv hq
              have htk : List.take 32 (encId x) = encId x := List.take_of_length_le (by rw [id_len hx32]; omega)
              have hsl := get_lt hrow3
              have hcs : r.length ≠ s := by have := get_lt hrow; omega
              have hct : r.length ≠ t := by have := get_lt hgr; omega
              cases hids : q.ids with
              | none =>
                rw [hids] at hoq2
                obtain rfl : v = .nilS := hoq2
                rw [app_nil (xs := [encId x]) (by simp [contentsL, hlast, htk]) (by omega) (by omega) (by simp) (by simp [roomMax])]
                simp
                refine AppK.keep ?_
                have hc3 : ∀ Y : CB, (r2 ++ [Y])[r.length]? = some (.cells 4 [.int .i64 q.next, .nilS, .bool false, .bool false]) := fun Y => by rw [List.getElem?_append_left (by omega)]; exact hcopy
                have g4 : ∀ C Y : CB, ((r2 ++ [Y]).set r.length C)[t]? = some (.cells 3 [.int .i64 f.cap, .int .i64 (f.ver + j), .sl 4 (s + 2) 0 n n (n * 4)]) := fun C Y => by rw [List.getElem?_set, if_neg hct, List.getElem?_append_left (get_lt hgr3)]; exact hgr3
                have w4 : ∀ C Y : CB, ((r2 ++ [Y]).set r.length C)[s]? = some (.cells (n * 4) (rowsQ vs1 Q).flatten) := fun C Y => by rw [List.getElem?_set, if_neg hcs, List.getElem?_append_left (get_lt hrow3)]; exact hrow3
                have e4 : ∀ C Y : CB, ((r2 ++ [Y]).set r.length C)[r.length]? = some C := fun C Y => by rw [List.getElem?_set, if_pos rfl, if_pos (by simp; omega)]
                simp [h', hwk, CV.cells, hc3, g4, w4, e4, b4]
                have hsp := rowsQ_splice hv hq 0 [.int .i64 q.next, .sl 32 (r2.length + 1 + 1) 0 1 1 32, .bool false, .bool false] (.sl 32 (r2.length + 1 + 1) 0 1 1 32) { q with ids := some [x] } (by simp) (by simp [rowQ, he, hl])
                rw [Nat.add_zero] at hsp
                rw [hsp, hpa, hids]
                have hst : ∀ (Z C Y : CB) (b : Nat), b < r2.length → b ≠ r.length → b ≠ s → (((r2 ++ [Y]).set r.length C).set s Z)[b]? = r2[b]? := fun Z C Y b hb hbr hbs => by rw [List.getElem?_set, if_neg (fun h => hbs h.symm), List.getElem?_set, if_neg (fun h => hbr h.symm), List.getElem?_append_left hb]
                refine ⟨by rw [hst _ _ _ _ (get_lt hgr3) hct.symm hts]; exact hgr3, vs1.set k (.sl 32 (r2.length + 1 + 1) 0 1 1 32), ?_, own_set hown1 trivial⟩
                have N3 := ((N1.to (T' := [t, r.length]) (fun b hb => by simp at hb ⊢; omega)).keep (r' := r2) (fun b hb _ => by rw [hr2, List.getElem?_append_left hb])).keep (r' := r2.set r.length (CB.cells 4 [.int .i64 q.next, .sl 32 (r2.length + 1 + 1) 0 1 1 32, .bool false, .bool false])) (fun b hb hT => by rw [List.getElem?_set, if_neg (by simp at hT; omega)])
                have N4 := N3.upd hv hq (r' := ((r2 ++ [CB.cells 32 (encId x)]).set r.length (CB.cells 4 [.int .i64 q.next, .sl 32 (r2.length + 1 + 1) 0 1 1 32, .bool false, .bool false])).set s (CB.cells (n * 4) (rowsQ (vs1.set k (.sl 32 (r2.length + 1 + 1) 0 1 1 32)) (Q.set k { q with ids := some [x] })).flatten)) (v' := .sl 32 (r2.length + 1 + 1) 0 1 1 32) (q' := { q with ids := some [x] })
                  (by rw [hQl, List.getElem?_set, if_pos rfl, if_pos (by simp; omega)])
                  (fun b hb hbs _ => by
                    rw [List.length_set] at hb
                    rw [List.getElem?_set, if_neg (fun h => hbs h.symm), List.getElem?_set, List.getElem?_set]
                    by_cases hbr : r.length = b
                    · rw [if_pos hbr, if_pos hbr, if_pos (by simp; omega), if_pos (by omega)]
                    · rw [if_neg hbr, if_neg hbr, List.getElem?_append_left hb])
                  (.inr ⟨r2.length, rfl, by rw [List.getElem?_set, if_neg (by omega), List.getElem?_set, if_neg (by omega)]; simp⟩)
                  (fun b hb => .inr (by
                    cases hb
                    rw [List.length_set]
                    refine ⟨by omega, by omega, fun u hu => ?_⟩
                    have := get_lt hgr
                    simp at hu
                    omega))
                exact N4.to (fun u hu => .inl (by simp at hu ⊢; exact .inl hu))
              | some ys =>
                rw [hids] at hoq2
                rcases hoq2 with h | ⟨b, rfl, hb⟩
                · rw [h] at hov; exact hov.elim
                rw [hids] at hqk
                have hyl : ys.length ≤ 1000000 + j := hqk.2
                rw [app_own (es := ys.map encId) (xs := [encId x]) (m := 1) (by simpa using hb) (by simp [contentsL, hlast, htk]) (by simp) rfl (by simp) (fun e he => by
                  obtain ⟨y, hy, rfl⟩ := List.mem_map.1 he; exact id_len (hqk.1 y hy)) (by omega) (by omega) (by simp [roomMax]; omega)]
                simp
                refine AppK.keep ?_
                have hbs : b ≠ s := fun h => (N2.far k _ _ hv rfl).1 (by rw [h])
                have hbr : b ≠ r.length := fun h => by
                  obtain ⟨b', h2, h3⟩ := hoq.blk rfl
                  omega
                have hbt : t ≠ b := fun h => (N2.far k _ _ hv rfl).2 t (by simp) (by rw [h])
                have hc3 : ∀ Y : CB, (r2.set b Y)[r.length]? = some (.cells 4 [.int .i64 q.next, .sl 32 (b + 2) 0 ys.length ys.length (ys.length * 32), .bool false, .bool false]) := fun Y => by rw [List.getElem?_set, if_neg hbr]; exact hcopy
                have g4 : ∀ C Y : CB, ((r2.set b Y).set r.length C)[t]? = some (.cells 3 [.int .i64 f.cap, .int .i64 (f.ver + j), .sl 4 (s + 2) 0 n n (n * 4)]) := fun C Y => by rw [List.getElem?_set, if_neg hct, List.getElem?_set, if_neg (fun h => hbt h.symm)]; exact hgr3
                have w4 : ∀ C Y : CB, ((r2.set b Y).set r.length C)[s]? = some (.cells (n * 4) (rowsQ vs1 Q).flatten) := fun C Y => by rw [List.getElem?_set, if_neg hcs, List.getElem?_set, if_neg hbs]; exact hrow3
                have e4 : ∀ C Y : CB, ((r2.set b Y).set r.length C)[r.length]? = some C := fun C Y => by rw [List.getElem?_set, if_pos rfl, if_pos (by simp; omega)]
                simp [h', hwk, CV.cells, hc3, g4, w4, e4, b4]
                have hsp := rowsQ_splice hv hq 0 [.int .i64 q.next, .sl 32 (b + 2) 0 (ys.length + 1) (ys.length + 1) ((ys.length + 1) * 32), .bool false, .bool false] (.sl 32 (b + 2) 0 (ys.length + 1) (ys.length + 1) ((ys.length + 1) * 32)) { q with ids := some (ys ++ [x]) } (by simp) (by simp [rowQ, he, hl])
                rw [Nat.add_zero] at hsp
                rw [hsp, hpa, hids]
                have hst : ∀ (Z C Y : CB) (b' : Nat), b' ≠ b → b' ≠ r.length → b' ≠ s → (((r2.set b Y).set r.length C).set s Z)[b']? = r2[b']? := fun Z C Y b' hb hbr hbs => by rw [List.getElem?_set, if_neg (fun h => hbs h.symm), List.getElem?_set, if_neg (fun h => hbr h.symm), List.getElem?_set, if_neg (fun h => hb h.symm)]
                refine ⟨by rw [hst _ _ _ _ hbt hct.symm hts]; exact hgr3, vs1.set k (.sl 32 (b + 2) 0 (ys.length + 1) (ys.length + 1) ((ys.length + 1) * 32)), ?_, own_set hown1 trivial⟩
                have N3 := ((N1.to (T' := [t, r.length]) (fun b hb => by simp at hb ⊢; omega)).keep (r' := r2) (fun b hb _ => by rw [hr2, List.getElem?_append_left hb])).keep (r' := r2.set r.length (CB.cells 4 [.int .i64 q.next, .sl 32 (b + 2) 0 (ys.length + 1) (ys.length + 1) ((ys.length + 1) * 32), .bool false, .bool false])) (fun b hb hT => by rw [List.getElem?_set, if_neg (by simp at hT; omega)])
                have N4 := N3.upd hv hq (r' := ((r2.set b (CB.cells ((ys.length + 1) * 32) ((List.map encId ys).flatten ++ encId x))).set r.length (CB.cells 4 [.int .i64 q.next, .sl 32 (b + 2) 0 (ys.length + 1) (ys.length + 1) ((ys.length + 1) * 32), .bool false, .bool false])).set s (CB.cells (n * 4) (rowsQ (vs1.set k (.sl 32 (b + 2) 0 (ys.length + 1) (ys.length + 1) ((ys.length + 1) * 32))) (Q.set k { q with ids := some (ys ++ [x]) })).flatten)) (v' := .sl 32 (b + 2) 0 (ys.length + 1) (ys.length + 1) ((ys.length + 1) * 32)) (q' := { q with ids := some (ys ++ [x]) })
                  (by rw [hQl, List.getElem?_set, if_pos rfl, if_pos (by simp; omega)])
                  (fun b' hb' hbs' hne => by
                    have hbb : b' ≠ b := fun h => hne (by rw [h]; rfl)
                    rw [List.length_set] at hb'
                    rw [List.getElem?_set, if_neg (fun h => hbs' h.symm), List.getElem?_set, List.getElem?_set]
                    by_cases hbr : r.length = b'
                    · rw [if_pos hbr, if_pos (by simp; omega), ← hbr, List.getElem?_set, if_pos rfl, if_pos (by omega)]
                    · rw [if_neg hbr, if_neg (fun h => hbb h.symm), List.getElem?_set, if_neg hbr])
                  (.inr ⟨b, by simp, by rw [List.getElem?_set, if_neg (fun h => hbs h.symm), List.getElem?_set, if_neg (fun h => hbr h.symm), List.getElem?_set, if_pos rfl, if_pos (get_lt hb)]; simp⟩)
                  (fun b' hb' => .inl (by cases hb'; rfl))
                exact N4.to (fun u hu => .inl (by simp at hu ⊢; exact .inl hu))
            · have hwj : IntKind.i64.wrap ((j : Int) + 1) = j + 1 := wrap_i64 (by omega) (by omega)
              have hwv : IntKind.i64.wrap (f.ver + (j : Int) + 1) = f.ver + j + 1 := wrap_i64 (by omega) (by omega)
              simp [h', hgr, hwj, hwv]
              have hkn : k = n := by omega
              rw [mix_all (by omega)] at N1
              have hst : ∀ (X : CB) (b : Nat), b ∉ [t] → (r.set t X)[b]? = r[b]? := fun X b hb => by rw [List.getElem?_set, if_neg (by simp at hb; omega)]
              refine ⟨h, _, _, ⟨rfl, rfl⟩, by rw [List.getElem?_set, if_pos rfl, if_pos (get_lt hgr), Int.add_assoc], vs1, _, (N1.keep fun b _ hb => hst _ b hb), hown1, by simp [hlq], fun q hq => ?_, ?_⟩
              · obtain ⟨q', hq', rfl⟩ := List.mem_map.1 hq
                exact pubQ_ok hx32 (hok q' hq')
              · rw [← hp, List.drop_eq_getElem_cons h, (List.getElem?_eq_some_iff.1 hx).2, pubs, Int.add_assoc]
          · simp
            refine ⟨hg, vs, ?_, hown⟩
            rw [mix_0]
            exact N
        · simp [h, hg]
          have hjl : j = ids.l.length := by omega
          rw [hgood]
          rw [hjl, List.drop_length] at hp
          have hp2 : qs' = pubs f.cap f.ver qs ids.l := hp
          rw [hjl]
          have hr := N.rd (L := [x0, CB.cells 3 [.int .i64 f.cap, .int .i64 (f.ver + ids.l.length), .sl 4 (s + 2) 0 n n (n * 4)]]) rfl (fun q hq => (hok q hq).1) n (n * 4) (by rw [hlq])
          rw [hlq, hp2] at hr
          have hF := rd_Fs (f := { f with ver := f.ver + ids.l.length, subs := some (pubs f.cap f.ver qs ids.l) }) hr
          rw [if_neg hne, ← hqs]
          exact rd_tu2 hF (.same _ rfl)
      · simp
        refine ⟨_, _, ⟨rfl, rfl⟩, by rw [ht]; simp, vs0, qs, ?_, ho0, hn.symm, hbase, rfl⟩
        exact (N0.to (T' := [t]) (fun b hb => by simp at hb ⊢; omega)).keep (fun b hb _ => List.getElem?_append_left hb)
  · simp [h1]
    refine pure_call (refCheck_ok f hf.2) (show closedL [encF f] = true by simp [closedL, closed_F]) ?_
    simp
    unfold refPublish
    rw [if_pos h1]
    exact rd_tu2 (hz _) (.same _ rfl)
end Fd
end Go.CM
