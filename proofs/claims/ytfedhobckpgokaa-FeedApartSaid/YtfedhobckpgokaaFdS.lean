/-
  Feeds: the law FeedApart.
-/
import Derived.Test.YtfedhobckpgokaaFdR
namespace Go.CM
open Go Go.Proofs
set_option linter.unusedVariables false
set_option linter.unusedSimpArgs false
set_option maxRecDepth 100000
namespace Fd

theorem pubs_append (cap : Int) : ∀ (l1 l2 : List Id) (ver : Int) (qs : List Queue), pubs cap ver qs (l1 ++ l2) = pubs cap (ver + l1.length) (pubs cap ver qs l1) l2
  | [], l2, ver, qs => by simp [pubs]
  | x :: r, l2, ver, qs => by
    rw [List.cons_append, pubs, pubs, pubs_append cap r l2]
    congr 1
    simp; omega
/-- Telling in two parts is telling at once. -/
theorem publish_two {f : Feed} (h : chk f = 0) (hv : f.ver ≤ 1000000) {l : List Id} (hl : l.length ≤ 60) (k : Nat) (hk : k ≤ l.length) :
    (publish f l).2 = 0 ∧ (publish f (l.take k)).2 = 0 ∧ publish (publish f (l.take k)).1 (l.drop k) = publish f l ∧ (publish f l).1.ver = f.ver + l.length ∧ (publish f l).1.subs.l.length = f.subs.l.length := by
  have e1 : (l.take k).length = k := by simp; omega
  have e2 : (l.drop k).length = l.length - k := by simp
  have p0 := publish_ok0 h (ids := l) hl (by omega)
  have p1 := publish_ok0 h (ids := l.take k) (by omega) (by omega)
  have v1 := valid_publish h (ids := l.take k) (by omega) (by omega)
  have hv1 : (publish f (l.take k)).1.ver = f.ver + k := by rw [p1]; show f.ver + ((l.take k).length : Int) = _; rw [e1]
  have p2 := publish_ok0 v1 (ids := l.drop k) (by omega) (by omega)
  refine ⟨by rw [p0], by rw [p1], ?_, by rw [p0], ?_⟩
  · rw [p2, p1, p0]
    have hver : f.ver + ((l.take k).length : Int) + ((l.drop k).length : Int) = f.ver + l.length := by rw [e1, e2]; omega
    have hsub : (f.subs.map fun qs => pubs f.cap f.ver qs (l.take k)).map (fun qs => pubs f.cap (f.ver + ((l.take k).length : Int)) qs (l.drop k)) = f.subs.map fun qs => pubs f.cap f.ver qs l := by
      rw [Option.map_map]
      congr 1
      funext qs
      show pubs f.cap (f.ver + ((l.take k).length : Int)) (pubs f.cap f.ver qs (l.take k)) (l.drop k) = _
      rw [← pubs_append, List.take_append_drop]
    simp only [hver]
    rw [hsub]
  · rw [p0, publish_subs, pubs_len]
theorem take_others {f : Feed} {n : Nat} (h : (take f n).e = 0) : (take f n).f.subs.l.length = f.subs.l.length ∧ ∀ k, k ≠ n → (take f n).f.subs.l[k]? = f.subs.l[k]? := by
  have key : ∀ q, (setQ f n q).subs.l.length = f.subs.l.length ∧ ∀ k, k ≠ n → (setQ f n q).subs.l[k]? = f.subs.l[k]? := fun q => by
    refine ⟨?_, fun k hk => ?_⟩
    · show (f.subs.l.set n q).length = _; simp
    · show (f.subs.l.set n q)[k]? = _
      rw [List.getElem?_set, if_neg (fun e => hk e.symm)]
  unfold take at h ⊢
  split
  · rename_i h1; rw [if_pos h1] at h; exact absurd h h1
  · rename_i h1
    rw [if_neg h1] at h
    rw [Int.toNat_natCast] at h ⊢
    split
    · rename_i hq; rw [hq] at h; simp at h
    · rename_i q hq
      rw [hq] at h
      split
      · exact key _
      · rename_i hi
        simp only [hi] at h
        split
        · exact key _
        · rename_i hl; rw [if_neg hl] at h; simp at h
theorem end_others {f : Feed} {n : Nat} (h : chk f = 0) {q : Queue} (hq : f.subs.l[n]? = some q) :
    ((endF f n).2 = 0 ∧ q.en = false ∧ (endF f n).1.subs.l.length = f.subs.l.length ∧ ∀ k, k ≠ n → (endF f n).1.subs.l[k]? = f.subs.l[k]?) ∨ ((endF f n).2 = 34 ∧ q.en = true) := by
  have hn := lt_get hq
  have hnum : num f n = if q.en then 34 else 0 := by
    unfold num
    rw [if_neg (by simp [h]), if_neg (by omega), if_neg (by omega), Int.toNat_natCast, hq]
  cases he : q.en
  · rw [he] at hnum
    rw [end_good (by simpa using hnum) hq]
    refine .inl ⟨rfl, rfl, ?_, fun k hk => ?_⟩
    · show (f.subs.l.set n (endQ q)).length = _; simp
    · show (f.subs.l.set n (endQ q))[k]? = _
      rw [List.getElem?_set, if_neg (fun e => hk e.symm)]
  · rw [he] at hnum
    rw [end_bad (by rw [hnum]; simp)]
    exact .inr ⟨by rw [hnum]; rfl, rfl⟩
end Fd
end Go.CM
/-
  Feeds: the law FeedApart, walked.
-/
namespace Go.CM
open Go Go.Proofs
set_option linter.unusedVariables false
set_option linter.unusedSimpArgs false
set_option maxRecDepth 100000
namespace Fd

theorem cut_to (s : Sv Id) (k : Nat) (hk : k ≤ s.l.length) : ∃ t : Sv Id, sliceM (.sl 32) (encIds s) none (some (.int .i64 k)) none = some (encIds t) ∧ t.l = s.l.take k := by
  cases s with
  | none =>
    obtain rfl : k = 0 := Nat.le_zero.1 hk
    exact ⟨none, rfl, rfl⟩
  | some xs =>
    refine ⟨some (xs.take k), ?_, rfl⟩
    have hk' : k ≤ xs.length := hk
    unfold encIds
    rw [slice_to (by omega) (by omega)]
    rfl
theorem cut_from (s : Sv Id) (k : Nat) (hk : k ≤ s.l.length) : ∃ t : Sv Id, sliceM (.sl 32) (encIds s) (some (.int .i64 k)) none none = some (encIds t) ∧ t.l = s.l.drop k := by
  cases s with
  | none =>
    obtain rfl : k = 0 := Nat.le_zero.1 hk
    exact ⟨none, rfl, rfl⟩
  | some xs =>
    refine ⟨some (xs.drop k), ?_, rfl⟩
    have hk' : k ≤ xs.length := hk
    unfold encIds
    rw [slice_from (by omega) (by omega)]
    rfl

set_option maxHeartbeats 8000000 in
theorem apart_call (f : Feed) (ids : Sv Id) (at_ n : Int) (hl : f.subs.l.length ≤ maxLen) (hq : ∀ q ∈ f.subs.l, okIds q.ids) (hi : okIds ids) : CallP Try.prog G0 7 [encF f, encIds ids, .int .i64 at_, .int .i64 n] [] (c := ⟨fun r _ => r = .bool true⟩) := by
  apply call_intro c7_eq r7_eq
  unfold c7 r7
  have hlen : lenM (.sl 32) (encIds ids) = some (.int .i64 ids.l.length) := len_encS _
  have hsl : ∀ s, lenM (.sl 4) (encSubs s) = some (.int .i64 s.l.length) := fun s => len_encS _
  simp [encF]
  refine pure_call alive_ok rfl ?_
  simp [encF]
  refine pure_call (great_ok f hl) (cF f) ?_
  cases hg : great f with
  | true => simp
  | false =>
    have hB : okB 100 f := ⟨fun q h => ⟨hq q h, (great_of hg).2 q h⟩, (great_of hg).1⟩
    have hF := hB.ok (by omega)
    simp [encF]
    refine pure_call (refCheck_ok f hF.2) (cF f) ?_
    by_cases hc' : chk f ≠ 0
    · simp [hc']
    have hc : chk f = 0 := by omega
    clear hc'
    by_cases h60 : 60 < (ids.l.length : Int)
    · simp [hc, hlen, h60]
    by_cases hv : 1000000 < f.ver
    · simp [hc, hv, hlen, h60]
    by_cases ha0 : at_ < 0
    · simp [hc, hv, hlen, h60, ha0]
    by_cases ha1 : (ids.l.length : Int) < at_
    · simp [hc, hv, hlen, h60, ha0, ha1]
    by_cases hn0 : n < 0
    · simp [hc, hv, hlen, h60, ha0, ha1, hn0]
    by_cases hn1 : (f.subs.l.length : Int) ≤ n
    · simp [hc, hv, hlen, h60, ha0, ha1, hn0, hn1, hsl]
    obtain ⟨k, rfl⟩ : ∃ k : Nat, at_ = k := ⟨at_.toNat, by omega⟩
    obtain ⟨m, rfl⟩ : ∃ m : Nat, n = m := ⟨n.toNat, by omega⟩
    have hk : k ≤ ids.l.length := by omega
    have hm : m < f.subs.l.length := by omega
    obtain ⟨t1, ht1, ht1l⟩ := cut_to ids k hk
    obtain ⟨t2, ht2, ht2l⟩ := cut_from ids k hk
    simp [hc, hv, hlen, h60, ha0, ha1, hn0, hn1, hsl, hk, hm]
    have hv0 := ((chk_iff f).1 hc).v0
    have hx : ∀ x ∈ ids.l, x.length = 32 := hi
    have ht1i : okIds t1 := fun x hx' => hi x (List.mem_of_mem_take (by rw [← ht1l]; exact hx'))
    have ht2i : okIds t2 := fun x hx' => hi x (List.mem_of_mem_drop (by rw [← ht2l]; exact hx'))
    have ht1n : t1.l.length ≤ 60 := by rw [ht1l]; simp; omega
    have ht2n : t2.l.length ≤ 60 := by rw [ht2l]; simp; omega
    obtain ⟨e1, e2, e3, e4, e5⟩ := publish_two hc (by omega) (l := ids.l) (by omega) k hk
    have k10a := publish_ok f ids hF hi (by omega)
    have k10b := publish_ok f t1 hF ht1i (by omega)
    have hBb := okB_publish hB ht1i
    have k10c := publish_ok (publish f t1.l).1 t2 (hBb.ok (by omega)) ht2i (by omega)
    have hAB := okB_publish hB hi
    rw [ht1l] at k10b k10c
    rw [ht2l, e3] at k10c
    rw [e2] at k10b
    rw [e1] at k10a k10c
    obtain ⟨A, hA⟩ : ∃ A, A = (publish f ids.l).1 := ⟨_, rfl⟩
    obtain ⟨B, hB'⟩ : ∃ B, B = (publish f (ids.l.take k)).1 := ⟨_, rfl⟩
    rw [← hA] at k10a k10c e4 e5 hAB
    rw [← hB'] at k10b k10c
    have hAF := hAB.ok (by omega)
    have sA := same_ok A A hAF hAF
    rw [sameF_refl] at sA
    obtain ⟨q, hqm⟩ : ∃ q, f.subs.l[m]? = some q := ⟨_, List.getElem?_eq_getElem hm⟩
    have k14 := take_ok f m hF
    have k23 := end_ok f m hF
    have hT := okB_take hB m
    have hE := okB_end hB m
    have hT32 := take_id32 hB m
    have hto := take_others (f := f) (n := m)
    have heo := end_others hc hqm
    obtain ⟨T, hTd⟩ : ∃ T, T = take f m := ⟨_, rfl⟩
    obtain ⟨E, hEd⟩ : ∃ E, E = endF f m := ⟨_, rfl⟩
    rw [← hTd] at k14 hT hT32 hto
    rw [← hEd] at k23 hE heo
    have hsf := splice_full (cs := encId zeroId) (vs := encId T.id) (by rw [id_len hT32]; rfl)
    rw [zero_id] at hsf
    have hwv : IntKind.i64.wrap (f.ver + (ids.l.length : Int)) = f.ver + ids.l.length := wrap_i64 (by omega) (by omega)
    have c10a : closedL [encF f, encIds ids] = true := cFi _ _
    refine pure_call k10a (cFi _ _) ?_
    simp [encF, ht1]
    refine pure_call k10b (cFi _ _) ?_
    simp [encF, ht2]
    refine pure_call k10c (cFi _ _) ?_
    simp [encF]
    refine pure_call sA (cFF _ _) ?_
    simp [encF, e4, e5, hlen, hwv, hsl]
    refine pure_call k14 (cFn _ _ _) ?_
    simp [encF, Taken.enc, id_len hT32, hsf, List.take_of_length_le]
    refine pure_call k23 (cFn _ _ _) ?_
    simp [encF]
    refine loop_up f.subs.l.length (fun k σ l => σ 3 = .int .i64 m ∧ σ 4 = .ptr 0 0 3 ∧ σ 9 = .bool true ∧ σ 16 = .ptr 4 0 3 ∧ σ 20 = .int .i64 T.e ∧ σ 21 = .ptr 6 0 3 ∧ σ 22 = .int .i64 E.2 ∧ σ 23 = .int .i64 k ∧
      ∃ x1 x2 x3 x5, l = [.cells 3 [.int .i64 f.cap, .int .i64 f.ver, encSubs f.subs], x1, x2, x3, .cells 3 [.int .i64 T.f.cap, .int .i64 T.f.ver, encSubs T.f.subs], x5, .cells 3 [.int .i64 E.1.cap, .int .i64 E.1.ver, encSubs E.1.subs]]) ?_ (by simp)
    rintro j σ l hj ⟨g3, g4, g9, g16, g20, g21, g22, g23, x1, x2, x3, x5, rfl⟩
    obtain ⟨σ, rfl⟩ := upds8 g3 g4 g9 g16 g20 g21 g22 g23
    clear g3 g4 g9 g16 g20 g21 g22 g23
    unfold l7_0
    simp [hsl]
    have hf100 := hB.2
    have hwj : IntKind.i64.wrap ((j : Int) + 1) = j + 1 := wrap_i64 (by omega) (by omega)
    by_cases h : j < f.subs.l.length
    · by_cases hjm : j = m
      · have hwm : IntKind.i64.wrap ((m : Int) + 1) = m + 1 := by rw [← hjm]; exact hwj
        simp [hm, hjm, hwm]
      · obtain ⟨p, hp, hpm⟩ := get_of h
        have hia : ∀ s : Sv Queue, s.l[j]? = some p → iaC (.sl 4) (encSubs s) (.int .i64 j) = some (.rptr (encQ p) 0) := fun s hs => by
          cases s with
          | none => simp at hs
          | some xs => simp at hs; simp [encSubs, ia_encS, hs]
        have hpp := hF.1 p hpm
        have k26 := sameQ_ok p p hpp hpp
        rw [sameQ_refl] at k26
        have cQ : closedL [CV.ag (encQ p), .ag (encQ p)] = true := by simp [closedL, CV.closed, closed_Q]
        have hie : ((j : Int) = m) ↔ False := ⟨fun e => hjm (by omega), False.elim⟩
        have hQ4 : (encQ p).length = 4 := rfl
        have hQt : List.take 4 (encQ p) = encQ p := rfl
        have hi0 := hia f.subs hp
        by_cases hTe : T.e = 0
        · obtain ⟨hT1, hT2⟩ := hto hTe
          have hi1 := hia T.f.subs (by rw [hT2 j hjm]; exact hp)
          simp [h, hjm, hie, hTe, hsl, hT1, hi0, hi1, hQ4, hQt]
          refine pure_call k26 cQ ?_
          rcases heo with ⟨hE0, _, hE1, hE2⟩ | ⟨hE0, _⟩
          · have hi2 := hia E.1.subs (by rw [hE2 j hjm]; exact hp)
            simp [hE0, hsl, hE1, hi0, hi2, hQ4, hQt]
            refine pure_call k26 cQ ?_
            simp [h, hwj, hE0]
          · simp [hE0, h, hwj]
        · simp [h, hjm, hie, hTe]
          rcases heo with ⟨hE0, _, hE1, hE2⟩ | ⟨hE0, _⟩
          · have hi2 := hia E.1.subs (by rw [hE2 j hjm]; exact hp)
            simp [hE0, hsl, hE1, hi0, hi2, hQ4, hQt]
            refine pure_call k26 cQ ?_
            simp [h, hwj, hE0]
          · simp [hE0, h, hwj]
    · have hiam : iaC (.sl 4) (encSubs f.subs) (.int .i64 m) = some (.rptr (encQ q) 0) := by
        cases hs : f.subs with
        | none => rw [hs] at hqm; simp at hqm
        | some xs => rw [hs] at hqm; simp at hqm; simp [encSubs, ia_encS, hqm]
      rcases heo with ⟨hE0, hqe, _⟩ | ⟨hE0, hqe⟩
      · simp [h, hiam, encQ, hE0, hqe, bool_eql]
      · simp [h, hiam, encQ, hE0, hqe, bool_eql]
end Fd
end Go.CM
