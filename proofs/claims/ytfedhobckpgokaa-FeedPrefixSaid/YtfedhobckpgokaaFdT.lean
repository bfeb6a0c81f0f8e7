/-
  Feeds: the law FeedPrefix: one step, plain.
-/
import Derived.Test.YtfedhobckpgokaaFdR
namespace Go.CM
open Go Go.Proofs
set_option linter.unusedVariables false
set_option linter.unusedSimpArgs false
set_option maxRecDepth 100000
namespace Fd

/-- What the queue of a subscriber is, by what was told, what is taken next, where the mark comes, and whether it came. -/
structure PfQ (s told next : Nat) (lags : Int) (ended : Bool) (q : Queue) : Prop where
  nx : q.next = next
  en : q.en = ended
  lag : q.lag = (decide (0 ≤ lags) && !ended)
  ids : q.ids.l = idsL next ((if 0 ≤ lags then lags.toNat else told) - next)
  sn : s ≤ next
  lg : lags = -1 ∨ (0 ≤ lags ∧ lags ≤ told ∧ (next : Int) ≤ lags)
  nt : lags < 0 → next ≤ told ∨ next = s
  el : ended = true → 0 ≤ lags ∧ (next : Int) = lags

structure Pf (m : Nat) (c : Int) (s told next : Nat) (lags : Int) (ended : Bool) (f : Feed) : Prop where
  ok : chk f = 0
  b : okB m f
  cap : f.cap = c
  ver : f.ver = told
  q : ∃ q, f.subs.l = [q] ∧ PfQ s told next lags ended q

/-- Where the mark comes after a commit is told. -/
def lags' (c : Int) (s told next : Nat) (lags : Int) (ended : Bool) : Int :=
  if ended = false ∧ lags < 0 ∧ s ≤ told ∧ c ≤ (told : Int) - next then told else lags

theorem pf_pub {m : Nat} {c : Int} {s told next : Nat} {lags : Int} {ended : Bool} {f : Feed} (P : Pf m c s told next lags ended f) (ht : told ≤ 1000) :
    (publish f [idOf told]).2 = 0 ∧ Pf (m + 1) c s (told + 1) next (lags' c s told next lags ended) ended (publish f [idOf told]).1 := by
  obtain ⟨q, hq, Q⟩ := P.q
  have V := (chk_iff f).1 P.ok
  have hver := P.ver
  have hp := publish_ok0 P.ok (ids := [idOf told]) (by simp) (by simp; omega)
  have hvp := valid_publish P.ok (ids := [idOf told]) (by simp) (by simp; omega)
  have hbp := okB_publish P.b (ids := [idOf told]) (fun y hy => by simp at hy; rw [hy]; exact idOf_len _)
  have hsub : (publish f [idOf told]).1.subs.l = [pubQ f.cap f.ver (idOf told) q] := by rw [hp, publish_subs, pubs1, hq]; rfl
  have hcp := P.cap
  have hok := V.qs q (by rw [hq]; simp)
  refine ⟨by rw [hp], hvp, hbp, by rw [hp]; exact hcp, by rw [hp]; show f.ver + 1 = _; omega, _, hsub, ?_⟩
  obtain ⟨e1, e2, e3, e4, e5, e6, e7, e8⟩ := Q
  unfold lags'
  have hlen : (q.ids.l.length : Int) = ((if 0 ≤ lags then lags.toNat else told) - next : Nat) := by rw [e4, idsL_len]
  by_cases hs : q.en = true ∨ q.lag = true ∨ f.ver < q.next
  · rw [pubQ_skip hs]
    have hno : ¬(ended = false ∧ lags < 0 ∧ s ≤ told ∧ c ≤ (told : Int) - next) := by
      rintro ⟨a1, a2, a3, a4⟩
      rcases hs with h | h | h
      · rw [e2, a1] at h; cases h
      · rw [e3] at h; simp at h; omega
      · have := V.c1; omega
    rw [if_neg hno]
    refine ⟨e1, e2, e3, ?_, e5, ?_, ?_, e8⟩
    · rw [e4]
      by_cases hl : 0 ≤ lags
      · simp [hl]
      · simp only [hl, if_false]
        have : told + 1 ≤ next := by
          rcases hs with h | h | h
          · rw [e2] at h; have := e8 h; omega
          · rw [e3] at h; simp at h; omega
          · omega
        rw [show told - next = 0 by omega, show told + 1 - next = 0 by omega]
    · rcases e6 with h | h
      · exact .inl h
      · exact .inr ⟨h.1, by omega, h.2.2⟩
    · intro h; rcases e7 h with h | h
      · exact .inl (by omega)
      · exact .inr h
  · have hen : ended = false := by cases he : ended <;> simp_all
    have hneg : lags < 0 := by
      rcases Int.lt_or_le lags 0 with h | h
      · exact h
      · exfalso; exact hs (.inr (.inl (by rw [e3, hen]; simp [h])))
    have hnx : next ≤ told := by
      rcases Int.lt_or_le f.ver q.next with h | h
      · exact absurd (.inr (.inr h)) hs
      · omega
    rw [if_neg (by omega)] at hlen e4
    have hcap := hok.2.2.1
    by_cases hcl : (q.ids.l.length : Int) = f.cap
    · rw [pubQ_lag hs hcl, if_pos ⟨hen, hneg, by omega, by omega⟩]
      refine ⟨e1, e2, ?_, ?_, e5, .inr ⟨by omega, by omega, by omega⟩, fun h => by omega, fun h => ?_⟩
      · simp [hen]
      · simp [e4]
      · rw [hen] at h; cases h
    · rw [pubQ_add hs hcl, if_neg (by omega)]
      refine ⟨e1, e2, ?_, ?_, e5, .inl (by omega), fun _ => .inl (by omega), fun h => ?_⟩
      · exact e3
      · show q.ids.l ++ [idOf told] = _
        rw [if_neg (by omega), e4, show told + 1 - next = (told - next) + 1 by omega, idsL_succ, show next + (told - next) = told by omega]
      · rw [hen] at h; cases h

/-- What a subscriber takes. -/
theorem pf_take {m : Nat} {c : Int} {s told next : Nat} {lags : Int} {ended : Bool} {f : Feed} (P : Pf m c s told next lags ended f) (ht : told ≤ 1000) (hn : next ≤ 1000) :
    (ended = true ∧ (take f 0).e = 34) ∨
    (ended = false ∧ (next : Int) < (if 0 ≤ lags then lags else (told : Int)) ∧ (take f 0).e = 0 ∧ (take f 0).kind = 1 ∧ (take f 0).number = next ∧ (take f 0).id = idOf next ∧ Pf m c s told (next + 1) lags false (take f 0).f) ∨
    (ended = false ∧ ¬(next : Int) < (if 0 ≤ lags then lags else (told : Int)) ∧ 0 ≤ lags ∧ (take f 0).e = 0 ∧ (take f 0).kind = 2 ∧ (take f 0).number = lags ∧ Pf m c s told next lags true (take f 0).f) ∨
    (ended = false ∧ ¬(next : Int) < (if 0 ≤ lags then lags else (told : Int)) ∧ ¬0 ≤ lags ∧ (take f 0).e = 38) := by
  obtain ⟨q, hq, Q⟩ := P.q
  have V := (chk_iff f).1 P.ok
  have hver := P.ver
  have hg : f.subs.l[0]? = some q := by rw [hq]; rfl
  have hok := V.qs q (by rw [hq]; simp)
  obtain ⟨e1, e2, e3, e4, e5, e6, e7, e8⟩ := Q
  have hnum : num f 0 = if q.en then 34 else 0 := by
    unfold num
    rw [if_neg (by simp [P.ok]), if_neg (by omega), if_neg (by rw [hq]; simp)]
    simp [hg]
  have hb := okB_take P.b 0
  cases hen : ended with
  | true =>
    rw [e2, hen] at hnum
    rw [take_bad (by rw [hnum]; simp)]
    exact .inl ⟨rfl, by rw [hnum]; rfl⟩
  | false =>
    right
    rw [hen] at e2 e3
    rw [e2] at hnum
    have hnum0 : num f (0 : Nat) = 0 := by simpa using hnum
    cases hids : q.ids.l with
    | cons x r =>
      left
      have ht := take_id hnum0 hg hids
      have hv2 := valid_setQ P.ok hg (fun a => by exact a) (hok.tk V.v9 hids e2)
      rw [show ((0 : Nat) : Int) = 0 from rfl] at ht
      rw [ht] at hb ⊢
      rw [e4] at hids
      have hpos : 0 < (if 0 ≤ lags then lags.toNat else told) - next := by
        rcases Nat.eq_zero_or_pos ((if 0 ≤ lags then lags.toNat else told) - next) with h | h
        · rw [h] at hids; cases hids
        · exact h
      obtain ⟨k, hk⟩ : ∃ k, (if 0 ≤ lags then lags.toNat else told) - next = k + 1 := ⟨_, (Nat.succ_pred_eq_of_pos hpos).symm⟩
      have hhead : x = idOf next ∧ r = idsL (next + 1) k := by
        rw [hk] at hids
        unfold idsL at hids ⊢
        rw [List.range_succ_eq_map, List.map_cons, List.cons.injEq, List.map_map] at hids
        refine ⟨hids.1.symm, ?_⟩
        rw [← hids.2]
        apply List.map_congr_left
        intro i _
        simp only [Function.comp]
        congr 1
        omega
      obtain ⟨rfl, rfl⟩ := hhead
      have hlt : (next : Int) < (if 0 ≤ lags then lags else (told : Int)) := by
        split at hpos
        · rename_i h; rw [if_pos h]; omega
        · rename_i h; rw [if_neg h]; omega
      refine ⟨rfl, hlt, rfl, rfl, e1, rfl, hv2, hb, P.cap, P.ver, _, (by show f.subs.l.set 0 _ = _; rw [hq]; rfl), ?_⟩
      refine ⟨by show q.next + 1 = _; omega, e2, e3, ?_, by omega, ?_, fun h => .inl ?_, fun h => by cases h⟩
      · show idsL (next + 1) k = _
        congr 1; omega
      · rcases e6 with h | h
        · exact .inl h
        · rw [if_pos h.1] at hlt; exact .inr ⟨h.1, h.2.1, by omega⟩
      · rw [if_neg (by omega)] at hlt; omega
    | nil =>
      right
      have hz : (if 0 ≤ lags then lags.toNat else told) - next = 0 := by
        rw [e4] at hids
        have := congrArg List.length hids
        rw [idsL_len] at this; exact this
      have hnlt : ¬(next : Int) < (if 0 ≤ lags then lags else (told : Int)) := by
        split at hz
        · rename_i h; rw [if_pos h]; omega
        · rename_i h; rw [if_neg h]; omega
      by_cases hl : 0 ≤ lags
      · left
        have hlag : q.lag = true := by rw [e3]; simp [hl]
        have ht := take_lag hnum0 hg hids hlag
        have hv2 := valid_setQ P.ok hg (fun _ => rfl) (hok.lg hids)
        rw [show ((0 : Nat) : Int) = 0 from rfl] at ht
        rw [ht] at hb ⊢
        rw [if_pos hl] at hnlt
        have hnl : (next : Int) = lags := by omega
        refine ⟨rfl, by rw [if_pos hl]; exact hnlt, hl, rfl, rfl, by show q.next = _; omega, hv2, hb, P.cap, P.ver, _, (by show f.subs.l.set 0 _ = _; rw [hq]; rfl), ?_⟩
        refine ⟨e1, rfl, by simp, by show q.ids.l = _; rw [e4], e5, e6, e7, fun _ => ⟨hl, hnl⟩⟩
      · right
        have hlag : q.lag = false := by rw [e3]; simp [hl]
        have ht := take_busy hnum0 hg hids hlag
        rw [show ((0 : Nat) : Int) = 0 from rfl] at ht
        rw [ht]
        exact ⟨rfl, hnlt, hl, rfl⟩

/-- At the start. -/
theorem pf_start {c : Int} (h1 : 1 ≤ c) (h8 : c ≤ 8) {before ahead : Nat} (hb : before ≤ 20) (ha : ahead ≤ 20) :
    (newF c).2 = 0 ∧ (publish (newF c).1 (idsL 0 before)).2 = 0 ∧ (sub (publish (newF c).1 (idsL 0 before)).1 (before + ahead : Nat)).2 = (0, 0) ∧
    Pf 200 c (before + ahead) before (before + ahead) (-1) false (sub (publish (newF c).1 (idsL 0 before)).1 (before + ahead : Nat)).1 := by
  have hn : newF c = (⟨c, 0, none⟩, 0) := by unfold newF; rw [if_neg (by omega), if_neg (by omega)]
  rw [hn]
  have hv : chk (⟨c, 0, none⟩ : Feed) = 0 := (chk_iff _).2 ⟨h1, h8, Int.le_refl 0, by simp, by simp, by simp [Feed.live, liveL], fun q hq => by cases hq⟩
  have hp := publish_ok0 hv (ids := idsL 0 before) (by rw [idsL_len]; omega) (by rw [idsL_len]; simp; omega)
  rw [idsL_len] at hp
  simp at hp
  have hvp : chk (⟨c, (before : Int), none⟩ : Feed) = 0 := (chk_iff _).2 ⟨h1, h8, by simp, by simp; omega, by simp, by simp [Feed.live, liveL], fun q hq => by cases hq⟩
  rw [show (({ cap := c, ver := 0, subs := none } : Feed), (0 : Int)).1 = { cap := c, ver := 0, subs := none } from rfl, hp]
  have hs : sub ⟨c, (before : Int), none⟩ (before + ahead : Nat) = (⟨c, before, some [newQ (before + ahead : Nat)]⟩, 0, 0) := by
    unfold sub
    rw [if_neg (by simp [hvp]), if_neg (by simp; omega), if_neg (by omega), if_neg (by simp), if_neg (by simp [Feed.live, liveL])]
    rfl
  have hvs := valid_sub hvp (n := (before + ahead : Nat)) (by rw [hs])
  rw [show (({ cap := c, ver := (before : Int), subs := none } : Feed), (0 : Int)).1 = { cap := c, ver := (before : Int), subs := none } from rfl, hs] at *
  have hB : okB 200 (⟨c, before, some [newQ (before + ahead : Nat)]⟩ : Feed) := by
    refine ⟨fun q hq => ?_, by simp⟩
    simp at hq; subst hq
    exact ⟨fun x hx => (by cases hx), (by simp [newQ])⟩
  refine ⟨rfl, rfl, rfl, hvs, hB, rfl, rfl, _, rfl, rfl, rfl, rfl, ?_, Nat.le_refl _, .inl rfl, fun _ => .inr rfl, fun h => by cases h⟩
  · rw [if_neg (by omega), show before - (before + ahead) = 0 by omega]; rfl
end Fd
end Go.CM
