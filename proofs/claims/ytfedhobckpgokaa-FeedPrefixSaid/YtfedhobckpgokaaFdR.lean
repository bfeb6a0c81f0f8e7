/-
  Feeds: what Subscribe, Publish, Take and End leave valid.
-/
import Derived.Test.YtfedhobckpgokaaFdQ
namespace Go.CM
open Go Go.Proofs
set_option linter.unusedVariables false
set_option linter.unusedSimpArgs false
set_option maxRecDepth 100000
namespace Fd

/-- A queue is valid at a capacity and a version. -/
def OkQ (cap ver : Int) (q : Queue) : Prop :=
  0 ≤ q.next ∧ q.next ≤ 1000000000 ∧ (q.ids.l.length : Int) ≤ cap ∧
  (q.en = true → q.ids.l = [] ∧ q.lag = false) ∧ (q.en = false → q.lag = true → q.next + q.ids.l.length ≤ ver) ∧
  (q.en = false → q.lag = false → q.next + q.ids.l.length = ver ∨ (q.ids.l = [] ∧ ver < q.next))
theorem okQ_iff (f : Feed) (q : Queue) : okQ f q = true ↔ OkQ f.cap f.ver q := by
  unfold okQ OkQ
  by_cases h1 : q.next < 0
  · simp [h1]; omega
  by_cases h2 : 1000000000 < q.next
  · simp [h1, h2]; omega
  by_cases h3 : f.cap < (q.ids.l.length : Int)
  · simp [h1, h2, h3]; omega
  by_cases hn : q.ids.l = []
  · rw [hn] at h3 ⊢
    have h3' : ¬f.cap < 0 := by simpa using h3
    cases h4 : q.en <;> cases h5 : q.lag <;> simp [h1, h2, h3'] <;> omega
  · cases h4 : q.en <;> cases h5 : q.lag <;> simp [h1, h2, h3, hn] <;> omega
structure Valid (f : Feed) : Prop where
  c1 : 1 ≤ f.cap
  c8 : f.cap ≤ 8
  v0 : 0 ≤ f.ver
  v9 : f.ver ≤ 1000000000
  len : f.subs.l.length ≤ 60
  live : f.live ≤ 4
  qs : ∀ q ∈ f.subs.l, OkQ f.cap f.ver q
theorem chk_iff (f : Feed) : chk f = 0 ↔ Valid f := by
  unfold chk
  constructor
  · intro h
    have hall : okFs f = true := by
      repeat' split at h
      all_goals first | assumption | (exfalso; omega)
    have hq : ∀ q ∈ f.subs.l, OkQ f.cap f.ver q := fun q hq => by
      unfold okFs at hall
      rw [List.all_eq_true] at hall
      exact (okQ_iff f q).1 (hall q hq)
    repeat' split at h
    all_goals first | (exfalso; omega) | skip
    exact ⟨by omega, by omega, by omega, by omega, by omega, by omega, hq⟩
  · rintro ⟨a, b, c, d, e, g, hq⟩
    have hall : okFs f = true := by
      unfold okFs
      rw [List.all_eq_true]
      exact fun q h => (okQ_iff f q).2 (hq q h)
    rw [if_neg (by omega), if_neg (by omega), if_neg (by omega), if_neg (by omega), if_neg (by omega), if_neg (by omega), if_pos hall]
theorem chk_8 (f : Feed) : chk f = 0 ∨ chk f = 8 := by
  unfold chk
  repeat' split
  all_goals simp

theorem OkQ.pub {cap ver : Int} {q : Queue} (h : OkQ cap ver q) (hc : 1 ≤ cap) (x : Id) : OkQ cap (ver + 1) (pubQ cap ver x q) := by
  obtain ⟨h1, h2, h3, h4, h5, h6⟩ := h
  by_cases hs : q.en = true ∨ q.lag = true ∨ ver < q.next
  · rw [pubQ_skip hs]
    refine ⟨h1, h2, h3, h4, fun a b => by have := h5 a b; omega, fun a b => ?_⟩
    rcases h6 a b with h | h
    · rcases hs with e | e | e
      · rw [a] at e; cases e
      · rw [b] at e; cases e
      · omega
    · rcases Int.lt_or_le (ver + 1) q.next with e | e
      · exact .inr ⟨h.1, e⟩
      · refine .inl ?_
        have : q.ids.l.length = 0 := by rw [h.1]; rfl
        omega
  · have hen : q.en = false := by cases he : q.en <;> simp_all
    have hlg : q.lag = false := by cases he : q.lag <;> simp_all
    have hnx : ¬ver < q.next := fun e => hs (.inr (.inr e))
    have heq : q.next + q.ids.l.length = ver := by
      rcases h6 hen hlg with e | e
      · exact e
      · exact absurd e.2 hnx
    by_cases hcap : (q.ids.l.length : Int) = cap
    · rw [pubQ_lag hs hcap]
      refine ⟨h1, h2, h3, fun a => ?_, fun _ _ => ?_, fun _ a => by cases a⟩
      · rw [hen] at a; cases a
      · show q.next + (q.ids.l.length : Int) ≤ ver + 1
        omega
    · rw [pubQ_add hs hcap]
      refine ⟨h1, h2, ?_, fun a => ?_, fun _ a => ?_, fun _ _ => .inl ?_⟩
      · show ((q.ids.l ++ [x]).length : Int) ≤ cap
        simp; omega
      · rw [hen] at a; cases a
      · rw [hlg] at a; cases a
      · show q.next + ((q.ids.l ++ [x]).length : Int) = ver + 1
        simp; omega
theorem pubQ_en (cap ver : Int) (x : Id) (q : Queue) : (pubQ cap ver x q).en = q.en := by
  unfold pubQ
  repeat' split
  all_goals rfl
theorem live_map {g : Queue → Queue} (hg : ∀ q, (g q).en = q.en) (qs : List Queue) : liveL (qs.map g) = liveL qs := by
  unfold liveL
  rw [List.filter_map, List.length_map]
  congr 2
  funext q
  simp [hg]
theorem pubs_ok (cap : Int) (hc : 1 ≤ cap) : ∀ (ids : List Id) (ver : Int) (qs : List Queue), (∀ q ∈ qs, OkQ cap ver q) → (∀ q ∈ pubs cap ver qs ids, OkQ cap (ver + ids.length) q) ∧ liveL (pubs cap ver qs ids) = liveL qs
  | [], ver, qs, h => ⟨by simpa [pubs] using h, rfl⟩
  | x :: r, ver, qs, h => by
    have := pubs_ok cap hc r (ver + 1) (qs.map (pubQ cap ver x)) (fun q hq => by
      obtain ⟨p, hp, rfl⟩ := List.mem_map.1 hq
      exact (h p hp).pub hc x)
    refine ⟨fun q hq => ?_, ?_⟩
    · have h1 := this.1 q hq
      rw [show ver + ((x :: r).length : Int) = ver + 1 + r.length by simp; omega]
      exact h1
    · rw [pubs, this.2, live_map (pubQ_en cap ver x)]
end Fd
end Go.CM
/-
  Feeds: validity is kept.
-/
namespace Go.CM
open Go Go.Proofs
set_option linter.unusedVariables false
set_option linter.unusedSimpArgs false
set_option maxRecDepth 100000
namespace Fd

theorem publish_ok0 {f : Feed} (h : chk f = 0) {ids : List Id} (h1 : ids.length ≤ 60) (h2 : f.ver + ids.length ≤ 1000000000) :
    publish f ids = ({ f with ver := f.ver + ids.length, subs := f.subs.map fun qs => pubs f.cap f.ver qs ids }, 0) := by
  unfold publish; rw [if_neg (by simp [h]), if_neg (by omega)]
theorem publish_subs (f : Feed) (v : Int) (ids : List Id) : ({ f with ver := v, subs := f.subs.map fun qs => pubs f.cap f.ver qs ids } : Feed).subs.l = pubs f.cap f.ver f.subs.l ids := by
  cases hs : f.subs with
  | none =>
    show ([] : List Queue) = pubs f.cap f.ver [] ids
    exact (List.length_eq_zero_iff.1 (by rw [pubs_len]; rfl)).symm
  | some qs => rfl
theorem valid_publish {f : Feed} (h : chk f = 0) {ids : List Id} (h1 : ids.length ≤ 60) (h2 : f.ver + ids.length ≤ 1000000000) : chk (publish f ids).1 = 0 := by
  rw [publish_ok0 h h1 h2]
  have V := (chk_iff f).1 h
  obtain ⟨p1, p2⟩ := pubs_ok f.cap V.c1 ids f.ver f.subs.l V.qs
  have hv := V.live
  refine (chk_iff _).2 ⟨V.c1, V.c8, ?_, h2, ?_, ?_, ?_⟩
  · have := V.v0
    show 0 ≤ f.ver + (ids.length : Int)
    omega
  · rw [publish_subs, pubs_len]; exact V.len
  · unfold Feed.live
    rw [publish_subs, p2]; exact hv
  · rw [publish_subs]; exact p1
theorem live_set {qs : List Queue} {k : Nat} {q p : Queue} (hq : qs[k]? = some q) (h : q.en = true → p.en = true) : liveL (qs.set k p) ≤ liveL qs := by
  induction qs generalizing k with
  | nil => simp at hq
  | cons a l ih =>
    cases k with
    | zero =>
      simp at hq
      subst hq
      simp only [List.set_cons_zero, liveL, List.filter_cons]
      cases ha : a.en <;> cases hp : p.en <;> simp_all
    | succ k =>
      simp at hq
      have := ih hq
      simp only [List.set_cons_succ, liveL, List.filter_cons] at this ⊢
      split <;> simp <;> omega
theorem valid_setQ {f : Feed} (h : chk f = 0) {k : Nat} {q p : Queue} (hq : f.subs.l[k]? = some q) (he : q.en = true → p.en = true) (hp : OkQ f.cap f.ver p) : chk (setQ f k p) = 0 := by
  have V := (chk_iff f).1 h
  refine (chk_iff _).2 ⟨V.c1, V.c8, V.v0, V.v9, ?_, ?_, fun r hr => ?_⟩
  · show (f.subs.l.set k p).length ≤ 60
    rw [List.length_set]; exact V.len
  · show liveL (f.subs.l.set k p) ≤ 4
    exact Nat.le_trans (live_set hq he) V.live
  · rcases List.mem_or_eq_of_mem_set (show r ∈ f.subs.l.set k p from hr) with h1 | h1
    · exact V.qs r h1
    · rw [h1]; exact hp
theorem OkQ.tk {cap ver : Int} {q : Queue} {x : Id} {r : List Id} (h : OkQ cap ver q) (hv : ver ≤ 1000000000) (hi : q.ids.l = x :: r) (he : q.en = false) : OkQ cap ver { q with next := q.next + 1, ids := some r } := by
  obtain ⟨h1, h2, h3, h4, h5, h6⟩ := h
  rw [hi] at h3 h5 h6
  simp at h3 h5 h6
  have hb : q.next + 1 + (r.length : Int) ≤ ver := by
    cases hl : q.lag
    · have := h6 he hl; omega
    · have := h5 he hl; omega
  refine ⟨?_, ?_, ?_, fun a => ?_, fun _ a => ?_, fun _ a => .inl ?_⟩
  · show 0 ≤ q.next + 1; omega
  · show q.next + 1 ≤ 1000000000; omega
  · show (r.length : Int) ≤ cap; omega
  · rw [he] at a; cases a
  · show q.next + 1 + (r.length : Int) ≤ ver; omega
  · show q.next + 1 + (r.length : Int) = ver
    have := h6 he a; omega
theorem OkQ.lg {cap ver : Int} {q : Queue} (h : OkQ cap ver q) (hi : q.ids.l = []) : OkQ cap ver { q with lag := false, en := true } := by
  obtain ⟨h1, h2, h3, _⟩ := h
  exact ⟨h1, h2, h3, fun _ => ⟨hi, rfl⟩, fun a => (by cases a), fun a => (by cases a)⟩
theorem OkQ.nd {cap ver : Int} {q : Queue} (h : OkQ cap ver q) (hc : 1 ≤ cap) : OkQ cap ver (endQ q) := by
  obtain ⟨h1, h2, h3, _⟩ := h
  exact ⟨h1, h2, by show ((0 : Nat) : Int) ≤ cap; omega, fun _ => ⟨rfl, rfl⟩, fun a => (by cases a), fun a => (by cases a)⟩
theorem valid_sub {f : Feed} (h : chk f = 0) {n : Int} (hn : (sub f n).2.2 = 0) : chk (sub f n).1 = 0 := by
  have V := (chk_iff f).1 h
  unfold sub at hn ⊢
  repeat' split at hn
  all_goals first | (exfalso; revert hn; simp; done) | skip
  all_goals first | (exfalso; simp_all; done) | skip
  rename_i a1 a2 a3 a4 a5
  rw [if_neg a1, if_neg a2, if_neg a3, if_neg a4, if_neg a5]
  have hl : liveL (f.subs.l ++ [newQ n]) = liveL f.subs.l + 1 := by simp [liveL, List.filter_append, newQ]
  have v1 := V.len
  have v2 := V.live
  have v3 := V.v0
  have v4 := V.c1
  unfold Feed.live at a5 v2
  refine (chk_iff _).2 ⟨V.c1, V.c8, V.v0, V.v9, ?_, ?_, fun r hr => ?_⟩
  · show (f.subs.l ++ [newQ n]).length ≤ 60
    simp; omega
  · show liveL (f.subs.l ++ [newQ n]) ≤ 4
    omega
  · rcases List.mem_append.1 (show r ∈ f.subs.l ++ [newQ n] from hr) with h1 | h1
    · exact V.qs r h1
    · simp at h1; subst h1
      refine ⟨?_, ?_, ?_, fun a => (by cases a), fun _ a => (by cases a), fun _ _ => ?_⟩
      · show 0 ≤ n; omega
      · show n ≤ 1000000000; omega
      · show ((0 : Nat) : Int) ≤ f.cap; omega
      · show n + ((0 : Nat) : Int) = f.ver ∨ (([] : List Id) = [] ∧ f.ver < n)
        rcases Int.lt_or_le f.ver n with e | e
        · exact .inr ⟨rfl, e⟩
        · exact .inl (by omega)
end Fd
end Go.CM

/-
  Feeds: alive, id, ids.
-/
namespace Go.CM
open Go Go.Proofs
set_option linter.unusedVariables false
set_option linter.unusedSimpArgs false
set_option maxRecDepth 100000
namespace Fd

theorem alive_runs : isTrue (runCall Try.prog G0 noOrc 100000 100 8 [] Hp.empty) = true := by kernel_rfl
theorem alive_ok : PureC Try.prog G0 8 [] (.bool true) := fun w A vs hg hl hv => by
  obtain rfl : vs = #[] := by simpa using hl
  exact (closed_law Try.checked.mixed alive_runs w).mono fun e w' ⟨he, hb⟩ => ⟨_, he, hb, .bool _⟩

def idOf (n : Nat) : Id := (n : Int) :: 0 :: 1 :: List.replicate 29 0
theorem idOf_len (n : Nat) : (idOf n).length = 32 := by simp [idOf]
theorem enc_idOf (n : Nat) : encId (idOf n) = [.int .u8 n, .int .u8 0, .int .u8 1, .int .u8 0, .int .u8 0, .int .u8 0, .int .u8 0, .int .u8 0, .int .u8 0, .int .u8 0, .int .u8 0, .int .u8 0, .int .u8 0, .int .u8 0, .int .u8 0, .int .u8 0, .int .u8 0, .int .u8 0, .int .u8 0, .int .u8 0, .int .u8 0, .int .u8 0, .int .u8 0, .int .u8 0, .int .u8 0, .int .u8 0, .int .u8 0, .int .u8 0, .int .u8 0, .int .u8 0, .int .u8 0, .int .u8 0] := rfl

theorem id_ok (n : Nat) (hn : n ≤ 200) : PureC Try.prog G0 15 [.int .i64 n] (.ag (encId (idOf n))) := by
  refine pure_of Try.checked.mixed G0_closed ?_
  apply call_intro c15_eq r15_eq
  unfold c15 r15
  have hw : IntKind.u8.wrap (n : Int) = n := by unfold IntKind.wrap; simp [IntKind.signed, IntKind.bits]; omega
  have hd : (n : Int).tdiv 256 = 0 := Int.tdiv_eq_zero_of_lt (by omega) (by omega)
  have hq : binInt .quo .i64 (n : Int) .i64 256 = some (.int .i64 0) := by
    unfold binInt
    simp [hd]
    rfl
  simp [hq, hw]
  rw [show IntKind.u8.wrap 0 = 0 from rfl, ← enc_idOf]
  exact .same _ (by simp [CV.closed, encId, closedL_ints])

def idsL (a n : Nat) : List Id := (List.range n).map fun i => idOf (a + i)
def idsOf (a n : Nat) : Sv Id := if n = 0 then none else some (idsL a n)
theorem idsL_succ (a n : Nat) : idsL a (n + 1) = idsL a n ++ [idOf (a + n)] := by simp [idsL, List.range_succ]
theorem idsL_len (a n : Nat) : (idsL a n).length = n := by simp [idsL]
theorem idsL_32 (a n : Nat) : ∀ x ∈ idsL a n, x.length = 32 := fun x hx => by
  obtain ⟨i, _, rfl⟩ := List.mem_map.1 hx; exact idOf_len _
theorem idsOf_l (a n : Nat) : (idsOf a n).l = idsL a n := by
  unfold idsOf
  split
  · rename_i h; rw [h]; rfl
  · rfl
theorem idsOf_ok (a n : Nat) : okIds (idsOf a n) := fun x hx => idsL_32 a n x (by rw [← idsOf_l]; exact hx)

set_option maxHeartbeats 2000000 in
theorem ids_ok (a n : Nat) (h : a + n ≤ 200) : PureC Try.prog G0 11 [.int .i64 a, .int .i64 (a + n : Nat)] (encIds (idsOf a n)) := by
  refine pure_of Try.checked.mixed G0_closed ?_
  apply call_intro c11_eq r11_eq
  unfold c11 r11
  simp
  refine loop_up n (fun k σ l => σ 1 = .int .i64 (a + n : Nat) ∧ σ 6 = .int .i64 (a + k : Nat) ∧
    ((k = 0 ∧ σ 5 = .nilS) ∨ 0 < k ∧ ∃ j, σ 5 = .sl 32 j 0 k k (k * 32) ∧ l[j]? = some (.cells (k * 32) ((idsL a k).map encId).flatten))) ?_ (by simp)
  rintro k σ l hk ⟨g1, g6, hcase⟩
  unfold l11_0
  have hwk : IntKind.i64.wrap ((a : Int) + k + 1) = a + k + 1 := wrap_i64 (by omega) (by omega)
  have htk : List.take 32 (encId (idOf (a + k))) = encId (idOf (a + k)) := List.take_of_length_le (by rw [id_len (idOf_len _)]; omega)
  have hsf := splice_full (cs := encId zeroId) (vs := encId (idOf (a + k))) (by rw [id_len (idOf_len _)]; rfl)
  rw [zero_id] at hsf
  have hid := id_ok (a + k) (by omega)
  rw [Int.natCast_add] at hid
  have hidl : (encId (idOf (a + k))).length = 32 := id_len (idOf_len _)
  have hc1 : closedL [CV.int .i64 ((a : Int) + k)] = true := rfl
  by_cases h' : k < n
  · have hlt : (a : Int) + k < a + n := by omega
    rcases hcase with ⟨hk0, g5⟩ | ⟨hk0, j, g5, hj⟩
    · obtain ⟨s, rfl⟩ := upds3 g1 g5 g6
      clear g1 g5 g6
      simp [hlt, h']
      refine pure_call hid hc1 ?_
      simp [hidl, hsf]
      rw [app_nil (xs := [encId (idOf (a + k))]) (by simp [contentsL, hsf, htk]) (by omega) (by omega) (by simp) (by simp [roomMax])]
      simp [hidl]
      refine AppK.keep ?_
      simp [h', hwk]
      refine ⟨by omega, _, ⟨rfl, hk0, by omega⟩, ?_⟩
      subst hk0
      rw [gA]
      simp [idsL]
    · obtain ⟨s, rfl⟩ := upds3 g1 g5 g6
      clear g1 g5 g6
      simp [hlt, h']
      refine pure_call hid hc1 ?_
      simp [hidl, hsf]
      have hjl := get_lt hj
      rw [app_own (es := (idsL a k).map encId) (xs := [encId (idOf (a + k))]) (m := 1) (by rw [List.getElem?_append_left hjl]; exact hj) (by simp [contentsL, hsf, htk]) (by simp [idsL_len]) rfl rfl (fun e he => by
        obtain ⟨y, hy, rfl⟩ := List.mem_map.1 he; exact id_len (idsL_32 a k y hy)) (by omega) (by omega) (by simp [roomMax]; omega)]
      simp [hidl]
      refine AppK.keep ?_
      simp [h', hwk]
      refine ⟨by omega, ?_⟩
      rw [List.getElem?_set, if_pos rfl, if_pos (by simp; omega), idsL_succ, List.map_append, List.flatten_append]
      simp
  · have hlt : ¬(a : Int) + k < a + n := by omega
    rcases hcase with ⟨hk0, g5⟩ | ⟨hk0, j, g5, hj⟩
    · obtain ⟨s, rfl⟩ := upds3 g1 g5 g6
      clear g1 g5 g6
      simp [hlt, h']
      have : n = 0 := by omega
      rw [this]
      exact .same _ rfl
    · obtain ⟨s, rfl⟩ := upds3 g1 g5 g6
      clear g1 g5 g6
      simp [hlt, h']
      have hkn : k = n := by omega
      have hne : idsOf a n = some (idsL a n) := by unfold idsOf; rw [if_neg (by omega)]
      rw [hne, hkn]
      rw [hkn] at hj
      refine rd_rows (rest := []) (by simpa using hj) (by simp [idsL_len]) (fun e he => ?_) ?_
      · obtain ⟨y, hy, rfl⟩ := List.mem_map.1 he; exact id_len (idsL_32 a n y hy)
      · have := closed_ids (some (idsL a n)); simpa [encIds, encS, CV.closed] using this
end Fd
end Go.CM

/-
  Feeds: the law FeedKeeps: one round, plain.
-/
namespace Go.CM
open Go Go.Proofs
set_option linter.unusedVariables false
set_option linter.unusedSimpArgs false
set_option maxRecDepth 100000
namespace Fd

/-- A subscriber whose queue is empty and up to date. -/
structure Now (m : Nat) (v : Int) (k : Nat) (f : Feed) : Prop where
  ok : chk f = 0
  b : okB m f
  ver : f.ver = v
  q : ∃ q, f.subs.l[k]? = some q ∧ q.next = v ∧ q.ids.l = [] ∧ q.lag = false ∧ q.en = false
theorem pubs1 (cap ver : Int) (qs : List Queue) (x : Id) : pubs cap ver qs [x] = qs.map (pubQ cap ver x) := rfl

theorem now_round {m : Nat} {v : Int} {k : Nat} {f : Feed} (N : Now m v k f) (hv : v ≤ 1000040) {x : Id} (hx : x.length = 32) :
    (publish f [x]).2 = 0 ∧ (take (publish f [x]).1 k).kind = 1 ∧ (take (publish f [x]).1 k).number = v ∧ (take (publish f [x]).1 k).id = x ∧ (take (publish f [x]).1 k).e = 0 ∧
    Now (m + 1) (v + 1) k (take (publish f [x]).1 k).f ∧ (take (take (publish f [x]).1 k).f k).e = 38 := by
  obtain ⟨q, hq, hn, hi, hl, he⟩ := N.q
  have V := (chk_iff f).1 N.ok
  have hver := N.ver
  have hp := publish_ok0 N.ok (ids := [x]) (by simp) (by simp; omega)
  have hvp := valid_publish N.ok (ids := [x]) (by simp) (by simp; omega)
  have hbp := okB_publish N.b (ids := [x]) (fun y hy => by simp at hy; rw [hy]; exact hx)
  obtain ⟨g, hg⟩ : ∃ g, g = (publish f [x]).1 := ⟨_, rfl⟩
  have hg2 : g.subs.l = f.subs.l.map (pubQ f.cap f.ver x) := by
    rw [hg, hp, publish_subs, pubs1]
  have hgv : g.ver = v + 1 := by rw [hg, hp]; show f.ver + 1 = v + 1; omega
  rw [← hg] at hvp hbp ⊢
  have hpq : pubQ f.cap f.ver x q = { q with ids := some [x] } := by
    rw [pubQ_add (by simp [he, hl]; omega) (by rw [hi]; have := V.c1; simp; omega), hi]; rfl
  have hgq : g.subs.l[k]? = some { q with ids := some [x] } := by
    rw [hg2, List.getElem?_map, hq, ← hpq]; rfl
  have hnum : num g k = 0 := by
    unfold num
    rw [if_neg (by simp [hvp]), if_neg (by omega), if_neg (by have := lt_get hgq; omega), Int.toNat_natCast, hgq]
    simp [he]
  have ht := take_id (x := x) (r := []) hnum hgq rfl
  have hVg := (chk_iff g).1 hvp
  have hok2 : OkQ g.cap g.ver { ({ q with ids := some [x] } : Queue) with next := q.next + 1, ids := some [] } := (hVg.qs _ (List.mem_of_getElem? hgq)).tk hVg.v9 rfl he
  have hv2 := valid_setQ hvp hgq (fun a => by exact a) hok2
  have hb2 := okB_take hbp k
  rw [ht] at hb2 ⊢
  refine ⟨by rw [hp], rfl, hn, rfl, rfl, ⟨hv2, hb2, hgv, ?_⟩, ?_⟩
  · exact ⟨_, get_set hgq, by show q.next + 1 = v + 1; omega, rfl, hl, he⟩
  · have hq3 : (setQ g k { ({ q with ids := some [x] } : Queue) with next := q.next + 1, ids := some [] }).subs.l[k]? = some { ({ q with ids := some [x] } : Queue) with next := q.next + 1, ids := some [] } := get_set hgq
    rw [take_busy (by
      unfold num
      rw [if_neg (by simp [hv2]), if_neg (by omega), if_neg (by have := lt_get hq3; omega), Int.toNat_natCast, hq3]
      simp [he]) hq3 rfl hl]
end Fd
end Go.CM

/-
  Feeds: the law FeedKeeps, walked.
-/
namespace Go.CM
open Go Go.Proofs
set_option linter.unusedVariables false
set_option linter.unusedSimpArgs false
set_option maxRecDepth 100000
namespace Fd

theorem sub_err {f : Feed} (h : chk f = 0) (hv : f.ver ≤ 1000000000) : (sub f f.ver).2.2 = 0 ∨ (sub f f.ver).2.2 = 18 := by
  unfold sub
  rw [if_neg (by simp [h]), if_neg (by omega), if_neg (by omega)]
  repeat' split
  all_goals simp
theorem now_sub {f : Feed} (h : chk f = 0) (hb : okB 100 f) (hv : f.ver ≤ 1000000000) (h0 : (sub f f.ver).2.2 = 0) : Now 101 f.ver f.subs.l.length (sub f f.ver).1 ∧ (sub f f.ver).2.1 = f.subs.l.length := by
  have h1 := valid_sub h h0
  have h2 := okB_sub hb f.ver
  have hs : sub f f.ver = ({ f with subs := some (f.subs.l ++ [newQ f.ver]) }, (f.subs.l.length : Int), (0 : Int)) := by
    unfold sub at h0 ⊢
    rw [if_neg (by simp [h]), if_neg (by omega), if_neg (by omega)] at h0 ⊢
    split at h0
    · simp at h0
    · split at h0
      · simp at h0
      · rename_i a b; rw [if_neg a, if_neg b]
  rw [hs] at h1 h2 ⊢
  refine ⟨⟨h1, h2, rfl, newQ f.ver, ?_, rfl, rfl, rfl, rfl⟩, rfl⟩
  show (f.subs.l ++ [newQ f.ver])[f.subs.l.length]? = _
  simp

set_option maxHeartbeats 8000000 in
theorem keeps_call (f : Feed) (ids : Sv Id) (hl : f.subs.l.length ≤ maxLen) (hq : ∀ q ∈ f.subs.l, okIds q.ids) (hi : okIds ids) : CallP Try.prog G0 4 [encF f, encIds ids] [] (c := ⟨fun r _ => r = .bool true⟩) := by
  apply call_intro c4_eq r4_eq
  unfold c4 r4
  have hlen : lenM (.sl 32) (encIds ids) = some (.int .i64 ids.l.length) := len_encS _
  simp [encF]
  refine pure_call alive_ok rfl ?_
  simp [encF]
  refine pure_call (great_ok f hl) (cF f) ?_
  cases hg : great f with
  | true => simp
  | false =>
    have hB : okB 100 f := ⟨fun q h => ⟨hq q h, (great_of hg).2 q h⟩, (great_of hg).1⟩
    have hF := hB.ok (by omega)
    simp [encF]
    refine pure_call (refCheck_ok f hF.2) (cF f) ?_
    by_cases hc : chk f = 0
    · by_cases hv : 1000000 < f.ver
      · simp [hc, hv, hlen]
      by_cases h40 : 40 < (ids.l.length : Int)
      · simp [hc, hv, hlen, h40]
      simp [hc, hv, hlen, h40]
      refine pure_call (subscribe_ok f f.ver hF) (cFn _ _ _) ?_
      simp [encF]
      have hv9 : f.ver ≤ 1000000000 := by omega
      by_cases he : (sub f f.ver).2.2 = 0
      · obtain ⟨N, hn⟩ := now_sub hc hB hv9 he
        have V := (chk_iff f).1 hc
        simp [he, hn]
        refine loop_up ids.l.length (fun k σ l => σ 1 = encIds ids ∧ σ 2 = .ptr 0 0 3 ∧ σ 5 = .bool true ∧ σ 6 = .ptr 1 0 3 ∧ σ 7 = .int .i64 f.subs.l.length ∧ σ 9 = .int .i64 k ∧
          ∃ g rest, l = .cells 3 [.int .i64 f.cap, .int .i64 f.ver, encSubs f.subs] :: .cells 3 [.int .i64 g.cap, .int .i64 g.ver, encSubs g.subs] :: rest ∧ Now (101 + k) (f.ver + k) f.subs.l.length g) ?_ ?_
        · rintro k σ l hk ⟨g1, g2, g5, g6, g7, g9, g, rest, rfl, N⟩
          obtain ⟨σ, rfl⟩ := upds6 g1 g2 g5 g6 g7 g9
          clear g1 g2 g5 g6 g7 g9
          unfold l4_0
          simp [hlen]
          by_cases h : k < ids.l.length
          · obtain ⟨x, hx, hxm⟩ := get_of h
            have hx32 : x.length = 32 := hi x hxm
            have hwk : IntKind.i64.wrap ((k : Int) + 1) = k + 1 := wrap_i64 (by omega) (by omega)
            have hia : iaC (.sl 32) (encIds ids) (.int .i64 k) = some (.rptr (encId x) 0) := by
              cases hh : ids with
              | none => rw [hh] at hx; simp at hx
              | some xs => rw [hh] at hx; simp at hx; simp [encIds, ia_encS, hx]
            have hsl : sliceM (.sl 32) (encIds ids) (some (.int .i64 k)) (some (.int .i64 ((k : Int) + 1))) none = some (encIds (some [x])) := by
              cases hh : ids with
              | none => rw [hh] at hx; simp at hx
              | some xs =>
                rw [hh] at hx h
                simp at hx h
                unfold encIds
                rw [slice_mid (by omega) (by omega) (by omega)]
                congr 3
                rw [show ((k : Int) + 1).toNat - (k : Int).toNat = 1 by omega, Int.toNat_natCast, List.drop_eq_getElem_cons h, (List.getElem?_eq_some_iff.1 hx).2]
                rfl
            simp [h, hwk, hsl]
            have hx1 : ∀ y ∈ [x], y.length = 32 := fun y hy => by simp at hy; rw [hy]; exact hx32
            obtain ⟨r1, r2, r3, r4, r5, N', r6⟩ := now_round N (by omega) hx32
            have k10 : PureC Try.prog G0 10 [encF g, encIds (some [x])] (.tu [encF (publish g [x]).1, .int .i64 (publish g [x]).2]) := publish_ok g (some [x]) (N.b.ok (by omega)) hx1 (by simp)
            have hbP := okB_publish N.b hx1
            obtain ⟨P, hP⟩ : ∃ P, P = (publish g [x]).1 := ⟨_, rfl⟩
            rw [← hP] at r2 r3 r4 r5 N' r6 k10 hbP
            rw [r1] at k10
            have k14 := take_ok P f.subs.l.length (hbP.ok (by simp; omega))
            obtain ⟨T, hT⟩ : ∃ T, T = take P f.subs.l.length := ⟨_, rfl⟩
            rw [← hT] at r2 r3 r4 r5 N' r6 k14
            have k14b := take_ok T.f f.subs.l.length (N'.b.ok (by omega))
            have h32b := take_id32 N'.b f.subs.l.length
            obtain ⟨T2, hT2⟩ : ∃ T2, T2 = take T.f f.subs.l.length := ⟨_, rfl⟩
            rw [← hT2] at r6 k14b h32b
            have hT32 : T.id.length = 32 := by rw [r4]; exact hx32
            have hsf := splice_full (cs := encId zeroId) (vs := encId T.id) (by rw [id_len hT32]; rfl)
            rw [zero_id] at hsf
            have hsf2 := splice_full (cs := encId zeroId) (vs := encId T2.id) (by rw [id_len h32b]; rfl)
            rw [zero_id] at hsf2
            have hwv : IntKind.i64.wrap (f.ver + (k : Int)) = f.ver + k := wrap_i64 (by have := ((chk_iff f).1 hc).v0; omega) (by omega)
            refine pure_call k10 (cFi _ _) ?_
            simp [encF]
            refine pure_call k14 (cFn _ _ _) ?_
            simp [encF, Taken.enc, id_len hT32, hsf, List.take_of_length_le, r2, r3, r5, hwv, hia, id_len hx32, id_neq hT32 hx32]
            simp [r4]
            refine pure_call k14b (cFn _ _ _) ?_
            simp [encF, Taken.enc, id_len h32b, hsf2, List.take_of_length_le, r6, h, hwk]
            exact ⟨_, ⟨rfl, rfl, rfl⟩, by rw [show 101 + (k + 1) = 101 + k + 1 by omega, show f.ver + ((k : Int) + 1) = f.ver + k + 1 by omega]; exact N'⟩
          · simp [h]
        · simp
          exact ⟨_, ⟨rfl, rfl, rfl⟩, N⟩
      · have h18 : (sub f f.ver).2.2 = 18 := (sub_err hc hv9).resolve_left he
        simp [h18]
    · simp [hc]
end Fd
end Go.CM
