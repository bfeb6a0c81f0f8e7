/-
  Play, as plain data: what is played, step by step; a feed with one subscriber does the same.
-/
import Derived.Test.YtidejmkknleijaaGreatDoorEj
set_option linter.unusedVariables false
set_option linter.unusedSimpArgs false
set_option linter.unnecessarySimpa false
namespace Go.CM
open Go Go.Proofs
set_option maxRecDepth 100000
namespace Fd
structure PS where
 w : List Id
 lag : Bool
 en : Bool
 nx : Nat
 out : List Id
def pstep (cap : Int) (order : List Id) (s : PS) (take : Bool) : PS :=
 match take with
 | true => match s.w with
  | x :: r => { s with w := r, out := s.out ++ [x] }
  | [] => if s.lag = true then { s with lag := false, en := true } else s
 | false => match order[s.nx]? with
  | none => s
  | some x => if s.lag = true ∨ s.en = true then { s with nx := s.nx + 1 } else if (s.w.length : Int) < cap then { s with w := s.w ++ [x], nx := s.nx + 1 } else { s with lag := true, nx := s.nx + 1 }
def pstart : PS := ⟨[], false, false, 0, []⟩
def pAt (cap : Int) (order : List Id) (moves : List Bool) (k : Nat) : PS := (moves.take k).foldl (pstep cap order) pstart
theorem pAt_succ (cap : Int) (order : List Id) (moves : List Bool) (k : Nat) (t : Bool) (h : moves[k]? = some t) : pAt cap order moves (k + 1) = pstep cap order (pAt cap order moves k) t := by
 unfold pAt
 rw [List.take_add_one, h]; simp [List.foldl_append]
theorem pAt_all (cap : Int) (order : List Id) (moves : List Bool) (k : Nat) (h : moves.length ≤ k) : pAt cap order moves k = pAt cap order moves moves.length := by
 unfold pAt
 rw [List.take_of_length_le h, List.take_length]
structure PsOk (cap : Int) (order : List Id) (s : PS) : Prop where
 c : (s.w.length : Int) ≤ cap
 le : s.out.length + s.w.length ≤ s.nx
 nx : s.nx ≤ order.length
 w : ∀ x ∈ s.w, x.length = 32
 o : ∀ x ∈ s.out, x.length = 32
 e : s.en = true → s.w = [] ∧ s.lag = false
theorem psOk_start (cap : Int) (order : List Id) (hc : 1 ≤ cap) : PsOk cap order pstart := ⟨by show ((0 : Nat) : Int) ≤ cap; omega, Nat.le_refl _, Nat.zero_le _, by simp [pstart], by simp [pstart], by simp [pstart]⟩
theorem psOk_step {cap : Int} {order : List Id} (ho : ∀ x ∈ order, x.length = 32) {s : PS} (h : PsOk cap order s) (t : Bool) : PsOk cap order (pstep cap order s t) := by
 obtain ⟨h1, h2, h3, h4, h5, h6⟩ := h
 cases t with
 | true =>
  unfold pstep
  cases hw : s.w with
  | cons x r =>
   rw [hw] at h1 h2 h4 h6
   simp only
   refine ⟨?_, ?_, h3, fun y hy => h4 y (by simp [hy]), fun y hy => ?_, fun he => by cases (h6 he).1⟩
   ·simp at h1 ⊢; omega
   ·simp at h2 ⊢; omega
   ·simp at hy
    rcases hy with hy | rfl
    ·exact h5 y hy
    ·exact h4 _ (by simp)
  | nil =>
   simp only
   split
   ·exact ⟨by rw [hw] at h1; exact h1, by rw [hw] at h2; exact h2, h3, by simp, h5, fun _ => ⟨rfl, rfl⟩⟩
   ·exact ⟨h1, h2, h3, h4, h5, h6⟩
 | false =>
  unfold pstep
  cases hx : order[s.nx]? with
  | none => exact ⟨h1, h2, h3, h4, h5, h6⟩
  | some x =>
   have hlt := (List.getElem?_eq_some_iff.1 hx).1
   simp only
   split
   ·exact ⟨h1, by show s.out.length + s.w.length ≤ s.nx + 1; omega, hlt, h4, h5, h6⟩
   ·rename_i hn
    split
    ·rename_i hc
     refine ⟨?_, ?_, hlt, fun y hy => ?_, h5, fun he => absurd (.inr he) hn⟩
     ·simp; omega
     ·simp; omega
     ·simp at hy
      rcases hy with hy | rfl
      ·exact h4 y hy
      ·exact ho _ (List.mem_of_getElem? hx)
    ·exact ⟨h1, by show s.out.length + s.w.length ≤ s.nx + 1; omega, hlt, h4, h5, fun he => absurd (.inr he) hn⟩
theorem psOk_at {cap : Int} {order : List Id} (hc : 1 ≤ cap) (ho : ∀ x ∈ order, x.length = 32) (moves : List Bool) : ∀ k, PsOk cap order (pAt cap order moves k)
 | 0 => psOk_start cap order hc
 | k + 1 => by
  cases hm : moves[k]? with
  | none =>
   have hk := List.getElem?_eq_none_iff.1 hm
   rw [pAt_all _ _ _ _ (by omega), ← pAt_all _ _ _ k hk]
   exact psOk_at hc ho moves k
  | some t =>
   rw [pAt_succ _ _ _ _ t hm]
   exact psOk_step ho (psOk_at hc ho moves k) t
structure Pl (cap from_ : Int) (s : PS) (f : Feed) : Prop where
 ok : chk f = 0
 cap : f.cap = cap
 ver : f.ver = from_ + s.nx
 q : ∃ q, f.subs.l = [q] ∧ q.next = from_ + s.out.length ∧ q.ids.l = s.w ∧ q.lag = s.lag ∧ q.en = s.en
theorem Pl.okF {cap from_ : Int} {s : PS} {f : Feed} {order : List Id} (P : Pl cap from_ s f) (hs : PsOk cap order s) (hc : cap ≤ 8) : okF f := by
 obtain ⟨q, hq, _, h2, _⟩ := P.q
 refine ⟨fun q' hq' => ?_, by rw [hq]; simp⟩
 rw [hq] at hq'
 simp at hq'
 subst hq'
 have := hs.c
 exact ⟨fun x hx => hs.w x (by rw [← h2]; exact hx), by rw [h2]; omega⟩
theorem Pl.num {cap from_ : Int} {s : PS} {f : Feed} (P : Pl cap from_ s f) : num f 0 = if s.en then 34 else 0 := by
 obtain ⟨q, hq, _, _, _, h4⟩ := P.q
 unfold Fd.num
 rw [if_neg (by simp [P.ok]), if_neg (by omega), if_neg (by rw [hq]; simp)]
 have : f.subs.l[0]? = some q := by rw [hq]; rfl
 simp [this, h4]
theorem pubs1' (cap ver : Int) (qs : List Queue) (x : Id) : pubs cap ver qs [x] = qs.map (pubQ cap ver x) := rfl
theorem pl_pub {cap from_ : Int} {order : List Id} {s : PS} {f : Feed} {x : Id} (P : Pl cap from_ s f) (hs : PsOk cap order s) (hx : order[s.nx]? = some x) (hn : s.nx ≤ 1000) (h60 : from_ ≤ 60) :
  (publish f [x]).2 = 0 ∧ Pl cap from_ (pstep cap order s false) (publish f [x]).1 := by
 obtain ⟨q, hq, e1, e2, e3, e4⟩ := P.q
 have V := (chk_iff f).1 P.ok
 have hver := P.ver
 have hp := publish_ok0 P.ok (ids := [x]) (by simp) (by simp; omega)
 have hvp := valid_publish P.ok (ids := [x]) (by simp) (by simp; omega)
 have hsub : (publish f [x]).1.subs.l = [pubQ f.cap f.ver x q] := by rw [hp, publish_subs, pubs1', hq]; rfl
 have hle := hs.le
 have hstep : pstep cap order s false = if s.lag = true ∨ s.en = true then { s with nx := s.nx + 1 } else if (s.w.length : Int) < cap then { s with w := s.w ++ [x], nx := s.nx + 1 } else { s with lag := true, nx := s.nx + 1 } := by
  unfold pstep; rw [hx]
 have hnv : ¬ f.ver < q.next := by omega
 have hcap := hs.c
 have hnx : (pstep cap order s false).nx = s.nx + 1 := by rw [hstep]; split <;> (try split) <;> rfl
 refine ⟨by rw [hp], hvp, by rw [hp]; exact P.cap, by rw [hp, hnx]; show f.ver + 1 = _; omega, _, hsub, ?_⟩
 rw [hstep]
 by_cases h1 : s.lag = true ∨ s.en = true
 ·rw [if_pos h1, pubQ_skip (by rw [e3, e4]; rcases h1 with h | h <;> simp [h])]
  exact ⟨e1, e2, e3, e4⟩
 ·have hno : ¬(q.en = true ∨ q.lag = true ∨ f.ver < q.next) := by
   rw [e3, e4]
   rintro (h | h | h)
   ·exact h1 (.inr h)
   ·exact h1 (.inl h)
   ·exact hnv h
  rw [if_neg h1]
  by_cases h2 : (s.w.length : Int) < cap
  ·rw [if_pos h2, pubQ_add hno (by rw [e2, P.cap]; omega)]
   exact ⟨e1, by show q.ids.l ++ [x] = s.w ++ [x]; rw [e2], e3, e4⟩
  ·rw [if_neg h2, pubQ_lag hno (by rw [e2, P.cap]; omega)]
   exact ⟨e1, e2, rfl, e4⟩
theorem pl_take {cap from_ : Int} {order : List Id} {s : PS} {f : Feed} (P : Pl cap from_ s f) (hs : PsOk cap order s) (hn : s.nx ≤ 1000) (h60 : from_ ≤ 60) :
  ((take f 0).e = 0 ∧ (take f 0).kind = 1 ∧ (∃ r, s.w = (take f 0).id :: r) ∧ Pl cap from_ (pstep cap order s true) (take f 0).f) ∨
  ((take f 0).e = 0 ∧ (take f 0).kind = 2 ∧ s.w = [] ∧ s.lag = true ∧ Pl cap from_ (pstep cap order s true) (take f 0).f) ∨
  (((take f 0).e = 38 ∨ (take f 0).e = 34) ∧ s.w = [] ∧ s.lag = false ∧ pstep cap order s true = s) := by
 have hnum := P.num
 obtain ⟨q, hq, e1, e2, e3, e4⟩ := P.q
 have V := (chk_iff f).1 P.ok
 have hver := P.ver
 have hg : f.subs.l[0]? = some q := by rw [hq]; rfl
 have hok := V.qs q (by rw [hq]; simp)
 cases hen : s.en with
 | true =>
  obtain ⟨h1, h2⟩ := hs.e hen
  rw [hen] at hnum
  right; right
  rw [take_bad (by rw [hnum]; simp)]
  refine ⟨.inr (by rw [hnum]; rfl), h1, h2, ?_⟩
  unfold pstep; rw [h1]; simp [h2]
 | false =>
  rw [hen] at hnum e4
  have hnum0 : num f (0 : Nat) = 0 := by simpa using hnum
  cases hw : s.w with
  | cons x r =>
   left
   rw [hw] at e2
   have ht := take_id hnum0 hg e2
   have hv2 := valid_setQ P.ok hg (fun a => by exact a) (hok.tk V.v9 e2 e4)
   rw [show ((0 : Nat) : Int) = 0 from rfl] at ht
   rw [ht]
   have hst : pstep cap order s true = { s with w := r, out := s.out ++ [x] } := by unfold pstep; rw [hw]
   rw [hst]
   refine ⟨rfl, rfl, ⟨r, rfl⟩, hv2, P.cap, P.ver, { q with next := q.next + 1, ids := some r }, (by show f.subs.l.set 0 _ = _; rw [hq]; rfl), ?_, rfl, e3, by rw [hen]; exact e4⟩
   show q.next + 1 = from_ + ((s.out ++ [x]).length : Int)
   simp; omega
  | nil =>
   right
   rw [hw] at e2
   cases hl : s.lag with
   | true =>
    left
    have ht := take_lag hnum0 hg e2 (by rw [e3]; exact hl)
    have hv2 := valid_setQ P.ok hg (fun a => (by rfl)) (hok.lg e2)
    rw [show ((0 : Nat) : Int) = 0 from rfl] at ht
    rw [ht]
    have hst : pstep cap order s true = { s with lag := false, en := true } := by unfold pstep; rw [hw]; simp [hl]
    rw [hst]
    exact ⟨rfl, rfl, rfl, rfl, hv2, P.cap, P.ver, { q with lag := false, en := true }, (by show f.subs.l.set 0 _ = _; rw [hq]; rfl), e1, by show q.ids.l = s.w; rw [e2, hw], rfl, rfl⟩
   | false =>
    right
    have ht := take_busy hnum0 hg e2 (by rw [e3]; exact hl)
    rw [show ((0 : Nat) : Int) = 0 from rfl] at ht
    rw [ht]
    refine ⟨.inl rfl, rfl, rfl, ?_⟩
    unfold pstep; rw [hw]; simp [hl]
theorem pl_start {cap from_ : Int} (hc1 : 1 ≤ cap) (hc8 : cap ≤ 8) (h0 : 0 ≤ from_) (h60 : from_ ≤ 60) : (sub ⟨cap, from_, none⟩ from_).2 = (0, 0) ∧ Pl cap from_ pstart (sub ⟨cap, from_, none⟩ from_).1 := by
 have hchk : chk ⟨cap, from_, none⟩ = 0 := (chk_iff _).2 ⟨hc1, hc8, h0, by show from_ ≤ 1000000000; omega, by show 0 ≤ 60; omega, by show (0 : Nat) ≤ 4; omega, fun q hq => by cases hq⟩
 have hs : sub ⟨cap, from_, none⟩ from_ = (⟨cap, from_, some [newQ from_]⟩, 0, 0) := by
  unfold sub
  rw [if_neg (by simp [hchk]), if_neg (by show ¬ from_ < from_; omega), if_neg (by omega), if_neg (by show ¬((0 : Nat) : Int) = 60; omega), if_neg (by show ¬((0 : Nat) : Int) = 4; omega)]
  rfl
 have hv := valid_sub hchk (n := from_) (by rw [hs])
 rw [hs] at hv ⊢
 exact ⟨rfl, hv, rfl, by show from_ = from_ + ((0 : Nat) : Int); omega, _, rfl, by show from_ = from_ + ((0 : Nat) : Int); omega, rfl, rfl, rfl⟩
def play (cap from_ : Int) (order : List Id) (moves : List Bool) : Int × List Id × Bool × Int :=
 if from_ < 0 ∨ 60 < from_ ∨ cap < 1 ∨ 8 < cap then (0, [], false, 2) else if 60 < (order.length : Int) ∨ 200 < (moves.length : Int) then (0, [], false, 4)
 else (from_, (pAt cap order moves moves.length).out, (pAt cap order moves moves.length).en, 0)
def sOf (l : List Id) : Sv Id := match l with | [] => none | x :: r => some (x :: r)
theorem sOf_l (l : List Id) : (sOf l).l = l := by cases l <;> rfl
theorem sOf_nil (l : List Id) : (sOf l).isNone = l.isEmpty := by cases l <;> rfl
def encD (n : Int) (s : Sv Id) (b : Bool) : CV := .ag [.int .i64 n, encIds s, .bool b]
def encPlay (p : Int × List Id × Bool × Int) : CV := .tu [encD p.1 (sOf p.2.1) p.2.2.1, .int .i64 p.2.2.2]
def encMoves (s : Sv Bool) : CV := encS 1 (fun b => [.bool b]) s
def cellsF (f : Feed) : List CV := [.int .i64 f.cap, .int .i64 f.ver, encSubs f.subs]
theorem encF_cells (f : Feed) : encF f = .ag (cellsF f) := rfl
theorem cellsF_len (f : Feed) : (cellsF f).length = 3 := rfl
theorem spF (f g : Feed) : splice (cellsF f) 0 (cellsF g) = cellsF g := rfl
theorem tkF (f : Feed) : (cellsF f).take 3 = cellsF f := rfl
theorem closed_cellsF (f : Feed) : closedL (cellsF f) = true := by have := closed_F f; simpa [encF, CV.closed, cellsF] using this
theorem rd_play0 {l : Hl} {e e' : Int} (h : e = e') : Rd l (.tu [.ag [.int .i64 0, .nilS, .bool false], .int .i64 e]) (encPlay (0, [], false, e')) := by subst h; exact .same _ rfl
theorem take_id_len (f : Feed) (n : Int) (h : ∀ q ∈ f.subs.l, okQs q) : (take f n).id.length = 32 := by
 unfold take
 split
 ·rfl
 ·split
  ·rfl
  ·rename_i q hq
   split
   ·rename_i x r hx
    exact (h q (List.mem_of_getElem? hq)).1 x (by rw [hx]; simp)
   ·split <;> rfl
def InvP (cap from_ : Int) (order : List Id) (moves : List Bool) (k : Nat) (o : CV) (l : Hl) : Prop :=
 ∃ (s : PS) (f : Feed) (os : Sv Id) (v : CV) (j : Nat) (rest : Hl), s = pAt cap order moves k ∧ Pl cap from_ s f ∧ o = encIds os ∧ os.l = order.drop s.nx ∧ OwnS 32 l v j (s.out.map encId) ∧ (v = .nilS ∨ 3 ≤ j) ∧ isNilS v = s.out.isEmpty ∧
   l = .cells 3 [.int .i64 0, .nilS, .bool false] :: .cells 3 (cellsF f) :: .cells 3 [.int .i64 from_, v, .bool s.en] :: rest
set_option maxHeartbeats 16000000 in
theorem play_ok (cap from_ : Int) (order : Sv Id) (moves : Sv Bool) (ho : okIds order) (hol : order.l.length ≤ 1000000) (hml : moves.l.length ≤ 1000000) :
  PureC Tryz.prog GS 27 [.int .i64 cap, .int .i64 from_, encIds order, encMoves moves] (encPlay (play cap from_ order.l moves.l)) := by
 have hr0 : roomMax = 140737488355328 := rfl
 refine pure_of Tryz.checked.mixed GS_closed ?_
 apply call_intro c27_eq r27_eq
 unfold c27 r27
 have hlo : lenM (.sl 32) (encIds order) = some (.int .i64 order.l.length) := len_encS _
 have hlm : lenM (.sl 1) (encMoves moves) = some (.int .i64 moves.l.length) := len_encS _
 have h2 : ∀ p : from_ < 0 ∨ 60 < from_ ∨ cap < 1 ∨ 8 < cap, play cap from_ order.l moves.l = (0, [], false, 2) := fun p => by unfold play; rw [if_pos p]
 by_cases hf0 : from_ < 0
 ·simp [hf0]
  rw [h2 (.inl hf0)]
  exact rd_play0 rfl
 by_cases hf60 : 60 < from_
 ·simp [hf0, hf60]
  rw [h2 (.inr (.inl hf60))]
  exact rd_play0 rfl
 have hnew := new_ok cap
 by_cases hc : cap < 1 ∨ 8 < cap
 ·have hn : newF cap = (zeroF, 2) := by
   unfold newF
   by_cases h1 : cap < 1
   ·rw [if_pos h1]
   ·rw [if_neg h1, if_pos (by omega)]
  rw [hn] at hnew
  simp [hf0, hf60]
  refine pure_call hnew rfl ?_
  simp [encF]
  rw [h2 (by omega)]
  exact rd_play0 rfl
 have hn : newF cap = (⟨cap, 0, none⟩, 0) := by unfold newF; rw [if_neg (by omega), if_neg (by omega)]
 rw [hn] at hnew
 by_cases h4 : 60 < (order.l.length : Int) ∨ 200 < (moves.l.length : Int)
 ·have hp : play cap from_ order.l moves.l = (0, [], false, 4) := by unfold play; rw [if_neg (by omega), if_pos h4]
  simp [hf0, hf60]
  refine pure_call hnew rfl ?_
  rcases h4 with h4 | h4
  ·simp [encF, hlo, h4]
   rw [hp]; exact rd_play0 rfl
  ·by_cases h5 : 60 < (order.l.length : Int)
   ·simp [encF, hlo, h5]
    rw [hp]; exact rd_play0 rfl
   ·simp [encF, hlo, h5, hlm, h4]
    rw [hp]; exact rd_play0 rfl
 have hp : play cap from_ order.l moves.l = (from_, (pAt cap order.l moves.l moves.l.length).out, (pAt cap order.l moves.l moves.l.length).en, 0) := by unfold play; rw [if_neg (by omega), if_neg h4]
 rw [hp]
 have h41 : ¬ 60 < (order.l.length : Int) := fun h => h4 (.inl h)
 have h42 : ¬ 200 < (moves.l.length : Int) := fun h => h4 (.inr h)
 obtain ⟨hs1, hs2⟩ := pl_start (cap := cap) (from_ := from_) (by omega) (by omega) (by omega) (by omega)
 have hsub := subscribe_ok ⟨cap, from_, none⟩ from_ ⟨fun q hq => (by cases hq), by show 0 ≤ 1000000; omega⟩
 rw [show (sub ⟨cap, from_, none⟩ from_).2.1 = 0 by rw [hs1], show (sub ⟨cap, from_, none⟩ from_).2.2 = 0 by rw [hs1]] at hsub
 simp [hf0, hf60]
 refine pure_call hnew rfl ?_
 simp [encF, hlo, h41, hlm, h42, encSubs, encS]
 refine pure_call hsub (by simp [closedL, closed_F, CV.closed]) ?_
 obtain ⟨F0, hF0⟩ : ∃ F0, F0 = (sub ⟨cap, from_, none⟩ from_).1 := ⟨_, rfl⟩
 rw [← hF0] at hs2
 rw [← hF0]
 simp [encF_cells, cellsF_len, hlm]
 refine loop_up moves.l.length (fun k σ l => σ 8 = .ptr 0 0 3 ∧ σ 10 = .ptr 1 0 3 ∧ σ 12 = .int .i64 0 ∧ σ 13 = .ptr 2 0 3 ∧ σ 61 = encMoves moves ∧ σ 62 = .int .i64 moves.l.length ∧ σ 63 = .int .i64 k ∧
  InvP cap from_ order.l moves.l k (σ 2) l) ?_ ?_
 ·rintro k σ l hk ⟨g8, g10, g12, g13, g61, g62, g63, hinv⟩
  obtain ⟨s, f, os, v, j, rest, hs, P, g2, hos, hown, hj, hnil, rfl⟩ := hinv
  obtain ⟨σ, rfl⟩ := upds8 g2 g8 g10 g12 g13 g61 g62 g63
  clear g2 g8 g10 g12 g13 g61 g62 g63
  unfold l27_0
  have hso : PsOk cap order.l s := by rw [hs]; exact psOk_at (by omega) ho _ _
  by_cases hkm : k < moves.l.length
  ·obtain ⟨t, ht, _⟩ := get_of hkm
   have hsucc := pAt_succ cap order.l moves.l k t ht
   rw [← hs] at hsucc
   have hia : iaC (.sl 1) (encMoves moves) (.int .i64 k) = some (.rptr [.bool t] 0) := by unfold encMoves; rw [ia_encS]; simp [ht]
   have hwk : IntKind.i64.wrap ((k : Int) + 1) = (k + 1 : Nat) := wrap_i64 (by omega) (by omega)
   have hlos : lenM (.sl 32) (encIds os) = some (.int .i64 os.l.length) := len_encS _
   cases t with
   | false =>
    by_cases hex : s.nx < order.l.length
    ·obtain ⟨x, hx, hxm⟩ := get_of hex
     have hd : order.l.drop s.nx = x :: order.l.drop (s.nx + 1) := by
      rw [List.drop_eq_getElem_cons hex]; congr 1; exact (List.getElem?_eq_some_iff.1 hx).2
     rw [hd] at hos
     obtain ⟨os', rfl⟩ : ∃ l', os = some l' := by
      cases os with
      | none => cases hos
      | some l' => exact ⟨l', rfl⟩
     rw [Sv.l_some] at hos
     subst hos
     obtain ⟨hp2, P2⟩ := pl_pub P hso hx (by omega) (by omega)
     have hpub := publish_ok f (some [x]) (P.okF hso (by omega)) (fun y hy => by simp at hy; rw [hy]; exact ho _ hxm) (by simp)
     rw [Sv.l_some, hp2] at hpub
     obtain ⟨f', hf'⟩ : ∃ f', f' = (publish f [x]).1 := ⟨_, rfl⟩
     rw [← hf'] at hpub P2
     have hst : sliceM (.sl 32) (encIds (some (x :: order.l.drop (s.nx + 1)))) none (some (.int .i64 1)) none = some (encIds (some [x])) := by
      unfold encIds; rw [slice_to (by omega) (by simp; omega)]; rfl
     have hsf : sliceM (.sl 32) (encIds (some (x :: order.l.drop (s.nx + 1)))) (some (.int .i64 1)) none none = some (encIds (some (order.l.drop (s.nx + 1)))) := by
      unfold encIds; rw [slice_from (by omega) (by simp; omega)]; rfl
     have hlos2 : lenM (.sl 32) (encIds (some (x :: order.l.drop (s.nx + 1)))) = some (.int .i64 ((order.l.drop (s.nx + 1)).length + 1 : Nat)) := len_encS _
     have hpos : (0 : Int) < ((order.l.drop (s.nx + 1)).length + 1 : Nat) := by omega
     have hcl : closedL [CV.ag (cellsF f), encIds (some [x])] = true := by simp [closedL, CV.closed, closed_cellsF, closed_ids]
     rw [encF_cells, encF_cells] at hpub
     have hst8 : (pstep cap order.l s false).nx = s.nx + 1 ∧ (pstep cap order.l s false).out = s.out ∧ (pstep cap order.l s false).en = s.en := by
      unfold pstep; rw [hx]; simp only; split <;> (try split) <;> exact ⟨rfl, rfl, rfl⟩
     have hown2 := hown.frame2 (l' := CB.cells 3 [CV.int IntKind.i64 0, CV.nilS, CV.bool false] :: CB.cells 3 (cellsF f') :: CB.cells 3 [CV.int IntKind.i64 from_, v, CV.bool s.en] :: rest) (by
      rcases hj with h | h
      ·exact .inl h
      ·right
       obtain ⟨jj, rfl⟩ : ∃ jj, j = jj + 3 := ⟨j - 3, by omega⟩
       rfl)
     obtain ⟨n1, hn1⟩ : ∃ n1, n1 = (order.l.drop (s.nx + 1)).length + 1 := ⟨_, rfl⟩
     rw [← hn1] at hlos2 hpos
     have hposN : 0 < n1 := by omega
     simp [hkm, hia, hlos2, hpos, hposN, hst, cellsF_len, List.take_of_length_le]
     refine pure_call hpub hcl ?_
     simp [cellsF_len, spF, hsf, hkm, hwk]
     exact ⟨pstep cap order.l s false, f', some (order.l.drop (s.nx + 1)), v, j, rest, hsucc.symm, P2, rfl, by rw [hst8.1]; rfl, by rw [hst8.2.1]; exact hown2, hj, by rw [hst8.2.1]; exact hnil, by rw [hst8.2.2]⟩
    ·have hx : order.l[s.nx]? = none := List.getElem?_eq_none (by omega)
     have hst : pstep cap order.l s false = s := by unfold pstep; rw [hx]
     rw [hst] at hsucc
     have hd : order.l.drop s.nx = [] := List.drop_of_length_le (by omega)
     rw [hd] at hos
     rw [hos] at hlos
     simp [hkm, hia, hlos, hwk]
     exact ⟨s, f, os, v, j, rest, hsucc.symm, P, rfl, by rw [hos, hd], hown, hj, hnil, rfl⟩
   | true =>
    have htk := take_ok f 0 (P.okF hso (by omega))
    have hcl : closedL [CV.ag (cellsF f), .int .i64 0] = true := by simp [closedL, CV.closed, closed_cellsF]
    rw [encF_cells] at htk
    have hpt := pl_take P hso (by have := hso.nx; omega) (by omega)
    have hown2 : ∀ (c1 : List CV) (x : Hl), OwnS 32 (CB.cells 3 [CV.int IntKind.i64 0, CV.nilS, CV.bool false] :: CB.cells 3 c1 :: CB.cells 3 [CV.int IntKind.i64 from_, v, CV.bool s.en] :: (rest ++ x)) v j (s.out.map encId) := fun c1 x => (hown.more x).frame2 (by
     rcases hj with h | h
     ·exact .inl h
     ·right
      obtain ⟨jj, rfl⟩ : ∃ jj, j = jj + 3 := ⟨j - 3, by omega⟩
      rfl)
    obtain ⟨T, hT⟩ : ∃ T, T = take f 0 := ⟨_, rfl⟩
    rw [← hT] at htk hpt
    unfold Taken.enc at htk
    rw [encF_cells] at htk
    have hzl : ∀ c : CV, (rep 32 c).length = 32 := fun c => rfl
    rcases hpt with ⟨te, tk, ⟨r, hw⟩, P2⟩ | ⟨te, tk, hw, hlg, P2⟩ | ⟨te, hw, hlg, hsame⟩
    ·have hidl : T.id.length = 32 := hso.w _ (by rw [hw]; simp)
     have hst : pstep cap order.l s true = { s with w := r, out := s.out ++ [T.id] } := by unfold pstep; rw [hw]
     have hs3 : (pstep cap order.l s true).out = s.out ++ [T.id] := by rw [hst]
     have hol2 : s.out.length ≤ 60 := by have := hso.le; have := hso.nx; omega
     obtain ⟨v', j', r', h1, h2', h3, h4'⟩ := app_pre (by_ := 32) (pre := [CB.cells 3 [CV.int IntKind.i64 0, CV.nilS, CV.bool false], CB.cells 3 (cellsF T.f), CB.cells 3 [CV.int IntKind.i64 from_, v, CV.bool s.en]]) (rest := rest ++ [CB.cells 3 (cellsF T.f), CB.cells 32 (encId T.id), CB.cells 32 (encId T.id)]) (hown2 _ _) hj (x := .sl 32 (rest.length + 2 + 1 + 1 + 1) 0 1 1 32) (xs := [encId T.id]) (by simp [contentsL, id_len hidl, List.take_of_length_le]) (by simp [id_len hidl]) (by omega) (by omega) (by rw [hr0]; simp; omega)
     rw [te, tk] at htk
     simp [hkm, hia, cellsF_len, List.take_of_length_le]
     refine pure_call htk hcl ?_
     have hsp0 : ∀ c : List CV, c.length = 32 → splice [CV.int IntKind.u8 0, .int .u8 0, .int .u8 0, .int .u8 0, .int .u8 0, .int .u8 0, .int .u8 0, .int .u8 0, .int .u8 0, .int .u8 0, .int .u8 0, .int .u8 0, .int .u8 0, .int .u8 0, .int .u8 0, .int .u8 0, .int .u8 0, .int .u8 0, .int .u8 0, .int .u8 0, .int .u8 0, .int .u8 0, .int .u8 0, .int .u8 0, .int .u8 0, .int .u8 0, .int .u8 0, .int .u8 0, .int .u8 0, .int .u8 0, .int .u8 0, .int .u8 0] 0 c = c := fun c hc => splice_full (by rw [hc]; rfl)
     have hsp1 : splice [CV.int IntKind.i64 0, .int .i64 0, .nilS] 0 (cellsF T.f) = cellsF T.f := rfl
     have hvc := h2'.cells
     simp only [List.cons_append, List.nil_append] at h1
     simp [cellsF_len, spF, tkF, hsp1, hsp0 _ (id_len hidl), id_len hidl, List.take_of_length_le, h1]
     refine AppK.keep ?_
     simp [hvc, hkm, hwk]
     have hown3 : OwnS 32 (CB.cells 3 [CV.int IntKind.i64 0, CV.nilS, CV.bool false] :: CB.cells 3 (cellsF T.f) :: CB.cells 3 [CV.int IntKind.i64 from_, v', CV.bool s.en] :: r') v' j' ((s.out ++ [T.id]).map encId) := by
      rw [List.map_append]
      refine h2'.frame2 ?_
      rcases h3 with h | h
      ·exact .inl h
      ·right
       obtain ⟨jj, rfl⟩ : ∃ jj, j' = jj + 3 := ⟨j' - 3, by simp at h; omega⟩
       rfl
     exact ⟨pstep cap order.l s true, T.f, os, v', j', r', hsucc.symm, P2, rfl, by rw [hst]; exact hos, by rw [hs3]; exact hown3, h3, by rw [h4', hs3]; cases isNilS v <;> cases s.out <;> rfl, by rw [hst]⟩
    ·have hst : pstep cap order.l s true = { s with lag := false, en := true } := by unfold pstep; rw [hw]; simp [hlg]
     rw [te, tk] at htk
     have hidl : T.id.length = 32 := by rw [hT]; exact take_id_len f 0 (P.okF hso (by omega)).1
     simp [hkm, hia, cellsF_len, List.take_of_length_le]
     refine pure_call htk hcl ?_
     have hsp0 : ∀ c : List CV, c.length = 32 → splice [CV.int IntKind.u8 0, .int .u8 0, .int .u8 0, .int .u8 0, .int .u8 0, .int .u8 0, .int .u8 0, .int .u8 0, .int .u8 0, .int .u8 0, .int .u8 0, .int .u8 0, .int .u8 0, .int .u8 0, .int .u8 0, .int .u8 0, .int .u8 0, .int .u8 0, .int .u8 0, .int .u8 0, .int .u8 0, .int .u8 0, .int .u8 0, .int .u8 0, .int .u8 0, .int .u8 0, .int .u8 0, .int .u8 0, .int .u8 0, .int .u8 0, .int .u8 0, .int .u8 0] 0 c = c := fun c hc => splice_full (by rw [hc]; rfl)
     have hsp1 : splice [CV.int IntKind.i64 0, .int .i64 0, .nilS] 0 (cellsF T.f) = cellsF T.f := rfl
     have hown3 : OwnS 32 (CB.cells 3 [CV.int IntKind.i64 0, CV.nilS, CV.bool false] :: CB.cells 3 (cellsF T.f) :: CB.cells 3 [CV.int IntKind.i64 from_, v, CV.bool true] :: (rest ++ [CB.cells 3 (cellsF T.f), CB.cells 32 (encId T.id)])) v j (s.out.map encId) := by
      refine (hown2 (cellsF T.f) [CB.cells 3 (cellsF T.f), CB.cells 32 (encId T.id)]).frame2 ?_
      rcases hj with h | h
      ·exact .inl h
      ·right
       obtain ⟨jj, rfl⟩ : ∃ jj, j = jj + 3 := ⟨j - 3, by omega⟩
       rfl
     simp [cellsF_len, spF, tkF, hsp1, hsp0 _ (id_len hidl), id_len hidl, List.take_of_length_le, hkm, hwk]
     exact ⟨pstep cap order.l s true, T.f, os, v, j, _, hsucc.symm, P2, rfl, by rw [hst]; exact hos, by rw [hst]; exact hown3, hj, by rw [hst]; exact hnil, by rw [hst]⟩
    ·rw [hsame] at hsucc
     have hidl : T.id.length = 32 := by rw [hT]; exact take_id_len f 0 (P.okF hso (by omega)).1
     simp [hkm, hia, cellsF_len, List.take_of_length_le]
     refine pure_call htk hcl ?_
     have hown3 := hown2 (cellsF f) [CB.cells 3 (cellsF T.f), CB.cells 32 (encId T.id)]
     have hsp0 : ∀ c : List CV, c.length = 32 → splice [CV.int IntKind.u8 0, .int .u8 0, .int .u8 0, .int .u8 0, .int .u8 0, .int .u8 0, .int .u8 0, .int .u8 0, .int .u8 0, .int .u8 0, .int .u8 0, .int .u8 0, .int .u8 0, .int .u8 0, .int .u8 0, .int .u8 0, .int .u8 0, .int .u8 0, .int .u8 0, .int .u8 0, .int .u8 0, .int .u8 0, .int .u8 0, .int .u8 0, .int .u8 0, .int .u8 0, .int .u8 0, .int .u8 0, .int .u8 0, .int .u8 0, .int .u8 0, .int .u8 0] 0 c = c := fun c hc => splice_full (by rw [hc]; rfl)
     have hsp1 : splice [CV.int IntKind.i64 0, .int .i64 0, .nilS] 0 (cellsF T.f) = cellsF T.f := rfl
     have hend : InvP cap from_ order.l moves.l (k + 1) (encIds os) (CB.cells 3 [CV.int IntKind.i64 0, CV.nilS, CV.bool false] :: CB.cells 3 (cellsF f) :: CB.cells 3 [CV.int IntKind.i64 from_, v, CV.bool s.en] :: (rest ++ [CB.cells 3 (cellsF T.f), CB.cells 32 (encId T.id)])) :=
      ⟨s, f, os, v, j, _, hsucc.symm, P, rfl, hos, hown3, hj, hnil, rfl⟩
     rcases te with te | te
     ·rw [te]
      simp [cellsF_len, spF, tkF, hsp1, hsp0 _ (id_len hidl), id_len hidl, List.take_of_length_le, hkm, hwk]
      exact hend
     ·rw [te]
      simp [cellsF_len, spF, tkF, hsp1, hsp0 _ (id_len hidl), id_len hidl, List.take_of_length_le, hkm, hwk]
      exact hend
  ·have hke : k = moves.l.length := by omega
   subst hke
   rw [← hs]
   unfold encPlay encD
   simp [List.take_of_length_le]
   have hown3 := hown.frame2 (l' := CB.cells 3 [CV.int IntKind.i64 from_, v, CV.bool s.en] :: CB.cells 3 (cellsF f) :: CB.cells 3 [CV.int IntKind.i64 from_, v, CV.bool s.en] :: rest) (by
    rcases hj with h | h
    ·exact .inl h
    ·right
     obtain ⟨jj, rfl⟩ : ∃ jj, j = jj + 3 := ⟨j - 3, by omega⟩
     rfl)
   have hrd := hown3.q.rd_enc (fun x => closedL_ints .u8 x) (sOf s.out) (by rw [hnil, sOf_nil]) (sOf_l _)
   exact rd_tu2 (rd_ag3 (.same _ rfl) hrd (.same _ rfl)) (.same _ rfl)
 ·simp
  exact ⟨pstart, F0, order, .nilS, 0, [], rfl, hs2, rfl, rfl, .nil 0, .inl rfl, rfl, rfl⟩
structure InvR (cap from_ : Int) (order : List Id) (moves : List Bool) (k : Nat) (w nx lg : CV) (l : Hl) : Prop where
 ex : ∃ (s : PS) (jw : Nat) (vd : CV) (jd : Nat) (rest : Hl), s = pAt cap order moves k ∧ nx = .int .i64 s.nx ∧ lg = .bool (s.lag || s.en) ∧ OwnQ 32 l w jw (s.w.map encId) ∧ OwnQ 32 l vd jd (s.out.map encId) ∧ (w = .nilS ∨ 2 ≤ jw) ∧ (vd = .nilS ∨ 2 ≤ jd) ∧
  (w = .nilS ∨ vd = .nilS ∨ jw ≠ jd) ∧ isNilS vd = s.out.isEmpty ∧ l = .cells 3 [.int .i64 0, .nilS, .bool false] :: .cells 3 [.int .i64 from_, vd, .bool s.en] :: rest
set_option maxHeartbeats 1000000 in
theorem sameIDs4_ok (a b : Sv Id) (ha : okIds a) (hb : okIds b) (hl : a.l.length ≤ 1000000) : PureC Tryz.prog GS 21 [encIds a, encIds b] (.bool (decide (a.l = b.l))) := by
 refine pure_of Tryz.checked.mixed GS_closed ?_
 apply call_intro c21_eq r21_eq
 unfold c21 r21
 simp [encIds]
 by_cases h1 : a.l.length = b.l.length
 ·have h1' : ((a.l.length : Int) = b.l.length) := by omega
  simp [h1]
  refine loop_up a.l.length (fun k σ l => σ 0 = encS 32 encId a ∧ σ 1 = encS 32 encId b ∧ σ 5 = .int .i64 k ∧ ∀ j, j < k → a.l[j]? = b.l[j]?) ?_ (by simp [encIds])
  rintro k σ l hk ⟨g0, g1, g5, hs⟩
  obtain ⟨s, rfl⟩ := upds3 g0 g1 g5
  clear g0 g1 g5
  unfold l21_0
  simp
  refine kIf_intro (fun h => ?_) (fun h => ?_)
  ·simp only [decide_eq_true_eq] at h
   obtain ⟨x, hx, hxm⟩ := get_of h
   obtain ⟨y, hy, hym⟩ := get_of (l := b.l) (k := k) (by omega)
   simp [hx, hy, id_len (ha x hxm), id_len (hb y hym), List.take_of_length_le, id_neq (ha x hxm) (hb y hym)]
   by_cases he : x = y
   ·simp (disch := omega) [he, wrap_i64, h]
    intro j hj
    by_cases hjk : j = k
    ·subst hjk; rw [hx, hy, he]
    ·exact hs j (by omega)
   ·simp [he]
    refine rd_bool (decide_eq_false fun hab => he ?_).symm
    rw [hab, hy] at hx; exact (Option.some.inj hx).symm
  ·simp [h]
   have : k = a.l.length := by simp at h; omega
   subst this
   refine rd_bool (decide_eq_true ?_).symm
   apply List.ext_getElem?
   intro j
   by_cases hj : j < a.l.length
   ·exact hs j hj
   ·rw [List.getElem?_eq_none (by omega), List.getElem?_eq_none (by omega)]
 ·have h1' : ¬ ((a.l.length : Int) = b.l.length) := by omega
  simp [h1, h1']
  exact rd_bool (decide_eq_false fun hab => h1 (by rw [hab])).symm
def sameD (n : Int) (s : Sv Id) (b : Bool) (n' : Int) (s' : Sv Id) (b' : Bool) : Bool := decide (n = n') && (b == b') && decide (s.l = s'.l)
set_option maxHeartbeats 4000000 in
theorem sameD_ok (n : Int) (s : Sv Id) (b : Bool) (n' : Int) (s' : Sv Id) (b' : Bool) (hs : okIds s) (hs' : okIds s') (hl : s.l.length ≤ 1000000) : PureC Tryz.prog GS 28 [encD n s b, encD n' s' b'] (.bool (sameD n s b n' s' b')) := by
 refine pure_of Tryz.checked.mixed GS_closed ?_
 apply call_intro c28_eq r28_eq
 unfold c28 r28
 unfold sameD
 simp [encD]
 by_cases h1 : n = n'
 ·simp [h1, bool_eql]
  by_cases h2 : b = b'
  ·simp [h2]
   refine pure_call (sameIDs4_ok s s' hs hs' hl) (show closedL [encIds s, encIds s'] = true by simp [closedL, closed_ids]) ?_
   simp [h1, h2]
   exact rd_bool (by simp [h1, h2])
  ·have h2' : (b == b') = false := by simpa using h2
   simp [h2, h2']
   exact rd_bool (by simp [h1, h2])
 ·simp [h1]
  exact rd_bool (by simp [h1])
theorem ty_move (r : List CV) (h : Ty Tryz.prog [4] r) : ∃ b : Bool, r = [.bool b] ∧ True := by
 obtain ⟨b, _, rfl, h1⟩ := ty_bool (by kernel_rfl) h
 rw [ty_nil h1]
 exact ⟨b, rfl, trivial⟩
theorem tyA_moves {ts : List TypeId} {cs : List CV} (h : TyA Tryz.prog (64 :: ts) cs) : ∃ (s : Sv Bool) (cs' : List CV), cs = encMoves s :: cs' ∧ s.l.length ≤ maxLen ∧ TyA Tryz.prog ts cs' := by
 obtain ⟨c, cs', rfl, h1, h2⟩ := tyA_cons h
 obtain ⟨s, cs1, hs, hl, hi, h3⟩ := ty_sl (enc := fun b : Bool => [.bool b]) (e := 4) (z := 1) (by kernel_rfl) (by kernel_rfl) ty_move (tyV_one (by kernel_rfl) h1)
 cases hs
 exact ⟨s, cs', rfl, hl, h2⟩
theorem pl_number {cap from_ : Int} {s : PS} {f : Feed} (P : Pl cap from_ s f) (h : (take f 0).e = 0) : (take f 0).number = from_ + s.out.length := by
 obtain ⟨q, hq, e1, e2, e3, e4⟩ := P.q
 have hg : f.subs.l[0]? = some q := by rw [hq]; rfl
 unfold take at h ⊢
 split at h
 ·rename_i hn; exact absurd h hn
 ·rename_i hn
  rw [if_neg hn]
  have hg' : f.subs.l[(0 : Int).toNat]? = some q := hg
  rw [hg'] at h ⊢
  simp only at h ⊢
  split at h
  ·exact e1
  ·split at h
   ·rename_i hl; rw [if_pos hl]; exact e1
   ·cases h
def InvT (cap from_ : Int) (order : List Id) (moves : List Bool) (d : List CV) (k : Nat) (nx : CV) (l : Hl) : Prop :=
 ∃ (s : PS) (f : Feed) (v : CV) (j : Nat) (rest : Hl), s = pAt cap order moves k ∧ Pl cap from_ s f ∧ nx = .int .i64 s.nx ∧ OwnS 32 l v j (s.out.map encId) ∧ (v = .nilS ∨ 3 ≤ j) ∧ isNilS v = s.out.isEmpty ∧
   l = .cells 3 (cellsF f) :: .cells 3 d :: .cells 3 [.int .i64 from_, v, .bool s.en] :: rest
set_option maxHeartbeats 16000000 in
theorem takes_call (hal : PureC Tryz.prog GS 29 [] (.bool true)) (cap from_ : Int) (order : Sv Id) (moves : Sv Bool) (ho : okIds order) :
  CallP Tryz.prog GS 7 [.int .i64 cap, .int .i64 from_, encIds order, encMoves moves] [] (c := ⟨fun r _ => r = .bool true⟩) := by
 have hr0 : roomMax = 140737488355328 := rfl
 apply call_intro c7_eq r7_eq
 unfold c7 r7
 have hlo : lenM (.sl 32) (encIds order) = some (.int .i64 order.l.length) := len_encS _
 have hlm : lenM (.sl 1) (encMoves moves) = some (.int .i64 moves.l.length) := len_encS _
 simp
 refine pure_call hal rfl ?_
 by_cases h1 : cap < 1
 ·simp [h1]
 by_cases h2 : 8 < cap
 ·simp [h1, h2]
 by_cases h3 : from_ < 0
 ·simp [h1, h2, h3]
 by_cases h4 : 60 < from_
 ·simp [h1, h2, h3, h4]
 by_cases h5 : 30 < (order.l.length : Int)
 ·simp [h1, h2, h3, h4, hlo, h5]
 by_cases h6 : 100 < (moves.l.length : Int)
 ·simp [h1, h2, h3, h4, hlo, h5, hlm, h6]
 have hnew := new_ok cap
 have hn : newF cap = (⟨cap, 0, none⟩, 0) := by unfold newF; rw [if_neg (by omega), if_neg (by omega)]
 rw [hn] at hnew
 have hp : play cap from_ order.l moves.l = (from_, (pAt cap order.l moves.l moves.l.length).out, (pAt cap order.l moves.l moves.l.length).en, 0) := by unfold play; rw [if_neg (by omega), if_neg (by omega)]
 have hplay := play_ok cap from_ order moves ho (by omega) (by omega)
 rw [hp] at hplay
 obtain ⟨hs1, hs2⟩ := pl_start (cap := cap) (from_ := from_) (by omega) (by omega) (by omega) (by omega)
 have hsub := subscribe_ok ⟨cap, from_, none⟩ from_ ⟨fun q hq => (by cases hq), by show 0 ≤ 1000000; omega⟩
 rw [show (sub ⟨cap, from_, none⟩ from_).2.1 = 0 by rw [hs1], show (sub ⟨cap, from_, none⟩ from_).2.2 = 0 by rw [hs1]] at hsub
 simp [h1, h2, h3, h4, hlo, h5, hlm, h6]
 refine pure_call hnew rfl ?_
 simp [encF, encSubs, encS]
 refine pure_call hsub (by simp [closedL, closed_F, CV.closed]) ?_
 obtain ⟨F0, hF0⟩ : ∃ F0, F0 = (sub ⟨cap, from_, none⟩ from_).1 := ⟨_, rfl⟩
 rw [← hF0] at hs2
 rw [← hF0]
 simp [encF_cells, cellsF_len]
 refine pure_call hplay (by simp [closedL, CV.closed, closed_ids, encMoves, closed_encS]) ?_
 obtain ⟨O, hO⟩ : ∃ O, O = pAt cap order.l moves.l moves.l.length := ⟨_, rfl⟩
 rw [← hO]
 unfold encPlay encD
 simp
 obtain ⟨D, hD⟩ : ∃ D, D = [CV.int .i64 from_, encIds (sOf O.out), CV.bool O.en] := ⟨_, rfl⟩
 rw [← hD]
 have hDl : D.length = 3 := by rw [hD]; rfl
 have hDg : CV.ag D = encD from_ (sOf O.out) O.en := by rw [hD]; rfl
 clear hnew hplay hsub
 refine loop_up moves.l.length (fun k σ l => σ 1 = .int .i64 from_ ∧ σ 2 = encIds order ∧ σ 3 = encMoves moves ∧ σ 9 = .bool true ∧ σ 10 = .ptr 0 0 3 ∧ σ 14 = .ptr 1 0 3 ∧ σ 16 = .ptr 2 0 3 ∧ σ 18 = .int .i64 k ∧
  InvT cap from_ order.l moves.l D k (σ 17) l) ?_ ?_
 ·rintro k σ l hk ⟨g1, g2, g3, g9, g10, g14, g16, g18, hinv⟩
  obtain ⟨s, f, v, j, rest, hs, P, g17, hown, hj, hnil, rfl⟩ := hinv
  obtain ⟨σ, rfl⟩ := upds9 g1 g2 g3 g9 g10 g14 g16 g17 g18
  clear g1 g2 g3 g9 g10 g14 g16 g17 g18
  unfold l7_0
  have hso : PsOk cap order.l s := by rw [hs]; exact psOk_at (by omega) ho _ _
  by_cases hkm : k < moves.l.length
  ·obtain ⟨t, ht, _⟩ := get_of hkm
   have hsucc := pAt_succ cap order.l moves.l k t ht
   rw [← hs] at hsucc
   have hia : iaC (.sl 1) (encMoves moves) (.int .i64 k) = some (.rptr [.bool t] 0) := by unfold encMoves; rw [ia_encS]; simp [ht]
   have hwk : IntKind.i64.wrap ((k : Int) + 1) = (k + 1 : Nat) := wrap_i64 (by omega) (by omega)
   cases t with
   | false =>
    by_cases hex : s.nx < order.l.length
    ·obtain ⟨x, hx, hxm⟩ := get_of hex
     have hwn : IntKind.i64.wrap ((s.nx : Int) + 1) = (s.nx + 1 : Nat) := wrap_i64 (by omega) (by omega)
     obtain ⟨hp2, P2⟩ := pl_pub P hso hx (by omega) (by omega)
     have hpub := publish_ok f (some [x]) (P.okF hso (by omega)) (fun y hy => by simp at hy; rw [hy]; exact ho _ hxm) (by simp)
     rw [Sv.l_some, hp2] at hpub
     obtain ⟨f', hf'⟩ : ∃ f', f' = (publish f [x]).1 := ⟨_, rfl⟩
     rw [← hf'] at hpub P2
     have hst8 : (pstep cap order.l s false).nx = s.nx + 1 ∧ (pstep cap order.l s false).out = s.out ∧ (pstep cap order.l s false).en = s.en := by
      unfold pstep; rw [hx]; simp only; split <;> (try split) <;> exact ⟨rfl, rfl, rfl⟩
     obtain ⟨L, rfl⟩ : ∃ L, order = some L := by
      cases order with
      | none => simp at hex
      | some L => exact ⟨L, rfl⟩
     rw [Sv.l_some] at hex hx hst8
     have hsl : sliceM (.sl 32) (encIds (some L)) (some (.int .i64 s.nx)) (some (.int .i64 ((s.nx : Int) + 1))) none = some (encIds (some [x])) := by
      unfold encIds
      rw [slice_mid (by omega) (by omega) (by omega)]
      have e1 : ((s.nx : Int)).toNat = s.nx := by omega
      have e2 : ((s.nx : Int) + 1).toNat = s.nx + 1 := by omega
      have e3 : (L.drop s.nx).take 1 = [x] := by rw [List.drop_eq_getElem_cons hex, (List.getElem?_eq_some_iff.1 hx).2]; rfl
      rw [e1, e2, show s.nx + 1 - s.nx = 1 by omega, e3]
     have hcl : closedL [CV.ag (cellsF f), encIds (some [x])] = true := by simp [closedL, CV.closed, closed_cellsF, closed_ids]
     rw [encF_cells, encF_cells] at hpub
     have hown3 : OwnS 32 (CB.cells 3 (cellsF f') :: CB.cells 3 D :: CB.cells 3 [CV.int IntKind.i64 from_, v, CV.bool s.en] :: (rest ++ [CB.cells 3 (cellsF f')])) v j (s.out.map encId) := (hown.more [CB.cells 3 (cellsF f')]).frame2 (by
      rcases hj with h | h
      ·exact .inl h
      ·right
       obtain ⟨jj, rfl⟩ : ∃ jj, j = jj + 3 := ⟨j - 3, by omega⟩
       rfl)
     simp [hlm, hkm, hia, hlo, hex, hwn, hsl, cellsF_len, List.take_of_length_le, tkF]
     refine pure_call hpub hcl ?_
     have hsp2 : splice [CV.int IntKind.i64 0, .int .i64 0, .nilS] 0 (cellsF f') = cellsF f' := rfl
     simp [cellsF_len, spF, tkF, hsp2, hkm, hwk, hwn]
     exact ⟨pstep cap L s false, f', v, j, _, hsucc.symm, P2, by rw [hst8.1]; rfl, by rw [hst8.2.1]; exact hown3, hj, by rw [hst8.2.1]; exact hnil, by rw [hst8.2.2]⟩
    ·have hx : order.l[s.nx]? = none := List.getElem?_eq_none (by omega)
     have hst : pstep cap order.l s false = s := by unfold pstep; rw [hx]
     rw [hst] at hsucc
     simp [hlm, hkm, hia, hlo, hex, hwk]
     exact ⟨s, f, v, j, rest, hsucc.symm, P, rfl, hown, hj, hnil, rfl⟩
   | true =>
    have htk := take_ok f 0 (P.okF hso (by omega))
    have hcl : closedL [CV.ag (cellsF f), .int .i64 0] = true := by simp [closedL, CV.closed, closed_cellsF]
    rw [encF_cells] at htk
    have hpt := pl_take P hso (by have := hso.nx; omega) (by omega)
    have hnum := pl_number P
    have hown2 : ∀ (c1 : List CV) (x : Hl), OwnS 32 (CB.cells 3 c1 :: CB.cells 3 D :: CB.cells 3 [CV.int IntKind.i64 from_, v, CV.bool s.en] :: (rest ++ x)) v j (s.out.map encId) := fun c1 x => (hown.more x).frame2 (by
     rcases hj with h | h
     ·exact .inl h
     ·right
      obtain ⟨jj, rfl⟩ : ∃ jj, j = jj + 3 := ⟨j - 3, by omega⟩
      rfl)
    obtain ⟨T, hT⟩ : ∃ T, T = take f 0 := ⟨_, rfl⟩
    rw [← hT] at htk hpt hnum
    unfold Taken.enc at htk
    rw [encF_cells] at htk
    have hidl : T.id.length = 32 := by rw [hT]; exact take_id_len f 0 (P.okF hso (by omega)).1
    have hsp0 : ∀ c : List CV, c.length = 32 → splice [CV.int IntKind.u8 0, .int .u8 0, .int .u8 0, .int .u8 0, .int .u8 0, .int .u8 0, .int .u8 0, .int .u8 0, .int .u8 0, .int .u8 0, .int .u8 0, .int .u8 0, .int .u8 0, .int .u8 0, .int .u8 0, .int .u8 0, .int .u8 0, .int .u8 0, .int .u8 0, .int .u8 0, .int .u8 0, .int .u8 0, .int .u8 0, .int .u8 0, .int .u8 0, .int .u8 0, .int .u8 0, .int .u8 0, .int .u8 0, .int .u8 0, .int .u8 0, .int .u8 0] 0 c = c := fun c hc => splice_full (by rw [hc]; rfl)
    have hsp1 : splice [CV.int IntKind.i64 0, .int .i64 0, .nilS] 0 (cellsF T.f) = cellsF T.f := rfl
    have hvlen : lenM (.sl 32) v = some (.int .i64 s.out.length) := by have := hown.len; simpa using this
    have hol2 : s.out.length ≤ 60 := by have := hso.le; have := hso.nx; omega
    have hwo : IntKind.i64.wrap (from_ + (s.out.length : Int)) = from_ + s.out.length := by rw [IntKind.wrap_i64]; omega
    rcases hpt with ⟨te, tk, ⟨r, hw⟩, P2⟩ | ⟨te, tk, hw, hlg, P2⟩ | ⟨te, hw, hlg, hsame⟩
    ·have hn := hnum te
     rw [te, tk, hn] at htk
     simp [hlm, hkm, hia, cellsF_len, List.take_of_length_le]
     refine pure_call htk hcl ?_
     obtain ⟨v', j', r', a1, a2, a3, a4⟩ := app_pre (by_ := 32) (pre := [CB.cells 3 (cellsF T.f), CB.cells 3 D, CB.cells 3 [CV.int IntKind.i64 from_, v, CV.bool s.en]]) (rest := rest ++ [CB.cells 3 (cellsF T.f), CB.cells 32 (encId T.id), CB.cells 32 (encId T.id)]) (hown2 _ _) hj (x := .sl 32 (rest.length + 2 + 1 + 1 + 1) 0 1 1 32) (xs := [encId T.id]) (by simp [contentsL, id_len hidl, List.take_of_length_le]) (by simp [id_len hidl]) (by omega) (by omega) (by rw [hr0]; simp; omega)
     have hst : pstep cap order.l s true = { s with w := r, out := s.out ++ [T.id] } := by unfold pstep; rw [hw]
     have hs3 : (pstep cap order.l s true).out = s.out ++ [T.id] := by rw [hst]
     have hvc := a2.cells
     simp only [List.cons_append, List.nil_append] at a1
     simp [cellsF_len, spF, tkF, hsp1, hsp0 _ (id_len hidl), id_len hidl, List.take_of_length_le, hvlen, hwo, a1]
     refine AppK.keep ?_
     simp [hvc, hkm, hwk]
     have hown3 : OwnS 32 (CB.cells 3 (cellsF T.f) :: CB.cells 3 D :: CB.cells 3 [CV.int IntKind.i64 from_, v', CV.bool s.en] :: r') v' j' ((s.out ++ [T.id]).map encId) := by
      rw [List.map_append]
      refine a2.frame2 ?_
      rcases a3 with h | h
      ·exact .inl h
      ·right
       obtain ⟨jj, rfl⟩ : ∃ jj, j' = jj + 3 := ⟨j' - 3, by simp at h; omega⟩
       rfl
     exact ⟨pstep cap order.l s true, T.f, v', j', r', hsucc.symm, P2, by rw [hst], by rw [hs3]; exact hown3, a3, by rw [a4, hs3]; cases isNilS v <;> cases s.out <;> rfl, by rw [hst]⟩
    ·have hn := hnum te
     rw [te, tk, hn] at htk
     simp [hlm, hkm, hia, cellsF_len, List.take_of_length_le]
     refine pure_call htk hcl ?_
     simp [cellsF_len, spF, tkF, hsp1, hsp0 _ (id_len hidl), id_len hidl, List.take_of_length_le, hvlen, hwo, hkm, hwk]
     have hst : pstep cap order.l s true = { s with lag := false, en := true } := by unfold pstep; rw [hw]; simp [hlg]
     have hown3 : OwnS 32 (CB.cells 3 (cellsF T.f) :: CB.cells 3 D :: CB.cells 3 [CV.int IntKind.i64 from_, v, CV.bool true] :: (rest ++ [CB.cells 3 (cellsF T.f), CB.cells 32 (encId T.id)])) v j (s.out.map encId) := by
      refine (hown2 (cellsF T.f) [CB.cells 3 (cellsF T.f), CB.cells 32 (encId T.id)]).frame2 ?_
      rcases hj with h | h
      ·exact .inl h
      ·right
       obtain ⟨jj, rfl⟩ : ∃ jj, j = jj + 3 := ⟨j - 3, by omega⟩
       rfl
     exact ⟨pstep cap order.l s true, T.f, v, j, _, hsucc.symm, P2, by rw [hst], by rw [hst]; exact hown3, hj, by rw [hst]; exact hnil, by rw [hst]⟩
    ·simp [hlm, hkm, hia, cellsF_len, List.take_of_length_le]
     refine pure_call htk hcl ?_
     rw [hsame] at hsucc
     have hown3 := hown2 (cellsF f) [CB.cells 3 (cellsF T.f), CB.cells 32 (encId T.id)]
     have hend : InvT cap from_ order.l moves.l D (k + 1) (.int .i64 s.nx) (CB.cells 3 (cellsF f) :: CB.cells 3 D :: CB.cells 3 [CV.int IntKind.i64 from_, v, CV.bool s.en] :: (rest ++ [CB.cells 3 (cellsF T.f), CB.cells 32 (encId T.id)])) :=
      ⟨s, f, v, j, _, hsucc.symm, P, rfl, hown3, hj, hnil, rfl⟩
     rcases te with te | te
     ·rw [te]
      simp [cellsF_len, spF, tkF, hsp1, hsp0 _ (id_len hidl), id_len hidl, List.take_of_length_le, hkm, hwk]
      exact hend
     ·rw [te]
      simp [cellsF_len, spF, tkF, hsp1, hsp0 _ (id_len hidl), id_len hidl, List.take_of_length_le, hkm, hwk]
      exact hend
  ·have hke : k = moves.l.length := by omega
   subst hke
   rw [← hO] at hs
   subst hs
   have hps := psOk_at (cap := cap) (order := order.l) (by omega) ho moves.l moves.l.length
   rw [← hO] at hps
   have hk := sameD_ok from_ (sOf s.out) s.en from_ (sOf s.out) s.en (by unfold okIds; rw [sOf_l]; exact hps.o) (by unfold okIds; rw [sOf_l]; exact hps.o) (by rw [sOf_l]; have := hps.le; have := hps.nx; omega)
   have hst : sameD from_ (sOf s.out) s.en from_ (sOf s.out) s.en = true := by simp [sameD]
   rw [hst] at hk
   simp [hlm, hDl, List.take_of_length_le]
   have hrd := hown.rdH_enc (fun x => closedL_ints .u8 x) (sOf s.out) (by rw [hnil, sOf_nil]) (sOf_l _)
   rw [hDg]
   refine pure_callB hk (.cons (.ag [.int .i64 from_, v, .bool s.en] [.int .i64 from_, encIds (sOf s.out), .bool s.en] rfl fun j c c' hc hc' => ?_) (.cons (.same _ (by simp [encD, CV.closed, closedL, closed_ids])) .nil)) rfl ?_
   ·rcases j with _ | _ | _ | j
    ·simp at hc hc'; subst hc hc'; exact .same _ rfl
    ·simp at hc hc'; subst hc hc'; exact hrd
    ·simp at hc hc'; subst hc hc'; exact .same _ rfl
    ·simp at hc
   ·simp
 ·simp
  exact ⟨pstart, F0, .nilS, 0, [], rfl, hs2, rfl, .nil 0, .inl rfl, rfl, rfl⟩
end Fd
end Go.CM
