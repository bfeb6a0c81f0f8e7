/-
  Sketches: with, walked.
-/
import Derived.Test.YtacddnkgkogabaaDoorKj
namespace Go.CM
open Go Go.Proofs Go.Sort Go.Shelf
set_option linter.unusedVariables false
set_option linter.unusedSimpArgs false
set_option maxRecDepth 100000
namespace Sk
open Sha

def ins (l : List (List B)) (id : List B) : List (List B) := l.takeWhile (fun x => ltB x id) ++ id :: l.dropWhile (fun x => ltB x id)
theorem takeWhile_take {l : List (List B)} {p : List B → Bool} {k : Nat} (h : ∀ (j : Nat) (x : List B), j < k → l[j]? = some x → p x = true) (hk : k ≤ l.length) (hn : ∀ x, l[k]? = some x → p x = false) : l.takeWhile p = l.take k ∧ l.dropWhile p = l.drop k := by
  induction l generalizing k with
  | nil => simp at hk; subst hk; simp
  | cons a l ih =>
    cases k with
    | zero =>
      have := hn a rfl
      simp [this]
    | succ k =>
      have h0 := h 0 a (by omega) rfl
      obtain ⟨h1, h2⟩ := ih (k := k) (fun j x hj hx => h (j + 1) x (by omega) (by simpa using hx)) (by simpa using hk) (fun x hx => hn x (by simpa using hx))
      simp [h0, h1, h2]
theorem slice_parts (s : Ids) (k : Nat) (hk : k ≤ s.l.length) : ∃ X Y, sliceM (.sl 32) (encIds s) none (some (.int .i64 (k : Int))) none = some X ∧ sliceM (.sl 32) (encIds s) (some (.int .i64 (k : Int))) none none = some Y ∧
    (∀ l, contentsL l 32 X = some (((s.l.take k).map eId).flatten, (s.l.take k).length)) ∧ (∀ l, contentsL l 32 Y = some (((s.l.drop k).map eId).flatten, (s.l.drop k).length)) := by
  cases s with
  | none =>
    simp at hk; subst hk
    refine ⟨.nilS, .nilS, rfl, ?_, fun l => rfl, fun l => rfl⟩
    rw [show encIds none = .nilS from rfl, sliceM_nil]; rfl
  | some l =>
    refine ⟨encIds (some (l.take k)), encIds (some (l.drop k)), ?_, ?_, fun h => ?_, fun h => ?_⟩
    · have := slice_to (z := 32) (enc := eId) (l := l) (k := .i64) (i := (k : Int)) (by omega) (by simpa using hk)
      simpa [encIds] using this
    · have := slice_from (z := 32) (enc := eId) (l := l) (k := .i64) (i := (k : Int)) (by omega) (by simpa using hk)
      simpa [encIds] using this
    · unfold encIds; rw [contents_encS]; simp
    · unfold encIds; rw [contents_encS]; simp
set_option maxHeartbeats 4000000 in
theorem with_ok (s : Ids) (id : List B) (ho : okIds s) (hl : s.l.length ≤ 1000000) (hid : id.length = 32) : PureC Tryd.prog GS 62 [encIds s, idC id] (encIds (some (ins s.l id))) := by
  refine pure_of Tryd.checked.mixed GS_closed ?_
  apply call_intro c62_eq r62_eq
  unfold c62 r62
  have hlen : lenM (.sl 32) (encIds s) = some (.int .i64 s.l.length) := len_encS _
  obtain ⟨I, hI⟩ : ∃ I, I = id.map e8 := ⟨_, rfl⟩
  have hIl : I.length = 32 := by rw [hI, List.length_map, hid]
  have hIc : closedL I = true := by rw [hI]; exact closedL_map e8 (fun _ => rfl) _
  unfold idC
  rw [← hI]
  have hsp : splice (rep 32 (CV.int .u8 0)) 0 I = I := splice_full (by simp [hIl])
  simp [hIl]
  refine loop_up s.l.length (fun k σ l => σ 0 = encIds s ∧ σ 3 = .ptr 0 0 32 ∧ σ 5 = .int .i64 k ∧ l = [.cells 32 I] ∧ ∀ (j : Nat) (x : List B), j < k → s.l[j]? = some x → ltB x id = true) ?_ (by simp)
  rintro k σ l hk ⟨g0, g3, g5, rfl, hs⟩
  obtain ⟨σ, rfl⟩ := upds3 g0 g3 g5
  clear g0 g3 g5
  unfold l62_0
  by_cases h : k < s.l.length
  · obtain ⟨x, hx, hxm⟩ := get_of h
    have hwk : IntKind.i64.wrap ((k : Int) + 1) = (k + 1 : Nat) := wrap_i64 (by omega) (by omega)
    have hxl := ho x hxm
    have hia : iaC (.sl 32) (encIds s) (.int .i64 k) = some (.rptr (eId x) 0) := by unfold encIds; rw [ia_encS]; simp [hx]
    have hle := less_ok x id hxl hid
    unfold idC at hle
    rw [← hI] at hle
    have hXc : closedL (x.map e8) = true := closedL_map e8 (fun _ => rfl) _
    simp [hlen, h, hia, eId, hxl, hIl, List.take_of_length_le]
    refine pure_call hle (by simp [closedL, CV.closed, hIc, hXc]) ?_
    cases hlt : ltB x id with
    | true =>
      simp [h, hwk]
      intro j y hj hy
      by_cases hjk : j = k
      · subst hjk; rw [hx] at hy; cases hy; exact hlt
      · exact hs j y (by omega) hy
    | false =>
      simp
      have hfin : ∀ y, s.l[k]? = some y → ltB y id = false := fun y hy => by rw [hx] at hy; cases hy; exact hlt
      obtain ⟨e1, e2⟩ := takeWhile_take hs hk hfin
      have hins : ins s.l id = s.l.take k ++ id :: s.l.drop k := by unfold ins; rw [e1, e2]
      obtain ⟨X, Y, hX, hY, cX, cY⟩ := slice_parts s k hk
      simp [hX, hY, hIl, hsp, List.take_of_length_le]
      have hr0 : roomMax = 140737488355328 := rfl
      obtain ⟨L, hL⟩ : ∃ L, L = [CB.cells 32 I, CB.cells 0 [], CB.cells 32 I] := ⟨_, rfl⟩
      have o0 : OwnS 32 L (.sl 32 1 0 0 0 0) 1 [] := .sl 1 0 0 0 [] [] (by rw [hL]; rfl) rfl rfl (by simp) (Nat.le_refl _) (by omega) rfl
      have hrow : ∀ l : List (List B), (∀ i ∈ l, i.length = 32) → ∀ e ∈ l.map eId, e.length = 32 := fun l hl e he => by obtain ⟨x, hx, rfl⟩ := List.mem_map.1 he; simp [eId, hl x hx]
      obtain ⟨v1, j1, l1, a1, a2, a3, a4, a5, a6⟩ := app_law (by_ := 32) o0 (x := X) (xs := (s.l.take k).map eId) (by rw [cX L]; simp) (hrow _ fun i hi => ho i (List.mem_of_mem_take hi)) (by omega) (by omega) (by simp; omega)
      rw [← hL]
      have hLl : L.length = 3 := by rw [hL]; rfl
      have f0 : l1[0]? = some (CB.cells 32 I) := by rw [a4 0 (by omega) (by omega), hL]; rfl
      have f2 : l1[2]? = some (CB.cells 32 I) := by rw [a4 2 (by omega) (by omega), hL]; rfl
      have g2 : L[2]? = some (CB.cells 32 I) := by rw [hL]; rfl
      simp [a1]
      refine AppK.keep ?_
      simp [hLl, f0, f2, g2, hIl, List.take_of_length_le]
      have hj1 : j1 ≠ 2 := by omega
      obtain ⟨v2, j2, l2, b1, b2, b3, b4, b5, b6⟩ := app_law (by_ := 32) a2 (x := .sl 32 2 0 1 1 32) (xs := [I]) (by simp [contentsL, f2, hIl, List.take_of_length_le]) (by simp [hIl]) (by omega) (by omega) (by simp; omega)
      simp [b1]
      refine ⟨(List.getElem?_eq_some_iff.1 g2).2.symm, AppK.keep ?_⟩
      simp
      obtain ⟨v3, j3, l3, c1, c2, c3, c4, c5, c6⟩ := app_law (by_ := 32) b2 (x := Y) (xs := (s.l.drop k).map eId) (by rw [cY l2]; simp) (hrow _ fun i hi => ho i (List.mem_of_mem_drop hi)) (by omega) (by omega) (by simp; omega)
      simp [c1]
      refine AppK.keep ?_
      simp
      have hall : List.map eId (ins s.l id) = [] ++ List.map eId (List.take k s.l) ++ [I] ++ List.map eId (List.drop k s.l) := by rw [hins, hI]; simp [eId]
      rw [← hall] at c2
      refine c2.q.rd_enc closed_eId (some (ins s.l id)) ?_ rfl
      have h3 := isNil_app c6
      rw [isNil_app b6] at h3
      rw [h3]; simp
  · simp [hlen, h]
    have hfin : ∀ y, s.l[k]? = some y → ltB y id = false := fun y hy => by rw [List.getElem?_eq_none (by omega)] at hy; cases hy
    obtain ⟨e1, e2⟩ := takeWhile_take hs hk hfin
    have hins : ins s.l id = s.l.take k ++ id :: s.l.drop k := by unfold ins; rw [e1, e2]
    obtain ⟨X, Y, hX, hY, cX, cY⟩ := slice_parts s k hk
    simp [hX, hY, hIl, hsp, List.take_of_length_le]
    have hr0 : roomMax = 140737488355328 := rfl
    obtain ⟨L, hL⟩ : ∃ L, L = [CB.cells 32 I, CB.cells 0 [], CB.cells 32 I] := ⟨_, rfl⟩
    have o0 : OwnS 32 L (.sl 32 1 0 0 0 0) 1 [] := .sl 1 0 0 0 [] [] (by rw [hL]; rfl) rfl rfl (by simp) (Nat.le_refl _) (by omega) rfl
    have hrow : ∀ l : List (List B), (∀ i ∈ l, i.length = 32) → ∀ e ∈ l.map eId, e.length = 32 := fun l hl e he => by obtain ⟨x, hx, rfl⟩ := List.mem_map.1 he; simp [eId, hl x hx]
    obtain ⟨v1, j1, l1, a1, a2, a3, a4, a5, a6⟩ := app_law (by_ := 32) o0 (x := X) (xs := (s.l.take k).map eId) (by rw [cX L]; simp) (hrow _ fun i hi => ho i (List.mem_of_mem_take hi)) (by omega) (by omega) (by simp; omega)
    rw [← hL]
    have hLl : L.length = 3 := by rw [hL]; rfl
    have f0 : l1[0]? = some (CB.cells 32 I) := by rw [a4 0 (by omega) (by omega), hL]; rfl
    have f2 : l1[2]? = some (CB.cells 32 I) := by rw [a4 2 (by omega) (by omega), hL]; rfl
    have g2 : L[2]? = some (CB.cells 32 I) := by rw [hL]; rfl
    simp [a1]
    refine AppK.keep ?_
    simp [hLl, f0, f2, g2, hIl, List.take_of_length_le]
    have hj1 : j1 ≠ 2 := by omega
    obtain ⟨v2, j2, l2, b1, b2, b3, b4, b5, b6⟩ := app_law (by_ := 32) a2 (x := .sl 32 2 0 1 1 32) (xs := [I]) (by simp [contentsL, f2, hIl, List.take_of_length_le]) (by simp [hIl]) (by omega) (by omega) (by simp; omega)
    simp [b1]
    refine ⟨(List.getElem?_eq_some_iff.1 g2).2.symm, AppK.keep ?_⟩
    simp
    obtain ⟨v3, j3, l3, c1, c2, c3, c4, c5, c6⟩ := app_law (by_ := 32) b2 (x := Y) (xs := (s.l.drop k).map eId) (by rw [cY l2]; simp) (hrow _ fun i hi => ho i (List.mem_of_mem_drop hi)) (by omega) (by omega) (by simp; omega)
    simp [c1]
    refine AppK.keep ?_
    simp
    have hall : List.map eId (ins s.l id) = [] ++ List.map eId (List.take k s.l) ++ [I] ++ List.map eId (List.drop k s.l) := by rw [hins, hI]; simp [eId]
    rw [← hall] at c2
    refine c2.q.rd_enc closed_eId (some (ins s.l id)) ?_ rfl
    have h3 := isNil_app c6
    rw [isNil_app b6] at h3
    rw [h3]; simp
end Sk
end Go.CM

/-
  Sketches: peeling, as data; the program's Peel, walked.
-/
namespace Go.CM
open Go Go.Proofs Go.Sort Go.Shelf
set_option linter.unusedVariables false
set_option linter.unusedSimpArgs false
set_option maxRecDepth 100000
namespace Sk
open Sha

/-- What peeling gives: an error, or the left ones, the right ones (in the order in which they are taken), and the rest. -/
abbrev PR := Int ⊕ (List (List B) × List (List B) × List Cell)
def peelR : Nat → List Cell → List (List B) → List (List B) → List (List B) → PR
  | 0, _, _, _, _ => .inl 0
  | f + 1, now, l, r, done => match nextN now done with
    | none => .inr (l, r, now)
    | some i => match now[i]? with
      | none => .inl 0
      | some c => match Nat.beq done.length 60 with
        | true => .inl 4
        | false => match changed now c.sum (-c.count) with
          | none => .inl 16
          | some t => match decide (0 < c.count) with
            | true => peelR f t (l ++ [c.sum]) r (done ++ [c.sum])
            | false => peelR f t l (r ++ [c.sum]) (done ++ [c.sum])
def sortB (l : List (List B)) : List (List B) := l.mergeSort fun x y => !ltB y x
def svB (l : List (List B)) : Ids := match l with | [] => none | a :: r => some (sortB (a :: r))
def peelE (s : Sketch) : PR := if chk s = 0 then peelR 62 s.l [] [] [] else .inl (chk s)
def peelC : PR → CV
  | .inl e => .tu [.nilS, .nilS, .nilS, .int .i64 e]
  | .inr (l, r, now) => .tu [encIds (svB l), encIds (svB r), encSk (some now), .int .i64 0]
theorem clone_ok (s : Sketch) (ho : okSk s) (hl : s.l.length ≤ 1000000000) : PureC Tryd.prog GS 56 [encSk s] (encSk s) := by
  refine pure_of Tryd.checked.mixed GS_closed ?_
  exact cloneS_own ho hl fun v j l' hown _ _ _ hnil => hown.q.rd_enc closed_cell s hnil rfl
theorem nextN_some {now : List Cell} {done : List (List B)} {i : Nat} (h : nextN now done = some i) : i < now.length ∧ wants now done i = true ∧ ∀ j, j < i → wants now done j = false := by
  unfold nextN at h
  obtain ⟨h1, k, hk, h2, h3⟩ := List.find?_eq_some_iff_getElem.1 h
  simp at h2 hk
  subst h2
  exact ⟨hk, h1, fun j hj => by have := h3 j hj; simpa using this⟩
theorem wants_iff {now : List Cell} {done : List (List B)} {i : Nat} {c : Cell} (hc : now[i]? = some c) : wants now done i = (pureB now.length c i && !decide (c.sum ∈ done)) := by unfold wants; rw [hc]
theorem pure_count {n : Nat} {c : Cell} {i : Nat} (h : pureB n c i = true) : c.count = 1 ∨ c.count = -1 := by
  unfold pureB at h; simp at h; exact h.1.1
theorem changed_len {l : List Cell} {id : List B} {by_ : Int} {t : List Cell} (h : changed l id by_ = some t) : t.length = l.length := by
  have go : ∀ (ps : List Nat) (w : Q) (l : List Cell) t, putAt id by_ w ps l = some t → t.length = l.length := by
    intro ps w
    induction ps with
    | nil => intro l t ht; cases ht; rfl
    | cons p ps ih =>
      intro l t ht
      unfold putAt at ht
      split at ht
      · cases ht
      · split at ht
        · have := ih _ t ht; simpa using this
        · cases ht
  exact go _ _ _ _ h
theorem changed_ok2 {l : List Cell} {id : List B} {by_ : Int} {t : List Cell} (hid : id.length = 32) (h : changed l id by_ = some t) (ho : ∀ c ∈ l, inR c = true ∧ c.sum.length = 32) : ∀ c ∈ t, inR c = true ∧ c.sum.length = 32 := by
  have go : ∀ (ps : List Nat) (w : Q) (l : List Cell), (∀ c ∈ l, inR c = true ∧ c.sum.length = 32) → ∀ t, putAt id by_ w ps l = some t → ∀ c ∈ t, inR c = true ∧ c.sum.length = 32 := by
    intro ps w
    induction ps with
    | nil => intro l hl t ht; cases ht; exact hl
    | cons p ps ih =>
      intro l hl t ht
      unfold putAt at ht
      split at ht
      · cases ht
      · rename_i c hc
        split at ht
        · rename_i hin
          refine ih _ (fun x hx => ?_) t ht
          rcases List.mem_or_eq_of_mem_set hx with h | h
          · exact hl x h
          · subst h; exact ⟨hin, xorL_len (hl c (List.mem_of_getElem? hc)).2 hid⟩
        · cases ht
  exact go _ _ _ ho _ h
/-- What a sketch is while it is peeled. -/
structure Now (N : Nat) (now : List Cell) : Prop where
  len : now.length = N
  sz : sizedB N = true
  c : ∀ c ∈ now, inR c = true ∧ c.sum.length = 32
theorem Now.chk {N : Nat} {now : List Cell} (h : Now N now) : chk (some now) = 0 := by
  unfold Sk.chk
  rw [if_pos ⟨by rw [Sv.l_some, h.len]; exact h.sz, List.all_eq_true.2 fun c hc => (h.c c hc).1⟩]
theorem Now.step {N : Nat} {now t : List Cell} {id : List B} {by_ : Int} (h : Now N now) (hid : id.length = 32) (ht : changed now id by_ = some t) : Now N t := ⟨by rw [changed_len ht, h.len], h.sz, changed_ok2 hid ht h.c⟩
theorem Now.of {s : Sketch} (h : Sk.chk s = 0) (ho : okSk s) : Now s.l.length s.l := by
  obtain ⟨h1, h2⟩ := chk_0 h
  exact ⟨rfl, h1, fun c hc => ⟨h2 c hc, ho c hc⟩⟩
/-- What is known between two rounds. -/
structure PI (N : Nat) (R : PR) (now : List Cell) (l r done : List (List B)) : Prop where
  nw : Now N now
  hd : done.length = l.length + r.length
  h60 : done.length ≤ 60
  ids : ∀ i ∈ done, i.length = 32
  li : ∀ i ∈ l, i.length = 32
  ri : ∀ i ∈ r, i.length = 32
  res : peelR (62 - done.length) now l r done = R
theorem neg_wrap {n : Int} (h : n = 1 ∨ n = -1) : IntKind.i64.wrap (-n) = -n := by rcases h with h | h <;> subst h <;> rfl
theorem idx_of : ∀ {xs : List (List B)}, (∀ i ∈ xs, i.length = 32) → ∃ ys : List Idx, ys.map (·.1) = xs
  | [], _ => ⟨[], rfl⟩
  | x :: xs, h => by
    obtain ⟨ys, hy⟩ := idx_of (xs := xs) fun i hi => h i (by simp [hi])
    exact ⟨⟨x, h x (by simp)⟩ :: ys, by simp [hy]⟩
theorem sorted_map (ys : List Idx) : (sorted cmpX ys).map (·.1) = sortB (ys.map (·.1)) := by
  unfold sorted sortB
  rw [List.map_mergeSort]
  intro a _ b _
  rfl
theorem sort_nil : PureN Tryd.prog GS 59 [.nilS, .fn 60 [] []] (.tu []) :=
  pureN_runs Tryd.checked.mixed GS_closed (noO_ok _ _) tbl_ok (fuel := 100) (k := 10) (by kernel_rfl)
theorem sort_call {l : Hl} {v : CV} {j : Nat} {xs : List (List B)} (hx : ∀ i ∈ xs, i.length = 32) (hl : xs.length ≤ 1000000) (hn : isNilS v = xs.isEmpty) (h : OwnS 32 l v j (xs.map eId)) {K : CV → Hl → Prop}
    (hK : ∀ l', l'.length = l.length → (∀ b, v = .nilS ∨ b ≠ j → l'[b]? = l[b]?) → OwnQ 32 l' v j ((sortB xs).map eId) → K (.tu []) l') : CallP Tryd.prog GS 59 [v, .fn 60 [] []] l (c := ⟨K⟩) := by
  by_cases hnil : xs = []
  · subst hnil
    have hvn : v = .nilS := isNil_iff.1 (by rw [hn]; rfl)
    subst hvn
    exact pure_call sort_nil.toC rfl (hK l rfl (fun _ _ => rfl) (by simpa [sortB] using OwnQ.nil j))
  · obtain ⟨ys, hy⟩ := idx_of hx
    have he : ys.map encX = xs.map eId := by rw [← hy, List.map_map]; rfl
    have hs : (sorted cmpX ys).map encX = (sortB xs).map eId := by rw [← hy, ← sorted_map, List.map_map]; rfl
    have hyl : ys.length = xs.length := by rw [← hy]; simp
    have hvn : v ≠ .nilS := fun hv => by subst hv; rw [show isNilS .nilS = true from rfl] at hn; exact hnil (by simpa using hn.symm)
    rw [← he] at h
    exact sortQ cmpX (sortL_ids (by intro args w; exact enters_of Tryd.func60 (by kernel_rfl) rfl args w)) swo_X anti_X encX_len encX_plain (fun x y => skcmp_ok x.1 y.1 x.2 y.2) h.q (by omega) (fun hn0 => absurd (by rw [← hy, hn0]; rfl) hnil)
      (fun l' h1 h2 h3 => hK l' h1 (fun b hb => h2 b (hb.resolve_left hvn)) (by rw [← hs]; exact h3))

/-- One of two slices of one's own grows; a set stands beside them. -/
theorem two_app {l : Hl} {va vb x : CV} {ja jb : Nat} {ea eb : List (List CV)} {I : List CV} {done : List (List B)} (ha : OwnS 32 l va ja ea) (hb : OwnS 32 l vb jb eb) (d : va = .nilS ∨ vb = .nilS ∨ ja ≠ jb) (om : OwnM l 0 done) (da : va = .nilS ∨ ja ≠ 0)
    (hx : contentsL l 32 x = some (([I] : List (List CV)).flatten, ([I] : List (List CV)).length)) (hI : I.length = 32) (hr : (ea.length + 1) * 32 ≤ roomMax) :
    ∃ v' j' l', appM l 32 32 va x = some (v', l') ∧ OwnS 32 l' v' j' (ea ++ [I]) ∧ OwnS 32 l' vb jb eb ∧ (v' = .nilS ∨ vb = .nilS ∨ j' ≠ jb) ∧ (v' = .nilS ∨ j' ≠ 0) ∧ isNilS v' = false ∧ OwnM l' 0 done ∧ l.length ≤ l'.length ∧ (∀ b, b < l.length → va = .nilS ∨ b ≠ ja → l'[b]? = l[b]?) := by
  obtain ⟨v', j', l', a1, a2, a3, a4, a5, a6⟩ := appS (by_ := 32) ha hx (by simp [hI]) (by omega) (by omega) (by simpa using hr)
  have hv' : isNilS v' = false := by rw [a6]; simp
  have hvn : v' ≠ .nilS := fun h => by rw [h] at hv'; cases hv'
  have h0 := om.lt
  refine ⟨v', j', l', a1, a2, ?_, ?_, ?_, hv', om.frame (a4 0 h0 (by rcases da with h | h; exact .inl h; exact .inr (fun h' => h h'.symm))), a3, a4⟩
  · rcases d with h | h | h
    · exact hb.frame fun hj => a4 jb hj (.inl h)
    · subst h
      have := hb.q.nil_of
      rw [this]; exact .nil jb
    · exact hb.frame fun hj => a4 jb hj (.inr fun h' => h h'.symm)
  · rcases hb.lt with h | h
    · exact .inr (.inl h)
    · rcases a5 with h' | h' | h'
      · exact .inr (.inr (by omega))
      · rcases d with h2 | h2 | h2
        · exact absurd h2 h'.1
        · exact .inr (.inl h2)
        · exact .inr (.inr (by rw [h'.2]; exact h2))
      · exact absurd h' hvn
  · rcases a5 with h' | h' | h'
    · exact .inr (by omega)
    · exact .inr (by rw [h'.2]; exact da.resolve_left h'.1)
    · exact absurd h' hvn

/-- What the machine holds between two rounds of the program's Peel. -/
structure PW (N : Nat) (R : PR) (k : Nat) (σ : Sg) (l : Hl) (now : List Cell) (lf rt done : List (List B)) (v2 : CV) (j2 : Nat) (v3 : CV) (j3 i : Nat) : Prop where
  g2 : σ 2 = v2
  g3 : σ 3 = v3
  g4 : σ 4 = encSk (some now)
  g7 : σ 7 = .mp 0
  g8 : σ 8 = .int .i64 i
  pi : PI N R now lf rt done
  om : OwnM l 0 done
  o2 : OwnS 32 l v2 j2 (lf.map eId)
  o3 : OwnS 32 l v3 j3 (rt.map eId)
  n2 : isNilS v2 = lf.isEmpty
  n3 : isNilS v3 = rt.isEmpty
  d2 : v2 = .nilS ∨ j2 ≠ 0
  d3 : v3 = .nilS ∨ j3 ≠ 0
  d23 : v2 = .nilS ∨ v3 = .nilS ∨ j2 ≠ j3
  hi : i ≤ N
  no : ∀ j, j < i → wants now done j = false
  hk : k ≤ done.length * 50 + i
theorem ldA_of {C : List CV} {c : Cell} (hc : c.sum.length = 32) (hC : C = encCell c) : C.length = 34 ∧ C[0]? = some (.int .i64 c.count) ∧ C.tail.take 32 = c.sum.map e8 ∧ C[33]? = some (e64 c.check) := by
  have := row_parts c hc C hC
  rw [List.drop_one] at this
  exact this
set_option maxHeartbeats 16000000 in
theorem peel_ok (s : Sketch) (ho : okSk s) (hl : s.l.length ≤ 1000000) : PureC Tryd.prog GS 31 [encSk s] (peelC (peelE s)) := by
  refine pure_of Tryd.checked.mixed GS_closed ?_
  apply call_intro c31_eq r31_eq
  unfold c31 r31
  have hcs := closed_sk s
  simp
  refine pure_call (check_ok s ho (by omega)) (by simp [closedL, hcs]) ?_
  rcases chk_8 s with h0 | h0
  · have hpe : peelE s = peelR 62 s.l [] [] [] := by unfold peelE; rw [if_pos h0]
    obtain ⟨R, hR⟩ : ∃ R, R = peelE s := ⟨_, rfl⟩
    rw [← hR] at hpe ⊢
    simp [h0]
    refine pure_call (clone_ok s ho (by omega)) (by simp [closedL, hcs]) ?_
    have hnow := Now.of h0 ho
    have hsn : s = some s.l := by
      cases s with
      | none => have := sized_nat hnow.sz; obtain ⟨N, hN, h3, _⟩ := this; simp at hN; omega
      | some l => rfl
    obtain ⟨N, hN, h3, h48, hmod⟩ := sized_nat hnow.sz
    simp
    refine loop_up 4000 (fun k σ l => ∃ now lf rt done v2 j2 v3 j3 i, PW s.l.length R k σ l now lf rt done v2 j2 v3 j3 i) ?_ ?_
    · rintro k σ l hk ⟨now, lf, rt, done, v2, j2, v3, j3, i, g2, g3, g4, g7, g8, pi, om, o2, o3, n2, n3, d2, d3, d23, hi, no, hkk⟩
      obtain ⟨σ, rfl⟩ := upds5 g2 g3 g4 g7 g8
      clear g2 g3 g4 g7 g8
      unfold l31_0
      have hlen : lenM (.sl 34) (encSk (some now)) = some (.int .i64 now.length) := len_encS _
      have hnl := pi.nw.len
      have h60 := pi.h60
      by_cases hin : i < now.length
      · have hwi : IntKind.i64.wrap ((i : Int) + 1) = (i + 1 : Nat) := wrap_i64 (by omega) (by omega)
        obtain ⟨c, hc, hcm⟩ := get_of hin
        obtain ⟨hcr, hcl⟩ := pi.nw.c c hcm
        have hia : iaC (.sl 34) (encSk (some now)) (.int .i64 i) = some (.rptr (encCell c) 0) := by unfold encSk; rw [ia_encS]; simp [hc]
        obtain ⟨C, hC⟩ : ∃ C, C = encCell c := ⟨_, rfl⟩
        obtain ⟨p1, p2, p3, p4⟩ := ldA_of hcl hC
        rw [← hC] at hia
        have hs34 : splice (CV.int IntKind.i64 0 :: (rep 32 (CV.int IntKind.u8 0) ++ [CV.int IntKind.u64 0])) 0 C = C := splice_full (by rw [p1]; rfl)
        obtain ⟨_, q2⟩ := List.getElem?_eq_some_iff.1 p2
        obtain ⟨L, hL⟩ : ∃ L, L = l ++ [CB.cells 34 C] := ⟨_, rfl⟩
        obtain ⟨m, hm⟩ : ∃ m, m = l.length := ⟨_, rfl⟩
        have hmL : L[m]? = some (CB.cells 34 C) := by rw [hL, hm]; simp
        have hLl : L.length = m + 1 := by rw [hL, hm]; simp
        have hom : OwnM L 0 done := om.frame (by rw [hL, List.getElem?_append_left om.lt])
        have ho2 : OwnS 32 L v2 j2 (lf.map eId) := by rw [hL]; exact o2.more _
        have ho3 : OwnS 32 L v3 j3 (rt.map eId) := by rw [hL]; exact o3.more _
        obtain ⟨I, hI⟩ : ∃ I, I = c.sum.map e8 := ⟨_, rfl⟩
        have hIl : I.length = 32 := by rw [hI, List.length_map, hcl]
        have hIc : closedL I = true := by rw [hI]; exact closedL_map e8 (fun _ => rfl) _
        rw [← hI] at p3
        have hlk := hom.look hcl
        unfold idC at hlk
        rw [← hI] at hlk
        simp [hlen, hin, hia, p1, hs34, List.take_of_length_le, ← hL, ← hm, hmL, p3, hlk]
        have hskip : wants now done i = false → k < 4000 ∧ ∃ now' lf' rt' done' v2' j2' v3' j3' i', PI s.l.length R now' lf' rt' done' ∧ now' = now ∧ lf' = lf ∧ rt' = rt ∧ done' = done ∧ v2' = v2 ∧ j2' = j2 ∧ v3' = v3 ∧ j3' = j3 ∧ i' = i + 1 := fun _ => ⟨by omega, _, _, _, _, _, _, _, _, _, pi, rfl, rfl, rfl, rfl, rfl, rfl, rfl, rfl, rfl⟩
        have hno1 : wants now done i = false → ∀ j, j < i + 1 → wants now done j = false := fun h j hj => by
          by_cases hji : j = i
          · subst hji; exact h
          · exact no j (by omega)
        have hw := wants_iff (done := done) hc
        by_cases hmem : c.sum ∈ done
        · have hw0 : wants now done i = false := by rw [hw]; simp [hmem]
          simp [hmem, hwi]
          exact ⟨by omega, now, lf, rt, done, v2, j2, v3, j3, i + 1, by simp, by simp, by simp, by simp, by simp, pi, hom, ho2, ho3, n2, n3, d2, d3, d23, by omega, hno1 hw0, by omega⟩
        · simp [hmem]
          have hpu := sketchPure_ok (some now) i (fun c hc => (pi.nw.c c hc).2) (by rw [Sv.l_some]; omega)
          rw [pureS_some pi.nw.chk hc] at hpu
          refine pure_call hpu (by simp [closedL, CV.closed, closed_sk]) ?_
          cases hpb : pureB now.length c i with
          | false =>
            have hw0 : wants now done i = false := by rw [hw, hpb]; rfl
            simp [hpb, hwi]
            exact ⟨by omega, now, lf, rt, done, v2, j2, v3, j3, i + 1, by simp, by simp, by simp, by simp, by simp, pi, hom, ho2, ho3, n2, n3, d2, d3, d23, by omega, hno1 hw0, by omega⟩
          | true =>
            have hw1 : wants now done i = true := by rw [hw, hpb]; simp [hmem]
            have hnx : nextN now done = some i := find_range hin hw1 no
            have hres := pi.res
            have hcnt := pure_count hpb
            have hlm := hom.len
            obtain ⟨f, hf⟩ : ∃ f, 62 - done.length = f + 1 := ⟨61 - done.length, by omega⟩
            rw [hf] at hres
            unfold peelR at hres
            rw [hnx] at hres
            simp only [hc] at hres
            by_cases h6 : done.length = 60
            · have h6' : ((done.length : Int) = 60) := by omega
              rw [nbeq_true h6] at hres
              simp only at hres
              rw [← hres]
              simp [hpb, hlm, h6', peelC]
              exact .same _ rfl
            · have h6' : ¬ ((done.length : Int) = 60) := by omega
              rw [nbeq_false h6] at hres
              simp only at hres
              have hput : PureC Tryd.prog GS 46 _ _ := put_ok (some now) c.sum (-c.count) (fun c hc => (pi.nw.c c hc).2) (by rw [Sv.l_some]; omega) hcl (by rcases hcnt with h | h <;> omega)
              have hput2 : put (some now) c.sum (-c.count) = match changed now c.sum (-c.count) with | some t => (some t, 0) | none => (none, 16) := by unfold put; rw [if_pos pi.nw.chk]; try rfl
              rw [hput2] at hput
              unfold idC at hput
              rw [← hI] at hput
              have hneg := neg_wrap hcnt
              simp [hpb, hlm, h6', hmL, p3, q2, p1, hIl, hneg]
              refine pure_call hput (by simp [closedL, CV.closed, closed_sk, hIc]) ?_
              cases hch : changed now c.sum (-c.count) with
              | none =>
                rw [hch] at hres
                rw [← hres]
                simp [peelC]
                exact .same _ rfl
              | some t =>
                rw [hch] at hres
                simp only at hres
                have hnt := pi.nw.step hcl hch
                have hr0 : roomMax = 140737488355328 := rfl
                obtain ⟨L1, hL1⟩ : ∃ L1, L1 = L ++ [CB.cells 32 I] := ⟨_, rfl⟩
                have hom1 : OwnM L1 0 done := hom.frame (by rw [hL1, List.getElem?_append_left hom.lt])
                have h21 : OwnS 32 L1 v2 j2 (lf.map eId) := by rw [hL1]; exact ho2.more _
                have h31 : OwnS 32 L1 v3 j3 (rt.map eId) := by rw [hL1]; exact ho3.more _
                have hm1 : L1[m]? = some (CB.cells 34 C) := by rw [hL1, List.getElem?_append_left (by omega)]; exact hmL
                have hL1l : L1.length = m + 2 := by rw [hL1]; simp [hLl]
                have hcI : contentsL L1 32 (.sl 32 L.length 0 1 1 32) = some (([I] : List (List CV)).flatten, ([I] : List (List CV)).length) := by
                  have : L1[L.length]? = some (CB.cells 32 I) := by rw [hL1]; simp
                  simp [contentsL, this, hIl, List.take_of_length_le]
                have hlt2 : v2 = .nilS ∨ m ≠ j2 := by rcases o2.lt with h | h; exact .inl h; exact .inr (by omega)
                have hlt3 : v3 = .nilS ∨ m ≠ j3 := by rcases o3.lt with h | h; exact .inl h; exact .inr (by omega)
                have hll := pi.hd
                have hPI2 : ∀ lf' rt', lf'.length + rt'.length = done.length + 1 → (∀ i ∈ lf', i.length = 32) → (∀ i ∈ rt', i.length = 32) → peelR f t lf' rt' (done ++ [c.sum]) = R → PI s.l.length R t lf' rt' (done ++ [c.sum]) := fun lf' rt' e1 e2 e3 e4 =>
                  ⟨hnt, by simp; omega, by simp; omega, fun i hi => (by rcases List.mem_append.1 hi with h | h; exact pi.ids i h; simp at h; subst h; exact hcl), e2, e3, by rw [show 62 - (done ++ [c.sum]).length = f by simp; omega]; exact e4⟩
                have hsnoc : ∀ xs : List (List B), (∀ i ∈ xs, i.length = 32) → ∀ i ∈ xs ++ [c.sum], i.length = 32 := fun xs hx i hi => by
                  rcases List.mem_append.1 hi with h | h
                  · exact hx i h
                  · simp at h; subst h; exact hcl
                have hmapI : ∀ xs : List (List B), (xs ++ [c.sum]).map eId = xs.map eId ++ [I] := fun xs => by rw [hI]; simp [eId]
                have hw0 : IntKind.i64.wrap (-1 + 1) = 0 := rfl
                have hk60 : done.length < 60 := by omega
                have hsp32 : splice (rep 32 (CV.int .u8 0)) 0 I = I := splice_full (by simp [hIl])
                rcases hcnt with h1 | h1
                · rw [h1] at hres
                  simp [hmL, p3, q2, p1, hIl, h1, hsp32, ← hL1]
                  obtain ⟨v', j', l', b1, b2, b3, b4, b5, b6, b7, b8, b9⟩ := two_app h21 h31 d23 hom1 d2 hcI hIl (by simp; omega)
                  simp [b1]
                  refine AppK.keep ?_
                  have fm : l'[m]? = some (CB.cells 34 C) := by rw [b9 m (by omega) hlt2]; exact hm1
                  obtain ⟨X, x1, x2⟩ := b7.put hcl hmem
                  unfold idC at x1
                  rw [← hI] at x1
                  have hset : ∀ b, b ≠ 0 → (l'.set 0 X)[b]? = l'[b]? := fun b hb => List.getElem?_set_ne (fun h => hb h.symm)
                  have h0l : 0 < l'.length := b7.lt
                  have hfr : ∀ {v : CV} {j : Nat} {es : List (List CV)}, OwnS 32 l' v j es → (v = .nilS ∨ j ≠ 0) → OwnS 32 (l'.set 0 X) v j es := fun ho hd => by
                    rcases hd with h | h
                    · subst h
                      have := ho.q.nil_of
                      rw [this]; exact .nil _
                    · exact ho.frame fun _ => hset _ h
                  simp [fm, p3, p1, x1, hw0]
                  refine ⟨by omega, t, lf ++ [c.sum], rt, done ++ [c.sum], v', j', v3, j3, 0, by simp, by simp, by simp, by simp, by simp; rfl, hPI2 _ _ (by simp; omega) (hsnoc _ pi.li) pi.ri hres, x2 _ (List.getElem?_set_self h0l), by rw [hmapI]; exact hfr b2 b5, hfr b3 d3, by rw [b6]; simp, n3, b5, d3, b4, by omega, fun j hj => by omega, by simp; omega⟩
                · rw [h1] at hres
                  simp [hmL, p3, q2, p1, hIl, h1, hsp32, ← hL1]
                  obtain ⟨v', j', l', b1, b2, b3, b4, b5, b6, b7, b8, b9⟩ := two_app h31 h21 (by rcases d23 with h | h | h; exact .inr (.inl h); exact .inl h; exact .inr (.inr fun h' => h h'.symm)) hom1 d3 hcI hIl (by simp; omega)
                  simp [b1]
                  refine AppK.keep ?_
                  have fm : l'[m]? = some (CB.cells 34 C) := by rw [b9 m (by omega) hlt3]; exact hm1
                  obtain ⟨X, x1, x2⟩ := b7.put hcl hmem
                  unfold idC at x1
                  rw [← hI] at x1
                  have hset : ∀ b, b ≠ 0 → (l'.set 0 X)[b]? = l'[b]? := fun b hb => List.getElem?_set_ne (fun h => hb h.symm)
                  have h0l : 0 < l'.length := b7.lt
                  have hfr : ∀ {v : CV} {j : Nat} {es : List (List CV)}, OwnS 32 l' v j es → (v = .nilS ∨ j ≠ 0) → OwnS 32 (l'.set 0 X) v j es := fun ho hd => by
                    rcases hd with h | h
                    · subst h
                      have := ho.q.nil_of
                      rw [this]; exact .nil _
                    · exact ho.frame fun _ => hset _ h
                  simp [fm, p3, p1, x1, hw0]
                  refine ⟨by omega, t, lf, rt ++ [c.sum], done ++ [c.sum], v2, j2, v', j', 0, by simp, by simp, by simp, by simp, by simp; rfl, hPI2 _ _ (by simp; omega) pi.li (hsnoc _ pi.ri) hres, x2 _ (List.getElem?_set_self h0l), hfr b3 d2, by rw [hmapI]; exact hfr b2 b5, n2, by rw [b6]; simp, d2, b5, (by rcases b4 with h | h | h; exact .inr (.inl h); exact .inl h; exact .inr (.inr fun h' => h h'.symm)), by omega, fun j hj => by omega, by simp; omega⟩
      · have hi' : i = now.length := by omega
        subst hi'
        have hnx : nextN now done = none := by
          unfold nextN
          rw [List.find?_eq_none]
          intro j hj
          rw [no j (by simpa using hj)]; simp
        have hres := pi.res
        obtain ⟨f, hf⟩ : ∃ f, 62 - done.length = f + 1 := ⟨61 - done.length, by omega⟩
        rw [hf] at hres
        unfold peelR at hres
        rw [hnx] at hres
        simp only at hres
        simp [hlen]
        have hll : lf.length ≤ 60 := by have := pi.hd; omega
        have hrl : rt.length ≤ 60 := by have := pi.hd; omega
        have hg : ∀ (xs : List (List B)) (l : Hl) (v : CV) (j : Nat), isNilS v = xs.isEmpty → OwnQ 32 l v j ((sortB xs).map eId) → Rd l v (encIds (svB xs)) := fun xs l v j hn ho => by
          cases xs with
          | nil =>
            have : v = .nilS := isNil_iff.1 (by rw [hn]; rfl)
            subst this
            exact .same _ rfl
          | cons x xs => exact ho.rd_enc closed_eId (some (sortB (x :: xs))) (by rw [hn]; rfl) rfl
        refine sort_call pi.li (by omega) n2 o2 fun l1 c1 c2 c3 => ?_
        simp
        have o3' : OwnS 32 l1 v3 j3 (rt.map eId) := by
          rcases d23 with h | h | h
          · exact o3.frame fun _ => c2 j3 (.inl h)
          · subst h
            have := o3.q.nil_of
            rw [this]; exact .nil j3
          · exact o3.frame fun _ => c2 j3 (.inr fun h' => h h'.symm)
        refine sort_call pi.ri (by omega) n3 o3' fun l2 e1 e2 e3 => ?_
        simp
        have c3' : OwnQ 32 l2 v2 j2 ((sortB lf).map eId) := by
          refine c3.frame2 ?_
          rcases d23 with h | h | h
          · exact .inl h
          · exact .inr (e2 j2 (.inl h))
          · exact .inr (e2 j2 (.inr h))
        rw [← hres]
        exact .tu _ _ rfl fun j c c' hj hj' => by
          match j with
          | 0 => simp at hj hj'; subst hj hj'; exact hg lf l2 v2 j2 n2 c3'
          | 1 => simp at hj hj'; subst hj hj'; exact hg rt l2 v3 j3 n3 e3
          | 2 => simp at hj hj'; subst hj hj'; exact .same _ (closed_sk _)
          | 3 => simp at hj hj'; subst hj hj'; exact .same _ rfl
          | j + 4 => simp at hj
    · refine ⟨s.l, [], [], [], .nilS, 1, .nilS, 1, 0, by simp, by simp, by simp [← hsn], by simp, by simp, ⟨hnow, rfl, by simp, by simp, by simp, by simp, hpe.symm⟩, ⟨[], 0, by simp, .nil⟩, .nil 1, .nil 1, rfl, rfl, .inl rfl, .inl rfl, .inl rfl, by omega, fun j hj => by omega, by omega⟩
  · have hpe : peelE s = .inl 8 := by unfold peelE; rw [if_neg (by rw [h0]; simp), h0]
    rw [hpe]
    simp [h0, peelC]
    exact .same _ rfl
end Sk
end Go.CM

/-
  Sketches: sorted lists of ids; the reference's Peel, walked.
-/
namespace Go.CM
open Go Go.Proofs Go.Sort Go.Shelf
set_option linter.unusedVariables false
set_option linter.unusedSimpArgs false
set_option maxRecDepth 100000
namespace Sk
open Sha

def leB (x y : List B) : Bool := !ltB y x
theorem leB_trans (a b c : List B) (h1 : leB a b = true) (h2 : leB b c = true) : leB a c = true := by
  unfold leB ltB at *
  simp only [Bool.not_eq_true'] at *
  exact swo_cmpB.ntrans c b a h2 h1
theorem leB_total (a b : List B) : (leB a b || leB b a) = true := by
  unfold leB ltB ltOf
  have := cmpB_swap a b
  by_cases h : cmpB a b < 0
  · simp; omega
  · simp; omega
theorem leB_anti (a b : List B) (h1 : leB a b = true) (h2 : leB b a = true) : a = b := by
  unfold leB ltB at *
  simp only [Bool.not_eq_true'] at *
  exact anti_cmpB a b h2 h1
theorem lt_le {a b : List B} (h : ltB a b = true) : leB a b = true := by
  rw [ltB_iff] at h
  unfold leB ltB ltOf
  have := cmpB_swap a b
  simp; omega
theorem not_lt_le {a b : List B} (h : ltB a b = false) : leB b a = true := by unfold leB; rw [h]; rfl
theorem sortB_pw (l : List (List B)) : (sortB l).Pairwise fun a b => leB a b = true := List.pairwise_mergeSort (le := leB) leB_trans leB_total l
theorem sortB_perm (l : List (List B)) : (sortB l).Perm l := List.mergeSort_perm l _
theorem sorted_eq {l l' : List (List B)} (h : l.Perm l') (h1 : l.Pairwise fun a b => leB a b = true) (h2 : l'.Pairwise fun a b => leB a b = true) : l = l' :=
  List.Perm.eq_of_pairwise (fun a b _ _ h1 h2 => leB_anti a b h1 h2) h1 h2 h
theorem ins_perm (l : List (List B)) (x : List B) : (ins l x).Perm (l ++ [x]) := by
  unfold ins
  have h1 : (List.takeWhile (fun y => ltB y x) l ++ x :: List.dropWhile (fun y => ltB y x) l).Perm (x :: (List.takeWhile (fun y => ltB y x) l ++ List.dropWhile (fun y => ltB y x) l)) := List.perm_middle
  rw [List.takeWhile_append_dropWhile] at h1
  exact h1.trans (List.perm_append_comm (l₁ := [x]) (l₂ := l))
theorem ins_pw {l : List (List B)} (x : List B) (h : l.Pairwise fun a b => leB a b = true) : (ins l x).Pairwise fun a b => leB a b = true := by
  induction l with
  | nil => simp [ins]
  | cons a l ih =>
    obtain ⟨h1, h2⟩ := List.pairwise_cons.1 h
    cases hlt : ltB a x with
    | true =>
      have : ins (a :: l) x = a :: ins l x := by unfold ins; simp [hlt]
      rw [this]
      refine List.pairwise_cons.2 ⟨fun b hb => ?_, ih h2⟩
      have hb' := (ins_perm l x).mem_iff.1 hb
      rcases List.mem_append.1 hb' with hb' | hb'
      · exact h1 b hb'
      · simp at hb'; subst hb'; exact lt_le hlt
    | false =>
      have : ins (a :: l) x = x :: a :: l := by unfold ins; simp [hlt]
      rw [this]
      refine List.pairwise_cons.2 ⟨fun b hb => ?_, h⟩
      rcases List.mem_cons.1 hb with hb | hb
      · subst hb; exact not_lt_le hlt
      · exact leB_trans _ _ _ (not_lt_le hlt) (h1 b hb)
theorem ins_sort (l : List (List B)) (x : List B) : ins (sortB l) x = sortB (l ++ [x]) :=
  sorted_eq ((ins_perm _ _).trans (((sortB_perm l).append_right [x]).trans (sortB_perm _).symm)) (ins_pw x (sortB_pw l)) (sortB_pw _)
theorem svB_l (l : List (List B)) : (svB l).l = sortB l := by
  cases l with
  | nil => simp [svB, sortB]
  | cons a r => rfl
theorem svB_snoc (l : List (List B)) (x : List B) : some (ins (svB l).l x) = svB (l ++ [x]) := by
  rw [svB_l, ins_sort]
  cases l with
  | nil => rfl
  | cons a r => rfl
/-- What the machine holds between two rounds of the reference's Peel. -/
structure QW (N : Nat) (R : PR) (k : Nat) (σ : Sg) (l : Hl) (now : List Cell) (lf rt done : List (List B)) (vd : CV) (jd : Nat) : Prop where
  g7 : σ 7 = encIds (svB lf)
  g8 : σ 8 = encIds (svB rt)
  g9 : σ 9 = vd
  g10 : σ 10 = encSk (some now)
  g11 : σ 11 = .int .i64 (optI (nextN now done))
  pi : PI N R now lf rt done
  od : OwnS 32 l vd jd (done.map eId)
  nd : isNilS vd = done.isEmpty
  hk : k = done.length
theorem okSv {l : List (List B)} (h : ∀ i ∈ l, i.length = 32) : okIds (svB l) := fun i hi => by rw [svB_l] at hi; exact h i ((sortB_perm l).mem_iff.1 hi)
theorem lenSv (l : List (List B)) : (svB l).l.length = l.length := by rw [svB_l]; exact (sortB_perm l).length_eq
theorem next_own {now : List Cell} {done : List (List B)} {N : Nat} (hn : Now N now) (hd : ∀ i ∈ done, i.length = 32) (hl : done.length ≤ 60) {l : Hl} {vd : CV} {jd : Nat} (od : OwnS 32 l vd jd (done.map eId)) (nd : isNilS vd = done.isEmpty) {K : CV → Hl → Prop} (hK : K (.int .i64 (optI (nextN now done))) l) :
    CallP Tryd.prog GS 61 [encSk (some now), vd] l (c := ⟨K⟩) := by
  obtain ⟨D, hD, hDl, hDn⟩ : ∃ D : Ids, D.l = done ∧ okIds D ∧ isNilS vd = D.isNone := by
    cases done with
    | nil => exact ⟨none, rfl, (fun i hi => (by cases hi)), (by rw [nd]; rfl)⟩
    | cons a r => exact ⟨some (a :: r), rfl, hd, by rw [nd]; rfl⟩
  have h := next_ok (some now) D (fun c hc => (hn.c c hc).2) hDl (by rw [hD]; omega) (by rw [Sv.l_some, hn.len]; exact hn.sz)
  rw [hD, Sv.l_some] at h
  exact pure_callB h (.cons (.same _ (closed_sk _)) (.cons (od.rdH_enc closed_eId D hDn hD) .nil)) rfl hK
theorem ltn {n : Int} (h : n = 1 ∨ n = -1) : decide (-n < 0) = decide (0 < n) := by rcases h with h | h <;> subst h <;> rfl
set_option maxHeartbeats 16000000 in
theorem refPeel_ok (s : Sketch) (ho : okSk s) (hl : s.l.length ≤ 1000000) : PureC Tryd.prog GS 32 [encSk s] (peelC (peelE s)) := by
  refine pure_of Tryd.checked.mixed GS_closed ?_
  apply call_intro c32_eq r32_eq
  unfold c32 r32
  have hcs := closed_sk s
  simp
  refine pure_call (refCheck_ok s ho (by omega)) (by simp [closedL, hcs]) ?_
  rcases chk_8 s with h0 | h0
  · have hpe : peelE s = peelR 62 s.l [] [] [] := by unfold peelE; rw [if_pos h0]
    obtain ⟨R, hR⟩ : ∃ R, R = peelE s := ⟨_, rfl⟩
    rw [← hR] at hpe ⊢
    have hnow := Now.of h0 ho
    obtain ⟨N, hN, h3, h48, hmod⟩ := sized_nat hnow.sz
    have hr0 : roomMax = 140737488355328 := rfl
    simp [h0]
    have o0 : OwnS 34 [CB.cells 0 []] (.sl 34 0 0 0 0 0) 0 [] := .sl 0 0 0 0 [] [] (by simp) rfl rfl (by simp) (Nat.le_refl _) (by omega) rfl
    obtain ⟨v, j, l1, a1, a2, a3, a4, a5, a6⟩ := appS (by_ := 48) o0 (x := encSk s) (xs := s.l.map encCell) (by unfold encSk; rw [contents_encS]; simp) (rows_sk ho) (by omega) (by omega) (by rw [hr0]; simp; omega)
    simp only [List.nil_append] at a2
    simp [a1]
    refine AppK.frzS a2 (by rw [a6]; rfl) ?_
    have hso : CV.rsl 34 (s.l.map encCell) = encSk (some s.l) := rfl
    rw [hso]
    simp
    refine next_own (done := []) hnow (by simp) (by simp) (.nil 0) rfl ?_
    simp
    refine loop_up 61 (fun k σ l => ∃ now lf rt done vd jd, QW s.l.length R k σ l now lf rt done vd jd) ?_ ?_
    · rintro k σ l hk ⟨now, lf, rt, done, vd, jd, g7, g8, g9, g10, g11, pi, od, nd, hkk⟩
      obtain ⟨σ, rfl⟩ := upds5 g7 g8 g9 g10 g11
      clear g7 g8 g9 g10 g11
      unfold l32_0
      have hnl := pi.nw.len
      have h60 := pi.h60
      have hres := pi.res
      obtain ⟨f, hf⟩ : ∃ f, 62 - done.length = f + 1 := ⟨61 - done.length, by omega⟩
      rw [hf] at hres
      unfold peelR at hres
      cases hnx : nextN now done with
      | none =>
        rw [hnx] at hres
        simp only at hres
        simp [optI]
        rw [← hres]
        exact .same _ (by simp [peelC, closedL, CV.closed, closed_sk, closed_ids])
      | some i =>
        rw [hnx] at hres
        obtain ⟨hin, hw1, hno⟩ := nextN_some hnx
        obtain ⟨c, hc, hcm⟩ := get_of hin
        obtain ⟨hcr, hcl⟩ := pi.nw.c c hcm
        have hpw : pureB now.length c i = true ∧ c.sum ∉ done := by rw [wants_iff hc] at hw1; simpa using hw1
        have hcnt := pure_count hpw.1
        simp only [hc] at hres
        have hia : iaC (.sl 34) (encSk (some now)) (.int .i64 i) = some (.rptr (encCell c) 0) := by unfold encSk; rw [ia_encS]; simp [hc]
        obtain ⟨C, hC⟩ : ∃ C, C = encCell c := ⟨_, rfl⟩
        obtain ⟨p1, p2, p3, p4⟩ := ldA_of hcl hC
        rw [← hC] at hia
        obtain ⟨_, q2⟩ := List.getElem?_eq_some_iff.1 p2
        obtain ⟨I, hI⟩ : ∃ I, I = c.sum.map e8 := ⟨_, rfl⟩
        have hIl : I.length = 32 := by rw [hI, List.length_map, hcl]
        have hIc : closedL I = true := by rw [hI]; exact closedL_map e8 (fun _ => rfl) _
        rw [← hI] at p3
        have hneg := neg_wrap hcnt
        have hsp32 : splice (rep 32 (CV.int .u8 0)) 0 I = I := splice_full (by simp [hIl])
        have hlm : lenM (.sl 32) vd = some (.int .i64 done.length) := by have := od.len; simpa using this
        obtain ⟨L, hL⟩ : ∃ L, L = l ++ [CB.cells 32 I] := ⟨_, rfl⟩
        obtain ⟨m, hm⟩ : ∃ m, m = l.length := ⟨_, rfl⟩
        have hmL : L[m]? = some (CB.cells 32 I) := by rw [hL, hm]; simp
        have odL : OwnS 32 L vd jd (done.map eId) := by rw [hL]; exact od.more _
        have hLl : L.length = m + 1 := by rw [hL, hm]; simp
        simp [optI, hia, p1, p3, q2, hneg, hIl, hsp32, hlm, ← hL, ← hm, List.take_of_length_le]
        by_cases h6 : done.length = 60
        · have h6' : ((done.length : Int) = 60) := by omega
          rw [nbeq_true h6] at hres
          simp only at hres
          rw [← hres]
          simp [h6', peelC]
          exact .same _ rfl
        · have h6' : ¬ ((done.length : Int) = 60) := by omega
          rw [nbeq_false h6] at hres
          simp only at hres
          have hch0 := changed_ok (some now) c.sum (-c.count) (fun c hc => (pi.nw.c c hc).2) (fun c hc => (pi.nw.c c hc).1) (by rw [Sv.l_some, hnl]; exact pi.nw.sz) hcl (by rcases hcnt with h | h <;> omega)
          unfold idC at hch0
          rw [← hI, Sv.l_some] at hch0
          have hhd := pi.hd
          have hwl := with_ok (svB lf) c.sum (okSv pi.li) (by rw [lenSv]; omega) hcl
          have hwr := with_ok (svB rt) c.sum (okSv pi.ri) (by rw [lenSv]; omega) hcl
          rw [svB_snoc] at hwl hwr
          unfold idC at hwl hwr
          rw [← hI] at hwl hwr
          have hPI2 : ∀ t lf' rt', Now s.l.length t → lf'.length + rt'.length = done.length + 1 → (∀ i ∈ lf', i.length = 32) → (∀ i ∈ rt', i.length = 32) → peelR f t lf' rt' (done ++ [c.sum]) = R → PI s.l.length R t lf' rt' (done ++ [c.sum]) := fun t lf' rt' hnt e1 e2 e3 e4 =>
            ⟨hnt, by simp; omega, by simp; omega, fun i hi => (by rcases List.mem_append.1 hi with h | h; exact pi.ids i h; simp at h; subst h; exact hcl), e2, e3, by rw [show 62 - (done ++ [c.sum]).length = f by simp; omega]; exact e4⟩
          have hsnoc : ∀ xs : List (List B), (∀ i ∈ xs, i.length = 32) → ∀ i ∈ xs ++ [c.sum], i.length = 32 := fun xs hx i hi => by
            rcases List.mem_append.1 hi with h | h
            · exact hx i h
            · simp at h; subst h; exact hcl
          have hmapI : (done ++ [c.sum]).map eId = done.map eId ++ [I] := by rw [hI]; simp [eId]
          simp [h6']
          have hr0 : roomMax = 140737488355328 := rfl
          obtain ⟨L1, hL1⟩ : ∃ L1, L1 = L ++ [CB.cells 32 I] := ⟨_, rfl⟩
          have od1 : OwnS 32 L1 vd jd (done.map eId) := by rw [hL1]; exact odL.more _
          have hcI : contentsL L1 32 (.sl 32 L.length 0 1 1 32) = some (([I] : List (List CV)).flatten, ([I] : List (List CV)).length) := by
            have : L1[L.length]? = some (CB.cells 32 I) := by rw [hL1]; simp
            simp [contentsL, this, hIl, List.take_of_length_le]
          obtain ⟨v', j', l', b1, b2, b3, b4, b5, b6⟩ := appS (by_ := 32) od1 hcI (by simp [hIl]) (by omega) (by omega) (by rw [hr0]; simp; omega)
          rw [← hmapI] at b2
          have hnd' : isNilS v' = (done ++ [c.sum]).isEmpty := by rw [b6]; simp
          have hids : ∀ i ∈ done ++ [c.sum], i.length = 32 := fun i hi => by rcases List.mem_append.1 hi with h | h; exact pi.ids i h; simp at h; subst h; exact hcl
          rcases hcnt with h1 | h1
          · simp [h1, hmL, hIl, List.take_of_length_le]
            refine pure_call hwl (by simp [closedL, CV.closed, closed_ids, hIc]) ?_
            simp [hmL, hIl, List.take_of_length_le]
            refine pure_call hch0 (by simp [closedL, CV.closed, closed_sk, hIc]) ?_
            cases hch : changed now c.sum (-c.count) with
            | none =>
              rw [hch] at hres
              rw [← hres]
              simp [hch, outC, peelC]
              exact .same _ rfl
            | some t =>
              have hnt := pi.nw.step hcl hch
              rw [hch] at hres
              have hd : decide (0 < c.count) = true := by rw [h1]; rfl
              rw [hd] at hres
              simp only at hres
              simp [hch, outC, hmL, hIl, hsp32, List.take_of_length_le, ← hL1]
              simp [b1]
              refine AppK.keep ?_
              simp
              refine next_own hnt hids (by simp; omega) b2 hnd' ?_
              simp
              exact ⟨by omega, t, lf ++ [c.sum], rt, done ++ [c.sum], v', j', by simp, by simp, by simp, by simp, by simp, hPI2 t _ _ hnt (by simp; omega) (hsnoc _ pi.li) pi.ri hres, b2, hnd', by simp; omega⟩
          · simp [h1, hmL, hIl, List.take_of_length_le]
            refine pure_call hwr (by simp [closedL, CV.closed, closed_ids, hIc]) ?_
            simp [hmL, hIl, List.take_of_length_le]
            refine pure_call hch0 (by simp [closedL, CV.closed, closed_sk, hIc]) ?_
            cases hch : changed now c.sum (-c.count) with
            | none =>
              rw [hch] at hres
              rw [← hres]
              simp [hch, outC, peelC]
              exact .same _ rfl
            | some t =>
              have hnt := pi.nw.step hcl hch
              rw [hch] at hres
              have hd : decide (0 < c.count) = false := by rw [h1]; rfl
              rw [hd] at hres
              simp only at hres
              simp [hch, outC, hmL, hIl, hsp32, List.take_of_length_le, ← hL1]
              simp [b1]
              refine AppK.keep ?_
              simp
              refine next_own hnt hids (by simp; omega) b2 hnd' ?_
              simp
              exact ⟨by omega, t, lf, rt ++ [c.sum], done ++ [c.sum], v', j', by simp, by simp, by simp, by simp, by simp, hPI2 t _ _ hnt (by simp; omega) pi.li (hsnoc _ pi.ri) hres, b2, hnd', by simp; omega⟩
    · refine ⟨s.l, [], [], [], .nilS, 0, by simp [svB]; rfl, by simp [svB]; rfl, by simp, by simp, by simp, ⟨hnow, rfl, by simp, by simp, by simp, by simp, hpe.symm⟩, .nil 0, rfl, rfl⟩
  · have hpe : peelE s = .inl 8 := by unfold peelE; rw [if_neg (by rw [h0]; simp), h0]
    rw [hpe]
    simp [h0, peelC]
    exact .same _ rfl
end Sk
end Go.CM

/-
  Sketches: SketchPeels, walked.
-/
namespace Go.CM
open Go Go.Proofs Go.Sort Go.Shelf
set_option linter.unusedVariables false
set_option linter.unusedSimpArgs false
set_option maxRecDepth 100000
namespace Sk
open Sha

theorem tyA_ids {ts : List TypeId} {cs : List CV} (h : TyA Tryd.prog (50 :: ts) cs) : ∃ (s : Ids) (cs' : List CV), cs = encIds s :: cs' ∧ okIds s ∧ TyA Tryd.prog ts cs' := by
  obtain ⟨c, cs', rfl, h1, h2⟩ := tyA_cons h
  obtain ⟨s, cs1, hs, hl, hi, h3⟩ := ty_sl (e := 24) (z := 32) (enc := eId) (Q := fun x => x.length = 32) (by kernel_rfl) (by kernel_rfl) ty_id (tyV_one (by kernel_rfl) h1)
  cases hs
  exact ⟨s, cs', rfl, hi, h2⟩
def longB (l : List (List B)) : Bool := decide ((25 < l.length ∧ l.length ≤ 60) ∨ 80 < l.length)
theorem long_ok (s : Ids) : PureC Tryd.prog GS 26 [encIds s] (.bool (longB s.l)) := by
  refine pure_of Tryd.checked.mixed GS_closed ?_
  apply call_intro c26_eq r26_eq
  unfold c26 r26
  have hlen : lenM (.sl 32) (encIds s) = some (.int .i64 s.l.length) := len_encS _
  unfold longB
  by_cases h1 : 25 < s.l.length
  · have h1' : (25 : Int) < s.l.length := by omega
    by_cases h2 : s.l.length ≤ 60
    · have h2' : (s.l.length : Int) ≤ 60 := by omega
      simp [hlen, h1, h1', h2, h2']
      exact rd_eq rfl rfl
    · have h2' : ¬ (s.l.length : Int) ≤ 60 := by omega
      by_cases h3 : 80 < s.l.length
      · have h3' : (80 : Int) < s.l.length := by omega
        simp [hlen, h1, h1', h2, h2', h3, h3']
        exact rd_eq rfl rfl
      · have h3' : ¬ (80 : Int) < s.l.length := by omega
        simp [hlen, h1, h1', h2, h2', h3, h3']
        exact rd_eq rfl rfl
  · have h1' : ¬ (25 : Int) < s.l.length := by omega
    have h3 : ¬ 80 < s.l.length := by omega
    have h3' : ¬ (80 : Int) < s.l.length := by omega
    simp [hlen, h1, h1', h3, h3']
    exact rd_eq rfl rfl
def pL : PR → Ids | .inl _ => none | .inr (l, _, _) => svB l
def pR : PR → Ids | .inl _ => none | .inr (_, r, _) => svB r
def pN : PR → Sketch | .inl _ => none | .inr (_, _, n) => some n
def pE : PR → Int | .inl e => e | .inr _ => 0
theorem peelC_eq (R : PR) : peelC R = .tu [encIds (pL R), encIds (pR R), encSk (pN R), .int .i64 (pE R)] := by
  cases R with
  | inl e => rfl
  | inr x => rfl
theorem ofS_ok {n : Int} {ids : List (List B)} (hi : ∀ i ∈ ids, i.length = 32) : okSk (ofS n ids).1 ∧ (ofS n ids).1.l.length ≤ 1000000 := by
  unfold ofS
  cases hsz : sizedB n with
  | false => exact ⟨fun c hc => (by cases hc), by simp⟩
  | true =>
    simp only
    by_cases h60 : 60 < ids.length
    · rw [if_pos h60]; exact ⟨fun c hc => (by cases hc), by simp⟩
    · rw [if_neg h60]
      obtain ⟨N, rfl, h3, h48, _⟩ := sized_nat hsz
      have := Good.add hsz ids 0 _ (Good.zero N) hi (by omega)
      exact ⟨fun c hc => this.sum c hc, by simp only [Sv.l_some, Int.toNat_natCast, this.len]; omega⟩
theorem subS_len (a b : Sketch) (h : a.l.length ≤ 1000000) : (subS a b).1.l.length ≤ 1000000 := by
  unfold subS
  repeat' split
  · rename_i h1 _; simp only [Sv.l_some]; rw [subL_len h1]; exact h
  all_goals simp
theorem peelR_ok : ∀ (f : Nat) (N : Nat) (now : List Cell) (l r done : List (List B)), Now N now → (∀ i ∈ l, i.length = 32) → (∀ i ∈ r, i.length = 32) → ∀ l' r' n', peelR f now l r done = .inr (l', r', n') → Now N n' ∧ (∀ i ∈ l', i.length = 32) ∧ (∀ i ∈ r', i.length = 32) ∧ l'.length + r'.length ≤ l.length + r.length + f
  | 0, N, now, l, r, done, hn, hl, hr, l', r', n', h => by cases h
  | f + 1, N, now, l, r, done, hn, hl, hr, l', r', n', h => by
    unfold peelR at h
    split at h
    · cases h; exact ⟨hn, hl, hr, by omega⟩
    · rename_i i hnx
      split at h
      · cases h
      · rename_i c hc
        have hcl := (hn.c c (List.mem_of_getElem? hc)).2
        have hs : ∀ xs : List (List B), (∀ i ∈ xs, i.length = 32) → ∀ i ∈ xs ++ [c.sum], i.length = 32 := fun xs hx i hi => by
          rcases List.mem_append.1 hi with h | h
          · exact hx i h
          · simp at h; subst h; exact hcl
        split at h
        · cases h
        · split at h
          · cases h
          · rename_i t ht
            have hnt := hn.step hcl ht
            split at h
            · obtain ⟨a, b, c, d⟩ := peelR_ok f N _ _ _ _ hnt (hs l hl) hr _ _ _ h
              exact ⟨a, b, c, by simp at d; omega⟩
            · obtain ⟨a, b, c, d⟩ := peelR_ok f N _ _ _ _ hnt hl (hs r hr) _ _ _ h
              exact ⟨a, b, c, by simp at d; omega⟩
theorem peelE_ok (s : Sketch) (ho : okSk s) : okIds (pL (peelE s)) ∧ okIds (pR (peelE s)) ∧ okSk (pN (peelE s)) ∧ (pL (peelE s)).l.length ≤ 1000 ∧ (pR (peelE s)).l.length ≤ 1000 ∧ (pN (peelE s)).l.length ≤ 1000 := by
  have hz : ∀ e, okIds (pL (.inl e)) ∧ okIds (pR (.inl e)) ∧ okSk (pN (.inl e)) ∧ (pL (.inl e)).l.length ≤ 1000 ∧ (pR (.inl e)).l.length ≤ 1000 ∧ (pN (.inl e)).l.length ≤ 1000 := fun e =>
    ⟨fun i hi => (by cases hi), fun i hi => (by cases hi), fun i hi => (by cases hi), by simp [pL], by simp [pR], by simp [pN]⟩
  unfold peelE
  by_cases h0 : chk s = 0
  · rw [if_pos h0]
    have hnow := Now.of h0 ho
    obtain ⟨N, hN, h3, h48, _⟩ := sized_nat hnow.sz
    cases hp : peelR 62 s.l [] [] [] with
    | inl e => exact hz e
    | inr x =>
      obtain ⟨l, r, n⟩ := x
      obtain ⟨a, b, c, d⟩ := peelR_ok 62 _ _ _ _ _ hnow (by simp) (by simp) _ _ _ hp
      simp at d
      refine ⟨okSv b, okSv c, fun x hx => (a.c x hx).2, ?_, ?_, ?_⟩
      · simp only [pL, lenSv]; omega
      · simp only [pR, lenSv]; omega
      · simp only [pN, Sv.l_some, a.len]; omega
  · rw [if_neg h0]; exact hz _
set_option maxHeartbeats 16000000 in
theorem peels_call (s t : Sketch) (n : Int) (ids : Ids) (hs : okSk s) (ht : okSk t) (hi : okIds ids) : CallP Tryd.prog GS 4 [encSk s, encSk t, .int .i64 n, encIds ids] [] (c := ⟨fun r _ => r = .bool true⟩) := by
  apply call_intro c4_eq r4_eq
  unfold c4 r4
  have hcs := closed_sk s
  have hct := closed_sk t
  have hci := closed_ids ids
  simp
  refine pure_call (great_ok s) (by simp [closedL, hcs]) ?_
  cases hg : great s with
  | true => simp
  | false =>
    simp
    refine pure_call (great_ok t) (by simp [closedL, hct]) ?_
    cases hg2 : great t with
    | true => simp
    | false =>
      simp
      refine pure_call (long_ok ids) (by simp [closedL, hci]) ?_
      cases hlg : longB ids.l with
      | true => simp
      | false =>
        have hsl : s.l.length ≤ 60 := by unfold great at hg; have := of_decide_eq_false hg; omega
        have htl : t.l.length ≤ 60 := by unfold great at hg2; have := of_decide_eq_false hg2; omega
        have hil : ids.l.length ≤ 80 := by unfold longB at hlg; have := of_decide_eq_false hlg; omega
        have hr0 : roomMax = 140737488355328 := rfl
        have o0 : OwnS 34 [CB.cells 0 []] (.sl 34 0 0 0 0 0) 0 [] := .sl 0 0 0 0 [] [] (by simp) rfl rfl (by simp) (Nat.le_refl _) (by omega) rfl
        obtain ⟨v, j, l1, a1, a2, a3, a4, a5, a6⟩ := appS (by_ := 48) o0 (x := encSk s) (xs := s.l.map encCell) (by unfold encSk; rw [contents_encS]; simp) (rows_sk hs) (by omega) (by omega) (by rw [hr0]; simp; omega)
        simp only [List.nil_append] at a2
        obtain ⟨A, hA⟩ : ∃ A, A = ofS n ids.l := ⟨_, rfl⟩
        obtain ⟨D, hD⟩ : ∃ D, D = subS s t := ⟨_, rfl⟩
        obtain ⟨E, hE⟩ : ∃ E, E = peelE s := ⟨_, rfl⟩
        have k1 := of_ok n ids hi (by omega)
        have k2 := refOf2_ok n ids hi (by omega)
        have k3 := sub_ok s t hs ht (by omega) (by omega)
        have k4 := refSub_ok s t hs ht (by omega) (by omega)
        have k5 := peel_ok s hs (by omega)
        have k6 := refPeel_ok s hs (by omega)
        rw [← hA] at k1 k2
        rw [← hD] at k3 k4
        rw [← hE, peelC_eq] at k5 k6
        have hAo := ofS_ok (n := n) hi
        have hDo := subS_ok hs ht
        have hDl := subS_len s t (by omega)
        obtain ⟨e1, e2, e3, e4, e5, e6⟩ := peelE_ok s hs
        rw [← hA] at hAo
        rw [← hD] at hDo hDl
        rw [← hE] at e1 e2 e3 e4 e5 e6
        have s1 := same_ok A.1 A.1 hAo.1 hAo.1 hAo.2
        have s2 := same_ok D.1 D.1 hDo hDo hDl
        have s3 := sameIds_ok (pL E) (pL E) e1 e1 (by omega)
        have s4 := sameIds_ok (pR E) (pR E) e2 e2 (by omega)
        have s5 := same_ok (pN E) (pN E) e3 e3 (by omega)
        have s6 := same_ok s (some s.l) hs hs (by omega)
        simp only [decide_true] at s1 s2 s3 s4 s5 s6
        simp [a1]
        refine AppK.keep ?_
        simp
        refine pure_call k1 (by simp [closedL, CV.closed, hci]) ?_
        simp
        refine pure_call k2 (by simp [closedL, CV.closed, hci]) ?_
        simp
        refine pure_call k3 (by simp [closedL, CV.closed, hcs, hct]) ?_
        simp
        refine pure_call k4 (by simp [closedL, CV.closed, hcs, hct]) ?_
        simp
        refine pure_call k5 (by simp [closedL, CV.closed, hcs]) ?_
        simp
        refine pure_call k6 (by simp [closedL, CV.closed, hcs]) ?_
        simp
        refine pure_call s1 (by simp [closedL, CV.closed, closed_sk]) ?_
        simp
        refine pure_call s2 (by simp [closedL, CV.closed, closed_sk]) ?_
        simp
        refine pure_call s3 (by simp [closedL, CV.closed, closed_ids]) ?_
        simp
        refine pure_call s4 (by simp [closedL, CV.closed, closed_ids]) ?_
        simp
        refine pure_call s5 (by simp [closedL, CV.closed, closed_sk]) ?_
        simp
        refine pure_callB s6 (.cons (.same _ hcs) (.cons (a2.rdH_enc closed_cell (some s.l) (by rw [a6]; rfl) rfl) .nil)) rfl ?_
        simp
end Sk
end Go.CM

/-
  Sketches, plain: a sketch is a sum over its ids, cell by cell.
-/
namespace Go.CM
open Go Go.Proofs Go.Sort Go.Shelf
set_option linter.unusedVariables false
set_option linter.unusedSimpArgs false
set_option maxRecDepth 100000
namespace Sk
open Sha

/-! ### Exclusive or, cells -/
theorem xorL_comm (a b : List B) : xorL a b = xorL b a := by
  unfold xorL
  rw [List.zipWith_comm]
  congr 1
  funext x y
  exact BitVec.xor_comm y x
theorem xorL_assoc : ∀ a b c : List B, xorL (xorL a b) c = xorL a (xorL b c)
  | [], b, c => by simp [xorL]
  | a :: x, [], c => by simp [xorL]
  | a :: x, b :: y, [] => by simp [xorL]
  | a :: x, b :: y, c :: z => by
    have := xorL_assoc x y z
    simp only [xorL, List.zipWith_cons_cons] at this ⊢
    rw [this, BitVec.xor_assoc]
theorem xorL_self : ∀ a : List B, xorL a a = List.replicate a.length 0#8
  | [] => rfl
  | a :: x => by
    have := xorL_self x
    simp only [xorL, List.zipWith_cons_cons, List.length_cons, List.replicate_succ] at this ⊢
    rw [this, BitVec.xor_self]
theorem xorL_zero : ∀ a : List B, xorL a (List.replicate a.length 0#8) = a
  | [] => rfl
  | a :: x => by
    have := xorL_zero x
    simp only [xorL, List.length_cons, List.replicate_succ, List.zipWith_cons_cons] at this ⊢
    rw [this, BitVec.xor_zero]
def addC (c d : Cell) : Cell := ⟨c.count + d.count, xorL c.sum d.sum, c.check ^^^ d.check⟩
theorem addC_comm (a b : Cell) : addC a b = addC b a := by unfold addC; rw [Int.add_comm, xorL_comm, BitVec.xor_comm]
theorem addC_assoc (a b c : Cell) : addC (addC a b) c = addC a (addC b c) := by unfold addC; simp only [Int.add_assoc, xorL_assoc, BitVec.xor_assoc]
theorem addC_right (a b c : Cell) : addC (addC a b) c = addC (addC a c) b := by rw [addC_assoc, addC_comm b c, addC_assoc]
theorem addC_zero {a : Cell} (h : a.sum.length = 32) : addC a zeroCell = a := by
  have h1 : xorL a.sum (List.replicate 32 0#8) = a.sum := by rw [← h]; exact xorL_zero _
  unfold addC
  show (⟨a.count + 0, xorL a.sum (List.replicate 32 0#8), a.check ^^^ 0#64⟩ : Cell) = a
  rw [h1, BitVec.xor_zero, Int.add_zero]
def negC (c : Cell) : Cell := ⟨-c.count, c.sum, c.check⟩
theorem addC_neg {a : Cell} (h : a.sum.length = 32) : addC a (negC a) = zeroCell := by
  unfold addC negC
  simp only [xorL_self, h, BitVec.xor_self]
  rw [Int.add_right_neg]; rfl
theorem subC_add (a b : Cell) : subC a b = addC a (negC b) := rfl
theorem addC_len {a b : Cell} (ha : a.sum.length = 32) (hb : b.sum.length = 32) : (addC a b).sum.length = 32 := xorL_len ha hb
/-- What an id puts into a cell. -/
def one (n : Nat) (x : List B) (by_ : Int) (i : Nat) : Cell := if i ∈ placesL n x then ⟨by_, x, word x⟩ else zeroCell
theorem one_len {n : Nat} {x : List B} (h : x.length = 32) (by_ : Int) (i : Nat) : (one n x by_ i).sum.length = 32 := by unfold one; split; exact h; rfl
theorem one_neg (n : Nat) (x : List B) (by_ : Int) (i : Nat) : negC (one n x by_ i) = one n x (-by_) i := by unfold one; split <;> rfl
/-- A list of cells is got from a function of the place. -/
def tab (n : Nat) (f : Nat → Cell) : List Cell := (List.range n).map f
theorem tab_len (n : Nat) (f : Nat → Cell) : (tab n f).length = n := by simp [tab]
theorem tab_get {n : Nat} {f : Nat → Cell} {i : Nat} (h : i < n) : (tab n f)[i]? = some (f i) := by unfold tab; rw [List.getElem?_map, List.getElem?_range h]; rfl
theorem tab_ext {n : Nat} {f g : Nat → Cell} (h : ∀ i, i < n → f i = g i) : tab n f = tab n g := by
  unfold tab; exact List.map_congr_left fun i hi => h i (by simpa using hi)
theorem tab_inj {n : Nat} {f g : Nat → Cell} (h : tab n f = tab n g) {i : Nat} (hi : i < n) : f i = g i := by
  have := tab_get (f := f) hi
  rw [h, tab_get hi] at this
  exact (Option.some.inj this).symm
theorem tab_of (l : List Cell) : l = tab l.length fun i => l.getD i zeroCell := by
  apply List.ext_getElem?
  intro i
  by_cases h : i < l.length
  · rw [tab_get h, List.getD_eq_getElem?_getD, List.getElem?_eq_getElem h]; rfl
  · rw [List.getElem?_eq_none (by omega), List.getElem?_eq_none (by rw [tab_len]; omega)]
theorem tab_mem {n : Nat} {f : Nat → Cell} {c : Cell} (h : c ∈ tab n f) : ∃ i, i < n ∧ c = f i := by
  unfold tab at h
  obtain ⟨i, hi, rfl⟩ := List.mem_map.1 h
  exact ⟨i, by simpa using hi, rfl⟩
theorem mem_tab {n : Nat} {f : Nat → Cell} {i : Nat} (h : i < n) : f i ∈ tab n f := List.mem_map.2 ⟨i, by simpa using h, rfl⟩
theorem tab_sub {n : Nat} (f g : Nat → Cell) : subL (tab n f) (tab n g) = tab n fun i => subC (f i) (g i) := by
  unfold subL tab
  rw [List.zipWith_map, List.zipWith_self]
theorem tab_zero (n : Nat) : List.replicate n zeroCell = tab n fun _ => zeroCell := by
  unfold tab; rw [List.map_const']; simp

/-- The three places are different. -/
theorem places_ne {n : Nat} (h3 : 3 ≤ n) (x : List B) : place n x 0 ≠ place n x 1 ∧ place n x 0 ≠ place n x 2 ∧ place n x 1 ≠ place n x 2 := by
  have h0 := place_lt h3 x (r := 0)
  have h1 := place_lt h3 x (r := 1)
  have h2 := place_lt h3 x (r := 2)
  refine ⟨?_, ?_, ?_⟩ <;> omega
theorem putAt_tab {N : Nat} {x : List B} {by_ : Int} {w : Q} (hx : x.length = 32) (hby : -1 ≤ by_ ∧ by_ ≤ 1) : ∀ (ps : List Nat) (f : Nat → Cell), ps.Nodup → (∀ p ∈ ps, p < N) → (∀ i, i < N → -999999 ≤ (f i).count ∧ (f i).count ≤ 999999) → (∀ i, i < N → (f i).sum.length = 32) →
    putAt x by_ w ps (tab N f) = some (tab N fun i => if i ∈ ps then addC (f i) ⟨by_, x, w⟩ else f i)
  | [], f, _, _, _, _ => by simp [putAt]
  | p :: ps, f, hnd, hp, hb, ho => by
    have hpN := hp p (by simp)
    obtain ⟨h1, h2⟩ := List.nodup_cons.1 hnd
    unfold putAt
    rw [tab_get hpN]
    simp only
    have hbp := hb p hpN
    have hin : inR (stepC (f p) x by_ w) = true := by rw [inR_iff]; simp only [stepC]; omega
    rw [hin]
    simp only
    have hset : (tab N f).set p (stepC (f p) x by_ w) = tab N (fun i => if i = p then stepC (f p) x by_ w else f i) := by
      apply List.ext_getElem?
      intro i
      rw [List.getElem?_set]
      by_cases hip : p = i
      · subst hip
        rw [if_pos rfl, tab_len, if_pos hpN, tab_get hpN, if_pos rfl]
      · rw [if_neg hip]
        by_cases hiN : i < N
        · rw [tab_get hiN, tab_get hiN, if_neg (fun h => hip h.symm)]
        · rw [List.getElem?_eq_none (by rw [tab_len]; omega), List.getElem?_eq_none (by rw [tab_len]; omega)]
    have go : ∀ (qs : List Nat) (g h : Nat → Cell), (∀ q ∈ qs, g q = h q ∧ q < N) → qs.Nodup → (∀ q ∈ qs, -999999 ≤ (g q).count ∧ (g q).count ≤ 999999) → putAt x by_ w qs (tab N h) = some (tab N fun i => if i ∈ qs then addC (g i) ⟨by_, x, w⟩ else h i) := by
      intro qs
      induction qs with
      | nil => intro g h _ _ _; simp [putAt]
      | cons q qs ih =>
        intro g h hg hnd hb
        obtain ⟨n1, n2⟩ := List.nodup_cons.1 hnd
        obtain ⟨e1, e2⟩ := hg q (by simp)
        have hbq := hb q (by simp)
        unfold putAt
        rw [tab_get e2]
        simp only
        have hin : inR (stepC (h q) x by_ w) = true := by rw [inR_iff, ← e1]; simp only [stepC]; omega
        rw [hin]
        simp only
        have hset : (tab N h).set q (stepC (h q) x by_ w) = tab N (fun i => if i = q then stepC (h q) x by_ w else h i) := by
          apply List.ext_getElem?
          intro i
          rw [List.getElem?_set]
          by_cases hip : q = i
          · subst hip
            rw [if_pos rfl, tab_len, if_pos e2, tab_get e2, if_pos rfl]
          · rw [if_neg hip]
            by_cases hiN : i < N
            · rw [tab_get hiN, tab_get hiN, if_neg (fun h => hip h.symm)]
            · rw [List.getElem?_eq_none (by rw [tab_len]; omega), List.getElem?_eq_none (by rw [tab_len]; omega)]
        rw [hset, ih g _ (fun r hr => ⟨by rw [(hg r (by simp [hr])).1, if_neg (fun h => n1 (by rw [← h]; exact hr))], (hg r (by simp [hr])).2⟩) n2 (fun r hr => hb r (by simp [hr]))]
        congr 1
        refine tab_ext fun i hi => ?_
        by_cases hiq : i = q
        · subst hiq
          rw [if_neg n1, if_pos rfl, if_pos (by simp), e1]
          rfl
        · by_cases hiqs : i ∈ qs
          · rw [if_pos hiqs, if_pos (by simp [hiqs])]
          · rw [if_neg hiqs, if_neg hiq, if_neg (by simp [hiq, hiqs])]
    rw [hset, go ps f _ (fun q hq => ⟨by rw [if_neg (fun h => h1 (by rw [← h]; exact hq))], hp q (by simp [hq])⟩) h2 (fun q hq => hb q (hp q (by simp [hq])))]
    congr 1
    refine tab_ext fun i hi => ?_
    by_cases hip : i = p
    · subst hip
      rw [if_neg h1, if_pos rfl, if_pos (by simp)]
      rfl
    · by_cases hiqs : i ∈ ps
      · rw [if_pos hiqs, if_pos (by simp [hiqs])]
      · rw [if_neg hiqs, if_neg hip, if_neg (by simp [hip, hiqs])]
/-- Adding or removing an id, as a sum. -/
theorem changed_tab {N : Nat} (hN : sizedB N = true) {x : List B} {by_ : Int} (hx : x.length = 32) (hby : -1 ≤ by_ ∧ by_ ≤ 1) (f : Nat → Cell) (hb : ∀ i, i < N → -999999 ≤ (f i).count ∧ (f i).count ≤ 999999) (ho : ∀ i, i < N → (f i).sum.length = 32) :
    changed (tab N f) x by_ = some (tab N fun i => addC (f i) (one N x by_ i)) := by
  obtain ⟨M, hM, h3, h48, hmod⟩ := sized_nat hN
  have hM' : N = M := by omega
  subst hM'
  obtain ⟨d1, d2, d3⟩ := places_ne h3 x
  unfold changed
  rw [tab_len, putAt_tab hx hby (placesL N x) f (by simp [placesL, d1, d2, d3]) (fun p hp => by
    simp only [placesL, List.mem_cons, List.not_mem_nil, or_false] at hp
    rcases hp with rfl | rfl | rfl <;> exact place_lt_n h3 hmod x (by omega)) hb ho]
  congr 1
  refine tab_ext fun i hi => ?_
  unfold one
  split
  · rfl
  · rw [addC_zero (ho i hi)]
end Sk
end Go.CM

/-
  Sketches: calls without unknowns, carried out.
-/
namespace Go.CM
open Go Go.Proofs
set_option linter.unusedVariables false
set_option linter.unusedSimpArgs false
set_option maxRecDepth 1000000
namespace Sk
open Sha

def xorF : List CV → Option CV
  | [a, b] => match idOf a, idOf b with
    | some a, some b => some (idC (xorL a b))
    | _, _ => none
  | _ => none
abbrev xorO : FuncId × Bool × (List CV → Option CV) := (57, false, xorF)
theorem xorO_ok : OrcP Tryd.prog GS xorO := by
  intro args r h
  refine ⟨?_, fun h => by cases h⟩
  simp only [xorF] at h
  split at h
  · split at h
    · rename_i a b ha hb
      cases h
      obtain ⟨rfl, h1⟩ := idOf_ok ha
      obtain ⟨rfl, h2⟩ := idOf_ok hb
      exact xor_ok _ _ h1 h2
    · cases h
  · cases h
def wordF : List CV → Option CV
  | [a] => match idOf a with
    | some a => some (.tu [e64 (word a), .int .i64 0])
    | none => none
  | _ => none
abbrev wordO : FuncId × Bool × (List CV → Option CV) := (15, false, wordF)
theorem wordO_ok : OrcP Tryd.prog GS wordO := by
  intro args r h
  refine ⟨?_, fun h => by cases h⟩
  simp only [wordF] at h
  split at h
  · split at h
    · rename_i a ha
      cases h
      obtain ⟨rfl, h1⟩ := idOf_ok ha
      exact word_ok _ h1
    · cases h
  · cases h
def placesF : List CV → Option CV
  | [.int .i64 n, a] => match idOf a with
    | some a => some (match sizedB n with | true => .tu [placesC n.toNat a, .int .i64 0] | false => .tu [.ag [.int .i64 0, .int .i64 0, .int .i64 0], .int .i64 2])
    | none => none
  | _ => none
abbrev placesO : FuncId × Bool × (List CV → Option CV) := (13, false, placesF)
theorem placesO_ok : OrcP Tryd.prog GS placesO := by
  intro args r h
  refine ⟨?_, fun h => by cases h⟩
  simp only [placesF] at h
  split at h
  · split at h
    · rename_i a ha
      cases h
      obtain ⟨rfl, h1⟩ := idOf_ok ha
      exact places_ok _ _ h1
    · cases h
  · cases h
end Sk
end Go.CM

/-
  Sketches: SketchNames, carried out in parts (printed by program).
-/
namespace Go.CM
open Go Go.Proofs
set_option linter.unusedVariables false
set_option maxRecDepth 1000000

-- (some braid/sketch.Of): 29323
abbrev kSketchNamesA0 : List CV := [ji (3)] ++ [.rsl 32 [rep 32 (.int .u8 0), rep 32 (.int .u8 0), rep 32 (.int .u8 0), rep 32 (.int .u8 0), rep 32 (.int .u8 0), rep 32 (.int .u8 0), rep 32 (.int .u8 0), rep 32 (.int .u8 0), rep 32 (.int .u8 0), rep 32 (.int .u8 0), rep 32 (.int .u8 0), rep 32 (.int .u8 0), rep 32 (.int .u8 0), rep 32 (.int .u8 0), rep 32 (.int .u8 0), rep 32 (.int .u8 0), rep 32 (.int .u8 0), rep 32 (.int .u8 0), rep 32 (.int .u8 0), rep 32 (.int .u8 0), rep 32 (.int .u8 0), rep 32 (.int .u8 0), rep 32 (.int .u8 0), rep 32 (.int .u8 0), rep 32 (.int .u8 0), rep 32 (.int .u8 0), rep 32 (.int .u8 0), rep 32 (.int .u8 0), rep 32 (.int .u8 0), rep 32 (.int .u8 0), rep 32 (.int .u8 0), rep 32 (.int .u8 0), rep 32 (.int .u8 0), rep 32 (.int .u8 0), rep 32 (.int .u8 0), rep 32 (.int .u8 0), rep 32 (.int .u8 0), rep 32 (.int .u8 0), rep 32 (.int .u8 0), rep 32 (.int .u8 0), rep 32 (.int .u8 0), rep 32 (.int .u8 0), rep 32 (.int .u8 0), rep 32 (.int .u8 0), rep 32 (.int .u8 0), rep 32 (.int .u8 0), rep 32 (.int .u8 0), rep 32 (.int .u8 0), rep 32 (.int .u8 0), rep 32 (.int .u8 0), rep 32 (.int .u8 0), rep 32 (.int .u8 0), rep 32 (.int .u8 0), rep 32 (.int .u8 0), rep 32 (.int .u8 0), rep 32 (.int .u8 0), rep 32 (.int .u8 0), rep 32 (.int .u8 0), rep 32 (.int .u8 0), rep 32 (.int .u8 0)]]
abbrev kSketchNamesR0 : CV := .tu ([.rsl 34 [[ji (60)] ++ rep 32 (.int .u8 0) ++ [.int .u64 (0)], [ji (60)] ++ rep 32 (.int .u8 0) ++ [.int .u64 (0)], [ji (60)] ++ rep 32 (.int .u8 0) ++ [.int .u64 (0)]]] ++ [ji (0)])
theorem kSketchNames0 : PureN Tryd.prog GS 27 kSketchNamesA0 kSketchNamesR0 :=
  pureN_runs Tryd.checked.mixed GS_closed (orcOf_ok (AllO.mem (allO_cons Sk.xorO_ok (allO_cons Sk.wordO_ok (allO_cons Sk.placesO_ok (allO_nil)))))) tbl_ok (orc := orcOf [Sk.xorO, Sk.wordO, Sk.placesO]) (fuel := 100000) (k := 60) (by kernel_rfl)
-- (some braid/sketch.Peel): 7018
abbrev kSketchNamesA1 : List CV := [.rsl 34 [[ji (0)] ++ rep 32 (.int .u8 0) ++ [.int .u64 (0)], [ji (1)] ++ jb [0, 0, 0, 5, 0, 0, 0, 6, 0, 0, 0, 7, 0, 0, 0, 0, 0, 0, 0, 0, 0, 0, 0, 0, 0, 0, 0, 0, 0, 0, 0, 0] ++ [.int .u64 (5119487410153467689)], [ji (0)] ++ rep 32 (.int .u8 0) ++ [.int .u64 (0)], [ji (0)] ++ rep 32 (.int .u8 0) ++ [.int .u64 (0)], [ji (0)] ++ rep 32 (.int .u8 0) ++ [.int .u64 (0)], [ji (0)] ++ rep 32 (.int .u8 0) ++ [.int .u64 (0)], [ji (1)] ++ jb [0, 0, 0, 5, 0, 0, 0, 6, 0, 0, 0, 7, 0, 0, 0, 0, 0, 0, 0, 0, 0, 0, 0, 0, 0, 0, 0, 0, 0, 0, 0, 0] ++ [.int .u64 (5119487410153467689)], [ji (0)] ++ rep 32 (.int .u8 0) ++ [.int .u64 (0)], [ji (0)] ++ rep 32 (.int .u8 0) ++ [.int .u64 (0)], [ji (0)] ++ rep 32 (.int .u8 0) ++ [.int .u64 (0)], [ji (0)] ++ rep 32 (.int .u8 0) ++ [.int .u64 (0)], [ji (1)] ++ jb [0, 0, 0, 5, 0, 0, 0, 6, 0, 0, 0, 7, 0, 0, 0, 0, 0, 0, 0, 0, 0, 0, 0, 0, 0, 0, 0, 0, 0, 0, 0, 0] ++ [.int .u64 (5119487410153467689)]]]
abbrev kSketchNamesR1 : CV := .tu ([.rsl 32 [jb [0, 0, 0, 5, 0, 0, 0, 6, 0, 0, 0, 7, 0, 0, 0, 0, 0, 0, 0, 0, 0, 0, 0, 0, 0, 0, 0, 0, 0, 0, 0, 0]]] ++ [.nilS] ++ [.rsl 34 [[ji (0)] ++ rep 32 (.int .u8 0) ++ [.int .u64 (0)], [ji (0)] ++ rep 32 (.int .u8 0) ++ [.int .u64 (0)], [ji (0)] ++ rep 32 (.int .u8 0) ++ [.int .u64 (0)], [ji (0)] ++ rep 32 (.int .u8 0) ++ [.int .u64 (0)], [ji (0)] ++ rep 32 (.int .u8 0) ++ [.int .u64 (0)], [ji (0)] ++ rep 32 (.int .u8 0) ++ [.int .u64 (0)], [ji (0)] ++ rep 32 (.int .u8 0) ++ [.int .u64 (0)], [ji (0)] ++ rep 32 (.int .u8 0) ++ [.int .u64 (0)], [ji (0)] ++ rep 32 (.int .u8 0) ++ [.int .u64 (0)], [ji (0)] ++ rep 32 (.int .u8 0) ++ [.int .u64 (0)], [ji (0)] ++ rep 32 (.int .u8 0) ++ [.int .u64 (0)], [ji (0)] ++ rep 32 (.int .u8 0) ++ [.int .u64 (0)]]] ++ [ji (0)])
theorem kSketchNames1 : PureN Tryd.prog GS 31 kSketchNamesA1 kSketchNamesR1 :=
  pureN_runs Tryd.checked.mixed GS_closed (orcOf_ok (AllO.mem (allO_cons Sk.xorO_ok (allO_cons Sk.wordO_ok (allO_cons Sk.placesO_ok (allO_nil)))))) tbl_ok (orc := orcOf [Sk.xorO, Sk.wordO, Sk.placesO]) (fuel := 100000) (k := 60) (by kernel_rfl)
-- (some braid/sketch.Peel): 7021
abbrev kSketchNamesA2 : List CV := [.rsl 34 [[ji (0)] ++ rep 32 (.int .u8 0) ++ [.int .u64 (0)], [ji (-1)] ++ jb [0, 0, 0, 5, 0, 0, 0, 6, 0, 0, 0, 7, 0, 0, 0, 0, 0, 0, 0, 0, 0, 0, 0, 0, 0, 0, 0, 0, 0, 0, 0, 0] ++ [.int .u64 (5119487410153467689)], [ji (0)] ++ rep 32 (.int .u8 0) ++ [.int .u64 (0)], [ji (0)] ++ rep 32 (.int .u8 0) ++ [.int .u64 (0)], [ji (0)] ++ rep 32 (.int .u8 0) ++ [.int .u64 (0)], [ji (0)] ++ rep 32 (.int .u8 0) ++ [.int .u64 (0)], [ji (-1)] ++ jb [0, 0, 0, 5, 0, 0, 0, 6, 0, 0, 0, 7, 0, 0, 0, 0, 0, 0, 0, 0, 0, 0, 0, 0, 0, 0, 0, 0, 0, 0, 0, 0] ++ [.int .u64 (5119487410153467689)], [ji (0)] ++ rep 32 (.int .u8 0) ++ [.int .u64 (0)], [ji (0)] ++ rep 32 (.int .u8 0) ++ [.int .u64 (0)], [ji (0)] ++ rep 32 (.int .u8 0) ++ [.int .u64 (0)], [ji (0)] ++ rep 32 (.int .u8 0) ++ [.int .u64 (0)], [ji (-1)] ++ jb [0, 0, 0, 5, 0, 0, 0, 6, 0, 0, 0, 7, 0, 0, 0, 0, 0, 0, 0, 0, 0, 0, 0, 0, 0, 0, 0, 0, 0, 0, 0, 0] ++ [.int .u64 (5119487410153467689)]]]
abbrev kSketchNamesR2 : CV := .tu ([.nilS] ++ [.rsl 32 [jb [0, 0, 0, 5, 0, 0, 0, 6, 0, 0, 0, 7, 0, 0, 0, 0, 0, 0, 0, 0, 0, 0, 0, 0, 0, 0, 0, 0, 0, 0, 0, 0]]] ++ [.rsl 34 [[ji (0)] ++ rep 32 (.int .u8 0) ++ [.int .u64 (0)], [ji (0)] ++ rep 32 (.int .u8 0) ++ [.int .u64 (0)], [ji (0)] ++ rep 32 (.int .u8 0) ++ [.int .u64 (0)], [ji (0)] ++ rep 32 (.int .u8 0) ++ [.int .u64 (0)], [ji (0)] ++ rep 32 (.int .u8 0) ++ [.int .u64 (0)], [ji (0)] ++ rep 32 (.int .u8 0) ++ [.int .u64 (0)], [ji (0)] ++ rep 32 (.int .u8 0) ++ [.int .u64 (0)], [ji (0)] ++ rep 32 (.int .u8 0) ++ [.int .u64 (0)], [ji (0)] ++ rep 32 (.int .u8 0) ++ [.int .u64 (0)], [ji (0)] ++ rep 32 (.int .u8 0) ++ [.int .u64 (0)], [ji (0)] ++ rep 32 (.int .u8 0) ++ [.int .u64 (0)], [ji (0)] ++ rep 32 (.int .u8 0) ++ [.int .u64 (0)]]] ++ [ji (0)])
theorem kSketchNames2 : PureN Tryd.prog GS 31 kSketchNamesA2 kSketchNamesR2 :=
  pureN_runs Tryd.checked.mixed GS_closed (orcOf_ok (AllO.mem (allO_cons Sk.xorO_ok (allO_cons Sk.wordO_ok (allO_cons Sk.placesO_ok (allO_nil)))))) tbl_ok (orc := orcOf [Sk.xorO, Sk.wordO, Sk.placesO]) (fuel := 100000) (k := 60) (by kernel_rfl)
-- (some braid/sketch.Peel): 5362
abbrev kSketchNamesA3 : List CV := [.rsl 34 [[ji (0)] ++ rep 32 (.int .u8 0) ++ [.int .u64 (0)], [ji (2)] ++ jb [0, 0, 0, 12, 0, 0, 0, 0, 0, 0, 0, 0, 0, 0, 0, 0, 0, 0, 0, 0, 0, 0, 0, 0, 0, 0, 0, 0, 0, 0, 0, 0] ++ [.int .u64 (742507902314508248)], [ji (0)] ++ rep 32 (.int .u8 0) ++ [.int .u64 (0)], [ji (0)] ++ rep 32 (.int .u8 0) ++ [.int .u64 (0)], [ji (0)] ++ rep 32 (.int .u8 0) ++ [.int .u64 (0)], [ji (0)] ++ rep 32 (.int .u8 0) ++ [.int .u64 (0)], [ji (2)] ++ jb [0, 0, 0, 12, 0, 0, 0, 0, 0, 0, 0, 0, 0, 0, 0, 0, 0, 0, 0, 0, 0, 0, 0, 0, 0, 0, 0, 0, 0, 0, 0, 0] ++ [.int .u64 (742507902314508248)], [ji (0)] ++ rep 32 (.int .u8 0) ++ [.int .u64 (0)], [ji (0)] ++ rep 32 (.int .u8 0) ++ [.int .u64 (0)], [ji (0)] ++ rep 32 (.int .u8 0) ++ [.int .u64 (0)], [ji (0)] ++ rep 32 (.int .u8 0) ++ [.int .u64 (0)], [ji (2)] ++ jb [0, 0, 0, 12, 0, 0, 0, 0, 0, 0, 0, 0, 0, 0, 0, 0, 0, 0, 0, 0, 0, 0, 0, 0, 0, 0, 0, 0, 0, 0, 0, 0] ++ [.int .u64 (742507902314508248)]]]
abbrev kSketchNamesR3 : CV := .tu ([.nilS] ++ [.nilS] ++ [.rsl 34 [[ji (0)] ++ rep 32 (.int .u8 0) ++ [.int .u64 (0)], [ji (2)] ++ jb [0, 0, 0, 12, 0, 0, 0, 0, 0, 0, 0, 0, 0, 0, 0, 0, 0, 0, 0, 0, 0, 0, 0, 0, 0, 0, 0, 0, 0, 0, 0, 0] ++ [.int .u64 (742507902314508248)], [ji (0)] ++ rep 32 (.int .u8 0) ++ [.int .u64 (0)], [ji (0)] ++ rep 32 (.int .u8 0) ++ [.int .u64 (0)], [ji (0)] ++ rep 32 (.int .u8 0) ++ [.int .u64 (0)], [ji (0)] ++ rep 32 (.int .u8 0) ++ [.int .u64 (0)], [ji (2)] ++ jb [0, 0, 0, 12, 0, 0, 0, 0, 0, 0, 0, 0, 0, 0, 0, 0, 0, 0, 0, 0, 0, 0, 0, 0, 0, 0, 0, 0, 0, 0, 0, 0] ++ [.int .u64 (742507902314508248)], [ji (0)] ++ rep 32 (.int .u8 0) ++ [.int .u64 (0)], [ji (0)] ++ rep 32 (.int .u8 0) ++ [.int .u64 (0)], [ji (0)] ++ rep 32 (.int .u8 0) ++ [.int .u64 (0)], [ji (0)] ++ rep 32 (.int .u8 0) ++ [.int .u64 (0)], [ji (2)] ++ jb [0, 0, 0, 12, 0, 0, 0, 0, 0, 0, 0, 0, 0, 0, 0, 0, 0, 0, 0, 0, 0, 0, 0, 0, 0, 0, 0, 0, 0, 0, 0, 0] ++ [.int .u64 (742507902314508248)]]] ++ [ji (0)])
theorem kSketchNames3 : PureN Tryd.prog GS 31 kSketchNamesA3 kSketchNamesR3 :=
  pureN_runs Tryd.checked.mixed GS_closed (orcOf_ok (AllO.mem (allO_nil))) tbl_ok (orc := orcOf []) (fuel := 100000) (k := 60) (by kernel_rfl)
-- (some braid/braidlaw39.alive): 9375
abbrev kSketchNamesA4 : List CV := []
abbrev kSketchNamesR4 : CV := .bool true
theorem kSketchNames4 : PureN Tryd.prog GS 34 kSketchNamesA4 kSketchNamesR4 :=
  pureN_runs Tryd.checked.mixed GS_closed (orcOf_ok (AllO.mem (allO_cons Sk.xorO_ok (allO_cons Sk.wordO_ok (allO_cons Sk.placesO_ok (allO_cons (pickO_ok (allK_cons kSketchNames1 (allK_cons kSketchNames2 (allK_cons kSketchNames3 (allK_nil))))) (allO_nil))))))) tbl_ok (orc := orcOf [Sk.xorO, Sk.wordO, Sk.placesO, (31, true, pickA [(kSketchNamesA1, kSketchNamesR1), (kSketchNamesA2, kSketchNamesR2), (kSketchNamesA3, kSketchNamesR3)])]) (fuel := 100000) (k := 60) (by kernel_rfl)
theorem kSketchNames_run : CallP Tryd.prog GS 7 [] [] (c := ⟨fun r _ => r = .bool true⟩) :=
  callP_of_runs (orcOf_ok (AllO.mem (allO_cons sumO_ok (allO_cons Sk.xorO_ok (allO_cons Sk.wordO_ok (allO_cons Sk.placesO_ok (allO_cons (pickO_ok (allK_cons kSketchNames4 (allK_nil))) (allO_cons (pickO_ok (allK_cons kSketchNames0 (allK_nil))) (allO_nil))))))))) tbl_ok (orc := orcOf [sumO, Sk.xorO, Sk.wordO, Sk.placesO, (34, true, pickA [(kSketchNamesA4, kSketchNamesR4)]), (27, true, pickA [(kSketchNamesA0, kSketchNamesR0)])]) (fuel := 100000) (k := 60) (by kernel_rfl)
end Go.CM

/-
  Sketches: SketchOrder, walked.
-/
namespace Go.CM
open Go Go.Proofs Go.Sort Go.Shelf
set_option linter.unusedVariables false
set_option linter.unusedSimpArgs false
set_option maxRecDepth 100000
namespace Sk
open Sha

theorem alive_ok : PureC Tryd.prog GS 34 [] (.bool true) := kSketchNames4.toC
def smallB (s : Sketch) : Bool := (s.l.all fun c => decide (-900000 ≤ c.count ∧ c.count ≤ 900000)) && decide (chk s = 0)
theorem tyA_skl {ts : List TypeId} {cs : List CV} (h : TyA Tryd.prog (22 :: ts) cs) : ∃ (s : Sketch) (cs' : List CV), cs = encSk s :: cs' ∧ okSk s ∧ s.l.length ≤ maxLen ∧ TyA Tryd.prog ts cs' := by
  obtain ⟨c, cs', rfl, h1, h2⟩ := tyA_cons h
  obtain ⟨s, cs1, hs, hl, hi, h3⟩ := ty_sl (e := 69) (z := 34) (by kernel_rfl) (by kernel_rfl) ty_cell (tyV_one (by kernel_rfl) h1)
  cases hs
  exact ⟨s, cs', rfl, hi, hl, h2⟩
theorem refCheck_big (s : Sketch) (ho : okSk s) : PureC Tryd.prog GS 23 [encSk s] (.int .i64 (chk s)) := by
  by_cases hl : s.l.length ≤ 1000000000
  · exact refCheck_ok s ho hl
  · refine pure_of Tryd.checked.mixed GS_closed ?_
    apply call_intro c23_eq r23_eq
    unfold c23 r23
    have hlen : lenM (.sl 34) (encSk s) = some (.int .i64 s.l.length) := len_encS _
    have h1 : sizedB s.l.length = false := by unfold sizedB; exact decide_eq_false (by omega)
    have h2 : chk s = 8 := by unfold chk; rw [if_neg (by rw [h1]; simp)]
    simp [hlen]
    refine pure_call (refSize_ok s.l.length) rfl ?_
    simp [h1, h2]
    exact rd_eq rfl rfl
theorem small_ok (s : Sketch) (ho : okSk s) (hl : s.l.length ≤ maxLen) : PureC Tryd.prog GS 42 [encSk s] (.bool (smallB s)) := by
  refine pure_of Tryd.checked.mixed GS_closed ?_
  apply call_intro c42_eq r42_eq
  unfold c42 r42
  have hlen : lenM (.sl 34) (encSk s) = some (.int .i64 s.l.length) := len_encS _
  have hcs := closed_sk s
  simp
  refine loop_up s.l.length (fun k σ l => σ 0 = encSk s ∧ σ 3 = .int .i64 k ∧ ∀ (j : Nat) (c : Cell), j < k → s.l[j]? = some c → -900000 ≤ c.count ∧ c.count ≤ 900000) ?_ (by simp)
  rintro k σ l hk ⟨g0, g3, hs⟩
  obtain ⟨σ, rfl⟩ := upds2 g0 g3
  clear g0 g3
  unfold l42_0
  by_cases h : k < s.l.length
  · obtain ⟨c, hc, hcm⟩ := get_of h
    have hmax : maxLen = 9223372036854775807 := rfl
    have hwk : IntKind.i64.wrap ((k : Int) + 1) = (k + 1 : Nat) := wrap_i64 (by omega) (by omega)
    have hia : iaC (.sl 34) (encSk s) (.int .i64 k) = some (.rptr (encCell c) 0) := by unfold encSk; rw [ia_encS]; simp [hc]
    obtain ⟨C, hC⟩ : ∃ C, C = encCell c := ⟨_, rfl⟩
    obtain ⟨p1, p2, p3, p4⟩ := ldA_of (ho c hcm) hC
    rw [← hC] at hia
    have hbad : ¬ (-900000 ≤ c.count ∧ c.count ≤ 900000) → smallB s = false := fun hb => by
      unfold smallB
      have : (s.l.all fun c => decide (-900000 ≤ c.count ∧ c.count ≤ 900000)) = false := by
        rw [List.all_eq_false]; exact ⟨c, hcm, by simpa using hb⟩
      rw [this]; rfl
    by_cases h1 : c.count < -900000
    · simp [hlen, h, hia, p2, h1, hbad (by omega)]
      exact rd_eq rfl rfl
    · by_cases h2 : 900000 < c.count
      · simp [hlen, h, hia, p2, h1, h2, hbad (by omega)]
        exact rd_eq rfl rfl
      · simp [hlen, h, hia, p2, h1, h2, hwk]
        intro j d hj hd
        by_cases hjk : j = k
        · subst hjk; rw [hc] at hd; cases hd; omega
        · exact hs j d (by omega) hd
  · have hall : (s.l.all fun c => decide (-900000 ≤ c.count ∧ c.count ≤ 900000)) = true := by
      rw [List.all_eq_true]
      intro c hc
      obtain ⟨j, hj⟩ := List.mem_iff_getElem?.1 hc
      simpa using hs j c (by have := (List.getElem?_eq_some_iff.1 hj).1; omega) hj
    simp [hlen, h]
    refine pure_call (refCheck_big s ho) (by simp [closedL, hcs]) ?_
    simp
    exact rd_bool (by unfold smallB; rw [hall]; simp)
theorem slice_ids_to (s : Ids) (k : Nat) (hk : k ≤ s.l.length) : sliceM (.sl 32) (encIds s) none (some (.int .i64 (k : Int))) none = some (encIds (s.map fun l => l.take k)) := by
  cases s with
  | none => simp at hk; subst hk; rfl
  | some l =>
    have := slice_to (z := 32) (enc := eId) (l := l) (k := .i64) (i := (k : Int)) (by omega) (by simpa using hk)
    simpa [encIds] using this
theorem slice_ids_from (s : Ids) (k : Nat) (hk : k ≤ s.l.length) : sliceM (.sl 32) (encIds s) (some (.int .i64 (k : Int))) none none = some (encIds (s.map fun l => l.drop k)) := by
  cases s with
  | none => simp at hk; subst hk; rw [show encIds none = .nilS from rfl, sliceM_nil]; rfl
  | some l =>
    have := slice_from (z := 32) (enc := eId) (l := l) (k := .i64) (i := (k : Int)) (by omega) (by simpa using hk)
    simpa [encIds] using this
theorem map_l (s : Ids) (f : List (List B) → List (List B)) (h : f [] = []) : Sv.l (s.map f) = f s.l := by cases s with | none => exact h.symm | some l => rfl

/-! ### Sums -/
def acc (N : Nat) (c : Cell) (ids : List (List B)) (i : Nat) : Cell := ids.foldl (fun c x => addC c (one N x 1 i)) c
theorem acc_len {N : Nat} {i : Nat} : ∀ {ids : List (List B)} {c : Cell}, (∀ x ∈ ids, x.length = 32) → c.sum.length = 32 → (acc N c ids i).sum.length = 32
  | [], c, _, h => h
  | x :: ids, c, hi, h => acc_len (ids := ids) (fun y hy => hi y (by simp [hy])) (addC_len h (one_len (hi x (by simp)) _ _))
theorem one_bnd (N : Nat) (x : List B) (i : Nat) : 0 ≤ (one N x 1 i).count ∧ (one N x 1 i).count ≤ 1 := by unfold one; split <;> simp [zeroCell]
theorem acc_bnd {N : Nat} {i : Nat} : ∀ {ids : List (List B)} {c : Cell} {m : Int}, -m ≤ c.count ∧ c.count ≤ m → -(m + ids.length) ≤ (acc N c ids i).count ∧ (acc N c ids i).count ≤ m + ids.length
  | [], c, m, h => by simpa [acc] using h
  | x :: ids, c, m, h => by
    have h1 := one_bnd N x i
    have := acc_bnd (N := N) (i := i) (ids := ids) (c := addC c (one N x 1 i)) (m := m + 1) (by simp only [addC]; omega)
    simp only [List.length_cons]
    have e : acc N c (x :: ids) i = acc N (addC c (one N x 1 i)) ids i := rfl
    rw [e]; omega
theorem acc_sub {N : Nat} {i : Nat} : ∀ (ids : List (List B)) (a b : Cell), subC (acc N a ids i) b = acc N (subC a b) ids i
  | [], a, b => rfl
  | x :: ids, a, b => by
    show subC (acc N (addC a (one N x 1 i)) ids i) b = acc N (addC (subC a b) (one N x 1 i)) ids i
    rw [acc_sub ids]
    congr 1
    rw [subC_add, subC_add, addC_right]
theorem addAll_tab {N : Nat} (hN : sizedB N = true) : ∀ (ids : List (List B)) (f : Nat → Cell) (m : Int), (∀ x ∈ ids, x.length = 32) → (∀ i, i < N → -m ≤ (f i).count ∧ (f i).count ≤ m) → (∀ i, i < N → (f i).sum.length = 32) → m + ids.length ≤ 999999 →
    addAll (tab N f) ids = tab N fun i => acc N (f i) ids i
  | [], f, m, _, _, _, _ => rfl
  | x :: ids, f, m, hi, hb, ho, hm => by
    simp only [List.length_cons] at hm
    have hx := hi x (by simp)
    have e : addAll (tab N f) (x :: ids) = addAll ((changed (tab N f) x 1).getD []) ids := rfl
    rw [e, changed_tab hN hx (by omega) f (fun i h => by have := hb i h; omega) ho]
    simp only [Option.getD_some]
    rw [addAll_tab hN ids _ (m + 1) (fun y hy => hi y (by simp [hy])) (fun i h => by have := hb i h; have := one_bnd N x i; simp only [addC]; omega) (fun i h => addC_len (ho i h) (one_len hx _ _)) (by omega)]
    rfl
/-- A valid sketch with bounded counts, as a table. -/
structure Tb (N : Nat) (m : Int) (f : Nat → Cell) : Prop where
  sz : sizedB N = true
  b : ∀ i, i < N → -m ≤ (f i).count ∧ (f i).count ≤ m
  o : ∀ i, i < N → (f i).sum.length = 32
theorem Tb.chk {N : Nat} {m : Int} {f : Nat → Cell} (h : Tb N m f) (hm : m ≤ 1000000) : chk (some (tab N f)) = 0 := by
  refine chk_of (by rw [Sv.l_some, tab_len]; exact h.sz) fun c hc => ?_
  obtain ⟨i, hi, rfl⟩ := tab_mem hc
  have := h.b i hi
  omega
theorem Tb.ok {N : Nat} {m : Int} {f : Nat → Cell} (h : Tb N m f) : okSk (some (tab N f)) := fun c hc => by
  obtain ⟨i, hi, rfl⟩ := tab_mem hc
  exact h.o i hi
theorem one_bnd2 (N : Nat) (x : List B) (by_ : Int) (i : Nat) (h : -1 ≤ by_ ∧ by_ ≤ 1) : -1 ≤ (one N x by_ i).count ∧ (one N x by_ i).count ≤ 1 := by unfold one; split <;> simp [zeroCell]; omega
theorem Tb.put {N : Nat} {m : Int} {f : Nat → Cell} (h : Tb N m f) (hm : m ≤ 999999) {x : List B} (hx : x.length = 32) {by_ : Int} (hby : -1 ≤ by_ ∧ by_ ≤ 1) :
    put (some (tab N f)) x by_ = (some (tab N fun i => addC (f i) (one N x by_ i)), 0) ∧ Tb N (m + 1) fun i => addC (f i) (one N x by_ i) := by
  refine ⟨put_of (h.chk (by omega)) (changed_tab h.sz hx hby f (fun i hi => by have := h.b i hi; omega) h.o), h.sz, fun i hi => ?_, fun i hi => addC_len (h.o i hi) (one_len hx _ _)⟩
  have := h.b i hi
  have := one_bnd2 N x by_ i hby
  simp only [addC]; omega
theorem Tb.size {N : Nat} {m : Int} {f : Nat → Cell} (h : Tb N m f) : 3 ≤ N ∧ N ≤ 48 := by
  obtain ⟨M, hM, h3, h48, _⟩ := sized_nat h.sz
  omega
theorem Tb.of {s : Sketch} (h : smallB s = true) (ho : okSk s) : ∃ f, s = some (tab s.l.length f) ∧ Tb s.l.length 900000 f := by
  unfold smallB at h
  simp only [Bool.and_eq_true, decide_eq_true_eq] at h
  obtain ⟨h1, h2⟩ := h
  obtain ⟨h3, h4⟩ := chk_0 h2
  rw [List.all_eq_true] at h1
  have hs : s = some s.l := by
    cases s with
    | none => obtain ⟨M, hM, k3, _⟩ := sized_nat h3; simp at hM; omega
    | some l => rfl
  have hg : ∀ i, i < s.l.length → s.l.getD i zeroCell ∈ s.l := fun i hi => by rw [List.getD_eq_getElem?_getD, List.getElem?_eq_getElem hi]; exact List.getElem_mem hi
  refine ⟨fun i => s.l.getD i zeroCell, ?_, h3, fun i hi => by simpa using h1 _ (hg i hi), fun i hi => ho _ (hg i hi)⟩
  rw [← tab_of]; exact hs
theorem ofS_tab {N : Nat} (hN : sizedB N = true) {ids : List (List B)} (hi : ∀ x ∈ ids, x.length = 32) (hl : ids.length ≤ 60) : ofS N ids = (some (tab N fun i => acc N zeroCell ids i), 0) ∧ Tb N 60 fun i => acc N zeroCell ids i := by
  constructor
  · unfold ofS
    rw [hN]
    simp only
    rw [if_neg (by omega), Int.toNat_natCast, tab_zero, addAll_tab hN ids (fun _ => zeroCell) 0 hi (fun i h => by simp [zeroCell]) (fun i h => rfl) (by omega)]
  · refine ⟨hN, fun i h => ?_, fun i h => acc_len hi rfl⟩
    have := acc_bnd (N := N) (i := i) (ids := ids) (c := zeroCell) (m := 0) (by simp [zeroCell])
    omega
theorem Tb.sub {N : Nat} {m m' : Int} {f g : Nat → Cell} (hf : Tb N m f) (hg : Tb N m' g) (hm : m ≤ 1000000) (hm' : m' ≤ 1000000) (hd : ∀ i, i < N → -1000000 ≤ (subC (f i) (g i)).count ∧ (subC (f i) (g i)).count ≤ 1000000) :
    subS (some (tab N f)) (some (tab N g)) = (some (tab N fun i => subC (f i) (g i)), 0) := by
  unfold subS
  rw [if_pos (hf.chk hm), if_pos (hg.chk hm'), if_pos (by rw [Sv.l_some, Sv.l_some, tab_len, tab_len]), Sv.l_some, Sv.l_some, tab_sub, if_pos]
  rw [List.all_eq_true]
  intro c hc
  obtain ⟨i, hi, rfl⟩ := tab_mem hc
  rw [inR_iff]; exact hd i hi
end Sk
end Go.CM

/-
  Sketches: SketchOrder, the law.
-/
namespace Go.CM
open Go Go.Proofs Go.Sort Go.Shelf
set_option linter.unusedVariables false
set_option linter.unusedSimpArgs false
set_option maxRecDepth 100000
namespace Sk
open Sha

set_option maxHeartbeats 16000000 in
theorem order_call (s : Sketch) (x y : List B) (ids : Ids) (at_ : Int) (hs : okSk s) (hsl : s.l.length ≤ maxLen) (hx : x.length = 32) (hy : y.length = 32) (hi : okIds ids) : CallP Tryd.prog GS 9 [encSk s, idC x, idC y, encIds ids, .int .i64 at_] [] (c := ⟨fun r _ => r = .bool true⟩) := by
  apply call_intro c9_eq r9_eq
  unfold c9 r9
  have hcs := closed_sk s
  have hci := closed_ids ids
  have hlen : lenM (.sl 32) (encIds ids) = some (.int .i64 ids.l.length) := len_encS _
  have hslen : lenM (.sl 34) (encSk s) = some (.int .i64 s.l.length) := len_encS _
  obtain ⟨X, hX⟩ : ∃ X, X = x.map e8 := ⟨_, rfl⟩
  obtain ⟨Y, hY⟩ : ∃ Y, Y = y.map e8 := ⟨_, rfl⟩
  have hXl : X.length = 32 := by rw [hX, List.length_map, hx]
  have hYl : Y.length = 32 := by rw [hY, List.length_map, hy]
  have hXc : closedL X = true := by rw [hX]; exact closedL_map e8 (fun _ => rfl) _
  have hYc : closedL Y = true := by rw [hY]; exact closedL_map e8 (fun _ => rfl) _
  unfold idC
  rw [← hX, ← hY]
  simp [hXl, hYl]
  refine pure_call alive_ok rfl ?_
  simp
  refine pure_call (small_ok s hs hsl) (by simp [closedL, hcs]) ?_
  cases hsm : smallB s with
  | false => simp
  | true =>
    by_cases h25 : 25 < ids.l.length
    · have h25' : (25 : Int) < ids.l.length := by omega
      simp [hlen, h25']
    · have h25' : ¬ (25 : Int) < ids.l.length := by omega
      by_cases hat : at_ < 0
      · simp [hlen, h25', hat]
      · obtain ⟨k, rfl⟩ := Int.eq_ofNat_of_zero_le (show 0 ≤ at_ by omega)
        by_cases hk : ids.l.length < k
        · simp [hlen, h25', hat, hk]
        · obtain ⟨f, hf, T⟩ := Tb.of hsm hs
          obtain ⟨N, hN⟩ : ∃ N, N = s.l.length := ⟨_, rfl⟩
          rw [← hN] at hf T hslen
          obtain ⟨h3, h48⟩ := T.size
          obtain ⟨e1, T1⟩ := T.put (by omega) hx (by_ := 1) (by omega)
          obtain ⟨e2, T2⟩ := T1.put (by omega) hy (by_ := 1) (by omega)
          obtain ⟨e3, T3⟩ := T.put (by omega) hy (by_ := 1) (by omega)
          obtain ⟨e4, T4⟩ := T3.put (by omega) hx (by_ := 1) (by omega)
          obtain ⟨e5, T5⟩ := T2.put (by omega) hx (by_ := -1) (by omega)
          have q1 : (fun i => addC (addC (f i) (one N y 1 i)) (one N x 1 i)) = fun i => addC (addC (f i) (one N x 1 i)) (one N y 1 i) := by funext i; exact addC_right _ _ _
          have q2 : tab N (fun i => addC (addC (addC (f i) (one N x 1 i)) (one N y 1 i)) (one N x (-1) i)) = tab N fun i => addC (f i) (one N y 1 i) := tab_ext fun i hi => by
            rw [addC_right, addC_assoc (f i), ← one_neg N x 1 i, addC_neg (one_len hx _ _), addC_zero (T.o i hi)]
          rw [q1] at e4
          rw [q2] at e5
          have hlN : ∀ g : Nat → Cell, (Sv.l (some (tab N g))).length ≤ 1000000000 := fun g => by rw [Sv.l_some, tab_len]; omega
          have hlN2 : ∀ g : Nat → Cell, (Sv.l (some (tab N g))).length ≤ 1000000 := fun g => by rw [Sv.l_some, tab_len]; omega
          have c1 := add_ok (some (tab N f)) x T.ok (hlN _) hx
          have c2 := add_ok _ y T1.ok (hlN _) hy
          have c3 := add_ok (some (tab N f)) y T.ok (hlN _) hy
          have c4 := add_ok _ x T3.ok (hlN _) hx
          have c5 := remove_ok _ x T2.ok (hlN _) hx
          rw [e1] at c1
          rw [e2] at c2
          rw [e3] at c3
          rw [e4] at c4
          rw [e5] at c5
          unfold idC at c1 c2 c3 c4 c5
          rw [← hX] at c1 c4 c5
          rw [← hY] at c2 c3
          have hi' : ∀ z ∈ ids.l, z.length = 32 := hi
          have hkl : k ≤ ids.l.length := by omega
          obtain ⟨u1, U1⟩ := ofS_tab T.sz (ids := ids.l) hi' (by omega)
          obtain ⟨u2, U2⟩ := ofS_tab T.sz (ids := ids.l.take k) (fun z hz => hi' z (List.mem_of_mem_take hz)) (by simp; omega)
          obtain ⟨u3, U3⟩ := ofS_tab T.sz (ids := ids.l.drop k) (fun z hz => hi' z (List.mem_of_mem_drop hz)) (by simp; omega)
          have hto : Sv.l (ids.map fun l => l.take k) = ids.l.take k := map_l ids _ (by simp)
          have hfr : Sv.l (ids.map fun l => l.drop k) = ids.l.drop k := map_l ids _ (by simp)
          have o2 : okIds (ids.map fun l => l.take k) := fun z hz => by rw [hto] at hz; exact hi' z (List.mem_of_mem_take hz)
          have o3 : okIds (ids.map fun l => l.drop k) := fun z hz => by rw [hfr] at hz; exact hi' z (List.mem_of_mem_drop hz)
          have d1 := of_ok (N : Int) ids hi (by omega)
          have d2 := of_ok (N : Int) (ids.map fun l => l.take k) o2 (by rw [hto, List.length_take]; omega)
          have d3 := of_ok (N : Int) (ids.map fun l => l.drop k) o3 (by rw [hfr, List.length_drop]; omega)
          rw [u1] at d1
          rw [hto, u2] at d2
          rw [hfr, u3] at d3
          have hsubc : ∀ i, i < N → subC (acc N zeroCell ids.l i) (acc N zeroCell (ids.l.take k) i) = acc N zeroCell (ids.l.drop k) i := fun i hi2 => by
            have happ : acc N zeroCell ids.l i = acc N (acc N zeroCell (ids.l.take k) i) (ids.l.drop k) i := by
              unfold acc; rw [← List.foldl_append, List.take_append_drop]
            rw [happ, acc_sub, subC_add, addC_neg (U2.o i hi2)]
          have e6 := U1.sub U2 (by omega) (by omega) (fun i hi2 => by rw [hsubc i hi2]; have := U3.b i hi2; omega)
          rw [tab_ext hsubc] at e6
          have d4 := sub_ok _ _ U1.ok U2.ok (hlN2 _) (hlN2 _)
          rw [e6] at d4
          have s1 := same_ok _ _ T2.ok T2.ok (hlN2 _)
          have s2 := same_ok _ _ T3.ok T3.ok (hlN2 _)
          have s3 := same_ok _ _ U3.ok U3.ok (hlN2 _)
          simp only [decide_true] at s1 s2 s3
          have z1 := slice_ids_to ids k hkl
          have z2 := slice_ids_from ids k hkl
          rw [hf]
          rw [hf] at hslen
          have t1 : X.take 32 = X := List.take_of_length_le (by omega)
          have t2 : Y.take 32 = Y := List.take_of_length_le (by omega)
          simp [hlen, h25', hat, hk, hXl, hYl, t1, t2]
          refine pure_call c1 (by simp [closedL, CV.closed, closed_sk, hXc]) ?_
          simp [hXl, hYl, t1, t2]
          refine pure_call c2 (by simp [closedL, CV.closed, closed_sk, hYc]) ?_
          simp [hXl, hYl, t1, t2]
          refine pure_call c3 (by simp [closedL, CV.closed, closed_sk, hYc]) ?_
          simp [hXl, hYl, t1, t2]
          refine pure_call c4 (by simp [closedL, CV.closed, closed_sk, hXc]) ?_
          simp [hXl, hYl, t1, t2]
          refine pure_call c5 (by simp [closedL, CV.closed, closed_sk, hXc]) ?_
          simp
          refine pure_call s1 (by simp [closedL, CV.closed, closed_sk]) ?_
          simp
          refine pure_call s2 (by simp [closedL, CV.closed, closed_sk]) ?_
          simp [hslen]
          refine pure_call d1 (by simp [closedL, CV.closed, hci]) ?_
          simp [z1]
          refine pure_call d2 (by simp [closedL, CV.closed, closed_ids]) ?_
          simp [z2]
          refine pure_call d3 (by simp [closedL, CV.closed, closed_ids]) ?_
          simp
          refine pure_call d4 (by simp [closedL, CV.closed, closed_sk]) ?_
          simp
          refine pure_call s3 (by simp [closedL, CV.closed, closed_sk]) ?_
          simp
end Sk
end Go.CM
