/-
  Sketches: peeling, as data; the program's Peel, walked.
-/
import Derived.Test.YtacddnkgkogabaaDoorKj
namespace Go.CM
open Go Go.Proofs Go.Sort Go.Shelf
set_option linter.unusedVariables false
set_option linter.unusedSimpArgs false
set_option maxRecDepth 100000
namespace Sk
open Sha

/-- What peeling gives: an error, or the left ones, the right ones (in the order in which they are taken), and the rest. -/
abbrev PR := Int ⊕ (List (List B) × List (List B) × List Cell)
def peelR : Nat → List Cell → List (List B) → List (List B) → List (List B) → PR
  | 0, _, _, _, _ => .inl 0
  | f + 1, now, l, r, done => match nextN now done with
    | none => .inr (l, r, now)
    | some i => match now[i]? with
      | none => .inl 0
      | some c => match Nat.beq done.length 60 with
        | true => .inl 4
        | false => match changed now c.sum (-c.count) with
          | none => .inl 16
          | some t => match decide (0 < c.count) with
            | true => peelR f t (l ++ [c.sum]) r (done ++ [c.sum])
            | false => peelR f t l (r ++ [c.sum]) (done ++ [c.sum])
def sortB (l : List (List B)) : List (List B) := l.mergeSort fun x y => !ltB y x
def svB (l : List (List B)) : Ids := match l with | [] => none | a :: r => some (sortB (a :: r))
def peelE (s : Sketch) : PR := if chk s = 0 then peelR 62 s.l [] [] [] else .inl (chk s)
def peelC : PR → CV
  | .inl e => .tu [.nilS, .nilS, .nilS, .int .i64 e]
  | .inr (l, r, now) => .tu [encIds (svB l), encIds (svB r), encSk (some now), .int .i64 0]
theorem clone_ok (s : Sketch) (ho : okSk s) (hl : s.l.length ≤ 1000000000) : PureC Tryd.prog GS 56 [encSk s] (encSk s) := by
  refine pure_of Tryd.checked.mixed GS_closed ?_
  exact cloneS_own ho hl fun v j l' hown _ _ _ hnil => hown.q.rd_enc closed_cell s hnil rfl
theorem nextN_some {now : List Cell} {done : List (List B)} {i : Nat} (h : nextN now done = some i) : i < now.length ∧ wants now done i = true ∧ ∀ j, j < i → wants now done j = false := by
  unfold nextN at h
  obtain ⟨h1, k, hk, h2, h3⟩ := List.find?_eq_some_iff_getElem.1 h
  simp at h2 hk
  subst h2
  exact ⟨hk, h1, fun j hj => by have := h3 j hj; simpa using this⟩
theorem wants_iff {now : List Cell} {done : List (List B)} {i : Nat} {c : Cell} (hc : now[i]? = some c) : wants now done i = (pureB now.length c i && !decide (c.sum ∈ done)) := by unfold wants; rw [hc]
theorem pure_count {n : Nat} {c : Cell} {i : Nat} (h : pureB n c i = true) : c.count = 1 ∨ c.count = -1 := by
  unfold pureB at h; simp at h; exact h.1.1
theorem changed_len {l : List Cell} {id : List B} {by_ : Int} {t : List Cell} (h : changed l id by_ = some t) : t.length = l.length := by
  have go : ∀ (ps : List Nat) (w : Q) (l : List Cell) t, putAt id by_ w ps l = some t → t.length = l.length := by
    intro ps w
    induction ps with
    | nil => intro l t ht; cases ht; rfl
    | cons p ps ih =>
      intro l t ht
      unfold putAt at ht
      split at ht
      · cases ht
      · split at ht
        · have := ih _ t ht; simpa using this
        · cases ht
  exact go _ _ _ _ h
theorem changed_ok2 {l : List Cell} {id : List B} {by_ : Int} {t : List Cell} (hid : id.length = 32) (h : changed l id by_ = some t) (ho : ∀ c ∈ l, inR c = true ∧ c.sum.length = 32) : ∀ c ∈ t, inR c = true ∧ c.sum.length = 32 := by
  have go : ∀ (ps : List Nat) (w : Q) (l : List Cell), (∀ c ∈ l, inR c = true ∧ c.sum.length = 32) → ∀ t, putAt id by_ w ps l = some t → ∀ c ∈ t, inR c = true ∧ c.sum.length = 32 := by
    intro ps w
    induction ps with
    | nil => intro l hl t ht; cases ht; exact hl
    | cons p ps ih =>
      intro l hl t ht
      unfold putAt at ht
      split at ht
      · cases ht
      · rename_i c hc
        split at ht
        · rename_i hin
          refine ih _ (fun x hx => ?_) t ht
          rcases List.mem_or_eq_of_mem_set hx with h | h
          · exact hl x h
          · subst h; exact ⟨hin, xorL_len (hl c (List.mem_of_getElem? hc)).2 hid⟩
        · cases ht
  exact go _ _ _ ho _ h
/-- What a sketch is while it is peeled. -/
structure Now (N : Nat) (now : List Cell) : Prop where
  len : now.length = N
  sz : sizedB N = true
  c : ∀ c ∈ now, inR c = true ∧ c.sum.length = 32
theorem Now.chk {N : Nat} {now : List Cell} (h : Now N now) : chk (some now) = 0 := by
  unfold Sk.chk
  rw [if_pos ⟨by rw [Sv.l_some, h.len]; exact h.sz, List.all_eq_true.2 fun c hc => (h.c c hc).1⟩]
theorem Now.step {N : Nat} {now t : List Cell} {id : List B} {by_ : Int} (h : Now N now) (hid : id.length = 32) (ht : changed now id by_ = some t) : Now N t := ⟨by rw [changed_len ht, h.len], h.sz, changed_ok2 hid ht h.c⟩
theorem Now.of {s : Sketch} (h : Sk.chk s = 0) (ho : okSk s) : Now s.l.length s.l := by
  obtain ⟨h1, h2⟩ := chk_0 h
  exact ⟨rfl, h1, fun c hc => ⟨h2 c hc, ho c hc⟩⟩
/-- What is known between two rounds. -/
structure PI (N : Nat) (R : PR) (now : List Cell) (l r done : List (List B)) : Prop where
  nw : Now N now
  hd : done.length = l.length + r.length
  h60 : done.length ≤ 60
  ids : ∀ i ∈ done, i.length = 32
  li : ∀ i ∈ l, i.length = 32
  ri : ∀ i ∈ r, i.length = 32
  res : peelR (62 - done.length) now l r done = R
theorem neg_wrap {n : Int} (h : n = 1 ∨ n = -1) : IntKind.i64.wrap (-n) = -n := by rcases h with h | h <;> subst h <;> rfl
theorem idx_of : ∀ {xs : List (List B)}, (∀ i ∈ xs, i.length = 32) → ∃ ys : List Idx, ys.map (·.1) = xs
  | [], _ => ⟨[], rfl⟩
  | x :: xs, h => by
    obtain ⟨ys, hy⟩ := idx_of (xs := xs) fun i hi => h i (by simp [hi])
    exact ⟨⟨x, h x (by simp)⟩ :: ys, by simp [hy]⟩
theorem sorted_map (ys : List Idx) : (sorted cmpX ys).map (·.1) = sortB (ys.map (·.1)) := by
  unfold sorted sortB
  rw [List.map_mergeSort]
  intro a _ b _
  rfl
theorem sort_nil : PureN Tryd.prog GS 59 [.nilS, .fn 60 [] []] (.tu []) :=
  pureN_runs Tryd.checked.mixed GS_closed (noO_ok _ _) tbl_ok (fuel := 100) (k := 10) (by kernel_rfl)
theorem sort_call {l : Hl} {v : CV} {j : Nat} {xs : List (List B)} (hx : ∀ i ∈ xs, i.length = 32) (hl : xs.length ≤ 1000000) (hn : isNilS v = xs.isEmpty) (h : OwnS 32 l v j (xs.map eId)) {K : CV → Hl → Prop}
    (hK : ∀ l', l'.length = l.length → (∀ b, v = .nilS ∨ b ≠ j → l'[b]? = l[b]?) → OwnQ 32 l' v j ((sortB xs).map eId) → K (.tu []) l') : CallP Tryd.prog GS 59 [v, .fn 60 [] []] l (c := ⟨K⟩) := by
  by_cases hnil : xs = []
  · subst hnil
    have hvn : v = .nilS := isNil_iff.1 (by rw [hn]; rfl)
    subst hvn
    exact pure_call sort_nil.toC rfl (hK l rfl (fun _ _ => rfl) (by simpa [sortB] using OwnQ.nil j))
  · obtain ⟨ys, hy⟩ := idx_of hx
    have he : ys.map encX = xs.map eId := by rw [← hy, List.map_map]; rfl
    have hs : (sorted cmpX ys).map encX = (sortB xs).map eId := by rw [← hy, ← sorted_map, List.map_map]; rfl
    have hyl : ys.length = xs.length := by rw [← hy]; simp
    have hvn : v ≠ .nilS := fun hv => by subst hv; rw [show isNilS .nilS = true from rfl] at hn; exact hnil (by simpa using hn.symm)
    rw [← he] at h
    exact sortQ cmpX (sortL_ids (by intro args w; exact enters_of Tryd.func60 (by kernel_rfl) rfl args w)) swo_X anti_X encX_len encX_plain (fun x y => skcmp_ok x.1 y.1 x.2 y.2) h.q (by omega) (fun hn0 => absurd (by rw [← hy, hn0]; rfl) hnil)
      (fun l' h1 h2 h3 => hK l' h1 (fun b hb => h2 b (hb.resolve_left hvn)) (by rw [← hs]; exact h3))

/-- One of two slices of one's own grows; a set stands beside them. -/
theorem two_app {l : Hl} {va vb x : CV} {ja jb : Nat} {ea eb : List (List CV)} {I : List CV} {done : List (List B)} (ha : OwnS 32 l va ja ea) (hb : OwnS 32 l vb jb eb) (d : va = .nilS ∨ vb = .nilS ∨ ja ≠ jb) (om : OwnM l 0 done) (da : va = .nilS ∨ ja ≠ 0)
    (hx : contentsL l 32 x = some (([I] : List (List CV)).flatten, ([I] : List (List CV)).length)) (hI : I.length = 32) (hr : (ea.length + 1) * 32 ≤ roomMax) :
    ∃ v' j' l', appM l 32 32 va x = some (v', l') ∧ OwnS 32 l' v' j' (ea ++ [I]) ∧ OwnS 32 l' vb jb eb ∧ (v' = .nilS ∨ vb = .nilS ∨ j' ≠ jb) ∧ (v' = .nilS ∨ j' ≠ 0) ∧ isNilS v' = false ∧ OwnM l' 0 done ∧ l.length ≤ l'.length ∧ (∀ b, b < l.length → va = .nilS ∨ b ≠ ja → l'[b]? = l[b]?) := by
  obtain ⟨v', j', l', a1, a2, a3, a4, a5, a6⟩ := appS (by_ := 32) ha hx (by simp [hI]) (by omega) (by omega) (by simpa using hr)
  have hv' : isNilS v' = false := by rw [a6]; simp
  have hvn : v' ≠ .nilS := fun h => by rw [h] at hv'; cases hv'
  have h0 := om.lt
  refine ⟨v', j', l', a1, a2, ?_, ?_, ?_, hv', om.frame (a4 0 h0 (by rcases da with h | h; exact .inl h; exact .inr (fun h' => h h'.symm))), a3, a4⟩
  · rcases d with h | h | h
    · exact hb.frame fun hj => a4 jb hj (.inl h)
    · subst h
      have := hb.q.nil_of
      rw [this]; exact .nil jb
    · exact hb.frame fun hj => a4 jb hj (.inr fun h' => h h'.symm)
  · rcases hb.lt with h | h
    · exact .inr (.inl h)
    · rcases a5 with h' | h' | h'
      · exact .inr (.inr (by omega))
      · rcases d with h2 | h2 | h2
        · exact absurd h2 h'.1
        · exact .inr (.inl h2)
        · exact .inr (.inr (by rw [h'.2]; exact h2))
      · exact absurd h' hvn
  · rcases a5 with h' | h' | h'
    · exact .inr (by omega)
    · exact .inr (by rw [h'.2]; exact da.resolve_left h'.1)
    · exact absurd h' hvn

/-- What the machine holds between two rounds of the program's Peel. -/
structure PW (N : Nat) (R : PR) (k : Nat) (σ : Sg) (l : Hl) (now : List Cell) (lf rt done : List (List B)) (v2 : CV) (j2 : Nat) (v3 : CV) (j3 i : Nat) : Prop where
  g2 : σ 2 = v2
  g3 : σ 3 = v3
  g4 : σ 4 = encSk (some now)
  g7 : σ 7 = .mp 0
  g8 : σ 8 = .int .i64 i
  pi : PI N R now lf rt done
  om : OwnM l 0 done
  o2 : OwnS 32 l v2 j2 (lf.map eId)
  o3 : OwnS 32 l v3 j3 (rt.map eId)
  n2 : isNilS v2 = lf.isEmpty
  n3 : isNilS v3 = rt.isEmpty
  d2 : v2 = .nilS ∨ j2 ≠ 0
  d3 : v3 = .nilS ∨ j3 ≠ 0
  d23 : v2 = .nilS ∨ v3 = .nilS ∨ j2 ≠ j3
  hi : i ≤ N
  no : ∀ j, j < i → wants now done j = false
  hk : k ≤ done.length * 50 + i
theorem ldA_of {C : List CV} {c : Cell} (hc : c.sum.length = 32) (hC : C = encCell c) : C.length = 34 ∧ C[0]? = some (.int .i64 c.count) ∧ C.tail.take 32 = c.sum.map e8 ∧ C[33]? = some (e64 c.check) := by
  have := row_parts c hc C hC
  rw [List.drop_one] at this
  exact this
set_option maxHeartbeats 16000000 in
theorem peel_ok (s : Sketch) (ho : okSk s) (hl : s.l.length ≤ 1000000) : PureC Tryd.prog GS 31 [encSk s] (peelC (peelE s)) := by
  refine pure_of Tryd.checked.mixed GS_closed ?_
  apply call_intro c31_eq r31_eq
  unfold c31 r31
  have hcs := closed_sk s
  simp
  refine pure_call (check_ok s ho (by omega)) (by simp [closedL, hcs]) ?_
  rcases chk_8 s with h0 | h0
  · have hpe : peelE s = peelR 62 s.l [] [] [] := by unfold peelE; rw [if_pos h0]
    obtain ⟨R, hR⟩ : ∃ R, R = peelE s := ⟨_, rfl⟩
    rw [← hR] at hpe ⊢
    simp [h0]
    refine pure_call (clone_ok s ho (by omega)) (by simp [closedL, hcs]) ?_
    have hnow := Now.of h0 ho
    have hsn : s = some s.l := by
      cases s with
      | none => have := sized_nat hnow.sz; obtain ⟨N, hN, h3, _⟩ := this; simp at hN; omega
      | some l => rfl
    obtain ⟨N, hN, h3, h48, hmod⟩ := sized_nat hnow.sz
    simp
    refine loop_up 4000 (fun k σ l => ∃ now lf rt done v2 j2 v3 j3 i, PW s.l.length R k σ l now lf rt done v2 j2 v3 j3 i) ?_ ?_
    · rintro k σ l hk ⟨now, lf, rt, done, v2, j2, v3, j3, i, g2, g3, g4, g7, g8, pi, om, o2, o3, n2, n3, d2, d3, d23, hi, no, hkk⟩
      obtain ⟨σ, rfl⟩ := upds5 g2 g3 g4 g7 g8
      clear g2 g3 g4 g7 g8
      unfold l31_0
      have hlen : lenM (.sl 34) (encSk (some now)) = some (.int .i64 now.length) := len_encS _
      have hnl := pi.nw.len
      have h60 := pi.h60
      by_cases hin : i < now.length
      · have hwi : IntKind.i64.wrap ((i : Int) + 1) = (i + 1 : Nat) := wrap_i64 (by omega) (by omega)
        obtain ⟨c, hc, hcm⟩ := get_of hin
        obtain ⟨hcr, hcl⟩ := pi.nw.c c hcm
        have hia : iaC (.sl 34) (encSk (some now)) (.int .i64 i) = some (.rptr (encCell c) 0) := by unfold encSk; rw [ia_encS]; simp [hc]
        obtain ⟨C, hC⟩ : ∃ C, C = encCell c := ⟨_, rfl⟩
        obtain ⟨p1, p2, p3, p4⟩ := ldA_of hcl hC
        rw [← hC] at hia
        have hs34 : splice (CV.int IntKind.i64 0 :: (rep 32 (CV.int IntKind.u8 0) ++ [CV.int IntKind.u64 0])) 0 C = C := splice_full (by rw [p1]; rfl)
        obtain ⟨_, q2⟩ := List.getElem?_eq_some_iff.1 p2
        obtain ⟨L, hL⟩ : ∃ L, L = l ++ [CB.cells 34 C] := ⟨_, rfl⟩
        obtain ⟨m, hm⟩ : ∃ m, m = l.length := ⟨_, rfl⟩
        have hmL : L[m]? = some (CB.cells 34 C) := by rw [hL, hm]; simp
        have hLl : L.length = m + 1 := by rw [hL, hm]; simp
        have hom : OwnM L 0 done := om.frame (by rw [hL, List.getElem?_append_left om.lt])
        have ho2 : OwnS 32 L v2 j2 (lf.map eId) := by rw [hL]; exact o2.more _
        have ho3 : OwnS 32 L v3 j3 (rt.map eId) := by rw [hL]; exact o3.more _
        obtain ⟨I, hI⟩ : ∃ I, I = c.sum.map e8 := ⟨_, rfl⟩
        have hIl : I.length = 32 := by rw [hI, List.length_map, hcl]
        have hIc : closedL I = true := by rw [hI]; exact closedL_map e8 (fun _ => rfl) _
        rw [← hI] at p3
        have hlk := hom.look hcl
        unfold idC at hlk
        rw [← hI] at hlk
        simp [hlen, hin, hia, p1, hs34, List.take_of_length_le, ← hL, ← hm, hmL, p3, hlk]
        have hskip : wants now done i = false → k < 4000 ∧ ∃ now' lf' rt' done' v2' j2' v3' j3' i', PI s.l.length R now' lf' rt' done' ∧ now' = now ∧ lf' = lf ∧ rt' = rt ∧ done' = done ∧ v2' = v2 ∧ j2' = j2 ∧ v3' = v3 ∧ j3' = j3 ∧ i' = i + 1 := fun _ => ⟨by omega, _, _, _, _, _, _, _, _, _, pi, rfl, rfl, rfl, rfl, rfl, rfl, rfl, rfl, rfl⟩
        have hno1 : wants now done i = false → ∀ j, j < i + 1 → wants now done j = false := fun h j hj => by
          by_cases hji : j = i
          · subst hji; exact h
          · exact no j (by omega)
        have hw := wants_iff (done := done) hc
        by_cases hmem : c.sum ∈ done
        · have hw0 : wants now done i = false := by rw [hw]; simp [hmem]
          simp [hmem, hwi]
          exact ⟨by omega, now, lf, rt, done, v2, j2, v3, j3, i + 1, by simp, by simp, by simp, by simp, by simp, pi, hom, ho2, ho3, n2, n3, d2, d3, d23, by omega, hno1 hw0, by omega⟩
        · simp [hmem]
          have hpu := sketchPure_ok (some now) i (fun c hc => (pi.nw.c c hc).2) (by rw [Sv.l_some]; omega)
          rw [pureS_some pi.nw.chk hc] at hpu
          refine pure_call hpu (by simp [closedL, CV.closed, closed_sk]) ?_
          cases hpb : pureB now.length c i with
          | false =>
            have hw0 : wants now done i = false := by rw [hw, hpb]; rfl
            simp [hpb, hwi]
            exact ⟨by omega, now, lf, rt, done, v2, j2, v3, j3, i + 1, by simp, by simp, by simp, by simp, by simp, pi, hom, ho2, ho3, n2, n3, d2, d3, d23, by omega, hno1 hw0, by omega⟩
          | true =>
            have hw1 : wants now done i = true := by rw [hw, hpb]; simp [hmem]
            have hnx : nextN now done = some i := find_range hin hw1 no
            have hres := pi.res
            have hcnt := pure_count hpb
            have hlm := hom.len
            obtain ⟨f, hf⟩ : ∃ f, 62 - done.length = f + 1 := ⟨61 - done.length, by omega⟩
            rw [hf] at hres
            unfold peelR at hres
            rw [hnx] at hres
            simp only [hc] at hres
            by_cases h6 : done.length = 60
            · have h6' : ((done.length : Int) = 60) := by omega
              rw [nbeq_true h6] at hres
              simp only at hres
              rw [← hres]
              simp [hpb, hlm, h6', peelC]
              exact .same _ rfl
            · have h6' : ¬ ((done.length : Int) = 60) := by omega
              rw [nbeq_false h6] at hres
              simp only at hres
              have hput : PureC Tryd.prog GS 46 _ _ := put_ok (some now) c.sum (-c.count) (fun c hc => (pi.nw.c c hc).2) (by rw [Sv.l_some]; omega) hcl (by rcases hcnt with h | h <;> omega)
              have hput2 : put (some now) c.sum (-c.count) = match changed now c.sum (-c.count) with | some t => (some t, 0) | none => (none, 16) := by unfold put; rw [if_pos pi.nw.chk]; try rfl
              rw [hput2] at hput
              unfold idC at hput
              rw [← hI] at hput
              have hneg := neg_wrap hcnt
              simp [hpb, hlm, h6', hmL, p3, q2, p1, hIl, hneg]
              refine pure_call hput (by simp [closedL, CV.closed, closed_sk, hIc]) ?_
              cases hch : changed now c.sum (-c.count) with
              | none =>
                rw [hch] at hres
                rw [← hres]
                simp [peelC]
                exact .same _ rfl
              | some t =>
                rw [hch] at hres
                simp only at hres
                have hnt := pi.nw.step hcl hch
                have hr0 : roomMax = 140737488355328 := rfl
                obtain ⟨L1, hL1⟩ : ∃ L1, L1 = L ++ [CB.cells 32 I] := ⟨_, rfl⟩
                have hom1 : OwnM L1 0 done := hom.frame (by rw [hL1, List.getElem?_append_left hom.lt])
                have h21 : OwnS 32 L1 v2 j2 (lf.map eId) := by rw [hL1]; exact ho2.more _
                have h31 : OwnS 32 L1 v3 j3 (rt.map eId) := by rw [hL1]; exact ho3.more _
                have hm1 : L1[m]? = some (CB.cells 34 C) := by rw [hL1, List.getElem?_append_left (by omega)]; exact hmL
                have hL1l : L1.length = m + 2 := by rw [hL1]; simp [hLl]
                have hcI : contentsL L1 32 (.sl 32 L.length 0 1 1 32) = some (([I] : List (List CV)).flatten, ([I] : List (List CV)).length) := by
                  have : L1[L.length]? = some (CB.cells 32 I) := by rw [hL1]; simp
                  simp [contentsL, this, hIl, List.take_of_length_le]
                have hlt2 : v2 = .nilS ∨ m ≠ j2 := by rcases o2.lt with h | h; exact .inl h; exact .inr (by omega)
                have hlt3 : v3 = .nilS ∨ m ≠ j3 := by rcases o3.lt with h | h; exact .inl h; exact .inr (by omega)
                have hll := pi.hd
                have hPI2 : ∀ lf' rt', lf'.length + rt'.length = done.length + 1 → (∀ i ∈ lf', i.length = 32) → (∀ i ∈ rt', i.length = 32) → peelR f t lf' rt' (done ++ [c.sum]) = R → PI s.l.length R t lf' rt' (done ++ [c.sum]) := fun lf' rt' e1 e2 e3 e4 =>
                  ⟨hnt, by simp; omega, by simp; omega, fun i hi => (by rcases List.mem_append.1 hi with h | h; exact pi.ids i h; simp at h; subst h; exact hcl), e2, e3, by rw [show 62 - (done ++ [c.sum]).length = f by simp; omega]; exact e4⟩
                have hsnoc : ∀ xs : List (List B), (∀ i ∈ xs, i.length = 32) → ∀ i ∈ xs ++ [c.sum], i.length = 32 := fun xs hx i hi => by
                  rcases List.mem_append.1 hi with h | h
                  · exact hx i h
                  · simp at h; subst h; exact hcl
                have hmapI : ∀ xs : List (List B), (xs ++ [c.sum]).map eId = xs.map eId ++ [I] := fun xs => by rw [hI]; simp [eId]
                have hw0 : IntKind.i64.wrap (-1 + 1) = 0 := rfl
                have hk60 : done.length < 60 := by omega
                have hsp32 : splice (rep 32 (CV.int .u8 0)) 0 I = I := splice_full (by simp [hIl])
                rcases hcnt with h1 | h1
                · rw [h1] at hres
                  simp [hmL, p3, q2, p1, hIl, h1, hsp32, ← hL1]
                  obtain ⟨v', j', l', b1, b2, b3, b4, b5, b6, b7, b8, b9⟩ := two_app h21 h31 d23 hom1 d2 hcI hIl (by simp; omega)
                  simp [b1]
                  refine AppK.keep ?_
                  have fm : l'[m]? = some (CB.cells 34 C) := by rw [b9 m (by omega) hlt2]; exact hm1
                  obtain ⟨X, x1, x2⟩ := b7.put hcl hmem
                  unfold idC at x1
                  rw [← hI] at x1
                  have hset : ∀ b, b ≠ 0 → (l'.set 0 X)[b]? = l'[b]? := fun b hb => List.getElem?_set_ne (fun h => hb h.symm)
                  have h0l : 0 < l'.length := b7.lt
                  have hfr : ∀ {v : CV} {j : Nat} {es : List (List CV)}, OwnS 32 l' v j es → (v = .nilS ∨ j ≠ 0) → OwnS 32 (l'.set 0 X) v j es := fun ho hd => by
                    rcases hd with h | h
                    · subst h
                      have := ho.q.nil_of
                      rw [this]; exact .nil _
                    · exact ho.frame fun _ => hset _ h
                  simp [fm, p3, p1, x1, hw0]
                  refine ⟨by omega, t, lf ++ [c.sum], rt, done ++ [c.sum], v', j', v3, j3, 0, by simp, by simp, by simp, by simp, by simp; rfl, hPI2 _ _ (by simp; omega) (hsnoc _ pi.li) pi.ri hres, x2 _ (List.getElem?_set_self h0l), by rw [hmapI]; exact hfr b2 b5, hfr b3 d3, by rw [b6]; simp, n3, b5, d3, b4, by omega, fun j hj => by omega, by simp; omega⟩
                · rw [h1] at hres
                  simp [hmL, p3, q2, p1, hIl, h1, hsp32, ← hL1]
                  obtain ⟨v', j', l', b1, b2, b3, b4, b5, b6, b7, b8, b9⟩ := two_app h31 h21 (by rcases d23 with h | h | h; exact .inr (.inl h); exact .inl h; exact .inr (.inr fun h' => h h'.symm)) hom1 d3 hcI hIl (by simp; omega)
                  simp [b1]
                  refine AppK.keep ?_
                  have fm : l'[m]? = some (CB.cells 34 C) := by rw [b9 m (by omega) hlt3]; exact hm1
                  obtain ⟨X, x1, x2⟩ := b7.put hcl hmem
                  unfold idC at x1
                  rw [← hI] at x1
                  have hset : ∀ b, b ≠ 0 → (l'.set 0 X)[b]? = l'[b]? := fun b hb => List.getElem?_set_ne (fun h => hb h.symm)
                  have h0l : 0 < l'.length := b7.lt
                  have hfr : ∀ {v : CV} {j : Nat} {es : List (List CV)}, OwnS 32 l' v j es → (v = .nilS ∨ j ≠ 0) → OwnS 32 (l'.set 0 X) v j es := fun ho hd => by
                    rcases hd with h | h
                    · subst h
                      have := ho.q.nil_of
                      rw [this]; exact .nil _
                    · exact ho.frame fun _ => hset _ h
                  simp [fm, p3, p1, x1, hw0]
                  refine ⟨by omega, t, lf, rt ++ [c.sum], done ++ [c.sum], v2, j2, v', j', 0, by simp, by simp, by simp, by simp, by simp; rfl, hPI2 _ _ (by simp; omega) pi.li (hsnoc _ pi.ri) hres, x2 _ (List.getElem?_set_self h0l), hfr b3 d2, by rw [hmapI]; exact hfr b2 b5, n2, by rw [b6]; simp, d2, b5, (by rcases b4 with h | h | h; exact .inr (.inl h); exact .inl h; exact .inr (.inr fun h' => h h'.symm)), by omega, fun j hj => by omega, by simp; omega⟩
      · have hi' : i = now.length := by omega
        subst hi'
        have hnx : nextN now done = none := by
          unfold nextN
          rw [List.find?_eq_none]
          intro j hj
          rw [no j (by simpa using hj)]; simp
        have hres := pi.res
        obtain ⟨f, hf⟩ : ∃ f, 62 - done.length = f + 1 := ⟨61 - done.length, by omega⟩
        rw [hf] at hres
        unfold peelR at hres
        rw [hnx] at hres
        simp only at hres
        simp [hlen]
        have hll : lf.length ≤ 60 := by have := pi.hd; omega
        have hrl : rt.length ≤ 60 := by have := pi.hd; omega
        have hg : ∀ (xs : List (List B)) (l : Hl) (v : CV) (j : Nat), isNilS v = xs.isEmpty → OwnQ 32 l v j ((sortB xs).map eId) → Rd l v (encIds (svB xs)) := fun xs l v j hn ho => by
          cases xs with
          | nil =>
            have : v = .nilS := isNil_iff.1 (by rw [hn]; rfl)
            subst this
            exact .same _ rfl
          | cons x xs => exact ho.rd_enc closed_eId (some (sortB (x :: xs))) (by rw [hn]; rfl) rfl
        refine sort_call pi.li (by omega) n2 o2 fun l1 c1 c2 c3 => ?_
        simp
        have o3' : OwnS 32 l1 v3 j3 (rt.map eId) := by
          rcases d23 with h | h | h
          · exact o3.frame fun _ => c2 j3 (.inl h)
          · subst h
            have := o3.q.nil_of
            rw [this]; exact .nil j3
          · exact o3.frame fun _ => c2 j3 (.inr fun h' => h h'.symm)
        refine sort_call pi.ri (by omega) n3 o3' fun l2 e1 e2 e3 => ?_
        simp
        have c3' : OwnQ 32 l2 v2 j2 ((sortB lf).map eId) := by
          refine c3.frame2 ?_
          rcases d23 with h | h | h
          · exact .inl h
          · exact .inr (e2 j2 (.inl h))
          · exact .inr (e2 j2 (.inr h))
        rw [← hres]
        exact .tu _ _ rfl fun j c c' hj hj' => by
          match j with
          | 0 => simp at hj hj'; subst hj hj'; exact hg lf l2 v2 j2 n2 c3'
          | 1 => simp at hj hj'; subst hj hj'; exact hg rt l2 v3 j3 n3 e3
          | 2 => simp at hj hj'; subst hj hj'; exact .same _ (closed_sk _)
          | 3 => simp at hj hj'; subst hj hj'; exact .same _ rfl
          | j + 4 => simp at hj
    · refine ⟨s.l, [], [], [], .nilS, 1, .nilS, 1, 0, by simp, by simp, by simp [← hsn], by simp, by simp, ⟨hnow, rfl, by simp, by simp, by simp, by simp, hpe.symm⟩, ⟨[], 0, by simp, .nil⟩, .nil 1, .nil 1, rfl, rfl, .inl rfl, .inl rfl, .inl rfl, by omega, fun j hj => by omega, by omega⟩
  · have hpe : peelE s = .inl 8 := by unfold peelE; rw [if_neg (by rw [h0]; simp), h0]
    rw [hpe]
    simp [h0, peelC]
    exact .same _ rfl
end Sk
end Go.CM

/-
  Sketches: sorted lists of ids; the reference's Peel, walked.
-/
namespace Go.CM
open Go Go.Proofs Go.Sort Go.Shelf
set_option linter.unusedVariables false
set_option linter.unusedSimpArgs false
set_option maxRecDepth 100000
namespace Sk
open Sha

def leB (x y : List B) : Bool := !ltB y x
theorem leB_trans (a b c : List B) (h1 : leB a b = true) (h2 : leB b c = true) : leB a c = true := by
  unfold leB ltB at *
  simp only [Bool.not_eq_true'] at *
  exact swo_cmpB.ntrans c b a h2 h1
theorem leB_total (a b : List B) : (leB a b || leB b a) = true := by
  unfold leB ltB ltOf
  have := cmpB_swap a b
  by_cases h : cmpB a b < 0
  · simp; omega
  · simp; omega
theorem leB_anti (a b : List B) (h1 : leB a b = true) (h2 : leB b a = true) : a = b := by
  unfold leB ltB at *
  simp only [Bool.not_eq_true'] at *
  exact anti_cmpB a b h2 h1
theorem lt_le {a b : List B} (h : ltB a b = true) : leB a b = true := by
  rw [ltB_iff] at h
  unfold leB ltB ltOf
  have := cmpB_swap a b
  simp; omega
theorem sortB_pw (l : List (List B)) : (sortB l).Pairwise fun a b => leB a b = true := List.pairwise_mergeSort (le := leB) leB_trans leB_total l
theorem sortB_perm (l : List (List B)) : (sortB l).Perm l := List.mergeSort_perm l _
theorem sorted_eq {l l' : List (List B)} (h : l.Perm l') (h1 : l.Pairwise fun a b => leB a b = true) (h2 : l'.Pairwise fun a b => leB a b = true) : l = l' :=
  List.Perm.eq_of_pairwise (fun a b _ _ h1 h2 => leB_anti a b h1 h2) h1 h2 h
theorem svB_l (l : List (List B)) : (svB l).l = sortB l := by
  cases l with
  | nil => simp [svB, sortB]
  | cons a r => rfl
/-- What the machine holds between two rounds of the reference's Peel. -/
structure QW (N : Nat) (R : PR) (k : Nat) (σ : Sg) (l : Hl) (now : List Cell) (lf rt done : List (List B)) (vd : CV) (jd : Nat) : Prop where
  g7 : σ 7 = encIds (svB lf)
  g8 : σ 8 = encIds (svB rt)
  g9 : σ 9 = vd
  g10 : σ 10 = encSk (some now)
  g11 : σ 11 = .int .i64 (optI (nextN now done))
  pi : PI N R now lf rt done
  od : OwnS 32 l vd jd (done.map eId)
  nd : isNilS vd = done.isEmpty
  hk : k = done.length
theorem okSv {l : List (List B)} (h : ∀ i ∈ l, i.length = 32) : okIds (svB l) := fun i hi => by rw [svB_l] at hi; exact h i ((sortB_perm l).mem_iff.1 hi)
theorem lenSv (l : List (List B)) : (svB l).l.length = l.length := by rw [svB_l]; exact (sortB_perm l).length_eq
theorem next_own {now : List Cell} {done : List (List B)} {N : Nat} (hn : Now N now) (hd : ∀ i ∈ done, i.length = 32) (hl : done.length ≤ 60) {l : Hl} {vd : CV} {jd : Nat} (od : OwnS 32 l vd jd (done.map eId)) (nd : isNilS vd = done.isEmpty) {K : CV → Hl → Prop} (hK : K (.int .i64 (optI (nextN now done))) l) :
    CallP Tryd.prog GS 61 [encSk (some now), vd] l (c := ⟨K⟩) := by
  obtain ⟨D, hD, hDl, hDn⟩ : ∃ D : Ids, D.l = done ∧ okIds D ∧ isNilS vd = D.isNone := by
    cases done with
    | nil => exact ⟨none, rfl, (fun i hi => (by cases hi)), (by rw [nd]; rfl)⟩
    | cons a r => exact ⟨some (a :: r), rfl, hd, by rw [nd]; rfl⟩
  have h := next_ok (some now) D (fun c hc => (hn.c c hc).2) hDl (by rw [hD]; omega) (by rw [Sv.l_some, hn.len]; exact hn.sz)
  rw [hD, Sv.l_some] at h
  exact pure_callB h (.cons (.same _ (closed_sk _)) (.cons (od.rdH_enc closed_eId D hDn hD) .nil)) rfl hK
end Sk
end Go.CM

/-
  Sketches: SketchPeels, walked.
-/
namespace Go.CM
open Go Go.Proofs Go.Sort Go.Shelf
set_option linter.unusedVariables false
set_option linter.unusedSimpArgs false
set_option maxRecDepth 100000
namespace Sk
open Sha

theorem tyA_ids {ts : List TypeId} {cs : List CV} (h : TyA Tryd.prog (50 :: ts) cs) : ∃ (s : Ids) (cs' : List CV), cs = encIds s :: cs' ∧ okIds s ∧ TyA Tryd.prog ts cs' := by
  obtain ⟨c, cs', rfl, h1, h2⟩ := tyA_cons h
  obtain ⟨s, cs1, hs, hl, hi, h3⟩ := ty_sl (e := 24) (z := 32) (enc := eId) (Q := fun x => x.length = 32) (by kernel_rfl) (by kernel_rfl) ty_id (tyV_one (by kernel_rfl) h1)
  cases hs
  exact ⟨s, cs', rfl, hi, h2⟩
def pL : PR → Ids | .inl _ => none | .inr (l, _, _) => svB l
def pR : PR → Ids | .inl _ => none | .inr (_, r, _) => svB r
def pN : PR → Sketch | .inl _ => none | .inr (_, _, n) => some n
def pE : PR → Int | .inl e => e | .inr _ => 0
theorem peelC_eq (R : PR) : peelC R = .tu [encIds (pL R), encIds (pR R), encSk (pN R), .int .i64 (pE R)] := by
  cases R with
  | inl e => rfl
  | inr x => rfl
end Sk
end Go.CM

/-
  Sketches, plain: a sketch is a sum over its ids, cell by cell.
-/
namespace Go.CM
open Go Go.Proofs Go.Sort Go.Shelf
set_option linter.unusedVariables false
set_option linter.unusedSimpArgs false
set_option maxRecDepth 100000
namespace Sk
open Sha

/-! ### Exclusive or, cells -/
theorem xorL_comm (a b : List B) : xorL a b = xorL b a := by
  unfold xorL
  rw [List.zipWith_comm]
  congr 1
  funext x y
  exact BitVec.xor_comm y x
theorem xorL_assoc : ∀ a b c : List B, xorL (xorL a b) c = xorL a (xorL b c)
  | [], b, c => by simp [xorL]
  | a :: x, [], c => by simp [xorL]
  | a :: x, b :: y, [] => by simp [xorL]
  | a :: x, b :: y, c :: z => by
    have := xorL_assoc x y z
    simp only [xorL, List.zipWith_cons_cons] at this ⊢
    rw [this, BitVec.xor_assoc]
theorem xorL_self : ∀ a : List B, xorL a a = List.replicate a.length 0#8
  | [] => rfl
  | a :: x => by
    have := xorL_self x
    simp only [xorL, List.zipWith_cons_cons, List.length_cons, List.replicate_succ] at this ⊢
    rw [this, BitVec.xor_self]
theorem xorL_zero : ∀ a : List B, xorL a (List.replicate a.length 0#8) = a
  | [] => rfl
  | a :: x => by
    have := xorL_zero x
    simp only [xorL, List.length_cons, List.replicate_succ, List.zipWith_cons_cons] at this ⊢
    rw [this, BitVec.xor_zero]
def addC (c d : Cell) : Cell := ⟨c.count + d.count, xorL c.sum d.sum, c.check ^^^ d.check⟩
theorem addC_comm (a b : Cell) : addC a b = addC b a := by unfold addC; rw [Int.add_comm, xorL_comm, BitVec.xor_comm]
theorem addC_assoc (a b c : Cell) : addC (addC a b) c = addC a (addC b c) := by unfold addC; simp only [Int.add_assoc, xorL_assoc, BitVec.xor_assoc]
theorem addC_right (a b c : Cell) : addC (addC a b) c = addC (addC a c) b := by rw [addC_assoc, addC_comm b c, addC_assoc]
theorem addC_zero {a : Cell} (h : a.sum.length = 32) : addC a zeroCell = a := by
  have h1 : xorL a.sum (List.replicate 32 0#8) = a.sum := by rw [← h]; exact xorL_zero _
  unfold addC
  show (⟨a.count + 0, xorL a.sum (List.replicate 32 0#8), a.check ^^^ 0#64⟩ : Cell) = a
  rw [h1, BitVec.xor_zero, Int.add_zero]
def negC (c : Cell) : Cell := ⟨-c.count, c.sum, c.check⟩
theorem addC_neg {a : Cell} (h : a.sum.length = 32) : addC a (negC a) = zeroCell := by
  unfold addC negC
  simp only [xorL_self, h, BitVec.xor_self]
  rw [Int.add_right_neg]; rfl
theorem subC_add (a b : Cell) : subC a b = addC a (negC b) := rfl
theorem addC_len {a b : Cell} (ha : a.sum.length = 32) (hb : b.sum.length = 32) : (addC a b).sum.length = 32 := xorL_len ha hb
/-- What an id puts into a cell. -/
def one (n : Nat) (x : List B) (by_ : Int) (i : Nat) : Cell := if i ∈ placesL n x then ⟨by_, x, word x⟩ else zeroCell
theorem one_len {n : Nat} {x : List B} (h : x.length = 32) (by_ : Int) (i : Nat) : (one n x by_ i).sum.length = 32 := by unfold one; split; exact h; rfl
theorem one_neg (n : Nat) (x : List B) (by_ : Int) (i : Nat) : negC (one n x by_ i) = one n x (-by_) i := by unfold one; split <;> rfl
/-- A list of cells is got from a function of the place. -/
def tab (n : Nat) (f : Nat → Cell) : List Cell := (List.range n).map f
theorem tab_len (n : Nat) (f : Nat → Cell) : (tab n f).length = n := by simp [tab]
theorem tab_get {n : Nat} {f : Nat → Cell} {i : Nat} (h : i < n) : (tab n f)[i]? = some (f i) := by unfold tab; rw [List.getElem?_map, List.getElem?_range h]; rfl
theorem tab_ext {n : Nat} {f g : Nat → Cell} (h : ∀ i, i < n → f i = g i) : tab n f = tab n g := by
  unfold tab; exact List.map_congr_left fun i hi => h i (by simpa using hi)
theorem tab_of (l : List Cell) : l = tab l.length fun i => l.getD i zeroCell := by
  apply List.ext_getElem?
  intro i
  by_cases h : i < l.length
  · rw [tab_get h, List.getD_eq_getElem?_getD, List.getElem?_eq_getElem h]; rfl
  · rw [List.getElem?_eq_none (by omega), List.getElem?_eq_none (by rw [tab_len]; omega)]
theorem tab_mem {n : Nat} {f : Nat → Cell} {c : Cell} (h : c ∈ tab n f) : ∃ i, i < n ∧ c = f i := by
  unfold tab at h
  obtain ⟨i, hi, rfl⟩ := List.mem_map.1 h
  exact ⟨i, by simpa using hi, rfl⟩
theorem tab_sub {n : Nat} (f g : Nat → Cell) : subL (tab n f) (tab n g) = tab n fun i => subC (f i) (g i) := by
  unfold subL tab
  rw [List.zipWith_map, List.zipWith_self]
theorem tab_zero (n : Nat) : List.replicate n zeroCell = tab n fun _ => zeroCell := by
  unfold tab; rw [List.map_const']; simp

/-- The three places are different. -/
theorem places_ne {n : Nat} (h3 : 3 ≤ n) (x : List B) : place n x 0 ≠ place n x 1 ∧ place n x 0 ≠ place n x 2 ∧ place n x 1 ≠ place n x 2 := by
  have h0 := place_lt h3 x (r := 0)
  have h1 := place_lt h3 x (r := 1)
  have h2 := place_lt h3 x (r := 2)
  refine ⟨?_, ?_, ?_⟩ <;> omega
theorem putAt_tab {N : Nat} {x : List B} {by_ : Int} {w : Q} (hx : x.length = 32) (hby : -1 ≤ by_ ∧ by_ ≤ 1) : ∀ (ps : List Nat) (f : Nat → Cell), ps.Nodup → (∀ p ∈ ps, p < N) → (∀ i, i < N → -999999 ≤ (f i).count ∧ (f i).count ≤ 999999) → (∀ i, i < N → (f i).sum.length = 32) →
    putAt x by_ w ps (tab N f) = some (tab N fun i => if i ∈ ps then addC (f i) ⟨by_, x, w⟩ else f i)
  | [], f, _, _, _, _ => by simp [putAt]
  | p :: ps, f, hnd, hp, hb, ho => by
    have hpN := hp p (by simp)
    obtain ⟨h1, h2⟩ := List.nodup_cons.1 hnd
    unfold putAt
    rw [tab_get hpN]
    simp only
    have hbp := hb p hpN
    have hin : inR (stepC (f p) x by_ w) = true := by rw [inR_iff]; simp only [stepC]; omega
    rw [hin]
    simp only
    have hset : (tab N f).set p (stepC (f p) x by_ w) = tab N (fun i => if i = p then stepC (f p) x by_ w else f i) := by
      apply List.ext_getElem?
      intro i
      rw [List.getElem?_set]
      by_cases hip : p = i
      · subst hip
        rw [if_pos rfl, tab_len, if_pos hpN, tab_get hpN, if_pos rfl]
      · rw [if_neg hip]
        by_cases hiN : i < N
        · rw [tab_get hiN, tab_get hiN, if_neg (fun h => hip h.symm)]
        · rw [List.getElem?_eq_none (by rw [tab_len]; omega), List.getElem?_eq_none (by rw [tab_len]; omega)]
    have go : ∀ (qs : List Nat) (g h : Nat → Cell), (∀ q ∈ qs, g q = h q ∧ q < N) → qs.Nodup → (∀ q ∈ qs, -999999 ≤ (g q).count ∧ (g q).count ≤ 999999) → putAt x by_ w qs (tab N h) = some (tab N fun i => if i ∈ qs then addC (g i) ⟨by_, x, w⟩ else h i) := by
      intro qs
      induction qs with
      | nil => intro g h _ _ _; simp [putAt]
      | cons q qs ih =>
        intro g h hg hnd hb
        obtain ⟨n1, n2⟩ := List.nodup_cons.1 hnd
        obtain ⟨e1, e2⟩ := hg q (by simp)
        have hbq := hb q (by simp)
        unfold putAt
        rw [tab_get e2]
        simp only
        have hin : inR (stepC (h q) x by_ w) = true := by rw [inR_iff, ← e1]; simp only [stepC]; omega
        rw [hin]
        simp only
        have hset : (tab N h).set q (stepC (h q) x by_ w) = tab N (fun i => if i = q then stepC (h q) x by_ w else h i) := by
          apply List.ext_getElem?
          intro i
          rw [List.getElem?_set]
          by_cases hip : q = i
          · subst hip
            rw [if_pos rfl, tab_len, if_pos e2, tab_get e2, if_pos rfl]
          · rw [if_neg hip]
            by_cases hiN : i < N
            · rw [tab_get hiN, tab_get hiN, if_neg (fun h => hip h.symm)]
            · rw [List.getElem?_eq_none (by rw [tab_len]; omega), List.getElem?_eq_none (by rw [tab_len]; omega)]
        rw [hset, ih g _ (fun r hr => ⟨by rw [(hg r (by simp [hr])).1, if_neg (fun h => n1 (by rw [← h]; exact hr))], (hg r (by simp [hr])).2⟩) n2 (fun r hr => hb r (by simp [hr]))]
        congr 1
        refine tab_ext fun i hi => ?_
        by_cases hiq : i = q
        · subst hiq
          rw [if_neg n1, if_pos rfl, if_pos (by simp), e1]
          rfl
        · by_cases hiqs : i ∈ qs
          · rw [if_pos hiqs, if_pos (by simp [hiqs])]
          · rw [if_neg hiqs, if_neg hiq, if_neg (by simp [hiq, hiqs])]
    rw [hset, go ps f _ (fun q hq => ⟨by rw [if_neg (fun h => h1 (by rw [← h]; exact hq))], hp q (by simp [hq])⟩) h2 (fun q hq => hb q (hp q (by simp [hq])))]
    congr 1
    refine tab_ext fun i hi => ?_
    by_cases hip : i = p
    · subst hip
      rw [if_neg h1, if_pos rfl, if_pos (by simp)]
      rfl
    · by_cases hiqs : i ∈ ps
      · rw [if_pos hiqs, if_pos (by simp [hiqs])]
      · rw [if_neg hiqs, if_neg hip, if_neg (by simp [hip, hiqs])]
/-- Adding or removing an id, as a sum. -/
theorem changed_tab {N : Nat} (hN : sizedB N = true) {x : List B} {by_ : Int} (hx : x.length = 32) (hby : -1 ≤ by_ ∧ by_ ≤ 1) (f : Nat → Cell) (hb : ∀ i, i < N → -999999 ≤ (f i).count ∧ (f i).count ≤ 999999) (ho : ∀ i, i < N → (f i).sum.length = 32) :
    changed (tab N f) x by_ = some (tab N fun i => addC (f i) (one N x by_ i)) := by
  obtain ⟨M, hM, h3, h48, hmod⟩ := sized_nat hN
  have hM' : N = M := by omega
  subst hM'
  obtain ⟨d1, d2, d3⟩ := places_ne h3 x
  unfold changed
  rw [tab_len, putAt_tab hx hby (placesL N x) f (by simp [placesL, d1, d2, d3]) (fun p hp => by
    simp only [placesL, List.mem_cons, List.not_mem_nil, or_false] at hp
    rcases hp with rfl | rfl | rfl <;> exact place_lt_n h3 hmod x (by omega)) hb ho]
  congr 1
  refine tab_ext fun i hi => ?_
  unfold one
  split
  · rfl
  · rw [addC_zero (ho i hi)]
end Sk
end Go.CM

/-
  Sketches: calls without unknowns, carried out.
-/
namespace Go.CM
open Go Go.Proofs
set_option linter.unusedVariables false
set_option linter.unusedSimpArgs false
set_option maxRecDepth 1000000
namespace Sk
open Sha

def xorF : List CV → Option CV
  | [a, b] => match idOf a, idOf b with
    | some a, some b => some (idC (xorL a b))
    | _, _ => none
  | _ => none
abbrev xorO : FuncId × Bool × (List CV → Option CV) := (57, false, xorF)
theorem xorO_ok : OrcP Tryd.prog GS xorO := by
  intro args r h
  refine ⟨?_, fun h => by cases h⟩
  simp only [xorF] at h
  split at h
  · split at h
    · rename_i a b ha hb
      cases h
      obtain ⟨rfl, h1⟩ := idOf_ok ha
      obtain ⟨rfl, h2⟩ := idOf_ok hb
      exact xor_ok _ _ h1 h2
    · cases h
  · cases h
def wordF : List CV → Option CV
  | [a] => match idOf a with
    | some a => some (.tu [e64 (word a), .int .i64 0])
    | none => none
  | _ => none
abbrev wordO : FuncId × Bool × (List CV → Option CV) := (15, false, wordF)
theorem wordO_ok : OrcP Tryd.prog GS wordO := by
  intro args r h
  refine ⟨?_, fun h => by cases h⟩
  simp only [wordF] at h
  split at h
  · split at h
    · rename_i a ha
      cases h
      obtain ⟨rfl, h1⟩ := idOf_ok ha
      exact word_ok _ h1
    · cases h
  · cases h
def placesF : List CV → Option CV
  | [.int .i64 n, a] => match idOf a with
    | some a => some (match sizedB n with | true => .tu [placesC n.toNat a, .int .i64 0] | false => .tu [.ag [.int .i64 0, .int .i64 0, .int .i64 0], .int .i64 2])
    | none => none
  | _ => none
abbrev placesO : FuncId × Bool × (List CV → Option CV) := (13, false, placesF)
theorem placesO_ok : OrcP Tryd.prog GS placesO := by
  intro args r h
  refine ⟨?_, fun h => by cases h⟩
  simp only [placesF] at h
  split at h
  · split at h
    · rename_i a ha
      cases h
      obtain ⟨rfl, h1⟩ := idOf_ok ha
      exact places_ok _ _ h1
    · cases h
  · cases h
end Sk
end Go.CM

/-
  Sketches: SketchNames, carried out in parts (printed by program).
-/
namespace Go.CM
open Go Go.Proofs
set_option linter.unusedVariables false
set_option maxRecDepth 1000000

-- (some braid/sketch.Of): 29323
abbrev kSketchNamesA1 : List CV := [.rsl 34 [[ji (0)] ++ rep 32 (.int .u8 0) ++ [.int .u64 (0)], [ji (1)] ++ jb [0, 0, 0, 5, 0, 0, 0, 6, 0, 0, 0, 7, 0, 0, 0, 0, 0, 0, 0, 0, 0, 0, 0, 0, 0, 0, 0, 0, 0, 0, 0, 0] ++ [.int .u64 (5119487410153467689)], [ji (0)] ++ rep 32 (.int .u8 0) ++ [.int .u64 (0)], [ji (0)] ++ rep 32 (.int .u8 0) ++ [.int .u64 (0)], [ji (0)] ++ rep 32 (.int .u8 0) ++ [.int .u64 (0)], [ji (0)] ++ rep 32 (.int .u8 0) ++ [.int .u64 (0)], [ji (1)] ++ jb [0, 0, 0, 5, 0, 0, 0, 6, 0, 0, 0, 7, 0, 0, 0, 0, 0, 0, 0, 0, 0, 0, 0, 0, 0, 0, 0, 0, 0, 0, 0, 0] ++ [.int .u64 (5119487410153467689)], [ji (0)] ++ rep 32 (.int .u8 0) ++ [.int .u64 (0)], [ji (0)] ++ rep 32 (.int .u8 0) ++ [.int .u64 (0)], [ji (0)] ++ rep 32 (.int .u8 0) ++ [.int .u64 (0)], [ji (0)] ++ rep 32 (.int .u8 0) ++ [.int .u64 (0)], [ji (1)] ++ jb [0, 0, 0, 5, 0, 0, 0, 6, 0, 0, 0, 7, 0, 0, 0, 0, 0, 0, 0, 0, 0, 0, 0, 0, 0, 0, 0, 0, 0, 0, 0, 0] ++ [.int .u64 (5119487410153467689)]]]
abbrev kSketchNamesR1 : CV := .tu ([.rsl 32 [jb [0, 0, 0, 5, 0, 0, 0, 6, 0, 0, 0, 7, 0, 0, 0, 0, 0, 0, 0, 0, 0, 0, 0, 0, 0, 0, 0, 0, 0, 0, 0, 0]]] ++ [.nilS] ++ [.rsl 34 [[ji (0)] ++ rep 32 (.int .u8 0) ++ [.int .u64 (0)], [ji (0)] ++ rep 32 (.int .u8 0) ++ [.int .u64 (0)], [ji (0)] ++ rep 32 (.int .u8 0) ++ [.int .u64 (0)], [ji (0)] ++ rep 32 (.int .u8 0) ++ [.int .u64 (0)], [ji (0)] ++ rep 32 (.int .u8 0) ++ [.int .u64 (0)], [ji (0)] ++ rep 32 (.int .u8 0) ++ [.int .u64 (0)], [ji (0)] ++ rep 32 (.int .u8 0) ++ [.int .u64 (0)], [ji (0)] ++ rep 32 (.int .u8 0) ++ [.int .u64 (0)], [ji (0)] ++ rep 32 (.int .u8 0) ++ [.int .u64 (0)], [ji (0)] ++ rep 32 (.int .u8 0) ++ [.int .u64 (0)], [ji (0)] ++ rep 32 (.int .u8 0) ++ [.int .u64 (0)], [ji (0)] ++ rep 32 (.int .u8 0) ++ [.int .u64 (0)]]] ++ [ji (0)])
theorem kSketchNames1 : PureN Tryd.prog GS 31 kSketchNamesA1 kSketchNamesR1 :=
  pureN_runs Tryd.checked.mixed GS_closed (orcOf_ok (AllO.mem (allO_cons Sk.xorO_ok (allO_cons Sk.wordO_ok (allO_cons Sk.placesO_ok (allO_nil)))))) tbl_ok (orc := orcOf [Sk.xorO, Sk.wordO, Sk.placesO]) (fuel := 100000) (k := 60) (by kernel_rfl)
-- (some braid/sketch.Peel): 7021
abbrev kSketchNamesA2 : List CV := [.rsl 34 [[ji (0)] ++ rep 32 (.int .u8 0) ++ [.int .u64 (0)], [ji (-1)] ++ jb [0, 0, 0, 5, 0, 0, 0, 6, 0, 0, 0, 7, 0, 0, 0, 0, 0, 0, 0, 0, 0, 0, 0, 0, 0, 0, 0, 0, 0, 0, 0, 0] ++ [.int .u64 (5119487410153467689)], [ji (0)] ++ rep 32 (.int .u8 0) ++ [.int .u64 (0)], [ji (0)] ++ rep 32 (.int .u8 0) ++ [.int .u64 (0)], [ji (0)] ++ rep 32 (.int .u8 0) ++ [.int .u64 (0)], [ji (0)] ++ rep 32 (.int .u8 0) ++ [.int .u64 (0)], [ji (-1)] ++ jb [0, 0, 0, 5, 0, 0, 0, 6, 0, 0, 0, 7, 0, 0, 0, 0, 0, 0, 0, 0, 0, 0, 0, 0, 0, 0, 0, 0, 0, 0, 0, 0] ++ [.int .u64 (5119487410153467689)], [ji (0)] ++ rep 32 (.int .u8 0) ++ [.int .u64 (0)], [ji (0)] ++ rep 32 (.int .u8 0) ++ [.int .u64 (0)], [ji (0)] ++ rep 32 (.int .u8 0) ++ [.int .u64 (0)], [ji (0)] ++ rep 32 (.int .u8 0) ++ [.int .u64 (0)], [ji (-1)] ++ jb [0, 0, 0, 5, 0, 0, 0, 6, 0, 0, 0, 7, 0, 0, 0, 0, 0, 0, 0, 0, 0, 0, 0, 0, 0, 0, 0, 0, 0, 0, 0, 0] ++ [.int .u64 (5119487410153467689)]]]
abbrev kSketchNamesR2 : CV := .tu ([.nilS] ++ [.rsl 32 [jb [0, 0, 0, 5, 0, 0, 0, 6, 0, 0, 0, 7, 0, 0, 0, 0, 0, 0, 0, 0, 0, 0, 0, 0, 0, 0, 0, 0, 0, 0, 0, 0]]] ++ [.rsl 34 [[ji (0)] ++ rep 32 (.int .u8 0) ++ [.int .u64 (0)], [ji (0)] ++ rep 32 (.int .u8 0) ++ [.int .u64 (0)], [ji (0)] ++ rep 32 (.int .u8 0) ++ [.int .u64 (0)], [ji (0)] ++ rep 32 (.int .u8 0) ++ [.int .u64 (0)], [ji (0)] ++ rep 32 (.int .u8 0) ++ [.int .u64 (0)], [ji (0)] ++ rep 32 (.int .u8 0) ++ [.int .u64 (0)], [ji (0)] ++ rep 32 (.int .u8 0) ++ [.int .u64 (0)], [ji (0)] ++ rep 32 (.int .u8 0) ++ [.int .u64 (0)], [ji (0)] ++ rep 32 (.int .u8 0) ++ [.int .u64 (0)], [ji (0)] ++ rep 32 (.int .u8 0) ++ [.int .u64 (0)], [ji (0)] ++ rep 32 (.int .u8 0) ++ [.int .u64 (0)], [ji (0)] ++ rep 32 (.int .u8 0) ++ [.int .u64 (0)]]] ++ [ji (0)])
theorem kSketchNames2 : PureN Tryd.prog GS 31 kSketchNamesA2 kSketchNamesR2 :=
  pureN_runs Tryd.checked.mixed GS_closed (orcOf_ok (AllO.mem (allO_cons Sk.xorO_ok (allO_cons Sk.wordO_ok (allO_cons Sk.placesO_ok (allO_nil)))))) tbl_ok (orc := orcOf [Sk.xorO, Sk.wordO, Sk.placesO]) (fuel := 100000) (k := 60) (by kernel_rfl)
-- (some braid/sketch.Peel): 5362
abbrev kSketchNamesA3 : List CV := [.rsl 34 [[ji (0)] ++ rep 32 (.int .u8 0) ++ [.int .u64 (0)], [ji (2)] ++ jb [0, 0, 0, 12, 0, 0, 0, 0, 0, 0, 0, 0, 0, 0, 0, 0, 0, 0, 0, 0, 0, 0, 0, 0, 0, 0, 0, 0, 0, 0, 0, 0] ++ [.int .u64 (742507902314508248)], [ji (0)] ++ rep 32 (.int .u8 0) ++ [.int .u64 (0)], [ji (0)] ++ rep 32 (.int .u8 0) ++ [.int .u64 (0)], [ji (0)] ++ rep 32 (.int .u8 0) ++ [.int .u64 (0)], [ji (0)] ++ rep 32 (.int .u8 0) ++ [.int .u64 (0)], [ji (2)] ++ jb [0, 0, 0, 12, 0, 0, 0, 0, 0, 0, 0, 0, 0, 0, 0, 0, 0, 0, 0, 0, 0, 0, 0, 0, 0, 0, 0, 0, 0, 0, 0, 0] ++ [.int .u64 (742507902314508248)], [ji (0)] ++ rep 32 (.int .u8 0) ++ [.int .u64 (0)], [ji (0)] ++ rep 32 (.int .u8 0) ++ [.int .u64 (0)], [ji (0)] ++ rep 32 (.int .u8 0) ++ [.int .u64 (0)], [ji (0)] ++ rep 32 (.int .u8 0) ++ [.int .u64 (0)], [ji (2)] ++ jb [0, 0, 0, 12, 0, 0, 0, 0, 0, 0, 0, 0, 0, 0, 0, 0, 0, 0, 0, 0, 0, 0, 0, 0, 0, 0, 0, 0, 0, 0, 0, 0] ++ [.int .u64 (742507902314508248)]]]
abbrev kSketchNamesR3 : CV := .tu ([.nilS] ++ [.nilS] ++ [.rsl 34 [[ji (0)] ++ rep 32 (.int .u8 0) ++ [.int .u64 (0)], [ji (2)] ++ jb [0, 0, 0, 12, 0, 0, 0, 0, 0, 0, 0, 0, 0, 0, 0, 0, 0, 0, 0, 0, 0, 0, 0, 0, 0, 0, 0, 0, 0, 0, 0, 0] ++ [.int .u64 (742507902314508248)], [ji (0)] ++ rep 32 (.int .u8 0) ++ [.int .u64 (0)], [ji (0)] ++ rep 32 (.int .u8 0) ++ [.int .u64 (0)], [ji (0)] ++ rep 32 (.int .u8 0) ++ [.int .u64 (0)], [ji (0)] ++ rep 32 (.int .u8 0) ++ [.int .u64 (0)], [ji (2)] ++ jb [0, 0, 0, 12, 0, 0, 0, 0, 0, 0, 0, 0, 0, 0, 0, 0, 0, 0, 0, 0, 0, 0, 0, 0, 0, 0, 0, 0, 0, 0, 0, 0] ++ [.int .u64 (742507902314508248)], [ji (0)] ++ rep 32 (.int .u8 0) ++ [.int .u64 (0)], [ji (0)] ++ rep 32 (.int .u8 0) ++ [.int .u64 (0)], [ji (0)] ++ rep 32 (.int .u8 0) ++ [.int .u64 (0)], [ji (0)] ++ rep 32 (.int .u8 0) ++ [.int .u64 (0)], [ji (2)] ++ jb [0, 0, 0, 12, 0, 0, 0, 0, 0, 0, 0, 0, 0, 0, 0, 0, 0, 0, 0, 0, 0, 0, 0, 0, 0, 0, 0, 0, 0, 0, 0, 0] ++ [.int .u64 (742507902314508248)]]] ++ [ji (0)])
theorem kSketchNames3 : PureN Tryd.prog GS 31 kSketchNamesA3 kSketchNamesR3 :=
  pureN_runs Tryd.checked.mixed GS_closed (orcOf_ok (AllO.mem (allO_nil))) tbl_ok (orc := orcOf []) (fuel := 100000) (k := 60) (by kernel_rfl)
-- (some braid/braidlaw39.alive): 9375
abbrev kSketchNamesA4 : List CV := []
abbrev kSketchNamesR4 : CV := .bool true
theorem kSketchNames4 : PureN Tryd.prog GS 34 kSketchNamesA4 kSketchNamesR4 :=
  pureN_runs Tryd.checked.mixed GS_closed (orcOf_ok (AllO.mem (allO_cons Sk.xorO_ok (allO_cons Sk.wordO_ok (allO_cons Sk.placesO_ok (allO_cons (pickO_ok (allK_cons kSketchNames1 (allK_cons kSketchNames2 (allK_cons kSketchNames3 (allK_nil))))) (allO_nil))))))) tbl_ok (orc := orcOf [Sk.xorO, Sk.wordO, Sk.placesO, (31, true, pickA [(kSketchNamesA1, kSketchNamesR1), (kSketchNamesA2, kSketchNamesR2), (kSketchNamesA3, kSketchNamesR3)])]) (fuel := 100000) (k := 60) (by kernel_rfl)
end Go.CM

/-
  Sketches: SketchOrder, walked.
-/
namespace Go.CM
open Go Go.Proofs Go.Sort Go.Shelf
set_option linter.unusedVariables false
set_option linter.unusedSimpArgs false
set_option maxRecDepth 100000
namespace Sk
open Sha

theorem alive_ok : PureC Tryd.prog GS 34 [] (.bool true) := kSketchNames4.toC
def smallB (s : Sketch) : Bool := (s.l.all fun c => decide (-900000 ≤ c.count ∧ c.count ≤ 900000)) && decide (chk s = 0)
/-! ### Sums -/
def acc (N : Nat) (c : Cell) (ids : List (List B)) (i : Nat) : Cell := ids.foldl (fun c x => addC c (one N x 1 i)) c
theorem acc_len {N : Nat} {i : Nat} : ∀ {ids : List (List B)} {c : Cell}, (∀ x ∈ ids, x.length = 32) → c.sum.length = 32 → (acc N c ids i).sum.length = 32
  | [], c, _, h => h
  | x :: ids, c, hi, h => acc_len (ids := ids) (fun y hy => hi y (by simp [hy])) (addC_len h (one_len (hi x (by simp)) _ _))
theorem one_bnd (N : Nat) (x : List B) (i : Nat) : 0 ≤ (one N x 1 i).count ∧ (one N x 1 i).count ≤ 1 := by unfold one; split <;> simp [zeroCell]
theorem acc_bnd {N : Nat} {i : Nat} : ∀ {ids : List (List B)} {c : Cell} {m : Int}, -m ≤ c.count ∧ c.count ≤ m → -(m + ids.length) ≤ (acc N c ids i).count ∧ (acc N c ids i).count ≤ m + ids.length
  | [], c, m, h => by simpa [acc] using h
  | x :: ids, c, m, h => by
    have h1 := one_bnd N x i
    have := acc_bnd (N := N) (i := i) (ids := ids) (c := addC c (one N x 1 i)) (m := m + 1) (by simp only [addC]; omega)
    simp only [List.length_cons]
    have e : acc N c (x :: ids) i = acc N (addC c (one N x 1 i)) ids i := rfl
    rw [e]; omega
theorem addAll_tab {N : Nat} (hN : sizedB N = true) : ∀ (ids : List (List B)) (f : Nat → Cell) (m : Int), (∀ x ∈ ids, x.length = 32) → (∀ i, i < N → -m ≤ (f i).count ∧ (f i).count ≤ m) → (∀ i, i < N → (f i).sum.length = 32) → m + ids.length ≤ 999999 →
    addAll (tab N f) ids = tab N fun i => acc N (f i) ids i
  | [], f, m, _, _, _, _ => rfl
  | x :: ids, f, m, hi, hb, ho, hm => by
    simp only [List.length_cons] at hm
    have hx := hi x (by simp)
    have e : addAll (tab N f) (x :: ids) = addAll ((changed (tab N f) x 1).getD []) ids := rfl
    rw [e, changed_tab hN hx (by omega) f (fun i h => by have := hb i h; omega) ho]
    simp only [Option.getD_some]
    rw [addAll_tab hN ids _ (m + 1) (fun y hy => hi y (by simp [hy])) (fun i h => by have := hb i h; have := one_bnd N x i; simp only [addC]; omega) (fun i h => addC_len (ho i h) (one_len hx _ _)) (by omega)]
    rfl
/-- A valid sketch with bounded counts, as a table. -/
structure Tb (N : Nat) (m : Int) (f : Nat → Cell) : Prop where
  sz : sizedB N = true
  b : ∀ i, i < N → -m ≤ (f i).count ∧ (f i).count ≤ m
  o : ∀ i, i < N → (f i).sum.length = 32
theorem Tb.chk {N : Nat} {m : Int} {f : Nat → Cell} (h : Tb N m f) (hm : m ≤ 1000000) : chk (some (tab N f)) = 0 := by
  refine chk_of (by rw [Sv.l_some, tab_len]; exact h.sz) fun c hc => ?_
  obtain ⟨i, hi, rfl⟩ := tab_mem hc
  have := h.b i hi
  omega
theorem Tb.ok {N : Nat} {m : Int} {f : Nat → Cell} (h : Tb N m f) : okSk (some (tab N f)) := fun c hc => by
  obtain ⟨i, hi, rfl⟩ := tab_mem hc
  exact h.o i hi
theorem one_bnd2 (N : Nat) (x : List B) (by_ : Int) (i : Nat) (h : -1 ≤ by_ ∧ by_ ≤ 1) : -1 ≤ (one N x by_ i).count ∧ (one N x by_ i).count ≤ 1 := by unfold one; split <;> simp [zeroCell]; omega
theorem Tb.put {N : Nat} {m : Int} {f : Nat → Cell} (h : Tb N m f) (hm : m ≤ 999999) {x : List B} (hx : x.length = 32) {by_ : Int} (hby : -1 ≤ by_ ∧ by_ ≤ 1) :
    put (some (tab N f)) x by_ = (some (tab N fun i => addC (f i) (one N x by_ i)), 0) ∧ Tb N (m + 1) fun i => addC (f i) (one N x by_ i) := by
  refine ⟨put_of (h.chk (by omega)) (changed_tab h.sz hx hby f (fun i hi => by have := h.b i hi; omega) h.o), h.sz, fun i hi => ?_, fun i hi => addC_len (h.o i hi) (one_len hx _ _)⟩
  have := h.b i hi
  have := one_bnd2 N x by_ i hby
  simp only [addC]; omega
theorem Tb.size {N : Nat} {m : Int} {f : Nat → Cell} (h : Tb N m f) : 3 ≤ N ∧ N ≤ 48 := by
  obtain ⟨M, hM, h3, h48, _⟩ := sized_nat h.sz
  omega
theorem Tb.of {s : Sketch} (h : smallB s = true) (ho : okSk s) : ∃ f, s = some (tab s.l.length f) ∧ Tb s.l.length 900000 f := by
  unfold smallB at h
  simp only [Bool.and_eq_true, decide_eq_true_eq] at h
  obtain ⟨h1, h2⟩ := h
  obtain ⟨h3, h4⟩ := chk_0 h2
  rw [List.all_eq_true] at h1
  have hs : s = some s.l := by
    cases s with
    | none => obtain ⟨M, hM, k3, _⟩ := sized_nat h3; simp at hM; omega
    | some l => rfl
  have hg : ∀ i, i < s.l.length → s.l.getD i zeroCell ∈ s.l := fun i hi => by rw [List.getD_eq_getElem?_getD, List.getElem?_eq_getElem hi]; exact List.getElem_mem hi
  refine ⟨fun i => s.l.getD i zeroCell, ?_, h3, fun i hi => by simpa using h1 _ (hg i hi), fun i hi => ho _ (hg i hi)⟩
  rw [← tab_of]; exact hs
theorem ofS_tab {N : Nat} (hN : sizedB N = true) {ids : List (List B)} (hi : ∀ x ∈ ids, x.length = 32) (hl : ids.length ≤ 60) : ofS N ids = (some (tab N fun i => acc N zeroCell ids i), 0) ∧ Tb N 60 fun i => acc N zeroCell ids i := by
  constructor
  · unfold ofS
    rw [hN]
    simp only
    rw [if_neg (by omega), Int.toNat_natCast, tab_zero, addAll_tab hN ids (fun _ => zeroCell) 0 hi (fun i h => by simp [zeroCell]) (fun i h => rfl) (by omega)]
  · refine ⟨hN, fun i h => ?_, fun i h => acc_len hi rfl⟩
    have := acc_bnd (N := N) (i := i) (ids := ids) (c := zeroCell) (m := 0) (by simp [zeroCell])
    omega
theorem Tb.sub {N : Nat} {m m' : Int} {f g : Nat → Cell} (hf : Tb N m f) (hg : Tb N m' g) (hm : m ≤ 1000000) (hm' : m' ≤ 1000000) (hd : ∀ i, i < N → -1000000 ≤ (subC (f i) (g i)).count ∧ (subC (f i) (g i)).count ≤ 1000000) :
    subS (some (tab N f)) (some (tab N g)) = (some (tab N fun i => subC (f i) (g i)), 0) := by
  unfold subS
  rw [if_pos (hf.chk hm), if_pos (hg.chk hm'), if_pos (by rw [Sv.l_some, Sv.l_some, tab_len, tab_len]), Sv.l_some, Sv.l_some, tab_sub, if_pos]
  rw [List.all_eq_true]
  intro c hc
  obtain ⟨i, hi, rfl⟩ := tab_mem hc
  rw [inR_iff]; exact hd i hi
end Sk
end Go.CM

/-
  Sketches, plain: what peeling keeps.
-/
namespace Go.CM
open Go Go.Proofs Go.Sort Go.Shelf
set_option linter.unusedVariables false
set_option linter.unusedSimpArgs false
set_option maxRecDepth 100000
namespace Sk
open Sha

/-- Ids taken away. -/
def rem (N : Nat) (c : Cell) (ids : List (List B)) (i : Nat) : Cell := ids.foldl (fun c x => addC c (one N x (-1) i)) c
theorem acc_one (N : Nat) (i : Nat) (d : Cell) : ∀ (ids : List (List B)) (c : Cell), acc N (addC c d) ids i = addC (acc N c ids i) d
  | [], c => rfl
  | x :: ids, c => by
    show acc N (addC (addC c d) (one N x 1 i)) ids i = addC (acc N (addC c (one N x 1 i)) ids i) d
    rw [addC_right, acc_one N i d ids]
theorem rem_one (N : Nat) (i : Nat) (d : Cell) : ∀ (ids : List (List B)) (c : Cell), rem N (addC c d) ids i = addC (rem N c ids i) d
  | [], c => rfl
  | x :: ids, c => by
    show rem N (addC (addC c d) (one N x (-1) i)) ids i = addC (rem N (addC c (one N x (-1) i)) ids i) d
    rw [addC_right, rem_one N i d ids]
theorem acc_snoc (N : Nat) (c : Cell) (ids : List (List B)) (x : List B) (i : Nat) : acc N c (ids ++ [x]) i = addC (acc N c ids i) (one N x 1 i) := by unfold acc; rw [List.foldl_append]; rfl
theorem rem_snoc (N : Nat) (c : Cell) (ids : List (List B)) (x : List B) (i : Nat) : rem N c (ids ++ [x]) i = addC (rem N c ids i) (one N x (-1) i) := by unfold rem; rw [List.foldl_append]; rfl
theorem rem_len {N : Nat} {i : Nat} : ∀ {ids : List (List B)} {c : Cell}, (∀ x ∈ ids, x.length = 32) → c.sum.length = 32 → (rem N c ids i).sum.length = 32
  | [], c, _, h => h
  | x :: ids, c, hi, h => rem_len (ids := ids) (fun y hy => hi y (by simp [hy])) (addC_len h (one_len (hi x (by simp)) _ _))
theorem acc_perm {N : Nat} {i : Nat} {c : Cell} {l l' : List (List B)} (h : l.Perm l') : acc N c l i = acc N c l' i := by
  unfold acc
  exact h.foldl_eq' (fun x _ y _ z => addC_right _ _ _) c
theorem rem_perm {N : Nat} {i : Nat} {c : Cell} {l l' : List (List B)} (h : l.Perm l') : rem N c l i = rem N c l' i := by
  unfold rem
  exact h.foldl_eq' (fun x _ y _ z => addC_right _ _ _) c
/-- Both. -/
def both (N : Nat) (c : Cell) (l r : List (List B)) (i : Nat) : Cell := rem N (acc N c l i) r i
end Sk
end Go.CM

/-
  Sketches: Increasing, SketchBack, walked.
-/
namespace Go.CM
open Go Go.Proofs Go.Sort Go.Shelf
set_option linter.unusedVariables false
set_option linter.unusedSimpArgs false
set_option maxRecDepth 100000
namespace Sk
open Sha

def Inc (l : List (List B)) : Prop := ∀ (j : Nat) (x y : List B), l[j]? = some x → l[j + 1]? = some y → ltB x y = true
def incB : List (List B) → Bool
  | [] => true
  | a :: r => (match r with | [] => true | b :: _ => ltB a b) && incB r
theorem incB_iff : ∀ l : List (List B), incB l = true ↔ Inc l
  | [] => ⟨fun _ j x y h => by simp at h, fun _ => rfl⟩
  | [a] => ⟨fun _ j x y h h2 => by simp at h2, fun _ => rfl⟩
  | a :: b :: r => by
    have ih := incB_iff (b :: r)
    constructor
    · intro h
      have h' : ltB a b = true ∧ incB (b :: r) = true := by
        have : incB (a :: b :: r) = (ltB a b && incB (b :: r)) := rfl
        rw [this] at h; simpa using h
      intro j x y hx hy
      cases j with
      | zero => simp at hx hy; subst hx hy; exact h'.1
      | succ j => exact ih.1 h'.2 j x y (by simpa using hx) (by simpa using hy)
    · intro h
      have : incB (a :: b :: r) = (ltB a b && incB (b :: r)) := rfl
      rw [this, h 0 a b rfl rfl, ih.2 fun j x y hx hy => h (j + 1) x y (by simpa using hx) (by simpa using hy)]
      rfl
theorem inc_ok (s : Ids) (ho : okIds s) (hl : s.l.length ≤ 1000000) : PureC Tryd.prog GS 36 [encIds s] (.bool (incB s.l)) := by
  refine pure_of Tryd.checked.mixed GS_closed ?_
  apply call_intro c36_eq r36_eq
  unfold c36 r36
  have hlen : lenM (.sl 32) (encIds s) = some (.int .i64 s.l.length) := len_encS _
  simp
  refine loop_up s.l.length (fun k σ l => σ 0 = encIds s ∧ σ 3 = .int .i64 ((k + 1 : Nat) : Int) ∧ ∀ (j : Nat) (x y : List B), j < k → s.l[j]? = some x → s.l[j + 1]? = some y → ltB x y = true) ?_ (by simp)
  rintro k σ l hk ⟨g0, g3, hs⟩
  obtain ⟨σ, rfl⟩ := upds2 g0 g3
  clear g0 g3
  unfold l36_0
  obtain ⟨k1, hk1⟩ : ∃ k1, k1 = k + 1 := ⟨_, rfl⟩
  rw [← hk1]
  by_cases h : k1 < s.l.length
  · obtain ⟨x, hx, hxm⟩ := get_of (l := s.l) (k := k) (by omega)
    obtain ⟨y, hy, hym⟩ := get_of (l := s.l) (k := k1) h
    have hwk : IntKind.i64.wrap ((k1 : Int) + 1) = (k1 + 1 : Nat) := wrap_i64 (by omega) (by omega)
    have hwm : IntKind.i64.wrap ((k1 : Int) - 1) = (k : Nat) := by rw [wrap_i64 (by omega) (by omega)]; omega
    have hxl := ho x hxm
    have hyl := ho y hym
    have hix : iaC (.sl 32) (encIds s) (.int .i64 k) = some (.rptr (eId x) 0) := by unfold encIds; rw [ia_encS]; simp [hx]
    have hiy : iaC (.sl 32) (encIds s) (.int .i64 k1) = some (.rptr (eId y) 0) := by unfold encIds; rw [ia_encS]; simp [hy]
    have hle := less_ok x y hxl hyl
    unfold idC at hle
    have c1 : closedL (x.map e8) = true := closedL_map e8 (fun _ => rfl) _
    have c2 : closedL (y.map e8) = true := closedL_map e8 (fun _ => rfl) _
    simp [hlen, h, hwm, hix, hiy, eId, hxl, hyl, List.take_of_length_le]
    refine pure_call hle (by simp [closedL, CV.closed, c1, c2]) ?_
    cases hlt : ltB x y with
    | true =>
      simp [hwk]
      refine ⟨by omega, fun j a b hj ha hb => ?_⟩
      by_cases hjk : j = k
      · subst hjk; rw [hx] at ha; rw [← hk1, hy] at hb; cases ha; cases hb; exact hlt
      · exact hs j a b (by omega) ha hb
    | false =>
      have : incB s.l = false := by
        cases hi : incB s.l with
        | false => rfl
        | true => have := (incB_iff _).1 hi k x y hx (by rw [← hk1]; exact hy); rw [hlt] at this; cases this
      simp [this]
      exact rd_eq rfl rfl
  · have : incB s.l = true := (incB_iff _).2 fun j x y hx hy => hs j x y (by have := (List.getElem?_eq_some_iff.1 hy).1; omega) hx hy
    simp [hlen, h, this]
    exact rd_eq rfl rfl
end Sk
end Go.CM

/-
  Sketches: Without, at, walked.
-/
namespace Go.CM
open Go Go.Proofs Go.Sort Go.Shelf
set_option linter.unusedVariables false
set_option linter.unusedSimpArgs false
set_option maxRecDepth 100000
namespace Sk
open Sha

def without (a b : List (List B)) : List (List B) := a.filter fun x => !decide (x ∈ b)
def svO (l : List (List B)) : Ids := match l with | [] => none | a :: r => some (a :: r)
theorem svO_l (l : List (List B)) : (svO l).l = l := by cases l <;> rfl
theorem svO_ok {l : List (List B)} (h : ∀ i ∈ l, i.length = 32) : okIds (svO l) := fun i hi => by rw [svO_l] at hi; exact h i hi
theorem flat_eId (i : List B) : flatL (eId i) = true := flatL_map e8 (fun _ => rfl) _
set_option maxHeartbeats 4000000 in
theorem without_ok (a b : Ids) (ha : okIds a) (hb : okIds b) (hla : a.l.length ≤ 1000000) (hlb : b.l.length ≤ 1000000) : PureN Tryd.prog GS 38 [encIds a, encIds b] (encIds (svO (without a.l b.l))) := by
  refine pureN_of Tryd.checked.mixed GS_closed ?_
  apply call_intro c38_eq r38_eq
  unfold c38 r38
  have hlen : lenM (.sl 32) (encIds a) = some (.int .i64 a.l.length) := len_encS _
  have hca := closed_ids a
  have hcb := closed_ids b
  have hr0 : roomMax = 140737488355328 := rfl
  simp
  refine loop_up a.l.length (fun k σ l => σ 0 = encIds a ∧ σ 1 = encIds b ∧ σ 6 = .int .i64 k ∧ ∃ v j, σ 5 = v ∧ OwnS 32 l v j ((without (a.l.take k) b.l).map eId) ∧ isNilS v = (without (a.l.take k) b.l).isEmpty) ?_ ⟨by simp, by simp, by simp, .nilS, 0, by simp, .nil 0, rfl⟩
  rintro k σ l hk ⟨g0, g1, g6, v, j, g5, hown, hnil⟩
  obtain ⟨σ, rfl⟩ := upds4 g0 g1 g5 g6
  clear g0 g1 g5 g6
  unfold l38_0
  by_cases h : k < a.l.length
  · obtain ⟨x, hx, hxm⟩ := get_of h
    have hwk : IntKind.i64.wrap ((k : Int) + 1) = (k + 1 : Nat) := wrap_i64 (by omega) (by omega)
    have hxl := ha x hxm
    have hia : iaC (.sl 32) (encIds a) (.int .i64 k) = some (.rptr (eId x) 0) := by unfold encIds; rw [ia_encS]; simp [hx]
    have hin := in_ok b x hb hlb hxl
    obtain ⟨I, hI⟩ : ∃ I, I = x.map e8 := ⟨_, rfl⟩
    have hIl : I.length = 32 := by rw [hI, List.length_map, hxl]
    have hIc : closedL I = true := by rw [hI]; exact closedL_map e8 (fun _ => rfl) _
    have heI : eId x = I := by rw [hI]; rfl
    unfold idC at hin
    rw [← hI] at hin
    rw [heI] at hia
    have hsp32 : splice (rep 32 (CV.int .u8 0)) 0 I = I := splice_full (by simp [hIl])
    have htk : without (a.l.take (k + 1)) b.l = without (a.l.take k) b.l ++ without [x] b.l := by unfold without; rw [List.take_add_one, hx, List.filter_append]; rfl
    simp [hlen, h, hia, hIl, List.take_of_length_le]
    refine pure_call hin (by simp [closedL, CV.closed, hcb, hIc]) ?_
    by_cases hm : x ∈ b.l
    · have h1 : without [x] b.l = [] := by unfold without; simp [hm]
      rw [h1, List.append_nil] at htk
      simp [hm, hlen, h, hwk, htk]
      exact ⟨⟨j, hown⟩, hnil⟩
    · have h1 : without [x] b.l = [x] := by unfold without; simp [hm]
      rw [h1] at htk
      have hlw : (without (a.l.take k) b.l).length ≤ k := by
        have := List.length_filter_le (fun x => !decide (x ∈ b.l)) (a.l.take k)
        unfold without; rw [List.length_take] at this; omega
      have hcI : contentsL (l ++ [CB.cells 32 I]) 32 (.sl 32 l.length 0 1 1 32) = some (([I] : List (List CV)).flatten, ([I] : List (List CV)).length) := by
        simp [contentsL, hIl, List.take_of_length_le]
      obtain ⟨v', j', l', b1, b2, b3, b4, b5, b6⟩ := appS (by_ := 32) (hown.more [CB.cells 32 I]) hcI (by simp [hIl]) (by omega) (by omega) (by rw [hr0]; simp; omega)
      simp [hm, hlen, h, hia, hIl, hsp32, List.take_of_length_le, b1]
      refine AppK.keep ?_
      simp [hlen, h, hwk]
      refine ⟨⟨j', ?_⟩, ?_⟩
      · rw [htk, List.map_append]; simpa [heI] using b2
      · rw [b6, htk]; simp
  · have hk' : k = a.l.length := by omega
    subst hk'
    rw [List.take_length] at hown hnil
    simp [hlen]
    exact hown.rdN_enc flat_eId (svO (without a.l b.l)) (by rw [hnil]; cases without a.l b.l <;> rfl) (svO_l _)

def atN (n : Nat) (l : List (List B)) (i : Nat) : Nat := (l.filter fun x => decide (i ∈ placesL n x)).length
set_option maxHeartbeats 4000000 in
theorem at_ok (n : Nat) (s : Ids) (i : Nat) (h3 : 3 ≤ n) (h48 : n ≤ 48) (ho : okIds s) (hl : s.l.length ≤ 1000000) : PureC Tryd.prog GS 64 [.int .i64 n, encIds s, .int .i64 i] (.int .i64 (atN n s.l i)) := by
  refine pure_of Tryd.checked.mixed GS_closed ?_
  apply call_intro c64_eq r64_eq
  unfold c64 r64
  have hlen : lenM (.sl 32) (encIds s) = some (.int .i64 s.l.length) := len_encS _
  simp
  refine loop_up s.l.length (fun k σ l => σ 0 = .int .i64 n ∧ σ 1 = encIds s ∧ σ 2 = .int .i64 i ∧ σ 7 = .int .i64 (atN n (s.l.take k) i) ∧ σ 8 = .int .i64 k) ?_ (by simp [atN])
  rintro k σ l hk ⟨g0, g1, g2, g7, g8⟩
  obtain ⟨σ, rfl⟩ := upds5 g0 g1 g2 g7 g8
  clear g0 g1 g2 g7 g8
  unfold l64_0
  by_cases h : k < s.l.length
  · obtain ⟨x, hx, hxm⟩ := get_of h
    have hwk : IntKind.i64.wrap ((k : Int) + 1) = (k + 1 : Nat) := wrap_i64 (by omega) (by omega)
    have hxl := ho x hxm
    have hia : iaC (.sl 32) (encIds s) (.int .i64 k) = some (.rptr (eId x) 0) := by unfold encIds; rw [ia_encS]; simp [hx]
    have hpl := refPlaces_ok n x hxl h3 h48
    unfold idC at hpl
    have hIc : closedL (x.map e8) = true := closedL_map e8 (fun _ => rfl) _
    have hle : atN n (s.l.take k) i ≤ k := by
      have := List.length_filter_le (fun x => decide (i ∈ placesL n x)) (s.l.take k)
      unfold atN; rw [List.length_take] at this; omega
    obtain ⟨m, hm⟩ : ∃ m, m = atN n (s.l.take k) i := ⟨_, rfl⟩
    rw [← hm] at hle ⊢
    have hwm : IntKind.i64.wrap ((m : Int) + 1) = (m + 1 : Nat) := wrap_i64 (by omega) (by omega)
    have htk : atN n (s.l.take (k + 1)) i = m + (if i ∈ placesL n x then 1 else 0) := by
      rw [hm]; unfold atN; rw [List.take_add_one, hx, List.filter_append, List.length_append]
      simp only [Option.toList_some]
      by_cases hp : i ∈ placesL n x
      · simp [hp]
      · simp [hp]
    have hmem : i ∈ placesL n x ↔ place n x 0 = i ∨ place n x 1 = i ∨ place n x 2 = i := by unfold placesL; simp [eq_comm]
    simp [hlen, h, hia, eId, hxl, List.take_of_length_le]
    refine pure_call hpl (by simp [closedL, CV.closed, hIc]) ?_
    have hp0 : ((place n x 0 : Int) = i) ↔ place n x 0 = i := by omega
    have hp1 : ((place n x 1 : Int) = i) ↔ place n x 1 = i := by omega
    have hp2 : ((place n x 2 : Int) = i) ↔ place n x 2 = i := by omega
    simp [placesC, splice]
    by_cases e0 : place n x 0 = i
    · rw [if_pos (hmem.2 (.inl e0))] at htk
      simp [hp0, e0, hlen, h, hwk, hwm, htk]
    · by_cases e1 : place n x 1 = i
      · rw [if_pos (hmem.2 (.inr (.inl e1)))] at htk
        simp [hp0, hp1, e0, e1, hlen, h, hwk, hwm, htk]
      · by_cases e2 : place n x 2 = i
        · rw [if_pos (hmem.2 (.inr (.inr e2)))] at htk
          simp [hp0, hp1, hp2, e0, e1, e2, hlen, h, hwk, hwm, htk]
        · rw [if_neg (by rw [hmem]; simp [e0, e1, e2])] at htk
          simp [hp0, hp1, hp2, e0, e1, e2, hlen, h, hwk, hwm, htk]
  · have hk' : k = s.l.length := by omega
    subst hk'
    simp [hlen]
    exact rd_eq rfl rfl
end Sk
end Go.CM

/-
  Sketches: Honest, walked.
-/
namespace Go.CM
open Go Go.Proofs Go.Sort Go.Shelf
set_option linter.unusedVariables false
set_option linter.unusedSimpArgs false
set_option maxRecDepth 100000
namespace Sk
open Sha

/-- Whether the next one is not as it is told. -/
def lied (N : Nat) (left right : List (List B)) (c : Cell) (i : Nat) : Bool :=
  (decide (-c.count < 0) && !decide (c.sum ∈ left)) || (decide (0 < -c.count) && !decide (c.sum ∈ right)) || !Nat.beq (atN N left i + atN N right i) 1
def honR (N : Nat) : Nat → List Cell → List (List B) → List (List B) → List (List B) → Bool
  | 0, _, _, _, _ => false
  | f + 1, now, left, right, done => match nextN now done with
    | none => Nat.beq (left.length + right.length) 0
    | some i => match now[i]? with
      | none => false
      | some c => match lied N left right c i with
        | true => false
        | false => honR N f ((changed now c.sum (-c.count)).getD []) (without left [c.sum]) (without right [c.sum]) (done ++ [c.sum])
theorem without_len (a b : List (List B)) : (without a b).length ≤ a.length := List.length_filter_le _ _
theorem without_lt {a : List (List B)} {x : List B} (h : x ∈ a) : (without a [x]).length < a.length := by
  unfold without
  have := (List.length_filter_lt_length_iff_exists (l := a) (p := fun y => !decide (y ∈ [x]))).2 ⟨x, h, by simp⟩
  exact this
theorem without_mem {a b : List (List B)} (h : ∀ i ∈ a, i.length = 32) : ∀ i ∈ without a b, i.length = 32 := fun i hi => h i (List.mem_filter.1 hi).1
structure HI (N : Nat) (R : Bool) (g : Nat → Cell) (left right done : List (List B)) : Prop where
  T : Tb N (100 + done.length) g
  h50 : done.length + left.length + right.length ≤ 50
  li : ∀ i ∈ left, i.length = 32
  ri : ∀ i ∈ right, i.length = 32
  di : ∀ i ∈ done, i.length = 32
  res : honR N (60 - done.length) (tab N g) left right done = R
structure HW (N : Nat) (R : Bool) (k : Nat) (σ : Sg) (l : Hl) (g : Nat → Cell) (left right done : List (List B)) (vd : CV) (jd : Nat) : Prop where
  g0 : σ 0 = .int .i64 N
  g11 : σ 11 = encSk (some (tab N g))
  g13 : σ 13 = encIds (svO left)
  g14 : σ 14 = encIds (svO right)
  g15 : σ 15 = vd
  g16 : σ 16 = .int .i64 (optI (nextN (tab N g) done))
  hi : HI N R g left right done
  od : OwnS 32 l vd jd (done.map eId)
  nd : isNilS vd = done.isEmpty
  hk : k = done.length
theorem Tb.now {N : Nat} {m : Int} {g : Nat → Cell} (T : Tb N m g) (hm : m ≤ 1000000) : Now N (tab N g) := ⟨tab_len _ _, T.sz, fun c hc => by
  obtain ⟨i, hi, rfl⟩ := tab_mem hc
  have := T.b i hi
  exact ⟨by rw [inR_iff]; omega, T.o i hi⟩⟩
theorem lenO (l : List (List B)) : lenM (.sl 32) (encIds (svO l)) = some (.int .i64 l.length) := by
  have : lenM (.sl 32) (encIds (svO l)) = some (.int .i64 (svO l).l.length) := len_encS _
  rw [this, svO_l]
/-- The difference of two lists of ids, as a sketch. -/
def diffC (N : Nat) (a b : List (List B)) (i : Nat) : Cell := subC (acc N zeroCell a i) (acc N zeroCell b i)
set_option maxHeartbeats 16000000 in
theorem honest_ok (N : Nat) (a b : Ids) (hsz : sizedB N = true) (ha : okIds a) (hb : okIds b) (hla : a.l.length ≤ 25) (hlb : b.l.length ≤ 25) :
    PureC Tryd.prog GS 37 [.int .i64 N, encIds a, encIds b] (.bool (honR N 60 (tab N (diffC N a.l b.l)) (without a.l b.l) (without b.l a.l) [])) := by
  refine pure_of Tryd.checked.mixed GS_closed ?_
  apply call_intro c37_eq r37_eq
  unfold c37 r37
  have hca := closed_ids a
  have hcb := closed_ids b
  obtain ⟨u1, U1⟩ := ofS_tab hsz (ids := a.l) ha (by omega)
  obtain ⟨u2, U2⟩ := ofS_tab hsz (ids := b.l) hb (by omega)
  have hAb : ∀ i, -25 ≤ (acc N zeroCell a.l i).count ∧ (acc N zeroCell a.l i).count ≤ 25 := fun i => by
    have := acc_bnd (N := N) (i := i) (ids := a.l) (c := zeroCell) (m := 0) (by simp [zeroCell]); omega
  have hBb : ∀ i, -25 ≤ (acc N zeroCell b.l i).count ∧ (acc N zeroCell b.l i).count ≤ 25 := fun i => by
    have := acc_bnd (N := N) (i := i) (ids := b.l) (c := zeroCell) (m := 0) (by simp [zeroCell]); omega
  have hDb : ∀ i, -50 ≤ (diffC N a.l b.l i).count ∧ (diffC N a.l b.l i).count ≤ 50 := fun i => by
    have := hAb i; have := hBb i; simp only [diffC, subC]; omega
  have e6 := U1.sub U2 (by omega) (by omega) (fun i hi => by have := hDb i; unfold diffC at this; omega)
  have TD : Tb N 50 (diffC N a.l b.l) := ⟨hsz, fun i hi => hDb i, fun i hi => xorL_len (U1.o i hi) (U2.o i hi)⟩
  obtain ⟨h3, h48⟩ := TD.size
  have d1 := refOf2_ok (N : Int) a ha (by omega)
  have d2 := refOf2_ok (N : Int) b hb (by omega)
  rw [u1] at d1
  rw [u2] at d2
  have hlt : ∀ g : Nat → Cell, (Sv.l (some (tab N g))).length ≤ 1000000 := fun g => by rw [Sv.l_some, tab_len]; omega
  have d3 := refSub_ok _ _ U1.ok U2.ok (hlt _) (hlt _)
  rw [e6] at d3
  have w1 := (without_ok a b ha hb (by omega) (by omega)).toC
  have w2 := (without_ok b a hb ha (by omega) (by omega)).toC
  have hD0 : (fun i => subC (acc N zeroCell a.l i) (acc N zeroCell b.l i)) = diffC N a.l b.l := rfl
  rw [hD0] at d3
  obtain ⟨R, hR⟩ : ∃ R, R = honR N 60 (tab N (diffC N a.l b.l)) (without a.l b.l) (without b.l a.l) [] := ⟨_, rfl⟩
  rw [← hR]
  have hT0 : Tb N (100 + ([] : List (List B)).length) (diffC N a.l b.l) := ⟨hsz, fun i hi => by have := hDb i; simp; omega, TD.o⟩
  have hw1 := without_len a.l b.l
  have hw2 := without_len b.l a.l
  simp
  refine pure_call d1 (by simp [closedL, CV.closed, hca]) ?_
  simp
  refine pure_call d2 (by simp [closedL, CV.closed, hcb]) ?_
  simp
  refine pure_call d3 (by simp [closedL, CV.closed, closed_sk]) ?_
  simp
  refine pure_call w1 (by simp [closedL, CV.closed, hca, hcb]) ?_
  simp
  refine pure_call w2 (by simp [closedL, CV.closed, hca, hcb]) ?_
  simp
  refine next_own (done := []) (TD.now (by omega)) (by simp) (by simp) (.nil 0) rfl ?_
  simp
  refine loop_up 61 (fun k σ l => ∃ g left right done vd jd, HW N R k σ l g left right done vd jd) ?_ ?_
  · rintro k σ l hk ⟨g, left, right, done, vd, jd, g0, g11, g13, g14, g15, g16, hi, od, nd, hkk⟩
    obtain ⟨σ, rfl⟩ := upds6 g0 g11 g13 g14 g15 g16
    clear g0 g11 g13 g14 g15 g16
    unfold l37_0
    have h50 := hi.h50
    have hres := hi.res
    obtain ⟨f, hf⟩ : ∃ f, 60 - done.length = f + 1 := ⟨59 - done.length, by omega⟩
    rw [hf] at hres
    unfold honR at hres
    cases hnx : nextN (tab N g) done with
    | none =>
      rw [hnx] at hres
      simp only at hres
      have hsum : IntKind.i64.wrap ((left.length : Int) + (right.length : Int)) = ((left.length + right.length : Nat) : Int) := by rw [wrap_i64 (by omega) (by omega)]; omega
      simp [optI, lenO, hsum]
      refine rd_bool ?_
      rw [← hres]
      by_cases hz : left.length + right.length = 0
      · rw [nbeq_true hz]; simp; omega
      · rw [nbeq_false hz]; simp; omega
    | some i =>
      rw [hnx] at hres
      obtain ⟨hin, hw, hno⟩ := nextN_some hnx
      rw [tab_len] at hin
      have hc := tab_get (f := g) hin
      obtain ⟨c, hcg⟩ : ∃ c, c = g i := ⟨_, rfl⟩
      rw [← hcg] at hc
      have hpw : pureB (tab N g).length c i = true ∧ c.sum ∉ done := by rw [wants_iff hc] at hw; simpa using hw
      have hcnt := pure_count hpw.1
      have hcl : c.sum.length = 32 := by rw [hcg]; exact hi.T.o i hin
      simp only [hc] at hres
      have hia : iaC (.sl 34) (encSk (some (tab N g))) (.int .i64 i) = some (.rptr (encCell c) 0) := by unfold encSk; rw [ia_encS]; simp [hc]
      obtain ⟨C, hC⟩ : ∃ C, C = encCell c := ⟨_, rfl⟩
      obtain ⟨p1, p2, p3, p4⟩ := ldA_of hcl hC
      rw [← hC] at hia
      obtain ⟨_, q2⟩ := List.getElem?_eq_some_iff.1 p2
      obtain ⟨I, hI⟩ : ∃ I, I = c.sum.map e8 := ⟨_, rfl⟩
      have hIl : I.length = 32 := by rw [hI, List.length_map, hcl]
      have hIc : closedL I = true := by rw [hI]; exact closedL_map e8 (fun _ => rfl) _
      rw [← hI] at p3
      have hneg := neg_wrap hcnt
      have hsp32 : splice (rep 32 (CV.int .u8 0)) 0 I = I := splice_full (by simp [hIl])
      obtain ⟨L, hL⟩ : ∃ L, L = l ++ [CB.cells 32 I] := ⟨_, rfl⟩
      obtain ⟨m, hm⟩ : ∃ m, m = l.length := ⟨_, rfl⟩
      have hmL : L[m]? = some (CB.cells 32 I) := by rw [hL, hm]; simp
      have odL : OwnS 32 L vd jd (done.map eId) := by rw [hL]; exact od.more _
      have hLl : L.length = m + 1 := by rw [hL, hm]; simp
      have i1 := in_ok (svO left) c.sum (svO_ok hi.li) (by rw [svO_l]; omega) hcl
      have i2 := in_ok (svO right) c.sum (svO_ok hi.ri) (by rw [svO_l]; omega) hcl
      rw [svO_l] at i1 i2
      unfold idC at i1 i2
      rw [← hI] at i1 i2
      have t1 := at_ok N (svO left) i h3 h48 (svO_ok hi.li) (by rw [svO_l]; omega)
      have t2 := at_ok N (svO right) i h3 h48 (svO_ok hi.ri) (by rw [svO_l]; omega)
      rw [svO_l] at t1 t2
      have hlf : ∀ l : List (List B), atN N l i ≤ l.length := fun l => List.length_filter_le _ _
      have hl1 := hlf left
      have hl2 := hlf right
      have hatw : IntKind.i64.wrap ((atN N left i : Int) + (atN N right i : Int)) = (atN N left i : Int) + (atN N right i : Int) := wrap_i64 (by omega) (by omega)
      have hr0 : roomMax = 140737488355328 := rfl
      -- what comes behind the checks
      have hch := changed_tab hi.T.sz hcl (by_ := -c.count) (by rcases hcnt with h | h <;> omega) g (fun j hj => by have := hi.T.b j hj; omega) hi.T.o
      have hch0 := changed_ok (some (tab N g)) c.sum (-c.count) hi.T.ok (fun c hc => ((hi.T.now (by omega)).c c hc).1) (by rw [Sv.l_some, tab_len]; exact hsz) hcl (by rcases hcnt with h | h <;> omega)
      rw [Sv.l_some, hch] at hch0
      unfold idC at hch0
      rw [← hI] at hch0
      rw [hch] at hres
      simp only [Option.getD_some] at hres
      obtain ⟨g', hg'⟩ : ∃ g', g' = fun j => addC (g j) (one N c.sum (-c.count) j) := ⟨_, rfl⟩
      rw [← hg'] at hch0 hres
      have T' : Tb N (100 + done.length + 1) g' := by rw [hg']; exact (hi.T.put (by omega) hcl (by rcases hcnt with h | h <;> omega)).2
      have o1 : okIds (some [c.sum]) := fun x hx => by simp at hx; subst hx; exact hcl
      have wl := without_ok (svO left) (some [c.sum]) (svO_ok hi.li) o1 (by rw [svO_l]; omega) (by simp)
      have wr := without_ok (svO right) (some [c.sum]) (svO_ok hi.ri) o1 (by rw [svO_l]; omega) (by simp)
      rw [svO_l] at wl wr
      simp only [Sv.l_some] at wl wr
      have hids : ∀ i ∈ done ++ [c.sum], i.length = 32 := fun i h' => by rcases List.mem_append.1 h' with h | h; exact hi.di i h; simp at h; subst h; exact hcl
      have hmapI : (done ++ [c.sum]).map eId = done.map eId ++ [I] := by rw [hI]; simp [eId]
      have hll1 := without_len left [c.sum]
      have hll2 := without_len right [c.sum]
      simp [optI, hia, p1, p3, q2, hneg, hIl, hsp32, ← hL, ← hm, List.take_of_length_le]
      rcases hcnt with h1 | h1
      · simp [h1, hmL, hIl, List.take_of_length_le]
        refine pure_call i1 (by simp [closedL, CV.closed, closed_ids, hIc]) ?_
        by_cases hml : c.sum ∈ left
        · simp [hml, h1]
          refine pure_call t1 (by simp [closedL, CV.closed, closed_ids]) ?_
          simp
          refine pure_call t2 (by simp [closedL, CV.closed, closed_ids]) ?_
          by_cases hat : atN N left i + atN N right i = 1
          · have hat' : (atN N left i : Int) + (atN N right i : Int) = 1 := by omega
            have hlie : lied N left right c i = false := by unfold lied; rw [nbeq_true hat]; simp [h1, hml]
            rw [hlie] at hres
            simp only at hres
            have hw1 : IntKind.i64.wrap 1 = 1 := rfl
            have hlt1 := without_lt hml
            have hmX : ∀ X : Hl, (L ++ X)[m]? = some (CB.cells 32 I) := fun X => by rw [List.getElem?_append_left (by omega)]; exact hmL
            have oneO : ∀ (l : Hl) (b : Nat), l[b]? = some (CB.cells 32 I) → OwnS 32 l (.sl 32 b 0 1 1 32) b (([c.sum] : List (List B)).map eId) := fun l b hb =>
              .sl b 1 1 32 I _ hb hIl rfl (fun e he => by simp at he; subst he; simp [eId, hcl]) (Nat.le_refl _) (by omega) (by rw [List.take_of_length_le (by omega), hI]; simp [eId])
            simp [hatw, hat', hw1, hmL, hIl, hsp32, List.take_of_length_le, hmX]
            obtain ⟨H, hH⟩ : ∃ H, H = L ++ [CB.cells 32 I, CB.cells 32 I] := ⟨_, rfl⟩
            have ha0 : H[L.length]? = some (CB.cells 32 I) := by rw [hH]; simp
            have ha1 : H[L.length + 1]? = some (CB.cells 32 I) := by rw [hH]; simp
            have hHm : H[m]? = some (CB.cells 32 I) := by rw [hH]; exact hmX _
            have odH : OwnS 32 H vd jd (done.map eId) := by rw [hH]; exact odL.more _
            rw [← hH]
            refine pureN_callB wl (.cons (.same _ (closed_ids _)) (.cons ((oneO H _ ha0).rdH_enc closed_eId (some [c.sum]) rfl rfl) .nil)) ?_
            simp [hHm, ha1, hIl, List.take_of_length_le]
            refine pureN_callB wr (.cons (.same _ (closed_ids _)) (.cons ((oneO H _ ha1).rdH_enc closed_eId (some [c.sum]) rfl rfl) .nil)) ?_
            simp [hHm, hIl, List.take_of_length_le]
            refine pure_call hch0 (by simp [closedL, CV.closed, closed_sk, hIc]) ?_
            simp [outC, hHm, hIl, hsp32, List.take_of_length_le]
            have hcI : contentsL (H ++ [CB.cells 32 I]) 32 (.sl 32 H.length 0 1 1 32) = some (([I] : List (List CV)).flatten, ([I] : List (List CV)).length) := by
              simp [contentsL, hIl, List.take_of_length_le]
            obtain ⟨v', j', l', b1, b2, b3, b4, b5, b6⟩ := appS (by_ := 32) (odH.more [CB.cells 32 I]) hcI (by simp [hIl]) (by omega) (by omega) (by rw [hr0]; simp; omega)
            rw [← hmapI] at b2
            have hnd' : isNilS v' = (done ++ [c.sum]).isEmpty := by rw [b6]; simp
            simp [b1]
            refine AppK.keep ?_
            simp
            refine next_own (T'.now (by omega)) hids (by simp; omega) b2 hnd' ?_
            simp
            exact ⟨by omega, g', without left [c.sum], without right [c.sum], done ++ [c.sum], v', j', by simp, by simp, by simp, by simp, by simp, by simp, ⟨⟨T'.sz, fun j hj => by have := T'.b j hj; simp; omega, T'.o⟩, by simp; omega, without_mem hi.li, without_mem hi.ri, hids, by rw [show 60 - (done ++ [c.sum]).length = f by simp; omega]; exact hres⟩, b2, hnd', by simp; omega⟩
          · have hat' : ¬ ((atN N left i : Int) + (atN N right i : Int) = 1) := by omega
            have hlie : lied N left right c i = true := by unfold lied; rw [nbeq_false hat]; simp
            rw [hlie] at hres
            simp only at hres
            simp [hatw, hat']
            exact rd_bool hres
        · have hlie : lied N left right c i = true := by unfold lied; simp [h1, hml]
          rw [hlie] at hres
          simp only at hres
          simp [hml, h1]
          exact rd_bool hres
      · simp [h1, hmL, hIl, List.take_of_length_le]
        refine pure_call i2 (by simp [closedL, CV.closed, closed_ids, hIc]) ?_
        by_cases hml : c.sum ∈ right
        · simp [hml, h1]
          refine pure_call t1 (by simp [closedL, CV.closed, closed_ids]) ?_
          simp
          refine pure_call t2 (by simp [closedL, CV.closed, closed_ids]) ?_
          by_cases hat : atN N left i + atN N right i = 1
          · have hat' : (atN N left i : Int) + (atN N right i : Int) = 1 := by omega
            have hlie : lied N left right c i = false := by unfold lied; rw [nbeq_true hat]; simp [h1, hml]
            rw [hlie] at hres
            simp only at hres
            have hw1 : IntKind.i64.wrap 1 = 1 := rfl
            have hlt1 := without_lt hml
            have hmX : ∀ X : Hl, (L ++ X)[m]? = some (CB.cells 32 I) := fun X => by rw [List.getElem?_append_left (by omega)]; exact hmL
            have oneO : ∀ (l : Hl) (b : Nat), l[b]? = some (CB.cells 32 I) → OwnS 32 l (.sl 32 b 0 1 1 32) b (([c.sum] : List (List B)).map eId) := fun l b hb =>
              .sl b 1 1 32 I _ hb hIl rfl (fun e he => by simp at he; subst he; simp [eId, hcl]) (Nat.le_refl _) (by omega) (by rw [List.take_of_length_le (by omega), hI]; simp [eId])
            simp [hatw, hat', hw1, hmL, hIl, hsp32, List.take_of_length_le, hmX]
            obtain ⟨H, hH⟩ : ∃ H, H = L ++ [CB.cells 32 I, CB.cells 32 I] := ⟨_, rfl⟩
            have ha0 : H[L.length]? = some (CB.cells 32 I) := by rw [hH]; simp
            have ha1 : H[L.length + 1]? = some (CB.cells 32 I) := by rw [hH]; simp
            have hHm : H[m]? = some (CB.cells 32 I) := by rw [hH]; exact hmX _
            have odH : OwnS 32 H vd jd (done.map eId) := by rw [hH]; exact odL.more _
            rw [← hH]
            refine pureN_callB wl (.cons (.same _ (closed_ids _)) (.cons ((oneO H _ ha0).rdH_enc closed_eId (some [c.sum]) rfl rfl) .nil)) ?_
            simp [hHm, ha1, hIl, List.take_of_length_le]
            refine pureN_callB wr (.cons (.same _ (closed_ids _)) (.cons ((oneO H _ ha1).rdH_enc closed_eId (some [c.sum]) rfl rfl) .nil)) ?_
            simp [hHm, hIl, List.take_of_length_le]
            refine pure_call hch0 (by simp [closedL, CV.closed, closed_sk, hIc]) ?_
            simp [outC, hHm, hIl, hsp32, List.take_of_length_le]
            have hcI : contentsL (H ++ [CB.cells 32 I]) 32 (.sl 32 H.length 0 1 1 32) = some (([I] : List (List CV)).flatten, ([I] : List (List CV)).length) := by
              simp [contentsL, hIl, List.take_of_length_le]
            obtain ⟨v', j', l', b1, b2, b3, b4, b5, b6⟩ := appS (by_ := 32) (odH.more [CB.cells 32 I]) hcI (by simp [hIl]) (by omega) (by omega) (by rw [hr0]; simp; omega)
            rw [← hmapI] at b2
            have hnd' : isNilS v' = (done ++ [c.sum]).isEmpty := by rw [b6]; simp
            simp [b1]
            refine AppK.keep ?_
            simp
            refine next_own (T'.now (by omega)) hids (by simp; omega) b2 hnd' ?_
            simp
            exact ⟨by omega, g', without left [c.sum], without right [c.sum], done ++ [c.sum], v', j', by simp, by simp, by simp, by simp, by simp, by simp, ⟨⟨T'.sz, fun j hj => by have := T'.b j hj; simp; omega, T'.o⟩, by simp; omega, without_mem hi.li, without_mem hi.ri, hids, by rw [show 60 - (done ++ [c.sum]).length = f by simp; omega]; exact hres⟩, b2, hnd', by simp; omega⟩
          · have hat' : ¬ ((atN N left i : Int) + (atN N right i : Int) = 1) := by omega
            have hlie : lied N left right c i = true := by unfold lied; rw [nbeq_false hat]; simp
            rw [hlie] at hres
            simp only at hres
            simp [hatw, hat']
            exact rd_bool hres
        · have hlie : lied N left right c i = true := by unfold lied; simp [h1, hml]
          rw [hlie] at hres
          simp only at hres
          simp [hml, h1]
          exact rd_bool hres
  · refine ⟨diffC N a.l b.l, without a.l b.l, without b.l a.l, [], .nilS, 0, by simp, by simp, by simp, by simp, by simp, by simp, ⟨hT0, by simp; omega, without_mem ha, without_mem hb, by simp, hR.symm⟩, .nil 0, rfl, rfl⟩
end Sk
end Go.CM

/-
  Sketches, plain: what is peeled of an honest difference.
-/
namespace Go.CM
open Go Go.Proofs Go.Sort Go.Shelf
set_option linter.unusedVariables false
set_option linter.unusedSimpArgs false
set_option maxRecDepth 100000
namespace Sk
open Sha

theorem negC_add (a b : Cell) : negC (addC a b) = addC (negC a) (negC b) := by unfold negC addC; simp only; rw [Int.neg_add]
theorem negC_zero : negC zeroCell = zeroCell := rfl
theorem subC_cancel {c d u : Cell} (hc : c.sum.length = 32) (hd : d.sum.length = 32) (hu : u.sum.length = 32) : subC (addC c u) (addC d u) = subC c d := by
  rw [subC_add, subC_add, negC_add, ← addC_assoc, addC_right c u, addC_assoc (addC c (negC d)), addC_neg hu, addC_zero (a := addC c (negC d)) (addC_len hc hd)]
theorem acc_cancel {N : Nat} {i : Nat} : ∀ (ids : List (List B)) (c d : Cell), (∀ x ∈ ids, x.length = 32) → c.sum.length = 32 → d.sum.length = 32 → subC (acc N c ids i) (acc N d ids i) = subC c d
  | [], c, d, _, _, _ => rfl
  | x :: ids, c, d, hi, hc, hd => by
    have hu := one_len (n := N) (hi x (by simp)) 1 i
    show subC (acc N (addC c (one N x 1 i)) ids i) (acc N (addC d (one N x 1 i)) ids i) = _
    rw [acc_cancel ids _ _ (fun y hy => hi y (by simp [hy])) (addC_len hc hu) (addC_len hd hu), subC_cancel hc hd hu]
theorem rem_eq {N : Nat} {i : Nat} : ∀ (ids : List (List B)) (c : Cell), (∀ x ∈ ids, x.length = 32) → c.sum.length = 32 → rem N c ids i = subC c (acc N zeroCell ids i)
  | [], c, _, hc => by
    show c = addC c (negC zeroCell)
    rw [negC_zero, addC_zero hc]
  | x :: ids, c, hi, hc => by
    have hu := one_len (n := N) (hi x (by simp)) (-1) i
    show rem N (addC c (one N x (-1) i)) ids i = _
    rw [rem_eq ids _ (fun y hy => hi y (by simp [hy])) (addC_len hc hu)]
    show _ = subC c (acc N (addC zeroCell (one N x 1 i)) ids i)
    rw [acc_one, subC_add, subC_add, negC_add, one_neg, ← addC_assoc, addC_right]
theorem inter_perm {a b : List (List B)} (ha : a.Nodup) (hb : b.Nodup) : (a.filter fun x => decide (x ∈ b)).Perm (b.filter fun x => decide (x ∈ a)) :=
  (List.perm_ext_iff_of_nodup (ha.filter _) (hb.filter _)).2 fun x => by simp; exact And.comm
theorem split_perm (a b : List (List B)) : a.Perm (without a b ++ a.filter fun x => decide (x ∈ b)) := by
  have := List.filter_append_perm (fun x => decide (x ∈ b)) a
  refine this.symm.trans (List.perm_append_comm.trans ?_)
  exact .refl _
theorem acc_append (N : Nat) (c : Cell) (a b : List (List B)) (i : Nat) : acc N c (a ++ b) i = acc N (acc N c a i) b i := by unfold acc; rw [List.foldl_append]
theorem diff_both {N : Nat} {i : Nat} {a b : List (List B)} (ha : a.Nodup) (hb : b.Nodup) (hla : ∀ x ∈ a, x.length = 32) (hlb : ∀ x ∈ b, x.length = 32) : diffC N a b i = both N zeroCell (without a b) (without b a) i := by
  have h1 := acc_perm (N := N) (i := i) (c := zeroCell) (split_perm a b)
  have h2 := acc_perm (N := N) (i := i) (c := zeroCell) ((split_perm b a).trans (List.Perm.append_left (without b a) (inter_perm hb ha)))
  have hz : zeroCell.sum.length = 32 := rfl
  unfold diffC
  rw [h1, h2, acc_append, acc_append, acc_cancel _ _ _ (fun x hx => hla x (List.mem_filter.1 hx).1) (acc_len (without_mem hla) hz) (acc_len (without_mem hlb) hz)]
  unfold both
  rw [rem_eq _ _ (without_mem hlb) (acc_len (without_mem hla) hz)]
theorem without_perm {l : List (List B)} (h : l.Nodup) {x : List B} (hx : x ∈ l) : l.Perm (without l [x] ++ [x]) := by
  have h1 : without l [x] = l.erase x := by
    rw [h.erase_eq_filter]
    unfold without
    refine List.filter_congr fun y _ => ?_
    by_cases hy : y = x <;> simp [hy]
  rw [h1]
  exact (List.perm_cons_erase hx).trans (List.perm_append_comm (l₁ := [x]))
theorem without_same {l : List (List B)} {x : List B} (hx : x ∉ l) : without l [x] = l := by
  unfold without
  rw [List.filter_eq_self]
  intro y hy
  have : y ≠ x := fun h => hx (h ▸ hy)
  simp [this]
theorem without_nodup {l b : List (List B)} (h : l.Nodup) : (without l b).Nodup := h.filter _
theorem hon_peel {N : Nat} : ∀ (fh f : Nat) (m : Int) (g : Nat → Cell) (left right done l r : List (List B)), honR N fh (tab N g) left right done = true → Tb N m g → m + fh ≤ 999999 → (∀ i, i < N → g i = both N zeroCell left right i) → left.Nodup → right.Nodup → (∀ x ∈ left, x ∉ right) →
    (∀ x ∈ left, x.length = 32) → (∀ x ∈ right, x.length = 32) → done.length + left.length + right.length ≤ 50 → fh ≤ f →
    ∃ l' r', peelR f (tab N g) l r done = .inr (l ++ l', r ++ r', tab N fun _ => zeroCell) ∧ l'.Perm left ∧ r'.Perm right
  | 0, f, m, g, left, right, done, l, r, h, _, _, _, _, _, _, _, _, _, _ => by cases h
  | fh + 1, f, m, g, left, right, done, l, r, h, T, hm, hg, nl, nr, hd, ll, lr, h50, hf => by
    obtain ⟨f', rfl⟩ : ∃ f', f = f' + 1 := ⟨f - 1, by omega⟩
    have hz : zeroCell.sum.length = 32 := rfl
    unfold honR at h
    unfold peelR
    cases hnx : nextN (tab N g) done with
    | none =>
      rw [hnx] at h
      simp only at h
      have h0 := Nat.eq_of_beq_eq_true h
      have e1 : left = [] := List.eq_nil_of_length_eq_zero (by omega)
      have e2 : right = [] := List.eq_nil_of_length_eq_zero (by omega)
      subst e1 e2
      refine ⟨[], [], ?_, .refl _, .refl _⟩
      simp only [List.append_nil]
      rw [tab_ext fun i hi => hg i hi]
      rfl
    | some i =>
      rw [hnx] at h
      obtain ⟨hi, hw, _⟩ := nextN_some hnx
      rw [tab_len] at hi
      have hc := tab_get (f := g) hi
      rw [wants_iff hc] at hw
      simp only [Bool.and_eq_true, Bool.not_eq_true', decide_eq_false_iff_not] at hw
      have hcnt := pure_count hw.1
      have hx := T.o i hi
      obtain ⟨x, hxe⟩ : ∃ x, x = (g i).sum := ⟨_, rfl⟩
      simp only [hc] at h ⊢
      rw [← hxe] at h hx ⊢
      cases hli : lied N left right (g i) i with
      | true => rw [hli] at h; cases h
      | false =>
        rw [hli] at h
        simp only at h
        rw [nbeq_false (by omega)]
        simp only
        have hby : -1 ≤ -(g i).count ∧ -(g i).count ≤ 1 := by rcases hcnt with h | h <;> omega
        rw [changed_tab T.sz hx hby g (fun j hj => by have := T.b j hj; omega) T.o] at h ⊢
        simp only [Option.getD_some] at h ⊢
        have T' : Tb N (m + 1) fun j => addC (g j) (one N x (-(g i).count) j) := (T.put (by omega) hx hby).2
        unfold lied at hli
        rw [← hxe] at hli
        rcases hcnt with h1 | h1
        · have hdd : decide (0 < (g i).count) = true := by rw [h1]; rfl
          rw [hdd]
          simp only
          rw [h1] at h hli T'
          have hmem : x ∈ left := by
            cases hdm : decide (x ∈ left) with
            | true => exact of_decide_eq_true hdm
            | false => rw [hdm] at hli; simp at hli
          have hnr := hd x hmem
          have hp := without_perm nl hmem
          have hws := without_same hnr
          have hlt := without_lt hmem
          rw [h1]
          obtain ⟨l', r', a1, a2, a3⟩ := hon_peel fh f' (m + 1) _ (without left [x]) (without right [x]) (done ++ [x]) (l ++ [x]) r h T' (by omega) (fun j hj => by
            show addC (g j) (one N x (-1) j) = _
            rw [hg j hj, hws]
            unfold both
            rw [acc_perm hp, acc_snoc, rem_one, addC_assoc, ← one_neg, addC_neg (one_len hx _ _), addC_zero (rem_len lr (acc_len (without_mem ll) hz))])
            (without_nodup nl) (without_nodup nr) (fun y hy hy' => hd y (List.mem_filter.1 hy).1 (List.mem_filter.1 hy').1) (without_mem ll) (without_mem lr) (by rw [hws]; simp; omega) (by omega)
          refine ⟨x :: l', r', by rw [a1]; simp, ?_, by rw [hws] at a3; exact a3⟩
          exact (List.Perm.cons x a2).trans ((List.perm_append_comm (l₁ := [x])).trans hp.symm)
        · have hdd : decide (0 < (g i).count) = false := by rw [h1]; rfl
          rw [hdd]
          simp only
          rw [h1] at h hli T'
          have hmem : x ∈ right := by
            cases hdm : decide (x ∈ right) with
            | true => exact of_decide_eq_true hdm
            | false => rw [hdm] at hli; simp at hli
          have hnl : x ∉ left := fun h' => hd x h' hmem
          have hp := without_perm nr hmem
          have hws := without_same hnl
          have hlt := without_lt hmem
          rw [h1]
          obtain ⟨l', r', a1, a2, a3⟩ := hon_peel fh f' (m + 1) _ (without left [x]) (without right [x]) (done ++ [x]) l (r ++ [x]) h T' (by omega) (fun j hj => by
            show addC (g j) (one N x (- -1) j) = _
            rw [hg j hj, hws]
            unfold both
            rw [rem_perm hp, rem_snoc, addC_assoc]
            have e : one N x (- -1) j = negC (one N x (-1) j) := by rw [one_neg]
            rw [e, addC_neg (one_len hx _ _), addC_zero (rem_len (without_mem lr) (acc_len ll hz))])
            (without_nodup nl) (without_nodup nr) (fun y hy hy' => hd y (List.mem_filter.1 hy).1 (List.mem_filter.1 hy').1) (without_mem ll) (without_mem lr) (by rw [hws]; simp; omega) (by omega)
          refine ⟨l', x :: r', by rw [a1]; simp, by rw [hws] at a2; exact a2, ?_⟩
          exact (List.Perm.cons x a3).trans ((List.perm_append_comm (l₁ := [x])).trans hp.symm)
theorem inc_pw : ∀ {l : List (List B)}, Inc l → l.Pairwise fun a b => ltB a b = true
  | [], _ => .nil
  | a :: l, h => by
    have ih := inc_pw (l := l) fun j x y hx hy => h (j + 1) x y (by simpa using hx) (by simpa using hy)
    refine List.pairwise_cons.2 ⟨fun b hb => ?_, ih⟩
    cases l with
    | nil => simp at hb
    | cons c l =>
      have h0 := h 0 a c rfl rfl
      rcases List.mem_cons.1 hb with rfl | hb
      · exact h0
      · have h1 := (List.pairwise_cons.1 ih).1 b hb
        rw [ltB_iff] at *
        exact cmpB_trans _ _ _ h0 h1
theorem lt_ne {a b : List B} (h : ltB a b = true) : a ≠ b := fun e => by subst e; rw [ltB_iff, cmpB_self] at h; omega
theorem inc_nodup {l : List (List B)} (h : Inc l) : l.Nodup := (inc_pw h).imp lt_ne
theorem sort_without {a b l' : List (List B)} (h : Inc a) (hp : l'.Perm (without a b)) : sortB l' = without a b :=
  sorted_eq ((sortB_perm l').trans hp) (sortB_pw l') (((inc_pw h).filter _).imp lt_le)
end Sk
end Go.CM

/-
  Sketches: SketchDiffers, the law.
-/
namespace Go.CM
open Go Go.Proofs Go.Sort Go.Shelf
set_option linter.unusedVariables false
set_option linter.unusedSimpArgs false
set_option maxRecDepth 100000
namespace Sk
open Sha

theorem rdH_new {l : Hl} {j n : Nat} {zero : List CV} (hzero : zero = encCell zeroCell) (h : l[j]? = some (.cells (n * 34) (repeatC zero n))) : RdH (HL l) (.sl 34 j 0 n n (n * 34)) (encSk (some (List.replicate n zeroCell))) := by
  refine OwnQ.rdH_enc (j := j) (xs := List.replicate n zeroCell) ?_ closed_cell (some _) rfl rfl
  rw [hzero] at h
  have hz : (encCell zeroCell).length = 34 := rfl
  refine .sl j 0 n n _ _ _ h (by rw [repeatC_len', hz]) (by simp) (fun e he => ?_) (Nat.le_refl _) (by omega) ?_
  · obtain ⟨c, hc, rfl⟩ := List.mem_map.1 he
    rw [(List.mem_replicate.1 hc).2]; rfl
  · rw [List.drop_zero, repeatC_flat, List.map_replicate, List.take_of_length_le]
    rw [← repeatC_flat, repeatC_len', hz]; exact Nat.le_refl _
set_option maxHeartbeats 16000000 in
theorem differs_call (n : Int) (a b : Ids) (ha : okIds a) (hb : okIds b) : CallP Tryd.prog GS 5 [.int .i64 n, encIds a, encIds b] [] (c := ⟨fun r _ => r = .bool true⟩) := by
  apply call_intro c5_eq r5_eq
  unfold c5 r5
  have hca := closed_ids a
  have hcb := closed_ids b
  have hlena : lenM (.sl 32) (encIds a) = some (.int .i64 a.l.length) := len_encS _
  have hlenb : lenM (.sl 32) (encIds b) = some (.int .i64 b.l.length) := len_encS _
  simp
  refine pure_call alive_ok rfl ?_
  simp [hlena, hlenb]
  by_cases ha25 : 25 < a.l.length
  · have h' : (25 : Int) < a.l.length := by omega
    simp [h']
  · have h1' : ¬ (25 : Int) < a.l.length := by omega
    by_cases hb25 : 25 < b.l.length
    · have h' : (25 : Int) < b.l.length := by omega
      simp [h1', hlenb, h']
    · have h2' : ¬ (25 : Int) < b.l.length := by omega
      simp [h1', hlenb, h2']
      refine pure_call (refSize_ok n) rfl ?_
      cases hsz : sizedB n with
      | false => simp
      | true =>
        obtain ⟨N, rfl, h3, h48, hmod⟩ := sized_nat hsz
        simp
        refine pure_call (inc_ok a ha (by omega)) (by simp [closedL, hca]) ?_
        cases hia : incB a.l with
        | false => simp
        | true =>
          simp
          refine pure_call (inc_ok b hb (by omega)) (by simp [closedL, hcb]) ?_
          cases hib : incB b.l with
          | false => simp
          | true =>
            simp
            refine pure_call (honest_ok N a b hsz ha hb (by omega) (by omega)) (by simp [closedL, CV.closed, hca, hcb]) ?_
            cases hho : honR N 60 (tab N (diffC N a.l b.l)) (without a.l b.l) (without b.l a.l) [] with
            | false => simp
            | true =>
              have ia := (incB_iff _).1 hia
              have ib := (incB_iff _).1 hib
              have na := inc_nodup ia
              have nb := inc_nodup ib
              obtain ⟨u1, U1⟩ := ofS_tab hsz (ids := a.l) ha (by omega)
              obtain ⟨u2, U2⟩ := ofS_tab hsz (ids := b.l) hb (by omega)
              have hAb : ∀ i, -25 ≤ (acc N zeroCell a.l i).count ∧ (acc N zeroCell a.l i).count ≤ 25 := fun i => by
                have := acc_bnd (N := N) (i := i) (ids := a.l) (c := zeroCell) (m := 0) (by simp [zeroCell]); omega
              have hBb : ∀ i, -25 ≤ (acc N zeroCell b.l i).count ∧ (acc N zeroCell b.l i).count ≤ 25 := fun i => by
                have := acc_bnd (N := N) (i := i) (ids := b.l) (c := zeroCell) (m := 0) (by simp [zeroCell]); omega
              have hDb : ∀ i, -50 ≤ (diffC N a.l b.l i).count ∧ (diffC N a.l b.l i).count ≤ 50 := fun i => by
                have := hAb i; have := hBb i; simp only [diffC, subC]; omega
              have e6 := U1.sub U2 (by omega) (by omega) (fun i hi => by have := hDb i; unfold diffC at this; omega)
              have TD : Tb N 50 (diffC N a.l b.l) := ⟨hsz, fun i hi => hDb i, fun i hi => xorL_len (U1.o i hi) (U2.o i hi)⟩
              have hlt : ∀ g : Nat → Cell, (Sv.l (some (tab N g))).length ≤ 1000000 := fun g => by rw [Sv.l_some, tab_len]; omega
              have d1 := of_ok (N : Int) a ha (by omega)
              have d2 := of_ok (N : Int) b hb (by omega)
              rw [u1] at d1
              rw [u2] at d2
              have d3 := sub_ok _ _ U1.ok U2.ok (hlt _) (hlt _)
              rw [e6] at d3
              have hD0 : (fun i => subC (acc N zeroCell a.l i) (acc N zeroCell b.l i)) = diffC N a.l b.l := rfl
              rw [hD0] at d3
              have d4 := peel_ok (some (tab N (diffC N a.l b.l))) TD.ok (hlt _)
              have hwl := without_len a.l b.l
              have hwr := without_len b.l a.l
              obtain ⟨l', r', e1, p1, p2⟩ := hon_peel 60 62 50 _ _ _ [] [] [] hho TD (by omega) (fun i hi => diff_both na nb ha hb) (without_nodup na) (without_nodup nb)
                (fun x hx hx' => by
                  have m1 := (List.mem_filter.1 hx).2
                  have m2 := (List.mem_filter.1 hx').1
                  simp at m1; exact m1 m2) (without_mem ha) (without_mem hb) (by simp; omega) (by omega)
              simp only [List.nil_append] at e1
              have hpe : peelE (some (tab N (diffC N a.l b.l))) = .inr (l', r', tab N fun _ => zeroCell) := by
                unfold peelE; rw [if_pos (TD.chk (by omega))]; exact e1
              rw [hpe, peelC_eq] at d4
              have w1 := (without_ok a b ha hb (by omega) (by omega)).toC
              have w2 := (without_ok b a hb ha (by omega) (by omega)).toC
              have hl' : ∀ x ∈ l', x.length = 32 := fun x hx => without_mem ha x (p1.mem_iff.1 hx)
              have hr' : ∀ x ∈ r', x.length = 32 := fun x hx => without_mem hb x (p2.mem_iff.1 hx)
              have q1 := p1.length_eq
              have q2 := p2.length_eq
              have s1 := sameIds_ok (svB l') (svO (without a.l b.l)) (okSv hl') (svO_ok (without_mem ha)) (by rw [lenSv]; omega)
              have s2 := sameIds_ok (svB r') (svO (without b.l a.l)) (okSv hr') (svO_ok (without_mem hb)) (by rw [lenSv]; omega)
              rw [svB_l, svO_l, sort_without ia p1] at s1
              rw [svB_l, svO_l, sort_without ib p2] at s2
              have hz0 : okSk (some (List.replicate N zeroCell)) := fun c hc => by rw [Sv.l_some] at hc; rw [(List.mem_replicate.1 hc).2]; rfl
              have s3 := same_ok (some (List.replicate N zeroCell)) (some (List.replicate N zeroCell)) hz0 hz0 (by simp; omega)
              simp only [decide_true] at s1 s2 s3
              rw [← tab_zero] at d4
              have hmk := fun z l => mks_nat (z := 34) (by_ := 48) (n := N) (k := .i64) (k' := .i64) (zero := z) (l := l) (by omega) (by rw [show roomMax = 140737488355328 from rfl]; omega)
              simp
              refine pure_call d1 (by simp [closedL, CV.closed, hca]) ?_
              simp
              refine pure_call d2 (by simp [closedL, CV.closed, hcb]) ?_
              simp
              refine pure_call d3 (by simp [closedL, CV.closed, closed_sk]) ?_
              simp
              refine pure_call d4 (by simp [closedL, CV.closed, closed_sk]) ?_
              simp [pL, pR, pN, pE]
              refine pure_call w1 (by simp [closedL, CV.closed, hca, hcb]) ?_
              simp
              refine pure_call s1 (by simp [closedL, CV.closed, closed_ids]) ?_
              simp
              refine pure_call w2 (by simp [closedL, CV.closed, hca, hcb]) ?_
              simp
              refine pure_call s2 (by simp [closedL, CV.closed, closed_ids]) ?_
              simp [hmk]
              refine pure_callB s3 (.cons (.same _ (closed_sk _)) (.cons (rdH_new rfl rfl) .nil)) rfl ?_
              simp
end Sk
end Go.CM

/-
  Sketches: SketchTwo, the law.
-/
namespace Go.CM
open Go Go.Proofs Go.Sort Go.Shelf
set_option linter.unusedVariables false
set_option linter.unusedSimpArgs false
set_option maxRecDepth 100000
namespace Sk
open Sha

theorem zero_add {u : Cell} (h : u.sum.length = 32) : addC zeroCell u = u := by rw [addC_comm, addC_zero h]
end Sk
end Go.CM
