/-
  Buffers of sleepers: what comes, comes; in plain words.
-/
import Derived.Test.YtcoanbhfelfigaaGreatDoorFk
namespace Go.CM
open Go Go.Proofs
set_option linter.unusedVariables false
set_option linter.unusedSimpArgs false
set_option maxRecDepth 100000
namespace Op
open Sha
def nX (came : List (List B)) (y : List B) : Bool := !decide (y ∈ came)
def strikeML (came : List (List B)) (m : Ids) : Ids := match m with | none => none | some a => some (a.filter (nX came))
def strikeL (came : List (List B)) (s : Slp) : Slp := { s with miss := strikeML came s.miss }
def nowL (came : List (List B)) (l : List Slp) : List Slp := (l.map (strikeL came)).filter fun s => !gone s
theorem strikeML_l (came : List (List B)) (m : Ids) : (strikeML came m).l = m.l.filter (nX came) := by cases m <;> rfl
theorem strike_more (came : List (List B)) (x : List B) (s : Slp) : strikeS x (strikeL came s) = strikeL (came ++ [x]) s := by
  unfold strikeS strikeL
  congr 1
  cases hm : s.miss with
  | none => rfl
  | some a =>
    show some ((a.filter (nX came)).filter (notX x)) = some (a.filter (nX (came ++ [x])))
    rw [List.filter_filter]
    congr 2
    funext y
    unfold nX notX
    by_cases h1 : y = x <;> by_cases h2 : y ∈ came <;> simp [h1, h2]
theorem gone_more {came : List (List B)} {x : List B} {s : Slp} (h : gone (strikeL came s) = true) : gone (strikeS x (strikeL came s)) = true := by
  unfold gone at h ⊢
  have h1 : (strikeL came s).miss.l = [] := List.isEmpty_iff.1 h
  show (strikeM x (strikeL came s).miss).l.isEmpty = true
  rw [strikeM_l, h1]; rfl
theorem next_now (x : List B) (came : List (List B)) : ∀ l : List Slp, nextL x (nowL came l) = nowL (came ++ [x]) l
  | [] => rfl
  | s :: l => by
    have ih := next_now x came l
    unfold nextL nowL at ih ⊢
    rw [List.map_cons, List.map_cons, List.filter_cons]
    cases hg : gone (strikeL came s) with
    | true =>
      have := gone_more (x := x) hg
      rw [strike_more] at this
      simp only [Bool.not_true, Bool.false_eq_true, if_false]
      rw [ih, List.filter_cons, this]; simp
    | false =>
      simp only [Bool.not_false, if_true]
      rw [List.map_cons, List.filter_cons, strike_more, List.filter_cons, ih]
theorem part_len (x : List B) : ∀ l : List Slp, (nextL x l).length + (freedL x l).length = l.length
  | [] => rfl
  | s :: l => by
    have ih := part_len x l
    unfold nextL freedL at ih ⊢
    rw [List.map_cons, List.filter_cons, List.filter_cons]
    cases gone (strikeS x s) <;> simp <;> omega
def okS (s : Slp) : Prop := opErr s.op = 0 ∧ idOf s.op = s.id ∧ 0 ≤ s.tk ∧ s.tk ≤ 1000000000 ∧ missB s.op s.miss.l = true
theorem good_split (l : List Slp) : goodSls l = true ↔ (∀ s ∈ l, okS s) ∧ l.Pairwise (fun a b => a.tk < b.tk) ∧ l.Pairwise fun a b => a.id ≠ b.id := by
  constructor
  · intro h
    have hk : ∀ k, k < l.length → goodSl l k = true := of_decide_eq_true h
    have hone : ∀ (k : Nat) (s : Slp), l[k]? = some s → opErr s.op = 0 ∧ idOf s.op = s.id ∧ tkPrev l k < s.tk ∧ s.tk ≤ 1000000000 ∧ missB s.op s.miss.l = true ∧ s.id ∉ (l.take k).map Slp.id := fun k s hs => by
      have := hk k (List.getElem?_eq_some_iff.1 hs).1
      unfold goodSl at this
      rw [slAt_get hs] at this
      simp only [Bool.and_eq_true, decide_eq_true_eq] at this
      exact this
    have hlt : ∀ (d i : Nat) (a b : Slp), l[i]? = some a → l[i + d + 1]? = some b → a.tk < b.tk := by
      intro d
      induction d with
      | zero =>
        intro i a b ha hb
        have := (hone (i + 1) b hb).2.2.1
        unfold tkPrev at this
        rw [if_neg (by omega), Nat.add_sub_cancel, slAt_get ha] at this
        exact this
      | succ d ih =>
        intro i a b ha hb
        obtain ⟨z, hz, _⟩ := get_of (l := l) (k := i + d + 1) (by have := (List.getElem?_eq_some_iff.1 hb).1; omega)
        have h1 := ih i a z ha hz
        have h2 := (hone (i + d + 1 + 1) b hb).2.2.1
        unfold tkPrev at h2
        rw [if_neg (by omega), Nat.add_sub_cancel, slAt_get hz] at h2
        omega
    refine ⟨fun s hs => ?_, List.pairwise_iff_getElem.2 fun i j hi hj hij => ?_, List.pairwise_iff_getElem.2 fun i j hi hj hij he => ?_⟩
    · obtain ⟨k, hks⟩ := List.mem_iff_getElem?.1 hs
      obtain ⟨h1, h2, h3, h4, h5, _⟩ := hone k s hks
      have hge := tkPrev_ge (l := l) (k := k) (by have := (List.getElem?_eq_some_iff.1 hks).1; omega) fun j hj => hk j (by have := (List.getElem?_eq_some_iff.1 hks).1; omega)
      exact ⟨h1, h2, by omega, h4, h5⟩
    · exact hlt (j - i - 1) i _ _ (List.getElem?_eq_getElem hi) (by rw [show i + (j - i - 1) + 1 = j by omega]; exact List.getElem?_eq_getElem hj)
    · have := (hone j _ (List.getElem?_eq_getElem hj)).2.2.2.2.2
      refine this ?_
      rw [← he]
      exact List.mem_map_of_mem (List.mem_iff_getElem?.2 ⟨i, by rw [List.getElem?_take_of_lt hij]; exact List.getElem?_eq_getElem hi⟩)
  · rintro ⟨h1, h2, h3⟩
    refine decide_eq_true fun k hk => ?_
    have hs := List.getElem?_eq_getElem hk
    obtain ⟨g1, g2, g3, g4, g5⟩ := h1 _ (List.getElem_mem hk)
    unfold goodSl
    rw [slAt_get hs]
    have c3 : tkPrev l k < l[k].tk := by
      unfold tkPrev
      by_cases h0 : k = 0
      · rw [if_pos h0]; omega
      · rw [if_neg h0, slAt_get (List.getElem?_eq_getElem (l := l) (i := k - 1) (by omega))]
        exact (List.pairwise_iff_getElem.1 h2) (k - 1) k (by omega) hk (by omega)
    have c6 : l[k].id ∉ (l.take k).map Slp.id := fun hm => by
      obtain ⟨z, hz, hzk⟩ := List.mem_map.1 hm
      obtain ⟨j, hj⟩ := List.mem_iff_getElem?.1 hz
      have hjl := (List.getElem?_eq_some_iff.1 hj).1
      rw [List.length_take] at hjl
      rw [List.getElem?_take_of_lt (by omega)] at hj
      have := (List.pairwise_iff_getElem.1 h3) j k (by omega) hk (by omega)
      rw [(List.getElem?_eq_some_iff.1 hj).2] at this
      exact this hzk
    simp only [g1, g2, c3, g4, g5, c6, decide_true, not_false_eq_true, Bool.and_self]
theorem ris_pair (l : List (List B)) : ris l = true ↔ l.Pairwise fun a b => cmpB a b < 0 := by
  constructor
  · intro h
    refine List.pairwise_iff_getElem.2 fun i j hi hj hij => ?_
    have := ris_lt h (d := j - i - 1) (i := i) (by omega)
    rw [show i + (j - i - 1) + 1 = j by omega] at this
    rwa [idAt_get (List.getElem?_eq_getElem hi), idAt_get (List.getElem?_eq_getElem hj)] at this
  · intro h
    refine ris_true fun k hk h1 => ?_
    have := (List.pairwise_iff_getElem.1 h) (k - 1) k (by omega) hk (by omega)
    rwa [idAt_get (List.getElem?_eq_getElem (l := l) (i := k - 1) (by omega)), idAt_get (List.getElem?_eq_getElem hk)]
theorem okS_strike {came : List (List B)} {s : Slp} (h : okS s) (hg : gone (strikeL came s) = false) : okS (strikeL came s) := by
  obtain ⟨h1, h2, h3, h4, h5⟩ := h
  refine ⟨h1, h2, h3, h4, ?_⟩
  unfold missB at h5 ⊢
  rw [Bool.and_eq_true, Bool.and_eq_true, decide_eq_true_eq] at h5
  have hm : (strikeL came s).miss.l = s.miss.l.filter (nX came) := strikeML_l came s.miss
  unfold gone at hg
  rw [hm] at hg ⊢
  have hpos : 0 < (s.miss.l.filter (nX came)).length := by
    cases hf : s.miss.l.filter (nX came) with
    | nil => rw [hf] at hg; cases hg
    | cons a r => simp
  rw [decide_eq_true hpos, (ris_pair _).2 (((ris_pair _).1 h5.2.1).sublist List.filter_sublist)]
  simp only [Bool.true_and]
  exact List.all_eq_true.2 fun y hy => List.all_eq_true.1 h5.2.2 y (List.mem_filter.1 hy).1
theorem pen_good {c : Int} {l : List Slp} (h : penErr c l = 0) : ¬ (c < 1 ∨ 8 < c ∨ c < l.length) ∧ goodSls l = true := by
  unfold penErr at h
  split at h
  · cases h
  · rename_i h1
    split at h
    · rename_i h2; exact ⟨h1, h2⟩
    · cases h
theorem now_ok {c : Int} {l : List Slp} (h : penErr c l = 0) (came : List (List B)) : penErr c (nowL came l) = 0 := by
  obtain ⟨h1, h2⟩ := pen_good h
  obtain ⟨g1, g2, g3⟩ := (good_split l).1 h2
  have hlen : (nowL came l).length ≤ l.length := by
    unfold nowL
    refine Nat.le_trans (List.length_filter_le _ _) ?_
    simp
  have hg : goodSls (nowL came l) = true := (good_split _).2 ⟨fun s hs => by
    unfold nowL at hs
    obtain ⟨hm, hgo⟩ := List.mem_filter.1 hs
    obtain ⟨t, ht, rfl⟩ := List.mem_map.1 hm
    exact okS_strike (g1 t ht) (by simpa using hgo), ((List.pairwise_map (f := strikeL came) (R := fun a b => a.tk < b.tk)).2 g2).sublist List.filter_sublist, ((List.pairwise_map (f := strikeL came) (R := fun a b => a.id ≠ b.id)).2 g3).sublist List.filter_sublist⟩
  unfold penErr
  rw [if_neg (by omega), hg]; rfl
theorem at_of {l : List Slp} (h : l.Pairwise fun a b => a.id ≠ b.id) {s : Slp} (hs : s ∈ l) : ∃ k : Nat, ixOf s.id (l.map Slp.id) 0 = (k : Int) ∧ l[k]? = some s := by
  obtain ⟨k, hk⟩ := List.mem_iff_getElem?.1 hs
  obtain ⟨hkl, hke⟩ := List.getElem?_eq_some_iff.1 hk
  refine ⟨k, ?_, hk⟩
  have := ixOf_at (n := 0) (x := s.id) (l := l.map Slp.id) (k := k) (y := s.id) (by rw [List.getElem?_map, hk]; rfl) (fun j z hj hz he => ?_) rfl
  · simpa using this
  · rw [List.getElem?_map] at hz
    have hjl : j < l.length := by omega
    rw [List.getElem?_eq_getElem hjl] at hz
    have hze : l[j].id = z := Option.some.inj hz
    have := (List.pairwise_iff_getElem.1 h) j k hjl hkl hj
    rw [hke] at this
    exact this (by rw [hze]; exact he)
theorem freed_of {x : List B} {came : List (List B)} {l : List Slp} {f : Slp} (h : f ∈ freedL x (nowL came l)) :
    ∃ s ∈ l, f.id = s.id ∧ f.tk = s.tk ∧ x ∈ s.miss.l ∧ ∀ y ∈ s.miss.l, y ∈ came ++ [x] := by
  unfold freedL at h
  obtain ⟨hm, hgo⟩ := List.mem_filter.1 h
  obtain ⟨t, ht, rfl⟩ := List.mem_map.1 hm
  unfold nowL at ht
  obtain ⟨hm2, hng⟩ := List.mem_filter.1 ht
  obtain ⟨s, hs, rfl⟩ := List.mem_map.1 hm2
  refine ⟨s, hs, rfl, rfl, ?_⟩
  rw [strike_more] at hgo
  have h1 : s.miss.l.filter (nX (came ++ [x])) = [] := by
    have : (strikeL (came ++ [x]) s).miss.l = s.miss.l.filter (nX (came ++ [x])) := strikeML_l _ _
    unfold gone at hgo
    rw [this] at hgo
    exact List.isEmpty_iff.1 hgo
  have hall : ∀ y ∈ s.miss.l, y ∈ came ++ [x] := fun y hy => by
    have := (List.filter_eq_nil_iff.1 h1) y hy
    unfold nX at this
    rw [List.mem_append, List.mem_singleton]
    exact Decidable.or_iff_not_imp_left.2 (by simpa using this)
  refine ⟨?_, hall⟩
  have h2 : ¬ s.miss.l.filter (nX came) = [] := fun h0 => by
    have : (strikeL came s).miss.l = s.miss.l.filter (nX came) := strikeML_l _ _
    unfold gone at hng
    rw [this, h0] at hng
    simp at hng
  obtain ⟨y, hy⟩ := List.exists_mem_of_ne_nil _ h2
  obtain ⟨hy1, hy2⟩ := List.mem_filter.1 hy
  have hy3 := hall y hy1
  rw [List.mem_append] at hy3
  unfold nX at hy2
  rcases hy3 with h3 | h3
  · simp [h3] at hy2
  · rw [List.mem_singleton] at h3
    rw [← h3]; exact hy1
theorem next_of {came : List (List B)} {l : List Slp} {f : Slp} (h : f ∈ nowL came l) : ∃ s ∈ l, f.id = s.id ∧ ∃ y ∈ s.miss.l, y ∉ came := by
  unfold nowL at h
  obtain ⟨hm2, hng⟩ := List.mem_filter.1 h
  obtain ⟨s, hs, rfl⟩ := List.mem_map.1 hm2
  refine ⟨s, hs, rfl, ?_⟩
  have h2 : ¬ s.miss.l.filter (nX came) = [] := fun h0 => by
    have : (strikeL came s).miss.l = s.miss.l.filter (nX came) := strikeML_l _ _
    unfold gone at hng
    rw [this, h0] at hng
    simp at hng
  obtain ⟨y, hy⟩ := List.exists_mem_of_ne_nil _ h2
  obtain ⟨hy1, hy2⟩ := List.mem_filter.1 hy
  exact ⟨y, hy1, fun h3 => by unfold nX at hy2; simp [h3] at hy2⟩
theorem now_nil {l : List Slp} (h : ∀ s ∈ l, okS s) : nowL [] l = l := by
  have h1 : ∀ s : Slp, strikeL [] s = s := fun s => by
    unfold strikeL
    have : strikeML [] s.miss = s.miss := by
      cases hm : s.miss with
      | none => rfl
      | some a => exact congrArg some (List.filter_eq_self.2 fun y _ => by unfold nX; simp)
    rw [this]
  unfold nowL
  rw [List.map_congr_left (g := id) (fun s _ => h1 s), List.map_id, List.filter_eq_self.2]
  intro s hs
  have := (h s hs).2.2.2.2
  unfold missB at this
  rw [Bool.and_eq_true, decide_eq_true_eq] at this
  unfold gone
  cases hm : s.miss.l with
  | nil => rw [hm] at this; simp at this
  | cons a r => rfl
theorem freed_up {x : List B} {l : List Slp} (h : l.Pairwise fun a b => a.tk < b.tk) : (freedL x l).Pairwise fun a b => a.tk < b.tk := by
  unfold freedL
  exact ((List.pairwise_map (f := strikeS x) (R := fun a b => a.tk < b.tk)).2 h).sublist List.filter_sublist
end Op
end Go.CM

/-
  Buffers of sleepers: what comes in; greatness, fit, all; walked.
-/
namespace Go.CM
open Go Go.Proofs Go.RowKit
set_option linter.unusedVariables false
set_option linter.unusedSimpArgs false
set_option maxRecDepth 100000
namespace Op
open Sha
structure TySl (s : Slp) : Prop where
  op : TyOp s.op
  id : s.id.length = 32
  miss : okIds s.miss
theorem ty_sl1 {ts : List TypeId} {cs : List CV} (h : Ty Tryz.prog (46 :: ts) cs) : ∃ (s : Slp) (cs' : List CV), cs = encSl s ++ cs' ∧ TySl s ∧ Ty Tryz.prog ts cs' := by
  have h1 := ty_struct (fs := [3, 44, 32, 25]) (by kernel_rfl) h
  obtain ⟨n, _, rfl, _, _, h2⟩ := ty_int (k := .i64) (by kernel_rfl) h1
  obtain ⟨o, _, rfl, ho, h3⟩ := ty_op h2
  obtain ⟨x, _, rfl, hx, h4⟩ := ty_idm h3
  obtain ⟨m, cs', rfl, hm, h5⟩ := ty_ids h4
  exact ⟨⟨n, o, x, m⟩, cs', by simp [encSl, eId], ⟨ho, hx, hm⟩, h5⟩
theorem tyA_pend {ts : List TypeId} {cs : List CV} (h : TyA Tryz.prog (24 :: ts) cs) : ∃ (c : Int) (s : Slps) (cs' : List CV), cs = .ag (encP c s) :: cs' ∧ (∀ t ∈ s.l, TySl t) ∧ TyA Tryz.prog ts cs' := by
  obtain ⟨c, cs', rfl, h1, h2⟩ := tyA_cons h
  obtain ⟨cs, rfl, h3⟩ := tyV_agg (by kernel_rfl) h1
  have h4 := ty_struct (fs := [3, 22]) (by kernel_rfl) h3
  obtain ⟨n, _, rfl, _, _, h5⟩ := ty_int (k := .i64) (by kernel_rfl) h4
  obtain ⟨s, _, rfl, _, ho, h6⟩ := ty_sl (e := 46) (z := 45) (enc := encSl) (Q := TySl) (by kernel_rfl) (by kernel_rfl) (fun r hr => by
    obtain ⟨x, _, rfl, hx, h3⟩ := ty_sl1 hr
    rw [ty_nil h3, List.append_nil]
    exact ⟨x, rfl, hx⟩) h5
  rw [ty_nil h6]
  exact ⟨n, s, cs', rfl, ho, h2⟩
theorem row_id {s : Slp} (h : s.id.length = 32) : Row s (encSl s) := by
  have hi := eId_len h
  have hl : (encSl s).length = 45 := by unfold encSl encOp; simp [hi]
  refine ⟨hl, fun _ => rfl, ?_, ?_, fun h2 => ?_, closed_encSl s⟩
  · unfold encSl encOp; simp
  · unfold encSl encOp
    simp [hi]
  · exact (List.getElem?_eq_some_iff.1 (row_ms h)).2
def bigS (s : Slp) : Bool := longO s.op || decide (40 < s.miss.l.length)
def greatP (l : List Slp) : Bool := decide (∃ t ∈ l.take 21, bigS t = true) || decide (20 < l.length)
theorem pGreat_le {l : List Slp} (h : greatP l = false) : l.length ≤ 20 ∧ ∀ t ∈ l, bigS t = false := by
  unfold greatP at h
  rw [Bool.or_eq_false_iff, decide_eq_false_iff_not, decide_eq_false_iff_not] at h
  refine ⟨by omega, fun t ht => ?_⟩
  rw [List.take_of_length_le (by omega)] at h
  exact Bool.eq_false_iff.2 fun h2 => h.1 ⟨t, ht, h2⟩
theorem okSl_of {s : Slp} (h : TySl s) (hb : bigS s = false) : OkSl s := by
  unfold bigS at hb
  rw [Bool.or_eq_false_iff, decide_eq_false_iff_not] at hb
  have hl := hb.1
  unfold longO at hl
  simp only [Bool.or_eq_false_iff, decide_eq_false_iff_not] at hl
  exact ⟨⟨h.op.ids, by omega, ⟨h.op.n1, h.op.n2, by omega⟩, by omega⟩, h.id, h.miss, by omega⟩
structure GrpI (c : Int) (s : Slps) (k : Nat) (σ : Sg) (l : Hl) : Prop where
  hl : l = [.cells 2 (encP c s)]
  g1 : σ 1 = .ptr 0 0 2
  g3 : σ 3 = .int .i64 k
  hs : ∀ (j : Nat) (t : Slp), j < k → s.l[j]? = some t → bigS t = false
theorem rPGreat_ok (c : Int) (s : Slps) (hs : ∀ t ∈ s.l, TySl t) : PureC Tryz.prog GS 17 [.ag (encP c s)] (.bool (greatP s.l)) := by
  refine pure_of Tryz.checked.mixed GS_closed ?_
  apply call_intro c17_eq r17_eq
  unfold c17 r17
  have hlen : lenM (.sl 45) (encSls s) = some (.int .i64 s.l.length) := by simp [encSls]
  simp [encP]
  refine loop_up (min s.l.length 21) (GrpI c s) ?_ ⟨rfl, by simp, by simp, fun j t h => by omega⟩
  rintro k σ l hk ⟨rfl, g1, g3, hss⟩
  obtain ⟨σ, rfl⟩ := upds2 g1 g3
  clear g1 g3
  unfold l17_0
  by_cases h : k < s.l.length
  · have h' : (k : Int) < (s.l.length : Int) := by omega
    by_cases h2 : k ≤ 20
    · have h2' : (k : Int) ≤ 20 := by omega
      obtain ⟨y, hy, hym⟩ := get_of (l := s.l) (k := k) h
      have hR := row_id (hs y hym).id
      have hia : iaC (.sl 45) (encSls s) (.int .i64 (k : Int)) = some (.rptr (encSl y) 0) := by simp [encSls, hy]
      have e1 : IntKind.i64.wrap ((k : Int) + 1) = ((k + 1 : Nat) : Int) := by rw [IntKind.wrap_i64]; omega
      have hlo := rLong_ok y.op
      have hco := closed_op y.op
      have hml : lenM (.sl 32) (encIds y.miss) = some (.int .i64 y.miss.l.length) := by simp [encIds]
      have hbig : bigS y = true → greatP s.l = true := fun hb => by
        unfold greatP
        rw [decide_eq_true (⟨y, List.mem_iff_getElem?.2 ⟨k, by rw [List.getElem?_take_of_lt (by omega)]; exact hy⟩, hb⟩ : ∃ t ∈ s.l.take 21, bigS t = true)]; rfl
      obtain ⟨R, hRe⟩ : ∃ R, R = encSl y := ⟨_, rfl⟩
      rw [← hRe] at hR hia
      obtain ⟨O, hO⟩ : ∃ O, O = encOp y.op := ⟨_, rfl⟩
      have f1 := hR.len
      have f3 := hR.op
      have f5 := hR.miss
      rw [← hO] at f3 hlo hco
      have hOl : O.length = 11 := by rw [hO]; rfl
      simp [encP, hlen, h, h', h2, h2', hia, f1, f3, hOl, List.take_of_length_le]
      refine pure_call hlo (by simp [closedL, CV.closed, hco]) ?_
      cases hlg : longO y.op with
      | true =>
        have hb := hbig (by unfold bigS; rw [hlg]; rfl)
        rw [hb]
        simp
        exact rd_eq rfl rfl
      | false =>
        by_cases h40 : 40 < y.miss.l.length
        · have hb := hbig (by unfold bigS; rw [decide_eq_true h40]; simp)
          have h40' : (40 : Int) < (y.miss.l.length : Int) := by omega
          rw [hb]
          simp [encP, hia, f1, f5, hml, h40, h40']
          exact rd_eq rfl rfl
        · have h40' : ¬ (40 : Int) < (y.miss.l.length : Int) := by omega
          simp [encP, hia, f1, f5, hml, h40, h40', e1]
          refine ⟨by omega, rfl, by simp, by simp, fun j t hj ht => ?_⟩
          by_cases hjk : j = k
          · rw [hjk, hy] at ht; obtain rfl := Option.some.inj ht
            unfold bigS; rw [hlg, decide_eq_false h40]; rfl
          · exact hss j t (by omega) ht
    · have h2' : ¬ (k : Int) ≤ 20 := by omega
      have h4 : 20 < s.l.length := by omega
      have h4' : (20 : Int) < (s.l.length : Int) := by omega
      have hb : greatP s.l = true := by unfold greatP; simp [h4]
      rw [hb]
      simp [encP, hlen, h, h2, h', h2', h4, h4']
      exact rd_eq rfl rfl
  · have h' : ¬ (k : Int) < (s.l.length : Int) := by omega
    have h4 : ((20 : Int) < (s.l.length : Int)) ↔ 20 < s.l.length := by omega
    have hb : greatP s.l = decide (20 < s.l.length) := by
      unfold greatP
      rw [decide_eq_false (p := ∃ t ∈ s.l.take 21, bigS t = true), Bool.false_or]
      rintro ⟨t, ht, ht2⟩
      obtain ⟨j, hj⟩ := List.mem_iff_getElem?.1 ht
      have hjl := (List.getElem?_eq_some_iff.1 hj).1
      rw [List.length_take] at hjl
      rw [List.getElem?_take_of_lt (by omega)] at hj
      rw [hss j t (by omega) hj] at ht2; cases ht2
    rw [hb]
    simp [encP, hlen, h, h', h4]
    exact rd_eq rfl rfl
theorem fit_ok (c : Int) (s : Slps) (hs : ∀ t ∈ s.l, TySl t) : PureC Tryz.prog GS 9 [.ag (encP c s)] (.bool (!greatP s.l && decide (penErr c s.l = 0))) := by
  refine pure_of Tryz.checked.mixed GS_closed ?_
  apply call_intro c9_eq r9_eq
  unfold c9 r9
  have hcs := closed_Sls s
  have hcp : closedL [CV.ag (encP c s)] = true := by simp [encP, closedL, CV.closed, hcs]
  simp [encP]
  refine pure_call (rPGreat_ok c s hs) hcp ?_
  cases hg : greatP s.l with
  | true =>
    simp
    exact rd_eq rfl rfl
  | false =>
    obtain ⟨h20, hb⟩ := pGreat_le hg
    simp
    refine pure_call (rPCheck_ok c s (fun t ht => okSl_of (hs t ht) (hb t ht)) (by omega)) hcp ?_
    simp
    exact rd_eq rfl rfl
structure AllI (a b : Ids) (k : Nat) (σ : Sg) (l : Hl) : Prop where
  g0 : σ 0 = encIds a
  g1 : σ 1 = encIds b
  g5 : σ 5 = .int .i64 k
  hs : ∀ (j : Nat) (y : List B), j < k → a.l[j]? = some y → y ∈ b.l
theorem all_ok (a b : Ids) (ha : okIds a) (hb : okIds b) (hl : a.l.length ≤ 1000000) (hl2 : b.l.length ≤ 1000000) : PureC Tryz.prog GS 14 [encIds a, encIds b] (.bool (a.l.all fun y => decide (y ∈ b.l))) := by
  refine pure_of Tryz.checked.mixed GS_closed ?_
  apply call_intro c14_eq r14_eq
  unfold c14 r14
  have hlen : lenM (.sl 32) (encIds a) = some (.int .i64 a.l.length) := by simp [encIds]
  have hcb := closed_ids b
  simp
  refine loop_up a.l.length (AllI a b) ?_ ⟨by simp, by simp, by simp, fun j y h => by omega⟩
  rintro k σ l hk ⟨g0, g1, g5, hss⟩
  obtain ⟨σ, rfl⟩ := upds3 g0 g1 g5
  clear g0 g1 g5
  unfold l14_0
  simp [hlen]
  refine kIf_intro (fun h => ?_) (fun h => ?_)
  · simp only [decide_eq_true_eq] at h
    obtain ⟨y, hy, hym⟩ := get_of (l := a.l) (k := k) (by omega)
    have hyl := eId_len (ha y hym)
    have e1 : IntKind.i64.wrap ((k : Int) + 1) = ((k + 1 : Nat) : Int) := by rw [IntKind.wrap_i64]; omega
    have hia : iaC (.sl 32) (encIds a) (.int .i64 (k : Int)) = some (.rptr (eId y) 0) := by simp [encIds, hy]
    have hcy := closed_eId y
    simp [hia, hyl, List.take_of_length_le]
    refine pure_call (rIn_ok b hb hl2 y (ha y hym)) (by simp [closedL, CV.closed, hcb, hcy]) ?_
    by_cases hm : y ∈ b.l
    · simp [hm, e1]
      refine ⟨by omega, by simp, by simp, by simp, fun j z hj hz => ?_⟩
      by_cases hjk : j = k
      · rw [hjk, hy] at hz; obtain rfl := Option.some.inj hz; exact hm
      · exact hss j z (by omega) hz
    · have hf : (a.l.all fun y => decide (y ∈ b.l)) = false := by
        cases h3 : (a.l.all fun y => decide (y ∈ b.l)) with
        | false => rfl
        | true => exact absurd (of_decide_eq_true (List.all_eq_true.1 h3 y hym)) hm
      rw [hf]
      simp [hm]
      exact rd_eq rfl rfl
  · simp [h]
    have hk2 : k = a.l.length := by simp at h; omega
    have hf : (a.l.all fun y => decide (y ∈ b.l)) = true := List.all_eq_true.2 fun x hx => by
      obtain ⟨j, hj⟩ := List.mem_iff_getElem?.1 hx
      exact decide_eq_true (hss j x (by rw [hk2]; exact (List.getElem?_eq_some_iff.1 hj).1) hj)
    rw [hf]
    exact rd_eq rfl rfl
end Op
end Go.CM

/-
  Buffers of sleepers: what comes frees; the law walked in the program's text.
-/
namespace Go.CM
open Go Go.Proofs
set_option linter.unusedVariables false
set_option linter.unusedSimpArgs false
set_option maxRecDepth 100000
namespace Op
open Sha
theorem appId {l : Hl} {v : CV} {j : Nat} {es : List (List B)} {x : List B} (h : OwnS 32 l v j (es.map eId)) (hs : (eId x).length = 32) (hn : es.length ≤ 1000000) :
    ∃ v' j' l', appM (l ++ [.cells 32 (eId x)]) 32 32 v (.sl 32 l.length 0 1 1 32) = some (v', l') ∧ OwnS 32 l' v' j' ((es ++ [x]).map eId) ∧ l.length + 1 ≤ l'.length ∧ (∀ b, b < l.length → v = .nilS ∨ b ≠ j → l'[b]? = l[b]?) ∧ (l.length ≤ j' ∨ (v ≠ .nilS ∧ j' = j)) ∧ isNilS v' = false := by
  have hr : roomMax = 140737488355328 := rfl
  obtain ⟨v', j', l', a1, b1, c1, d1, e1, f1⟩ := appS (h.more [.cells 32 (eId x)]) (by_ := 32) (x := .sl 32 l.length 0 1 1 32) (xs := [eId x]) (by simp [contentsL, hs, List.take_of_length_le]) (by simp [hs]) (by omega) (by omega) (by rw [hr]; simp; omega)
  have f2 : isNilS v' = false := by rw [f1]; simp
  refine ⟨v', j', l', a1, by rw [List.map_append]; exact b1, by simpa using c1, fun b hb hv => ?_, ?_, f2⟩
  · rw [d1 b (by simp; omega) hv, List.getElem?_append_left hb]
  · rcases e1 with h | h | h
    · exact .inl (by simp at h; omega)
    · exact .inr h
    · rw [h] at f2; cases f2
theorem ok_strikeL {came : List (List B)} {s : Slp} (h : OkSl s) : OkSl (strikeL came s) := by
  refine ⟨h.op, h.id, fun y hy => ?_, ?_⟩
  · have : y ∈ (strikeML came s.miss).l := hy
    rw [strikeML_l] at this
    exact h.miss y (List.mem_filter.1 this).1
  · show (strikeML came s.miss).l.length ≤ _
    rw [strikeML_l]
    exact Nat.le_trans (List.length_filter_le _ _) h.len
theorem ok_nowL {came : List (List B)} {l : List Slp} (h : okSls l) : okSls (nowL came l) := fun s hs => by
  unfold nowL at hs
  obtain ⟨hm, _⟩ := List.mem_filter.1 hs
  obtain ⟨t, ht, rfl⟩ := List.mem_map.1 hm
  exact ok_strikeL (h t ht)
theorem len_nowL (came : List (List B)) (l : List Slp) : (nowL came l).length ≤ l.length := by
  unfold nowL
  exact Nat.le_trans (List.length_filter_le _ _) (by simp)
theorem ok_freedL {x : List B} {l : List Slp} (h : okSls l) : okSls (freedL x l) := fun s hs => by
  unfold freedL at hs
  obtain ⟨hm, _⟩ := List.mem_filter.1 hs
  obtain ⟨t, ht, rfl⟩ := List.mem_map.1 hm
  exact strike_ok (h t ht)
structure FrsH (c : Int) (s : Slps) (ids : Ids) (k : Nat) (v : CV) (l : Hl) : Prop where
  p0 : l[0]? = some (.cells 2 (encP c s))
  ex : ∃ (w : Slps) (j : Nat), l[1]? = some (.cells 2 (encP c w)) ∧ w.l = nowL (ids.l.take k) s.l ∧ OwnS 32 l v j ((ids.l.take k).map eId) ∧ (v = .nilS ∨ 2 ≤ j) ∧ isNilS v = (ids.l.take k).isEmpty
  len : 2 ≤ l.length
structure FrsI (c : Int) (s : Slps) (ids : Ids) (k : Nat) (σ : Sg) (l : Hl) : Prop where
  g1 : σ 1 = encIds ids
  g2 : σ 2 = .ptr 0 0 2
  g5 : σ 5 = .bool true
  g6 : σ 6 = .ptr 1 0 2
  g8 : σ 8 = .int .i64 k
  h : ∃ v, σ 7 = v ∧ FrsH c s ids k v l
def aft (F : List Slp) (j : Nat) : Int := if j = 0 then -1 else (slAt F (j - 1)).tk
structure FreI (ids : Ids) (v : CV) (i n : Nat) (F : Slps) (H : Hl) (k : Nat) (σ : Sg) (l : Hl) : Prop where
  hl : l = H
  g1 : σ 1 = encIds ids
  g2 : σ 2 = .ptr 0 0 2
  g5 : σ 5 = .bool true
  g6 : σ 6 = .ptr 1 0 2
  g7 : σ 7 = v
  g8 : σ 8 = .int .i64 i
  g9 : σ 9 = .ptr n 0 2
  g10 : σ 10 = encSls F
  g12 : σ 12 = .int .i64 (aft F.l k)
  g13 : σ 13 = .int .i64 k
structure NxtI (ids : Ids) (v : CV) (i n : Nat) (H : Hl) (k : Nat) (σ : Sg) (l : Hl) : Prop where
  hl : l = H
  g1 : σ 1 = encIds ids
  g2 : σ 2 = .ptr 0 0 2
  g5 : σ 5 = .bool true
  g6 : σ 6 = .ptr 1 0 2
  g7 : σ 7 = v
  g8 : σ 8 = .int .i64 i
  g9 : σ 9 = .ptr n 0 2
  g15 : σ 15 = .int .i64 k
set_option maxHeartbeats 4000000 in
theorem frees_ok (hal : PureC Tryz.prog GS 8 [] (.bool true)) (c : Int) (s : Slps) (hs : ∀ t ∈ s.l, TySl t) (ids : Ids) (hi : okIds ids) :
    PureC Tryz.prog GS 3 [.ag (encP c s), encIds ids] (.bool true) := by
  refine pure_of Tryz.checked.mixed GS_closed ?_
  apply call_intro c3_eq r3_eq
  unfold c3 r3
  have hcs := closed_Sls s
  have hcp : closedL [CV.ag (encP c s)] = true := by simp [encP, closedL, CV.closed, hcs]
  have hlen : lenM (.sl 32) (encIds ids) = some (.int .i64 ids.l.length) := by simp [encIds]
  have hfit := fit_ok c s hs
  simp [encP]
  refine pure_call hal rfl ?_
  simp [encP]
  refine pure_call hfit hcp ?_
  cases hg : greatP s.l with
  | true => simp; exact rd_eq rfl rfl
  | false =>
  by_cases hp : penErr c s.l = 0
  case neg => simp [hp]; exact rd_eq rfl rfl
  case pos =>
  by_cases h40 : 40 < ids.l.length
  · have h40' : (40 : Int) < (ids.l.length : Int) := by omega
    simp [hp, hlen, h40, h40']; exact rd_eq rfl rfl
  · have h40' : ¬ (40 : Int) < (ids.l.length : Int) := by omega
    obtain ⟨h20, hb⟩ := pGreat_le hg
    have hok : okSls s.l := fun t ht => okSl_of (hs t ht) (hb t ht)
    obtain ⟨hno, hgood⟩ := pen_good hp
    obtain ⟨q1, q2, q3⟩ := (good_split s.l).1 hgood
    simp [hp, hlen, h40, h40']
    refine loop_up ids.l.length (FrsI c s ids) ?_ ⟨by simp, by simp, by simp, by simp, by simp, .nilS, by simp, ⟨rfl, ⟨s, 0, rfl, (now_nil q1).symm, .nil 0, .inl rfl, rfl⟩, by simp⟩⟩
    rintro k σ l hk ⟨g1, g2, g5, g6, g8, v, g7, hH⟩
    obtain ⟨σ, rfl⟩ := upds6 g1 g2 g5 g6 g8 g7
    clear g1 g2 g5 g6 g8 g7
    unfold l3_2
    simp [hlen]
    refine kIf_intro (fun h => ?_) (fun h => ?_)
    · simp only [decide_eq_true_eq] at h
      obtain ⟨x, hx, hxm⟩ := get_of (l := ids.l) (k := k) (by omega)
      have hxl := eId_len (hi x hxm)
      have e1 : IntKind.i64.wrap ((k : Int) + 1) = ((k + 1 : Nat) : Int) := by rw [IntKind.wrap_i64]; omega
      have hia : iaC (.sl 32) (encIds ids) (.int .i64 (k : Int)) = some (.rptr (eId x) 0) := by simp [encIds, hx]
      have hcx := closed_eId x
      obtain ⟨p0, ⟨w, j, p1, hw, o1, d1, n1⟩, hll⟩ := hH
      have hwok : okSls w.l := by rw [hw]; exact ok_nowL hok
      have hwl : w.l.length ≤ 20 := by rw [hw]; exact Nat.le_trans (len_nowL _ _) h20
      have hwp : penErr c w.l = 0 := by rw [hw]; exact now_ok hp _
      have hnx : nextL x w.l = nowL (ids.l.take (k + 1)) s.l := by rw [hw, next_now, List.take_add_one, hx]; rfl
      have hcome := wCome_ok c w hwok (by omega) x (hi x hxm)
      have hcw : comeW c w.l x = .tu [.ag (encP c (svS (nextL x w.l))), encSls (svS (freedL x w.l)), .int .i64 0] := by unfold comeW; rw [if_pos hwp]
      rw [hcw] at hcome
      have hcsw := closed_Sls w
      have hp1 : ∀ cb : CB, (l ++ [cb])[1]? = some (.cells 2 (encP c w)) := fun cb => by rw [List.getElem?_append_left (by omega)]; exact p1
      have hn0 : ∀ cb : CB, (l ++ [cb])[l.length]? = some cb := fun cb => List.getElem?_concat_length
      have hcpw : closedL [CV.ag (encP c w), CV.ag (eId x)] = true := by simp [encP, closedL, CV.closed, hcsw, hcx]
      obtain ⟨X, hX⟩ : ∃ X, X = eId x := ⟨_, rfl⟩
      have hP : (encP c w).length = 2 := rfl
      obtain ⟨PW, hPW⟩ : ∃ PW, PW = encP c w := ⟨_, rfl⟩
      rw [← hX] at hxl hia hcpw hcome
      rw [← hPW] at hP hp1 p1 hcpw hcome
      simp [hia, hxl, p1, hp1, hP, List.take_of_length_le]
      refine pure_call hcome hcpw ?_
      have hspX : splice (rep 32 (.int .u8 0)) 0 X = X := splice_full (by rw [hxl]; rfl)
      have hset : ∀ cb cb2 : CB, (l ++ [cb]).set l.length cb2 = l ++ [cb2] := fun cb cb2 => by simp
      obtain ⟨W', hW'⟩ : ∃ W', W' = svS (nextL x w.l) := ⟨_, rfl⟩
      obtain ⟨F, hF⟩ : ∃ F, F = svS (freedL x w.l) := ⟨_, rfl⟩
      simp only [← hW', ← hF]
      obtain ⟨l1, hl1⟩ : ∃ l1, l1 = l ++ [CB.cells 2 (encP c W')] := ⟨_, rfl⟩
      have o1' : OwnS 32 l1 v j ((ids.l.take k).map eId) := by rw [hl1]; exact o1.more _
      obtain ⟨v', j', l', a1, b1, c1, d1', ee, ff⟩ := appId (x := x) o1' (by rw [← hX]; exact hxl) (by rw [List.length_take]; omega)
      rw [← hX] at a1
      have hl1l : l1.length = l.length + 1 := by rw [hl1]; simp
      have a1' : appM (l ++ [CB.cells 2 [CV.int .i64 c, encSls W'], CB.cells 32 X]) 32 32 v (.sl 32 (l.length + 1) 0 1 1 32) = some (v', l') := by
        rw [hl1] at a1; simpa [encP, List.append_assoc] using a1
      have hW'l : W'.l = nowL (ids.l.take (k + 1)) s.l := by rw [hW', svS_l, hnx]
      have hFl : F.l = freedL x w.l := by rw [hF, svS_l]
      have hW'ok : okSls W'.l := by rw [hW'l]; exact ok_nowL hok
      have hW'n : W'.l.length ≤ 20 := by rw [hW'l]; exact Nat.le_trans (len_nowL _ _) h20
      have hW'p : penErr c W'.l = 0 := by rw [hW'l]; exact now_ok hp _
      have hFok : okSls F.l := by rw [hFl]; exact ok_freedL hwok
      have hpl : W'.l.length + F.l.length = w.l.length := by rw [hFl, hW', svS_l]; exact part_len x w.l
      have hchk := rPCheck_ok c W' hW'ok (by omega)
      rw [hW'p] at hchk
      have hcW' := closed_Sls W'
      have hlW : lenM (.sl 45) (encSls W') = some (.int .i64 W'.l.length) := by simp [encSls]
      have hlF : lenM (.sl 45) (encSls F) = some (.int .i64 F.l.length) := by simp [encSls]
      have hlw : lenM (.sl 45) (encSls w) = some (.int .i64 w.l.length) := by simp [encSls]
      have hsum : IntKind.i64.wrap ((W'.l.length : Int) + (F.l.length : Int)) = (w.l.length : Int) := by rw [IntKind.wrap_i64]; omega
      have t0 : l'[0]? = some (.cells 2 [.int .i64 c, encSls s]) := by
        rw [d1' 0 (by omega) (d1.imp id fun h => by omega), hl1, List.getElem?_append_left (by omega)]; exact p0
      have t1 : l'[1]? = some (.cells 2 [.int .i64 c, encSls w]) := by
        rw [d1' 1 (by omega) (d1.imp id fun h => by omega), hl1, List.getElem?_append_left (by omega), p1, hPW]; rfl
      have hjl := o1.lt
      have tn : l'[l.length]? = some (.cells 2 [.int .i64 c, encSls W']) := by
        rw [d1' l.length (by omega) (hjl.imp id fun h => by omega), hl1, List.getElem?_concat_length]; rfl
      simp [hia, hxl, hspX, hset, encP, List.take_of_length_le, a1']
      refine AppK.keep ?_
      simp [tn, t1]
      refine pure_call hchk (by simp [encP, closedL, CV.closed, hcW']) ?_
      simp [tn, t1, hlW, hlF, hlw, hsum]
      obtain ⟨came, hca⟩ : ∃ came, came = ids.l.take k ++ [x] := ⟨_, rfl⟩
      have hca2 : ids.l.take (k + 1) = came := by rw [hca, List.take_add_one, hx]; rfl
      rw [← hca] at b1
      have hcok : okIds (some came) := fun y hy => by
        have hy' : y ∈ came := hy
        rw [← hca2] at hy'
        exact hi y (List.mem_of_mem_take hy')
      have hcl : (Sv.l (some came)).length ≤ 1000000 := by
        show came.length ≤ _
        rw [← hca2, List.length_take]; omega
      have hrd : ∀ m : Ids, RdL l' [encIds m, v'] [encIds m, encIds (some came)] := fun m => .cons (.same _ (closed_ids m)) (.cons (b1.rdH_enc closed_eId (some came) (by rw [ff]; rfl) rfl) .nil)
      have hnL : 2 ≤ l'.length := by omega
      have hFn : F.l.length ≤ 20 := by omega
      refine loop_up F.l.length (FreI ids v' k l.length F l') ?_ ⟨by simp, by simp, by simp, by simp, by simp, by simp, by simp, by simp, by simp, by simp [aft], by simp⟩
      · rintro m σ2 l2 hm ⟨rfl, g1, g2, g5, g6, g7, g8, g9, g10, g12, g13⟩
        obtain ⟨σ2, rfl⟩ := upds10 g1 g2 g5 g6 g7 g8 g9 g10 g12 g13
        clear g1 g2 g5 g6 g7 g8 g9 g10 g12 g13
        unfold l3_0
        simp [hlF]
        refine kIf_intro (fun h => ?_) (fun h => ?_)
        · simp only [decide_eq_true_eq] at h
          obtain ⟨f, hf, hfm⟩ := get_of (l := F.l) (k := m) (by omega)
          have hfo := hFok f hfm
          have hR := row_of hfo
          have e3 : IntKind.i64.wrap ((m : Int) + 1) = ((m + 1 : Nat) : Int) := by rw [IntKind.wrap_i64]; omega
          have hif : iaC (.sl 45) (encSls F) (.int .i64 (m : Int)) = some (.rptr (encSl f) 0) := by simp [encSls, hf]
          have hfr : f ∈ freedL x (nowL (ids.l.take k) s.l) := by rw [← hw, ← hFl]; exact hfm
          obtain ⟨q, hq, hqid, hqtk, hqx, hqall⟩ := freed_of hfr
          obtain ⟨a, ha, hqa⟩ := at_of q3 hq
          have hqo := hok q hq
          have hQ := row_of hqo
          have hiq : iaC (.sl 45) (encSls s) (.int .i64 (a : Int)) = some (.rptr (encSl q) 0) := by simp [encSls, hqa]
          have hat := rAt_ok c s hok (by omega) f.id hfo.id
          rw [hqid, ha] at hat
          have hin := rIn_ok q.miss hqo.miss hqo.len x (hi x hxm)
          rw [decide_eq_true hqx] at hin
          have hall := all_ok q.miss (some came) hqo.miss hcok hqo.len hcl
          rw [show (q.miss.l.all fun y => decide (y ∈ Sv.l (some came))) = true from List.all_eq_true.2 fun y hy => decide_eq_true (by show y ∈ came; rw [hca]; exact hqall y hy)] at hall
          have hlt : aft F.l m < f.tk := by
            unfold aft
            by_cases hm0 : m = 0
            · rw [if_pos hm0, hqtk]; have := (q1 q hq).2.2.1; omega
            · rw [if_neg hm0]
              obtain ⟨z, hz, hzm⟩ := get_of (l := F.l) (k := m - 1) (by omega)
              rw [slAt_get hz]
              have hup : F.l.Pairwise fun a b => a.tk < b.tk := by
                rw [hFl, hw]
                refine freed_up ?_
                unfold nowL
                exact ((List.pairwise_map (f := strikeL (ids.l.take k)) (R := fun a b => a.tk < b.tk)).2 q2).sublist List.filter_sublist
              have := (List.pairwise_iff_getElem.1 hup) (m - 1) m (by omega) (by omega) (by omega)
              rw [(List.getElem?_eq_some_iff.1 hz).2, (List.getElem?_eq_some_iff.1 hf).2] at this
              exact this
          have hlt' : ¬ f.tk ≤ aft F.l m := by omega
          have hfl := eId_len hfo.id
          have hci := closed_eId f.id
          obtain ⟨R, hRe⟩ : ∃ R, R = encSl f := ⟨_, rfl⟩
          obtain ⟨Q, hQe⟩ : ∃ Q, Q = encSl q := ⟨_, rfl⟩
          rw [← hRe] at hR hif
          rw [← hQe] at hQ hiq
          have f1 := hR.len
          have f2 := hR.tk
          have f4 := hR.id
          have r1 := hQ.len
          have r2 := hQ.tk
          have r5 := hQ.miss
          rw [hqid] at f4 hfl hci
          rw [hqtk] at f2 hlt'
          have htk : aft F.l (m + 1) = q.tk := by unfold aft; rw [if_neg (by omega), Nat.add_sub_cancel, slAt_get hf, hqtk]
          have ha0 : ¬ ((a : Int) < 0) := by omega
          simp [t0, hif, hiq, f1, f2, f4, r1, r2, r5, hfl, List.take_of_length_le]
          refine pure_call hat (show closedL [CV.ag (encP c s), CV.ag (eId q.id)] = true by simp [encP, closedL, CV.closed, hcs, hci]) ?_
          simp [t0, hif, hiq, f1, f2, f4, r1, r2, r5, hfl, hia, hxl, ha0, hlt', List.take_of_length_le]
          have hcm := closed_ids q.miss
          rw [← hX] at hin hcx
          refine pure_call hin (by simp [closedL, CV.closed, hcx, hcm]) ?_
          simp [t0, hif, hiq, f1, f2, f4, r1, r2, r5, hfl, hia, hxl, ha0, hlt', List.take_of_length_le]
          refine pure_callB hall (hrd q.miss) rfl ?_
          simp [t0, hif, hiq, f1, f2, f4, r1, r2, r5, hfl, hia, hxl, ha0, hlt', List.take_of_length_le, e3, ← htk]
          exact ⟨by omega, by simp, by simp, by simp, by simp, by simp, by simp, by simp, by simp, by simp, by simp, by simp⟩
        · simp [h]
          refine loop_up W'.l.length (NxtI ids v' k l.length l2) ?_ ⟨by simp, by simp, by simp, by simp, by simp, by simp, by simp, by simp, by simp⟩
          rintro m2 σ3 l3 hm2 ⟨rfl, g1, g2, g5, g6, g7, g8, g9, g15⟩
          obtain ⟨σ3, rfl⟩ := upds8 g1 g2 g5 g6 g7 g8 g9 g15
          clear g1 g2 g5 g6 g7 g8 g9 g15
          unfold l3_1
          simp [tn, hlW]
          refine kIf_intro (fun h => ?_) (fun h => ?_)
          · simp only [decide_eq_true_eq] at h
            obtain ⟨f, hf, hfm⟩ := get_of (l := W'.l) (k := m2) (by omega)
            have hfo := hW'ok f hfm
            have hR := row_of hfo
            have e3 : IntKind.i64.wrap ((m2 : Int) + 1) = ((m2 + 1 : Nat) : Int) := by rw [IntKind.wrap_i64]; omega
            have hif : iaC (.sl 45) (encSls W') (.int .i64 (m2 : Int)) = some (.rptr (encSl f) 0) := by simp [encSls, hf]
            have hfr : f ∈ nowL came s.l := by rw [← hca2, ← hW'l]; exact hfm
            obtain ⟨q, hq, hqid, y, hy, hyc⟩ := next_of hfr
            obtain ⟨a, ha, hqa⟩ := at_of q3 hq
            have hqo := hok q hq
            have hQ := row_of hqo
            have hiq : iaC (.sl 45) (encSls s) (.int .i64 (a : Int)) = some (.rptr (encSl q) 0) := by simp [encSls, hqa]
            have hat := rAt_ok c s hok (by omega) f.id hfo.id
            rw [hqid, ha] at hat
            have hall := all_ok q.miss (some came) hqo.miss hcok hqo.len hcl
            rw [show (q.miss.l.all fun y => decide (y ∈ Sv.l (some came))) = false from by
              cases hv : (q.miss.l.all fun y => decide (y ∈ Sv.l (some came))) with
              | false => rfl
              | true => exact absurd (of_decide_eq_true (List.all_eq_true.1 hv y hy)) hyc] at hall
            have hfl := eId_len hfo.id
            have hci := closed_eId f.id
            obtain ⟨R, hRe⟩ : ∃ R, R = encSl f := ⟨_, rfl⟩
            obtain ⟨Q, hQe⟩ : ∃ Q, Q = encSl q := ⟨_, rfl⟩
            rw [← hRe] at hR hif
            rw [← hQe] at hQ hiq
            have f1 := hR.len
            have f4 := hR.id
            have r1 := hQ.len
            have r5 := hQ.miss
            rw [hqid] at f4 hfl hci
            have ha0 : ¬ ((a : Int) < 0) := by omega
            simp [tn, t0, hif, hiq, f1, f4, r1, r5, hfl, List.take_of_length_le]
            refine pure_call hat (show closedL [CV.ag (encP c s), CV.ag (eId q.id)] = true by simp [encP, closedL, CV.closed, hcs, hci]) ?_
            simp [tn, t0, hif, hiq, f1, f4, r1, r5, hfl, ha0, List.take_of_length_le]
            refine pure_callB hall (hrd q.miss) rfl ?_
            simp [tn, t0, hif, hiq, f1, f4, r1, r5, hfl, ha0, List.take_of_length_le, e3]
            exact ⟨by omega, by simp, by simp, by simp, by simp, by simp, by simp, by simp, by simp, by simp⟩
          · simp [h, tn, t1, e1]
            have hj2 : 2 ≤ j' := by
              rcases ee with h3 | ⟨h3, h4⟩
              · omega
              · rw [h4]; exact d1.resolve_left h3
            refine ⟨by omega, by simp, by simp, by simp, by simp, by simp, v', by simp, ⟨by rw [List.getElem?_set_ne (by omega)]; exact t0, ⟨W', j', List.getElem?_set_self (by omega), hW'l, ?_, ?_, ?_⟩, by simpa using hnL⟩⟩
            · rw [hca2]
              exact b1.frame2 (.inr (by rw [List.getElem?_set_ne (by omega)]))
            · exact .inr hj2
            · rw [hca2, ff, hca]; simp
    · simp [h]
      exact rd_eq rfl rfl
end Op
end Go.CM
