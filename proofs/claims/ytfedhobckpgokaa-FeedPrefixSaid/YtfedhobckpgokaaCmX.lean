/-
  The canonical machine, part X: what must hold behind code without types holds behind the code.
-/
import Derived.Test.YtfedhobckpgokaaCmW
namespace Go.CM
open Go
set_option linter.unusedVariables false
set_option linter.unusedSimpArgs false

section
variable {P : Program} {G : Nat → CV}

theorem comp_cls {op : Op} {m : Mo} (hm : compOp P op = some m) (he : isEffOp op = false) : m.looks = true ∨ m.isNew = true := by
  cases op <;> simp only [isEffOp, Bool.true_eq_false, reduceCtorEq] at he <;> simp only [compOp] at hm <;> try (cases hm; done)
  case move => cases hm; exact .inl rfl
  case assign => cases hm; exact .inl rfl
  case pick => cases hm; exact .inl rfl
  case alloc => rw [map_some] at hm; obtain ⟨_, _, rfl⟩ := hm; exact .inr rfl
  case box => cases hm; exact .inr rfl
  case build => simp only [bind_some, map_some] at hm; obtain ⟨_, _, _, _, rfl⟩ := hm; exact .inl rfl
  case buildSlice => simp only [bind_some, ite_some] at hm; obtain ⟨_, _, _, _, _, _, _, rfl⟩ := hm; exact .inr rfl
  case load => split at hm <;> cases hm <;> exact .inl rfl
  case nilCheck => cases hm; exact .inl rfl
  case binOp => cases hm; exact .inl rfl
  case unOp => cases hm; exact .inl rfl
  case convert => repeat' split at hm
                  all_goals first | (cases hm; done) | (cases hm; exact .inl rfl)
  case makeInterface => split at hm <;> cases hm; exact .inl rfl
  case makeFunc f a b => cases f <;> simp only at hm <;> cases hm; exact .inl rfl
  case makeSlice => simp only [bind_some, ite_some] at hm; obtain ⟨_, _, _, _, _, _, _, _, _, rfl⟩ := hm; exact .inr rfl
  case slice => rw [map_some] at hm; obtain ⟨_, _, rfl⟩ := hm; exact .inl rfl
  case fieldAddr => rw [bind_some] at hm; obtain ⟨_, _, hm⟩ := hm; split at hm <;> cases hm; exact .inl rfl
  case field => rw [bind_some] at hm; obtain ⟨_, _, hm⟩ := hm; split at hm <;> cases hm <;> exact .inl rfl
  case indexAddr => split at hm <;> cases hm <;> exact .inl rfl
  case index => repeat' split at hm
                all_goals first | (cases hm; done) | (cases hm; exact .inl rfl)
  case extract => cases hm; exact .inl rfl
  case call c =>
    split at hm
    · rename_i b hb
      rw [hb] at he
      cases b <;> simp only [Bool.true_eq_false, reduceCtorEq] at he <;> unfold compBuiltin at hm <;> (repeat' split at hm) <;> first
        | (cases hm; done)
        | (cases hm; exact .inl rfl)
        | (rw [map_some] at hm; obtain ⟨_, _, rfl⟩ := hm; exact .inl rfl)
        | (exfalso; simp only [reduceCtorEq] at *; done)
    · cases hm

theorem comp_reads {op : Op} {m : Mo} (hm : compOp P op = some m) (ht : touches op = false) : m.reads = false ∧ m.isNew = false := by
  cases op <;> simp only [touches, Bool.true_eq_false, reduceCtorEq] at ht <;> simp only [compOp] at hm <;> try (cases hm; done)
  case move => cases hm; exact ⟨rfl, rfl⟩
  case assign => cases hm; exact ⟨rfl, rfl⟩
  case pick => cases hm; exact ⟨rfl, rfl⟩
  case build => simp only [bind_some, map_some] at hm; obtain ⟨_, _, _, _, rfl⟩ := hm; exact ⟨rfl, rfl⟩
  case store => rw [map_some] at hm; obtain ⟨_, _, rfl⟩ := hm; exact ⟨rfl, rfl⟩
  case nilCheck => cases hm; exact ⟨rfl, rfl⟩
  case binOp => cases hm; exact ⟨rfl, rfl⟩
  case unOp => cases hm; exact ⟨rfl, rfl⟩
  case makeInterface => split at hm <;> cases hm; exact ⟨rfl, rfl⟩
  case makeFunc f a b => cases f <;> simp only at hm <;> cases hm; exact ⟨rfl, rfl⟩
  case slice => rw [map_some] at hm; obtain ⟨_, _, rfl⟩ := hm; exact ⟨rfl, rfl⟩
  case fieldAddr => rw [bind_some] at hm; obtain ⟨_, _, hm⟩ := hm; split at hm <;> cases hm; exact ⟨rfl, rfl⟩
  case field => rw [bind_some] at hm; obtain ⟨_, _, hm⟩ := hm; split at hm <;> cases hm <;> exact ⟨rfl, rfl⟩
  case indexAddr => split at hm <;> cases hm <;> exact ⟨rfl, rfl⟩
  case index => repeat' split at hm
                all_goals first | (cases hm; done) | (cases hm; exact ⟨rfl, rfl⟩)
  case extract => cases hm; exact ⟨rfl, rfl⟩
  case call c =>
    split at hm
    · unfold compBuiltin at hm
      repeat' split at hm
      all_goals first
        | (cases hm; done)
        | (cases hm; exact ⟨rfl, rfl⟩)
        | (simp only [bind_some, map_some] at hm; obtain ⟨_, _, rfl⟩ := hm; exact ⟨rfl, rfl⟩)
        | (simp only [bind_some, map_some] at hm; obtain ⟨_, _, _, _, rfl⟩ := hm; exact ⟨rfl, rfl⟩)
        | (simp only [bind_some, ite_some] at hm; obtain ⟨_, _, _, _, _, _, _, rfl⟩ := hm; exact ⟨rfl, rfl⟩)
        | (simp only [bind_some, ite_some] at hm; obtain ⟨_, _, _, _, _, _, _, _, _, rfl⟩ := hm; exact ⟨rfl, rfl⟩)
    · cases hm

/-- What a step of a trace is. -/
inductive Kind (P : Program) (G : Nat → CV) (s : Stp) (o : Oper) (σ : Sg) (l : Hl) (v : CV) (l1 : Hl) : TS → Prop
  | pure (m : Mo) (hb : s.b = .mo m) (hm : m.looks = true) (hl : l1 = l) (hs : mstep P (ev G σ) l m = some (v, l)) : Kind P G s o σ l v l1 (.pure s.i v)
  | new (m : Mo) (cs : List CV) (hb : s.b = .mo m) (hm : m.isNew = true) (hl : l1 = l ++ [.cells cs.length cs]) : Kind P G s o σ l v l1 (.new s.i v cs)
  | eff (he : isEffOp o.op = true) (hlen : l.length ≤ l1.length) : Kind P G s o σ l v l1 (.eff s.i v (HL l1))

theorem Kind.idx {s : Stp} {o : Oper} {σ : Sg} {l l1 : Hl} {v : CV} {t : TS} (k : Kind P G s o σ l v l1 t) : t.idx = s.i := by cases k <;> rfl
theorem Kind.val {s : Stp} {o : Oper} {σ : Sg} {l l1 : Hl} {v : CV} {t : TS} (k : Kind P G s o σ l v l1 t) : t.val = v := by cases k <;> rfl
theorem Kind.next {s : Stp} {o : Oper} {σ : Sg} {l l1 : Hl} {v : CV} {t : TS} (k : Kind P G s o σ l v l1 t) : nextH (HL l) t = HL l1 := by
  cases k with
  | pure m hb hm hl hs => rw [hl]; rfl
  | new m cs hb hm hl => rw [hl, ← HL_push]; rfl
  | eff he _ => rfl

theorem isNew_looks {m : Mo} (h : m.isNew = true) : m.looks = false := by cases m <;> first | rfl | cases h

theorem stp_kind {ops : Array Oper} {s : Stp} {o : Oper} (ok : StpOk P ops s o) {σ : Sg} (hw : wantedC ops σ o = some true) {l : Hl} {K : CV → Hl → Prop} (h : stp P G s.b σ l K) :
    ∃ v l1 t, Kind P G s o σ l v l1 t ∧ StepOkC P G ops ⟨σ, HL l⟩ t ∧ K v l1 := by
  obtain ⟨v, l1, h1, h2, h3, h4⟩ := stp_ok ok h
  have effs : isEffOp o.op = true → ∃ v l1 t, Kind P G s o σ l v l1 t ∧ StepOkC P G ops ⟨σ, HL l⟩ t ∧ K v l1 := fun he => ⟨v, l1, _, .eff he h2, ⟨o, ok.here, hw, h1, by simpa using h2⟩, h3⟩
  cases hb : s.b with
  | mo m =>
    have hm := ok.mo m hb
    cases he : isEffOp o.op with
    | true => exact effs he
    | false =>
      have hs := h4 m hb (comp_cls hm he)
      rcases comp_cls hm he with hl | hn
      · have := looks_same hl hs
        subst this
        exact ⟨v, l1, _, .pure m hb hl rfl hs, ⟨o, ok.here, hw⟩, h3⟩
      · obtain ⟨cs, mk, h5, h6, h7⟩ := new_ok_L hm hn hs
        exact ⟨v, l1, _, .new m cs hb hn h7, ⟨o, mk, ok.here, hw, h5, h6⟩, h3⟩
  | callF f args =>
    obtain ⟨c, hop, hc, _⟩ := ok.callF f args hb
    exact effs (by rw [hop]; simp only [isEffOp, hc])
  | callV x args =>
    obtain ⟨c, hop, hc, _⟩ := ok.callV x args hb
    exact effs (by rw [hop]; simp only [isEffOp, hc])

/-- A trace. -/
inductive Tr3 (P : Program) (G : Nat → CV) (ops : Array Oper) : List Stp → Sg → Hl → Seen → List (TS × Sg × Hl) → Sg → Hl → Prop
  | nil {σ l seen} : Tr3 P G ops [] σ l seen [] σ l
  | skip {s o r σ l seen es σ' l'} : StpOk P ops s o → wantedC ops σ o = some false → Tr3 P G ops r (putC σ s.dst undefC) l seen es σ' l' → Tr3 P G ops (s :: r) σ l seen ((.skip s.i, σ, l) :: es) σ' l'
  | step {s o r σ l v l1 t seen es σ' l'} : StpOk P ops s o → Kind P G s o σ l v l1 t → StepOkC P G ops ⟨σ, HL l⟩ t → chks s.chk seen l1 →
      Tr3 P G ops r (putC σ s.dst v) l1 (seenAdd s.keep s.i (stillP P G s.b σ v l l1) seen) es σ' l' → Tr3 P G ops (s :: r) σ l seen ((t, σ, l) :: es) σ' l'

theorem runD_tr {ops : Array Oper} {K : Sg → Hl → Prop} : ∀ {s : List Stp} {σ : Sg} {l : Hl} {seen : Seen}, (∀ x ∈ s, ∃ o, StpOk P ops x o) → runD P G s σ l seen K → ∃ es σ' l', Tr3 P G ops s σ l seen es σ' l' ∧ K σ' l'
  | [], σ, l, seen, _, h => ⟨[], σ, l, .nil, h⟩
  | s :: r, σ, l, seen, hok, h => by
    obtain ⟨o, ok⟩ := hok s (by simp)
    rcases kGo_ok ok h with ⟨hw, h⟩ | ⟨hw, h⟩
    · obtain ⟨v, l1, t, h1, h2, h3, h4⟩ := stp_kind ok hw h
      obtain ⟨es, σ', l', h5, h6⟩ := runD_tr (fun x hx => hok x (by simp [hx])) h4
      exact ⟨_, σ', l', .step ok h1 h2 h3 h5, h6⟩
    · obtain ⟨es, σ', l', h5, h6⟩ := runD_tr (fun x hx => hok x (by simp [hx])) h
      exact ⟨_, σ', l', .skip ok hw h5, h6⟩

theorem runS_D {K : Sg → Hl → Prop} : ∀ {s : List Stp} {σ : Sg} {l : Hl}, (∀ x ∈ s, x.keep = false) → runS P G s σ l K → runD P G s σ l [] K
  | [], σ, l, _, h => h
  | s :: r, σ, l, hk, h => by
    have mono : ∀ (b : Bd) (K K' : CV → Hl → Prop), (∀ v l, K v l → K' v l) → stp P G b σ l K → stp P G b σ l K' := by
      intro b K K' hK h
      cases b with
      | mo m => simp only [stp, W_iff] at h ⊢; obtain ⟨v, h1, h2⟩ := h; exact ⟨v, h1, keep_mono hK h2⟩
      | callF f args => obtain ⟨r, l', h1, h2, h3⟩ := h; exact ⟨r, l', h1, h2, hK _ _ h3⟩
      | callV x args =>
        simp only [stp, callVP] at h ⊢
        split at h
        · obtain ⟨h0, r, l', h1, h2, h3⟩ := h; exact ⟨h0, r, l', h1, h2, hK _ _ h3⟩
        · cases h
    have gmono : ∀ (g : Option (Option Tmp × Bool)) (p q p' q' : Prop), (p → p') → (q → q') → kGo σ g p q → kGo σ g p' q' := by
      intro g p q p' q' hp hq h
      unfold kGo at h ⊢
      split at h
      · exact hp h
      · rename_i d w
        simp only [kG] at h ⊢
        split at h
        · rw [kIf_iff] at h ⊢
          rcases h with ⟨a, b⟩ | ⟨a, b⟩
          · exact .inl ⟨a, hp b⟩
          · exact .inr ⟨a, hq b⟩
        · cases h
        · exact hq h
      · exact hq h
    have hk0 : s.keep = false := hk s (by simp)
    refine gmono _ _ _ _ _ (mono _ _ _ fun v l' h => ?_) (fun h => runS_D (fun x hx => hk x (by simp [hx])) h) h
    refine ⟨trivial, ?_⟩
    rw [hk0]
    exact runS_D (fun x hx => hk x (by simp [hx])) h

theorem Kind.len {s : Stp} {o : Oper} {σ : Sg} {l l1 : Hl} {v : CV} {t : TS} (k : Kind P G s o σ l v l1 t) : l.length ≤ l1.length := by
  cases k with
  | pure m hb hm hl hs => rw [hl]; exact Nat.le_refl _
  | new m cs hb hm hl => rw [hl]; simp
  | eff he hlen => exact hlen
theorem Tr3.len {ops : Array Oper} {s : List Stp} {σ σ' : Sg} {l l' : Hl} {seen : Seen} {es : List (TS × Sg × Hl)} (h : Tr3 P G ops s σ l seen es σ' l') : l.length ≤ l'.length := by
  induction h with
  | nil => exact Nat.le_refl _
  | skip _ _ _ ih => exact ih
  | step _ k _ _ _ ih => exact Nat.le_trans k.len ih

def heapAt (es : List (TS × Sg × Hl)) (l' : Hl) (q : Nat) : Hl := match es[q]? with | some x => x.2.2 | none => l'

theorem Tr3.here {ops : Array Oper} {s : List Stp} {σ σ' : Sg} {l l' : Hl} {seen : Seen} {es : List (TS × Sg × Hl)} (h : Tr3 P G ops s σ l seen es σ' l') : heapAt es l' 0 = l := by
  cases h <;> rfl

theorem Tr3.idx {ops : Array Oper} {s : List Stp} {σ σ' : Sg} {l l' : Hl} {seen : Seen} {es : List (TS × Sg × Hl)} (h : Tr3 P G ops s σ l seen es σ' l') : es.map (fun e => e.1.idx) = s.map (·.i) := by
  induction h with
  | nil => rfl
  | skip _ _ _ ih => simp only [List.map_cons, ih]; rfl
  | step _ k _ _ _ ih => simp only [List.map_cons, ih, k.idx]

theorem Tr3.at {ops : Array Oper} {s : List Stp} {σ σ' : Sg} {l l' : Hl} {seen : Seen} {es : List (TS × Sg × Hl)} (h : Tr3 P G ops s σ l seen es σ' l') :
    (∀ (p : Nat) (e : TS × Sg × Hl), es[p]? = some e → StepOkC P G ops ⟨e.2.1, HL e.2.2⟩ e.1 ∧ stAt ops ⟨σ, HL l⟩ (es.map (·.1)) p = ⟨e.2.1, HL e.2.2⟩) ∧ stAt ops ⟨σ, HL l⟩ (es.map (·.1)) es.length = ⟨σ', HL l'⟩ := by
  induction h with
  | nil => exact ⟨fun p e he => by simp at he, rfl⟩
  | @skip s o r σ l seen es σ' l' ok hw _ ih =>
    have hnx : nextS ops ⟨σ, HL l⟩ (.skip s.i) = ⟨putC σ s.dst undefC, HL l⟩ := by simp only [nextS, dstOf, TS.idx, ok.here, Option.bind_some, TS.val, nextH, ok.dst]
    refine ⟨fun p e he => ?_, ?_⟩
    · cases p with
      | zero => simp only [List.getElem?_cons_zero, Option.some.injEq] at he; subst he; exact ⟨⟨o, ok.here, hw⟩, rfl⟩
      | succ p =>
        simp only [List.getElem?_cons_succ] at he
        obtain ⟨h1, h2⟩ := ih.1 p e he
        refine ⟨h1, ?_⟩
        rw [List.map_cons, stAt_cons, hnx]; exact h2
    · rw [List.map_cons, List.length_cons, stAt_cons, hnx]; exact ih.2
  | @step s o r σ l v l1 t seen es σ' l' ok k hs hc _ ih =>
    have hnx : nextS ops ⟨σ, HL l⟩ t = ⟨putC σ s.dst v, HL l1⟩ := by simp only [nextS, dstOf, k.idx, ok.here, Option.bind_some, k.val, k.next, ok.dst]
    refine ⟨fun p e he => ?_, ?_⟩
    · cases p with
      | zero => simp only [List.getElem?_cons_zero, Option.some.injEq] at he; subst he; exact ⟨hs, rfl⟩
      | succ p =>
        simp only [List.getElem?_cons_succ] at he
        obtain ⟨h1, h2⟩ := ih.1 p e he
        refine ⟨h1, ?_⟩
        rw [List.map_cons, stAt_cons, hnx]; exact h2
    · rw [List.map_cons, List.length_cons, stAt_cons, hnx]; exact ih.2

/-- What is said of a heap holds on, where blocks are added and where it is asked again. -/
theorem Tr3.still {ops : Array Oper} {s : List Stp} {σ σ' : Sg} {l l' : Hl} {seen : Seen} {es : List (TS × Sg × Hl)} (h : Tr3 P G ops s σ l seen es σ' l') (j : Nat) (S : Hl → Prop)
    (hgrow : ∀ l x, S l → S (l ++ x)) (h0 : S l) : ∀ q, q ≤ es.length → (∀ (p : Nat) (e : TS × Sg × Hl), p < q → es[p]? = some e → e.1.isEff = true → (j, S) ∈ seen ∧ ∃ x, s[p]? = some x ∧ j ∈ x.chk) → S (heapAt es l' q) := by
  have chk_get : ∀ {ids : List Nat} {seen : Seen} {l : Hl}, chks ids seen l → (j, S) ∈ seen → j ∈ ids → S l := by
    intro ids seen l hc hm hi
    induction seen with
    | nil => cases hm
    | cons e r ih =>
      obtain ⟨h1, h2⟩ := hc
      rcases List.mem_cons.1 hm with rfl | hm
      · exact h1 (by simpa using hi)
      · exact ih h2 hm
  induction h with
  | nil => intro q hq _; simp only [List.length_nil] at hq; obtain rfl : q = 0 := by omega
           exact h0
  | @skip s o r σ l seen es σ' l' ok hw _ ih =>
    intro q hq hask
    cases q with
    | zero => exact h0
    | succ q => exact ih h0 q (by simpa using hq) (fun p e hp he hE => by
        obtain ⟨h1, x, h2, h3⟩ := hask (p + 1) e (by omega) (by simpa using he) hE
        exact ⟨h1, x, by simpa using h2, h3⟩)
  | @step s o r σ l v l1 t seen es σ' l' ok k hs hc _ ih =>
    intro q hq hask
    cases q with
    | zero => exact h0
    | succ q =>
      have h1 : S l1 := by
        cases k with
        | pure m hb hm hl _ => rw [hl]; exact h0
        | new m cs hb hm hl => rw [hl]; exact hgrow _ _ h0
        | eff he _ =>
          obtain ⟨h1, x, h2, h3⟩ := hask 0 _ (by omega) rfl rfl
          simp only [List.getElem?_cons_zero, Option.some.injEq] at h2
          subst h2
          exact chk_get hc h1 h3
      refine ih h1 q (by simpa using hq) (fun p e hp he hE => ?_)
      obtain ⟨h1, x, h2, h3⟩ := hask (p + 1) e (by omega) (by simpa using he) hE
      refine ⟨?_, x, by simpa using h2, h3⟩
      unfold seenAdd
      cases s.keep with
      | false => exact h1
      | true => exact List.mem_cons_of_mem _ h1

/-- The suffix of a trace behind a step. -/
theorem Tr3.split {ops : Array Oper} {s : List Stp} {σ σ' : Sg} {l l' : Hl} {seen : Seen} {es : List (TS × Sg × Hl)} (h : Tr3 P G ops s σ l seen es σ' l') : ∀ (p : Nat) (e : TS × Sg × Hl), es[p]? = some e → e.1.isSkip = false →
    ∃ x o v l1 seen1, s[p]? = some x ∧ StpOk P ops x o ∧ Kind P G x o e.2.1 e.2.2 v l1 e.1 ∧
      Tr3 P G ops (s.drop (p + 1)) (putC e.2.1 x.dst v) l1 (seenAdd x.keep x.i (stillP P G x.b e.2.1 v e.2.2 l1) seen1) (es.drop (p + 1)) σ' l' := by
  induction h with
  | nil => intro p e he; simp at he
  | @skip s o r σ l seen es σ' l' ok hw _ ih =>
    intro p e he hsk
    cases p with
    | zero => simp only [List.getElem?_cons_zero, Option.some.injEq] at he; subst he; cases hsk
    | succ p =>
      obtain ⟨x, o', v, l1, seen1, h1, h2, h3, h4⟩ := ih p e (by simpa using he) hsk
      exact ⟨x, o', v, l1, seen1, by simpa using h1, h2, h3, by simpa using h4⟩
  | @step s o r σ l v l1 t seen es σ' l' ok k hs hc tr ih =>
    intro p e he hsk
    cases p with
    | zero =>
      simp only [List.getElem?_cons_zero, Option.some.injEq] at he; subst he
      exact ⟨s, o, v, l1, seen, rfl, ok, k, by simpa using tr⟩
    | succ p =>
      obtain ⟨x, o', v, l1, seen1, h1, h2, h3, h4⟩ := ih p e (by simpa using he) hsk
      exact ⟨x, o', v, l1, seen1, by simpa using h1, h2, h3, by simpa using h4⟩
end

end Go.CM
