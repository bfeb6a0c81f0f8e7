/-
  The canonical machine, part X: what must hold behind code without types holds behind the code.
-/
import Derived.Test.YtdjbnhgdhambnaaGreatDoorDd
import GoSem.ClaimChange
import GoSem.ClaimWide
import Derived.ProofKit
set_option linter.unusedVariables false
set_option linter.unusedSimpArgs false
set_option linter.unnecessarySimpa false
namespace Go.CM
open Go
section
variable {P : Program} {G : Nat → CV}
theorem comp_cls {op : Op} {m : Mo} (hm : compOp P op = some m) (he : isEffOp op = false) : m.looks = true ∨ m.isNew = true := by
 cases op <;> simp only [isEffOp, Bool.true_eq_false, reduceCtorEq] at he <;> simp only [compOp] at hm <;> try (cases hm; done)
 case move => cases hm; exact .inl rfl
 case assign => cases hm; exact .inl rfl
 case pick => cases hm; exact .inl rfl
 case alloc => rw [map_some] at hm; obtain ⟨_, _, rfl⟩ := hm; exact .inr rfl
 case box => cases hm; exact .inr rfl
 case build => simp only [bind_some, map_some] at hm; obtain ⟨_, _, _, _, rfl⟩ := hm; exact .inl rfl
 case buildSlice => simp only [bind_some, ite_some] at hm; obtain ⟨_, _, _, _, _, _, _, rfl⟩ := hm; exact .inr rfl
 case load => split at hm <;> cases hm <;> exact .inl rfl
 case nilCheck => cases hm; exact .inl rfl
 case binOp => cases hm; exact .inl rfl
 case unOp => cases hm; exact .inl rfl
 case convert =>
  repeat' split at hm
  all_goals first | (cases hm; done) | (cases hm; exact .inl rfl)
 case makeInterface => split at hm <;> cases hm; exact .inl rfl
 case makeFunc f a b => cases f <;> simp only at hm <;> cases hm; exact .inl rfl
 case makeSlice => simp only [bind_some, ite_some] at hm; obtain ⟨_, _, _, _, _, _, _, _, _, rfl⟩ := hm; exact .inr rfl
 case slice => rw [map_some] at hm; obtain ⟨_, _, rfl⟩ := hm; exact .inl rfl
 case fieldAddr => rw [bind_some] at hm; obtain ⟨_, _, hm⟩ := hm; split at hm <;> cases hm; exact .inl rfl
 case field => rw [bind_some] at hm; obtain ⟨_, _, hm⟩ := hm; split at hm <;> cases hm <;> exact .inl rfl
 case indexAddr => split at hm <;> cases hm <;> exact .inl rfl
 case index =>
  repeat' split at hm
  all_goals first | (cases hm; done) | (cases hm; exact .inl rfl)
 case extract => cases hm; exact .inl rfl
 case call c =>
  split at hm
  ·rename_i b hb
   rw [hb] at he
   cases b <;> simp only [Bool.true_eq_false, reduceCtorEq] at he <;> unfold compBuiltin at hm <;> (repeat' split at hm) <;> first
    | (cases hm; done)
    | (cases hm; exact .inl rfl)
    | (rw [map_some] at hm; obtain ⟨_, _, rfl⟩ := hm; exact .inl rfl)
    | (exfalso; simp only [reduceCtorEq] at *; done)
  ·rename_i f hf
   rw [hf] at he; cases he
  ·cases hm
theorem comp_reads {op : Op} {m : Mo} (hm : compOp P op = some m) (ht : touches P op = false) : m.reads = false ∧ m.isNew = false := by
 cases op <;> simp only [touches, Bool.true_eq_false, reduceCtorEq] at ht <;> simp only [compOp] at hm <;> try (cases hm; done)
 case move => cases hm; exact ⟨rfl, rfl⟩
 case assign => cases hm; exact ⟨rfl, rfl⟩
 case pick => cases hm; exact ⟨rfl, rfl⟩
 case build => simp only [bind_some, map_some] at hm; obtain ⟨_, _, _, _, rfl⟩ := hm; exact ⟨rfl, rfl⟩
 case store => rw [map_some] at hm; obtain ⟨_, _, rfl⟩ := hm; exact ⟨rfl, rfl⟩
 case nilCheck => cases hm; exact ⟨rfl, rfl⟩
 case binOp => cases hm; exact ⟨rfl, rfl⟩
 case unOp => cases hm; exact ⟨rfl, rfl⟩
 case makeInterface => split at hm <;> cases hm; exact ⟨rfl, rfl⟩
 case makeFunc f a b => cases f <;> simp only at hm <;> cases hm; exact ⟨rfl, rfl⟩
 case typeAssert => rw [map_some] at hm; obtain ⟨_, _, rfl⟩ := hm; exact ⟨rfl, rfl⟩
 case slice => rw [map_some] at hm; obtain ⟨_, _, rfl⟩ := hm; exact ⟨rfl, rfl⟩
 case fieldAddr => rw [bind_some] at hm; obtain ⟨_, _, hm⟩ := hm; split at hm <;> cases hm; exact ⟨rfl, rfl⟩
 case field => rw [bind_some] at hm; obtain ⟨_, _, hm⟩ := hm; split at hm <;> cases hm <;> exact ⟨rfl, rfl⟩
 case indexAddr => split at hm <;> cases hm <;> exact ⟨rfl, rfl⟩
 case index =>
  repeat' split at hm
  all_goals first | (cases hm; done) | (cases hm; exact ⟨rfl, rfl⟩)
 case extract => cases hm; exact ⟨rfl, rfl⟩
 case next it b => cases b <;> simp only [reduceCtorEq] at hm <;> cases hm; exact ⟨rfl, rfl⟩
 case panic => cases hm; exact ⟨rfl, rfl⟩
 case lookup => split at hm <;> (try cases hm; done); rw [map_some] at hm; obtain ⟨_, _, rfl⟩ := hm; exact ⟨rfl, rfl⟩
 case mapUpdate => split at hm <;> cases hm; exact ⟨rfl, rfl⟩
 case insert => split at hm <;> cases hm; exact ⟨rfl, rfl⟩
 case makeMap => split at hm <;> cases hm; exact ⟨rfl, rfl⟩
 case range => split at hm <;> cases hm; exact ⟨rfl, rfl⟩
 case call c =>
  split at hm
  ·rename_i b hb
   rw [hb] at ht
   unfold compBuiltin at hm
   repeat' split at hm
   all_goals first
    | (cases hm; done)
    | (exfalso; simp_all; done)
    | (cases hm; exact ⟨rfl, rfl⟩)
    | (simp only [bind_some, map_some] at hm; obtain ⟨_, _, rfl⟩ := hm; exact ⟨rfl, rfl⟩)
    | (simp only [bind_some, map_some] at hm; obtain ⟨_, _, _, _, rfl⟩ := hm; exact ⟨rfl, rfl⟩)
    | (simp only [bind_some, ite_some] at hm; obtain ⟨_, _, _, _, _, _, _, rfl⟩ := hm; exact ⟨rfl, rfl⟩)
    | (simp only [bind_some, ite_some] at hm; obtain ⟨_, _, _, _, _, _, _, _, _, rfl⟩ := hm; exact ⟨rfl, rfl⟩)
  ·split at hm
   ·rw [ite_some] at hm; obtain ⟨_, rfl⟩ := hm; exact ⟨rfl, rfl⟩
   ·cases hm
  ·cases hm
inductive Kind (P : Program) (G : Nat → CV) (s : Stp) (o : Oper) (σ : Sg) (l : Hl) (v : CV) (l1 : Hl) : TS → Prop
 | pure (m : Mo) (hb : s.b = .mo m) (hm : m.looks = true) (hl : l1 = l) (hs : mstep P (ev G σ) l m = some (v, l)) : Kind P G s o σ l v l1 (.pure s.i v)
 | new (m : Mo) (cs : List CV) (hb : s.b = .mo m) (hm : m.isNew = true) (hl : l1 = l ++ [.cells cs.length cs]) : Kind P G s o σ l v l1 (.new s.i v cs)
 | eff (he : isEffOp o.op = true) (hlen : l.length ≤ l1.length) : Kind P G s o σ l v l1 (.eff s.i v (HL l1))
theorem Kind.idx {s : Stp} {o : Oper} {σ : Sg} {l l1 : Hl} {v : CV} {t : TS} (k : Kind P G s o σ l v l1 t) : t.idx = s.i := by cases k <;> rfl
theorem Kind.val {s : Stp} {o : Oper} {σ : Sg} {l l1 : Hl} {v : CV} {t : TS} (k : Kind P G s o σ l v l1 t) : t.val = v := by cases k <;> rfl
theorem Kind.next {s : Stp} {o : Oper} {σ : Sg} {l l1 : Hl} {v : CV} {t : TS} (k : Kind P G s o σ l v l1 t) : nextH (HL l) t = HL l1 := by
 cases k with
 | pure m hb hm hl hs => rw [hl]; rfl
 | new m cs hb hm hl => rw [hl, ← HL_push]; rfl
 | eff he _ => rfl
theorem stp_kind {ops : Array Oper} {s : Stp} {o : Oper} (ok : StpOk P ops s o) {σ : Sg} (hw : wantedC ops σ o = some true) {l : Hl} {K : CV → Hl → Prop} (h : stp P G s.b σ l K) :
  ∃ v l1 t, Kind P G s o σ l v l1 t ∧ StepOkC P G ops ⟨σ, HL l⟩ t ∧ K v l1 := by
 obtain ⟨v, l1, h1, h2, h3, h4⟩ := stp_ok ok h
 have effs : isEffOp o.op = true → ∃ v l1 t, Kind P G s o σ l v l1 t ∧ StepOkC P G ops ⟨σ, HL l⟩ t ∧ K v l1 := fun he => ⟨v, l1, _, .eff he h2, ⟨o, ok.here, hw, h1, by simpa using h2⟩, h3⟩
 cases hb : s.b with
 | mo m =>
  have hm := ok.mo m hb
  cases he : isEffOp o.op with
  | true => exact effs he
  | false =>
   have hs := h4 m hb (comp_cls hm he)
   rcases comp_cls hm he with hl | hn
   ·have := looks_same hl hs
    subst this
    exact ⟨v, l1, _, .pure m hb hl rfl hs, ⟨o, ok.here, hw⟩, h3⟩
   ·obtain ⟨cs, mk, h5, h6, h7⟩ := new_ok_L hm hn hs
    exact ⟨v, l1, _, .new m cs hb hn h7, ⟨o, mk, ok.here, hw, h5, h6⟩, h3⟩
 | callF f args =>
  obtain ⟨c, hop, hc, _⟩ := ok.callF f args hb
  exact effs (by rw [hop]; simp only [isEffOp, hc])
 | callV x args =>
  obtain ⟨c, hop, hc, _⟩ := ok.callV x args hb
  exact effs (by rw [hop]; simp only [isEffOp, hc])
 | callI x name args =>
  obtain ⟨c, hop, hc, _⟩ := ok.callI x name args hb
  exact effs (by rw [hop]; simp only [isEffOp, hc])
inductive Tr3 (P : Program) (G : Nat → CV) (ops : Array Oper) : List Stp → Sg → Hl → Seen → List (TS × Sg × Hl) → Sg → Hl → Prop
 | nil {σ l seen} : Tr3 P G ops [] σ l seen [] σ l
 | skip {s o r σ l seen es σ' l'} : StpOk P ops s o → wantedC ops σ o = some false → Tr3 P G ops r (putC σ s.dst undefC) l seen es σ' l' → Tr3 P G ops (s :: r) σ l seen ((.skip s.i, σ, l) :: es) σ' l'
 | step {s o r σ l v l1 t seen es σ' l'} : StpOk P ops s o → Kind P G s o σ l v l1 t → StepOkC P G ops ⟨σ, HL l⟩ t → chks s.chk seen l1 →
   Tr3 P G ops r (putC σ s.dst v) l1 (seenAdd s.keep s.i (stillP P G s.b σ v l l1) seen) es σ' l' → Tr3 P G ops (s :: r) σ l seen ((t, σ, l) :: es) σ' l'
theorem runD_tr {ops : Array Oper} {K : Sg → Hl → Prop} : ∀ {s : List Stp} {σ : Sg} {l : Hl} {seen : Seen}, (∀ x ∈ s, ∃ o, StpOk P ops x o) → runD P G s σ l seen K → ∃ es σ' l', Tr3 P G ops s σ l seen es σ' l' ∧ K σ' l'
 | [], σ, l, seen, _, h => ⟨[], σ, l, .nil, h⟩
 | s :: r, σ, l, seen, hok, h => by
  obtain ⟨o, ok⟩ := hok s (by simp)
  rcases kGo_ok ok h with ⟨hw, h⟩ | ⟨hw, h⟩
  ·obtain ⟨v, l1, t, h1, h2, h3, h4⟩ := stp_kind ok hw h
   obtain ⟨es, σ', l', h5, h6⟩ := runD_tr (fun x hx => hok x (by simp [hx])) h4
   exact ⟨_, σ', l', .step ok h1 h2 h3 h5, h6⟩
  ·obtain ⟨es, σ', l', h5, h6⟩ := runD_tr (fun x hx => hok x (by simp [hx])) h
   exact ⟨_, σ', l', .skip ok hw h5, h6⟩
theorem runS_D {K : Sg → Hl → Prop} : ∀ {s : List Stp} {σ : Sg} {l : Hl}, (∀ x ∈ s, x.keep = false) → runS P G s σ l K → runD P G s σ l [] K
 | [], σ, l, _, h => h
 | s :: r, σ, l, hk, h => by
  have mono : ∀ (b : Bd) (K K' : CV → Hl → Prop), (∀ v l, K v l → K' v l) → stp P G b σ l K → stp P G b σ l K' := by
   intro b K K' hK h
   cases b with
   | mo m => simp only [stp, W_iff] at h ⊢; obtain ⟨v, h1, h2⟩ := h; exact ⟨v, h1, keep_mono hK h2⟩
   | callF f args => obtain ⟨r, l', h1, h2, h3⟩ := h; exact ⟨r, l', h1, h2, hK _ _ h3⟩
   | callV x args =>
    simp only [stp, callVP] at h ⊢
    split at h
    ·obtain ⟨h0, r, l', h1, h2, h3⟩ := h; exact ⟨h0, r, l', h1, h2, hK _ _ h3⟩
    ·cases h
   | callI x name args =>
    simp only [stp, callIP] at h ⊢
    split at h
    ·split at h
     ·obtain ⟨h0, r, l', h1, h2, h3⟩ := h; exact ⟨h0, r, l', h1, h2, hK _ _ h3⟩
     ·cases h
    ·cases h
  have gmono : ∀ (g : Option (Option Tmp × Bool)) (p q p' q' : Prop), (p → p') → (q → q') → kGo σ g p q → kGo σ g p' q' := by
   intro g p q p' q' hp hq h
   unfold kGo at h ⊢
   split at h
   ·exact hp h
   ·rename_i d w
    simp only [kG] at h ⊢
    split at h
    ·rw [kIf_iff] at h ⊢
     rcases h with ⟨a, b⟩ | ⟨a, b⟩
     ·exact .inl ⟨a, hp b⟩
     ·exact .inr ⟨a, hq b⟩
    ·cases h
    ·exact hq h
   ·exact hq h
  have hk0 : s.keep = false := hk s (by simp)
  refine gmono _ _ _ _ _ (mono _ _ _ fun v l' h => ?_) (fun h => runS_D (fun x hx => hk x (by simp [hx])) h) h
  refine ⟨trivial, ?_⟩
  rw [hk0]
  exact runS_D (fun x hx => hk x (by simp [hx])) h
theorem Kind.len {s : Stp} {o : Oper} {σ : Sg} {l l1 : Hl} {v : CV} {t : TS} (k : Kind P G s o σ l v l1 t) : l.length ≤ l1.length := by
 cases k with
 | pure m hb hm hl hs => rw [hl]; exact Nat.le_refl _
 | new m cs hb hm hl => rw [hl]; simp
 | eff he hlen => exact hlen
theorem Tr3.len {ops : Array Oper} {s : List Stp} {σ σ' : Sg} {l l' : Hl} {seen : Seen} {es : List (TS × Sg × Hl)} (h : Tr3 P G ops s σ l seen es σ' l') : l.length ≤ l'.length := by
 induction h with
 | nil => exact Nat.le_refl _
 | skip _ _ _ ih => exact ih
 | step _ k _ _ _ ih => exact Nat.le_trans k.len ih
def heapAt (es : List (TS × Sg × Hl)) (l' : Hl) (q : Nat) : Hl := match es[q]? with | some x => x.2.2 | none => l'
theorem Tr3.here {ops : Array Oper} {s : List Stp} {σ σ' : Sg} {l l' : Hl} {seen : Seen} {es : List (TS × Sg × Hl)} (h : Tr3 P G ops s σ l seen es σ' l') : heapAt es l' 0 = l := by
 cases h <;> rfl
theorem Tr3.idx {ops : Array Oper} {s : List Stp} {σ σ' : Sg} {l l' : Hl} {seen : Seen} {es : List (TS × Sg × Hl)} (h : Tr3 P G ops s σ l seen es σ' l') : es.map (fun e => e.1.idx) = s.map (·.i) := by
 induction h with
 | nil => rfl
 | skip _ _ _ ih => simp only [List.map_cons, ih]; rfl
 | step _ k _ _ _ ih => simp only [List.map_cons, ih, k.idx]
theorem Tr3.at {ops : Array Oper} {s : List Stp} {σ σ' : Sg} {l l' : Hl} {seen : Seen} {es : List (TS × Sg × Hl)} (h : Tr3 P G ops s σ l seen es σ' l') :
  (∀ (p : Nat) (e : TS × Sg × Hl), es[p]? = some e → StepOkC P G ops ⟨e.2.1, HL e.2.2⟩ e.1 ∧ stAt ops ⟨σ, HL l⟩ (es.map (·.1)) p = ⟨e.2.1, HL e.2.2⟩) ∧ stAt ops ⟨σ, HL l⟩ (es.map (·.1)) es.length = ⟨σ', HL l'⟩ := by
 induction h with
 | nil => exact ⟨fun p e he => by simp at he, rfl⟩
 | @skip s o r σ l seen es σ' l' ok hw _ ih =>
  have hnx : nextS ops ⟨σ, HL l⟩ (.skip s.i) = ⟨putC σ s.dst undefC, HL l⟩ := by simp only [nextS, dstOf, TS.idx, ok.here, Option.bind_some, TS.val, nextH, ok.dst]
  refine ⟨fun p e he => ?_, ?_⟩
  ·cases p with
   | zero => simp only [List.getElem?_cons_zero, Option.some.injEq] at he; subst he; exact ⟨⟨o, ok.here, hw⟩, rfl⟩
   | succ p =>
    simp only [List.getElem?_cons_succ] at he
    obtain ⟨h1, h2⟩ := ih.1 p e he
    refine ⟨h1, ?_⟩
    rw [List.map_cons, stAt_cons, hnx]; exact h2
  ·rw [List.map_cons, List.length_cons, stAt_cons, hnx]; exact ih.2
 | @step s o r σ l v l1 t seen es σ' l' ok k hs hc _ ih =>
  have hnx : nextS ops ⟨σ, HL l⟩ t = ⟨putC σ s.dst v, HL l1⟩ := by simp only [nextS, dstOf, k.idx, ok.here, Option.bind_some, k.val, k.next, ok.dst]
  refine ⟨fun p e he => ?_, ?_⟩
  ·cases p with
   | zero => simp only [List.getElem?_cons_zero, Option.some.injEq] at he; subst he; exact ⟨hs, rfl⟩
   | succ p =>
    simp only [List.getElem?_cons_succ] at he
    obtain ⟨h1, h2⟩ := ih.1 p e he
    refine ⟨h1, ?_⟩
    rw [List.map_cons, stAt_cons, hnx]; exact h2
  ·rw [List.map_cons, List.length_cons, stAt_cons, hnx]; exact ih.2
theorem Tr3.still {ops : Array Oper} {s : List Stp} {σ σ' : Sg} {l l' : Hl} {seen : Seen} {es : List (TS × Sg × Hl)} (h : Tr3 P G ops s σ l seen es σ' l') (j : Nat) (S : Hl → Prop)
  (hgrow : ∀ l x, S l → S (l ++ x)) (h0 : S l) : ∀ q, q ≤ es.length → (∀ (p : Nat) (e : TS × Sg × Hl), p < q → es[p]? = some e → e.1.isEff = true → (j, S) ∈ seen ∧ ∃ x, s[p]? = some x ∧ j ∈ x.chk) → S (heapAt es l' q) := by
 have chk_get : ∀ {ids : List Nat} {seen : Seen} {l : Hl}, chks ids seen l → (j, S) ∈ seen → j ∈ ids → S l := by
  intro ids seen l hc hm hi
  induction seen with
  | nil => cases hm
  | cons e r ih =>
   obtain ⟨h1, h2⟩ := hc
   rcases List.mem_cons.1 hm with rfl | hm
   ·exact h1 (by simpa using hi)
   ·exact ih h2 hm
 induction h with
 | nil =>
  intro q hq _; simp only [List.length_nil] at hq; obtain rfl : q = 0 := by omega
  exact h0
 | @skip s o r σ l seen es σ' l' ok hw _ ih =>
  intro q hq hask
  cases q with
  | zero => exact h0
  | succ q => exact ih h0 q (by simpa using hq) (fun p e hp he hE => by
    obtain ⟨h1, x, h2, h3⟩ := hask (p + 1) e (by omega) (by simpa using he) hE
    exact ⟨h1, x, by simpa using h2, h3⟩)
 | @step s o r σ l v l1 t seen es σ' l' ok k hs hc _ ih =>
  intro q hq hask
  cases q with
  | zero => exact h0
  | succ q =>
   have h1 : S l1 := by
    cases k with
    | pure m hb hm hl _ => rw [hl]; exact h0
    | new m cs hb hm hl => rw [hl]; exact hgrow _ _ h0
    | eff he _ =>
     obtain ⟨h1, x, h2, h3⟩ := hask 0 _ (by omega) rfl rfl
     simp only [List.getElem?_cons_zero, Option.some.injEq] at h2
     subst h2
     exact chk_get hc h1 h3
   refine ih h1 q (by simpa using hq) (fun p e hp he hE => ?_)
   obtain ⟨h1, x, h2, h3⟩ := hask (p + 1) e (by omega) (by simpa using he) hE
   refine ⟨?_, x, by simpa using h2, h3⟩
   unfold seenAdd
   cases s.keep with
   | false => exact h1
   | true => exact List.mem_cons_of_mem _ h1
theorem Tr3.split {ops : Array Oper} {s : List Stp} {σ σ' : Sg} {l l' : Hl} {seen : Seen} {es : List (TS × Sg × Hl)} (h : Tr3 P G ops s σ l seen es σ' l') : ∀ (p : Nat) (e : TS × Sg × Hl), es[p]? = some e → e.1.isSkip = false →
  ∃ x o v l1 seen1, s[p]? = some x ∧ StpOk P ops x o ∧ Kind P G x o e.2.1 e.2.2 v l1 e.1 ∧
   Tr3 P G ops (s.drop (p + 1)) (putC e.2.1 x.dst v) l1 (seenAdd x.keep x.i (stillP P G x.b e.2.1 v e.2.2 l1) seen1) (es.drop (p + 1)) σ' l' := by
 induction h with
 | nil => intro p e he; simp at he
 | @skip s o r σ l seen es σ' l' ok hw _ ih =>
  intro p e he hsk
  cases p with
  | zero => simp only [List.getElem?_cons_zero, Option.some.injEq] at he; subst he; cases hsk
  | succ p =>
   obtain ⟨x, o', v, l1, seen1, h1, h2, h3, h4⟩ := ih p e (by simpa using he) hsk
   exact ⟨x, o', v, l1, seen1, by simpa using h1, h2, h3, by simpa using h4⟩
 | @step s o r σ l v l1 t seen es σ' l' ok k hs hc tr ih =>
  intro p e he hsk
  cases p with
  | zero =>
   simp only [List.getElem?_cons_zero, Option.some.injEq] at he; subst he
   exact ⟨s, o, v, l1, seen, rfl, ok, k, by simpa using tr⟩
  | succ p =>
   obtain ⟨x, o', v, l1, seen1, h1, h2, h3, h4⟩ := ih p e (by simpa using he) hsk
   exact ⟨x, o', v, l1, seen1, by simpa using h1, h2, h3, by simpa using h4⟩
end
section
variable {P : Program} {G : Nat → CV}
theorem plan_fst {ms : List Nat} {ops : Array Oper} : ∀ (ord done effs : List Nat), (∀ i ∈ ord, i < ops.size) → (planGo P ms ops ord done effs).map (·.1) = ord
 | [], _, _, _ => rfl
 | i :: r, done, effs, h => by
  unfold planGo
  have hi : i < ops.size := h i (by simp)
  rw [Array.getElem?_eq_getElem hi]
  simp only
  split <;> simp only [List.map_cons] <;> rw [plan_fst r _ _ fun j hj => h j (by simp [hj])]
theorem plan_cov {ms : List Nat} {ops : Array Oper} : ∀ (ord done effs : List Nat) (p i : Nat) (chk : List Nat), (∀ i ∈ ord, i < ops.size) → (planGo P ms ops ord done effs)[p]? = some (i, chk) →
  (∃ o, ops[i]? = some o ∧ isEffOp o.op = true) → ∀ j, (j ∈ done ∨ ∃ p0, p0 < p ∧ ord[p0]? = some j) → (∃ o, ops[j]? = some o ∧ touches P o.op = true) → (∀ e ∈ effs, preOf ms e j = false) →
  (∀ (p' i' : Nat) (o : Oper), p' ≤ p → ord[p']? = some i' → ops[i']? = some o → isEffOp o.op = true → (p' = p ∨ o.guard = none) → preOf ms i' j = false) → j ∈ chk
 | [], done, effs, p, i, chk, _, hp, _, _, _, _, _, _ => by simp [planGo] at hp
 | x :: r, done, effs, p, i, chk, hord, hp, he, j, hj, ht, hef, hpr => by
  unfold planGo at hp
  have hx : x < ops.size := hord x (by simp)
  rw [Array.getElem?_eq_getElem hx] at hp
  have hox : ops[x]? = some ops[x] := Array.getElem?_eq_getElem hx
  simp only at hp
  have hr : ∀ i ∈ r, i < ops.size := fun j hj => hord j (by simp [hj])
  cases hE : isEffOp ops[x].op with
  | true =>
   rw [hE] at hp
   simp only at hp
   cases p with
   | zero =>
    simp only [List.getElem?_cons_zero, Option.some.injEq, Prod.mk.injEq] at hp
    obtain ⟨rfl, rfl⟩ := hp
    obtain ⟨o, h1, h2⟩ := ht
    rcases hj with hj | ⟨p0, hp0, _⟩
    ·refine List.mem_filter.2 ⟨hj, ?_⟩
     simp only [h1, h2, Bool.true_and, List.all_cons, Bool.and_eq_true, List.all_eq_true]
     exact ⟨by simp [hpr 0 x ops[x] (Nat.le_refl _) (by simp) hox hE (.inl rfl)], fun e he => by simp [hef e he]⟩
    ·omega
   | succ p =>
    simp only [List.getElem?_cons_succ] at hp
    refine plan_cov r _ _ p i chk hr hp he j ?_ ht ?_ ?_
    ·rcases hj with hj | ⟨p0, hp0, hj⟩
     ·exact .inl (by simp [hj])
     ·cases p0 with
      | zero => simp only [List.getElem?_cons_zero, Option.some.injEq] at hj; exact .inl (by simp [hj])
      | succ p0 => exact .inr ⟨p0, by omega, by simpa using hj⟩
    ·intro e he'
     cases hg : ops[x].guard with
     | none =>
      rw [hg] at he'
      rcases List.mem_cons.1 he' with rfl | he'
      ·exact hpr 0 e ops[e] (by omega) (by simp) hox hE (.inr hg)
      ·exact hef e he'
     | some jw => rw [hg] at he'; exact hef e he'
    ·intro p' i' o hp' hi' ho hE' hg
     exact hpr (p' + 1) i' o (by omega) (by simpa using hi') ho hE' (by rcases hg with rfl | hg; exact .inl rfl; exact .inr hg)
  | false =>
   rw [hE] at hp
   simp only at hp
   cases p with
   | zero =>
    simp only [List.getElem?_cons_zero, Option.some.injEq, Prod.mk.injEq] at hp
    obtain ⟨rfl, rfl⟩ := hp
    obtain ⟨o, h1, h2⟩ := he
    rw [hox] at h1; cases h1
    rw [hE] at h2; cases h2
   | succ p =>
    simp only [List.getElem?_cons_succ] at hp
    refine plan_cov r _ _ p i chk hr hp he j ?_ ht hef ?_
    ·rcases hj with hj | ⟨p0, hp0, hj⟩
     ·exact .inl (by simp [hj])
     ·cases p0 with
      | zero => simp only [List.getElem?_cons_zero, Option.some.injEq] at hj; exact .inl (by simp [hj])
      | succ p0 => exact .inr ⟨p0, by omega, by simpa using hj⟩
    ·intro p' i' o hp' hi' ho hE' hg
     exact hpr (p' + 1) i' o (by omega) (by simpa using hi') ho hE' (by rcases hg with rfl | hg; exact .inl rfl; exact .inr hg)
theorem eager_spec {ms : List Nat} {ops : Array Oper} : ∀ {ord : List Nat}, eagerB ms ops ord = true → ∀ (p p' i j : Nat) (o : Oper), ord[p]? = some i → ord[p']? = some j → p < p' → ops[i]? = some o → isEffOp o.op = true → preOf ms j i = true
 | [], _, p, p', i, j, o, hp, _, _, _, _ => by simp at hp
 | x :: r, h, p, p', i, j, o, hp, hp', hlt, ho, he => by
  simp only [eagerB, Bool.and_eq_true] at h
  cases p' with
  | zero => omega
  | succ p' =>
   simp only [List.getElem?_cons_succ] at hp'
   cases p with
   | zero =>
    simp only [List.getElem?_cons_zero, Option.some.injEq] at hp
    subst hp
    rw [ho] at h
    simp only [he, Bool.not_true, Bool.false_or, List.all_eq_true] at h
    exact h.1 j (List.mem_of_getElem? hp')
   | succ p => exact eager_spec h.2 p p' i j o (by simpa using hp) hp' (by omega) ho he
theorem mapM_get {α β : Type} {f : α → Option β} : ∀ {l : List α} {r : List β}, l.mapM f = some r → ∀ (p : Nat) (x : β), r[p]? = some x → ∃ a, l[p]? = some a ∧ f a = some x
 | [], r, h, p, x, hx => by simp at h; subst h; simp at hx
 | a :: l, r, h, p, x, hx => by
  rw [List.mapM_cons] at h
  simp only [Option.bind_eq_bind, bind_some, Option.pure_def, Option.some.injEq] at h
  obtain ⟨b, h1, r', h2, rfl⟩ := h
  cases p with
  | zero => simp only [List.getElem?_cons_zero, Option.some.injEq] at hx; subst hx; exact ⟨a, rfl, h1⟩
  | succ p => obtain ⟨a', h3, h4⟩ := mapM_get h2 p x (by simpa using hx); exact ⟨a', by simpa using h3, h4⟩
theorem mapM_len {α β : Type} {f : α → Option β} : ∀ {l : List α} {r : List β}, l.mapM f = some r → r.length = l.length
 | [], r, h => by simp at h; subst h; rfl
 | a :: l, r, h => by
  rw [List.mapM_cons] at h
  simp only [Option.bind_eq_bind, bind_some, Option.pure_def, Option.some.injEq] at h
  obtain ⟨b, h1, r', h2, rfl⟩ := h
  simp [mapM_len h2]
theorem heapAt_drop (es : List (TS × Sg × Hl)) (l' : Hl) (n q : Nat) : heapAt (es.drop n) l' q = heapAt es l' (n + q) := by
 unfold heapAt; rw [List.getElem?_drop]
theorem draw_tr {id N' : Nat} {ops : Array Oper} {steps : List Stp} (hd : ∀ (i : Nat) (o : Oper), ops[i]? = some o → dstOk N' o.dst = true)
  (hord : orderB (masksOf ops) ops (sched (masksOf ops) ops) = true) (heag : eagerB (masksOf ops) ops (sched (masksOf ops) ops) = true)
  (hst : (planGo P (masksOf ops) ops (sched (masksOf ops) ops) [] []).mapM (fun p => stpOf P ops p.1 p.2 (((planGo P (masksOf ops) ops (sched (masksOf ops) ops) [] []).flatMap (·.2)).contains p.1)) = some steps)
  {σ σ' : Sg} {l l' : Hl} {es : List (TS × Sg × Hl)} (tr : Tr3 P G ops steps σ l [] es σ' l') : Ev P G (.code (.region id ops true) N' σ (HL l) .normal σ' (HL l')) := by
 simp only [orderB, Bool.and_eq_true] at hord
 obtain ⟨⟨⟨⟨o1, o2⟩, o3⟩, o4⟩, o5⟩ := hord
 have hrange : ∀ i ∈ sched (masksOf ops) ops, i < ops.size := fun i hi => by
  rw [List.all_eq_true] at o4
  simpa [Nat.blt_eq] using o4 i hi
 have hplan : (planGo P (masksOf ops) ops (sched (masksOf ops) ops) [] []).map (·.1) = sched (masksOf ops) ops := plan_fst _ _ _ hrange
 have hstep : ∀ (p : Nat) (x : Stp), steps[p]? = some x → ∃ o, StpOk P ops x o ∧ (planGo P (masksOf ops) ops (sched (masksOf ops) ops) [] [])[p]? = some (x.i, x.chk) ∧
   x.keep = ((planGo P (masksOf ops) ops (sched (masksOf ops) ops) [] []).flatMap (·.2)).contains x.i := fun p x hx => by
  obtain ⟨a, h1, h2⟩ := mapM_get hst p x hx
  obtain ⟨o, h3, h4, h5, h6⟩ := stpOf_ok h2
  exact ⟨o, h3, by rw [h1, h4, h5], by rw [h6, h4]⟩
 have hstepi : ∀ (p : Nat) (x : Stp), steps[p]? = some x → (sched (masksOf ops) ops)[p]? = some x.i := fun p x hx => by
  obtain ⟨o, _, h1, _⟩ := hstep p x hx
  rw [← hplan, List.getElem?_map, h1]; rfl
 have hidx : ∀ (p : Nat) (e : TS × Sg × Hl), es[p]? = some e → ∃ x, steps[p]? = some x ∧ x.i = e.1.idx := fun p e he => by
  have := congrArg (·[p]?) tr.idx
  simp only [List.getElem?_map, he, Option.map_some] at this
  cases hx : steps[p]? with
  | none => rw [hx] at this; cases this
  | some x => rw [hx] at this; simp only [Option.map_some, Option.some.injEq] at this; exact ⟨x, rfl, this.symm⟩
 have hsch : ∀ (p : Nat) (e : TS × Sg × Hl), es[p]? = some e → (sched (masksOf ops) ops)[p]? = some e.1.idx := fun p e he => by
  obtain ⟨x, h1, h2⟩ := hidx p e he
  rw [hstepi p x h1, h2]
 have hget : ∀ (p : Nat) (t : TS), (es.map (·.1))[p]? = some t → ∃ e, es[p]? = some e ∧ e.1 = t := fun p t ht => by simpa using ht
 have heff : ∀ (p : Nat) (e : TS × Sg × Hl), es[p]? = some e → e.1.isEff = true → ∃ o, ops[e.1.idx]? = some o ∧ isEffOp o.op = true ∧ (wantedC ops e.2.1 o = some true) := fun p e he hE => by
  have hsk : e.1.isSkip = false := by cases h : e.1 <;> rw [h] at hE <;> first | rfl | cases hE
  obtain ⟨x, o, v, l1, seen1, h1, h2, h3, h4⟩ := tr.split p e he hsk
  have hso := (tr.at.1 p e he).1
  have hix := h3.idx
  have hh := h2.here
  rw [← hix] at hh
  refine ⟨o, hh, ?_, ?_⟩
  ·revert hE
   generalize e.1 = t at h3
   intro hE
   cases h3 with
   | pure => cases hE
   | new => cases hE
   | eff he _ => exact he
  ·revert hso hE hh
   generalize e.1 = t
   intro hE hso hh
   cases t <;> first | (cases hE; done) | skip
   obtain ⟨o', h5, h6, _⟩ := hso
   simp only [TS.idx] at hh
   rw [hh] at h5; cases h5
   exact h6
 have ot : OrdText ops (preOf (masksOf ops)) (es.map (·.1)) := by
  refine ⟨drawTextB_spec o1, fun i hi => ?_, fun p p' t t' hp hp' he => ?_, fun p t hp => ?_, fun p p' t t' hp hp' hlt => ?_, fun p p' t t' hp hp' hlt hE => ?_⟩
  ·rw [List.all_eq_true] at o5
   have := o5 i (by simpa using hi)
   have hm : i ∈ sched (masksOf ops) ops := by simpa using this
   have hes : (es.map (·.1)).map TS.idx = sched (masksOf ops) ops := by
    rw [List.map_map]
    show es.map (fun e => e.1.idx) = _
    rw [tr.idx, ← hplan]
    apply List.ext_getElem?
    intro p
    rw [List.getElem?_map, List.getElem?_map]
    cases hx : steps[p]? with
    | none =>
     have : (planGo P (masksOf ops) ops (sched (masksOf ops) ops) [] [])[p]? = none := by
      rw [List.getElem?_eq_none_iff] at hx ⊢
      rw [← mapM_len hst]; exact hx
     rw [this]; rfl
    | some x => obtain ⟨o, _, h1, _⟩ := hstep p x hx; rw [h1]; rfl
   rw [← hes] at hm
   obtain ⟨t, h1, h2⟩ := List.mem_map.1 hm
   obtain ⟨p, hp⟩ := List.getElem?_of_mem h1
   exact ⟨p, t, hp, h2⟩
  ·obtain ⟨e, g1, g2⟩ := hget p t hp
   obtain ⟨e', g1', g2'⟩ := hget p' t' hp'
   have a1 := hsch p e g1
   have a2 := hsch p' e' g1'
   rw [g2] at a1; rw [g2'] at a2
   rcases Nat.lt_trichotomy p p' with h | h | h
   ·exact absurd he (ordB_spec o2 p p' _ _ a1 a2 h).1
   ·exact h
   ·exact absurd he.symm (ordB_spec o2 p' p _ _ a2 a1 h).1
  ·obtain ⟨e, g1, g2⟩ := hget p t hp
   have a1 := hsch p e g1
   rw [g2] at a1
   exact hrange _ (List.mem_of_getElem? a1)
  ·obtain ⟨e, g1, g2⟩ := hget p t hp
   obtain ⟨e', g1', g2'⟩ := hget p' t' hp'
   have a1 := hsch p e g1
   have a2 := hsch p' e' g1'
   rw [g2] at a1; rw [g2'] at a2
   exact (ordB_spec o2 p p' _ _ a1 a2 hlt).2
  ·obtain ⟨e, g1, g2⟩ := hget p t hp
   obtain ⟨e', g1', g2'⟩ := hget p' t' hp'
   obtain ⟨o, b1, b2, _⟩ := heff p e g1 (by rw [g2]; exact hE)
   have a1 := hsch p e g1
   have a2 := hsch p' e' g1'
   rw [g2] at a1 b1; rw [g2'] at a2
   exact eager_spec heag p p' _ _ o a1 a2 hlt b1 b2
 have hheap : ∀ q, q ≤ es.length → (stAt ops ⟨σ, HL l⟩ (es.map (·.1)) q).h = HL (heapAt es l' q) := fun q hq => by
  unfold heapAt
  cases he : es[q]? with
  | none =>
   have : q = es.length := by rw [List.getElem?_eq_none_iff] at he; omega
   rw [this, tr.at.2]
  | some e => rw [(tr.at.1 q e he).2]
 have tk : TrOk P G ops (preOf (masksOf ops)) ⟨σ, HL l⟩ (es.map (·.1)) := by
  refine ⟨fun p t hp => ?_, fun q hq p t hpq hp hno => ?_⟩
  ·obtain ⟨e, g1, g2⟩ := hget p t hp
   obtain ⟨c1, c2⟩ := tr.at.1 p e g1
   rw [c2, ← g2]; exact c1
  ·obtain ⟨e, g1, g2⟩ := hget p t hp
   obtain ⟨c1, c2⟩ := tr.at.1 p e g1
   have hql : q ≤ es.length := by
    rcases hq with rfl | ⟨tq, hq, _⟩
    ·simp
    ·obtain ⟨eq, g3, _⟩ := hget q tq hq
     exact Nat.le_of_lt (List.getElem?_eq_some_iff.1 g3).1
   rw [hheap q hql, c2]
   cases hsk : e.1.isSkip with
   | true => rw [← g2]; cases h : e.1 <;> rw [h] at hsk <;> first | trivial | cases hsk
   | false =>
    obtain ⟨x, o, v, l1, seen1, h1, h2, h3, h4⟩ := tr.split p e g1 hsk
    obtain ⟨o', h2', hpl, hkeep⟩ := hstep p x h1
    have hoo : o' = o := by have a := h2'.here; have b := h2.here; rw [a] at b; exact Option.some.inj b
    subst hoo
    have ask : touches P o'.op = true → ∀ (p' : Nat) (e' : TS × Sg × Hl), p' < q - (p + 1) → (es.drop (p + 1))[p']? = some e' → e'.1.isEff = true →
      (x.i, stillP P G x.b e.2.1 v e.2.2 l1) ∈ seenAdd x.keep x.i (stillP P G x.b e.2.1 v e.2.2 l1) seen1 ∧ ∃ y, (steps.drop (p + 1))[p']? = some y ∧ x.i ∈ y.chk := by
     intro ht p' e' hp' he' hE'
     rw [List.getElem?_drop] at he'
     obtain ⟨y, k1, k2⟩ := hidx _ e' he'
     obtain ⟨oy, k3, k4, _⟩ := hstep _ y k1
     obtain ⟨oe, k5, k6, k7⟩ := heff _ e' he' hE'
     have hin : x.i ∈ y.chk := by
      refine plan_cov _ _ _ _ _ _ hrange k4 ⟨oe, by rw [k2]; exact k5, k6⟩ x.i (.inr ⟨p, by omega, hstepi p x h1⟩) ⟨o', h2.here, ht⟩ (fun e he => by cases he) ?_
      intro p'' i'' o'' hp'' hi'' ho'' hE'' hg
      -- what is at p'' was carried out
      have hlt : p'' < es.length := by
       have := (List.getElem?_eq_some_iff.1 he').1
       omega
      have hes : es[p'']? = some es[p''] := List.getElem?_eq_getElem hlt
      have hid := hsch _ _ hes
      rw [hi''] at hid
      have hid' : i'' = es[p''].1.idx := Option.some.inj hid
      have hE3 : es[p''].1.isEff = true := by
       cases hs3 : es[p''].1.isSkip with
       | true =>
        exfalso
        rcases hg with rfl | hg
        ·rw [hes] at he'
         cases he'
         cases h : es[p + 1 + p'].1 <;> rw [h] at hE' hs3 <;> first | (cases hs3; done) | (cases hE'; done)
        ·have hso := (tr.at.1 _ _ hes).1
         cases h : es[p''].1 <;> rw [h] at hs3 hso hid' <;> first | (cases hs3; done) | skip
         obtain ⟨o3, m1, m2⟩ := hso
         simp only [TS.idx] at hid'
         rw [← hid', ho''] at m1; cases m1
         simp [wantedC, hg] at m2
       | false =>
        obtain ⟨x3, o3, v3, l3, seen3, m1, m2, m3, _⟩ := tr.split _ _ hes hs3
        have hi3 := m3.idx
        have hh3 := m2.here
        rw [← hi3, ← hid', ho''] at hh3; cases hh3
        revert m3
        generalize es[p''].1 = t3
        intro m3
        cases m3 with
        | pure m hb hm _ _ =>
         exfalso
         have hc := m2.mo m hb
         have : isEffOp o''.op = false := by
          revert hc hm
          cases o''.op <;> simp only [compOp] <;> intro hm hc <;> first | rfl | (exfalso; revert hc hm; done) | skip
          case store => rw [map_some] at hc; obtain ⟨_, _, rfl⟩ := hc; cases hm
          case call c =>
           split at hc
           ·rename_i b hb
            unfold isEffOp
            simp only [hb]
            unfold compBuiltin at hc
            repeat' split at hc
            all_goals first
             | rfl
             | (cases hc; done)
             | (cases hc; cases hm; done)
             | (simp only [bind_some, map_some] at hc; obtain ⟨_, _, rfl⟩ := hc; cases hm; done)
             | (simp only [bind_some, map_some] at hc; obtain ⟨_, _, _, _, rfl⟩ := hc; cases hm; done)
             | (simp only [bind_some, ite_some] at hc; obtain ⟨_, _, _, _, _, _, _, rfl⟩ := hc; cases hm; done)
             | (simp only [bind_some, ite_some] at hc; obtain ⟨_, _, _, _, _, _, _, _, _, rfl⟩ := hc; cases hm; done)
           ·split at hc
            ·rw [ite_some] at hc; obtain ⟨_, rfl⟩ := hc; cases hm
            ·cases hc
           ·cases hc
          case next it b => (cases b <;> simp only [reduceCtorEq] at hc <;> cases hc <;> cases hm)
          case lookup => split at hc <;> (try cases hc; done); rw [map_some] at hc; obtain ⟨_, _, rfl⟩ := hc; cases hm
          case mapUpdate => split at hc <;> cases hc; cases hm
          case insert => split at hc <;> cases hc; cases hm
          case panic => (cases hc; cases hm)
          case makeMap => split at hc <;> cases hc; cases hm
          case range => split at hc <;> cases hc; cases hm
          case typeAssert => rw [map_some] at hc; obtain ⟨_, _, rfl⟩ := hc; cases hm
          all_goals (cases hc)
         rw [this] at hE''; cases hE''
        | new m cs hb hm _ =>
         exfalso
         have hc := m2.mo m hb
         have : isEffOp o''.op = false := by
          revert hc hm
          cases o''.op <;> simp only [compOp] <;> intro hm hc <;> first | rfl | (exfalso; revert hc hm; done) | skip
          case store => rw [map_some] at hc; obtain ⟨_, _, rfl⟩ := hc; cases hm
          case panic => (cases hc; cases hm)
          case call c =>
           split at hc
           ·rename_i b hb
            unfold isEffOp
            simp only [hb]
            unfold compBuiltin at hc
            repeat' split at hc
            all_goals first
             | rfl
             | (cases hc; done)
             | (cases hc; cases hm; done)
             | (simp only [bind_some, map_some] at hc; obtain ⟨_, _, rfl⟩ := hc; cases hm; done)
             | (simp only [bind_some, map_some] at hc; obtain ⟨_, _, _, _, rfl⟩ := hc; cases hm; done)
             | (simp only [bind_some, ite_some] at hc; obtain ⟨_, _, _, _, _, _, _, rfl⟩ := hc; cases hm; done)
             | (simp only [bind_some, ite_some] at hc; obtain ⟨_, _, _, _, _, _, _, _, _, rfl⟩ := hc; cases hm; done)
           ·split at hc
            ·rw [ite_some] at hc; obtain ⟨_, rfl⟩ := hc; cases hm
            ·cases hc
           ·cases hc
          case next it b => (cases b <;> simp only [reduceCtorEq] at hc <;> cases hc <;> cases hm)
          case lookup => split at hc <;> (try cases hc; done); rw [map_some] at hc; obtain ⟨_, _, rfl⟩ := hc; cases hm
          case mapUpdate => split at hc <;> cases hc; cases hm
          case insert => split at hc <;> cases hc; cases hm
          case makeMap => split at hc <;> cases hc; cases hm
          case range => split at hc <;> cases hc; cases hm
          case typeAssert => rw [map_some] at hc; obtain ⟨_, _, rfl⟩ := hc; cases hm
          all_goals (cases hc)
         rw [this] at hE''; cases hE''
        | eff _ _ => rfl
      have := hno p'' es[p''].1 (by omega) (by simp [hes]) hE3
      rw [hid', h2.here |> fun _ => (h3.idx).symm, g2]
      exact this
     refine ⟨?_, y, by rw [List.getElem?_drop]; exact k1, hin⟩
     have : x.keep = true := by
      rw [hkeep]
      simp only [List.contains_iff_mem, List.mem_flatMap]
      exact ⟨(y.i, y.chk), List.mem_of_getElem? k4, hin⟩
     rw [this]
     exact List.mem_cons_self
    have goStill : touches P o'.op = true → (∀ l x0, stillP P G x.b e.2.1 v e.2.2 l1 l → stillP P G x.b e.2.1 v e.2.2 l1 (l ++ x0)) → stillP P G x.b e.2.1 v e.2.2 l1 l1 → stillP P G x.b e.2.1 v e.2.2 l1 (heapAt es l' q) := by
     intro ht hgrow h0
     have := h4.still x.i _ hgrow h0 (q - (p + 1)) (by simp only [List.length_drop]; omega) (ask ht)
     rwa [heapAt_drop, show p + 1 + (q - (p + 1)) = q by omega] at this
    rw [← g2]
    revert h3 goStill ask g2
    generalize e.1 = t1
    intro g2 h3 ask goStill
    cases h3 with
    | eff => trivial
    | pure m hb hm hl hs =>
     intro o2 ho2
     rw [h2.here] at ho2; cases ho2
     have hc := h2.mo m hb
     cases hr : m.reads with
     | false => exact mstep_ok hc (looks_indep hm hr hs)
     | true =>
      have ht : touches P o'.op = true := by
       cases h : touches P o'.op with
       | true => rfl
       | false => rw [(comp_reads hc h).1] at hr; cases hr
      have hnn : m.isNew = false := by cases m <;> first | rfl | cases hr
      have hst : ∀ l2, stillP P G x.b e.2.1 v e.2.2 l1 l2 ↔ mstep P (ev G e.2.1) l2 m = some (v, l2) := fun l2 => by rw [hb]; simp only [stillP, hnn]
      have := goStill ht (fun l2 x0 h => by rw [hst] at h ⊢; exact looks_grow hm h) (by rw [hst, hl]; exact hs)
      rw [hst] at this
      exact mstep_ok hc this
    | new m cs hb hm hl =>
     have hc := h2.mo m hb
     have ht : touches P o'.op = true := by
      cases h : touches P o'.op with
      | true => rfl
      | false => rw [(comp_reads hc h).2] at hm; cases hm
     have hst : ∀ l2 : Hl, stillP P G x.b e.2.1 v e.2.2 l1 l2 ↔ l2[e.2.2.length]? = some (.cells cs.length cs) := fun l2 => by
      rw [hb, hl]; simp only [stillP, hm]; rw [List.getElem?_append_right (Nat.le_refl _)]; simp
     have := goStill ht (fun l2 x0 h => by rw [hst] at h ⊢; rw [List.getElem?_append_left (get_lt h)]; exact h) (by rw [hst, hl, List.getElem?_append_right (Nat.le_refl _)]; simp)
     rw [hst] at this
     show (HL (heapAt es l' q)).f (HL e.2.2).n = _
     rw [HL_f, HL_n, this]
 have := Ev.drawSeq (id := id) ot hd tk
 rw [List.length_map, tr.at.2] at this
 exact this
end
section
variable {P : Program} {G : Nat → CV}
theorem allOk_of {ops : Array Oper} {f : Nat → Option Stp} : ∀ {is : List Nat} {s : List Stp} {os : List Oper}, (∀ i x, f i = some x → ∃ o, StpOk P ops x o ∧ x.i = i) → is.mapM f = some s → is.map (fun i => ops[i]?) = os.map some → AllOk P ops s os
 | [], s, os, hf, h, ho => by
  simp at h; subst h
  cases os with
  | nil => exact .nil
  | cons => simp at ho
 | i :: is, s, os, hf, h, ho => by
  rw [List.mapM_cons] at h
  simp only [Option.bind_eq_bind, bind_some, Option.pure_def, Option.some.injEq] at h
  obtain ⟨x, h1, s', h2, rfl⟩ := h
  cases os with
  | nil => simp at ho
  | cons o os =>
   simp only [List.map_cons, List.cons.injEq] at ho
   obtain ⟨o', ok, hi⟩ := hf i x h1
   have : o' = o := by have := ok.here; rw [hi, ho.1] at this; exact (Option.some.inj this).symm
   subst this
   exact .cons ok (allOk_of hf h2 ho.2)
theorem compReg_ok {N N' id : Nat} (hN : N ≤ N') {ops : Array Oper} {draw : Bool} {c : Cd} (hc : compReg P N ops draw = some c) {σ : Sg} {l : Hl} {K : KC} (h : run P G c σ l K) :
  ∃ e σ' l', Ev P G (.code (.region id ops draw) N' σ (HL l) e σ' (HL l')) ∧ l.length ≤ l'.length ∧ K e σ' l' := by
 unfold compReg at hc
 split at hc
 ·cases hc
 ·rename_i hdst
  have hd : ∀ (i : Nat) (o : Oper), ops[i]? = some o → dstOk N' o.dst = true := fun i o ho => by
   rw [List.all_eq_true] at hdst
   have := hdst o (by simpa using Array.mem_of_getElem? ho)
   unfold dstOk at this ⊢
   split at this
   ·rename_i d _; exact decide_eq_true (Nat.lt_of_lt_of_le (of_decide_eq_true this) hN)
   ·rfl
  split at hc
  ·rw [map_some] at hc
   obtain ⟨s, h1, rfl⟩ := hc
   have hall : AllOk P ops s ops.toList := by
    refine allOk_of (fun i x hx => ?_) h1 ?_
    ·obtain ⟨o, h2, h3, _⟩ := stpOf_ok hx; exact ⟨o, h2, h3⟩
    ·apply List.ext_getElem?
     intro p
     rw [List.getElem?_map, List.getElem?_map]
     by_cases hp : p < ops.size
     ·rw [List.getElem?_range hp]; simp [hp]
     ·rw [List.getElem?_eq_none (by simp; omega), List.getElem?_eq_none (by simp; omega)]; rfl
   obtain ⟨σ', l', h2, h3, h4⟩ := runS_ok hd hall h
   exact ⟨.normal, σ', l', .region h2, h3, h4⟩
  ·simp only at hc
   split at hc
   ·cases hc
   ·rename_i hchk
    simp only [Bool.and_eq_true] at hchk
    split at hc
    ·cases hc
    ·rename_i s hs
     have hok : ∀ x ∈ s, ∃ o, StpOk P ops x o := fun x hx => by
      obtain ⟨p, hp⟩ := List.getElem?_of_mem hx
      obtain ⟨a, _, h2⟩ := mapM_get hs p x hp
      obtain ⟨o, h3, _⟩ := stpOf_ok h2
      exact ⟨o, h3⟩
     have fin : runD P G s σ l [] (K .normal) → ∃ e σ' l', Ev P G (.code (.region id ops true) N' σ (HL l) e σ' (HL l')) ∧ l.length ≤ l'.length ∧ K e σ' l' := fun h => by
      obtain ⟨es, σ', l', h1, h2⟩ := runD_tr hok h
      exact ⟨.normal, σ', l', draw_tr hd hchk.1 hchk.2 hs h1, h1.len, h2⟩
     split at hc
     ·rename_i hask
      cases hc
      refine fin (runS_D (fun x hx => ?_) h)
      obtain ⟨p, hp⟩ := List.getElem?_of_mem hx
      obtain ⟨a, _, h2⟩ := mapM_get hs p x hp
      obtain ⟨o, _, _, _, h3⟩ := stpOf_ok h2
      rw [h3, hask]; rfl
     ·cases hc
      exact fin h
theorem run_ok {N N' : Nat} (hN : N ≤ N') : ∀ (code : Code) (c : Cd), comp P N code = some c → ∀ (σ : Sg) (l : Hl) (K : KC), run P G c σ l K →
  ∃ e σ' l', Ev P G (.code code N' σ (HL l) e σ' (HL l')) ∧ l.length ≤ l'.length ∧ K e σ' l' := by
 intro code
 induction code with
 | skip => intro c hc σ l K h; cases hc; exact ⟨_, _, _, .skip _ _ _, Nat.le_refl _, h⟩
 | label n => intro c hc σ l K h; cases hc; exact ⟨_, _, _, .label _ _ _ _, Nat.le_refl _, h⟩
 | ret => intro c hc σ l K h; cases hc; exact ⟨_, _, _, .ret _ _ _, Nat.le_refl _, h⟩
 | exit id => intro c hc σ l K h; cases hc; exact ⟨_, _, _, .exit _ _ _ _, Nat.le_refl _, h⟩
 | region id ops draw => intro c hc σ l K h; exact compReg_ok hN hc h
 | seq a b iha ihb =>
  intro c hc σ l K h
  have mk : ∀ (ca cb : Cd), comp P N a = some ca → comp P N b = some cb → run P G ca σ l (kSeq (fun σ l => run P G cb σ l K) K) → ∃ e σ' l', Ev P G (.code (.seq a b) N' σ (HL l) e σ' (HL l')) ∧ l.length ≤ l'.length ∧ K e σ' l' := by
   intro ca cb ha hb h
   obtain ⟨e, σ1, l1, h1, h2, h3⟩ := iha ca ha σ l _ h
   cases e with
   | normal =>
    obtain ⟨e, σ2, l2, h4, h5, h6⟩ := ihb cb hb σ1 l1 K h3
    exact ⟨e, σ2, l2, .seqN h1 h4, Nat.le_trans h2 h5, h6⟩
   | exit id => exact ⟨_, σ1, l1, .seqX h1 (by intro h; cases h), h2, h3⟩
   | ret => exact ⟨_, σ1, l1, .seqX h1 (by intro h; cases h), h2, h3⟩
  simp only [comp] at hc
  split at hc
  ·rename_i b' ha hb
   cases hc
   exact mk _ _ ha hb h
  ·rename_i a' _ ha hb
   cases hc
   refine mk _ _ ha hb ?_
   have : kSeq (fun σ l => run P G .skip σ l K) K = K := by
    funext e σ l
    cases e <;> rfl
   rw [this]; exact h
  ·rename_i a' b' _ _ ha hb
   cases hc
   exact mk _ _ ha hb h
  ·cases hc
 | cond c x y ihx ihy =>
  intro cd hc σ l K h
  simp only [comp] at hc
  split at hc
  ·rename_i x' y' hx hy
   cases hc
   simp only [run, kCond] at h
   split at h
   ·rename_i b hb
    rw [kIf_iff] at h
    rcases h with ⟨rfl, h⟩ | ⟨rfl, h⟩
    ·obtain ⟨e, σ1, l1, h1, h2, h3⟩ := ihx x' hx σ l K h
     exact ⟨e, σ1, l1, .cond hb h1, h2, h3⟩
    ·obtain ⟨e, σ1, l1, h1, h2, h3⟩ := ihy y' hy σ l K h
     exact ⟨e, σ1, l1, .cond hb h1, h2, h3⟩
   ·cases h
  ·cases hc
 | block id c ih =>
  intro cd hc σ l K h
  simp only [comp, map_some] at hc
  obtain ⟨c', h1, rfl⟩ := hc
  obtain ⟨e, σ1, l1, h2, h3, h4⟩ := ih c' h1 σ l _ h
  cases e with
  | normal => exact ⟨_, σ1, l1, .blockN h2 (by intro h; cases h), h3, h4⟩
  | ret => exact ⟨_, σ1, l1, .blockN h2 (by intro h; cases h), h3, h4⟩
  | exit id' =>
   simp only [kBlock] at h4
   split at h4
   ·rename_i hb
    obtain rfl := nbeq_eq hb
    exact ⟨_, σ1, l1, .blockX h2, h3, h4⟩
   ·rename_i hb
    exact ⟨_, σ1, l1, .blockN h2 (by intro h; cases h; rw [Nat.beq_refl] at hb; cases hb), h3, h4⟩
 | loop c ih =>
  intro cd hc σ l K h
  simp only [comp, map_some] at hc
  obtain ⟨c', h1, rfl⟩ := hc
  obtain ⟨n, h⟩ := h
  induction n generalizing σ l with
  | zero => cases h
  | succ n ihn =>
   obtain ⟨e, σ1, l1, h2, h3, h4⟩ := ih c' h1 σ l _ h
   cases e with
   | normal =>
    obtain ⟨e, σ2, l2, h5, h6, h7⟩ := ihn σ1 l1 h4
    exact ⟨e, σ2, l2, .loopN h2 h5, Nat.le_trans h3 h6, h7⟩
   | exit id => exact ⟨_, σ1, l1, .loopX h2 (by intro h; cases h), h3, h4⟩
   | ret => exact ⟨_, σ1, l1, .loopX h2 (by intro h; cases h), h3, h4⟩
 | scope c ih =>
  intro cd hc σ l K h
  obtain ⟨e, σ1, l1, h2, h3, h4⟩ := ih cd hc σ l K h
  exact ⟨e, σ1, l1, .scope h2, h3, h4⟩
 | _ => intro c hc; cases hc
def compR (P : Program) : ResultVar → Option Mo
 | .tmp t => some (.mv (.tmp t))
 | .cell a t => compOp P (.load t (.tmp a))
def compRs (P : Program) (f : FuncId) : Option (List Mo) := match P.funcs[f]? with
 | some fn => fn.results.toList.mapM (compR P)
 | none => none
def kRes (P : Program) (G : Nat → CV) (K : CV → Hl → Prop) (σ : Sg) (l : Hl) : List Mo → List CV → Prop
 | [], acc => K (tuple1 acc) l
 | m :: r, acc => W (mstep P (ev G σ) l m) (c := ⟨fun x => kRes P G K σ l r (acc ++ [x.1])⟩)
def kEnd (P : Program) (G : Nat → CV) (ms : List Mo) (K : CV → Hl → Prop) : KC := fun e σ l => match e with
 | .exit _ => False
 | .normal => kRes P G K σ l ms []
 | .ret => kRes P G K σ l ms []
def argsS (args : List CV) : Sg := fun t => args.getD t undefC
theorem kRes_ok {K : CV → Hl → Prop} {σ : Sg} {l : Hl} : ∀ {rs : List ResultVar} {ms : List Mo} {acc : List CV}, rs.mapM (compR P) = some ms → kRes P G K σ l ms acc → ∃ vs, resList P (HL l) σ rs = some vs ∧ K (tuple1 (acc ++ vs)) l
 | [], ms, acc, hm, h => by simp at hm; subst hm; exact ⟨[], rfl, by simpa [kRes] using h⟩
 | r :: rs, ms, acc, hm, h => by
  rw [List.mapM_cons] at hm
  simp only [Option.bind_eq_bind, bind_some, Option.pure_def, Option.some.injEq] at hm
  obtain ⟨m, h1, ms', h2, rfl⟩ := hm
  simp only [kRes, W_iff] at h
  obtain ⟨⟨v, l1⟩, h3, h4⟩ := h
  obtain ⟨vs, h5, h6⟩ := kRes_ok h2 h4
  refine ⟨v :: vs, ?_, by simpa using h6⟩
  have : resOne P (HL l) σ r = some v := by
   cases r with
   | tmp t => cases h1; simp only [mstep, Option.some.injEq, Prod.mk.injEq] at h3; rw [← h3.1]; rfl
   | cell a t =>
    have h1' : compOp P (.load t (.tmp a)) = some m := h1
    have := mstep_ok h1' h3
    simp only [stepC] at this
    unfold resOne
    show loadC P (HL l) t (ev G σ (.tmp a)) = some v
    cases hl : loadC P (HL l) t (ev G σ (.tmp a)) with
    | none => rw [hl] at this; cases this
    | some x => rw [hl] at this; simp only [Option.map_some, Option.some.injEq, Res.val.injEq] at this; rw [this.1]
  simp only [resList, this, h5]
theorem call_intro {f : FuncId} {c : Cd} {ms : List Mo} (hc : compF P f = some c) (hr : compRs P f = some ms) {args : List CV} {l : Hl} {K : Kv}
  (h : run P G c (argsS args) l (kEnd P G ms K.k)) : CallP P G f args l (c := K) := by
 unfold compF at hc
 unfold compRs at hr
 split at hc
 ·rename_i fn hfn
  split at hc
  ·rename_i body hb
   rw [hfn] at hr
   obtain ⟨e, σ', l', h1, h2, h3⟩ := run_ok (N' := args.length + (fn.ntmps - args.length)) (by omega) body c hc _ _ _ h
   have fin : (e = .normal ∨ e = .ret) → kRes P G K.k σ' l' ms [] → CallP P G f args l (c := K) := fun he h3 => by
    obtain ⟨vs, h4, h5⟩ := kRes_ok hr h3
    exact ⟨tuple1 vs, l', .inline hfn hb h1 he (by simp only [resC, h4]; rfl), h2, by simpa using h5⟩
   cases e with
   | normal => exact fin (.inl rfl) h3
   | ret => exact fin (.inr rfl) h3
   | exit id => cases h3
  ·cases hc
 ·cases hc
theorem stp_mono {b : Bd} {σ : Sg} {l : Hl} {K K' : CV → Hl → Prop} (hK : ∀ v l, K v l → K' v l) (h : stp P G b σ l K) : stp P G b σ l K' := by
 cases b with
 | mo m => simp only [stp, W_iff] at h ⊢; obtain ⟨v, h1, h2⟩ := h; exact ⟨v, h1, keep_mono hK h2⟩
 | callF f args => obtain ⟨r, l', h1, h2, h3⟩ := h; exact ⟨r, l', h1, h2, hK _ _ h3⟩
 | callV x args =>
  simp only [stp, callVP] at h ⊢
  split at h
  ·obtain ⟨h0, r, l', h1, h2, h3⟩ := h; exact ⟨h0, r, l', h1, h2, hK _ _ h3⟩
  ·cases h
 | callI x name args =>
  simp only [stp, callIP] at h ⊢
  split at h
  ·split at h
   ·obtain ⟨h0, r, l', h1, h2, h3⟩ := h; exact ⟨h0, r, l', h1, h2, hK _ _ h3⟩
   ·cases h
  ·cases h
theorem kGo_mono {σ : Sg} {g : Option (Option Tmp × Bool)} {p q p' q' : Prop} (hp : p → p') (hq : q → q') (h : kGo σ g p q) : kGo σ g p' q' := by
 unfold kGo at h ⊢
 split at h
 ·exact hp h
 ·simp only [kG] at h ⊢
  split at h
  ·rw [kIf_iff] at h ⊢
   rcases h with ⟨a, b⟩ | ⟨a, b⟩
   ·exact .inl ⟨a, hp b⟩
   ·exact .inr ⟨a, hq b⟩
  ·cases h
  ·exact hq h
 ·exact hq h
theorem runS_mono {K K' : Sg → Hl → Prop} (hK : ∀ σ l, K σ l → K' σ l) : ∀ {s : List Stp} {σ : Sg} {l : Hl}, runS P G s σ l K → runS P G s σ l K'
 | [], _, _, h => hK _ _ h
 | s :: r, _, _, h => kGo_mono (stp_mono fun _ _ h => runS_mono hK h) (fun h => runS_mono hK h) h
theorem runD_mono {K K' : Sg → Hl → Prop} (hK : ∀ σ l, K σ l → K' σ l) : ∀ {s : List Stp} {σ : Sg} {l : Hl} {seen : Seen}, runD P G s σ l seen K → runD P G s σ l seen K'
 | [], _, _, _, h => hK _ _ h
 | s :: r, _, _, _, h => kGo_mono (stp_mono fun _ _ h => ⟨h.1, runD_mono hK h.2⟩) (fun h => runD_mono hK h) h
theorem kSeq_mono {k k' : Sg → Hl → Prop} {K K' : KC} (hk : ∀ σ l, k σ l → k' σ l) (hK : ∀ e σ l, K e σ l → K' e σ l) : ∀ e σ l, kSeq k K e σ l → kSeq k' K' e σ l := by
 intro e σ l h; cases e <;> first | exact hk _ _ h | exact hK _ _ _ h
theorem run_mono : ∀ {c : Cd} {σ : Sg} {l : Hl} {K K' : KC}, (∀ e σ l, K e σ l → K' e σ l) → run P G c σ l K → run P G c σ l K' := by
 intro c
 induction c with
 | skip => intro σ l K K' hK h; exact hK _ _ _ h
 | ret => intro σ l K K' hK h; exact hK _ _ _ h
 | exit id => intro σ l K K' hK h; exact hK _ _ _ h
 | reg s => intro σ l K K' hK h; exact runS_mono (hK _) h
 | dreg s => intro σ l K K' hK h; exact runD_mono (hK _) h
 | seq a b iha ihb => intro σ l K K' hK h; exact iha (kSeq_mono (fun σ l h => ihb hK h) hK) h
 | cond c x y ihx ihy =>
  intro σ l K K' hK h
  simp only [run, kCond] at h ⊢
  split at h
  ·rw [kIf_iff] at h ⊢
   rcases h with ⟨a, b⟩ | ⟨a, b⟩
   ·exact .inl ⟨a, ihx hK b⟩
   ·exact .inr ⟨a, ihy hK b⟩
  ·cases h
 | block id c ih =>
  intro σ l K K' hK h
  refine ih (fun e σ l h => ?_) h
  cases e with
  | normal => exact hK _ _ _ h
  | ret => exact hK _ _ _ h
  | exit id' =>
   simp only [kBlock] at h ⊢
   split at h
   ·exact hK _ _ _ h
   ·exact hK _ _ _ h
 | loop c ih =>
  intro σ l K K' hK h
  obtain ⟨n, h⟩ := h
  refine ⟨n, ?_⟩
  induction n generalizing σ l with
  | zero => cases h
  | succ n ihn => exact ih (kSeq_mono (fun σ l h => ihn h) hK) h
theorem CallP.mono {f : FuncId} {args : List CV} {l : Hl} {K K' : Kv} (hK : ∀ v l, K.k v l → K'.k v l) (h : CallP P G f args l (c := K)) : CallP P G f args l (c := K') := by
 obtain ⟨r, l', h1, h2, h3⟩ := h; exact ⟨r, l', h1, h2, hK _ _ h3⟩
theorem loop_fall {c : Cd} {K : Kc} (I : Nat → Sg → Hl → Prop) (step : ∀ n σ l, I n σ l → run P G c σ l (kSeq (fun σ l => ∃ n', n' < n ∧ I n' σ l) K.k)) : ∀ n σ l, I n σ l → LoopP (run P G c) σ l (c := K) := by
 intro n
 induction n using Nat.strongRecOn with
 | _ n ih =>
  intro σ l h
  -- fuel n + 1 is enough
  have go : ∀ (m n : Nat), n ≤ m → ∀ σ l, I n σ l → loopN (run P G c) (m + 1) σ l K.k := by
   intro m
   induction m with
   | zero =>
    intro n hn σ l h
    obtain rfl : n = 0 := by omega
    exact run_mono (kSeq_mono (fun σ l ⟨n', h1, _⟩ => by omega) (fun _ _ _ h => h)) (step 0 σ l h)
   | succ m ihm =>
    intro n hn σ l h
    exact run_mono (kSeq_mono (fun σ l ⟨n', h1, h2⟩ => ihm n' (by omega) σ l h2) (fun _ _ _ h => h)) (step n σ l h)
  exact ⟨n + 1, go n n (Nat.le_refl _) σ l h⟩
theorem loop_up {c : Cd} {K : Kc} (n : Nat) (I : Nat → Sg → Hl → Prop) (step : ∀ k σ l, k ≤ n → I k σ l → run P G c σ l (kSeq (fun σ l => k < n ∧ I (k + 1) σ l) K.k)) {σ : Sg} {l : Hl} (h : I 0 σ l) : LoopP (run P G c) σ l (c := K) := by
 refine loop_fall (fun m σ l => ∃ k, k + m = n ∧ I k σ l) (fun m σ l ⟨k, hk, h⟩ => ?_) n σ l ⟨0, by omega, h⟩
 exact run_mono (kSeq_mono (fun σ l ⟨h1, h2⟩ => ⟨m - 1, by omega, k + 1, by omega, h2⟩) (fun _ _ _ h => h)) (step k σ l (by omega) h)
end
section
variable {P : Program} {G : Nat → CV}
@[simp ↓] theorem run_skip (σ : Sg) (l : Hl) (K : KC) : run P G .skip σ l K = K .normal σ l := id rfl
@[simp ↓] theorem run_ret (σ : Sg) (l : Hl) (K : KC) : run P G .ret σ l K = K .ret σ l := id rfl
@[simp ↓] theorem run_exit (i : Nat) (σ : Sg) (l : Hl) (K : KC) : run P G (.exit i) σ l K = K (.exit i) σ l := id rfl
@[simp ↓] theorem run_reg (s : List Stp) (σ : Sg) (l : Hl) (K : KC) : run P G (.reg s) σ l K = runS P G s σ l (K .normal) := id rfl
@[simp ↓] theorem run_dreg (s : List Stp) (σ : Sg) (l : Hl) (K : KC) : run P G (.dreg s) σ l K = runD P G s σ l [] (K .normal) := id rfl
@[simp ↓] theorem run_seq (a b : Cd) (σ : Sg) (l : Hl) (K : KC) : run P G (.seq a b) σ l K = run P G a σ l (kSeq (fun σ l => run P G b σ l K) K) := id rfl
@[simp ↓] theorem run_cond (c : Operand) (x y : Cd) (σ : Sg) (l : Hl) (K : KC) : run P G (.cond c x y) σ l K = kCond (ev G σ c) (c := ⟨run P G x σ l K, run P G y σ l K⟩) := id rfl
@[simp ↓] theorem run_block (i : Nat) (c : Cd) (σ : Sg) (l : Hl) (K : KC) : run P G (.block i c) σ l K = run P G c σ l (kBlock i K) := id rfl
@[simp ↓] theorem run_loop (c : Cd) (σ : Sg) (l : Hl) (K : KC) : run P G (.loop c) σ l K = LoopP (run P G c) σ l (c := ⟨K⟩) := id rfl
@[simp ↓] theorem kSeq_n (k : Sg → Hl → Prop) (K : KC) (σ : Sg) (l : Hl) : kSeq k K .normal σ l = k σ l := id rfl
@[simp ↓] theorem kSeq_e (k : Sg → Hl → Prop) (K : KC) (i : Nat) (σ : Sg) (l : Hl) : kSeq k K (.exit i) σ l = K (.exit i) σ l := id rfl
@[simp ↓] theorem kSeq_r (k : Sg → Hl → Prop) (K : KC) (σ : Sg) (l : Hl) : kSeq k K .ret σ l = K .ret σ l := id rfl
@[simp ↓] theorem kBlock_n (i : Nat) (K : KC) (σ : Sg) (l : Hl) : kBlock i K .normal σ l = K .normal σ l := id rfl
@[simp ↓] theorem kBlock_r (i : Nat) (K : KC) (σ : Sg) (l : Hl) : kBlock i K .ret σ l = K .ret σ l := id rfl
def kEx (p : Prop) [Decidable p] [c : Pq] : Prop := if p then c.p else c.q
@[simp ↓] theorem kBlock_e (i j : Nat) (K : KC) (σ : Sg) (l : Hl) : kBlock i K (.exit j) σ l = kEx (j = i) (c := ⟨K .normal σ l, K (.exit j) σ l⟩) := by
 unfold kBlock kEx
 by_cases h : j = i
 ·simp only [nbeq_true h, if_pos h]
 ·simp only [nbeq_false h, if_neg h]
@[simp ↓] theorem kEx_same (i : Nat) (x y : Prop) : kEx (i = i) (c := ⟨x, y⟩) = x := by simp [kEx]
@[simp] theorem kEx_true (x y : Prop) : kEx True (c := ⟨x, y⟩) = x := by simp [kEx]
@[simp] theorem kEx_false (x y : Prop) : kEx False (c := ⟨x, y⟩) = y := by simp [kEx]
@[simp ↓] theorem kEnd_n (ms : List Mo) (K : CV → Hl → Prop) (σ : Sg) (l : Hl) : kEnd P G ms K .normal σ l = kRes P G K σ l ms [] := id rfl
@[simp ↓] theorem kEnd_r (ms : List Mo) (K : CV → Hl → Prop) (σ : Sg) (l : Hl) : kEnd P G ms K .ret σ l = kRes P G K σ l ms [] := id rfl
@[simp ↓] theorem kRes_nil (K : CV → Hl → Prop) (σ : Sg) (l : Hl) (acc : List CV) : kRes P G K σ l [] acc = K (tuple1 acc) l := id rfl
@[simp ↓] theorem kRes_cons (K : CV → Hl → Prop) (σ : Sg) (l : Hl) (m : Mo) (r : List Mo) (acc : List CV) : kRes P G K σ l (m :: r) acc = W (mstep P (ev G σ) l m) (c := ⟨fun x => kRes P G K σ l r (acc ++ [x.1])⟩) := id rfl
@[simp] theorem tuple1_1 (v : CV) : tuple1 [v] = v := id rfl
@[simp] theorem tuple1_2 (v w : CV) (r : List CV) : tuple1 (v :: w :: r) = .tu (v :: w :: r) := id rfl
@[simp ↓] theorem runS_nil (σ : Sg) (l : Hl) (K : Sg → Hl → Prop) : runS P G [] σ l K = K σ l := id rfl
@[simp ↓] theorem runS_mo (i : Nat) (dst : Option Tmp) (m : Mo) (c : List Nat) (k : Bool) (r : List Stp) (σ : Sg) (l : Hl) (K : Sg → Hl → Prop) :
  runS P G (⟨i, dst, none, .mo m, c, k⟩ :: r) σ l K = W (mstep P (ev G σ) l m) (c := ⟨fun x => keepK m x.1 x.2 fun v l' => runS P G r (putC σ dst v) l' K⟩) := id rfl
@[simp ↓] theorem runS_callF (i : Nat) (dst : Option Tmp) (f : FuncId) (args : List Operand) (c : List Nat) (k : Bool) (r : List Stp) (σ : Sg) (l : Hl) (K : Sg → Hl → Prop) :
  runS P G (⟨i, dst, none, .callF f args, c, k⟩ :: r) σ l K = CallP P G f (args.map (ev G σ)) l (c := ⟨fun v l' => runS P G r (putC σ dst v) l' K⟩) := id rfl
@[simp ↓] theorem runS_callV (i : Nat) (dst : Option Tmp) (x : Operand) (args : List Operand) (c : List Nat) (k : Bool) (r : List Stp) (σ : Sg) (l : Hl) (K : Sg → Hl → Prop) :
  runS P G (⟨i, dst, none, .callV x args, c, k⟩ :: r) σ l K = callVP P G (ev G σ x) (args.map (ev G σ)) l (c := ⟨fun v l' => runS P G r (putC σ dst v) l' K⟩) := id rfl
@[simp ↓] theorem runS_callI (i : Nat) (dst : Option Tmp) (x : Operand) (name : String) (args : List Operand) (c : List Nat) (k : Bool) (r : List Stp) (σ : Sg) (l : Hl) (K : Sg → Hl → Prop) :
  runS P G (⟨i, dst, none, .callI x name args, c, k⟩ :: r) σ l K = callIP P G name (ev G σ x) (args.map (ev G σ)) l (c := ⟨fun v l' => runS P G r (putC σ dst v) l' K⟩) := id rfl
@[simp ↓] theorem callIP_ifc (name : String) (t : TypeId) (v : CV) (args : List CV) (l : Hl) (c : Kv) :
  callIP P G name (.ifc t v) args l (c := c) = (match methC P t name with | some g => funOkB P g = true ∧ CallP P G g (v :: args) l (c := c) | none => False) := id rfl
@[simp ↓] theorem runS_g (i : Nat) (dst : Option Tmp) (d : Tmp) (w : Bool) (b : Bd) (c : List Nat) (k : Bool) (r : List Stp) (σ : Sg) (l : Hl) (K : Sg → Hl → Prop) :
  runS P G (⟨i, dst, some (some d, w), b, c, k⟩ :: r) σ l K = kG (σ d) w (c := ⟨runS P G (⟨i, dst, none, b, c, k⟩ :: r) σ l K, runS P G r (putC σ dst undefC) l K⟩) := id rfl
@[simp ↓] theorem runD_nil (σ : Sg) (l : Hl) (seen : Seen) (K : Sg → Hl → Prop) : runD P G [] σ l seen K = K σ l := id rfl
@[simp ↓] theorem runD_mo (i : Nat) (dst : Option Tmp) (m : Mo) (c : List Nat) (k : Bool) (r : List Stp) (σ : Sg) (l : Hl) (seen : Seen) (K : Sg → Hl → Prop) :
  runD P G (⟨i, dst, none, .mo m, c, k⟩ :: r) σ l seen K = W (mstep P (ev G σ) l m) (c := ⟨fun x => keepK m x.1 x.2 fun v l' => chks c seen l' ∧ runD P G r (putC σ dst v) l' (seenAdd k i (stillP P G (.mo m) σ v l l') seen) K⟩) := id rfl
@[simp ↓] theorem runD_callF (i : Nat) (dst : Option Tmp) (f : FuncId) (args : List Operand) (c : List Nat) (k : Bool) (r : List Stp) (σ : Sg) (l : Hl) (seen : Seen) (K : Sg → Hl → Prop) :
  runD P G (⟨i, dst, none, .callF f args, c, k⟩ :: r) σ l seen K = CallP P G f (args.map (ev G σ)) l (c := ⟨fun v l' => chks c seen l' ∧ runD P G r (putC σ dst v) l' (seenAdd k i (fun _ => True) seen) K⟩) := id rfl
@[simp ↓] theorem runD_callV (i : Nat) (dst : Option Tmp) (x : Operand) (args : List Operand) (c : List Nat) (k : Bool) (r : List Stp) (σ : Sg) (l : Hl) (seen : Seen) (K : Sg → Hl → Prop) :
  runD P G (⟨i, dst, none, .callV x args, c, k⟩ :: r) σ l seen K = callVP P G (ev G σ x) (args.map (ev G σ)) l (c := ⟨fun v l' => chks c seen l' ∧ runD P G r (putC σ dst v) l' (seenAdd k i (fun _ => True) seen) K⟩) := id rfl
@[simp ↓] theorem runD_g (i : Nat) (dst : Option Tmp) (d : Tmp) (w : Bool) (b : Bd) (c : List Nat) (k : Bool) (r : List Stp) (σ : Sg) (l : Hl) (seen : Seen) (K : Sg → Hl → Prop) :
  runD P G (⟨i, dst, some (some d, w), b, c, k⟩ :: r) σ l seen K = kG (σ d) w (c := ⟨runD P G (⟨i, dst, none, b, c, k⟩ :: r) σ l seen K, runD P G r (putC σ dst undefC) l seen K⟩) := id rfl
@[simp] theorem chks_nil (ids : List Nat) (l : Hl) : chks ids [] l = True := id rfl
@[simp] theorem chks_cons (ids : List Nat) (e : Nat × (Hl → Prop)) (r : Seen) (l : Hl) : chks ids (e :: r) l = ((ids.contains e.1 = true → e.2 l) ∧ chks ids r l) := id rfl
@[simp] theorem seenAdd_t (i : Nat) (p : Hl → Prop) (s : Seen) : seenAdd true i p s = (i, p) :: s := id rfl
@[simp] theorem seenAdd_f (i : Nat) (p : Hl → Prop) (s : Seen) : seenAdd false i p s = s := id rfl
@[simp] theorem stillP_mo (m : Mo) (σ : Sg) (v : CV) (l l' l1 : Hl) : stillP P G (.mo m) σ v l l' l1 = (match m.isNew with | true => l1[l.length]? = l'[l.length]? | false => mstep P (ev G σ) l1 m = some (v, l1)) := id rfl
@[simp ↓] theorem keep_mv (x : Operand) (v : CV) (l : Hl) (K : CV → Hl → Prop) : keepK (.mv x) v l K = K v l := id rfl
@[simp ↓] theorem keep_pick (c a b : Operand) (v : CV) (l : Hl) (K : CV → Hl → Prop) : keepK (.pick c a b) v l K = K v l := id rfl
@[simp ↓] theorem keep_alloc (z : List CV) (v : CV) (l : Hl) (K : CV → Hl → Prop) : keepK (.alloc z) v l K = K v l := id rfl
@[simp ↓] theorem keep_box (x : Operand) (v : CV) (l : Hl) (K : CV → Hl → Prop) : keepK (.box x) v l K = K v l := id rfl
@[simp ↓] theorem keep_bld (z : List CV) (ps : List (Nat × Nat × Operand)) (v : CV) (l : Hl) (K : CV → Hl → Prop) : keepK (.bld z ps) v l K = K v l := id rfl
@[simp ↓] theorem keep_bsl (z : Nat) (zero : List CV) (n : Nat) (ps : List (Nat × Operand)) (v : CV) (l : Hl) (K : CV → Hl → Prop) : keepK (.bsl z zero n ps) v l K = K v l := id rfl
@[simp ↓] theorem keep_ld1 (a : Operand) (v : CV) (l : Hl) (K : CV → Hl → Prop) : keepK (.ld1 a) v l K = K v l := id rfl
@[simp ↓] theorem keep_ldA (n : Nat) (a : Operand) (v : CV) (l : Hl) (K : CV → Hl → Prop) : keepK (.ldA n a) v l K = K v l := id rfl
@[simp ↓] theorem keep_st (n : Nat) (a x : Operand) (v : CV) (l : Hl) (K : CV → Hl → Prop) : keepK (.st n a x) v l K = K v l := id rfl
@[simp ↓] theorem keep_nilc (x : Operand) (v : CV) (l : Hl) (K : CV → Hl → Prop) : keepK (.nilc x) v l K = K v l := id rfl
@[simp ↓] theorem keep_bin (o : BinOp) (t : TypeId) (x y : Operand) (v : CV) (l : Hl) (K : CV → Hl → Prop) : keepK (.bin o t x y) v l K = K v l := id rfl
@[simp ↓] theorem keep_un (o : UnOp) (x : Operand) (v : CV) (l : Hl) (K : CV → Hl → Prop) : keepK (.un o x) v l K = K v l := id rfl
@[simp ↓] theorem keep_cint (k : IntKind) (x : Operand) (v : CV) (l : Hl) (K : CV → Hl → Prop) : keepK (.cint k x) v l K = K v l := id rfl
@[simp ↓] theorem keep_cstr (x : Operand) (v : CV) (l : Hl) (K : CV → Hl → Prop) : keepK (.cstr x) v l K = K v l := id rfl
@[simp ↓] theorem keep_cbs (x : Operand) (v : CV) (l : Hl) (K : CV → Hl → Prop) : keepK (.cbs x) v l K = K v l := id rfl
@[simp ↓] theorem keep_csb (x : Operand) (v : CV) (l : Hl) (K : CV → Hl → Prop) : keepK (.csb x) v l K = K v l := id rfl
@[simp ↓] theorem keep_mkI (t : TypeId) (x : Operand) (v : CV) (l : Hl) (K : CV → Hl → Prop) : keepK (.mkI t x) v l K = K v l := id rfl
@[simp ↓] theorem keep_tas (t : TypeId) (z : CV) (ok : Bool) (x : Operand) (v : CV) (l : Hl) (K : CV → Hl → Prop) : keepK (.tas t z ok x) v l K = K v l := id rfl
@[simp ↓] theorem keep_mkF (f : FuncId) (a b : List Operand) (v : CV) (l : Hl) (K : CV → Hl → Prop) : keepK (.mkF f a b) v l K = K v l := id rfl
@[simp ↓] theorem keep_mks (z b : Nat) (zero : List CV) (x y : Operand) (v : CV) (l : Hl) (K : CV → Hl → Prop) : keepK (.mks z b zero x y) v l K = K v l := id rfl
@[simp ↓] theorem keep_slice (ti : TI) (x : Operand) (lo hi mx : Option Operand) (v : CV) (l : Hl) (K : CV → Hl → Prop) : keepK (.slice ti x lo hi mx) v l K = K v l := id rfl
@[simp ↓] theorem keep_fa (n : Nat) (x : Operand) (v : CV) (l : Hl) (K : CV → Hl → Prop) : keepK (.fa n x) v l K = K v l := id rfl
@[simp ↓] theorem keep_fld1 (n : Nat) (x : Operand) (v : CV) (l : Hl) (K : CV → Hl → Prop) : keepK (.fld1 n x) v l K = K v l := id rfl
@[simp ↓] theorem keep_fldA (n m : Nat) (x : Operand) (v : CV) (l : Hl) (K : CV → Hl → Prop) : keepK (.fldA n m x) v l K = K v l := id rfl
@[simp ↓] theorem keep_ia (ti : TI) (x y : Operand) (v : CV) (l : Hl) (K : CV → Hl → Prop) : keepK (.ia ti x y) v l K = K v l := id rfl
@[simp ↓] theorem keep_ix1 (n z : Nat) (x y : Operand) (v : CV) (l : Hl) (K : CV → Hl → Prop) : keepK (.ix1 n z x y) v l K = K v l := id rfl
@[simp ↓] theorem keep_ixA (n z : Nat) (x y : Operand) (v : CV) (l : Hl) (K : CV → Hl → Prop) : keepK (.ixA n z x y) v l K = K v l := id rfl
@[simp ↓] theorem keep_ixT (x y : Operand) (v : CV) (l : Hl) (K : CV → Hl → Prop) : keepK (.ixT x y) v l K = K v l := id rfl
@[simp ↓] theorem keep_ext (x : Operand) (n : Nat) (v : CV) (l : Hl) (K : CV → Hl → Prop) : keepK (.ext x n) v l K = K v l := id rfl
@[simp ↓] theorem keep_len (ti : TI) (x : Operand) (v : CV) (l : Hl) (K : CV → Hl → Prop) : keepK (.len ti x) v l K = K v l := id rfl
@[simp ↓] theorem keep_cap (ti : TI) (x : Operand) (v : CV) (l : Hl) (K : CV → Hl → Prop) : keepK (.cap ti x) v l K = K v l := id rfl
@[simp ↓] theorem keep_appZ (z b : Nat) (zero : List CV) (x y : Operand) (v : CV) (l : Hl) (K : CV → Hl → Prop) : keepK (.appZ z b zero x y) v l K = K v l := id rfl
@[simp ↓] theorem keep_cpy (z : Nat) (x y : Operand) (v : CV) (l : Hl) (K : CV → Hl → Prop) : keepK (.cpy z x y) v l K = K v l := id rfl
@[simp ↓] theorem keep_clr (zero : List CV) (x : Operand) (v : CV) (l : Hl) (K : CV → Hl → Prop) : keepK (.clr zero x) v l K = K v l := id rfl
@[simp ↓] theorem keep_min (x y : Operand) (v : CV) (l : Hl) (K : CV → Hl → Prop) : keepK (.min x y) v l K = K v l := id rfl
@[simp ↓] theorem keep_max (x y : Operand) (v : CV) (l : Hl) (K : CV → Hl → Prop) : keepK (.max x y) v l K = K v l := id rfl
@[simp ↓] theorem keep_app (z b : Nat) (x y : Operand) (v : CV) (l : Hl) (K : CV → Hl → Prop) : keepK (.app z b x y) v l K = AppK v l (c := ⟨K⟩) := id rfl
theorem AppK.keep {v : CV} {l : Hl} {K : CV → Hl → Prop} (h : K v l) : AppK v l (c := ⟨K⟩) := .inl h
@[simp] theorem isNew_ld1 (a : Operand) : (Mo.ld1 a).isNew = false := id rfl
@[simp] theorem isNew_ldA (n : Nat) (a : Operand) : (Mo.ldA n a).isNew = false := id rfl
@[simp] theorem isNew_cint (k : IntKind) (a : Operand) : (Mo.cint k a).isNew = false := id rfl
@[simp] theorem isNew_cstr (a : Operand) : (Mo.cstr a).isNew = false := id rfl
@[simp] theorem isNew_cbs (a : Operand) : (Mo.cbs a).isNew = false := id rfl
@[simp] theorem isNew_csb (a : Operand) : (Mo.csb a).isNew = false := id rfl
@[simp] theorem isNew_alloc (z : List CV) : (Mo.alloc z).isNew = true := id rfl
@[simp] theorem isNew_box (a : Operand) : (Mo.box a).isNew = true := id rfl
@[simp] theorem isNew_bsl (z : Nat) (zero : List CV) (n : Nat) (ps : List (Nat × Operand)) : (Mo.bsl z zero n ps).isNew = true := id rfl
@[simp] theorem isNew_mks (z b : Nat) (zero : List CV) (x y : Operand) : (Mo.mks z b zero x y).isNew = true := id rfl
@[simp] theorem pu_eq (l l' : Hl) (x : Option CV) (v : CV) : (pu l x = some (v, l')) = (x = some v ∧ l' = l) := propext pu_some
@[simp ↓] theorem W_some {α : Type} (x : α) (k : α → Prop) : W (some x) (c := ⟨k⟩) = k x := id rfl
@[simp ↓] theorem W_pu (l : Hl) (o : Option CV) (k : CV × Hl → Prop) : W (pu l o) (c := ⟨k⟩) = W o (c := ⟨fun v => k (v, l)⟩) := by unfold W pu; cases o <;> rfl
@[simp ↓] theorem W_map {α β : Type} (o : Option α) (f : α → β) (k : β → Prop) : W (o.map f) (c := ⟨k⟩) = W o (c := ⟨fun v => k (f v)⟩) := by unfold W; cases o <;> rfl
@[simp ↓] theorem W_if {α : Type} (p : Prop) [Decidable p] (x : α) (k : α → Prop) : W (if p then some x else none) (c := ⟨k⟩) = (p ∧ k x) := by unfold W; by_cases h : p <;> simp [h]
@[simp ↓] theorem kCond_b (b : Bool) (p q : Prop) : kCond (.bool b) (c := ⟨p, q⟩) = kIf b (c := ⟨p, q⟩) := id rfl
@[simp ↓] theorem kIf_t (p q : Prop) : kIf true (c := ⟨p, q⟩) = p := id rfl
@[simp ↓] theorem kIf_f (p q : Prop) : kIf false (c := ⟨p, q⟩) = q := id rfl
@[simp ↓] theorem kG_t (b : Bool) (p q : Prop) : kG (.bool b) true (c := ⟨p, q⟩) = kIf b (c := ⟨p, q⟩) := by cases b <;> rfl
@[simp ↓] theorem kG_f (b : Bool) (p q : Prop) : kG (.bool b) false (c := ⟨p, q⟩) = kIf b (c := ⟨q, p⟩) := by cases b <;> rfl
@[simp ↓] theorem kG_u (w : Bool) (p q : Prop) : kG undefC w (c := ⟨p, q⟩) = q := id rfl
@[simp ↓] theorem kG_u' (w : Bool) (p q : Prop) : kG (.tu []) w (c := ⟨p, q⟩) = q := id rfl
theorem kIf_intro {b : Bool} {p q : Prop} (h1 : b = true → p) (h2 : b = false → q) : kIf b (c := ⟨p, q⟩) := by cases b; exact h2 rfl; exact h1 rfl
@[simp ↓] theorem putC_s (σ : Sg) (d : Tmp) (v : CV) : putC σ (some d) v = fupd σ d v := id rfl
@[simp ↓] theorem putC_n (σ : Sg) (v : CV) : putC σ none v = σ := id rfl
@[simp] theorem fupd_at {α : Type} (s : Nat → α) (d : Nat) (v : α) (t : Nat) : fupd s d v t = if t = d then v else s t := id rfl
@[simp] theorem argsS_at (args : List CV) (t : Nat) : argsS args t = args.getD t undefC := id rfl
@[simp] theorem ev_tmp (σ : Sg) (t : Tmp) : ev G σ (.tmp t) = σ t := id rfl
@[simp] theorem ev_func (σ : Sg) (f : FuncId) : ev G σ (.func f) = .fn f [] [] := id rfl
@[simp] theorem ev_global (σ : Sg) (g : Nat) : ev G σ (.global g) = G g := id rfl
@[simp] theorem ev_int (σ : Sg) (k : IntKind) (n : Int) : ev G σ (.const (.int k n)) = .int k n := id rfl
@[simp] theorem ev_bool (σ : Sg) (b : Bool) : ev G σ (.const (.bool b)) = .bool b := id rfl
@[simp] theorem ev_str (σ : Sg) (s : ByteArray) : ev G σ (.const (.string s)) = .str s.data.toList := id rfl
@[simp] theorem ev_nilS (σ : Sg) : ev G σ (.const (.slice none 0 0)) = .nilS := id rfl
@[simp] theorem ev_nilP (σ : Sg) : ev G σ (.const (.pointer none)) = .nilP := id rfl
@[simp] theorem ev_nilM (σ : Sg) : ev G σ (.const (.map none)) = .nilM := id rfl
@[simp] theorem ev_nilF (σ : Sg) : ev G σ (.const .nilFunc) = .nilF := id rfl
@[simp] theorem ev_nilI (σ : Sg) : ev G σ (.const .nilIface) = .nilI := id rfl
@[simp] theorem ev_tuple (σ : Sg) : ev G σ (.const (.tuple #[])) = .tu [] := id rfl
variable (ρ : Operand → CV) (l : Hl)
@[simp ↓] theorem m_mv (x : Operand) : mstep P ρ l (.mv x) = some (ρ x, l) := id rfl
@[simp ↓] theorem m_pick (c a b : Operand) : mstep P ρ l (.pick c a b) = pu l (pickC (ρ c) (ρ a) (ρ b)) := id rfl
@[simp ↓] theorem m_alloc (z : List CV) : mstep P ρ l (.alloc z) = some (.ptr l.length 0 z.length, l ++ [.cells z.length z]) := id rfl
@[simp ↓] theorem m_box (x : Operand) : mstep P ρ l (.box x) = (ρ x).cells.map fun cs => (.ptr l.length 0 cs.length, l ++ [.cells cs.length cs]) := id rfl
@[simp ↓] theorem m_bld (zero : List CV) (ps : List (Nat × Nat × Operand)) : mstep P ρ l (.bld zero ps) = pu l ((bldC zero (ps.map fun p => (p.1, p.2.1, ρ p.2.2))).map .ag) := id rfl
@[simp ↓] theorem m_bsl (z : Nat) (zero : List CV) (len : Nat) (ps : List (Nat × Operand)) : mstep P ρ l (.bsl z zero len ps) = (fillC (fun i => some (i * z, z)) (repeatC zero len) (ps.map fun p => (p.1, ρ p.2))).map fun cs => (.sl z l.length 0 len len (len * z), l ++ [.cells (len * z) cs]) := id rfl
@[simp ↓] theorem m_ld1 (a : Operand) : mstep P ρ l (.ld1 a) = pu l ((reachL l (ρ a)).bind fun x => x.1[x.2]?) := id rfl
@[simp ↓] theorem m_ldA (n : Nat) (a : Operand) : mstep P ρ l (.ldA n a) = pu l ((reachL l (ρ a)).bind fun x => partA n x.1 x.2) := id rfl
@[simp ↓] theorem m_st (n : Nat) (a x : Operand) : mstep P ρ l (.st n a x) = (storeL n l (ρ a) (ρ x)).map fun l' => (undefC, l') := id rfl
@[simp ↓] theorem m_nilc (x : Operand) : mstep P ρ l (.nilc x) = pu l (nilcC (ρ x)) := id rfl
@[simp ↓] theorem m_bin (o : BinOp) (t : TypeId) (x y : Operand) : mstep P ρ l (.bin o t x y) = pu l (binC P o t (ρ x) (ρ y)) := id rfl
@[simp ↓] theorem m_un (o : UnOp) (x : Operand) : mstep P ρ l (.un o x) = pu l (unC o (ρ x)) := id rfl
@[simp ↓] theorem m_cint (k : IntKind) (x : Operand) : mstep P ρ l (.cint k x) = pu l (cintC k (ρ x)) := id rfl
@[simp ↓] theorem m_cstr (x : Operand) : mstep P ρ l (.cstr x) = pu l (cstrC (ρ x)) := id rfl
@[simp ↓] theorem m_cbs (x : Operand) : mstep P ρ l (.cbs x) = pu l (cbsC l (ρ x)) := id rfl
@[simp ↓] theorem m_csb (x : Operand) : mstep P ρ l (.csb x) = pu l (csbC (ρ x)) := id rfl
@[simp ↓] theorem m_mkI (t : TypeId) (x : Operand) : mstep P ρ l (.mkI t x) = some (.ifc t (ρ x), l) := id rfl
@[simp ↓] theorem m_tas (t : TypeId) (z : CV) (ok : Bool) (x : Operand) : mstep P ρ l (.tas t z ok x) = pu l (tasC t z ok (ρ x)) := id rfl
@[simp ↓] theorem m_mkF (f : FuncId) (a b : List Operand) : mstep P ρ l (.mkF f a b) = some (.fn f (a.map ρ) (b.map ρ), l) := id rfl
@[simp ↓] theorem m_mks (z by_ : Nat) (zero : List CV) (a c : Operand) : mstep P ρ l (.mks z by_ zero a c) = mksC z by_ zero l (ρ a) (ρ c) := id rfl
@[simp ↓] theorem m_slice (ti : TI) (x : Operand) (lo hi mx : Option Operand) : mstep P ρ l (.slice ti x lo hi mx) = pu l (sliceM ti (ρ x) (lo.map ρ) (hi.map ρ) (mx.map ρ)) := id rfl
@[simp ↓] theorem m_fa (off : Nat) (x : Operand) : mstep P ρ l (.fa off x) = pu l (cellAt (ρ x) off) := id rfl
@[simp ↓] theorem m_fld1 (off : Nat) (x : Operand) : mstep P ρ l (.fld1 off x) = pu l (fldC1 off (ρ x)) := id rfl
@[simp ↓] theorem m_fldA (n off : Nat) (x : Operand) : mstep P ρ l (.fldA n off x) = pu l (fldCA n off (ρ x)) := id rfl
@[simp ↓] theorem m_ia (ti : TI) (x i : Operand) : mstep P ρ l (.ia ti x i) = pu l (iaC ti (ρ x) (ρ i)) := id rfl
@[simp ↓] theorem m_ix1 (n z : Nat) (x i : Operand) : mstep P ρ l (.ix1 n z x i) = pu l (ixC1 n z (ρ x) (ρ i)) := id rfl
@[simp ↓] theorem m_ixA (n z : Nat) (x i : Operand) : mstep P ρ l (.ixA n z x i) = pu l (ixCA n z (ρ x) (ρ i)) := id rfl
@[simp ↓] theorem m_ixT (x i : Operand) : mstep P ρ l (.ixT x i) = pu l (ixCT (ρ x) (ρ i)) := id rfl
@[simp ↓] theorem m_ext (x : Operand) (i : Nat) : mstep P ρ l (.ext x i) = pu l (extC (ρ x) i) := id rfl
@[simp ↓] theorem m_len (ti : TI) (x : Operand) : mstep P ρ l (.len ti x) = pu l (lenM ti (ρ x)) := id rfl
@[simp ↓] theorem m_cap (ti : TI) (x : Operand) : mstep P ρ l (.cap ti x) = pu l (capM ti (ρ x)) := id rfl
@[simp ↓] theorem m_app (z by_ : Nat) (s x : Operand) : mstep P ρ l (.app z by_ s x) = appM l z by_ (ρ s) (ρ x) := id rfl
@[simp ↓] theorem m_appZ (z by_ : Nat) (zero : List CV) (s x : Operand) : mstep P ρ l (.appZ z by_ zero s x) = appZM l z by_ zero (ρ s) (ρ x) := id rfl
@[simp ↓] theorem m_cpy (z : Nat) (d x : Operand) : mstep P ρ l (.cpy z d x) = copyL z l (ρ d) (ρ x) := id rfl
@[simp ↓] theorem m_clr (zero : List CV) (x : Operand) : mstep P ρ l (.clr zero x) = (clearL zero l (ρ x)).map fun l' => (.tu [], l') := id rfl
@[simp ↓] theorem m_min (x y : Operand) : mstep P ρ l (.min x y) = pu l (min2C (ρ x) (ρ y)) := id rfl
@[simp ↓] theorem m_max (x y : Operand) : mstep P ρ l (.max x y) = pu l (max2C (ρ x) (ρ y)) := id rfl
@[simp] theorem pickC_b (t : Bool) (a b : CV) : pickC (.bool t) a b = some (if t = true then a else b) := id rfl
@[simp] theorem cells_ag (cs : List CV) : (CV.ag cs).cells = some cs := id rfl
@[simp] theorem cells_int (k : IntKind) (n : Int) : (CV.int k n).cells = some [.int k n] := id rfl
@[simp] theorem cells_bool (b : Bool) : (CV.bool b).cells = some [.bool b] := id rfl
@[simp] theorem cells_str (s : List UInt8) : (CV.str s).cells = some [.str s] := id rfl
@[simp] theorem cells_nilS : CV.nilS.cells = some [.nilS] := id rfl
@[simp] theorem cells_nilP : CV.nilP.cells = some [.nilP] := id rfl
@[simp] theorem cells_nilF : CV.nilF.cells = some [.nilF] := id rfl
@[simp] theorem cells_nilM : CV.nilM.cells = some [.nilM] := id rfl
@[simp] theorem cells_rsl (z : Nat) (es : List (List CV)) : (CV.rsl z es).cells = some [.rsl z es] := id rfl
@[simp] theorem cells_sl (z b o n c s : Nat) : (CV.sl z b o n c s).cells = some [.sl z b o n c s] := id rfl
@[simp] theorem cells_ptr (b o s : Nat) : (CV.ptr b o s).cells = some [.ptr b o s] := id rfl
@[simp] theorem cells_fn (f : FuncId) (a b : List CV) : (CV.fn f a b).cells = some [.fn f a b] := id rfl
@[simp] theorem cells_mp (b : Nat) : (CV.mp b).cells = some [.mp b] := id rfl
@[simp] theorem cellAt_ptr (b off sz k : Nat) : cellAt (.ptr b off sz) k = some (.ptr b (off + k) sz) := id rfl
@[simp] theorem cellAt_rptr (cs : List CV) (off k : Nat) : cellAt (.rptr cs off) k = some (.rptr cs (off + k)) := id rfl
@[simp] theorem nilcC_ptr (b o s : Nat) : nilcC (.ptr b o s) = some (.ptr b o s) := id rfl
@[simp] theorem nilcC_rptr (cs : List CV) (o : Nat) : nilcC (.rptr cs o) = some (.rptr cs o) := id rfl
@[simp] theorem nilcC_fn (f : FuncId) (a b : List CV) : nilcC (.fn f a b) = some (.fn f a b) := id rfl
def rch (x : Option CB) (off sz : Nat) : Option (List CV × Nat) := match x with
 | some (.cells n cs) => if n = sz then some (cs, off) else none
 | _ => none
@[simp] theorem reachL_ptr (b off sz : Nat) : reachL l (.ptr b off sz) = rch l[b]? off sz := by
 unfold reachL rch; rfl
@[simp] theorem rch_cells (n : Nat) (cs : List CV) (off sz : Nat) : rch (some (.cells n cs)) off sz = if n = sz then some (cs, off) else none := id rfl
@[simp] theorem reachL_rptr (cs : List CV) (off : Nat) : reachL l (.rptr cs off) = some (cs, off) := id rfl
def sto (n : Nat) (l : Hl) (b off sz : Nat) (vs : List CV) (x : Option CB) : Option Hl := match x with
 | some (.cells m cs) => if m = sz ∧ vs.length = n ∧ off + n ≤ m then some (l.set b (.cells m (splice cs off vs))) else none
 | _ => none
@[simp] theorem storeL_ptr (n b off sz : Nat) (v : CV) : storeL n l (.ptr b off sz) v = v.cells.bind fun vs => sto n l b off sz vs l[b]? := by
 unfold storeL sto
 cases v.cells <;> rfl
@[simp] theorem sto_cells (n b off sz : Nat) (vs : List CV) (m : Nat) (cs : List CV) : sto n l b off sz vs (some (.cells m cs)) = if m = sz ∧ vs.length = n ∧ off + n ≤ m then some (l.set b (.cells m (splice cs off vs))) else none := id rfl
@[simp] theorem partA_def (n : Nat) (cs : List CV) (off : Nat) : partA n cs off = if off + n ≤ cs.length then some (.ag ((cs.drop off).take n)) else none := id rfl
@[simp] theorem splice_s (a : CV) (cs vs : List CV) (off : Nat) : splice (a :: cs) (off + 1) vs = a :: splice cs off vs := by
 simp only [splice, List.take_succ_cons, List.cons_append, show off + 1 + vs.length = (off + vs.length) + 1 by omega, List.drop_succ_cons]
@[simp] theorem splice_c (a v : CV) (cs vs : List CV) : splice (a :: cs) 0 (v :: vs) = v :: splice cs 0 vs := by simp [splice]
@[simp] theorem splice_n (cs : List CV) : splice cs 0 [] = cs := by simp [splice]
@[simp] theorem splice_e (vs : List CV) : splice [] 0 vs = vs := by simp [splice]
@[simp] theorem bldC_nil (zero : List CV) : bldC zero [] = some zero := id rfl
theorem bldC_cons (zero : List CV) (off size : Nat) (v : CV) (r : List (Nat × Nat × CV)) : bldC zero ((off, size, v) :: r) = v.cells.bind fun vs => if vs.length = size ∧ off + size ≤ zero.length then bldC (splice zero off vs) r else none := by
 rw [bldC]; cases v.cells <;> rfl
attribute [simp] bldC_cons
@[simp] theorem fillC_nil (place : Nat → Option (Nat × Nat)) (zero : List CV) : fillC place zero [] = some zero := id rfl
@[simp] theorem fillC_cons (place : Nat → Option (Nat × Nat)) (zero : List CV) (i : Nat) (v : CV) (r : List (Nat × CV)) : fillC place zero ((i, v) :: r) = (place i).bind fun q => v.cells.bind fun vs => if vs.length = q.2 ∧ q.1 + q.2 ≤ zero.length then fillC place (splice zero q.1 vs) r else none := by
 rw [fillC]
 cases place i with
 | none => rfl
 | some q => cases v.cells <;> rfl
@[simp] theorem repeatC_0 (zero : List CV) : repeatC zero 0 = [] := id rfl
@[simp] theorem repeatC_s (zero : List CV) (n : Nat) : repeatC zero (n + 1) = zero ++ repeatC zero n := id rfl
@[simp] theorem bin_int (o : BinOp) (t : TypeId) (k : IntKind) (a : Int) (k' : IntKind) (b : Int) : binC P o t (.int k a) (.int k' b) = binInt o k a k' b := id rfl
@[simp] theorem bin_str (o : BinOp) (t : TypeId) (a b : List UInt8) : binC P o t (.str a) (.str b) = binStr o a b := id rfl
@[simp] theorem bin_lss (k : IntKind) (a b : Int) : binInt .lss k a k b = some (.bool (decide (a < b))) := by simp [binInt]
@[simp] theorem bin_leq (k : IntKind) (a b : Int) : binInt .leq k a k b = some (.bool (decide (a ≤ b))) := by simp [binInt]
@[simp] theorem bin_gtr (k : IntKind) (a b : Int) : binInt .gtr k a k b = some (.bool (decide (b < a))) := by simp [binInt]
@[simp] theorem bin_geq (k : IntKind) (a b : Int) : binInt .geq k a k b = some (.bool (decide (b ≤ a))) := by simp [binInt]
@[simp] theorem bin_eql (k : IntKind) (a b : Int) : binInt .eql k a k b = some (.bool (decide (a = b))) := by
 have : (a == b) = decide (a = b) := by by_cases h : a = b <;> simp [h]
 simp [binInt, this]
@[simp] theorem bin_neq (k : IntKind) (a b : Int) : binInt .neq k a k b = some (.bool (!decide (a = b))) := by
 have : (a != b) = !decide (a = b) := by by_cases h : a = b <;> simp [h]
 simp [binInt, this]
@[simp] theorem bin_add (k : IntKind) (a b : Int) : binInt .add k a k b = some (.int k (k.wrap (a + b))) := by simp [binInt]
@[simp] theorem bin_sub (k : IntKind) (a b : Int) : binInt .sub k a k b = some (.int k (k.wrap (a - b))) := by simp [binInt]
@[simp] theorem bin_mul (k : IntKind) (a b : Int) : binInt .mul k a k b = some (.int k (k.wrap (a * b))) := by simp [binInt]
@[simp] theorem un_not (b : Bool) : unC .not (.bool b) = some (.bool (!b)) := id rfl
@[simp] theorem un_neg (k : IntKind) (n : Int) : unC .neg (.int k n) = some (.int k (k.wrap (0 - n))) := id rfl
@[simp] theorem cintC_int (k k' : IntKind) (n : Int) : cintC k (.int k' n) = some (.int k (k.wrap n)) := id rfl
@[simp] theorem ia_rsl (z z' : Nat) (es : List (List CV)) (k : IntKind) (i : Int) : iaC (.sl z) (.rsl z' es) (.int k i) = if z = z' ∧ 0 ≤ i then (es[i.toNat]?).map fun cs => .rptr cs 0 else none := id rfl
@[simp] theorem ia_sl (z z' b off len cap sz : Nat) (k : IntKind) (i : Int) : iaC (.sl z) (.sl z' b off len cap sz) (.int k i) = if z = z' ∧ 0 ≤ i ∧ i < len then some (.ptr b (off + i.toNat * z) sz) else none := id rfl
@[simp] theorem ia_arr (n z : Nat) (x : CV) (k : IntKind) (i : Int) : iaC (.arr n z) x (.int k i) = if 0 ≤ i ∧ i < n then cellAt x (i.toNat * z) else none := id rfl
@[simp] theorem lenM_nil (z : Nat) : lenM (.sl z) .nilS = some (.int .i64 0) := id rfl
@[simp] theorem lenM_sl (z z' b o n c s : Nat) : lenM (.sl z) (.sl z' b o n c s) = some (.int .i64 n) := id rfl
@[simp] theorem lenM_rsl (z z' : Nat) (es : List (List CV)) : lenM (.sl z) (.rsl z' es) = some (.int .i64 es.length) := id rfl
@[simp] theorem lenM_str (s : List UInt8) : lenM .str (.str s) = some (.int .i64 s.length) := id rfl
@[simp] theorem lenM_arr (n z : Nat) (x : CV) : lenM (.arr n z) x = some (.int .i64 n) := id rfl
@[simp] theorem extC_tu (vs : List CV) (i : Nat) : extC (.tu vs) i = vs[i]? := id rfl
@[simp] theorem fldC1_ag (cs : List CV) (off : Nat) : fldC1 off (.ag cs) = cs[off]? := id rfl
@[simp] theorem fldCA_ag (n off : Nat) (cs : List CV) : fldCA n off (.ag cs) = partA n cs off := id rfl
end
section
variable {P : Program} {G : Nat → CV}
inductive Rd (l : Hl) : CV → CV → Prop
 | same (c : CV) (h : c.closed = true) : Rd l c c
 | ag (cs cs' : List CV) (hl : cs'.length = cs.length) (h : ∀ (j : Nat) (c c' : CV), cs[j]? = some c → cs'[j]? = some c' → Rd l c c') : Rd l (.ag cs) (.ag cs')
 | tu (cs cs' : List CV) (hl : cs'.length = cs.length) (h : ∀ (j : Nat) (c c' : CV), cs[j]? = some c → cs'[j]? = some c' → Rd l c c') : Rd l (.tu cs) (.tu cs')
 | sl (z b off len cap sz : Nat) (cs : List CV) (es : List (List CV)) (hb : l[b]? = some (.cells sz cs)) (hl : es.length = len) (hz : ∀ e ∈ es, e.length = z)
   (hin : off + len * z ≤ cs.length)
   (h : ∀ (i j : Nat) (e : List CV) (c c' : CV), es[i]? = some e → e[j]? = some c' → cs[off + (i * z + j)]? = some c → Rd l c c') : Rd l (.sl z b off len cap sz) (.rsl z es)
 | sl0 (z b off cap sz : Nat) : Rd l (.sl z b off 0 cap sz) (.rsl z [])
theorem rd_vr {w : World} {R : Nat → Prop} {B : Nat} {l : Hl} {μ : Mu} (rel : Rel R B w (HL l) μ) : ∀ {c c' : CV}, Rd l c c' → ∀ {v : Value}, VR w R (HL l) μ c v → VR0 w R c' v := by
 intro c c' hr
 induction hr with
 | same c h =>
  intro v hv
  exact (VR0.up (closed_vr hv h) fun k _ hk => ⟨hk.1, fun ⟨b, m, h1, h2, h3⟩ => by cases h2⟩ : VR w R Hp.empty (fun _ => none) _ v)
 | ag cs cs' hl h ih =>
  intro v hv
  cases hv with
  | ag _ vs hl1 h1 hv =>
   refine .ag cs' vs (by omega) h1 (fun j c' v hj hjv => ?_)
   have hlt : j < cs.length := by rw [← hl]; exact (List.getElem?_eq_some_iff.1 hj).1
   exact ih j cs[j] c' (List.getElem?_eq_getElem hlt) hj (hv j cs[j] v (List.getElem?_eq_getElem hlt) hjv)
 | tu cs cs' hl h ih =>
  intro v hv
  cases hv with
  | tu _ vs hl1 hv =>
   refine .tu cs' vs (by omega) (fun j c' v hj hjv => ?_)
   have hlt : j < cs.length := by rw [← hl]; exact (List.getElem?_eq_some_iff.1 hj).1
   exact ih j cs[j] c' (List.getElem?_eq_getElem hlt) hj (hv j cs[j] v (List.getElem?_eq_getElem hlt) hjv)
 | sl0 z b off cap sz =>
  intro v hv
  cases hv with
  | sl _ _ _ _ _ _ cap' cs m hb hm hl ho hc => exact .rsl0 z _ cap'
  | slGone _ _ _ _ _ _ cap' a hl hc hg => exact .rsl0 z _ cap'
  | slEnd _ _ _ _ a cs m hb hm => exact .rsl0 z a 0
 | sl z b off len cap sz cs es hb hl hz hin h ih =>
  intro v hv
  have hbf : (HL l).f b = .cells sz cs := HL_cells.2 hb
  cases hv with
  | slEnd _ _ _ _ a cs2 m hb2 hm2 =>
   obtain rfl := List.length_eq_zero_iff.1 hl
   exact .rsl0 z a 0
  | slGone _ _ _ _ _ _ cap' a hl hc hg =>
   exfalso
   rcases hg with hg | ⟨n, cs2, hg, hlt⟩
   ·rw [hbf] at hg; cases hg
   ·rw [hbf] at hg; cases hg; omega
  | sl _ _ _ _ _ _ cap' cs2 m hb2 hm hl2 ho hc =>
   rw [hbf] at hb2; cases hb2
   have hblk := rel.blk b m hm
   rw [hbf] at hblk
   obtain ⟨hcs, hT, arr, t, fz, hw, ha, hf, hcell⟩ := hblk
   have hcap : len ≤ cap' := by rcases hc with ⟨_, h⟩ | ⟨_, h, _⟩ <;> omega
   have hB : R m.r := rel.up _ (rel.base b m (by rw [hbf]; rfl) hm)
   subst hl
   have hcd : ∀ i j, i < es.length → j < z → ∃ c v, cs[off + (i * z + j)]? = some c ∧ arr[m.s + (off + (i * z + j))]? = some v ∧ v.oneCell' = true ∧ VR w R (HL l) μ c v := by
    intro i j hi hj
    have hlt : off + (i * z + j) < cs.length := by
     have : i * z + z ≤ es.length * z := by rw [← Nat.succ_mul]; exact Nat.mul_le_mul_right _ hi
     omega
    obtain ⟨v, h1, h2, h3⟩ := hcell _ _ (List.getElem?_eq_getElem hlt)
    exact ⟨_, v, List.getElem?_eq_getElem hlt, h1, h2, h3⟩
   refine .rsl z es m.r (m.s + off) cap' (fun i j => (arr[m.s + (off + (i * z + j))]?).getD undef) hcap hz (fun i j hi hj => ?_) (fun i e he j c' hj => ?_)
   ·obtain ⟨c, v, h1, h2, h3, h4⟩ := hcd i j hi hj
    refine ⟨?_, ?_, hB, fun ⟨b, m, h1, h2, h3⟩ => by cases h2⟩
    ·simp only [World.cell?, hw, h2, Option.getD_some, Option.isSome_none]
     rw [show m.s + off + (i * z + j) = m.s + (off + (i * z + j)) by omega, h2]; rfl
    ·rw [h2]; exact h3
   ·have hi : i < es.length := (List.getElem?_eq_some_iff.1 he).1
    have hjz : j < z := by rw [← hz e (List.mem_of_getElem? he)]; exact (List.getElem?_eq_some_iff.1 hj).1
    obtain ⟨c, v, h1, h2, h3, h4⟩ := hcd i j hi hjz
    simp only [h2, Option.getD_some]
    exact ih i j e c c' he hj h1 h4
theorem pure_of (hmix : P.follows .mixedOrders = true) (hG : ∀ g, (G g).closed = true) {f : FuncId} {args : List CV} {r : CV} (h : CallP P G f args [] (c := ⟨fun r0 l => Rd l r0 r⟩)) : PureC P G f args r := by
 obtain ⟨r0, l', h1, h2, h3⟩ := h
 intro w A vs hg hl hv
 refine (top_call (A := A) hmix hG h1 hg hl hv).mono ?_
 rintro e w' ⟨v, μ', rfl, hb, rel, hr⟩
 exact ⟨v, rfl, hb, rd_vr rel h3 hr⟩
theorem pure_call {f : FuncId} {args : List CV} {r : CV} {l : Hl} {K : CV → Hl → Prop} (hp : PureC P G f args r) (hc : closedL args = true) (h : K r l) : CallP P G f args l (c := ⟨K⟩) :=
 ⟨r, l, .pure hp hc, Nat.le_refl _, h⟩
theorem law_call (hmix : P.follows .mixedOrders = true) (hG : ∀ g, (G g).closed = true) {f : FuncId} {args : List CV} (h : CallP P G f args [] (c := ⟨fun r _ => r = .bool true⟩))
  {w : World} {A : Nat → Prop} {vs : Array Value} (hg : ∀ g, VR0 w A (G g) (.pointer (some ⟨g, 0, none⟩))) (hl : vs.size = args.length)
  (hv : ∀ (j : Nat) (c : CV) (v : Value), args[j]? = some c → vs[j]? = some v → VR0 w A c v) :
  Calls P f vs w fun e w' => e = .returned (.bool true) ∧ RowKit.Below w.heap.size w w' := by
 obtain ⟨r0, l', h1, h2, rfl⟩ := h
 exact top_true hmix hG h1 hg hl hv
end
section
variable {P : Program}
inductive Ty (P : Program) : List TypeId → List CV → Prop
 | nil : Ty P [] []
 | bool {t : TypeId} {b : Bool} {ts : List TypeId} {cs : List CV} (hu : P.underlying t = some .bool) (h : Ty P ts cs) : Ty P (t :: ts) (.bool b :: cs)
 | int {t : TypeId} {k : IntKind} {n : Int} {ts : List TypeId} {cs : List CV} (hu : P.underlying t = some (.int k)) (h1 : k.min ≤ n) (h2 : n ≤ k.max) (h : Ty P ts cs) : Ty P (t :: ts) (.int k n :: cs)
 | str {t : TypeId} {s : List UInt8} {ts : List TypeId} {cs : List CV} (hu : P.underlying t = some .string) (hs : s.length ≤ maxLen) (h : Ty P ts cs) : Ty P (t :: ts) (.str s :: cs)
 | nilS {t e : TypeId} {ts : List TypeId} {cs : List CV} (hu : P.underlying t = some (.slice e)) (h : Ty P ts cs) : Ty P (t :: ts) (.nilS :: cs)
 | sl {t e : TypeId} {es : List (List CV)} {ts : List TypeId} {cs : List CV} (hu : P.underlying t = some (.slice e)) (hl : es.length ≤ maxLen) (hz : ∀ r ∈ es, r.length = P.cellsOf e) (he : ∀ r ∈ es, Ty P [e] r) (h : Ty P ts cs) : Ty P (t :: ts) (.rsl (P.cellsOf e) es :: cs)
 | struct {t : TypeId} {fs : Array Field} {ts : List TypeId} {cs : List CV} (hu : P.underlying t = some (.struct fs)) (h : Ty P (fs.toList.map (·.type) ++ ts) cs) : Ty P (t :: ts) cs
 | array {t e : TypeId} {n : Nat} {ts : List TypeId} {cs : List CV} (hu : P.underlying t = some (.array n e)) (h : Ty P (List.replicate n e ++ ts) cs) : Ty P (t :: ts) cs
def consec (P : Program) : List Field → Nat → Option Nat
 | [], o => some o
 | f :: r, o => if f.offset = o then consec P r (o + P.cellsOf f.type) else none
def plainT (P : Program) : Nat → TypeId → Bool
 | 0, _ => false
 | d + 1, t => match P.underlying t with
  | some .bool | some (.int _) | some .string => true
  | some (.slice e) => decide (0 < P.cellsOf e) && plainT P d e
  | some (.struct fs) => decide (consec P fs.toList 0 = some (P.cellsOf t)) && fs.toList.all fun f => plainT P d f.type
  | some (.array n e) => decide (n * P.cellsOf e = P.cellsOf t) && plainT P d e
  | _ => false
structure Won (P : Program) (w : World) (A : Nat → Prop) (ts : List TypeId) (vs : List Value) (cs : List CV) : Prop where
 len : cs.length = vs.length
 ty : ∀ ts' cs', Ty P ts' cs' → Ty P (ts ++ ts') (cs ++ cs')
 vr : ∀ (j : Nat) (c : CV) (v : Value), cs[j]? = some c → vs[j]? = some v → VR0 w A c v ∧ v.oneCell' = true
theorem Won.nil {w : World} {A : Nat → Prop} : Won P w A [] [] [] := ⟨rfl, fun _ _ h => h, fun j c v h => by simp at h⟩
theorem Won.app {w : World} {A : Nat → Prop} {ts ts' : List TypeId} {vs vs' : List Value} {cs cs' : List CV} (a : Won P w A ts vs cs) (b : Won P w A ts' vs' cs') : Won P w A (ts ++ ts') (vs ++ vs') (cs ++ cs') := by
 refine ⟨by simp [a.len, b.len], fun ts'' cs'' h => by rw [List.append_assoc, List.append_assoc]; exact a.ty _ _ (b.ty _ _ h), fun j c v hc hv => ?_⟩
 by_cases h : j < cs.length
 ·rw [List.getElem?_append_left h] at hc
  rw [List.getElem?_append_left (by rw [← a.len]; exact h)] at hv
  exact a.vr j c v hc hv
 ·rw [List.getElem?_append_right (by omega)] at hc
  rw [List.getElem?_append_right (by rw [← a.len]; omega)] at hv
  rw [← a.len] at hv
  exact b.vr _ c v hc hv
theorem mapM_get' {α β : Type} {f : α → Option β} : ∀ {l : List α} {r : List β}, l.mapM f = some r → ∀ (p : Nat) (a : α), l[p]? = some a → ∃ x, r[p]? = some x ∧ f a = some x
 | [], r, h, p, a, ha => by simp at ha
 | a0 :: l, r, h, p, a, ha => by
  rw [List.mapM_cons] at h
  simp only [Option.bind_eq_bind, bind_some, Option.pure_def, Option.some.injEq] at h
  obtain ⟨b, h1, r', h2, rfl⟩ := h
  cases p with
  | zero => simp only [List.getElem?_cons_zero, Option.some.injEq] at ha; subst ha; exact ⟨b, rfl, h1⟩
  | succ p => obtain ⟨x, h3, h4⟩ := mapM_get' h2 p a (by simpa using ha); exact ⟨x, by simpa using h3, h4⟩
theorem one1 {w : World} {A : Nat → Prop} {c : CV} {v : Value} (h : VR0 w A c v) (h1 : v.oneCell' = true) : ∀ (j : Nat) (c' : CV) (v' : Value), [c][j]? = some c' → [v][j]? = some v' → VR0 w A c' v' ∧ v'.oneCell' = true := by
 intro j c' v' hc hv
 cases j with
 | zero => simp only [List.getElem?_cons_zero, Option.some.injEq] at hc hv; subst hc hv; exact ⟨h, h1⟩
 | succ j => simp at hc
theorem trod_bool {H : Type} {enc : TypeId × Value → H} {w : World} {base : Nat} {spare : Nat → Bool} {held : Bool} {fuel : Nat} {t : TypeId} {vs : List Value} {x : DataW H × List MemPlace}
  (hu : P.underlying t = some .bool) (h : DataW.trod enc P w base spare held (fuel + 1) t vs = some x) : ∃ b, vs = [.bool b] := by
 unfold DataW.trod at h
 rw [hu] at h
 split at h
 case h_1 b _ => exact ⟨b, rfl⟩
 all_goals first | (cases h; done) | (rename_i heq; cases heq; done) | (rename_i heq _; cases heq; done) | (rename_i heq _ _; cases heq; done) | (rename_i heq _ _ _; cases heq; done) | (simp_all; done)
theorem trod_int {H : Type} {enc : TypeId × Value → H} {w : World} {base : Nat} {spare : Nat → Bool} {held : Bool} {fuel : Nat} {t : TypeId} {k : IntKind} {vs : List Value} {x : DataW H × List MemPlace}
  (hu : P.underlying t = some (.int k)) (h : DataW.trod enc P w base spare held (fuel + 1) t vs = some x) : ∃ n, vs = [.int k n] ∧ k.min ≤ n ∧ n ≤ k.max := by
 unfold DataW.trod at h
 rw [hu] at h
 split at h <;> simp only [reduceCtorEq, Option.some.injEq, TypeDesc.int.injEq] at * <;> try (exfalso; simp_all; done)
 rename_i k0 k' n heq
 subst heq
 split at h
 ·rename_i hc
  obtain ⟨rfl, hw⟩ := hc
  simp only [Lit.wf, Bool.and_eq_true, decide_eq_true_eq] at hw
  exact ⟨n, rfl, hw.1, hw.2⟩
 ·cases h
theorem trod_str {H : Type} {enc : TypeId × Value → H} {w : World} {base : Nat} {spare : Nat → Bool} {held : Bool} {fuel : Nat} {t : TypeId} {vs : List Value} {x : DataW H × List MemPlace}
  (hu : P.underlying t = some .string) (h : DataW.trod enc P w base spare held (fuel + 1) t vs = some x) : ∃ s, vs = [.string s] ∧ s.size ≤ maxLen := by
 unfold DataW.trod at h
 rw [hu] at h
 split at h <;> simp only [reduceCtorEq, Option.some.injEq] at * <;> try (exfalso; simp_all; done)
 split at h
 ·rename_i s _ hs; exact ⟨s, rfl, hs⟩
 ·cases h
theorem trod_slice {H : Type} {enc : TypeId × Value → H} {w : World} {base : Nat} {spare : Nat → Bool} {held : Bool} {fuel : Nat} {t e : TypeId} {vs : List Value} {x : DataW H × List MemPlace}
  (hu : P.underlying t = some (.slice e)) (h : DataW.trod enc P w base spare held (fuel + 1) t vs = some x) :
  vs = [.slice none 0 0] ∨ ∃ a len cap, vs = [.slice (some a) len cap] ∧ len ≤ cap ∧ cap ≤ maxLen ∧ ∃ elems, (List.range len).mapM (fun i => (w.cells? base (a.add (i * P.cellsOf e)) (P.cellsOf e)).bind (DataW.trod enc P w base spare held fuel e)) = some elems := by
 unfold DataW.trod at h
 rw [hu] at h
 split at h <;> simp only [reduceCtorEq, Option.some.injEq, TypeDesc.slice.injEq] at * <;> try (exfalso; simp_all; done)
 ·exact .inl trivial
 ·rename_i e0 a len cap heq
  subst heq
  split at h
  ·rename_i hc
   rw [bind_some] at h
   obtain ⟨elems, h1, _⟩ := h
   exact .inr ⟨a, len, cap, rfl, hc.2.1, hc.2.2, elems, h1⟩
  ·cases h
theorem trod_struct {H : Type} {enc : TypeId × Value → H} {w : World} {base : Nat} {spare : Nat → Bool} {held : Bool} {fuel : Nat} {t : TypeId} {fs : Array Field} {vs : List Value} {x : DataW H × List MemPlace}
  (hu : P.underlying t = some (.struct fs)) (h : DataW.trod enc P w base spare held (fuel + 1) t vs = some x) :
  vs.length = P.cellsOf t ∧ ∃ xs, (fs.toList.mapM fun f => DataW.trod enc P w base spare held fuel f.type ((vs.drop f.offset).take (P.cellsOf f.type))) = some xs := by
 unfold DataW.trod at h
 rw [hu] at h
 split at h <;> simp only [reduceCtorEq, Option.some.injEq, TypeDesc.struct.injEq] at * <;> try (exfalso; simp_all; done)
 rename_i fs0 heq
 subst heq
 split at h
 ·rename_i hc
  rw [map_some] at h
  obtain ⟨xs, h1, _⟩ := h
  exact ⟨hc, xs, h1⟩
 ·cases h
theorem trod_array {H : Type} {enc : TypeId × Value → H} {w : World} {base : Nat} {spare : Nat → Bool} {held : Bool} {fuel : Nat} {t e : TypeId} {n : Nat} {vs : List Value} {x : DataW H × List MemPlace}
  (hu : P.underlying t = some (.array n e)) (h : DataW.trod enc P w base spare held (fuel + 1) t vs = some x) :
  vs.length = P.cellsOf t ∧ ∃ xs, ((List.range n).mapM fun i => DataW.trod enc P w base spare held fuel e ((vs.drop (i * P.cellsOf e)).take (P.cellsOf e))) = some xs := by
 unfold DataW.trod at h
 rw [hu] at h
 split at h <;> simp only [reduceCtorEq, Option.some.injEq, TypeDesc.array.injEq] at * <;> try (exfalso; simp_all; done)
 rename_i n0 e0 heq
 obtain ⟨rfl, rfl⟩ := heq
 split at h
 ·rename_i hc
  rw [map_some] at h
  obtain ⟨xs, h1, _⟩ := h
  exact ⟨hc, xs, h1⟩
 ·cases h
theorem add_add (a : Addr) (x j : Nat) : a.add (x + j) = (a.add x).add j := by
 unfold Addr.add
 by_cases hx : x = 0
 ·subst hx; simp
 ·by_cases hj : j = 0
  ·subst hj; simp
  ·rw [if_neg (by omega), if_neg hx, if_neg hj]
   simp only [Nat.add_assoc]
theorem add_plain (b o n : Nat) : (Addr.mk b o none).add n = ⟨b, o + n, none⟩ := by
 unfold Addr.add
 by_cases hn : n = 0
 ·subst hn; simp
 ·rw [if_neg hn]
theorem trod_won {H : Type} {enc : TypeId × Value → H} {w : World} {A : Nat → Prop} (hA : ∀ k, A k) {base : Nat} {spare : Nat → Bool} {held : Bool} : ∀ (fuel : Nat) (D : Nat) (t : TypeId) (vs : List Value) (d : DataW H) (ps : List MemPlace),
  plainT P D t = true → DataW.trod enc P w base spare held fuel t vs = some (d, ps) → ∃ cs, Won P w A [t] vs cs
 | 0, _, _, _, _, _, _, h => by simp [DataW.trod] at h
 | fuel + 1, 0, t, vs, d, ps, hp, h => by cases hp
 | fuel + 1, D + 1, t, vs, d, ps, hp, h => by
  have ih := fun t vs d ps hp h => trod_won hA (enc := enc) (w := w) (base := base) (spare := spare) (held := held) fuel D t vs d ps hp h
  unfold plainT at hp
  split at hp
  ·rename_i hu
   obtain ⟨b, rfl⟩ := trod_bool hu h
   exact ⟨[.bool b], ⟨rfl, fun ts' cs' h => .bool hu h, one1 (.bool b) rfl⟩⟩
  ·rename_i k hu
   obtain ⟨n, rfl, h1, h2⟩ := trod_int hu h
   exact ⟨[.int k n], ⟨rfl, fun ts' cs' h => .int hu h1 h2 h, one1 (.int k n) rfl⟩⟩
  ·rename_i hu
   obtain ⟨s, rfl, h1⟩ := trod_str hu h
   exact ⟨[.str s.data.toList], ⟨rfl, fun ts' cs' h => .str hu (show s.data.toList.length ≤ maxLen from h1) h, one1 (.str s) rfl⟩⟩
  ·rename_i e hu
   simp only [Bool.and_eq_true, decide_eq_true_eq] at hp
   rcases trod_slice hu h with rfl | ⟨a, len, cap, rfl, hlc, hcm, elems, he⟩
   ·exact ⟨[.nilS], ⟨rfl, fun ts' cs' h => .nilS hu h, one1 .nilS rfl⟩⟩
   ·have hrow : ∀ i, i < len → ∃ vals row, w.cells? base (a.add (i * P.cellsOf e)) (P.cellsOf e) = some vals ∧ Won P w A [e] vals row := fun i hi => by
     obtain ⟨x, _, hx⟩ := mapM_get' he i i (by rw [List.getElem?_range hi])
     rw [bind_some] at hx
     obtain ⟨vals, h1, h2⟩ := hx
     obtain ⟨row, h3⟩ := ih e vals x.1 x.2 hp.2 h2
     exact ⟨vals, row, h1, h3⟩
    have hch : ∃ (vals : Nat → List Value) (rows : Nat → List CV), ∀ i, i < len → w.cells? base (a.add (i * P.cellsOf e)) (P.cellsOf e) = some (vals i) ∧ Won P w A [e] (vals i) (rows i) := by
     refine ⟨fun i => if hi : i < len then (hrow i hi).choose else [], fun i => if hi : i < len then (hrow i hi).choose_spec.choose else [], fun i hi => ?_⟩
     simp only [dif_pos hi]
     exact (hrow i hi).choose_spec.choose_spec
    obtain ⟨vals, rows, hv⟩ := hch
    have hcells : ∀ i, i < len → (vals i).length = P.cellsOf e ∧ ∀ j, j < P.cellsOf e → ∃ v, (vals i)[j]? = some v ∧ w.cell? (a.add (i * P.cellsOf e + j)) = some v := fun i hi => by
     have h1 := (hv i hi).1
     unfold World.cells? at h1
     split at h1
     ·refine ⟨by rw [mapM_len h1]; simp, fun j hj => ?_⟩
      obtain ⟨v, h2, h3⟩ := mapM_get' h1 j j (by rw [List.getElem?_range hj])
      refine ⟨v, h2, ?_⟩
      rw [← h3, add_add]
     ·cases h1
    let es := (List.range len).map rows
    have hes : ∀ (i : Nat) (r : List CV), es[i]? = some r → i < len ∧ r = rows i := fun i r hr => by
     simp only [es, List.getElem?_map] at hr
     by_cases hi : i < len
     ·rw [List.getElem?_range hi] at hr; simp only [Option.map_some, Option.some.injEq] at hr; exact ⟨hi, hr.symm⟩
     ·rw [List.getElem?_eq_none (by simp; omega)] at hr; cases hr
    have hlen : es.length = len := by simp [es]
    have hz : ∀ r ∈ es, r.length = P.cellsOf e := fun r hr => by
     obtain ⟨i, hi⟩ := List.getElem?_of_mem hr
     obtain ⟨h1, rfl⟩ := hes i r hi
     rw [(hv i h1).2.len, (hcells i h1).1]
    have hty : ∀ r ∈ es, Ty P [e] r := fun r hr => by
     obtain ⟨i, hi⟩ := List.getElem?_of_mem hr
     obtain ⟨h1, rfl⟩ := hes i r hi
     have := (hv i h1).2.ty [] [] .nil
     simpa using this
    refine ⟨[.rsl (P.cellsOf e) es], ⟨rfl, fun ts' cs' h => .sl hu (by omega) hz hty h, one1 ?_ rfl⟩⟩
    by_cases h0 : len = 0
    ·subst h0
     exact .rsl0 _ _ _
    ·obtain ⟨v0, _, hv0⟩ := (hcells 0 (by omega)).2 0 hp.1
     have hspot : a.spot = none := by
      unfold World.cell? at hv0
      split at hv0
      ·split at hv0
       ·cases hv0
       ·rename_i hs
        rw [show 0 * P.cellsOf e + 0 = 0 by omega] at hs
        simp only [Addr.add, if_true] at hs
        cases hsp : a.spot with
        | none => rfl
        | some x => rw [hsp] at hs; simp at hs
      ·cases hv0
     obtain ⟨blk, off, spot⟩ := a
     simp only at hspot
     subst hspot
     have key := VR.rsl (w := w) (R := A) (h := Hp.empty) (μ := fun _ => none) (P.cellsOf e) es blk off cap (fun i j => ((vals i)[j]?).getD undef) (by omega) hz
      (fun i j hi hj => by
       rw [hlen] at hi
       obtain ⟨v, h1, h2⟩ := (hcells i hi).2 j hj
       obtain ⟨c, hc⟩ : ∃ c, (rows i)[j]? = some c := by
        have : j < (rows i).length := by rw [(hv i hi).2.len, (hcells i hi).1]; exact hj
        exact ⟨_, List.getElem?_eq_getElem this⟩
       refine ⟨?_, ?_, hA _, fun ⟨b, m, h1, h2, h3⟩ => by cases h2⟩
       ·rw [h1, Option.getD_some, ← add_plain]; exact h2
       ·rw [h1, Option.getD_some]; exact ((hv i hi).2.vr j c v hc h1).2)
      (fun i r hr j c hc => by
       obtain ⟨hi, rfl⟩ := hes i r hr
       have hj : j < P.cellsOf e := by rw [← (hcells i hi).1, ← (hv i hi).2.len]; exact (List.getElem?_eq_some_iff.1 hc).1
       obtain ⟨v, h1, h2⟩ := (hcells i hi).2 j hj
       rw [h1, Option.getD_some]
       exact ((hv i hi).2.vr j c v hc h1).1)
     rw [hlen] at key
     exact key
  ·rename_i fs hu
   simp only [Bool.and_eq_true, decide_eq_true_eq, List.all_eq_true] at hp
   obtain ⟨hlen, xs, hx⟩ := trod_struct hu h
   have go : ∀ (fs : List Field) (o : Nat) (xs : List (DataW H × List MemPlace)), consec P fs o = some vs.length → o ≤ vs.length → (∀ f ∈ fs, plainT P D f.type = true) →
     (fs.mapM fun f => DataW.trod enc P w base spare held fuel f.type ((vs.drop f.offset).take (P.cellsOf f.type))) = some xs → ∃ cs, Won P w A (fs.map (·.type)) (vs.drop o) cs := by
    intro fs
    induction fs with
    | nil => intro o xs hc ho _ _; simp only [consec, Option.some.injEq] at hc; rw [hc, List.drop_length]; exact ⟨[], .nil⟩
    | cons f fs ihf =>
     intro o xs hc ho hpl hm
     simp only [consec] at hc
     split at hc
     ·rename_i hfo
      rw [List.mapM_cons] at hm
      simp only [Option.bind_eq_bind, bind_some, Option.pure_def, Option.some.injEq] at hm
      obtain ⟨x, h1, xs', h2, _⟩ := hm
      have hmono : ∀ (fs : List Field) (o n : Nat), consec P fs o = some n → o ≤ n := by
       intro fs
       induction fs with
       | nil => intro o n h; simp only [consec, Option.some.injEq] at h; omega
       | cons g gs ihg =>
        intro o n h
        simp only [consec] at h
        split at h
        ·have := ihg _ _ h; omega
        ·cases h
      have hle := hmono _ _ _ hc
      obtain ⟨c1, w1⟩ := ih f.type _ x.1 x.2 (hpl f (by simp)) h1
      obtain ⟨c2, w2⟩ := ihf _ xs' hc hle (fun g hg => hpl g (by simp [hg])) h2
      refine ⟨c1 ++ c2, ?_⟩
      have := w1.app w2
      rw [hfo, show List.drop (o + P.cellsOf f.type) vs = List.drop (P.cellsOf f.type) (List.drop o vs) by rw [List.drop_drop], List.take_append_drop] at this
      exact this
     ·cases hc
   obtain ⟨cs, hw⟩ := go fs.toList 0 xs (by rw [hlen]; exact hp.1) (Nat.zero_le _) hp.2 hx
   rw [List.drop_zero] at hw
   exact ⟨cs, ⟨hw.len, fun ts' cs' h => .struct hu (hw.ty _ _ h), hw.vr⟩⟩
  ·rename_i n e hu
   simp only [Bool.and_eq_true, decide_eq_true_eq] at hp
   obtain ⟨hlen, xs, hx⟩ := trod_array hu h
   have hpart : ∀ i, i < n → ∃ c, Won P w A [e] ((vs.drop (i * P.cellsOf e)).take (P.cellsOf e)) c := fun i hi => by
    obtain ⟨x, _, h1⟩ := mapM_get' hx i i (by rw [List.getElem?_range hi])
    exact ih e _ x.1 x.2 hp.2 h1
   have go : ∀ m, m ≤ n → ∃ cs, Won P w A (List.replicate m e) (vs.drop ((n - m) * P.cellsOf e)) cs := by
    intro m
    induction m with
    | zero => intro _; rw [Nat.sub_zero, List.drop_eq_nil_of_le (by omega)]; exact ⟨[], .nil⟩
    | succ m ihm =>
     intro hm
     obtain ⟨c1, w1⟩ := hpart (n - (m + 1)) (by omega)
     obtain ⟨c2, w2⟩ := ihm (by omega)
     refine ⟨c1 ++ c2, ?_⟩
     have := w1.app w2
     have hidx : (n - m) * P.cellsOf e = (n - (m + 1)) * P.cellsOf e + P.cellsOf e := by rw [← Nat.succ_mul]; congr 1; omega
     rw [hidx, ← List.drop_drop, List.take_append_drop] at this
     exact this
   obtain ⟨cs, hw⟩ := go n (Nat.le_refl _)
   rw [Nat.sub_self, Nat.zero_mul, List.drop_zero] at hw
   exact ⟨cs, ⟨hw.len, fun ts' cs' h => .array hu (hw.ty _ _ h), hw.vr⟩⟩
  ·cases hp
def TyV (P : Program) (t : TypeId) (c : CV) : Prop := match aggT P t with
 | some true => ∃ cs, c = .ag cs ∧ Ty P [t] cs
 | _ => Ty P [t] [c]
inductive TyA (P : Program) : List TypeId → List CV → Prop
 | nil : TyA P [] []
 | cons {t : TypeId} {c : CV} {ts : List TypeId} {cs : List CV} : TyV P t c → TyA P ts cs → TyA P (t :: ts) (c :: cs)
theorem args_won {H : Type} {enc : TypeId × Value → H} {w : World} {A : Nat → Prop} (hA : ∀ k, A k) {base b0 : Nat} {spare : Nat → Bool} {held : Bool} {D : Nat} : ∀ {ts : List TypeId} {vs : List Value} {ds : List (DataW H)} {ps : List MemPlace},
  (∀ t ∈ ts, plainT P D t = true) → (∀ (j : Nat) t v, ts[j]? = some t → vs[j]? = some v → Value.okWide P w .any b0 t v) → DataW.TrodAll enc P w base spare held ts vs ds ps →
  ∃ cs, TyA P ts cs ∧ cs.length = vs.length ∧ ∀ (j : Nat) (c : CV) (v : Value), cs[j]? = some c → vs[j]? = some v → VR0 w A c v
 | [], [], _, _, _, _, _ => ⟨[], .nil, rfl, fun j c v h => by simp at h⟩
 | [], _ :: _, ds, _, _, _, h => by cases ds <;> cases h
 | _ :: _, [], ds, _, _, _, h => by cases ds <;> cases h
 | _ :: _, _ :: _, [], _, _, _, h => by cases h
 | t :: ts, v :: vs, d :: ds, ps, hp, hok, h => by
  obtain ⟨p, q, ⟨fuel, ht⟩, hr, _⟩ := h
  obtain ⟨cs, h1, h2, h3⟩ := args_won hA (fun t ht => hp t (by simp [ht])) (fun j t v ht hv => hok (j + 1) t v (by simpa using ht) (by simpa using hv)) hr
  obtain ⟨c1, w1⟩ := trod_won hA fuel D t v.cells.toList d p (hp t (by simp)) ht
  have hty : Ty P [t] c1 := by simpa using w1.ty [] [] .nil
  have hv := hok 0 t v rfl rfl
  have fin : ∀ c, TyV P t c → VR0 w A c v → ∃ cs, TyA P (t :: ts) cs ∧ cs.length = (v :: vs).length ∧ ∀ (j : Nat) (c : CV) (v' : Value), cs[j]? = some c → (v :: vs)[j]? = some v' → VR0 w A c v' := fun c hc hcv =>
   ⟨c :: cs, .cons hc h1, by simp [h2], fun j c' v' hj hjv => by
    cases j with
    | zero => simp only [List.getElem?_cons_zero, Option.some.injEq] at hj hjv; subst hj hjv; exact hcv
    | succ j => exact h3 j c' v' (by simpa using hj) (by simpa using hjv)⟩
  unfold Value.okWide at hv
  have agg : aggT P t = (P.underlying t).map fun d => match d with | .struct _ | .array _ _ => true | _ => false := rfl
  cases hu : P.underlying t with
  | none =>
   exfalso
   have := hp t (by simp)
   cases D with
   | zero => cases this
   | succ D => unfold plainT at this; rw [hu] at this; cases this
  | some dsc =>
   rw [hu] at hv agg
   have isAg : (∃ cs, v = .agg cs) → aggT P t = some true → ∃ cs, TyA P (t :: ts) cs ∧ cs.length = (v :: vs).length ∧ ∀ (j : Nat) (c : CV) (v' : Value), cs[j]? = some c → (v :: vs)[j]? = some v' → VR0 w A c v' := by
    rintro ⟨xs, rfl⟩ hag
    refine fin (.ag c1) (by unfold TyV; rw [hag]; exact ⟨c1, rfl, hty⟩) (.ag c1 xs (by have := w1.len; simp only [Value.cells, Array.length_toList] at this; exact this.symm) (fun j x hx => ?_) (fun j c x hc hx => ?_))
    ·have hlt : j < c1.length := by rw [w1.len]; simp only [Value.cells, Array.length_toList]; exact (Array.getElem?_eq_some_iff.1 hx).1
     exact (w1.vr j c1[j] x (List.getElem?_eq_getElem hlt) (by simpa [Value.cells] using hx)).2
    ·exact (w1.vr j c x hc (by simpa [Value.cells] using hx)).1
   have isOne : (∀ xs, v ≠ .agg xs) → aggT P t = some false → ∃ cs, TyA P (t :: ts) cs ∧ cs.length = (v :: vs).length ∧ ∀ (j : Nat) (c : CV) (v' : Value), cs[j]? = some c → (v :: vs)[j]? = some v' → VR0 w A c v' := by
    intro hne hag
    have hcells : v.cells.toList = [v] := by cases v <;> first | rfl | exact absurd rfl (hne _)
    have hl := w1.len
    rw [hcells] at hl
    obtain ⟨c, rfl⟩ : ∃ c, c1 = [c] := List.length_eq_one_iff.1 hl
    refine fin c (by unfold TyV; rw [hag]; exact hty) (w1.vr 0 c v rfl (by rw [hcells]; rfl)).1
   have notAgg : Cell.okWide P w .any b0 t v → ∀ xs, v ≠ .agg xs := by
    rintro hc xs rfl
    unfold Cell.okWide at hc
    rw [hu] at hc
    cases dsc <;> simp [Cell.ok, hu] at hc
   cases dsc <;> simp only [Option.map_some] at agg <;> first
    | exact isAg (by obtain ⟨cs, h, _⟩ := hv; exact ⟨cs, h⟩) agg
    | exact isOne (notAgg hv) agg
end
abbrev Sv (α : Type) := Option (List α)
def Sv.l {α : Type} (s : Sv α) : List α := s.getD []
@[simp] theorem Sv.l_none {α : Type} : Sv.l (none : Sv α) = [] := rfl
@[simp] theorem Sv.l_some {α : Type} (l : List α) : Sv.l (some l) = l := rfl
def encS {α : Type} (z : Nat) (enc : α → List CV) : Sv α → CV
 | none => .nilS
 | some l => .rsl z (l.map enc)
section
variable {α : Type} {z : Nat} {enc : α → List CV}
@[simp] theorem len_encS (s : Sv α) : lenM (.sl z) (encS z enc s) = some (.int .i64 s.l.length) := by cases s <;> simp [encS, Sv.l]
@[simp] theorem ia_encS (s : Sv α) (k : IntKind) (i : Int) : iaC (.sl z) (encS z enc s) (.int k i) = if 0 ≤ i then (s.l[i.toNat]?).map fun x => .rptr (enc x) 0 else none := by
 cases s with
 | none => by_cases h : 0 ≤ i <;> simp [encS, Sv.l, iaC, h]
 | some l => by_cases h : 0 ≤ i <;> simp [encS, Sv.l, h, Function.comp_def]
@[simp] theorem cells_encS (s : Sv α) : (encS z enc s).cells = some [encS z enc s] := by cases s <;> rfl
theorem closed_encS (h : ∀ x, closedL (enc x) = true) (s : Sv α) : (encS z enc s).closed = true := by
 cases s with
 | none => rfl
 | some l =>
  simp only [encS, CV.closed]
  induction l with
  | nil => rfl
  | cons x l ih => simp only [List.map_cons, closedLL, h, ih, Bool.and_self]
end
theorem wrap_i64 {n : Int} (h1 : -9223372036854775808 ≤ n) (h2 : n < 9223372036854775808) : IntKind.i64.wrap n = n := by
 have e1 : (2 ^ IntKind.i64.bits : Int) = 18446744073709551616 := by decide
 have e2 : (2 ^ (IntKind.i64.bits - 1) : Int) = 9223372036854775808 := by decide
 have e3 : IntKind.i64.signed = true := rfl
 simp only [IntKind.wrap, e1, e2, e3, Bool.true_and, decide_eq_true_eq]
 split <;> omega
theorem get_of {α : Type} {l : List α} {k : Nat} (h : k < l.length) : ∃ x, l[k]? = some x ∧ x ∈ l := ⟨l[k], List.getElem?_eq_getElem h, List.getElem_mem h⟩
section
variable {P : Program} {G : Nat → CV}
theorem bin_nil_eql {t e : TypeId} (hu : P.underlying t = some (.slice e)) {α : Type} (z : Nat) (enc : α → List CV) (s : Sv α) : binC P .eql t (encS z enc s) .nilS = some (.bool s.isNone) := by
 cases s <;> simp [encS, binC, eqOk, eqT, hu]
theorem flat_get {z : Nat} {es : List (List CV)} (hz : ∀ e ∈ es, e.length = z) {i j : Nat} {e : List CV} (he : es[i]? = some e) (hj : j < z) : es.flatten[i * z + j]? = e[j]? := by
 induction es generalizing i with
 | nil => simp at he
 | cons x es ih =>
  have hx : x.length = z := hz x (by simp)
  cases i with
  | zero =>
   simp only [List.getElem?_cons_zero, Option.some.injEq] at he
   subst he
   rw [List.flatten_cons, Nat.zero_mul, Nat.zero_add, List.getElem?_append_left (by omega)]
  | succ i =>
   simp only [List.getElem?_cons_succ] at he
   rw [List.flatten_cons, List.getElem?_append_right (by rw [hx, Nat.succ_mul]; omega), hx, show (i + 1) * z + j - z = i * z + j by rw [Nat.succ_mul]; omega]
   exact ih (fun e he => hz e (by simp [he])) he
theorem upd1 {σ : Sg} {i : Nat} {v : CV} (h : σ i = v) : fupd σ i v = σ := by
 funext t; simp only [fupd]; split <;> simp_all
theorem upds2 {σ : Sg} {i1 : Nat} {v1 : CV} {i2 : Nat} {v2 : CV} (h1 : σ i1 = v1) (h2 : σ i2 = v2) : ∃ s : Sg, σ = fupd (fupd (s) i1 v1) i2 v2 := ⟨σ, by rw [upd1 h1, upd1 h2]⟩
theorem upds3 {σ : Sg} {i1 : Nat} {v1 : CV} {i2 : Nat} {v2 : CV} {i3 : Nat} {v3 : CV} (h1 : σ i1 = v1) (h2 : σ i2 = v2) (h3 : σ i3 = v3) : ∃ s : Sg, σ = fupd (fupd (fupd (s) i1 v1) i2 v2) i3 v3 := ⟨σ, by rw [upd1 h1, upd1 h2, upd1 h3]⟩
theorem upds4 {σ : Sg} {i1 : Nat} {v1 : CV} {i2 : Nat} {v2 : CV} {i3 : Nat} {v3 : CV} {i4 : Nat} {v4 : CV} (h1 : σ i1 = v1) (h2 : σ i2 = v2) (h3 : σ i3 = v3) (h4 : σ i4 = v4) : ∃ s : Sg, σ = fupd (fupd (fupd (fupd (s) i1 v1) i2 v2) i3 v3) i4 v4 := ⟨σ, by rw [upd1 h1, upd1 h2, upd1 h3, upd1 h4]⟩
theorem upds5 {σ : Sg} {i1 : Nat} {v1 : CV} {i2 : Nat} {v2 : CV} {i3 : Nat} {v3 : CV} {i4 : Nat} {v4 : CV} {i5 : Nat} {v5 : CV} (h1 : σ i1 = v1) (h2 : σ i2 = v2) (h3 : σ i3 = v3) (h4 : σ i4 = v4) (h5 : σ i5 = v5) : ∃ s : Sg, σ = fupd (fupd (fupd (fupd (fupd (s) i1 v1) i2 v2) i3 v3) i4 v4) i5 v5 := ⟨σ, by rw [upd1 h1, upd1 h2, upd1 h3, upd1 h4, upd1 h5]⟩
theorem upds6 {σ : Sg} {i1 : Nat} {v1 : CV} {i2 : Nat} {v2 : CV} {i3 : Nat} {v3 : CV} {i4 : Nat} {v4 : CV} {i5 : Nat} {v5 : CV} {i6 : Nat} {v6 : CV} (h1 : σ i1 = v1) (h2 : σ i2 = v2) (h3 : σ i3 = v3) (h4 : σ i4 = v4) (h5 : σ i5 = v5) (h6 : σ i6 = v6) : ∃ s : Sg, σ = fupd (fupd (fupd (fupd (fupd (fupd (s) i1 v1) i2 v2) i3 v3) i4 v4) i5 v5) i6 v6 := ⟨σ, by rw [upd1 h1, upd1 h2, upd1 h3, upd1 h4, upd1 h5, upd1 h6]⟩
theorem upds11 {σ : Sg} {i1 : Nat} {v1 : CV} {i2 : Nat} {v2 : CV} {i3 : Nat} {v3 : CV} {i4 : Nat} {v4 : CV} {i5 : Nat} {v5 : CV} {i6 : Nat} {v6 : CV} {i7 : Nat} {v7 : CV} {i8 : Nat} {v8 : CV} {i9 : Nat} {v9 : CV} {i10 : Nat} {v10 : CV} {i11 : Nat} {v11 : CV} (h1 : σ i1 = v1) (h2 : σ i2 = v2) (h3 : σ i3 = v3) (h4 : σ i4 = v4) (h5 : σ i5 = v5) (h6 : σ i6 = v6) (h7 : σ i7 = v7) (h8 : σ i8 = v8) (h9 : σ i9 = v9) (h10 : σ i10 = v10) (h11 : σ i11 = v11) : ∃ s : Sg, σ = fupd (fupd (fupd (fupd (fupd (fupd (fupd (fupd (fupd (fupd (fupd (s) i1 v1) i2 v2) i3 v3) i4 v4) i5 v5) i6 v6) i7 v7) i8 v8) i9 v9) i10 v10) i11 v11 := ⟨σ, by rw [upd1 h1, upd1 h2, upd1 h3, upd1 h4, upd1 h5, upd1 h6, upd1 h7, upd1 h8, upd1 h9, upd1 h10, upd1 h11]⟩
section
variable {α : Type}
@[simp] theorem contents_encS (l : Hl) (z : Nat) (enc : α → List CV) (s : Sv α) : contentsL l z (encS z enc s) = some ((s.l.map enc).flatten, s.l.length) := by
 cases s <;> simp [encS, contentsL]
end
theorem splice_full {cs vs : List CV} (h : vs.length = cs.length) : splice cs 0 vs = vs := by
 simp only [splice, List.take_zero, List.nil_append, Nat.zero_add]
 rw [List.drop_eq_nil_of_le (by omega), List.append_nil]
theorem bounds_lo (len cap : Nat) (k : IntKind) (i : Int) : boundsC len cap (some (.int k i)) none none = if 0 ≤ i ∧ i ≤ len then some (i.toNat, len, cap) else none := by
 unfold boundsC boundC
 by_cases h : 0 ≤ i ∧ i ≤ len
 ·simp only [if_pos h]
 ·simp only [if_neg h]
theorem bounds_hi (len cap : Nat) (k : IntKind) (i : Int) : boundsC len cap none (some (.int k i)) none = if 0 ≤ i ∧ i ≤ cap then some (0, i.toNat, cap) else none := by
 unfold boundsC boundC
 by_cases h : 0 ≤ i ∧ i ≤ cap
 ·simp only [if_pos h]
 ·simp only [if_neg h]
theorem bounds_both (len cap : Nat) (k k' : IntKind) (i j : Int) : boundsC len cap (some (.int k i)) (some (.int k' j)) none = if 0 ≤ i ∧ i ≤ j ∧ j ≤ cap then some (i.toNat, j.toNat, cap) else none := by
 unfold boundsC boundC
 by_cases h : 0 ≤ j ∧ j ≤ cap
 ·simp only [if_pos h]
  by_cases h2 : 0 ≤ i ∧ i ≤ ((j.toNat : Nat) : Int)
  ·simp only [if_pos h2]; rw [if_pos (by omega)]
  ·simp only [if_neg h2]; rw [if_neg (by omega)]
 ·simp only [if_neg h]; rw [if_neg (by omega)]
theorem slice_from {α : Type} {z : Nat} {enc : α → List CV} {l : List α} {k : IntKind} {i : Int} (h1 : 0 ≤ i) (h2 : i ≤ l.length) : sliceM (.sl z) (encS z enc (some l)) (some (.int k i)) none none = some (encS z enc (some (l.drop i.toNat))) := by
 have h3 : i.toNat ≤ l.length := by omega
 simp only [sliceM, encS, if_true, bounds_lo, List.length_map]
 rw [if_pos ⟨h1, h2⟩]
 simp only [Option.map_some, Option.some.injEq, CV.rsl.injEq, true_and]
 rw [List.take_of_length_le (by simp), List.map_drop]
theorem slice_to {α : Type} {z : Nat} {enc : α → List CV} {l : List α} {k : IntKind} {i : Int} (h1 : 0 ≤ i) (h2 : i ≤ l.length) : sliceM (.sl z) (encS z enc (some l)) none (some (.int k i)) none = some (encS z enc (some (l.take i.toNat))) := by
 simp only [sliceM, encS, if_true, bounds_hi, List.length_map]
 rw [if_pos ⟨h1, h2⟩]
 simp only [Option.map_some, Option.some.injEq, CV.rsl.injEq, true_and, List.drop_zero, Nat.sub_zero]
 rw [List.map_take]
theorem slice_mid {α : Type} {z : Nat} {enc : α → List CV} {l : List α} {k k' : IntKind} {i j : Int} (h0 : 0 ≤ i) (h1 : i ≤ j) (h2 : j ≤ l.length) : sliceM (.sl z) (encS z enc (some l)) (some (.int k i)) (some (.int k' j)) none = some (encS z enc (some ((l.drop i.toNat).take (j.toNat - i.toNat)))) := by
 simp only [sliceM, encS, if_true, bounds_both, List.length_map]
 rw [if_pos ⟨h0, h1, h2⟩]
 simp only [Option.map_some, Option.some.injEq, CV.rsl.injEq, true_and]
 rw [List.map_take, List.map_drop]
theorem map_set {α : Type} (l : List α) (k : Nat) (x : α) (enc : α → List CV) : (l.map enc).set k (enc x) = (l.set k x).map enc := by rw [List.map_set]
end
section
variable {P : Program}
theorem tyA_nil {cs : List CV} (h : TyA P [] cs) : cs = [] := by cases h; rfl
end
end Go.CM

namespace Go.CM
open Go Go.ChangeShapes Go.RowKit
theorem trodAll_below {H : Type} {enc : TypeId × Value → H} {P : Program} (hl : laidOutB P = true) {W W' : World} (hb : Below W.heap.size W W') : ∀ {ts : List TypeId} {vs : List Value} {ds : List (DataW H)} {ps : List MemPlace},
  (∀ t ∈ ts, P.readableRec t = true ∧ t < P.types.size) → DataW.TrodAll enc P W 0 (fun _ => true) true ts vs ds ps → DataW.TrodAll enc P W' 0 (fun b => decide (b < W.heap.size)) true ts vs ds ps
 | [], vs, ds, ps, _, h => by
  obtain ⟨rfl, rfl, rfl⟩ := trodAll_nil h
  exact trodAll_mk0
 | t :: ts, vs, ds, ps, hr, h => by
  have hlt := h.lt
  obtain ⟨v, vs1, d, ds1, a, b, rfl, rfl, rfl, h1, h2⟩ := trodAll_cons h
  exact ⟨a, b, Below.trod hl (hr t (by simp)).1 (hr t (by simp)).2 h1 hb (fun x hx => hlt x (by simp [hx])), trodAll_below hl hb (fun t ht => hr t (by simp [ht])) h2, rfl⟩
theorem law_walk {P : Program} {G : Nat → CV} (hmix : P.follows .mixedOrders = true) (hG : ∀ g, (G g).closed = true) {f : FuncId} {ts : List TypeId} (D : Nat) (hp : ∀ t ∈ ts, plainT P D t = true) (hlaid : laidOutB P = true)
  (hrow : ∀ t ∈ ts, P.readableRec t = true ∧ t < P.types.size) (law : ∀ cs, TyA P ts cs → CallP P G f cs [] (c := ⟨fun r _ => r = .bool true⟩))
  {H : Type} {enc : TypeId × Value → H} {W : World} {b0 : Nat} {args : Array Value} {ds : List (DataW H)} {ps : List MemPlace} (hg : ∀ g, VR0 W (fun _ => True) (G g) (.pointer (some ⟨g, 0, none⟩)))
  (hok : ∀ (j : Nat) t v, ts[j]? = some t → args[j]? = some v → Value.okWide P W .any b0 t v) (h : DataW.TrodAll enc P W 0 (fun _ => true) true ts args.toList ds ps) :
  Calls P f args W fun e w' => e = .returned (.bool true) ∧ Below W.heap.size W w' ∧ DataW.TrodAll enc P w' 0 (fun b => decide (b < W.heap.size)) true ts args.toList ds ps := by
 obtain ⟨cs, hty, hlen, hvr⟩ := args_won (A := fun _ => True) (fun _ => trivial) hp (fun j t v ht hv => hok j t v ht (by simpa using hv)) h
 exact (law_call hmix hG (law cs hty) hg (by rw [hlen]; simp) (fun j c v hc hv => hvr j c v hc (by simpa using hv))).mono fun e w' ⟨he, hb⟩ => ⟨he, hb, trodAll_below hlaid hb hrow h⟩
end Go.CM

namespace Go.CM
open Go
def storeH (n : Nat) (h : Hp) (p v : CV) : Option Hp :=
 match p, v.cells with
 | .ptr b off sz, some vs => match h.f b with
  | .cells m cs => if m = sz ∧ vs.length = n ∧ off + n ≤ m then some (h.set b (.cells m (splice cs off vs))) else none
  | _ => none
 | _, _ => none
def appendH (h : Hp) (z by_ : Nat) (s : CV) (xs : List CV) (n : Nat) : Option (CV × Hp) :=
 if n = 0 then (match s with | .nilS | .rsl .. | .sl .. => some (s, h) | _ => none)
 else if z = 0 ∨ by_ = 0 then none else match s with
  | .nilS => if n * by_ ≤ roomMax then some (.sl z h.n 0 n n (n * z), h.push (.cells (n * z) xs)) else none
  | .sl z' b off len cap sz => match h.f b with
   | .cells m cs =>
    if m = sz ∧ z = z' ∧ (len + n) * by_ ≤ roomMax then
     if len + n ≤ cap then some (.sl z b off (len + n) cap sz, h.set b (.cells m (splice cs (off + len * z) xs)))
     else if off + cap * z < sz then some (.sl z h.n 0 (len + n) (len + n) ((len + n) * z), h.push (.cells ((len + n) * z) ((cs.drop off).take (len * z) ++ xs)))
     else if off = 0 then some (.sl z b 0 (len + n) (len + n) ((len + n) * z), h.set b (.cells ((len + n) * z) (cs.take (len * z) ++ xs)))
     else some (.sl z h.n 0 (len + n) (len + n) ((len + n) * z), (h.set b .dead).push (.cells ((len + n) * z) ((cs.drop off).take (len * z) ++ xs)))
    else none
   | _ => none
  | _ => none
def copyH (z : Nat) (h : Hp) (d x : CV) : Option (CV × Hp) :=
 match contents h z x with
 | none => none
 | some (xs, n) => match d with
  | .nilS => some (.int .i64 0, h)
  | .sl z' b off len _ sz => match h.f b with
   | .cells m cs => if m = sz ∧ z = z' then some (.int .i64 ((min n len : Nat) : Int), h.set b (.cells m (splice cs off (xs.take (min n len * z))))) else none
   | _ => none
  | _ => none
def clearH (zero : List CV) (h : Hp) : CV → Option Hp
 | .nilS => some h
 | .rsl _ [] => some h
 | .sl z b off len _ sz => if len = 0 then some h else match h.f b with
  | .cells m cs => if m = sz ∧ zero.length = z then some (h.set b (.cells m (splice cs off (repeatC zero len)))) else none
  | _ => none
 | _ => none
def mksH (z by_ : Nat) (zero : List CV) (h : Hp) (l c : CV) : Option (CV × Hp) := match l, c with
 | .int _ l, .int _ c => if 0 ≤ l ∧ l ≤ c ∧ c < 9223372036854775808 ∧ by_ * c ≤ roomMax then
   some (.sl z h.n 0 l.toNat c.toNat (c.toNat * z), h.push (.cells (c.toNat * z) (repeatC zero c.toNat))) else none
 | _, _ => none
def cbsH (h : Hp) (x : CV) : Option CV := match x with
 | .nilS => some (.str [])
 | .str _ => none
 | x => match contents h 1 x with | some (cs, _) => (bytesOfC cs).map .str | none => none
def appHM (h : Hp) (z by_ : Nat) (s x : CV) : Option (CV × Hp) := match contents h z x with
 | none => none
 | some (xs, n) => appendH h z by_ s xs n
def appZHM (h : Hp) (z by_ : Nat) (zero : List CV) (s x : CV) : Option (CV × Hp) := match x with
 | .int _ n => if 0 ≤ n ∧ n < 9223372036854775808 ∧ n.toNat * by_ ≤ roomMax then appendH h z by_ s (repeatC zero n.toNat) n.toNat else none
 | _ => none
def cmpH (h : Hp) (x y : CV) : Option CV := match bytesOfV h x, bytesOfV h y with
 | some a, some b => some (.int .i64 (cmpBytes a b))
 | _, _ => none
def rangeH (h : Hp) (x : CV) : Option (CV × Hp) := match x with
 | .str s => some (.it h.n, h.push (.iter s 0))
 | _ => none
def lenMapH (h : Hp) (x : CV) : Option CV := match x with
 | .nilM => some (.int .i64 0)
 | .mp b => match h.f b with | .map es _ => some (.int .i64 es.length) | _ => none
 | _ => none
def lookupH (P : Program) (h : Hp) (kt : TypeId) (zero : CV) (ok : Bool) (m k : CV) : Option CV :=
 match mapOf h m with
 | some es => match keyFits P kt k with
  | false => none
  | true => match findC P kt k es 0 with
   | some (some (_, v)) => some (if ok then .tu [v, .bool true] else v)
   | some none => some (if ok then .tu [zero, .bool false] else zero)
   | none => none
 | none => none
def mapUpdH (P : Program) (h : Hp) (kt : TypeId) (m k v : CV) : Option Hp :=
 match m with
 | .mp b => match h.f b with
  | .map es ck => match keyFits P kt k with
   | false => none
   | true => match findC P kt k es 0 with
    | some (some (i, _)) => some (h.set b (.map (es.modify i fun e => (k, v, e.2.2)) ck))
    | some none => some (h.set b (.map (es ++ [(k, v, ck)]) (ck + 1)))
    | none => none
  | _ => none
 | _ => none
def puH (h : Hp) (x : Option CV) : Option (CV × Hp) := match x with | some v => some (v, h) | none => none
section
variable (P : Program)
def mstepH (ρ : Operand → CV) (h : Hp) : Mo → Option (CV × Hp)
 | .mv x => some (ρ x, h)
 | .pick c a b => puH h (pickC (ρ c) (ρ a) (ρ b))
 | .alloc zero => some (.ptr h.n 0 zero.length, h.push (.cells zero.length zero))
 | .box x => match (ρ x).cells with | some cs => some (.ptr h.n 0 cs.length, h.push (.cells cs.length cs)) | none => none
 | .bld zero ps => puH h ((bldC zero (ps.map fun p => (p.1, p.2.1, ρ p.2.2))).map .ag)
 | .bsl z zero len ps => match fillC (fun i => some (i * z, z)) (repeatC zero len) (ps.map fun p => (p.1, ρ p.2)) with | some cs => some (.sl z h.n 0 len len (len * z), h.push (.cells (len * z) cs)) | none => none
 | .ld1 a => puH h (match reach h (ρ a) with | some (cs, o) => cs[o]? | none => none)
 | .ldA n a => puH h (match reach h (ρ a) with | some (cs, o) => partA n cs o | none => none)
 | .st n a x => match storeH n h (ρ a) (ρ x) with | some h' => some (undefC, h') | none => none
 | .nilc x => puH h (nilcC (ρ x))
 | .bin o t x y => puH h (binC P o t (ρ x) (ρ y))
 | .un o x => puH h (unC o (ρ x))
 | .cint k x => puH h (cintC k (ρ x))
 | .cstr x => puH h (cstrC (ρ x))
 | .cbs x => puH h (cbsH h (ρ x))
 | .csb x => puH h (csbC (ρ x))
 | .mkI t x => some (.ifc t (ρ x), h)
 | .tas t z ok x => puH h (tasC t z ok (ρ x))
 | .mkF f a b => some (.fn f (a.map ρ) (b.map ρ), h)
 | .mks z by_ zero a c => mksH z by_ zero h (ρ a) (ρ c)
 | .slice ti x lo hi mx => puH h (sliceM ti (ρ x) (lo.map ρ) (hi.map ρ) (mx.map ρ))
 | .fa off x => puH h (cellAt (ρ x) off)
 | .fld1 off x => puH h (fldC1 off (ρ x))
 | .fldA n off x => puH h (fldCA n off (ρ x))
 | .ia ti x i => puH h (iaC ti (ρ x) (ρ i))
 | .ix1 n z x i => puH h (ixC1 n z (ρ x) (ρ i))
 | .ixA n z x i => puH h (ixCA n z (ρ x) (ρ i))
 | .ixT x i => puH h (ixCT (ρ x) (ρ i))
 | .ext x i => puH h (extC (ρ x) i)
 | .len ti x => puH h (lenM ti (ρ x))
 | .cap ti x => puH h (capM ti (ρ x))
 | .app z by_ s x => appHM h z by_ (ρ s) (ρ x)
 | .appZ z by_ zero s x => appZHM h z by_ zero (ρ s) (ρ x)
 | .cpy z d x => copyH z h (ρ d) (ρ x)
 | .clr zero x => match clearH zero h (ρ x) with | some h' => some (.tu [], h') | none => none
 | .min x y => puH h (min2C (ρ x) (ρ y))
 | .max x y => puH h (max2C (ρ x) (ρ y))
 | .mkM x => match x with
  | none => some (.mp h.n, h.push (.map [] 0))
  | some o => match asInt (ρ o) with | some _ => some (.mp h.n, h.push (.map [] 0)) | none => none
 | .lkp kt zero ok m k => puH h (lookupH P h kt zero ok (ρ m) (ρ k))
 | .mup kt m k x => match mapUpdH P h kt (ρ m) (ρ k) (ρ x) with | some h' => some (undefC, h') | none => none
 | .lenMp x => puH h (lenMapH h (ρ x))
 | .rngS x => rangeH h (ρ x)
 | .nxtS x => nextStrC h (ρ x)
 | .cmpB f fo x y => match isFn f (ρ fo) with | true => puH h (cmpH h (ρ x) (ρ y)) | false => none
 | .stop => none
end
def rdAll (r : CV → Option CV) : List CV → Option (List CV)
 | [] => some []
 | c :: cs => match r c with
  | some c' => match rdAll r cs with
   | some cs' => some (c' :: cs')
   | none => none
  | none => none
def rdC (h : Hp) : Nat → CV → Option CV
 | 0, _ => none
 | d + 1, c => match c with
  | .ag cs => match rdAll (rdC h d) cs with | some cs' => some (.ag cs') | none => none
  | .tu cs => match rdAll (rdC h d) cs with | some cs' => some (.tu cs') | none => none
  | .sl z b off len cap sz => match Nat.beq len 0 with
   | true => some (.rsl z [])
   | false => match h.f b with
    | .cells n cs => match Nat.beq n sz && Nat.ble (off + len * z) cs.length with
     | true => match rdAll (rdC h d) ((cs.drop off).take (len * z)) with
      | some xs => some (.rsl z (chunks z len xs))
      | none => none
     | false => none
    | _ => none
  | .ptr b off sz => match h.f b with
   | .cells n cs => match Nat.beq n sz with
    | true => match rdAll (rdC h d) cs with | some cs' => some (.rptr cs' off) | none => none
    | false => none
   | _ => none
  | c => match c.closed with | true => some c | false => none
def asI64 (x : CV) : Option Int := match x with
 | .int k i => match k with | .i64 => some i | _ => none
 | _ => none
def insRow (z : Nat) (cs vs : List CV) (i len : Nat) : List CV := cs.take (i * z) ++ vs ++ (cs.drop (i * z)).take ((len - i) * z) ++ cs.drop ((len + 1) * z)
def insS (z by_ : Nat) (h : Hp) (s : CV) (i : Nat) (bv : Nat) (vs : List CV) : Option (CV × Hp) := match s with
 | .nilS => if i = 0 ∧ by_ ≤ roomMax then some (.sl z h.n 0 1 1 z, h.push (.cells z vs)) else none
 | .sl z1 b off len cap sz => match h.f b with
  | .cells m cs => if m = cap * z ∧ sz = cap * z ∧ z1 = z ∧ off = 0 ∧ bv ≠ b ∧ i ≤ len ∧ len ≤ cap ∧ (len + 1) * by_ ≤ roomMax then
    some (.sl z h.n 0 (len + 1) (max cap (len + 1)) (max cap (len + 1) * z), (h.set b .dead).push (.cells (max cap (len + 1) * z) (insRow z cs vs i len))) else none
  | _ => none
 | _ => none
def insH (z by_ : Nat) (args : List CV) (h : Hp) : Option (CV × Hp) := match args with
 | [s, x, y] => match asI64 x, y with
  | some i, .sl z2 bv o2 l2 c2 s2 => match h.f bv with
   | .cells m2 vs => if z2 = z ∧ o2 = 0 ∧ l2 = 1 ∧ c2 = 1 ∧ s2 = z ∧ m2 = z ∧ 0 ≤ i then insS z by_ h s i.toNat bv vs else none
   | _ => none
  | _, _ => none
 | _ => none
class InsT (P : Program) (G : Nat → CV) where
 get : FuncId → Option (Nat × Nat)
 ok : ∀ f z by_, get f = some (z, by_) → ∀ args h r h', insH z by_ args h = some (r, h') → CallS P G f args h r h'
instance (priority := 10) noIns (P : Program) (G : Nat → CV) : InsT P G := ⟨fun _ => none, fun f z by_ h => by cases h⟩
abbrev CallB := FuncId → List CV → Hp → Option (CV × Hp)
abbrev OutB := Option (CExit × Sl × Hp)
mutual
def CB.beq : CB → CB → Bool
 | .none, y => match y with | .none => true | _ => false
 | .dead, y => match y with | .dead => true | _ => false
 | .cells n cs, y => match y with | .cells n' cs' => Nat.beq n n' && beqL cs cs' | _ => false
 | .map .., _ => false
 | .iter .., _ => false
end
section
variable (P : Program) (G : Nat → CV)
def guardB (s : Sl) (g : Option (Option Tmp × Bool)) : Option Bool := match g with
 | none => some true
 | some (some d, w) => match look s d with
  | .bool b => some (b == w)
  | .bad => none
  | _ => some false
 | some (none, _) => some false
def bdB (call : CallB) (b : Bd) (s : Sl) (h : Hp) : Option (CV × Hp) := match b with
 | .mo m => mstepH P (ev G (look s)) h m
 | .callF f args => call f (args.map (ev G (look s))) h
 | .callV x args => match ev G (look s) x with
  | .fn g first captured => match funOkB P g with
   | true => call g (first ++ args.map (ev G (look s)) ++ captured) h
   | false => none
  | _ => none
 | .callI x name args => match ev G (look s) x with
  | .ifc t v => match methC P t name with
   | some g => match funOkB P g with
    | true => call g (v :: args.map (ev G (look s))) h
    | false => none
   | none => none
  | _ => none
def runSB (call : CallB) : List Stp → Sl → Hp → Option (Sl × Hp)
 | [], s, h => some (s, h)
 | x :: r, s, h => match guardB s x.g with
  | some true => match bdB P G call x.b s h with
   | some (v, h') => runSB call r (putT s x.dst v) h'
   | none => none
  | some false => runSB call r (putT s x.dst undefC) h
  | none => none
def stillB (b : Bd) (s : Sl) (v : CV) (h h' h1 : Hp) : Bool := match b with
 | .mo m => match m.isNew with
  | true => CB.beq (h1.f h.n) (h'.f h.n)
  | false => match m.looks with
   | true => match mstepH P (ev G (look s)) h1 m with
    | some (v', _) => CV.beq v' v
    | none => false
   | false => false
 | _ => true
def chkB (ids : List Nat) (h : Hp) : List (Nat × (Hp → Bool)) → Bool
 | [] => true
 | e :: r => (!ids.contains e.1 || e.2 h) && chkB ids h r
def runDB (call : CallB) : List Stp → Sl → Hp → List (Nat × (Hp → Bool)) → Option (Sl × Hp)
 | [], s, h, _ => some (s, h)
 | x :: r, s, h, seen => match guardB s x.g with
  | some true => match bdB P G call x.b s h with
   | some (v, h') => match chkB x.chk h' seen with
    | true => runDB call r (putT s x.dst v) h' (match x.keep with | true => (x.i, stillB P G x.b s v h h') :: seen | false => seen)
    | false => none
   | none => none
  | some false => runDB call r (putT s x.dst undefC) h seen
  | none => none
def cdStep (call : CallB) (ih : Cd → Sl → Hp → OutB) (c : Cd) (s : Sl) (h : Hp) : OutB :=
 match c with
 | .skip => some (.normal, s, h)
 | .ret => some (.ret, s, h)
 | .exit id => some (.exit id, s, h)
 | .reg x => match runSB P G call x s h with
  | some (s1, h1) => some (.normal, s1, h1)
  | none => none
 | .dreg x => match runDB P G call x s h [] with
  | some (s1, h1) => some (.normal, s1, h1)
  | none => none
 | .seq a b => match ih a s h with
  | some (.normal, s1, h1) => ih b s1 h1
  | r => r
 | .cond c x y => match ev G (look s) c with
  | .bool true => ih x s h
  | .bool false => ih y s h
  | _ => none
 | .block id c => match ih c s h with
  | some (.exit id', s1, h1) => match Nat.beq id' id with
   | true => some (.normal, s1, h1)
   | false => some (.exit id', s1, h1)
  | r => r
 | .loop c => match ih c s h with
  | some (.normal, s1, h1) => ih (.loop c) s1 h1
  | r => r
def cdRun (call : CallB) : Nat → Cd → Sl → Hp → OutB
 | 0 => fun _ _ _ => none
 | k + 1 => cdStep P G call (cdRun call k)
def resB (s : Sl) (h : Hp) : List Mo → List CV → Option CV
 | [], acc => some (tuple1 acc)
 | m :: r, acc => match mstepH P (ev G (look s)) h m with
  | some (v, _) => resB s h r (acc ++ [v])
  | none => none
abbrev Orc := FuncId → Option (Bool × (List CV → Option CV))
abbrev Tbl := FuncId → Option (Cd × List Mo)
def askB (orc : Orc) (f : FuncId) (args : List CV) (h : Hp) : Option CV :=
 match orc f with
 | some (n, g) => match rdAll (rdC h 20) args with
  | some args' => match g args' with
   | some r => match n || r.flat with | true => some r | false => none
   | none => none
  | none => none
 | none => none
def callBStep [InsT P G] (orc : Orc) (tbl : Tbl) (fuel : Nat) (call : CallB) : CallB := fun f args h =>
 match InsT.get P G f with
 | some (z, by_) => insH z by_ args h
 | none => match askB orc f args h with
 | some r => some (r, h)
 | none => match tbl f with
  | none => none
  | some (c, rs) => match cdRun P G call fuel c (ofArgs 0 .nil args) h with
   | some (.normal, s', h') => match resB P G s' h' rs [] with | some r => some (r, h') | none => none
   | some (.ret, s', h') => match resB P G s' h' rs [] with | some r => some (r, h') | none => none
   | _ => none
def callB [InsT P G] (orc : Orc) (tbl : Tbl) (fuel : Nat) : Nat → CallB
 | 0 => fun _ _ _ => none
 | k + 1 => callBStep P G orc tbl fuel (callB orc tbl fuel k)
end
end Go.CM
