/-
  The canonical machine, part Y: from code without types to a call.
-/
import Derived.Test.YtfedhobckpgokaaCmX
namespace Go.CM
open Go
set_option linter.unusedVariables false
set_option linter.unusedSimpArgs false

section
variable {P : Program} {G : Nat → CV}

theorem plan_fst {ms : List Nat} {ops : Array Oper} : ∀ (ord done effs : List Nat), (∀ i ∈ ord, i < ops.size) → (planGo ms ops ord done effs).map (·.1) = ord
  | [], _, _, _ => rfl
  | i :: r, done, effs, h => by
    unfold planGo
    have hi : i < ops.size := h i (by simp)
    rw [Array.getElem?_eq_getElem hi]
    simp only
    split <;> simp only [List.map_cons] <;> rw [plan_fst r _ _ fun j hj => h j (by simp [hj])]

theorem plan_cov {ms : List Nat} {ops : Array Oper} : ∀ (ord done effs : List Nat) (p i : Nat) (chk : List Nat), (∀ i ∈ ord, i < ops.size) → (planGo ms ops ord done effs)[p]? = some (i, chk) →
    (∃ o, ops[i]? = some o ∧ isEffOp o.op = true) → ∀ j, (j ∈ done ∨ ∃ p0, p0 < p ∧ ord[p0]? = some j) → (∃ o, ops[j]? = some o ∧ touches o.op = true) → (∀ e ∈ effs, preOf ms e j = false) →
    (∀ (p' i' : Nat) (o : Oper), p' ≤ p → ord[p']? = some i' → ops[i']? = some o → isEffOp o.op = true → (p' = p ∨ o.guard = none) → preOf ms i' j = false) → j ∈ chk
  | [], done, effs, p, i, chk, _, hp, _, _, _, _, _, _ => by simp [planGo] at hp
  | x :: r, done, effs, p, i, chk, hord, hp, he, j, hj, ht, hef, hpr => by
    unfold planGo at hp
    have hx : x < ops.size := hord x (by simp)
    rw [Array.getElem?_eq_getElem hx] at hp
    have hox : ops[x]? = some ops[x] := Array.getElem?_eq_getElem hx
    simp only at hp
    have hr : ∀ i ∈ r, i < ops.size := fun j hj => hord j (by simp [hj])
    cases hE : isEffOp ops[x].op with
    | true =>
      rw [hE] at hp
      simp only at hp
      cases p with
      | zero =>
        simp only [List.getElem?_cons_zero, Option.some.injEq, Prod.mk.injEq] at hp
        obtain ⟨rfl, rfl⟩ := hp
        obtain ⟨o, h1, h2⟩ := ht
        rcases hj with hj | ⟨p0, hp0, _⟩
        · refine List.mem_filter.2 ⟨hj, ?_⟩
          simp only [h1, h2, Bool.true_and, List.all_cons, Bool.and_eq_true, List.all_eq_true]
          exact ⟨by simp [hpr 0 x ops[x] (Nat.le_refl _) (by simp) hox hE (.inl rfl)], fun e he => by simp [hef e he]⟩
        · omega
      | succ p =>
        simp only [List.getElem?_cons_succ] at hp
        refine plan_cov r _ _ p i chk hr hp he j ?_ ht ?_ ?_
        · rcases hj with hj | ⟨p0, hp0, hj⟩
          · exact .inl (by simp [hj])
          · cases p0 with
            | zero => simp only [List.getElem?_cons_zero, Option.some.injEq] at hj; exact .inl (by simp [hj])
            | succ p0 => exact .inr ⟨p0, by omega, by simpa using hj⟩
        · intro e he'
          cases hg : ops[x].guard with
          | none =>
            rw [hg] at he'
            rcases List.mem_cons.1 he' with rfl | he'
            · exact hpr 0 e ops[e] (by omega) (by simp) hox hE (.inr hg)
            · exact hef e he'
          | some jw => rw [hg] at he'; exact hef e he'
        · intro p' i' o hp' hi' ho hE' hg
          exact hpr (p' + 1) i' o (by omega) (by simpa using hi') ho hE' (by rcases hg with rfl | hg; exact .inl rfl; exact .inr hg)
    | false =>
      rw [hE] at hp
      simp only at hp
      cases p with
      | zero =>
        simp only [List.getElem?_cons_zero, Option.some.injEq, Prod.mk.injEq] at hp
        obtain ⟨rfl, rfl⟩ := hp
        obtain ⟨o, h1, h2⟩ := he
        rw [hox] at h1; cases h1
        rw [hE] at h2; cases h2
      | succ p =>
        simp only [List.getElem?_cons_succ] at hp
        refine plan_cov r _ _ p i chk hr hp he j ?_ ht hef ?_
        · rcases hj with hj | ⟨p0, hp0, hj⟩
          · exact .inl (by simp [hj])
          · cases p0 with
            | zero => simp only [List.getElem?_cons_zero, Option.some.injEq] at hj; exact .inl (by simp [hj])
            | succ p0 => exact .inr ⟨p0, by omega, by simpa using hj⟩
        · intro p' i' o hp' hi' ho hE' hg
          exact hpr (p' + 1) i' o (by omega) (by simpa using hi') ho hE' (by rcases hg with rfl | hg; exact .inl rfl; exact .inr hg)

theorem eager_spec {ms : List Nat} {ops : Array Oper} : ∀ {ord : List Nat}, eagerB ms ops ord = true → ∀ (p p' i j : Nat) (o : Oper), ord[p]? = some i → ord[p']? = some j → p < p' → ops[i]? = some o → isEffOp o.op = true → preOf ms j i = true
  | [], _, p, p', i, j, o, hp, _, _, _, _ => by simp at hp
  | x :: r, h, p, p', i, j, o, hp, hp', hlt, ho, he => by
    simp only [eagerB, Bool.and_eq_true] at h
    cases p' with
    | zero => omega
    | succ p' =>
      simp only [List.getElem?_cons_succ] at hp'
      cases p with
      | zero =>
        simp only [List.getElem?_cons_zero, Option.some.injEq] at hp
        subst hp
        rw [ho] at h
        simp only [he, Bool.not_true, Bool.false_or, List.all_eq_true] at h
        exact h.1 j (List.mem_of_getElem? hp')
      | succ p => exact eager_spec h.2 p p' i j o (by simpa using hp) hp' (by omega) ho he

theorem mapM_get {α β : Type} {f : α → Option β} : ∀ {l : List α} {r : List β}, l.mapM f = some r → ∀ (p : Nat) (x : β), r[p]? = some x → ∃ a, l[p]? = some a ∧ f a = some x
  | [], r, h, p, x, hx => by simp at h; subst h; simp at hx
  | a :: l, r, h, p, x, hx => by
    rw [List.mapM_cons] at h
    simp only [Option.bind_eq_bind, bind_some, Option.pure_def, Option.some.injEq] at h
    obtain ⟨b, h1, r', h2, rfl⟩ := h
    cases p with
    | zero => simp only [List.getElem?_cons_zero, Option.some.injEq] at hx; subst hx; exact ⟨a, rfl, h1⟩
    | succ p => obtain ⟨a', h3, h4⟩ := mapM_get h2 p x (by simpa using hx); exact ⟨a', by simpa using h3, h4⟩
theorem mapM_len {α β : Type} {f : α → Option β} : ∀ {l : List α} {r : List β}, l.mapM f = some r → r.length = l.length
  | [], r, h => by simp at h; subst h; rfl
  | a :: l, r, h => by
    rw [List.mapM_cons] at h
    simp only [Option.bind_eq_bind, bind_some, Option.pure_def, Option.some.injEq] at h
    obtain ⟨b, h1, r', h2, rfl⟩ := h
    simp [mapM_len h2]

theorem heapAt_drop (es : List (TS × Sg × Hl)) (l' : Hl) (n q : Nat) : heapAt (es.drop n) l' q = heapAt es l' (n + q) := by
  unfold heapAt; rw [List.getElem?_drop]

theorem draw_tr {id N' : Nat} {ops : Array Oper} {steps : List Stp} (hd : ∀ (i : Nat) (o : Oper), ops[i]? = some o → dstOk N' o.dst = true)
    (hord : orderB (masksOf ops) ops (sched (masksOf ops) ops) = true) (heag : eagerB (masksOf ops) ops (sched (masksOf ops) ops) = true)
    (hst : (planGo (masksOf ops) ops (sched (masksOf ops) ops) [] []).mapM (fun p => stpOf P ops p.1 p.2 (((planGo (masksOf ops) ops (sched (masksOf ops) ops) [] []).flatMap (·.2)).contains p.1)) = some steps)
    {σ σ' : Sg} {l l' : Hl} {es : List (TS × Sg × Hl)} (tr : Tr3 P G ops steps σ l [] es σ' l') : Ev P G (.code (.region id ops true) N' σ (HL l) .normal σ' (HL l')) := by
  simp only [orderB, Bool.and_eq_true] at hord
  obtain ⟨⟨⟨⟨o1, o2⟩, o3⟩, o4⟩, o5⟩ := hord
  have hrange : ∀ i ∈ sched (masksOf ops) ops, i < ops.size := fun i hi => by
    rw [List.all_eq_true] at o4
    simpa [Nat.blt_eq] using o4 i hi
  have hplan : (planGo (masksOf ops) ops (sched (masksOf ops) ops) [] []).map (·.1) = sched (masksOf ops) ops := plan_fst _ _ _ hrange
  have hstep : ∀ (p : Nat) (x : Stp), steps[p]? = some x → ∃ o, StpOk P ops x o ∧ (planGo (masksOf ops) ops (sched (masksOf ops) ops) [] [])[p]? = some (x.i, x.chk) ∧
      x.keep = ((planGo (masksOf ops) ops (sched (masksOf ops) ops) [] []).flatMap (·.2)).contains x.i := fun p x hx => by
    obtain ⟨a, h1, h2⟩ := mapM_get hst p x hx
    obtain ⟨o, h3, h4, h5, h6⟩ := stpOf_ok h2
    exact ⟨o, h3, by rw [h1, h4, h5], by rw [h6, h4]⟩
  have hstepi : ∀ (p : Nat) (x : Stp), steps[p]? = some x → (sched (masksOf ops) ops)[p]? = some x.i := fun p x hx => by
    obtain ⟨o, _, h1, _⟩ := hstep p x hx
    rw [← hplan, List.getElem?_map, h1]; rfl
  have hidx : ∀ (p : Nat) (e : TS × Sg × Hl), es[p]? = some e → ∃ x, steps[p]? = some x ∧ x.i = e.1.idx := fun p e he => by
    have := congrArg (·[p]?) tr.idx
    simp only [List.getElem?_map, he, Option.map_some] at this
    cases hx : steps[p]? with
    | none => rw [hx] at this; cases this
    | some x => rw [hx] at this; simp only [Option.map_some, Option.some.injEq] at this; exact ⟨x, rfl, this.symm⟩
  have hsch : ∀ (p : Nat) (e : TS × Sg × Hl), es[p]? = some e → (sched (masksOf ops) ops)[p]? = some e.1.idx := fun p e he => by
    obtain ⟨x, h1, h2⟩ := hidx p e he
    rw [hstepi p x h1, h2]
  have hget : ∀ (p : Nat) (t : TS), (es.map (·.1))[p]? = some t → ∃ e, es[p]? = some e ∧ e.1 = t := fun p t ht => by simpa using ht
  have heff : ∀ (p : Nat) (e : TS × Sg × Hl), es[p]? = some e → e.1.isEff = true → ∃ o, ops[e.1.idx]? = some o ∧ isEffOp o.op = true ∧ (wantedC ops e.2.1 o = some true) := fun p e he hE => by
    have hsk : e.1.isSkip = false := by cases h : e.1 <;> rw [h] at hE <;> first | rfl | cases hE
    obtain ⟨x, o, v, l1, seen1, h1, h2, h3, h4⟩ := tr.split p e he hsk
    have hso := (tr.at.1 p e he).1
    have hix := h3.idx
    have hh := h2.here
    rw [← hix] at hh
    refine ⟨o, hh, ?_, ?_⟩
    · revert hE
      generalize e.1 = t at h3
      intro hE
      cases h3 with
      | pure => cases hE
      | new => cases hE
      | eff he _ => exact he
    · revert hso hE hh
      generalize e.1 = t
      intro hE hso hh
      cases t <;> first | (cases hE; done) | skip
      obtain ⟨o', h5, h6, _⟩ := hso
      simp only [TS.idx] at hh
      rw [hh] at h5; cases h5
      exact h6
  have ot : OrdText ops (preOf (masksOf ops)) (es.map (·.1)) := by
    refine ⟨drawTextB_spec o1, fun i hi => ?_, fun p p' t t' hp hp' he => ?_, fun p t hp => ?_, fun p p' t t' hp hp' hlt => ?_, fun p p' t t' hp hp' hlt hE => ?_⟩
    · rw [List.all_eq_true] at o5
      have := o5 i (by simpa using hi)
      have hm : i ∈ sched (masksOf ops) ops := by simpa using this
      have hes : (es.map (·.1)).map TS.idx = sched (masksOf ops) ops := by
        rw [List.map_map]
        show es.map (fun e => e.1.idx) = _
        rw [tr.idx, ← hplan]
        apply List.ext_getElem?
        intro p
        rw [List.getElem?_map, List.getElem?_map]
        cases hx : steps[p]? with
        | none =>
          have : (planGo (masksOf ops) ops (sched (masksOf ops) ops) [] [])[p]? = none := by
            rw [List.getElem?_eq_none_iff] at hx ⊢
            rw [← mapM_len hst]; exact hx
          rw [this]; rfl
        | some x => obtain ⟨o, _, h1, _⟩ := hstep p x hx; rw [h1]; rfl
      rw [← hes] at hm
      obtain ⟨t, h1, h2⟩ := List.mem_map.1 hm
      obtain ⟨p, hp⟩ := List.getElem?_of_mem h1
      exact ⟨p, t, hp, h2⟩
    · obtain ⟨e, g1, g2⟩ := hget p t hp
      obtain ⟨e', g1', g2'⟩ := hget p' t' hp'
      have a1 := hsch p e g1
      have a2 := hsch p' e' g1'
      rw [g2] at a1; rw [g2'] at a2
      rcases Nat.lt_trichotomy p p' with h | h | h
      · exact absurd he (ordB_spec o2 p p' _ _ a1 a2 h).1
      · exact h
      · exact absurd he.symm (ordB_spec o2 p' p _ _ a2 a1 h).1
    · obtain ⟨e, g1, g2⟩ := hget p t hp
      have a1 := hsch p e g1
      rw [g2] at a1
      exact hrange _ (List.mem_of_getElem? a1)
    · obtain ⟨e, g1, g2⟩ := hget p t hp
      obtain ⟨e', g1', g2'⟩ := hget p' t' hp'
      have a1 := hsch p e g1
      have a2 := hsch p' e' g1'
      rw [g2] at a1; rw [g2'] at a2
      exact (ordB_spec o2 p p' _ _ a1 a2 hlt).2
    · obtain ⟨e, g1, g2⟩ := hget p t hp
      obtain ⟨e', g1', g2'⟩ := hget p' t' hp'
      obtain ⟨o, b1, b2, _⟩ := heff p e g1 (by rw [g2]; exact hE)
      have a1 := hsch p e g1
      have a2 := hsch p' e' g1'
      rw [g2] at a1 b1; rw [g2'] at a2
      exact eager_spec heag p p' _ _ o a1 a2 hlt b1 b2
  have hheap : ∀ q, q ≤ es.length → (stAt ops ⟨σ, HL l⟩ (es.map (·.1)) q).h = HL (heapAt es l' q) := fun q hq => by
    unfold heapAt
    cases he : es[q]? with
    | none =>
      have : q = es.length := by rw [List.getElem?_eq_none_iff] at he; omega
      rw [this, tr.at.2]
    | some e => rw [(tr.at.1 q e he).2]
  have tk : TrOk P G ops (preOf (masksOf ops)) ⟨σ, HL l⟩ (es.map (·.1)) := by
    refine ⟨fun p t hp => ?_, fun q hq p t hpq hp hno => ?_⟩
    · obtain ⟨e, g1, g2⟩ := hget p t hp
      obtain ⟨c1, c2⟩ := tr.at.1 p e g1
      rw [c2, ← g2]; exact c1
    · obtain ⟨e, g1, g2⟩ := hget p t hp
      obtain ⟨c1, c2⟩ := tr.at.1 p e g1
      have hql : q ≤ es.length := by
        rcases hq with rfl | ⟨tq, hq, _⟩
        · simp
        · obtain ⟨eq, g3, _⟩ := hget q tq hq
          exact Nat.le_of_lt (List.getElem?_eq_some_iff.1 g3).1
      rw [hheap q hql, c2]
      cases hsk : e.1.isSkip with
      | true => rw [← g2]; cases h : e.1 <;> rw [h] at hsk <;> first | trivial | cases hsk
      | false =>
        obtain ⟨x, o, v, l1, seen1, h1, h2, h3, h4⟩ := tr.split p e g1 hsk
        obtain ⟨o', h2', hpl, hkeep⟩ := hstep p x h1
        have hoo : o' = o := by have a := h2'.here; have b := h2.here; rw [a] at b; exact Option.some.inj b
        subst hoo
        have ask : touches o'.op = true → ∀ (p' : Nat) (e' : TS × Sg × Hl), p' < q - (p + 1) → (es.drop (p + 1))[p']? = some e' → e'.1.isEff = true →
            (x.i, stillP P G x.b e.2.1 v e.2.2 l1) ∈ seenAdd x.keep x.i (stillP P G x.b e.2.1 v e.2.2 l1) seen1 ∧ ∃ y, (steps.drop (p + 1))[p']? = some y ∧ x.i ∈ y.chk := by
          intro ht p' e' hp' he' hE'
          rw [List.getElem?_drop] at he'
          obtain ⟨y, k1, k2⟩ := hidx _ e' he'
          obtain ⟨oy, k3, k4, _⟩ := hstep _ y k1
          obtain ⟨oe, k5, k6, k7⟩ := heff _ e' he' hE'
          have hin : x.i ∈ y.chk := by
            refine plan_cov _ _ _ _ _ _ hrange k4 ⟨oe, by rw [k2]; exact k5, k6⟩ x.i (.inr ⟨p, by omega, hstepi p x h1⟩) ⟨o', h2.here, ht⟩ (fun e he => by cases he) ?_
            intro p'' i'' o'' hp'' hi'' ho'' hE'' hg
            -- what is at p'' was carried out
            have hlt : p'' < es.length := by
              have := (List.getElem?_eq_some_iff.1 he').1
              omega
            have hes : es[p'']? = some es[p''] := List.getElem?_eq_getElem hlt
            have hid := hsch _ _ hes
            rw [hi''] at hid
            have hid' : i'' = es[p''].1.idx := Option.some.inj hid
            have hE3 : es[p''].1.isEff = true := by
              cases hs3 : es[p''].1.isSkip with
              | true =>
                exfalso
                rcases hg with rfl | hg
                · rw [hes] at he'
                  cases he'
                  cases h : es[p + 1 + p'].1 <;> rw [h] at hE' hs3 <;> first | (cases hs3; done) | (cases hE'; done)
                · have hso := (tr.at.1 _ _ hes).1
                  cases h : es[p''].1 <;> rw [h] at hs3 hso hid' <;> first | (cases hs3; done) | skip
                  obtain ⟨o3, m1, m2⟩ := hso
                  simp only [TS.idx] at hid'
                  rw [← hid', ho''] at m1; cases m1
                  simp [wantedC, hg] at m2
              | false =>
                obtain ⟨x3, o3, v3, l3, seen3, m1, m2, m3, _⟩ := tr.split _ _ hes hs3
                have hi3 := m3.idx
                have hh3 := m2.here
                rw [← hi3, ← hid', ho''] at hh3; cases hh3
                revert m3
                generalize es[p''].1 = t3
                intro m3
                cases m3 with
                | pure m hb hm _ _ =>
                  exfalso
                  have hc := m2.mo m hb
                  have : isEffOp o''.op = false := by
                    revert hc hm
                    cases o''.op <;> simp only [compOp] <;> intro hm hc <;> first | rfl | (exfalso; revert hc hm; done) | skip
                    case store => rw [map_some] at hc; obtain ⟨_, _, rfl⟩ := hc; cases hm
                    case call c =>
                      split at hc
                      · rename_i b hb
                        unfold isEffOp
                        simp only [hb]
                        unfold compBuiltin at hc
                        repeat' split at hc
                        all_goals first
                          | rfl
                          | (cases hc; done)
                          | (cases hc; cases hm; done)
                          | (simp only [bind_some, map_some] at hc; obtain ⟨_, _, rfl⟩ := hc; cases hm; done)
                          | (simp only [bind_some, map_some] at hc; obtain ⟨_, _, _, _, rfl⟩ := hc; cases hm; done)
                          | (simp only [bind_some, ite_some] at hc; obtain ⟨_, _, _, _, _, _, _, rfl⟩ := hc; cases hm; done)
                          | (simp only [bind_some, ite_some] at hc; obtain ⟨_, _, _, _, _, _, _, _, _, rfl⟩ := hc; cases hm; done)
                      · cases hc
                    all_goals (cases hc)
                  rw [this] at hE''; cases hE''
                | new m cs hb hm _ =>
                  exfalso
                  have hc := m2.mo m hb
                  have : isEffOp o''.op = false := by
                    revert hc hm
                    cases o''.op <;> simp only [compOp] <;> intro hm hc <;> first | rfl | (exfalso; revert hc hm; done) | skip
                    case store => rw [map_some] at hc; obtain ⟨_, _, rfl⟩ := hc; cases hm
                    case call c =>
                      split at hc
                      · rename_i b hb
                        unfold isEffOp
                        simp only [hb]
                        unfold compBuiltin at hc
                        repeat' split at hc
                        all_goals first
                          | rfl
                          | (cases hc; done)
                          | (cases hc; cases hm; done)
                          | (simp only [bind_some, map_some] at hc; obtain ⟨_, _, rfl⟩ := hc; cases hm; done)
                          | (simp only [bind_some, map_some] at hc; obtain ⟨_, _, _, _, rfl⟩ := hc; cases hm; done)
                          | (simp only [bind_some, ite_some] at hc; obtain ⟨_, _, _, _, _, _, _, rfl⟩ := hc; cases hm; done)
                          | (simp only [bind_some, ite_some] at hc; obtain ⟨_, _, _, _, _, _, _, _, _, rfl⟩ := hc; cases hm; done)
                      · cases hc
                    all_goals (cases hc)
                  rw [this] at hE''; cases hE''
                | eff _ _ => rfl
            have := hno p'' es[p''].1 (by omega) (by simp [hes]) hE3
            rw [hid', h2.here |> fun _ => (h3.idx).symm, g2]
            exact this
          refine ⟨?_, y, by rw [List.getElem?_drop]; exact k1, hin⟩
          have : x.keep = true := by
            rw [hkeep]
            simp only [List.contains_iff_mem, List.mem_flatMap]
            exact ⟨(y.i, y.chk), List.mem_of_getElem? k4, hin⟩
          rw [this]
          exact List.mem_cons_self
        have goStill : touches o'.op = true → (∀ l x0, stillP P G x.b e.2.1 v e.2.2 l1 l → stillP P G x.b e.2.1 v e.2.2 l1 (l ++ x0)) → stillP P G x.b e.2.1 v e.2.2 l1 l1 → stillP P G x.b e.2.1 v e.2.2 l1 (heapAt es l' q) := by
          intro ht hgrow h0
          have := h4.still x.i _ hgrow h0 (q - (p + 1)) (by simp only [List.length_drop]; omega) (ask ht)
          rwa [heapAt_drop, show p + 1 + (q - (p + 1)) = q by omega] at this
        rw [← g2]
        revert h3 goStill ask g2
        generalize e.1 = t1
        intro g2 h3 ask goStill
        cases h3 with
        | eff => trivial
        | pure m hb hm hl hs =>
          intro o2 ho2
          rw [h2.here] at ho2; cases ho2
          have hc := h2.mo m hb
          cases hr : m.reads with
          | false => exact mstep_ok hc (looks_indep hm hr hs)
          | true =>
            have ht : touches o'.op = true := by
              cases h : touches o'.op with
              | true => rfl
              | false => rw [(comp_reads hc h).1] at hr; cases hr
            have hnn : m.isNew = false := by cases m <;> first | rfl | cases hr
            have hst : ∀ l2, stillP P G x.b e.2.1 v e.2.2 l1 l2 ↔ mstep P (ev G e.2.1) l2 m = some (v, l2) := fun l2 => by rw [hb]; simp only [stillP, hnn]
            have := goStill ht (fun l2 x0 h => by rw [hst] at h ⊢; exact looks_grow hm h) (by rw [hst, hl]; exact hs)
            rw [hst] at this
            exact mstep_ok hc this
        | new m cs hb hm hl =>
          have hc := h2.mo m hb
          have ht : touches o'.op = true := by
            cases h : touches o'.op with
            | true => rfl
            | false => rw [(comp_reads hc h).2] at hm; cases hm
          have hst : ∀ l2 : Hl, stillP P G x.b e.2.1 v e.2.2 l1 l2 ↔ l2[e.2.2.length]? = some (.cells cs.length cs) := fun l2 => by
            rw [hb, hl]; simp only [stillP, hm]; rw [List.getElem?_append_right (Nat.le_refl _)]; simp
          have := goStill ht (fun l2 x0 h => by rw [hst] at h ⊢; rw [List.getElem?_append_left (get_lt h)]; exact h) (by rw [hst, hl, List.getElem?_append_right (Nat.le_refl _)]; simp)
          rw [hst] at this
          show (HL (heapAt es l' q)).f (HL e.2.2).n = _
          rw [HL_f, HL_n, this]
  have := Ev.drawSeq (id := id) ot hd tk
  rw [List.length_map, tr.at.2] at this
  exact this
end

end Go.CM
