/-
  The canonical machine, part Q: what is carried out is so.
-/
import Derived.Test.YtfedhobckpgokaaCmP
namespace Go.CM
open Go
set_option linter.unusedVariables false
set_option linter.unusedSimpArgs false

/-! ### Bits -/
theorem edgeMask_bit (ms : List Nat) (j : Nat) : ∀ (es : List Edge), tb (edgeMask ms es) j = true → ∃ e ∈ es, Region.binds .any e = true ∧ (e.on = j ∨ preOf ms e.on j = true)
  | [], h => by simp [edgeMask, tb] at h
  | e :: es, h => by
    unfold edgeMask at h
    cases hb : Region.binds .any e with
    | false =>
      rw [hb] at h
      obtain ⟨e', h1, h2⟩ := edgeMask_bit ms j es h
      exact ⟨e', List.mem_cons_of_mem _ h1, h2⟩
    | true =>
      rw [hb] at h
      simp only [tb] at h
      have h' : Nat.testBit ((2 ^ e.on ||| ms.getD e.on 0) ||| edgeMask ms es) j = true := h
      rw [Nat.testBit_or, Nat.testBit_or, Bool.or_eq_true, Bool.or_eq_true, Nat.testBit_two_pow] at h'
      rcases h' with (h' | h') | h'
      · exact ⟨e, List.mem_cons_self, hb, .inl (by simpa using h')⟩
      · exact ⟨e, List.mem_cons_self, hb, .inr h'⟩
      · obtain ⟨e', h1, h2⟩ := edgeMask_bit ms j es h'
        exact ⟨e', List.mem_cons_of_mem _ h1, h2⟩

theorem writerL_spec (t : Nat) : ∀ (l : List Oper) (i : Nat), writerL t i l = ((List.range l.length).find? fun j => match l[j]? with | some o => o.dst == some t | none => false).map (· + i)
  | [], i => by simp [writerL]
  | o :: l, i => by
    unfold writerL
    have hdec : dstIs t o = (o.dst == some t) := by
      unfold dstIs
      cases o.dst with
      | none => rfl
      | some d =>
        by_cases h : d = t
        · subst h; simp
        · have : Nat.beq d t = false := nbeq_false h
          simp [this, h]
    rw [hdec, List.length_cons, List.range_succ_eq_map, List.find?_cons]
    simp only [List.getElem?_cons_zero]
    cases hb : (o.dst == some t) with
    | true => simp
    | false =>
      simp only [List.find?_map]
      rw [writerL_spec t l (i + 1)]
      have : ((fun j => match (o :: l)[j]? with | some o => o.dst == some t | none => false) ∘ Nat.succ) = fun j => match l[j]? with | some o => o.dst == some t | none => false := by
        funext j; simp
      rw [this]
      cases (List.range l.length).find? (fun j => match l[j]? with | some o => o.dst == some t | none => false) with
      | none => rfl
      | some j => simp; omega

theorem writerL_eq (ops : Array Oper) (t : Nat) : writerL t 0 ops.toList = writer ops t := by
  rw [writerL_spec]
  unfold writer
  simp only [Array.getElem?_toList, Array.length_toList, Nat.add_zero, Option.map_id_fun', id_eq]
  congr 1

theorem drawTextB_spec {ms : List Nat} {ops : Array Oper} (h : drawTextB ms ops = true) : DrawText ops (preOf ms) := by
  unfold drawTextB at h
  rw [Bool.and_eq_true] at h
  obtain ⟨h, hs⟩ := h
  have key : ∀ (i : Nat) (o : Oper), ops[i]? = some o → _ := fun i o ho => allI_spec _ 0 h i o (by simpa using ho)
  simp only [Nat.zero_add, Bool.and_eq_true] at key
  refine ⟨fun i o e ho he hb => ?_, fun i o j ho hp => ?_, fun i o t ho hd => ?_, fun i o t j ho ht hw => ?_, hs⟩
  · have := (key i o ho).1.1.2
    rw [List.all_eq_true] at this
    have := this e (by simpa using he)
    rw [hb] at this
    simp only [Bool.not_true, Bool.false_or] at this
    simpa [Nat.blt_eq] using this
  · have := nbeq_eq (key i o ho).1.1.1
    have hp' : tb (ms.getD i 0) j = true := hp
    rw [this] at hp'
    obtain ⟨e, h1, h2⟩ := edgeMask_bit ms j _ hp'
    exact ⟨e, by simpa using h1, h2⟩
  · have := (key i o ho).1.2
    rw [hd] at this
    simp only at this
    rw [writerL_eq] at this
    cases hw : writer ops t with
    | none => rw [hw] at this; cases this
    | some j => rw [hw] at this; simp only at this; rw [nbeq_eq this]
  · have := (key i o ho).2
    rw [List.all_eq_true] at this
    have := this t ht
    rw [writerL_eq, hw] at this
    simp only [Bool.or_eq_true] at this
    rcases this with (h1 | h1) | h1
    · exact .inl h1
    · exact .inr (.inl h1)
    · exact .inr (.inr (nbeq_eq h1))

theorem ordB_spec {ms : List Nat} : ∀ {l : List Nat}, ordB ms l = true → ∀ (p p' : Nat) (i j : Nat), l[p]? = some i → l[p']? = some j → p < p' → i ≠ j ∧ preOf ms i j = false
  | [], _, p, p', i, j, hi, _, _ => by simp at hi
  | x :: l, h, p, p', i, j, hi, hj, hlt => by
    simp only [ordB, Bool.and_eq_true, List.all_eq_true] at h
    cases p' with
    | zero => omega
    | succ p' =>
      simp only [List.getElem?_cons_succ] at hj
      cases p with
      | zero =>
        simp only [List.getElem?_cons_zero, Option.some.injEq] at hi
        subst hi
        have := h.1 j (List.mem_of_getElem? hj)
        simp only [Bool.not_eq_true'] at this
        refine ⟨fun he => ?_, this.2⟩
        subst he
        rw [nbeq_true rfl] at this
        cases this.1
      | succ p =>
        simp only [List.getElem?_cons_succ] at hi
        exact ordB_spec h.2 p p' i j hi hj (by omega)

section
variable {P : Program} {G : Nat → CV}

/-! ### Pure operations leave the heap alone -/
theorem map_val {x : Option CV} {h h' : Hp} {v : CV} (hx : (x.map fun y => Res.val y h) = some (.val v h')) : x = some v ∧ h' = h := by
  cases x with
  | none => cases hx
  | some y => simp only [Option.map_some, Option.some.injEq, Res.val.injEq] at hx; obtain ⟨rfl, rfl⟩ := hx; exact ⟨rfl, rfl⟩

theorem builtin_pure {h h' : Hp} {b : Builtin} {ts : List TypeId} {args : List CV} {v : CV} (hb : b = .len ∨ b = .cap ∨ b = .min ∨ b = .max) (hs : builtinC P h b ts args = some (.val v h')) : ∀ h2, builtinC P h2 b ts args = some (.val v h2) := by
  intro h2
  have key : ∀ h2, builtinC P h2 b ts args = (match b, ts, args with | .len, [t], [x] => lenC P t x | .cap, [t], [x] => capC P t x | .min, _, [x, y] => min2C x y | .max, _, [x, y] => max2C x y | _, _, _ => none).map fun v => .val v h2 := by
    intro h2
    rcases hb with rfl | rfl | rfl | rfl
    · match ts, args with
      | [t], [x] => rfl
      | [], _ => rfl
      | _ :: _ :: _, _ => rfl
      | [t], [] => rfl
      | [t], _ :: _ :: _ => rfl
    · match ts, args with
      | [t], [x] => rfl
      | [], _ => rfl
      | _ :: _ :: _, _ => rfl
      | [t], [] => rfl
      | [t], _ :: _ :: _ => rfl
    · match args with
      | [x, y] => rfl
      | [] => rfl
      | [_] => rfl
      | _ :: _ :: _ :: _ => rfl
    · match args with
      | [x, y] => rfl
      | [] => rfl
      | [_] => rfl
      | _ :: _ :: _ :: _ => rfl
  rw [key] at hs ⊢
  rw [(map_val hs).1]
  rfl

theorem pure_step {h h' : Hp} {ρ : Operand → CV} {op : Op} {v : CV} (hp : isPureOp op = true) (hs : stepC P h ρ op = some (.val v h')) : h' = h := by
  cases op <;> try (cases hp; done)
  case makeFunc fn first captured =>
    cases fn <;> simp only [stepC] at hs <;> cases hs
    rfl
  case call c =>
    simp only [isPureOp] at hp
    simp only [stepC, callC] at hs
    cases hc : c.callee with
    | value f => rw [hc] at hp; cases hp
    | invoke f => rw [hc] at hp; cases hp
    | builtin b =>
      rw [hc] at hs hp
      simp only at hs
      have hb : b = .len ∨ b = .cap ∨ b = .min ∨ b = .max := by cases b <;> simp_all
      have := builtin_pure hb hs h
      rw [hs] at this
      cases this; rfl
  all_goals simp only [stepC] at hs
  all_goals first
    | (cases hs; rfl)
    | exact (map_val hs).2
    | (split at hs <;> first | (cases hs; done) | (cases hs; rfl) | exact (map_val hs).2)

theorem pure_indep {h h' h2 : Hp} {ρ : Operand → CV} {op : Op} {v : CV} (hp : isPureOp op = true) (hr : readsOp op = false) (hs : stepC P h ρ op = some (.val v h')) : stepC P h2 ρ op = some (.val v h2) := by
  cases op <;> try (cases hp; done)
  case makeFunc fn first captured =>
    cases fn <;> simp only [stepC] at hs <;> cases hs
    rfl
  case call c =>
    simp only [isPureOp] at hp
    simp only [stepC, callC] at hs ⊢
    cases hc : c.callee with
    | value f => rw [hc] at hp; cases hp
    | invoke f => rw [hc] at hp; cases hp
    | builtin b =>
      rw [hc] at hs hp
      simp only at hs ⊢
      have hb : b = .len ∨ b = .cap ∨ b = .min ∨ b = .max := by cases b <;> simp_all
      exact builtin_pure hb hs h2
  all_goals try (cases hr; done)
  all_goals simp only [stepC] at hs ⊢
  all_goals first
    | (cases hs; rfl)
    | (rw [(map_val hs).1]; rfl)
    | (split at hs <;> first | (cases hs; done) | (cases hs; simp_all; done) | (have hm := (map_val hs).1; simp_all))

/-! ### Orders -/
def CallOk (P : Program) (G : Nat → CV) (call : CallF) : Prop := ∀ f args h r h', call f args h = some (r, h') → Ev P G (.call f args h r h')

theorem opR_ok {call : CallF} (hc : CallOk P G call) {op : Op} {s : Sl} {h h' : Hp} {v : CV} (hr : opR P G call op s h = some (v, h')) : Ev P G (.op op (look s) h v h') := by
  unfold opR at hr
  split at hr
  · rename_i v' h1 hs
    cases hr
    exact .opVal hs
  · rename_i f args h1 hs
    exact .opCall hs (hc _ _ _ _ _ hr)
  · cases hr

theorem runOps_ok {call : CallF} (hc : CallOk P G call) {all : Array Oper} {N : Nat} : ∀ {l : List Oper} {s : Sl} {h : Hp} {s' : Sl} {h' : Hp}, runOps P G call all N l s h = some (s', h') → Ev P G (.ops all l N (look s) h (look s') h')
  | [], s, h, s', h', hr => by cases hr; exact .opsNil
  | o :: l, s, h, s', h', hr => by
    unfold runOps at hr
    split at hr
    · cases hr
    · rename_i hd
      split at hr
      · rename_i hw
        have := runOps_ok hc hr
        rw [look_put] at this
        exact .opsSkip hw hd this
      · rename_i hw
        split at hr
        · rename_i v h1 ho
          have := runOps_ok hc hr
          rw [look_put] at this
          exact .opsOp hw hd (opR_ok hc ho) this
        · cases hr
      · cases hr

/-- What stands in a trace. -/
structure StepRun (P : Program) (G : Nat → CV) (ops : Array Oper) (e : En) : Prop where
  step : StepOkC P G ops ⟨look e.s, e.h⟩ e.t
  pure : ∀ i v, e.t = .pure i v → ∃ o, ops[i]? = some o ∧ isPureOp o.op = true ∧ stepC P e.h (ev G (look e.s)) o.op = some (.val v e.h)

theorem stepTS_ok {call : CallF} (hc : CallOk P G call) {ops : Array Oper} {i : Nat} {o : Oper} {s : Sl} {h : Hp} {t : TS} (ho : ops[i]? = some o) (hr : stepTS P G call ops i o s h = some t) : StepRun P G ops ⟨t, s, h⟩ ∧ t.idx = i := by
  unfold stepTS at hr
  split at hr
  · cases hr
  · rename_i hw
    cases hr
    exact ⟨⟨⟨o, ho, hw⟩, fun i v he => by cases he⟩, rfl⟩
  · rename_i hw
    split at hr
    · rename_i hp
      split at hr
      · rename_i v h1 hs
        cases hr
        have := pure_step hp hs
        subst this
        refine ⟨⟨⟨o, ho, hw⟩, fun i' v' he => ?_⟩, rfl⟩
        cases he
        exact ⟨o, ho, hp, hs⟩
      · cases hr
    · split at hr
      · rename_i cs mk hn
        cases hr
        exact ⟨⟨⟨o, mk, ho, hw, hn, rfl⟩, fun i v he => by cases he⟩, rfl⟩
      · split at hr
        · rename_i v h1 hq
          split at hr
          · rename_i hle
            cases hr
            exact ⟨⟨⟨o, ho, hw, opR_ok hc hq, Nat.le_of_ble_eq_true hle⟩, fun i v he => by cases he⟩, rfl⟩
          · cases hr
        · cases hr

theorem stAt_cons {ops : Array Oper} {s0 : S2} {t : TS} {tr : List TS} (p : Nat) : stAt ops s0 (t :: tr) (p + 1) = stAt ops (nextS ops s0 t) tr p := by
  simp [stAt]

theorem runTr_ok {call : CallF} (hc : CallOk P G call) {ops : Array Oper} : ∀ {ord : List Nat} {s : Sl} {h : Hp} {l : List En} {s' : Sl} {h' : Hp}, runTr P G call ops ord s h = some (l, s', h') →
    (l.map (·.t)).map TS.idx = ord ∧ (∀ (p : Nat) (e : En), l[p]? = some e → StepRun P G ops e ∧ stAt ops ⟨look s, h⟩ (l.map (·.t)) p = ⟨look e.s, e.h⟩) ∧ stAt ops ⟨look s, h⟩ (l.map (·.t)) l.length = ⟨look s', h'⟩
  | [], s, h, l, s', h', hr => by cases hr; exact ⟨rfl, fun p e he => by simp at he, rfl⟩
  | i :: r, s, h, l, s', h', hr => by
    unfold runTr at hr
    split at hr
    · cases hr
    · rename_i o ho
      split at hr
      · cases hr
      · rename_i t ht
        split at hr
        · rename_i l' s1 h1 hl
          cases hr
          obtain ⟨a1, a2, a3⟩ := runTr_ok hc hl
          obtain ⟨b1, b2⟩ := stepTS_ok hc ho ht
          have hnx : nextS ops ⟨look s, h⟩ t = ⟨look (putT s o.dst t.val), nextH h t⟩ := by
            simp [nextS, look_put, dstOf, b2, ho]
          refine ⟨by simp [a1, b2], fun p e he => ?_, ?_⟩
          · cases p with
            | zero =>
              simp only [List.getElem?_cons_zero, Option.some.injEq] at he
              subst he
              exact ⟨b1, rfl⟩
            | succ p =>
              simp only [List.getElem?_cons_succ] at he
              obtain ⟨c1, c2⟩ := a2 p e he
              refine ⟨c1, ?_⟩
              rw [List.map_cons, stAt_cons, hnx]
              exact c2
          · rw [List.map_cons, List.length_cons, stAt_cons, hnx]
            exact a3
        · cases hr

/-! ### What was carried out still says the same -/
theorem still_seen {ms : List Nat} {ops : Array Oper} {hf : Hp} : ∀ {l seen : List En}, stillGo P G ms ops hf l seen = true → ∀ x ∈ seen, ∀ (q : Nat) (hq : Hp),
    (q = l.length ∧ hq = hf ∨ ∃ e, l[q]? = some e ∧ e.t.isEff = true ∧ e.h = hq) → (∀ (p' : Nat) (e' : En), p' < q → l[p']? = some e' → e'.t.isEff = true → preOf ms e'.t.idx x.t.idx = false) → stillOne P G ops hq x = true
  | [], seen, h, x, hx, q, hq, hcase, hno => by
    unfold stillGo at h
    rw [List.all_eq_true] at h
    rcases hcase with ⟨_, rfl⟩ | ⟨e, he, _⟩
    · exact h x hx
    · simp at he
  | e :: r, seen, h, x, hx, q, hq, hcase, hno => by
    unfold stillGo at h
    cases hE : e.t.isEff with
    | true =>
      rw [hE] at h
      simp only [Bool.and_eq_true] at h
      obtain ⟨⟨h1, _⟩, h2⟩ := h
      cases q with
      | zero =>
        rcases hcase with ⟨hl, _⟩ | ⟨e', he', _, rfl⟩
        · simp at hl
        · simp only [List.getElem?_cons_zero, Option.some.injEq] at he'
          subst he'
          rw [List.all_eq_true] at h1
          exact h1 x hx
      | succ q =>
        refine still_seen h2 x ?_ q hq ?_ (fun p' e' hp he hee => hno (p' + 1) e' (by omega) (by simpa using he) hee)
        · rw [List.mem_filter]
          exact ⟨hx, by rw [hno 0 e (by omega) (by simp) hE]; rfl⟩
        · rcases hcase with ⟨hl, hh⟩ | ⟨e', he', h3, h4⟩
          · exact .inl ⟨by simpa using hl, hh⟩
          · exact .inr ⟨e', by simpa using he', h3, h4⟩
    | false =>
      rw [hE] at h
      simp only at h
      cases q with
      | zero =>
        rcases hcase with ⟨hl, _⟩ | ⟨e', he', h3, _⟩
        · simp at hl
        · simp only [List.getElem?_cons_zero, Option.some.injEq] at he'
          subst he'
          rw [hE] at h3; cases h3
      | succ q =>
        refine still_seen h x (List.mem_cons_of_mem _ hx) q hq ?_ (fun p' e' hp he hee => hno (p' + 1) e' (by omega) (by simpa using he) hee)
        rcases hcase with ⟨hl, hh⟩ | ⟨e', he', h3, h4⟩
        · exact .inl ⟨by simpa using hl, hh⟩
        · exact .inr ⟨e', by simpa using he', h3, h4⟩

theorem still_all {ms : List Nat} {ops : Array Oper} {hf : Hp} : ∀ {l seen : List En}, stillGo P G ms ops hf l seen = true → ∀ (p q : Nat) (x : En) (hq : Hp), p < q → l[p]? = some x → x.t.isEff = false →
    (q = l.length ∧ hq = hf ∨ ∃ e, l[q]? = some e ∧ e.t.isEff = true ∧ e.h = hq) → (∀ (p' : Nat) (e' : En), p' < q → l[p']? = some e' → e'.t.isEff = true → preOf ms e'.t.idx x.t.idx = false) → stillOne P G ops hq x = true
  | [], _, _, p, q, x, hq, _, hx, _, _, _ => by simp at hx
  | e :: r, seen, h, p, q, x, hq, hpq, hx, hne, hcase, hno => by
    cases q with
    | zero => omega
    | succ q =>
      have hcase' : q = r.length ∧ hq = hf ∨ ∃ e, r[q]? = some e ∧ e.t.isEff = true ∧ e.h = hq := by
        rcases hcase with ⟨hl, hh⟩ | ⟨e', he', h3, h4⟩
        · exact .inl ⟨by simpa using hl, hh⟩
        · exact .inr ⟨e', by simpa using he', h3, h4⟩
      have hno' : ∀ (p' : Nat) (e' : En), p' < q → r[p']? = some e' → e'.t.isEff = true → preOf ms e'.t.idx x.t.idx = false := fun p' e' hp he hee => hno (p' + 1) e' (by omega) (by simpa using he) hee
      unfold stillGo at h
      cases p with
      | zero =>
        simp only [List.getElem?_cons_zero, Option.some.injEq] at hx
        subst hx
        rw [hne] at h
        exact still_seen h e List.mem_cons_self q hq hcase' hno'
      | succ p =>
        simp only [List.getElem?_cons_succ] at hx
        cases hE : e.t.isEff with
        | true =>
          rw [hE] at h
          simp only [Bool.and_eq_true] at h
          exact still_all h.2 p q x hq (by omega) hx hne hcase' hno'
        | false =>
          rw [hE] at h
          exact still_all h p q x hq (by omega) hx hne hcase' hno'

theorem still_eager {ms : List Nat} {ops : Array Oper} {hf : Hp} : ∀ {l seen : List En}, stillGo P G ms ops hf l seen = true → ∀ (p p' : Nat) (e e' : En), l[p]? = some e → l[p']? = some e' → p < p' → e.t.isEff = true → preOf ms e'.t.idx e.t.idx = true
  | [], _, _, p, p', e, e', he, _, _, _ => by simp at he
  | x :: r, seen, h, p, p', e, e', he, he', hlt, hE => by
    cases p' with
    | zero => omega
    | succ p' =>
      simp only [List.getElem?_cons_succ] at he'
      unfold stillGo at h
      cases p with
      | zero =>
        simp only [List.getElem?_cons_zero, Option.some.injEq] at he
        subst he
        rw [hE] at h
        simp only [Bool.and_eq_true, List.all_eq_true] at h
        exact h.1.2 e' (List.mem_of_getElem? he')
      | succ p =>
        simp only [List.getElem?_cons_succ] at he
        cases hX : x.t.isEff with
        | true =>
          rw [hX] at h
          simp only [Bool.and_eq_true] at h
          exact still_eager h.2 p p' e e' he he' (by omega) hE
        | false =>
          rw [hX] at h
          exact still_eager h p p' e e' he he' (by omega) hE

theorem runDraw_ok {call : CallF} (hc : CallOk P G call) {id : Nat} {ops : Array Oper} {N : Nat} {s : Sl} {h : Hp} {s' : Sl} {h' : Hp} (hr : runDraw P G call ops N s h = some (s', h')) :
    Ev P G (.code (.region id ops true) N (look s) h .normal (look s') h') := by
  unfold runDraw at hr
  split at hr
  · cases hr
  · rename_i hchk
    rw [Bool.and_eq_true] at hchk
    obtain ⟨hord, hdst⟩ := hchk
    split at hr
    · cases hr
    · rename_i l s1 h1 htr
      split at hr
      · rename_i hst
        cases hr
        obtain ⟨a1, a2, a3⟩ := runTr_ok hc htr
        simp only [orderB, Bool.and_eq_true] at hord
        obtain ⟨⟨⟨⟨o1, o2⟩, o3⟩, o4⟩, o5⟩ := hord
        have hget : ∀ (p : Nat) (t : TS), (l.map (·.t))[p]? = some t → ∃ e, l[p]? = some e ∧ e.t = t := fun p t ht => by
          simpa using ht
        have hidx : ∀ (p : Nat) (t : TS), (l.map (·.t))[p]? = some t → (sched (masksOf ops) ops)[p]? = some t.idx := fun p t ht => by
          rw [← a1, List.getElem?_map, ht]; rfl
        have ot : OrdText ops (preOf (masksOf ops)) (l.map (·.t)) := by
          refine ⟨drawTextB_spec o1, fun i hi => ?_, fun p p' t t' hp hp' he => ?_, fun p t hp => ?_, fun p p' t t' hp hp' hlt => ?_, fun p p' t t' hp hp' hlt hE => ?_⟩
          · rw [List.all_eq_true] at o5
            have := o5 i (by simpa using hi)
            have hm : i ∈ sched (masksOf ops) ops := by simpa using this
            rw [← a1] at hm
            obtain ⟨t, h1, h2⟩ := List.mem_map.1 hm
            obtain ⟨p, hp⟩ := List.getElem?_of_mem h1
            exact ⟨p, t, hp, h2⟩
          · rcases Nat.lt_trichotomy p p' with h | h | h
            · exact absurd he (ordB_spec o2 p p' _ _ (hidx p t hp) (hidx p' t' hp') h).1
            · exact h
            · exact absurd he.symm (ordB_spec o2 p' p _ _ (hidx p' t' hp') (hidx p t hp) h).1
          · rw [List.all_eq_true] at o4
            have := o4 _ (List.mem_of_getElem? (hidx p t hp))
            simpa [Nat.blt_eq] using this
          · exact (ordB_spec o2 p p' _ _ (hidx p t hp) (hidx p' t' hp') hlt).2
          · obtain ⟨e, h1, h2⟩ := hget p t hp
            obtain ⟨e', h1', h2'⟩ := hget p' t' hp'
            have := still_eager hst p p' e e' h1 h1' hlt (by rw [h2]; exact hE)
            rwa [h2, h2'] at this
        have tk : TrOk P G ops (preOf (masksOf ops)) ⟨look s, h⟩ (l.map (·.t)) := by
          refine ⟨fun p t hp => ?_, fun q hq p t hpq hp hno => ?_⟩
          · obtain ⟨e, h1, h2⟩ := hget p t hp
            obtain ⟨c1, c2⟩ := a2 p e h1
            rw [c2, ← h2]
            exact c1.step
          · obtain ⟨e, h1, h2⟩ := hget p t hp
            obtain ⟨c1, c2⟩ := a2 p e h1
            have hcase : q = l.length ∧ (stAt ops ⟨look s, h⟩ (l.map (·.t)) q).h = h' ∨ ∃ e, l[q]? = some e ∧ e.t.isEff = true ∧ e.h = (stAt ops ⟨look s, h⟩ (l.map (·.t)) q).h := by
              rcases hq with rfl | ⟨tq, hq, hqe⟩
              · left
                rw [List.length_map]
                exact ⟨rfl, by rw [a3]⟩
              · right
                obtain ⟨eq, g1, g2⟩ := hget q tq hq
                exact ⟨eq, g1, by rw [g2]; exact hqe, by rw [(a2 q eq g1).2]⟩
            have hno' : ∀ (p' : Nat) (e' : En), p' < q → l[p']? = some e' → e'.t.isEff = true → preOf (masksOf ops) e'.t.idx e.t.idx = false := fun p' e' hp' he' hee => by
              rw [h2]
              exact hno p' e'.t hp' (by simp [he']) hee
            rw [c2]
            subst h2
            cases ht : e.t with
            | skip i => trivial
            | eff i v h1 => trivial
            | pure i v =>
              obtain ⟨o, ho, hpu, hs⟩ := c1.pure i v ht
              intro o' ho'
              rw [ho] at ho'; cases ho'
              have hso := still_all hst p q e _ hpq h1 (by rw [ht]; rfl) hcase hno'
              unfold stillOne at hso
              rw [ht] at hso
              simp only [ho] at hso
              cases hrd : readsOp o.op with
              | false => exact pure_indep hpu hrd hs
              | true =>
                rw [hrd] at hso
                simp only at hso
                split at hso
                · rename_i v' h2 hs2
                  have := pure_step hpu hs2
                  rw [hs2, this, CV.beq_eq hso]
                · cases hso
            | new i v cs =>
              have hso := still_all hst p q e _ hpq h1 (by rw [ht]; rfl) hcase hno'
              unfold stillOne at hso
              rw [ht] at hso
              simp only at hso
              split at hso
              · rename_i n cs' hf
                rw [Bool.and_eq_true] at hso
                simp only [StillOk]
                rw [hf, nbeq_eq hso.1, beqL_eq hso.2]
              · cases hso
        have hd : ∀ (i : Nat) (o : Oper), ops[i]? = some o → dstOk N o.dst = true := fun i o ho => by
          rw [List.all_eq_true] at hdst
          exact hdst o (by simpa using Array.mem_of_getElem? ho)
        have := Ev.drawSeq (id := id) ot hd tk
        rw [List.length_map, a3] at this
        exact this
      · cases hr

theorem codeStep_ok {call : CallF} (hc : CallOk P G call) {N : Nat} {ih : Code → Sl → Hp → Out} (hih : ∀ c s h e s' h', ih c s h = some (e, s', h') → Ev P G (.code c N (look s) h e (look s') h')) {c : Code} {s : Sl} {h : Hp} {e : CExit} {s' : Sl} {h' : Hp}
    (hr : codeStep P G call N ih c s h = some (e, s', h')) : Ev P G (.code c N (look s) h e (look s') h') := by
  cases c <;> simp only [codeStep] at hr <;> try (cases hr; done)
  case skip => cases hr; exact .skip ..
  case label => cases hr; exact .label ..
  case ret => cases hr; exact .ret ..
  case exit => cases hr; exact .exit ..
  case region id ops d =>
    cases d with
    | false =>
      simp only at hr
      split at hr
      · rename_i s1 h1 hq; cases hr; exact .region (runOps_ok hc hq)
      · cases hr
    | true =>
      simp only at hr
      split at hr
      · rename_i s1 h1 hq; cases hr; exact runDraw_ok hc hq
      · cases hr
  case seq a b =>
    split at hr
    · rename_i s1 h1 hq
      exact .seqN (hih _ _ _ _ _ _ hq) (hih _ _ _ _ _ _ hr)
    · rename_i hne
      refine .seqX (hih _ _ _ _ _ _ hr) (fun he => ?_)
      subst he
      exact hne _ _ hr
  case cond c x y =>
    split at hr
    · rename_i hb; exact .cond hb (by simpa using hih _ _ _ _ _ _ hr)
    · rename_i hb; exact .cond hb (by simpa using hih _ _ _ _ _ _ hr)
    · cases hr
  case block id c =>
    split at hr
    · rename_i id' s1 h1 hq
      split at hr
      · rename_i hb
        cases hr
        rw [nbeq_eq hb] at hq
        exact .blockX (hih _ _ _ _ _ _ hq)
      · rename_i hb
        cases hr
        refine .blockN (hih _ _ _ _ _ _ hq) (fun he => ?_)
        cases he
        rw [nbeq_true rfl] at hb; cases hb
    · rename_i hne
      refine .blockN (hih _ _ _ _ _ _ hr) (fun he => ?_)
      subst he
      exact hne _ _ _ hr
  case loop c =>
    split at hr
    · rename_i s1 h1 hq
      exact .loopN (hih _ _ _ _ _ _ hq) (hih _ _ _ _ _ _ hr)
    · rename_i hne
      refine .loopX (hih _ _ _ _ _ _ hr) (fun he => ?_)
      subst he
      exact hne _ _ hr
  case scope c => exact .scope (hih _ _ _ _ _ _ hr)

theorem runCode_ok {call : CallF} (hc : CallOk P G call) {N : Nat} : ∀ (k : Nat) (c : Code) (s : Sl) (h : Hp) (e : CExit) (s' : Sl) (h' : Hp), runCode P G call N k c s h = some (e, s', h') → Ev P G (.code c N (look s) h e (look s') h')
  | 0, c, s, h, e, s', h', hr => by cases hr
  | k + 1, c, s, h, e, s', h', hr => codeStep_ok hc (runCode_ok hc k) hr

def OrcOk (P : Program) (G : Nat → CV) (orc : FuncId → List CV → Option CV) : Prop := ∀ f args r, orc f args = some r → PureC P G f args r ∧ closedL args = true

theorem runCall_ok {orc : FuncId → List CV → Option CV} {fuel : Nat} (ho : OrcOk P G orc) : ∀ (k : Nat), CallOk P G (runCall P G orc fuel k)
  | 0 => fun f args h r h' hr => by cases hr
  | k + 1 => fun f args h r h' hr => by
    have hc := runCall_ok (fuel := fuel) ho k
    simp only [runCall, callStep] at hr
    split at hr
    · rename_i r' hq
      cases hr
      obtain ⟨p1, p2⟩ := ho _ _ _ hq
      exact .pure p1 p2
    · split at hr
      · cases hr
      · rename_i fn hf
        split at hr
        · cases hr
        · rename_i c hb
          have hl : look (ofArgs 0 .nil args) = fun t => args.getD t undefC := by
            rw [look_ofArgs]
            funext t
            simp only [Nat.zero_le, Nat.zero_add, true_and, Nat.sub_zero]
            by_cases hlt : t < args.length
            · rw [if_pos hlt]
            · rw [if_neg hlt]
              simp [look, Tr.get, List.getD, List.getElem?_eq_none (Nat.le_of_not_lt hlt)]
          split at hr
          · rename_i s' h1 hq
            cases hres : resC P h1 (look s') fn with
            | none => rw [hres] at hr; cases hr
            | some r' =>
              rw [hres] at hr
              cases hr
              have := runCode_ok hc _ _ _ _ _ _ _ hq
              rw [hl] at this
              exact .inline hf hb this (.inl rfl) hres
          · rename_i s' h1 hq
            cases hres : resC P h1 (look s') fn with
            | none => rw [hres] at hr; cases hr
            | some r' =>
              rw [hres] at hr
              cases hr
              have := runCode_ok hc _ _ _ _ _ _ _ hq
              rw [hl] at this
              exact .inline hf hb this (.inr rfl) hres
          · cases hr

end
end Go.CM
