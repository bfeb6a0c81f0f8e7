/-
  The canonical machine, part O: a region that draws its order, carried out once.
-/
import Derived.Test.YtfedhobckpgokaaCmN
namespace Go.CM
open Go
set_option linter.unusedVariables false
set_option linter.unusedSimpArgs false

section
variable {P : Program} {G : Nat → CV}

/-! ### What an operation looks at -/
theorem partsC_congr {ρ ρ' : Operand → CV} (ps : Array (Nat × Operand)) (h : ∀ x ∈ (ps.toList.map (·.2)), ρ x = ρ' x) : (ps.toList.map fun p => (p.1, ρ p.2)) = (ps.toList.map fun p => (p.1, ρ' p.2)) :=
  List.map_congr_left fun p hp => by rw [h p.2 (List.mem_map.2 ⟨p, hp, rfl⟩)]

theorem mapC_congr {ρ ρ' : Operand → CV} (xs : Array Operand) (h : ∀ x ∈ xs, ρ x = ρ' x) : xs.toList.map ρ = xs.toList.map ρ' :=
  List.map_congr_left fun x hx => h x (by simpa using hx)

theorem optC_congr {ρ ρ' : Operand → CV} (o : Option Operand) (h : ∀ x ∈ o.toArray, ρ x = ρ' x) : o.map ρ = o.map ρ' := by
  cases o with
  | none => rfl
  | some x => simp [h x (by simp)]

theorem stepC_congr {ρ ρ' : Operand → CV} (h : Hp) (op : Op) (hx : ∀ x ∈ op.operands, ρ x = ρ' x) : stepC P h ρ op = stepC P h ρ' op := by
  cases op <;> simp only [Op.operands] at hx <;> try rfl
  case build t ps => simp only [stepC]; rw [partsC_congr ps (fun x hm => hx x (by simpa using hm))]
  case buildSlice t n ps => simp only [stepC]; rw [partsC_congr ps (fun x hm => hx x (by simpa using hm))]
  case makeFunc fn first captured =>
    cases fn <;> simp only [stepC]
    rw [mapC_congr first (fun x hm => hx x (by simp [hm])), mapC_congr captured (fun x hm => hx x (by simp [hm]))]
  case slice t x lo hi mx =>
    simp only [stepC]
    rw [hx x (by simp), optC_congr lo (fun y hm => hx y (by simp at hm ⊢; simp [hm])), optC_congr hi (fun y hm => hx y (by simp at hm ⊢; simp [hm])), optC_congr mx (fun y hm => hx y (by simp at hm ⊢; simp [hm]))]
  case call c =>
    have ha : c.args.toList.map ρ = c.args.toList.map ρ' := mapC_congr c.args (fun x hm => hx x (by simp [Call.operands, hm]))
    simp only [stepC, callC, ha]
    cases hc : c.callee with
    | value f => dsimp only; rw [hx f (by simp [Call.operands, hc])]
    | _ => rfl
  all_goals (simp only [stepC]; simp_all)

theorem newC_congr {ρ ρ' : Operand → CV} (op : Op) (hx : ∀ x ∈ op.operands, ρ x = ρ' x) : newC P ρ op = newC P ρ' op := by
  cases op <;> simp only [Op.operands] at hx <;> try rfl
  case box t x => simp only [newC]; rw [hx x (by simp)]
  case buildSlice t n ps => simp only [newC]; rw [partsC_congr ps (fun x hm => hx x (by simpa using hm))]
  case makeSlice t l c => simp only [newC]; rw [hx l (by simp), hx c (by simp)]

theorem evOp_congr {σ σ' : Nat → CV} {h h' : Hp} {v : CV} {op : Op} (hx : ∀ x ∈ op.operands, ev G σ x = ev G σ' x) (he : Ev P G (.op op σ h v h')) : Ev P G (.op op σ' h v h') := by
  generalize hj : J.op op σ h v h' = j at he
  induction he generalizing v h' <;> cases hj
  case opVal hs => exact .opVal (by rw [← stepC_congr h op hx]; exact hs)
  case opCall => exact .opCall (by rw [← stepC_congr h op hx]; assumption) (by assumption)
  case wkOp => exact .wkOp (by first | (rename_i ih; exact ih rfl) | (rename_i ih _; exact ih rfl) | (rename_i ih _ _; exact ih rfl)) (by assumption) (by assumption)

/-! ### One order -/
inductive TS where
  | skip (i : Nat)
  | pure (i : Nat) (v : CV)
  | new (i : Nat) (v : CV) (cs : List CV)
  | eff (i : Nat) (v : CV) (h1 : Hp)

def TS.idx : TS → Nat
  | .skip i | .pure i _ | .new i _ _ | .eff i _ _ => i
def TS.val : TS → CV
  | .skip _ => undefC
  | .pure _ v | .new _ v _ | .eff _ v _ => v
def TS.isEff : TS → Bool
  | .eff .. => true
  | _ => false
def TS.isSkip : TS → Bool
  | .skip _ => true
  | _ => false
def TS.cls : TS → Cls
  | .skip _ | .pure .. => .pure
  | .new .. => .new
  | .eff .. => .eff
def TS.cs : TS → List CV
  | .new _ _ cs => cs
  | _ => []

structure S2 where
  σ : Nat → CV
  h : Hp

def dstOf (ops : Array Oper) (i : Nat) : Option Tmp := (ops[i]?).bind (·.dst)

def nextH (h : Hp) : TS → Hp
  | .skip _ | .pure .. => h
  | .new _ _ cs => h.push (.cells cs.length cs)
  | .eff _ _ h1 => h1

def nextS (ops : Array Oper) (s : S2) (t : TS) : S2 := ⟨putC s.σ (dstOf ops t.idx) t.val, nextH s.h t⟩

/-- The state ahead of step p. -/
def stAt (ops : Array Oper) (s0 : S2) (tr : List TS) (p : Nat) : S2 := (tr.take p).foldl (nextS ops) s0

theorem stAt_succ {ops : Array Oper} {s0 : S2} {tr : List TS} {p : Nat} {t : TS} (h : tr[p]? = some t) : stAt ops s0 tr (p + 1) = nextS ops (stAt ops s0 tr p) t := by
  unfold stAt
  have hlt : p < tr.length := (List.getElem?_eq_some_iff.1 h).1
  rw [List.take_succ_eq_append_getElem hlt, List.foldl_append]
  have : tr[p] = t := (List.getElem?_eq_some_iff.1 h).2
  simp [this]

/-- A step as it must be. -/
def StepOkC (P : Program) (G : Nat → CV) (ops : Array Oper) (s : S2) : TS → Prop
  | .skip i => ∃ o, ops[i]? = some o ∧ wantedC ops s.σ o = some false
  | .pure i v => ∃ o, ops[i]? = some o ∧ wantedC ops s.σ o = some true
  | .new i v cs => ∃ o mk, ops[i]? = some o ∧ wantedC ops s.σ o = some true ∧ newC P (ev G s.σ) o.op = some (cs, mk) ∧ v = mk s.h.n
  | .eff i v h1 => ∃ o, ops[i]? = some o ∧ wantedC ops s.σ o = some true ∧ Ev P G (.op o.op s.σ s.h v h1) ∧ s.h.n ≤ h1.n

/-- What was carried out still says the same. -/
def StillOk (P : Program) (G : Nat → CV) (ops : Array Oper) (s : S2) (h : Hp) : TS → Prop
  | .pure i v => ∀ o, ops[i]? = some o → stepC P h (ev G s.σ) o.op = some (.val v h)
  | .new _ _ cs => h.f s.h.n = .cells cs.length cs
  | _ => True

/-- The order, by its text alone. -/
structure OrdText (ops : Array Oper) (pre : Nat → Nat → Bool) (tr : List TS) : Prop where
  txt : DrawText ops pre
  all : ∀ i, i < ops.size → ∃ (p : Nat) (t : TS), tr[p]? = some t ∧ t.idx = i
  inj : ∀ (p p' : Nat) (t t' : TS), tr[p]? = some t → tr[p']? = some t' → t.idx = t'.idx → p = p'
  rng : ∀ (p : Nat) (t : TS), tr[p]? = some t → t.idx < ops.size
  topo : ∀ (p p' : Nat) (t t' : TS), tr[p]? = some t → tr[p']? = some t' → p < p' → pre t.idx t'.idx = false
  eager : ∀ (p p' : Nat) (t t' : TS), tr[p]? = some t → tr[p']? = some t' → p < p' → t.isEff = true → pre t'.idx t.idx = true

structure TrOk (P : Program) (G : Nat → CV) (ops : Array Oper) (pre : Nat → Nat → Bool) (s0 : S2) (tr : List TS) : Prop where
  step : ∀ (p : Nat) (t : TS), tr[p]? = some t → StepOkC P G ops (stAt ops s0 tr p) t
  still : ∀ (q : Nat), (q = tr.length ∨ ∃ t : TS, tr[q]? = some t ∧ t.isEff = true) → ∀ (p : Nat) (t : TS), p < q → tr[p]? = some t →
    (∀ (p' : Nat) (t' : TS), p' < q → tr[p']? = some t' → t'.isEff = true → pre t'.idx t.idx = false) → StillOk P G ops (stAt ops s0 tr p) (stAt ops s0 tr q).h t

/-- Where operation i stands in the order. -/
def posOf (tr : List TS) (i : Nat) : Nat := tr.findIdx fun t => t.idx == i

theorem posOf_spec {ops : Array Oper} {pre : Nat → Nat → Bool} {tr : List TS} (ot : OrdText ops pre tr) {i : Nat} (hi : i < ops.size) : ∃ t, tr[posOf tr i]? = some t ∧ t.idx = i := by
  obtain ⟨p, t, hp, ht⟩ := ot.all i hi
  have hlt : p < tr.length := (List.getElem?_eq_some_iff.1 hp).1
  have hmem : ∃ x ∈ tr, (x.idx == i) = true := ⟨t, List.mem_of_getElem? hp, by simpa using ht⟩
  have hfi : posOf tr i < tr.length := List.findIdx_lt_length_of_exists hmem
  have := List.findIdx_getElem (w := hfi)
  exact ⟨tr[posOf tr i], by simp [hfi], by unfold posOf; simpa using this⟩

theorem posOf_eq {ops : Array Oper} {pre : Nat → Nat → Bool} {tr : List TS} (ot : OrdText ops pre tr) {p : Nat} {t : TS} (hp : tr[p]? = some t) : posOf tr t.idx = p := by
  obtain ⟨t', h1, h2⟩ := posOf_spec ot (ot.rng p t hp)
  exact ot.inj _ _ _ _ h1 hp h2

/-- The temporaries ahead of step p. -/
theorem slots_at {ops : Array Oper} {pre : Nat → Nat → Bool} {tr : List TS} (ot : OrdText ops pre tr) (s0 : S2) : ∀ p, p ≤ tr.length → ∀ t,
    (stAt ops s0 tr p).σ t = match writer ops t with | some j => (if posOf tr j < p then ((tr[posOf tr j]?).map TS.val).getD .bad else s0.σ t) | none => s0.σ t := by
  intro p
  induction p with
  | zero =>
    intro _ t
    simp only [stAt, List.take_zero, List.foldl_nil]
    cases writer ops t <;> simp
  | succ p ih =>
    intro hp t
    have hlt : p < tr.length := by omega
    have hget : tr[p]? = some tr[p] := List.getElem?_eq_getElem hlt
    rw [stAt_succ hget]
    simp only [nextS]
    have hold := ih (by omega) t
    have hpos := posOf_eq ot hget
    have hrng := ot.rng p _ hget
    have hop : ops[tr[p].idx]? = some ops[tr[p].idx] := by simp [hrng]
    cases hd : dstOf ops tr[p].idx with
    | none =>
      simp only [putC, hold]
      cases hw : writer ops t with
      | none => rfl
      | some j =>
        simp only
        obtain ⟨o, ho, hod⟩ := writer_some hw
        have hne : posOf tr j ≠ p := by
          intro hh
          obtain ⟨tj, h1, h2⟩ := posOf_spec ot ((Array.getElem?_eq_some_iff.1 ho).1)
          rw [hh, hget] at h1
          cases h1
          rw [← h2] at ho
          simp only [dstOf, ho, Option.bind_some] at hd
          rw [hod] at hd; cases hd
        by_cases hlt' : posOf tr j < p
        · rw [if_pos hlt', if_pos (by omega)]
        · rw [if_neg hlt', if_neg (by omega)]
    | some d =>
      simp only [putC]
      by_cases ht : t = d
      · subst ht
        have hdst : ops[tr[p].idx].dst = some t := by simpa [dstOf, hop] using hd
        rw [fupd_same, ot.txt.one _ _ t hop hdst]
        simp [hpos, hget]
      · rw [fupd_ne _ _ _ _ ht, hold]
        cases hw : writer ops t with
        | none => rfl
        | some j =>
          simp only
          obtain ⟨o, ho, hod⟩ := writer_some hw
          have hne : posOf tr j ≠ p := by
            intro hh
            obtain ⟨tj, h1, h2⟩ := posOf_spec ot ((Array.getElem?_eq_some_iff.1 ho).1)
            rw [hh, hget] at h1
            cases h1
            rw [← h2] at ho
            simp only [dstOf, ho, Option.bind_some] at hd
            rw [hod] at hd; cases hd
            exact ht rfl
          by_cases hlt' : posOf tr j < p
          · rw [if_pos hlt', if_pos (by omega)]
          · rw [if_neg hlt', if_neg (by omega)]

theorem pre_lt {ops : Array Oper} {pre : Nat → Nat → Bool} (txt : DrawText ops pre) (hin : ∀ (i : Nat) (o : Oper) (e : Edge), ops[i]? = some o → e ∈ o.after → Region.binds .any e = true → ∃ o', ops[e.on]? = some o') : ∀ (i : Nat) (o : Oper), ops[i]? = some o → ∀ j, pre i j = true → j < i := by
  intro i
  induction i using Nat.strongRecOn with
  | _ i ih =>
    intro o ho j hj
    obtain ⟨e, he, hb, hej⟩ := txt.chain i o j ho hj
    have hlt := txt.edge i o e ho he hb
    rcases hej with rfl | hej
    · exact hlt
    · obtain ⟨o', ho'⟩ := hin i o e ho he hb
      have := ih e.on hlt o' ho' j hej
      omega

theorem no_self {ops : Array Oper} {pre : Nat → Nat → Bool} (txt : DrawText ops pre) (i : Nat) (o : Oper) (ho : ops[i]? = some o) (hp : pre i i = true) : False := by
  have := pre_lt txt (fun i o e ho he hb => by
    have h1 := txt.edge i o e ho he hb
    have h2 := (Array.getElem?_eq_some_iff.1 ho).1
    exact ⟨ops[e.on]'(by omega), by simp⟩) i o ho i hp
  omega

theorem env_at {ops : Array Oper} {pre : Nat → Nat → Bool} {tr : List TS} (ot : OrdText ops pre tr) (s0 : S2) {i : Nat} {o : Oper} (ho : ops[i]? = some o) {t : Nat} (ht : t ∈ o.looksAt ops) :
    envOf ops pre (fun j => ((tr[posOf tr j]?).map TS.val).getD .bad) s0.σ i o t = (stAt ops s0 tr (posOf tr i)).σ t := by
  have hi : i < ops.size := (Array.getElem?_eq_some_iff.1 ho).1
  obtain ⟨ti, h1, h2⟩ := posOf_spec ot hi
  have hle : posOf tr i ≤ tr.length := Nat.le_of_lt (List.getElem?_eq_some_iff.1 h1).1
  rw [slots_at ot s0 _ hle]
  unfold envOf
  rw [if_pos (by simpa using ht)]
  cases hw : writer ops t with
  | none => rfl
  | some j =>
    simp only
    obtain ⟨oj, hoj, _⟩ := writer_some hw
    obtain ⟨tj, h3, h4⟩ := posOf_spec ot ((Array.getElem?_eq_some_iff.1 hoj).1)
    have key : pre i j = true ↔ posOf tr j < posOf tr i := by
      constructor
      · intro hp
        rcases Nat.lt_trichotomy (posOf tr j) (posOf tr i) with h | h | h
        · exact h
        · exfalso
          rw [h, h1] at h3
          cases h3
          have hij : i = j := by rw [← h2, ← h4]
          subst hij
          exact no_self ot.txt i o ho hp
        · have := ot.topo _ _ _ _ h1 h3 h
          rw [h2, h4] at this
          rw [this] at hp; cases hp
      · intro hlt
        rcases ot.txt.acc i o t j ho ht hw with hh | hh | rfl
        · exact hh
        · have := ot.topo _ _ _ _ h3 h1 hlt
          rw [h2, h4] at this
          rw [this] at hh; cases hh
        · omega
    by_cases hp : pre i j = true
    · rw [if_pos hp, if_pos (key.1 hp)]
    · rw [if_neg hp, if_neg (fun hh => hp (key.2 hh))]

/-! ### The effects of an order, one behind the other -/
def effsOf (tr : List TS) : List Nat := (List.range tr.length).filter fun p => ((tr[p]?).map TS.isEff).getD false

theorem mem_effs {tr : List TS} {p : Nat} : p ∈ effsOf tr ↔ ∃ t, tr[p]? = some t ∧ t.isEff = true := by
  unfold effsOf
  rw [List.mem_filter, List.mem_range]
  constructor
  · rintro ⟨h1, h2⟩
    refine ⟨tr[p], by simp [h1], ?_⟩
    simpa [h1] using h2
  · rintro ⟨t, h1, h2⟩
    exact ⟨(List.getElem?_eq_some_iff.1 h1).1, by simp [h1, h2]⟩

theorem effs_lt {tr : List TS} {q q' : Nat} (hq : q < q') (hq' : q' < (effsOf tr).length) : (effsOf tr).getD q 0 < (effsOf tr).getD q' 0 := by
  have hp : (effsOf tr).Pairwise (· < ·) := List.Pairwise.filter _ List.pairwise_lt_range
  have := List.pairwise_iff_getElem.1 hp q q' (by omega) hq' hq
  simpa [List.getD, hq', show q < (effsOf tr).length by omega] using this

theorem effs_get {tr : List TS} {q : Nat} (hq : q < (effsOf tr).length) : ∃ t, tr[(effsOf tr).getD q 0]? = some t ∧ t.isEff = true := by
  apply mem_effs.1
  simp [List.getD, hq]

theorem effs_find {tr : List TS} {p : Nat} (hp : p ∈ effsOf tr) : ∃ q, q < (effsOf tr).length ∧ (effsOf tr).getD q 0 = p := by
  obtain ⟨q, hq, rfl⟩ := List.getElem_of_mem hp
  exact ⟨q, hq, by simp [List.getD, hq]⟩

theorem n_mono {ops : Array Oper} {pre : Nat → Nat → Bool} {s0 : S2} {tr : List TS} (tk : TrOk P G ops pre s0 tr) : ∀ (k p : Nat), p + k ≤ tr.length → (stAt ops s0 tr p).h.n ≤ (stAt ops s0 tr (p + k)).h.n
  | 0, p, _ => Nat.le_refl _
  | k + 1, p, hp => by
    have ih := n_mono tk k p (by omega)
    have hlt : p + k < tr.length := by omega
    have hget : tr[p + k]? = some tr[p + k] := List.getElem?_eq_getElem hlt
    have hs := tk.step _ _ hget
    rw [show p + (k + 1) = (p + k) + 1 from rfl, stAt_succ hget]
    refine Nat.le_trans ih ?_
    cases ht : tr[p + k] with
    | skip i => simp [nextS, nextH]
    | pure i v => simp [nextS, nextH]
    | new i v cs => simp [nextS, nextH, push_n]
    | eff i v h1 =>
      rw [ht] at hs
      obtain ⟨o, _, _, _, hn⟩ := hs
      simpa [nextS, nextH] using hn

theorem grow_between {ops : Array Oper} {s0 : S2} {tr : List TS} : ∀ (k p : Nat), p + k ≤ tr.length → (∀ r, p ≤ r → r < p + k → r ∉ effsOf tr) → Grows (stAt ops s0 tr p).h (stAt ops s0 tr (p + k)).h
  | 0, p, _, _ => ⟨[], rfl⟩
  | k + 1, p, hp, hno => by
    obtain ⟨l, hl⟩ := grow_between (ops := ops) (s0 := s0) (tr := tr) k p (by omega) (fun r h1 h2 => hno r h1 (by omega))
    have hlt : p + k < tr.length := by omega
    have hget : tr[p + k]? = some tr[p + k] := List.getElem?_eq_getElem hlt
    have hne : tr[p + k].isEff ≠ true := fun hh => hno (p + k) (by omega) (by omega) (mem_effs.2 ⟨_, hget, hh⟩)
    rw [show p + (k + 1) = (p + k) + 1 from rfl, stAt_succ hget]
    cases ht : tr[p + k] with
    | skip i => exact ⟨l, by simp [nextS, nextH, hl]⟩
    | pure i v => exact ⟨l, by simp [nextS, nextH, hl]⟩
    | new i v cs => exact ⟨l ++ [cs], by simp [nextS, nextH, hl, pushes]⟩
    | eff i v h1 => rw [ht] at hne; exact absurd rfl hne

theorem Ev.drawSeq {id : Nat} {ops : Array Oper} {pre : Nat → Nat → Bool} {N : Nat} {s0 : S2} {tr : List TS} (ot : OrdText ops pre tr) (hd : ∀ (i : Nat) (o : Oper), ops[i]? = some o → dstOk N o.dst = true) (tk : TrOk P G ops pre s0 tr) :
    Ev P G (.code (.region id ops true) N s0.σ s0.h .normal (stAt ops s0 tr tr.length).σ (stAt ops s0 tr tr.length).h) := by
  -- the step that carries out operation i
  have stp : ∀ (i : Nat) (o : Oper), ops[i]? = some o → ∃ t, tr[posOf tr i]? = some t ∧ t.idx = i ∧ StepOkC P G ops (stAt ops s0 tr (posOf tr i)) t := fun i o ho => by
    obtain ⟨t, h1, h2⟩ := posOf_spec ot ((Array.getElem?_eq_some_iff.1 ho).1)
    exact ⟨t, h1, h2, tk.step _ _ h1⟩
  have wcong : ∀ (i : Nat) (o : Oper), ops[i]? = some o → wantedC ops (envOf ops pre (fun j => ((tr[posOf tr j]?).map TS.val).getD .bad) s0.σ i o) o = wantedC ops (stAt ops s0 tr (posOf tr i)).σ o := fun i o ho => by
    unfold wantedC
    cases hg : o.guard with
    | none => rfl
    | some jw =>
      obtain ⟨j, want⟩ := jw
      simp only
      cases hdj : (ops[j]?).bind (·.dst) with
      | none => rfl
      | some d =>
        simp only
        rw [env_at ot s0 ho (t := d) (by simp [Oper.looksAt, hg, hdj])]
  have ocong : ∀ (i : Nat) (o : Oper), ops[i]? = some o → ∀ x ∈ o.op.operands, ev G (stAt ops s0 tr (posOf tr i)).σ x = ev G (envOf ops pre (fun j => ((tr[posOf tr j]?).map TS.val).getD .bad) s0.σ i o) x := fun i o ho x hx => by
    cases x with
    | tmp t =>
      refine (env_at ot s0 ho (t := t) ?_).symm
      simp only [Oper.looksAt, List.mem_append, List.mem_filterMap]
      exact .inl ⟨.tmp t, by simpa using hx, rfl⟩
    | _ => rfl
  -- the moment ahead of effect k, or the end
  have tlast : ∀ k, k ≤ (effsOf tr).length → ∃ T, T ≤ tr.length ∧ (T = tr.length ∨ ∃ t, tr[T]? = some t ∧ t.isEff = true) ∧ (T = if k < (effsOf tr).length then (effsOf tr).getD k 0 else tr.length) := fun k hk => by
    by_cases hlt : k < (effsOf tr).length
    · obtain ⟨t, h1, h2⟩ := effs_get hlt
      exact ⟨_, Nat.le_of_lt (List.getElem?_eq_some_iff.1 h1).1, .inr ⟨t, h1, h2⟩, by rw [if_pos hlt]⟩
    · exact ⟨_, Nat.le_refl _, .inl rfl, by rw [if_neg hlt]⟩
  have hsk : ∀ q, q < (effsOf tr).length → ∃ t, tr[(effsOf tr).getD q 0]? = some t ∧ t.isEff = true ∧ ((tr[(effsOf tr).getD q 0]?).map TS.idx).getD 0 = t.idx := fun q hq => by
    obtain ⟨t, h1, h2⟩ := effs_get hq
    exact ⟨t, h1, h2, by rw [h1]; rfl⟩
  have stillAt : ∀ (i : Nat) (o : Oper) (t : TS), ops[i]? = some o → tr[posOf tr i]? = some t → t.idx = i → t.isEff = false → ∀ k, feas pre (effsOf tr).length (fun q => ((tr[(effsOf tr).getD q 0]?).map TS.idx).getD 0) i k →
      StillOk P G ops (stAt ops s0 tr (posOf tr i)) (stAt ops s0 tr (if k < (effsOf tr).length then (effsOf tr).getD k 0 else tr.length)).h t := by
    intro i o t ho ht hti hne k hf
    obtain ⟨hkm, hf1, hf2⟩ := hf
    obtain ⟨T, hT1, hT2, hT3⟩ := tlast k hkm
    rw [← hT3]
    have hplen : posOf tr i < tr.length := (List.getElem?_eq_some_iff.1 ht).1
    have hpT : posOf tr i < T := by
      by_cases hlt : k < (effsOf tr).length
      · rw [if_pos hlt] at hT3
        obtain ⟨tk', h1, h2, h3⟩ := hsk k hlt
        rw [← hT3] at h1
        rcases Nat.lt_trichotomy (posOf tr i) T with h | h | h
        · exact h
        · rw [h, h1] at ht
          cases ht
          rw [hne] at h2; cases h2
        · have he := ot.eager T (posOf tr i) tk' t h1 ht h h2
          have := hf1 k hlt (by (try simp only); rw [h3, ← hti]; exact he)
          omega
      · rw [if_neg hlt] at hT3
        omega
    refine tk.still T hT2 _ t hpT ht (fun p' t' hp' ht' he' => ?_)
    obtain ⟨q, hq, hqe⟩ := effs_find (mem_effs.2 ⟨t', ht', he'⟩)
    obtain ⟨t'', h1, h2, h3⟩ := hsk q hq
    rw [hqe, ht'] at h1
    cases h1
    have hqk : q < k := by
      by_cases hlt : k < (effsOf tr).length
      · rw [if_pos hlt] at hT3
        rcases Nat.lt_or_ge q k with h | h
        · exact h
        · rcases Nat.eq_or_lt_of_le h with h | h
          · subst h; omega
          · have := effs_lt (tr := tr) h hq
            omega
      · omega
    cases hp : pre t'.idx t.idx with
    | false => rfl
    | true =>
      have := hf2 q hq (by (try simp only); rw [h3, ← hti]; exact hp)
      omega
  refine Ev.draw pre (fun j => ((tr[posOf tr j]?).map TS.val).getD .bad) (fun j => ((tr[posOf tr j]?).map fun t => !t.isSkip).getD false) (fun j => ((tr[posOf tr j]?).map TS.cls).getD .pure) (effsOf tr).length
    (fun q => ((tr[(effsOf tr).getD q 0]?).map TS.idx).getD 0) (fun k => (stAt ops s0 tr (if k < (effsOf tr).length then (effsOf tr).getD k 0 else tr.length)).h) (fun q => (stAt ops s0 tr ((effsOf tr).getD q 0 + 1)).h)
    (fun j => (stAt ops s0 tr (posOf tr j)).h.n) (fun j => ((tr[posOf tr j]?).map TS.cs).getD []) ot.txt hd ?_ ?_ ?_ ?_ ?_ ?_ ?_ ?_ ?_ ?_ ?_ ?_ ?_ ?_ ?_
  · -- h0
    obtain ⟨T, hT1, hT2, hT3⟩ := tlast 0 (Nat.zero_le _)
    try simp only
    rw [← hT3]
    have := grow_between (ops := ops) (s0 := s0) (tr := tr) T 0 (by omega) (fun r _ hr hmem => by
      obtain ⟨q, hq, hqe⟩ := effs_find hmem
      rw [if_pos (by omega)] at hT3
      rcases Nat.eq_or_lt_of_le (Nat.zero_le q) with h | h
      · subst h; omega
      · have := effs_lt (tr := tr) h hq
        omega)
    simpa [stAt] using this
  · simp
  · -- hσ
    funext t
    rw [slots_at ot s0 _ (Nat.le_refl _)]
    cases hw : writer ops t with
    | none => rfl
    | some j =>
      obtain ⟨o, ho, _⟩ := writer_some hw
      obtain ⟨tj, h1, _⟩ := posOf_spec ot ((Array.getElem?_eq_some_iff.1 ho).1)
      simp only
      rw [if_pos ((List.getElem?_eq_some_iff.1 h1).1)]
  · -- heff
    intro i o ho hW hc
    obtain ⟨t, h1, h2, _⟩ := stp i o ho
    simp only [h1, Option.map_some, Option.getD_some] at hc
    have he : t.isEff = true := by cases t <;> simp_all [TS.cls, TS.isEff]
    obtain ⟨q, hq, hqe⟩ := effs_find (mem_effs.2 ⟨t, h1, he⟩)
    exact ⟨q, hq, by rw [hqe, h1]; exact h2⟩
  · -- heff'
    intro q hq
    obtain ⟨t, h1, h2, h3⟩ := hsk q hq
    refine ⟨ops[t.idx]'(ot.rng _ _ h1), by rw [h3]; simp [ot.rng _ _ h1], ?_, ?_⟩
    · simp only [h3, posOf_eq ot h1, h1, Option.map_some, Option.getD_some]
      cases t <;> simp_all [TS.isSkip, TS.isEff]
    · simp only [h3, posOf_eq ot h1, h1, Option.map_some, Option.getD_some]
      cases t <;> simp_all [TS.cls, TS.isEff]
  · -- hord
    intro q q' hq hq' hlt
    obtain ⟨t, h1, h2, h3⟩ := hsk q hq
    obtain ⟨t', h1', h2', h3'⟩ := hsk q' hq'
    simp only [h3, h3']
    exact ot.eager _ _ t t' h1 h1' (effs_lt hlt hq') h2
  · -- hinj
    intro q q' hq hq' he
    obtain ⟨t, h1, h2, h3⟩ := hsk q hq
    obtain ⟨t', h1', h2', h3'⟩ := hsk q' hq'
    simp only [h3, h3'] at he
    have := ot.inj _ _ t t' h1 h1' he
    rcases Nat.lt_trichotomy q q' with h | h | h
    · have := effs_lt (tr := tr) h hq'; omega
    · exact h
    · have := effs_lt (tr := tr) h hq; omega
  · -- hwant
    intro i o ho
    rw [wcong i o ho]
    obtain ⟨t, h1, h2, h3⟩ := stp i o ho
    simp only [h1, Option.map_some, Option.getD_some]
    cases t with
    | skip j => obtain ⟨o', ho', hw⟩ := h3; simp only [TS.idx] at h2; subst h2; rw [ho] at ho'; cases ho'; exact hw
    | pure j v => obtain ⟨o', ho', hw⟩ := h3; simp only [TS.idx] at h2; subst h2; rw [ho] at ho'; cases ho'; exact hw
    | new j v cs => obtain ⟨o', mk, ho', hw, _⟩ := h3; simp only [TS.idx] at h2; subst h2; rw [ho] at ho'; cases ho'; exact hw
    | eff j v h1' => obtain ⟨o', ho', hw, _⟩ := h3; simp only [TS.idx] at h2; subst h2; rw [ho] at ho'; cases ho'; exact hw
  · -- hskip
    intro i o ho hW
    obtain ⟨t, h1, h2, h3⟩ := stp i o ho
    simp only [h1, Option.map_some, Option.getD_some] at hW ⊢
    cases t <;> simp_all [TS.isSkip, TS.val]
  · -- hpure
    intro i o ho hW hc k hf
    obtain ⟨t, h1, h2, h3⟩ := stp i o ho
    simp only [h1, Option.map_some, Option.getD_some] at hW hc
    have hst := stillAt i o t ho h1 h2 (by cases t <;> simp_all [TS.cls, TS.isEff]) k hf
    cases t with
    | pure j v =>
      simp only [TS.idx] at h2
      subst h2
      have := hst o ho
      rw [stepC_congr _ _ (ocong j o ho)] at this
      simpa [h1, TS.val] using this
    | skip j => simp [TS.isSkip] at hW
    | new j v cs => simp [TS.cls] at hc
    | eff j v h1' => simp [TS.cls] at hc
  · -- hnew
    intro i o ho hW hc
    obtain ⟨t, h1, h2, h3⟩ := stp i o ho
    simp only [h1, Option.map_some, Option.getD_some] at hW hc
    cases t with
    | new j v cs =>
      obtain ⟨o', mk, ho', _, hn, hv⟩ := h3
      simp only [TS.idx] at h2
      subst h2
      rw [ho] at ho'; cases ho'
      rw [newC_congr _ (ocong j o ho)] at hn
      refine ⟨mk, by simpa [h1, TS.cs] using hn, by simpa [h1, TS.val] using hv, ?_, fun k hf => ?_⟩
      · have hle : posOf tr j ≤ tr.length := Nat.le_of_lt (List.getElem?_eq_some_iff.1 h1).1
        have := n_mono tk (posOf tr j) 0 (by omega)
        simpa [stAt] using this
      · have hst := stillAt j o _ ho h1 rfl rfl k hf
        simpa [StillOk, h1, TS.cs] using hst
    | skip j => simp [TS.isSkip] at hW
    | pure j v => simp [TS.cls] at hc
    | eff j v h1' => simp [TS.cls] at hc
  · -- hbid
    intro i j o o' ho ho' hWi hWj hci hcj hb
    have grow1 : ∀ (i : Nat) (o : Oper), ops[i]? = some o → ((tr[posOf tr i]?).map TS.cls).getD .pure = .new → ∀ p, posOf tr i < p → p ≤ tr.length → (stAt ops s0 tr (posOf tr i)).h.n < (stAt ops s0 tr p).h.n := by
      intro i o ho hc p hp hpl
      obtain ⟨t, h1, h2, _⟩ := stp i o ho
      simp only [h1, Option.map_some, Option.getD_some] at hc
      have h4 := n_mono tk (p - (posOf tr i + 1)) (posOf tr i + 1) (by omega)
      rw [show posOf tr i + 1 + (p - (posOf tr i + 1)) = p by omega, stAt_succ h1] at h4
      cases t with
      | new j v cs => simp only [nextS, nextH, push_n] at h4; omega
      | skip j => simp [TS.cls] at hc
      | pure j v => simp [TS.cls] at hc
      | eff j v h1' => simp [TS.cls] at hc
    obtain ⟨t, h1, h2, _⟩ := stp i o ho
    obtain ⟨t', h1', h2', _⟩ := stp j o' ho'
    have hl := (List.getElem?_eq_some_iff.1 h1).1
    have hl' := (List.getElem?_eq_some_iff.1 h1').1
    rcases Nat.lt_trichotomy (posOf tr i) (posOf tr j) with h | h | h
    · have := grow1 i o ho hci _ h (Nat.le_of_lt hl'); (try simp only at hb); omega
    · rw [h, h1'] at h1; cases h1; rw [← h2, ← h2']
    · have := grow1 j o' ho' hcj _ h (Nat.le_of_lt hl); (try simp only at hb); omega
  · -- hbid'
    intro i o q ho hW hc hq
    obtain ⟨t, h1, h2, _⟩ := stp i o ho
    obtain ⟨te, g1, g2, g3⟩ := hsk q hq
    simp only [h1, Option.map_some, Option.getD_some] at hc
    have hl := (List.getElem?_eq_some_iff.1 h1).1
    have hl' := (List.getElem?_eq_some_iff.1 g1).1
    simp only [if_pos hq]
    rcases Nat.lt_trichotomy (posOf tr i) ((effsOf tr).getD q 0) with h | h | h
    · left
      have h4 := n_mono tk ((effsOf tr).getD q 0 - (posOf tr i + 1)) (posOf tr i + 1) (by omega)
      rw [show posOf tr i + 1 + ((effsOf tr).getD q 0 - (posOf tr i + 1)) = (effsOf tr).getD q 0 by omega, stAt_succ h1] at h4
      cases t with
      | new j v cs => simp only [nextS, nextH, push_n] at h4; omega
      | skip j => simp [TS.cls] at hc
      | pure j v => simp [TS.cls] at hc
      | eff j v h1' => simp [TS.cls] at hc
    · rw [h, g1] at h1; cases h1
      cases t <;> simp_all [TS.cls, TS.isEff]
    · right
      have h4 := n_mono tk (posOf tr i - ((effsOf tr).getD q 0 + 1)) ((effsOf tr).getD q 0 + 1) (by omega)
      rwa [show (effsOf tr).getD q 0 + 1 + (posOf tr i - ((effsOf tr).getD q 0 + 1)) = posOf tr i by omega] at h4
  · -- hgrow
    intro q hq
    obtain ⟨te, g1, g2, g3⟩ := hsk q hq
    have hl' := (List.getElem?_eq_some_iff.1 g1).1
    obtain ⟨T, hT1, hT2, hT3⟩ := tlast (q + 1) (by omega)
    try simp only
    rw [← hT3]
    have hlt : (effsOf tr).getD q 0 < T := by
      by_cases h : q + 1 < (effsOf tr).length
      · rw [if_pos h] at hT3
        have := effs_lt (tr := tr) (show q < q + 1 by omega) h
        omega
      · rw [if_neg h] at hT3; omega
    have := grow_between (ops := ops) (s0 := s0) (tr := tr) (T - ((effsOf tr).getD q 0 + 1)) ((effsOf tr).getD q 0 + 1) (by omega) (fun r hr1 hr2 hmem => by
      obtain ⟨q', hq', hqe⟩ := effs_find hmem
      have hqq : q < q' := by
        rcases Nat.lt_trichotomy q q' with h | h | h
        · exact h
        · subst h; omega
        · have := effs_lt (tr := tr) h hq; omega
      by_cases h : q + 1 < (effsOf tr).length
      · rw [if_pos h] at hT3
        rcases Nat.eq_or_lt_of_le (show q + 1 ≤ q' from hqq) with h' | h'
        · subst h'; omega
        · have := effs_lt (tr := tr) h' hq'; omega
      · omega)
    rwa [show (effsOf tr).getD q 0 + 1 + (T - ((effsOf tr).getD q 0 + 1)) = T by omega] at this
  · -- hcall
    intro q o hq ho
    obtain ⟨te, g1, g2, g3⟩ := hsk q hq
    have hpos := posOf_eq ot g1
    simp only [g3] at ho ⊢
    have hs := tk.step _ _ g1
    cases te with
    | eff j v h1 =>
      obtain ⟨o', ho', _, he, _⟩ := hs
      simp only [TS.idx] at ho hpos ⊢
      rw [ho] at ho'; cases ho'
      have hcg := ocong j o ho
      rw [hpos] at hcg
      have := evOp_congr hcg he
      simp only [hpos, g1, if_pos hq, Option.map_some, Option.getD_some, TS.val]
      rw [stAt_succ g1]
      exact this
    | skip j => simp [TS.isEff] at g2
    | pure j v => simp [TS.isEff] at g2
    | new j v cs => simp [TS.isEff] at g2

end
end Go.CM
