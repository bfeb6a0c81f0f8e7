/-
  The canonical machine, part L: what it computes is what the model's runs compute, on every tape.
-/
import Derived.Test.YtfedhobckpgokaaCmK
import Derived.Still
import Derived.Scope
import Derived.LoopN
namespace Go.CM
open Go
set_option linter.unusedVariables false
set_option linter.unusedSimpArgs false

section
variable {P : Program} {G : Nat → CV}

structure SR (N : Nat) (w : World) (R : Nat → Prop) (h : Hp) (μ : Mu) (σ : Nat → CV) (a : Act) : Prop where
  size : a.tmps.size = N
  defers : a.defers = []
  val : ∀ t, VR w R h μ (σ t) (a.tmps.getD t undef)

def Gok (G : Nat → CV) (w : World) (R : Nat → Prop) (h : Hp) (μ : Mu) : Prop := ∀ g, (G g).closed = true ∧ VR w R h μ (G g) (.pointer (some ⟨g, 0, none⟩))

theorem Gok.ext {w w' : World} {R : Nat → Prop} {h h' : Hp} {μ μ' : Mu} (g : Gok G w R h μ) (e : Ext w h μ w' h' μ') : Gok G w' R h' μ' := fun i => ⟨(g i).1, (g i).2.ext e⟩

theorem SR.ext {N : Nat} {w w' : World} {R : Nat → Prop} {h h' : Hp} {μ μ' : Mu} {σ : Nat → CV} {a : Act} (s : SR N w R h μ σ a) (e : Ext w h μ w' h' μ') : SR N w' R h' μ' σ a :=
  ⟨s.size, s.defers, fun t => (s.val t).ext e⟩

theorem SR.ev {N : Nat} {w : World} {R : Nat → Prop} {h : Hp} {μ : Mu} {σ : Nat → CV} {a : Act} (s : SR N w R h μ σ a) (g : Gok G w R h μ) (x : Operand) : VR w R h μ (ev G σ x) (a.eval x) := by
  cases x with
  | tmp t => exact s.val t
  | const v => exact VR.ofV v
  | global i => exact (g i).2
  | func f => exact .fn f [] [] #[] #[] rfl rfl (fun _ _ _ hh => by simp at hh) (fun _ _ _ hh => by simp at hh)

theorem undef_ok {w : World} {R : Nat → Prop} {h : Hp} {μ : Mu} : VR w R h μ undefC undef := .tu [] #[] rfl (fun _ _ _ hh => by simp at hh)

theorem SR.put {N : Nat} {w : World} {R : Nat → Prop} {h : Hp} {μ : Mu} {σ : Nat → CV} {a : Act} (s : SR N w R h μ σ a) {dst : Option Tmp} (hd : dstOk N dst = true) {c : CV} {v : Value} (hv : VR w R h μ c v) :
    SR N w R h μ (putC σ dst c) (a.put dst v) := by
  cases dst with
  | none => exact s
  | some d =>
    have hlt : d < a.tmps.size := by rw [s.size]; simpa [dstOk] using hd
    refine ⟨by simp [Act.put, s.size], s.defers, fun t => ?_⟩
    simp only [putC, Act.put]
    by_cases ht : t = d
    · subst ht
      rw [fupd_same]
      simp [hlt]
      exact hv
    · rw [fupd_ne _ _ _ _ ht]
      have := s.val t
      simpa [Array.getElem?_setIfInBounds_ne (Ne.symm ht)] using this

theorem wanted_ok {w : World} {R : Nat → Prop} {h : Hp} {μ : Mu} {ops : Array Oper} {σ : Nat → CV} {tmps : Array Value} {o : Oper} {b : Bool} (hw : wantedC ops σ o = some b)
    (hv : ∀ d, (∃ j want, o.guard = some (j, want) ∧ (ops[j]?).bind (·.dst) = some d) → VR w R h μ (σ d) (tmps.getD d undef)) : Region.wanted o (yielded ops tmps) = b := by
  unfold wantedC at hw
  unfold Region.wanted
  cases hg : o.guard with
  | none => rw [hg] at hw; simpa using hw
  | some jw =>
    obtain ⟨j, want⟩ := jw
    rw [hg] at hw
    simp only at hw ⊢
    unfold yielded
    cases hd : (ops[j]?).bind (·.dst) with
    | none =>
      rw [hd] at hw
      simp only [Option.some.injEq] at hw
      subst hw
      simp
    | some d =>
      rw [hd] at hw
      have hvd := hv d ⟨j, want, hg, hd⟩
      simp only [Option.bind_some] at hw ⊢
      cases ht : tmps[d]? with
      | none =>
        have hu : tmps.getD d undef = undef := by simp [Array.getD_eq_getD_getElem?, ht]
        rw [hu] at hvd
        cases hc : σ d <;> rw [hc] at hw hvd <;> simp at hw <;> try (subst hw; simp)
        all_goals cases hvd
      | some v =>
        have hu : tmps.getD d undef = v := by simp [Array.getD_eq_getD_getElem?, ht]
        rw [hu] at hvd
        cases hc : σ d <;> rw [hc] at hw hvd <;> simp at hw
        all_goals (cases hvd <;> (subst hw; simp))

/-- A loop by its rounds, any other code by its wp. -/
def wpX (P : Program) (n : Nat) (c : Code) (Q : Exit → Act → World → Prop) (a : Act) (w : World) : Prop :=
  match c with
  | .loop c' => Code.rounds P c' Q n a w
  | c => c.wp P Q a w

theorem wpX.wp {n : Nat} {c : Code} {Q : Exit → Act → World → Prop} {a : Act} {w : World} (h : wpX P n c Q a w) : c.wp P Q a w := by
  cases c <;> first | exact wp_loop_rounds n h | exact h

def Sound (P : Program) (G : Nat → CV) : J → Prop
  | .code c N σ h e σ' h' => ∃ n, ∀ (R : Nat → Prop) (B : Nat) (w : World) (μ : Mu) (a : Act) (Q : Exit → Act → World → Prop), Rel R B w h μ → Gok G w R h μ → SR N w R h μ σ a →
      (∀ a' w' μ', Ext w h μ w' h' μ' → Rel R B w' h' μ' → SR N w' R h' μ' σ' a' → Q e.out a' w') → wpX P n c Q a w
  | .ops all l N σ h σ' h' => ∀ (R : Nat → Prop) (B : Nat) (w : World) (μ : Mu) (a : Act) (Q : Exit → Act → World → Prop), Rel R B w h μ → Gok G w R h μ → SR N w R h μ σ a →
      (∀ a' w' μ', Ext w h μ w' h' μ' → Rel R B w' h' μ' → SR N w' R h' μ' σ' a' → Q .normal a' w') → wpList P all Q l a w
  | .op op σ h v h' => ∀ (R : Nat → Prop) (B : Nat) (w : World) (μ : Mu) (a : Act) (o : Oper) (K : Act → World → Prop) (Q : Exit → Act → World → Prop), o.op = op → Rel R B w h μ → Gok G w R h μ →
      (∀ x, VR w R h μ (ev G σ x) (a.eval x)) → (∀ v' w' μ', Ext w h μ w' h' μ' → Rel R B w' h' μ' → VR w' R h' μ' v v' → K (a.put o.dst v') w') → o.wp P a w K Q
  | .call f args h r h' => ∀ (R : Nat → Prop) (B : Nat) (w : World) (μ : Mu) (vs : Array Value), Rel R B w h μ → Gok G w R h μ → vs.size = args.length →
      (∀ (j : Nat) (c : CV) (v : Value), args[j]? = some c → vs[j]? = some v → VR w R h μ c v) →
      Calls P f vs w fun e w' => ∃ v μ', e = .returned v ∧ Ext w h μ w' h' μ' ∧ Rel R B w' h' μ' ∧ VR w' R h' μ' r v

/-! ### Results -/
theorem results_ok {N : Nat} {w : World} {R : Nat → Prop} {B : Nat} {h : Hp} {μ : Mu} {σ : Nat → CV} {a : Act} (rel : Rel R B w h μ) (s : SR N w R h μ σ a) {fn : Func} {r : CV} (hr : resC P h σ fn = some r) :
    ∃ v, (results fn a.tmps).run P w = .ok v w ∧ VR w R h μ r v := by
  have one : ∀ (x : ResultVar) (c : CV), resOne P h σ x = some c → ∃ v, (∀ F : ResultVar → Sem Value, (∀ t, F (.tmp t) = pure (a.tmps.getD t undef)) → (∀ p t, F (.cell p t) = (do loadVar t (← asAddr (a.tmps.getD p undef)))) → (F x).run P w = .ok v w) ∧ VR w R h μ c v := by
    intro x c hx
    cases x with
    | tmp t =>
      simp only [resOne, Option.some.injEq] at hx; subst hx
      exact ⟨_, fun F h1 _ => by rw [h1]; rfl, s.val t⟩
    | cell p t =>
      simp only [resOne] at hx
      obtain ⟨v, h1, h2⟩ := load_ok (P := P) rel hx (s.val p)
      refine ⟨v, fun F _ hF => ?_, h2⟩
      rw [hF]
      cases hp : a.tmps.getD p undef with
      | pointer ad =>
        cases ad with
        | none => rw [hp] at h1; simp [Instr.loadAt, Instr.sureAddr] at h1
        | some ad => rw [hp] at h1; simpa [Instr.loadAt, Instr.sureAddr, asAddr, hp] using h1
      | _ => rw [hp] at h1; simp [Instr.loadAt, Instr.sureAddr] at h1
  have all : ∀ (l : List ResultVar) (cs : List CV), resList P h σ l = some cs → ∃ vs : List Value, (∀ F : ResultVar → Sem Value, (∀ t, F (.tmp t) = pure (a.tmps.getD t undef)) → (∀ p t, F (.cell p t) = (do loadVar t (← asAddr (a.tmps.getD p undef)))) → (l.mapM F).run P w = .ok vs w) ∧
      vs.length = cs.length ∧ ∀ (j : Nat) (c : CV) (v : Value), cs[j]? = some c → vs[j]? = some v → VR w R h μ c v := by
    intro l
    induction l with
    | nil => intro cs hc; simp only [resList, Option.some.injEq] at hc; subst hc; exact ⟨[], fun F _ _ => by simp, rfl, fun _ _ _ hh => by simp at hh⟩
    | cons x l ih =>
      intro cs hc
      unfold resList at hc
      split at hc
      · rename_i c cs' hx hl
        simp only [Option.some.injEq] at hc; subst hc
        obtain ⟨v, h1, h2⟩ := one x c hx
        obtain ⟨vs, h3, h4, h5⟩ := ih cs' hl
        refine ⟨v :: vs, fun F k1 k2 => by simp only [List.mapM_cons, Sem.run_bind, h1 F k1 k2, Result.andThen_ok, h3 F k1 k2, Sem.run_pure], by simp [h4], fun j c' v' hj hv => ?_⟩
        cases j with
        | zero => simp at hj hv; subst hj hv; exact h2
        | succ j => exact h5 j c' v' (by simpa using hj) (by simpa using hv)
      · cases hc
  unfold resC at hr
  cases hl : resList P h σ fn.results.toList with
  | none => rw [hl] at hr; cases hr
  | some cs =>
    rw [hl] at hr
    simp only [Option.map_some, Option.some.injEq] at hr; subst hr
    obtain ⟨vs, h1, h2, h3⟩ := all _ _ hl
    have hrun : (results fn a.tmps).run P w = .ok (if hh : vs.toArray.size = 1 then vs.toArray[0] else .tuple vs.toArray) w := by
      unfold results
      rw [Array.mapM_eq_mapM_toList]
      simp only [Sem.run_bind, Sem.run_map]
      rw [h1 _ (fun _ => rfl) (fun _ _ => rfl)]
      simp
    refine ⟨_, hrun, ?_⟩
    match cs, vs, h2, h3 with
    | [], [], _, _ => exact .tu [] #[] rfl (fun _ _ _ hh => by simp at hh)
    | [c], [v], _, h3 => exact h3 0 c v rfl rfl
    | c :: c' :: cs, v :: v' :: vs, h2, h3 =>
      simp only [List.size_toArray, List.length_cons]
      rw [dif_neg (by omega)]
      exact .tu _ _ (by simpa using h2) (fun j x y hj hy => h3 j x y hj (by simpa using hy))

/-! ### Pure calls -/
theorem closed_vr {w : World} {R : Nat → Prop} {h : Hp} {μ : Mu} {c : CV} {v : Value} (hv : VR w R h μ c v) : c.closed = true → VR0 w (fun k => R k ∧ ¬ Own h μ k) c v := by
  have hl : ∀ (cs : List CV), closedL cs = true → ∀ (j : Nat) (c : CV), cs[j]? = some c → c.closed = true := by
    intro cs
    induction cs with
    | nil => intro _ j c hj; simp at hj
    | cons x cs ih =>
      intro hc j c hj
      simp only [closedL, Bool.and_eq_true] at hc
      cases j with
      | zero => simp at hj; subst hj; exact hc.1
      | succ j => exact ih hc.2 j c (by simpa using hj)
  have hll : ∀ (es : List (List CV)), closedLL es = true → ∀ (i : Nat) (e : List CV), es[i]? = some e → closedL e = true := by
    intro es
    induction es with
    | nil => intro _ j c hj; simp at hj
    | cons x cs ih =>
      intro hc j c hj
      simp only [closedLL, Bool.and_eq_true] at hc
      cases j with
      | zero => simp at hj; subst hj; exact hc.1
      | succ j => exact ih hc.2 j c (by simpa using hj)
  have cell : ∀ b o v, Cell w R h μ b o v → Cell w (fun k => R k ∧ ¬ Own h μ k) Hp.empty (fun _ => none) b o v := fun b o v hc =>
    ⟨hc.here, hc.one, ⟨hc.ro, hc.free⟩, fun ⟨b, m, h1, h2, h3⟩ => by cases h2⟩
  unfold VR0
  induction hv with
  | bool b => exact fun _ => .bool b
  | int k n => exact fun _ => .int k n
  | str bs => exact fun _ => .str bs
  | nilP => exact fun _ => .nilP
  | nilS => exact fun _ => .nilS
  | nilM => exact fun _ => .nilM
  | nilF => exact fun _ => .nilF
  | nilI => exact fun _ => .nilI
  | ag cs vs hlen h1 hv ih => exact fun hc => .ag cs vs hlen h1 fun j c v hj hjv => ih j c v hj hjv (hl cs (by simpa [CV.closed] using hc) j c hj)
  | tu cs vs hlen hv ih => exact fun hc => .tu cs vs hlen fun j c v hj hjv => ih j c v hj hjv (hl cs (by simpa [CV.closed] using hc) j c hj)
  | ptr => exact fun hc => by simp [CV.closed] at hc
  | ptrGone => exact fun hc => by simp [CV.closed] at hc
  | rptr cs off blk o vals hc hv ih => exact fun hcl => .rptr cs off blk o vals (fun j hj => cell _ _ _ (hc j hj)) fun j c hj => ih j c hj (hl cs (by simpa [CV.closed] using hcl) j c hj)
  | sl => exact fun hc => by simp [CV.closed] at hc
  | slGone => exact fun hc => by simp [CV.closed] at hc
  | rsl z es blk off cap vals hl' hz hc hv ih => exact fun hcl => .rsl z es blk off cap vals hl' hz (fun i j hi hj => cell _ _ _ (hc i j hi hj)) fun i e he j c hj => ih i e he j c hj (hl e (hll es (by simpa [CV.closed] using hcl) i e he) j c hj)
  | rsl0 z a cap => exact fun _ => .rsl0 z a cap
  | fn f first captured fs cs hf hc h1 h2 ih1 ih2 =>
    intro hcl
    simp only [CV.closed, Bool.and_eq_true] at hcl
    exact .fn f first captured fs cs hf hc (fun j c v hj hjv => ih1 j c v hj hjv (hl _ hcl.1 j c hj)) fun j c v hj hjv => ih2 j c v hj hjv (hl _ hcl.2 j c hj)
  | mp => exact fun hc => by simp [CV.closed] at hc
  | it => exact fun hc => by simp [CV.closed] at hc
  | ifc t c v hv ih => exact fun hcl => .ifc t c v (ih (by simpa [CV.closed] using hcl))
  | bad v => exact fun _ => .bad v

theorem closedL_get {cs : List CV} (hc : closedL cs = true) : ∀ (j : Nat) (c : CV), cs[j]? = some c → c.closed = true := by
  induction cs with
  | nil => intro j c hj; simp at hj
  | cons x cs ih =>
    intro j c hj
    simp only [closedL, Bool.and_eq_true] at hc
    cases j with
    | zero => simp at hj; subst hj; exact hc.1
    | succ j => exact ih hc.2 j c (by simpa using hj)

/-- What was only read stays so, wherever it lies. -/
theorem VR0.up {w : World} {A : Nat → Prop} {R : Nat → Prop} {h : Hp} {μ : Mu} {c : CV} {v : Value} (hv : VR0 w A c v) (hA : ∀ k, k < w.heap.size → A k → R k ∧ ¬ Own h μ k) : VR w R h μ c v := by
  have cell : ∀ b o v, Cell w A Hp.empty (fun _ => none) b o v → Cell w R h μ b o v := fun b o v hc =>
    have hb : b < w.heap.size := World.block_lt_of_cell? _ _ hc.here
    ⟨hc.here, hc.one, (hA b hb hc.ro).1, (hA b hb hc.ro).2⟩
  unfold VR0 at hv
  induction hv with
  | bool b => exact .bool b
  | int k n => exact .int k n
  | str bs => exact .str bs
  | nilP => exact .nilP
  | nilS => exact .nilS
  | nilM => exact .nilM
  | nilF => exact .nilF
  | nilI => exact .nilI
  | ag cs vs hlen h1 hv ih => exact .ag cs vs hlen h1 ih
  | tu cs vs hlen hv ih => exact .tu cs vs hlen ih
  | ptr b off sz cs m hb hm => cases hm
  | ptrGone b off sz a hg => rcases hg with hg | ⟨n, cs, hg, _⟩ <;> cases hg
  | rptr cs off blk o vals hc hv ih => exact .rptr cs off blk o vals (fun j hj => cell _ _ _ (hc j hj)) ih
  | sl z b off len cap sz cap' cs m hb hm => cases hm
  | slGone z b off len cap sz cap' a hl hc hg => rcases hg with hg | ⟨n, cs, hg, _⟩ <;> cases hg
  | rsl z es blk off cap vals hl' hz hc hv ih => exact .rsl z es blk off cap vals hl' hz (fun i j hi hj => cell _ _ _ (hc i j hi hj)) ih
  | rsl0 z a cap => exact .rsl0 z a cap
  | fn f first captured fs cs hf hc h1 h2 ih1 ih2 => exact .fn f first captured fs cs hf hc ih1 ih2
  | mp b m hb hm => cases hm
  | it b m hb hm => cases hm
  | ifc t c v hv ih => exact .ifc t c v ih
  | bad v => exact .bad v

theorem own_lt {R : Nat → Prop} {B : Nat} {w : World} {h : Hp} {μ : Mu} (rel : Rel R B w h μ) {k : Nat} (ho : Own h μ k) : k < w.heap.size := by
  obtain ⟨b, m, h1, h2, rfl⟩ := ho
  exact rel.lt h1 h2

/-- The world has grown below nothing of ours. -/
theorem rel_below {R : Nat → Prop} {B : Nat} {w w' : World} {h : Hp} {μ : Mu} (rel : Rel R B w h μ) (hb : RowKit.Below w.heap.size w w') : Ext w h μ w' h μ ∧ Rel R B w' h μ := by
  have e : Ext w h μ w' h μ := ⟨⟨hb.os, hb.tape, hb.output, hb.size, fun k hk _ => hb.block k hk, fun _ ho => .inl ho, fun b sz cs m h1 h2 => .inl ⟨cs, h1, h2⟩, fun _ _ hg => hg, fun _ _ _ h1 h2 => ⟨h1, h2⟩, Nat.le_refl _⟩, fun _ _ hm => hm⟩
  refine ⟨e, fun b m hm => ?_, rel.inj, rel.base, rel.fresh, rel.up, Nat.le_trans rel.size hb.size, rel.mu⟩
  cases hl : live (h.f b) with
  | false => cases hc : h.f b <;> first | trivial | (rw [hc] at hl; cases hl)
  | true => exact (rel.blk b m hm).ext e.toExt0 (hb.block _ (rel.lt hl hm))

theorem pure_sound {f : FuncId} {args : List CV} {r : CV} {h : Hp} (hp : PureC P G f args r) (hc : closedL args = true) : Sound P G (.call f args h r h) := by
  intro R B w μ vs rel g hl hv
  refine (hp w (fun k => R k ∧ ¬ Own h μ k) vs (fun i => ?_) hl (fun j c v hj hjv => closed_vr (hv j c v hj hjv) (closedL_get hc j c hj))).mono ?_
  · exact closed_vr (g i).2 (g i).1
  · rintro e w' ⟨v, rfl, hb, hr⟩
    obtain ⟨k1, k2⟩ := rel_below rel hb
    refine ⟨v, μ, rfl, k1, k2, hr.up (fun k hk hA => ?_)⟩
    rcases hA with hA | hA
    · exact hA
    · exact ⟨rel.up k (Nat.le_trans rel.size hA), fun ho => by have := own_lt rel ho; omega⟩

end
end Go.CM
