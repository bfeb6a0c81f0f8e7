/-
  The canonical machine, part J: one operation.
-/
import Derived.Test.YtfedhobckpgokaaCmI
namespace Go.CM
open Go
set_option linter.unusedVariables false
set_option linter.unusedSimpArgs false

section
variable {P : Program} {w : World} {R : Nat → Prop} {B : Nat} {h : Hp} {μ : Mu}

/-- The shapes that '==' is asked of. -/
inductive EqShape : Value → Value → Prop where
  | bool (a b : Bool) : EqShape (.bool a) (.bool b)
  | agg (a b : Array Value) : EqShape (.agg a) (.agg b)
  | slice (a : Option Addr) (l c : Nat) (a' : Option Addr) (l' c' : Nat) : EqShape (.slice a l c) (.slice a' l' c')

theorem eqShape_of {d : Nat} {t : TypeId} {x y : CV} {b : Bool} {xv yv : Value} (he : eqT P d t x y = some b) (hx : VR w R h μ x xv) (hy : VR w R h μ y yv)
    (hi : ∀ k a k' b', x = .int k a → y = .int k' b' → False) (hs : ∀ a b', x = .str a → y = .str b' → False) : EqShape xv yv := by
  cases d with
  | zero => simp [eqT] at he
  | succ d =>
    unfold eqT at he
    split at he
    · cases hx; cases hy; exact .bool _ _
    · exact (hi _ _ _ _ rfl rfl).elim
    · exact (hs _ _ rfl rfl).elim
    · cases hx; cases hy; exact .agg _ _
    · cases hx; cases hy; exact .agg _ _
    · cases hx; cases hy; exact .slice _ _ _ _ _ _
    · cases hx; cases hy <;> exact .slice _ _ _ _ _ _
    · cases hx; cases hy <;> exact .slice _ _ _ _ _ _
    · cases hx <;> cases hy <;> exact .slice _ _ _ _ _ _
    · cases hx <;> cases hy <;> exact .slice _ _ _ _ _ _
    · cases he

theorem eqGuard_ok {op : BinOp} {t : TypeId} {ox oy : Operand} {xv yv : Value} (hs : EqShape xv yv) (hg : ∀ a b, xv = .agg a → yv = .agg b → P.eqGuardType P.depth t = false) : (eqGuard op t ox oy xv yv).run P w = .ok () w := by
  cases hs with
  | bool a b => cases op <;> rfl
  | agg a b => exact run_eqGuard_agg w op t ox oy a b (hg a b rfl rfl)
  | slice => cases op <;> rfl

theorem run_eql_shape {t : TypeId} {xv yv : Value} {b : Bool} (hs : EqShape xv yv) (he' : (Op.equalIn 10000 t xv yv).run P w = .ok b w) :
    (binOp .eql t xv yv).run P w = .ok (.bool b) w ∧ (binOp .neq t xv yv).run P w = .ok (.bool (!b)) w := by
  have hq : (Op.equal t xv yv).run P w = .ok b w := he'
  cases hs <;> constructor <;> simp [binOp, hq]

theorem eqGuard_int {op : BinOp} {t : TypeId} {ox oy : Operand} {k k' : IntKind} {a b : Int} : (eqGuard op t ox oy (.int k a) (.int k' b)).run P w = .ok () w := by
  cases op <;> rfl
theorem eqGuard_str {op : BinOp} {t : TypeId} {ox oy : Operand} {a b : ByteArray} : (eqGuard op t ox oy (.string a) (.string b)).run P w = .ok () w := by
  cases op <;> rfl

theorem binC_ok {op : BinOp} {t : TypeId} {ox oy : Operand} {x y c : CV} {xv yv : Value} (hc : binC P op t x y = some c) (hx : VR w R h μ x xv) (hy : VR w R h μ y yv) :
    ∃ v, ((do eqGuard op t ox oy xv yv; binOp op t xv yv : Sem Value)).run P w = .ok v w ∧ VR w R h μ c v := by
  unfold binC at hc
  split at hc
  · cases hx; cases hy
    obtain ⟨v, h1, h2⟩ := binInt_ok (P := P) (w := w) (R := R) (h := h) (μ := μ) (t := t) hc
    exact ⟨v, by simp [eqGuard_int, h1], h2⟩
  · cases hx; cases hy
    obtain ⟨v, h1, h2⟩ := binStr_ok (P := P) (w := w) (R := R) (h := h) (μ := μ) (t := t) hc
    exact ⟨v, by simp [eqGuard_str, h1], h2⟩
  · rename_i hni hns
    have key : ∀ b, eqOk P t x y = true → eqT P 10000 t x y = some b → EqShape xv yv ∧ (eqGuard op t ox oy xv yv).run P w = .ok () w ∧
        (binOp .eql t xv yv).run P w = .ok (.bool b) w ∧ (binOp .neq t xv yv).run P w = .ok (.bool (!b)) w := by
      intro b hok he
      have hsh := eqShape_of he hx hy hni hns
      have hg : ∀ a b, xv = .agg a → yv = .agg b → P.eqGuardType P.depth t = false := by
        rintro a b rfl rfl
        cases hx with
        | ag cs _ _ _ _ =>
          cases hy with
          | ag cs' _ _ _ _ => simpa [eqOk] using hok
          | bad => simp [eqT] at he
        | bad => cases hy <;> simp [eqT] at he
      have hq := eqT_ok 10000 t x y b xv yv he hx hy
      obtain ⟨k1, k2⟩ := run_eql_shape hsh hq
      exact ⟨hsh, eqGuard_ok hsh hg, k1, k2⟩
    split at hc
    · split at hc
      · rename_i hok
        cases he : eqT P 10000 t x y with
        | none => rw [he] at hc; cases hc
        | some b =>
          rw [he] at hc
          simp only [Option.map_some, Option.some.injEq] at hc; subst hc
          obtain ⟨_, k1, k2, _⟩ := key b hok he
          exact ⟨.bool b, by simp [k1, k2], .bool _⟩
      · cases hc
    · split at hc
      · rename_i hok
        cases he : eqT P 10000 t x y with
        | none => rw [he] at hc; cases hc
        | some b =>
          rw [he] at hc
          simp only [Option.map_some, Option.some.injEq] at hc; subst hc
          obtain ⟨_, k1, _, k2⟩ := key b hok he
          exact ⟨.bool (!b), by simp [k1, k2], .bool _⟩
      · cases hc
    · cases hc

theorem unC_ok {op : UnOp} {x c : CV} {xv : Value} (hc : unC op x = some c) (hx : VR w R h μ x xv) : ∃ v, (Op.unary op xv).run P w = .ok v w ∧ VR w R h μ c v := by
  unfold unC at hc
  split at hc
  · simp only [Option.some.injEq] at hc; subst hc
    cases hx
    exact ⟨_, by simp [Op.unary], .bool _⟩
  · simp only [Option.some.injEq] at hc; subst hc
    cases hx
    refine ⟨_, ?_, .int _ _⟩
    simp only [Op.unary]; rfl
  · simp only [Option.some.injEq] at hc; subst hc
    cases hx
    refine ⟨_, ?_, .int _ _⟩
    simp only [Op.unary]; rfl
  · cases hc

theorem optVR_map {ρ : Operand → CV} {ρ' : Operand → Value} (hρ : ∀ x, VR w R h μ (ρ x) (ρ' x)) (o : Option Operand) : OptVR w R h μ (o.map ρ) (o.map ρ') := by
  cases o with
  | none => trivial
  | some x => exact hρ x

def StepOk (P : Program) (R : Nat → Prop) (B : Nat) (w : World) (h : Hp) (μ : Mu) (r : Result Next) : Res → Prop
  | .val c h' => Good R B w h μ r c h'
  | .call f args h' => h' = h ∧ ∃ vs : Array Value, r = .ok (.enter f vs) w ∧ vs.size = args.length ∧ ∀ (j : Nat) (c : CV) (v : Value), args[j]? = some c → vs[j]? = some v → VR w R h μ c v

theorem Good.mk {r : Result Next} {c : CV} {h' : Hp} {v : Value} {w' : World} {μ' : Mu} (hr : r = .ok (.value v) w') (he : Ext w h μ w' h' μ') (hl : Rel R B w' h' μ') (hv : VR w' R h' μ' c v) : Good R B w h μ r c h' :=
  ⟨v, w', μ', .inl hr, he, hl, hv⟩

theorem builtin_ok (rel : Rel R B w h μ) {b : Builtin} {ts : Array TypeId} {ty : TypeId} {consts : Array Bool} {args : List CV} {vs : Array Value} {r : Res} (hs : builtinC P h b ts.toList args = some r)
    (hl : vs.size = args.length) (hv : ∀ (j : Nat) (c : CV) (v : Value), args[j]? = some c → vs[j]? = some v → VR w R h μ c v) : StepOk P R B w h μ ((builtin b ts ty consts vs).run P w) r := by
  have one : ∀ x, args = [x] → ∃ xv, vs = #[xv] ∧ VR w R h μ x xv := by
    intro x hx
    subst hx
    simp only [List.length_cons, List.length_nil] at hl
    refine ⟨vs[0], ?_, hv 0 x _ rfl (by simp [hl])⟩
    apply Array.ext
    · simpa using hl
    · intro i h1 h2
      have : i = 0 := by omega
      subst this; rfl
  have two : ∀ x y, args = [x, y] → ∃ xv yv, vs = #[xv, yv] ∧ VR w R h μ x xv ∧ VR w R h μ y yv := by
    intro x y hx
    subst hx
    simp only [List.length_cons, List.length_nil] at hl
    refine ⟨vs[0], vs[1], ?_, hv 0 x _ rfl (by simp [hl]), hv 1 y _ rfl (by simp [hl])⟩
    apply Array.ext
    · simpa using hl
    · intro i h1 h2
      rcases (show i = 0 ∨ i = 1 by simp at h2; omega) with rfl | rfl <;> rfl
  have arr1 : ∀ t, ts.toList = [t] → ts = #[t] := fun t ht => by apply Array.toList_inj.1; simpa using ht
  have arr2 : ∀ t u, ts.toList = [t, u] → ts = #[t, u] := fun t u ht => by apply Array.toList_inj.1; simpa using ht
  unfold builtinC at hs
  split at hs
  · rename_i t x hts
    obtain ⟨xv, rfl, hx⟩ := one x rfl
    obtain rfl := arr1 t hts
    cases hc : lenC P t x with
    | none => rw [hc] at hs; cases hs
    | some c =>
      rw [hc] at hs
      simp only [Option.map_some, Option.some.injEq] at hs; subst hs
      obtain ⟨v, h1, h2⟩ := len_ok (P := P) (u := t) (ty := ty) hc hx
      exact Good.mk (by simp [builtin, h1]) (.refl _ _ _) rel h2
  · rename_i t u s x hts
    obtain ⟨sv, xv, rfl, hs', hx⟩ := two s x rfl
    obtain rfl := arr2 t u hts
    split at hs
    · rename_i k hu
      cases hc : appendZC P h t s x with
      | none => rw [hc] at hs; cases hs
      | some c =>
        obtain ⟨c, h'⟩ := c
        rw [hc] at hs
        simp only [Option.map_some, Option.some.injEq] at hs; subst hs
        obtain ⟨v, w', μ', h1, h2, h3, h4⟩ := appendZ_ok (ty := ty) rel hu hc hs' hx
        exact Good.mk (by simp [builtin, h1]) h2 h3 h4
    · cases hs
    · rename_i hn1 hn2
      cases hc : appendC P h t s x with
      | none => rw [hc] at hs; cases hs
      | some c =>
        obtain ⟨c, h'⟩ := c
        rw [hc] at hs
        simp only [Option.map_some, Option.some.injEq] at hs; subst hs
        have hu : notInt P u := by
          cases hd : P.underlying u with
          | none => exact absurd hd hn2
          | some d => exact ⟨d, hd, fun k hk => hn1 k (by rw [hd, hk])⟩
        obtain ⟨v, w', μ', h1, h2, h3, h4⟩ := append_ok (ty := ty) rel hu hc hs' hx
        exact Good.mk (by simp [builtin, h1]) h2 h3 h4
  · rename_i t u d x hts
    obtain ⟨dv, xv, rfl, hd, hx⟩ := two d x rfl
    obtain rfl := arr2 t u hts
    cases hc : copyC P h t d x with
    | none => rw [hc] at hs; cases hs
    | some c =>
      obtain ⟨c, h'⟩ := c
      rw [hc] at hs
      simp only [Option.map_some, Option.some.injEq] at hs; subst hs
      obtain ⟨v, w', h1, h2, h3, h4⟩ := copy_ok (u := u) (ty := ty) rel hc hd hx
      exact Good.mk (by simp [builtin, h1]) h2 h3 h4
  · rename_i t x hts
    obtain ⟨xv, rfl, hx⟩ := one x rfl
    obtain rfl := arr1 t hts
    cases hc : capC P t x with
    | none => rw [hc] at hs; cases hs
    | some c =>
      rw [hc] at hs
      simp only [Option.map_some, Option.some.injEq] at hs; subst hs
      obtain ⟨v, h1, h2⟩ := cap_ok (P := P) (ty := ty) hc hx
      exact Good.mk (by simp [builtin, h1]) (.refl _ _ _) rel h2
  · rename_i t x hts
    obtain ⟨xv, rfl, hx⟩ := one x rfl
    obtain rfl := arr1 t hts
    cases hc : clearC P h t x with
    | none => rw [hc] at hs; cases hs
    | some h' =>
      rw [hc] at hs
      simp only [Option.map_some, Option.some.injEq] at hs; subst hs
      obtain ⟨w', h1, h2, h3⟩ := clear_ok (P := P) (ty := ty) rel hc hx
      exact Good.mk (v := .tuple #[]) (by simp [builtin, h1]) h2 h3 (.tu [] #[] rfl (fun _ _ _ hh => by simp at hh))
  · rename_i x y
    obtain ⟨xv, yv, rfl, hx, hy⟩ := two x y rfl
    cases hc : min2C x y with
    | none => rw [hc] at hs; cases hs
    | some c =>
      rw [hc] at hs
      simp only [Option.map_some, Option.some.injEq] at hs; subst hs
      unfold min2C at hc
      split at hc
      · split at hc
        · rename_i hk; subst hk
          simp only [Option.some.injEq] at hc; subst hc
          cases hx; cases hy
          refine Good.mk (v := .int _ _) ?_ (.refl _ _ _) rel (.int _ _)
          simp [builtin, Builtin.min_, Builtin.min2]
        · cases hc
      · cases hc
  · rename_i x y
    obtain ⟨xv, yv, rfl, hx, hy⟩ := two x y rfl
    cases hc : max2C x y with
    | none => rw [hc] at hs; cases hs
    | some c =>
      rw [hc] at hs
      simp only [Option.map_some, Option.some.injEq] at hs; subst hs
      unfold max2C at hc
      split at hc
      · split at hc
        · rename_i hk; subst hk
          simp only [Option.some.injEq] at hc; subst hc
          cases hx; cases hy
          refine Good.mk (v := .int _ _) ?_ (.refl _ _ _) rel (.int _ _)
          simp [builtin, Builtin.max_, Builtin.max2]
        · cases hc
      · cases hc
  · cases hs

theorem callF_ok {f : FuncId} {fn : Func} {vs : Array Value} (hf : P.funcs[f]? = some fn) (hb : fn.body.isSome = true) (hn : fn.name ≠ "runtime.NumGoroutine") : (callFunc f vs).run P w = .ok (.enter f vs) w := by
  have hb' : fn.body ≠ none := fun hh => by rw [hh] at hb; cases hb
  simp [callFunc, hf, hn, hb']

theorem call_ok (rel : Rel R B w h μ) {ρ : Operand → CV} {ρ' : Operand → Value} (hρ : ∀ x, VR w R h μ (ρ x) (ρ' x)) {c : Call} {ty : TypeId} {r : Res} (hs : callC P h ρ c = some r) :
    StepOk P R B w h μ ((do let d ← resolve ρ' c ty; invoke d.target d.args : Sem Next).run P w) r := by
  unfold callC at hs
  split at hs
  · rename_i b hb
    have := fun consts => builtin_ok (P := P) (b := b) (ts := c.argTypes) (ty := ty) (consts := consts) (args := c.args.toList.map ρ) (vs := c.args.map ρ') rel hs (by simp)
      (fun j x v hj hv => by
        rw [List.getElem?_map] at hj
        rw [Array.getElem?_map] at hv
        cases ho : c.args[j]? with
        | none => simp [ho] at hv
        | some o =>
          simp [ho] at hj hv
          subst hj hv
          exact hρ o)
    simp only [resolve, hb, Sem.run_bind, Sem.run_pure, Result.andThen_ok, invoke]
    exact this _
  · rename_i f hf
    split at hs
    · rename_i g first captured hfn
      have hv := hρ f
      rw [hfn] at hv
      cases hfv : ρ' f with
      | func fn' fs cs =>
        rw [hfv] at hv
        cases hv with
        | fn _ _ _ _ _ h1 h2 h3 h4 =>
          split at hs
          · rename_i fn hfun
            split at hs
            · rename_i hcond
              simp only [Option.some.injEq] at hs; subst hs
              refine ⟨rfl, fs ++ c.args.map ρ' ++ cs, ?_, by simp [h1, h2], ?_⟩
              · simp [resolve, hf, hfv, Deferred.ofValue, invoke, callF_ok hfun hcond.1 hcond.2]
              · intro j x v hj hvj
                by_cases hlt1 : j < first.length
                · rw [List.append_assoc, List.getElem?_append_left hlt1] at hj
                  rw [Array.append_assoc, Array.getElem?_append_left (by omega)] at hvj
                  exact h3 j x v hj hvj
                · by_cases hlt2 : j < first.length + c.args.size
                  · rw [List.getElem?_append_left (by simp; omega), List.getElem?_append_right (by omega), List.getElem?_map] at hj
                    rw [Array.getElem?_append_left (by simp; omega), Array.getElem?_append_right (by omega), Array.getElem?_map, h1] at hvj
                    cases ho : c.args[j - first.length]? with
                    | none => simp [ho] at hvj
                    | some o =>
                      simp [ho] at hj hvj
                      subst hj hvj
                      exact hρ o
                  · rw [List.getElem?_append_right (by simp; omega)] at hj
                    rw [Array.getElem?_append_right (by simp; omega)] at hvj
                    refine h4 _ x v hj ?_
                    simpa [h1] using hvj
            · cases hs
          · cases hs
      | _ => rw [hfv] at hv; cases hv
    · cases hs
  · cases hs

theorem parts_ok {ρ : Operand → CV} {ρ' : Operand → Value} (hρ : ∀ x, VR w R h μ (ρ x) (ρ' x)) (ps : Array (Nat × Operand)) :
    (ps.map fun (i, x) => (i, ρ' x)).size = (ps.toList.map fun p => (p.1, ρ p.2)).length ∧
    ∀ (j : Nat) (p : Nat × CV) (p' : Nat × Value), (ps.toList.map fun p => (p.1, ρ p.2))[j]? = some p → (ps.map fun (i, x) => (i, ρ' x))[j]? = some p' → p'.1 = p.1 ∧ VR w R h μ p.2 p'.2 := by
  refine ⟨by simp, fun j p p' hj hj' => ?_⟩
  rw [List.getElem?_map] at hj
  rw [Array.getElem?_map] at hj'
  cases ho : ps[j]? with
  | none => simp [ho] at hj'
  | some o =>
    simp [ho] at hj hj'
    subst hj hj'
    exact ⟨rfl, hρ o.2⟩

theorem list_ok {ρ : Operand → CV} {ρ' : Operand → Value} (hρ : ∀ x, VR w R h μ (ρ x) (ρ' x)) (xs : Array Operand) :
    ∀ (j : Nat) (c : CV) (v : Value), (xs.toList.map ρ)[j]? = some c → (xs.map ρ')[j]? = some v → VR w R h μ c v := by
  intro j c v hj hv
  rw [List.getElem?_map] at hj
  rw [Array.getElem?_map] at hv
  cases ho : xs[j]? with
  | none => simp [ho] at hv
  | some o =>
    simp [ho] at hj hv
    subst hj hv
    exact hρ o

theorem step_ok (rel : Rel R B w h μ) {ρ : Operand → CV} {ρ' : Operand → Value} (hρ : ∀ x, VR w R h μ (ρ x) (ρ' x)) (o : Oper) {r : Res} (hs : stepC P h ρ o.op = some r) :
    StepOk P R B w h μ ((execOp ρ' o).run P w) r := by
  obtain ⟨dst, op, type, pos, after, guard⟩ := o
  have ofOpt : ∀ {x : Option CV} {m : Sem Value}, (∀ c, x = some c → ∃ v, m.run P w = .ok v w ∧ VR w R h μ c v) → x.map (fun y => Res.val y h) = some r →
      StepOk P R B w h μ ((do pure (.value (← m)) : Sem Next).run P w) r := by
    intro x m hx hr
    cases hxc : x with
    | none => rw [hxc] at hr; cases hr
    | some c =>
      rw [hxc] at hr
      simp only [Option.map_some, Option.some.injEq] at hr; subst hr
      obtain ⟨v, h1, h2⟩ := hx c hxc
      exact Good.mk (by simp [h1]) (.refl _ _ _) rel h2
  have ofNew : ∀ {x : Option (CV × Hp)} {m : Sem Value}, (∀ c h', x = some (c, h') → ∃ v w' μ', m.run P w = .ok v w' ∧ Ext w h μ w' h' μ' ∧ Rel R B w' h' μ' ∧ VR w' R h' μ' c v) → x.map (fun y => Res.val y.1 y.2) = some r →
      StepOk P R B w h μ ((do pure (.value (← m)) : Sem Next).run P w) r := by
    intro x m hx hr
    cases hxc : x with
    | none => rw [hxc] at hr; cases hr
    | some c =>
      obtain ⟨c, h'⟩ := c
      rw [hxc] at hr
      simp only [Option.map_some, Option.some.injEq] at hr; subst hr
      obtain ⟨v, w', μ', h1, h2, h3, h4⟩ := hx c h' hxc
      exact Good.mk (by simp [h1]) h2 h3 h4
  cases op
  case move x =>
    simp only [stepC, Option.some.injEq] at hs; subst hs
    exact Good.mk (by simp [execOp]) (.refl _ _ _) rel (hρ x)
  case assign x =>
    simp only [stepC, Option.some.injEq] at hs; subst hs
    exact Good.mk (by simp [execOp]) (.refl _ _ _) rel (hρ x)
  case pick c a b =>
    simp only [stepC] at hs
    have hcv := hρ c
    cases hc : ρ c <;> rw [hc] at hs hcv <;> simp only at hs <;> try (cases hs; done)
    simp only [Option.some.injEq] at hs; subst hs
    cases hv : ρ' c <;> rw [hv] at hcv <;> try (cases hcv; done)
    cases hcv
    rename_i t
    cases t
    · exact Good.mk (v := ρ' b) (by simp [execOp, hv, asBool]) (.refl _ _ _) rel (by simpa using hρ b)
    · exact Good.mk (v := ρ' a) (by simp [execOp, hv, asBool]) (.refl _ _ _) rel (by simpa using hρ a)
  case alloc t =>
    simp only [stepC] at hs
    cases hz : zeroT P t with
    | none => rw [hz] at hs; cases hs
    | some z =>
      rw [hz] at hs
      simp only [Option.map_some, Option.some.injEq] at hs; subst hs
      obtain ⟨v, hv, hr⟩ := zero_row (P := P) (w := w) (R := R) (h := h) (μ := μ) hz
      obtain ⟨a1, a2, a3⟩ := alloc_ok rel (cs := z) (vs := v.cells) t hr.1 hr.2
      exact Good.mk (by simp [execOp, Instr.alloc, hv, newVar, newRow]) a1 a2 (a3 0)
  case box t x =>
    simp only [stepC] at hs
    cases hz : (ρ x).cells with
    | none => rw [hz] at hs; cases hs
    | some z =>
      rw [hz] at hs
      simp only [Option.map_some, Option.some.injEq] at hs; subst hs
      obtain ⟨k1, k2⟩ := cells_ok (hρ x) hz
      obtain ⟨a1, a2, a3⟩ := alloc_ok rel (cs := z) (vs := (ρ' x).cells) t k1 k2
      exact Good.mk (by simp [execOp, Instr.box, newVar, newRow]) a1 a2 (a3 0)
  case build t parts =>
    obtain ⟨k1, k2⟩ := parts_ok hρ parts
    exact ofOpt (fun c hc => build_ok hc k1 k2) hs
  case buildSlice t len parts =>
    obtain ⟨k1, k2⟩ := parts_ok hρ parts
    exact ofNew (fun c h' hc => buildSlice_ok rel hc k1 k2) hs
  case load t a => exact ofOpt (fun c hc => load_ok rel hc (hρ a)) hs
  case store t a x =>
    simp only [stepC] at hs
    cases hst : storeC P h t (ρ a) (ρ x) with
    | none => rw [hst] at hs; cases hs
    | some h' =>
      rw [hst] at hs
      simp only [Option.map_some, Option.some.injEq] at hs; subst hs
      obtain ⟨w', h1, h2, h3⟩ := store_ok (P := P) rel hst (hρ a) (hρ x)
      exact ⟨undef, w', μ, .inr ⟨by simp [execOp, h1], rfl⟩, h2, h3, .tu [] #[] rfl (fun _ _ _ hh => by simp at hh)⟩
  case nilCheck x =>
    simp only [stepC] at hs
    have hv := hρ x
    cases hc : ρ x <;> rw [hc] at hs hv <;> simp only at hs <;> try (cases hs; done)
    all_goals
      simp only [Option.some.injEq] at hs; subst hs
      cases hx : ρ' x <;> rw [hx] at hv <;> try (cases hv; done)
      rename_i y
      refine Good.mk (v := ρ' x) ?_ (.refl _ _ _) rel (by rw [hx]; exact hv)
      cases hv <;> simp [execOp, hx]
  case binOp op t x y yt => exact ofOpt (fun c hc => binC_ok hc (hρ x) (hρ y)) hs
  case unOp op t x => exact ofOpt (fun c hc => unC_ok hc (hρ x)) hs
  case convert s d x =>
    simp only [stepC] at hs
    split at hs
    · rename_i c hc
      simp only [Option.some.injEq] at hs; subst hs
      obtain ⟨v, w', h1, h2, h3, h4⟩ := bytesStr_ok rel hc (hρ x)
      exact Good.mk (by simp [execOp, h1]) h2 h3 h4
    · exact ofOpt (fun c hc => convert_ok rel hc (hρ x)) hs
  case makeInterface t x =>
    simp only [stepC] at hs
    cases hu : P.underlying t with
    | none => rw [hu] at hs; cases hs
    | some d =>
      rw [hu] at hs
      cases d <;> simp only at hs <;> try (cases hs; done)
      all_goals
        simp only [Option.some.injEq] at hs; subst hs
        exact Good.mk (v := .iface t (ρ' x)) (by simp [execOp, Instr.makeInterface, run_und hu]) (.refl _ _ _) rel (.ifc t _ _ (hρ x))
  case makeFunc fn first captured =>
    cases fn <;> simp only [stepC] at hs <;> try (cases hs; done)
    simp only [Option.some.injEq] at hs; subst hs
    exact Good.mk (by simp [execOp, Instr.makeFunc]) (.refl _ _ _) rel (.fn _ _ _ _ _ (by simp) (by simp) (list_ok hρ first) (list_ok hρ captured))
  case makeSlice t l c => exact ofNew (fun c' h' hc => makeSlice_ok rel hc (hρ l) (hρ c)) hs
  case slice t x lo hi mx => exact ofOpt (fun c hc => slice_ok rel hc (hρ x) (optVR_map hρ lo) (optVR_map hρ hi) (optVR_map hρ mx)) hs
  case fieldAddr s x f => exact ofOpt (fun c hc => fieldAddr_ok hc (hρ x)) hs
  case field t x f =>
    simp only [stepC] at hs
    split at hs
    · rename_i cs fd hx hf
      have hv := hρ x
      rw [hx] at hv
      exact ofOpt (fun c hc => field_ok hf hc hv) hs
    · cases hs
  case indexAddr t x i => exact ofOpt (fun c hc => indexAddr_ok hc (hρ x) (hρ i)) hs
  case index t x i => exact ofOpt (fun c hc => index_ok hc (hρ x) (hρ i)) hs
  case extract x i =>
    simp only [stepC] at hs
    have hv := hρ x
    cases hc : ρ x <;> rw [hc] at hs hv <;> simp only at hs <;> try (cases hs; done)
    rename_i vs
    cases hx : ρ' x <;> rw [hx] at hv <;> try (cases hv; done)
    rename_i arr
    cases hv with
    | tu _ _ hl hvv =>
      refine ofOpt (m := Instr.extract (ρ' x) i) (fun c hc => ?_) hs
      have hlt : i < arr.size := by rw [hl]; exact (List.getElem?_eq_some_iff.1 hc).1
      exact ⟨arr[i], by simp [Instr.extract, hx, hlt], hvv i c _ hc (by simp [hlt])⟩
  case call c => exact call_ok rel hρ hs
  all_goals (simp only [stepC] at hs; cases hs)

end
end Go.CM
