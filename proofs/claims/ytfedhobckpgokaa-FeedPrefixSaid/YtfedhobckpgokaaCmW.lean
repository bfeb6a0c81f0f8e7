/-
  The canonical machine, part W: what must hold behind code without types holds behind the code (regions in one order).
-/
import Derived.Test.YtfedhobckpgokaaCmV
namespace Go.CM
open Go
set_option linter.unusedVariables false
set_option linter.unusedSimpArgs false

section
variable {P : Program} {G : Nat → CV}

theorem appendL_len {l l' : Hl} {z by_ n : Nat} {s v : CV} {xs : List CV} (h : appendL l z by_ s xs n = some (v, l')) : l.length ≤ l'.length := by
  unfold appendL at h
  repeat' split at h
  all_goals first | (cases h; done) | (cases h; simp)

theorem mstep_len {ρ : Operand → CV} {l l' : Hl} {m : Mo} {v : CV} (h : mstep P ρ l m = some (v, l')) : l.length ≤ l'.length := by
  cases m <;> simp only [mstep, pu_some, map_some, Option.some.injEq, Prod.mk.injEq] at h
  case mv => obtain ⟨_, rfl⟩ := h; exact Nat.le_refl _
  case alloc => obtain ⟨_, rfl⟩ := h; simp
  case box => obtain ⟨_, _, _, rfl⟩ := h; simp
  case bsl => obtain ⟨_, _, _, rfl⟩ := h; simp
  case st n a x =>
    obtain ⟨_, h, _, rfl⟩ := h
    unfold storeL at h
    repeat' split at h
    all_goals first | (cases h; done) | (cases h; simp)
  case mkI => obtain ⟨_, rfl⟩ := h; exact Nat.le_refl _
  case mkF => obtain ⟨_, rfl⟩ := h; exact Nat.le_refl _
  case mks =>
    unfold mksC at h
    repeat' split at h
    all_goals first | (cases h; done) | (cases h; simp)
  case app =>
    unfold appM at h
    split at h
    · cases h
    · exact appendL_len h
  case appZ =>
    unfold appZM at h
    repeat' split at h
    all_goals first | (cases h; done) | exact appendL_len h
  case cpy =>
    unfold copyL at h
    repeat' split at h
    all_goals first | (cases h; done) | (cases h; simp)
  case clr =>
    obtain ⟨_, h, _, rfl⟩ := h
    unfold clearL at h
    repeat' split at h
    all_goals first | (cases h; done) | (cases h; simp)
  all_goals (obtain ⟨_, rfl⟩ := h; exact Nat.le_refl _)

theorem W_iff {α : Type} {o : Option α} {c : Kt α} : W o (c := c) ↔ ∃ v, o = some v ∧ c.k v := by
  unfold W; cases o <;> simp

theorem kIf_iff {b : Bool} {c : Pq} : kIf b (c := c) ↔ (b = true ∧ c.p) ∨ (b = false ∧ c.q) := by cases b <;> simp [kIf]

/-- The parts of a step that the operation has. -/
structure StpOk (P : Program) (ops : Array Oper) (s : Stp) (o : Oper) : Prop where
  here : ops[s.i]? = some o
  dst : s.dst = o.dst
  g : s.g = o.guard.map fun jw => ((ops[jw.1]?).bind (·.dst), jw.2)
  mo : ∀ m, s.b = .mo m → compOp P o.op = some m
  callF : ∀ f args, s.b = .callF f args → ∃ c : Call, o.op = .call c ∧ c.callee = .value (.func f) ∧ c.args.toList = args ∧ funOkB P f = true
  callV : ∀ x args, s.b = .callV x args → ∃ c : Call, o.op = .call c ∧ c.callee = .value x ∧ c.args.toList = args

theorem stpOf_ok {ops : Array Oper} {i : Nat} {chk : List Nat} {keep : Bool} {s : Stp} (h : stpOf P ops i chk keep = some s) : ∃ o, StpOk P ops s o ∧ s.i = i ∧ s.chk = chk ∧ s.keep = keep := by
  unfold stpOf at h
  rw [bind_some] at h
  obtain ⟨o, ho, h⟩ := h
  refine ⟨o, ?_⟩
  simp only at h
  split at h
  · rename_i m hm
    cases h
    exact ⟨⟨ho, rfl, rfl, fun m' h => (by cases h; exact hm), fun f a h => (by cases h), fun x a h => (by cases h)⟩, rfl, rfl, rfl⟩
  · split at h
    · rename_i c hop
      split at h
      · rename_i f hc
        split at h
        · rename_i hf
          cases h
          exact ⟨⟨ho, rfl, rfl, fun m' h => (by cases h), fun f a h => (by cases h; exact ⟨c, hop, hc, rfl, hf⟩), fun x a h => (by cases h)⟩, rfl, rfl, rfl⟩
        · cases h
      · rename_i x hx hc
        cases h
        exact ⟨⟨ho, rfl, rfl, fun m' h => (by cases h), fun f a h => (by cases h), fun x a h => by cases h; exact ⟨c, hop, hc, rfl⟩⟩, rfl, rfl, rfl⟩
      · cases h
    · cases h

theorem funOk_call {g : FuncId} (hf : funOkB P g = true) {h : Hp} {ρ : Operand → CV} {c : Call} {x : Operand} {first captured : List CV} (hc : c.callee = .value x) (hx : ρ x = .fn g first captured) :
    stepC P h ρ (.call c) = some (.call g (first ++ c.args.toList.map ρ ++ captured) h) := by
  unfold funOkB at hf
  simp only [stepC, callC, hc, hx]
  cases hfn : P.funcs[g]? with
  | none => rw [hfn] at hf; cases hf
  | some fn =>
    rw [hfn] at hf
    simp only [Bool.and_eq_true, bne_iff_ne] at hf
    simp only
    rw [if_pos hf]

/-- What only looks. -/
def Mo.looks : Mo → Bool
  | .alloc _ | .box _ | .bsl .. | .mks .. | .st .. | .app .. | .appZ .. | .cpy .. | .clr .. => false
  | _ => true

theorem keep_cases {m : Mo} {v : CV} {l : Hl} {K : CV → Hl → Prop} (h : keepK m v l K) : K v l ∨ (m.looks = false ∧ m.isNew = false ∧ ∃ v2 l2, Wk (HL l) (HL l2) ∧ RdK (HL l) (HL l2) v v2 ∧ K v2 l2) := by
  cases m <;> first | exact .inl h | skip
  rcases h with h | h
  · exact .inl h
  · exact .inr ⟨rfl, rfl, h⟩
theorem keep_mono {m : Mo} {v : CV} {l : Hl} {K K' : CV → Hl → Prop} (hK : ∀ v l, K v l → K' v l) (h : keepK m v l K) : keepK m v l K' := by
  cases m <;> first | exact hK _ _ h | skip
  rcases h with h | ⟨v2, l2, h1, h2, h3⟩
  · exact .inl (hK _ _ h)
  · exact .inr ⟨v2, l2, h1, h2, hK _ _ h3⟩

theorem stp_ok {ops : Array Oper} {s : Stp} {o : Oper} (ok : StpOk P ops s o) {σ : Sg} {l : Hl} {K : CV → Hl → Prop} (h : stp P G s.b σ l K) :
    ∃ v l', Ev P G (.op o.op σ (HL l) v (HL l')) ∧ l.length ≤ l'.length ∧ K v l' ∧ ∀ m, s.b = .mo m → (m.looks = true ∨ m.isNew = true) → mstep P (ev G σ) l m = some (v, l') := by
  cases hb : s.b with
  | mo m =>
    rw [hb] at h
    simp only [stp, W_iff] at h
    obtain ⟨⟨v, l'⟩, h1, h2⟩ := h
    have he := Ev.opVal (G := G) (mstep_ok (ok.mo m hb) h1)
    rcases keep_cases h2 with h2 | ⟨n1, n2, v2, l2, k1, k2, k3⟩
    · exact ⟨v, l', he, mstep_len h1, h2, fun m' hm _ => by cases hm; exact h1⟩
    · refine ⟨v2, l2, .wkOp he k1 k2, Nat.le_trans (mstep_len h1) (Nat.le_of_eq k1.n.symm), k3, fun m' hm hl => ?_⟩
      cases hm
      rw [n1, n2] at hl
      rcases hl with h | h <;> cases h
  | callF f args =>
    rw [hb] at h
    obtain ⟨r, l', h1, h2, h3⟩ := h
    obtain ⟨c, hop, hc, ha, hf⟩ := ok.callF f args hb
    refine ⟨r, l', ?_, h2, h3, fun m' hm _ => by cases hm⟩
    rw [hop]
    refine .opCall (funOk_call hf hc rfl) ?_
    simpa [ha] using h1
  | callV x args =>
    rw [hb] at h
    simp only [stp] at h
    obtain ⟨c, hop, hc, ha⟩ := ok.callV x args hb
    unfold callVP at h
    split at h
    · rename_i g first captured hx
      obtain ⟨hf, r, l', h1, h2, h3⟩ := h
      refine ⟨r, l', ?_, h2, h3, fun m' hm _ => by cases hm⟩
      rw [hop]
      refine .opCall (funOk_call hf hc hx) ?_
      rw [ha]; exact h1
    · cases h

theorem kGo_ok {ops : Array Oper} {s : Stp} {o : Oper} (ok : StpOk P ops s o) {σ : Sg} {p q : Prop} (h : kGo σ s.g p q) : (wantedC ops σ o = some true ∧ p) ∨ (wantedC ops σ o = some false ∧ q) := by
  rw [ok.g] at h
  unfold wantedC
  cases hg : o.guard with
  | none => rw [hg] at h; exact .inl ⟨rfl, h⟩
  | some jw =>
    obtain ⟨j, w⟩ := jw
    rw [hg] at h
    simp only [Option.map_some] at h ⊢
    cases hd : (ops[j]?).bind (·.dst) with
    | none => rw [hd] at h; exact .inr ⟨rfl, h⟩
    | some d =>
      rw [hd] at h
      simp only [kGo, kG] at h ⊢
      cases hs : σ d <;> rw [hs] at h <;> simp only at h ⊢ <;> first | exact .inr ⟨trivial, h⟩ | (cases h; done) | skip
      rw [kIf_iff] at h
      rcases h with ⟨h1, h2⟩ | ⟨h1, h2⟩
      · exact .inl ⟨by rw [h1], h2⟩
      · exact .inr ⟨by rw [h1], h2⟩

inductive AllOk (P : Program) (ops : Array Oper) : List Stp → List Oper → Prop
  | nil : AllOk P ops [] []
  | cons {s o ss os} : StpOk P ops s o → AllOk P ops ss os → AllOk P ops (s :: ss) (o :: os)

theorem runS_ok {ops : Array Oper} {N : Nat} (hN : ∀ (i : Nat) (o : Oper), ops[i]? = some o → dstOk N o.dst = true) {K : Sg → Hl → Prop} : ∀ {s : List Stp} {os : List Oper} {σ : Sg} {l : Hl},
    AllOk P ops s os → runS P G s σ l K → ∃ σ' l', Ev P G (.ops ops os N σ (HL l) σ' (HL l')) ∧ l.length ≤ l'.length ∧ K σ' l'
  | [], _, σ, l, hf, h => by cases hf; exact ⟨σ, l, .opsNil, Nat.le_refl _, h⟩
  | s :: r, _, σ, l, hf, h => by
    cases hf with
    | cons ok hf =>
      rename_i o os
      rcases kGo_ok ok h with ⟨hw, h⟩ | ⟨hw, h⟩
      · obtain ⟨v, l1, h1, h2, h3, _⟩ := stp_ok ok h
        obtain ⟨σ', l', h4, h5, h6⟩ := runS_ok hN hf h3
        exact ⟨σ', l', .opsOp hw (hN _ _ ok.here) h1 (by rw [← ok.dst]; exact h4), Nat.le_trans h2 h5, h6⟩
      · obtain ⟨σ', l', h4, h5, h6⟩ := runS_ok hN hf h
        exact ⟨σ', l', .opsSkip hw (hN _ _ ok.here) (by rw [← ok.dst]; exact h4), h5, h6⟩

/-! ### Regions that draw their order -/
theorem reachL_grow {l x : Hl} {p : CV} {y : List CV × Nat} (h : reachL l p = some y) : reachL (l ++ x) p = some y := by
  cases p <;> first | exact h | skip
  rename_i b off sz
  simp only [reachL] at h ⊢
  cases hb : l[b]? with
  | none => rw [hb] at h; cases h
  | some c => rw [hb] at h; rw [List.getElem?_append_left (get_lt hb), hb]; exact h
theorem contentsL_grow {l x : Hl} {z : Nat} {p : CV} {y : List CV × Nat} (h : contentsL l z p = some y) : contentsL (l ++ x) z p = some y := by
  cases p <;> first | exact h | skip
  rename_i z' b off len cap sz
  simp only [contentsL] at h ⊢
  cases hb : l[b]? with
  | none => rw [hb] at h; cases h
  | some c => rw [hb] at h; rw [List.getElem?_append_left (get_lt hb), hb]; exact h
theorem cbsC_grow {l x : Hl} {p v : CV} (h : cbsC l p = some v) : cbsC (l ++ x) p = some v := by
  unfold cbsC at h ⊢
  cases p <;> simp only at h ⊢ <;> first | exact h | skip
  all_goals
    split at h
    · rename_i cs n hc
      rw [contentsL_grow hc]; exact h
    · cases h

def Mo.reads : Mo → Bool
  | .ld1 _ | .ldA .. | .cbs _ => true
  | _ => false

theorem looks_same {ρ : Operand → CV} {l l' : Hl} {m : Mo} {v : CV} (hm : m.looks = true) (h : mstep P ρ l m = some (v, l')) : l' = l := by
  cases m <;> simp only [Mo.looks, Bool.true_eq, Bool.false_eq_true, reduceCtorEq] at hm <;> simp only [mstep, pu_some, Option.some.injEq, Prod.mk.injEq] at h <;> first | exact h.2 | exact h.2.symm
theorem looks_grow {ρ : Operand → CV} {l x : Hl} {m : Mo} {v : CV} (hm : m.looks = true) (h : mstep P ρ l m = some (v, l)) : mstep P ρ (l ++ x) m = some (v, l ++ x) := by
  cases m <;> simp only [Mo.looks, Bool.true_eq, Bool.false_eq_true, reduceCtorEq] at hm <;> simp only [mstep, pu_some, Option.some.injEq, Prod.mk.injEq, and_true] at h ⊢ <;> try exact h
  case ld1 a =>
    rw [bind_some] at h ⊢
    obtain ⟨y, h1, h2⟩ := h
    exact ⟨y, reachL_grow h1, h2⟩
  case ldA n a =>
    rw [bind_some] at h ⊢
    obtain ⟨y, h1, h2⟩ := h
    exact ⟨y, reachL_grow h1, h2⟩
  case cbs x => exact cbsC_grow h
theorem looks_indep {ρ : Operand → CV} {l l2 : Hl} {m : Mo} {v : CV} (hm : m.looks = true) (hr : m.reads = false) (h : mstep P ρ l m = some (v, l)) : mstep P ρ l2 m = some (v, l2) := by
  cases m <;> simp only [Mo.looks, Bool.true_eq, Bool.false_eq_true, reduceCtorEq] at hm <;> simp only [Mo.reads, reduceCtorEq] at hr <;> simp only [mstep, pu_some, Option.some.injEq, Prod.mk.injEq, and_true] at h ⊢ <;> exact h

/-- What makes a block. -/
def newL (ρ : Operand → CV) (m : Mo) : Option (List CV × (Nat → CV)) := match m with
  | .alloc zero => some (zero, fun b => .ptr b 0 zero.length)
  | .box x => (ρ x).cells.map fun cs => (cs, fun b => .ptr b 0 cs.length)
  | .bsl z zero len ps => (fillC (fun i => some (i * z, z)) (repeatC zero len) (ps.map fun p => (p.1, ρ p.2))).map fun cs => (cs, fun b => .sl z b 0 len len (len * z))
  | .mks z by_ zero l c => match ρ l, ρ c with
    | .int _ l, .int _ c => if 0 ≤ l ∧ l ≤ c ∧ c < 9223372036854775808 ∧ by_ * c ≤ roomMax then some (repeatC zero c.toNat, fun b => .sl z b 0 l.toNat c.toNat (c.toNat * z)) else none
    | _, _ => none
  | _ => none

theorem repeatC_len (zero : List CV) : ∀ n, (repeatC zero n).length = n * zero.length
  | 0 => by simp [repeatC]
  | n + 1 => by rw [repeatC, List.length_append, repeatC_len zero n, Nat.succ_mul, Nat.add_comm]
theorem splice_len {cs vs : List CV} {off : Nat} (h : off + vs.length ≤ cs.length) : (splice cs off vs).length = cs.length := by
  simp only [splice, List.length_append, List.length_take, List.length_drop]; omega
theorem fillC_len {place : Nat → Option (Nat × Nat)} : ∀ {ps : List (Nat × CV)} {zero cs : List CV}, fillC place zero ps = some cs → cs.length = zero.length
  | [], zero, cs, h => by simp only [fillC, Option.some.injEq] at h; rw [← h]
  | (i, v) :: r, zero, cs, h => by
    unfold fillC at h
    split at h
    · rename_i off size vs _ _
      split at h
      · rename_i h1
        rw [fillC_len h, splice_len (by omega)]
      · cases h
    · cases h

theorem new_ok_L {op : Op} {m : Mo} (hm : compOp P op = some m) (hn : m.isNew = true) {ρ : Operand → CV} {l l' : Hl} {v : CV} (h : mstep P ρ l m = some (v, l')) :
    ∃ cs mk, newC P ρ op = some (cs, mk) ∧ v = mk l.length ∧ l' = l ++ [.cells cs.length cs] := by
  cases op <;> simp only [compOp] at hm <;> try (cases hm; done)
  case alloc t =>
    rw [map_some] at hm
    obtain ⟨zero, h1, rfl⟩ := hm
    simp only [mstep, Option.some.injEq, Prod.mk.injEq] at h
    obtain ⟨rfl, rfl⟩ := h
    exact ⟨zero, _, by simp only [newC, h1]; rfl, rfl, rfl⟩
  case box t x =>
    cases hm
    simp only [mstep, map_some, Prod.mk.injEq] at h
    obtain ⟨cs, h1, rfl, rfl⟩ := h
    exact ⟨cs, _, by simp only [newC, h1]; rfl, rfl, rfl⟩
  case buildSlice t n ps =>
    simp only [bind_some] at hm
    obtain ⟨e, h1, z, h2, zero, h3, hm⟩ := hm
    rw [ite_some] at hm
    obtain ⟨h4, rfl⟩ := hm
    simp only [mstep, map_some, Prod.mk.injEq] at h
    obtain ⟨cs, h5, rfl, rfl⟩ := h
    have hlen : cs.length = n * z := by rw [fillC_len h5, repeatC_len, h4.1]
    exact ⟨cs, _, by simp only [newC, h1, h2, h3, if_pos h4, h5]; rfl, rfl, by rw [hlen]⟩
  case makeSlice t a c =>
    simp only [bind_some] at hm
    obtain ⟨e, h1, z, h2, by_, h3, zero, h4, hm⟩ := hm
    rw [ite_some] at hm
    obtain ⟨h5, rfl⟩ := hm
    simp only [mstep] at h
    unfold mksC at h
    cases ha : ρ a <;> rw [ha] at h <;> (try simp only at h) <;> try (cases h; done)
    cases hc : ρ c <;> rw [hc] at h <;> (try simp only at h) <;> try (cases h; done)
    rw [ite_some] at h
    obtain ⟨h6, h7⟩ := h
    cases h7
    rename_i kc nc
    have hlen : (repeatC zero nc.toNat).length = nc.toNat * z := by rw [repeatC_len, h5]
    exact ⟨repeatC zero nc.toNat, _, by simp only [newC, ha, hc, h1, asInt, h2, h3, h4]; rw [if_pos ⟨h5, h6⟩], rfl, by rw [hlen]⟩
  case pick => cases hm; cases hn
  case move => cases hm; cases hn
  case assign => cases hm; cases hn
  case nilCheck => cases hm; cases hn
  case binOp => cases hm; cases hn
  case unOp => cases hm; cases hn
  case call c =>
    exfalso
    split at hm
    · unfold compBuiltin at hm
      repeat' split at hm
      all_goals first
        | (cases hm; done)
        | (cases hm; cases hn; done)
        | (simp only [bind_some, map_some] at hm; obtain ⟨_, _, rfl⟩ := hm; cases hn; done)
        | (simp only [bind_some, map_some] at hm; obtain ⟨_, _, _, _, rfl⟩ := hm; cases hn; done)
        | (simp only [bind_some, ite_some] at hm; obtain ⟨_, _, _, _, _, _, _, rfl⟩ := hm; cases hn; done)
        | (simp only [bind_some, ite_some] at hm; obtain ⟨_, _, _, _, _, _, _, _, _, rfl⟩ := hm; cases hn; done)
    · cases hm
  case build => exfalso; simp only [bind_some, map_some] at hm; obtain ⟨_, _, _, _, rfl⟩ := hm; cases hn
  case store => exfalso; rw [map_some] at hm; obtain ⟨_, _, rfl⟩ := hm; cases hn
  case slice => exfalso; rw [map_some] at hm; obtain ⟨_, _, rfl⟩ := hm; cases hn
  case fieldAddr => exfalso; rw [bind_some] at hm; obtain ⟨_, _, hm⟩ := hm; split at hm <;> cases hm; cases hn
  case field => exfalso; rw [bind_some] at hm; obtain ⟨_, _, hm⟩ := hm; split at hm <;> cases hm <;> cases hn
  case extract => cases hm; cases hn
  case makeFunc f a b => exfalso; cases f <;> simp only at hm <;> cases hm; cases hn
  all_goals
    exfalso
    repeat' split at hm
    all_goals first | (cases hm; done) | (cases hm; cases hn; done)
end

end Go.CM
