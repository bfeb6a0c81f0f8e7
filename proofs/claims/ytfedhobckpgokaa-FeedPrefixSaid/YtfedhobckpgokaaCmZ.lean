/-
  The canonical machine, part Z: calls by what must hold behind them; loops; what a call says by value.
-/
import Derived.Test.YtfedhobckpgokaaCmY
namespace Go.CM
open Go
set_option linter.unusedVariables false
set_option linter.unusedSimpArgs false

section
variable {P : Program} {G : Nat → CV}

theorem allOk_of {ops : Array Oper} {f : Nat → Option Stp} : ∀ {is : List Nat} {s : List Stp} {os : List Oper}, (∀ i x, f i = some x → ∃ o, StpOk P ops x o ∧ x.i = i) → is.mapM f = some s → is.map (fun i => ops[i]?) = os.map some → AllOk P ops s os
  | [], s, os, hf, h, ho => by
    simp at h; subst h
    cases os with
    | nil => exact .nil
    | cons => simp at ho
  | i :: is, s, os, hf, h, ho => by
    rw [List.mapM_cons] at h
    simp only [Option.bind_eq_bind, bind_some, Option.pure_def, Option.some.injEq] at h
    obtain ⟨x, h1, s', h2, rfl⟩ := h
    cases os with
    | nil => simp at ho
    | cons o os =>
      simp only [List.map_cons, List.cons.injEq] at ho
      obtain ⟨o', ok, hi⟩ := hf i x h1
      have : o' = o := by have := ok.here; rw [hi, ho.1] at this; exact (Option.some.inj this).symm
      subst this
      exact .cons ok (allOk_of hf h2 ho.2)

theorem compReg_ok {N N' id : Nat} (hN : N ≤ N') {ops : Array Oper} {draw : Bool} {c : Cd} (hc : compReg P N ops draw = some c) {σ : Sg} {l : Hl} {K : KC} (h : run P G c σ l K) :
    ∃ e σ' l', Ev P G (.code (.region id ops draw) N' σ (HL l) e σ' (HL l')) ∧ l.length ≤ l'.length ∧ K e σ' l' := by
  unfold compReg at hc
  split at hc
  · cases hc
  · rename_i hdst
    have hd : ∀ (i : Nat) (o : Oper), ops[i]? = some o → dstOk N' o.dst = true := fun i o ho => by
      rw [List.all_eq_true] at hdst
      have := hdst o (by simpa using Array.mem_of_getElem? ho)
      unfold dstOk at this ⊢
      split at this
      · rename_i d _; exact decide_eq_true (Nat.lt_of_lt_of_le (of_decide_eq_true this) hN)
      · rfl
    split at hc
    · rw [map_some] at hc
      obtain ⟨s, h1, rfl⟩ := hc
      have hall : AllOk P ops s ops.toList := by
        refine allOk_of (fun i x hx => ?_) h1 ?_
        · obtain ⟨o, h2, h3, _⟩ := stpOf_ok hx; exact ⟨o, h2, h3⟩
        · apply List.ext_getElem?
          intro p
          rw [List.getElem?_map, List.getElem?_map]
          by_cases hp : p < ops.size
          · rw [List.getElem?_range hp]; simp [hp]
          · rw [List.getElem?_eq_none (by simp; omega), List.getElem?_eq_none (by simp; omega)]; rfl
      obtain ⟨σ', l', h2, h3, h4⟩ := runS_ok hd hall h
      exact ⟨.normal, σ', l', .region h2, h3, h4⟩
    · simp only at hc
      split at hc
      · cases hc
      · rename_i hchk
        simp only [Bool.and_eq_true] at hchk
        split at hc
        · cases hc
        · rename_i s hs
          have hok : ∀ x ∈ s, ∃ o, StpOk P ops x o := fun x hx => by
            obtain ⟨p, hp⟩ := List.getElem?_of_mem hx
            obtain ⟨a, _, h2⟩ := mapM_get hs p x hp
            obtain ⟨o, h3, _⟩ := stpOf_ok h2
            exact ⟨o, h3⟩
          have fin : runD P G s σ l [] (K .normal) → ∃ e σ' l', Ev P G (.code (.region id ops true) N' σ (HL l) e σ' (HL l')) ∧ l.length ≤ l'.length ∧ K e σ' l' := fun h => by
            obtain ⟨es, σ', l', h1, h2⟩ := runD_tr hok h
            exact ⟨.normal, σ', l', draw_tr hd hchk.1 hchk.2 hs h1, h1.len, h2⟩
          split at hc
          · rename_i hask
            cases hc
            refine fin (runS_D (fun x hx => ?_) h)
            obtain ⟨p, hp⟩ := List.getElem?_of_mem hx
            obtain ⟨a, _, h2⟩ := mapM_get hs p x hp
            obtain ⟨o, _, _, _, h3⟩ := stpOf_ok h2
            rw [h3, hask]; rfl
          · cases hc
            exact fin h

theorem run_ok {N N' : Nat} (hN : N ≤ N') : ∀ (code : Code) (c : Cd), comp P N code = some c → ∀ (σ : Sg) (l : Hl) (K : KC), run P G c σ l K →
    ∃ e σ' l', Ev P G (.code code N' σ (HL l) e σ' (HL l')) ∧ l.length ≤ l'.length ∧ K e σ' l' := by
  intro code
  induction code with
  | skip => intro c hc σ l K h; cases hc; exact ⟨_, _, _, .skip _ _ _, Nat.le_refl _, h⟩
  | label n => intro c hc σ l K h; cases hc; exact ⟨_, _, _, .label _ _ _ _, Nat.le_refl _, h⟩
  | ret => intro c hc σ l K h; cases hc; exact ⟨_, _, _, .ret _ _ _, Nat.le_refl _, h⟩
  | exit id => intro c hc σ l K h; cases hc; exact ⟨_, _, _, .exit _ _ _ _, Nat.le_refl _, h⟩
  | region id ops draw => intro c hc σ l K h; exact compReg_ok hN hc h
  | seq a b iha ihb =>
    intro c hc σ l K h
    have mk : ∀ (ca cb : Cd), comp P N a = some ca → comp P N b = some cb → run P G ca σ l (kSeq (fun σ l => run P G cb σ l K) K) → ∃ e σ' l', Ev P G (.code (.seq a b) N' σ (HL l) e σ' (HL l')) ∧ l.length ≤ l'.length ∧ K e σ' l' := by
      intro ca cb ha hb h
      obtain ⟨e, σ1, l1, h1, h2, h3⟩ := iha ca ha σ l _ h
      cases e with
      | normal =>
        obtain ⟨e, σ2, l2, h4, h5, h6⟩ := ihb cb hb σ1 l1 K h3
        exact ⟨e, σ2, l2, .seqN h1 h4, Nat.le_trans h2 h5, h6⟩
      | exit id => exact ⟨_, σ1, l1, .seqX h1 (by intro h; cases h), h2, h3⟩
      | ret => exact ⟨_, σ1, l1, .seqX h1 (by intro h; cases h), h2, h3⟩
    simp only [comp] at hc
    split at hc
    · rename_i b' ha hb
      cases hc
      exact mk _ _ ha hb h
    · rename_i a' _ ha hb
      cases hc
      refine mk _ _ ha hb ?_
      have : kSeq (fun σ l => run P G .skip σ l K) K = K := by
        funext e σ l
        cases e <;> rfl
      rw [this]; exact h
    · rename_i a' b' _ _ ha hb
      cases hc
      exact mk _ _ ha hb h
    · cases hc
  | cond c x y ihx ihy =>
    intro cd hc σ l K h
    simp only [comp] at hc
    split at hc
    · rename_i x' y' hx hy
      cases hc
      simp only [run, kCond] at h
      split at h
      · rename_i b hb
        rw [kIf_iff] at h
        rcases h with ⟨rfl, h⟩ | ⟨rfl, h⟩
        · obtain ⟨e, σ1, l1, h1, h2, h3⟩ := ihx x' hx σ l K h
          exact ⟨e, σ1, l1, .cond hb h1, h2, h3⟩
        · obtain ⟨e, σ1, l1, h1, h2, h3⟩ := ihy y' hy σ l K h
          exact ⟨e, σ1, l1, .cond hb h1, h2, h3⟩
      · cases h
    · cases hc
  | block id c ih =>
    intro cd hc σ l K h
    simp only [comp, map_some] at hc
    obtain ⟨c', h1, rfl⟩ := hc
    obtain ⟨e, σ1, l1, h2, h3, h4⟩ := ih c' h1 σ l _ h
    cases e with
    | normal => exact ⟨_, σ1, l1, .blockN h2 (by intro h; cases h), h3, h4⟩
    | ret => exact ⟨_, σ1, l1, .blockN h2 (by intro h; cases h), h3, h4⟩
    | exit id' =>
      simp only [kBlock] at h4
      split at h4
      · rename_i hb
        obtain rfl := nbeq_eq hb
        exact ⟨_, σ1, l1, .blockX h2, h3, h4⟩
      · rename_i hb
        exact ⟨_, σ1, l1, .blockN h2 (by intro h; cases h; rw [Nat.beq_refl] at hb; cases hb), h3, h4⟩
  | loop c ih =>
    intro cd hc σ l K h
    simp only [comp, map_some] at hc
    obtain ⟨c', h1, rfl⟩ := hc
    obtain ⟨n, h⟩ := h
    induction n generalizing σ l with
    | zero => cases h
    | succ n ihn =>
      obtain ⟨e, σ1, l1, h2, h3, h4⟩ := ih c' h1 σ l _ h
      cases e with
      | normal =>
        obtain ⟨e, σ2, l2, h5, h6, h7⟩ := ihn σ1 l1 h4
        exact ⟨e, σ2, l2, .loopN h2 h5, Nat.le_trans h3 h6, h7⟩
      | exit id => exact ⟨_, σ1, l1, .loopX h2 (by intro h; cases h), h3, h4⟩
      | ret => exact ⟨_, σ1, l1, .loopX h2 (by intro h; cases h), h3, h4⟩
  | scope c ih =>
    intro cd hc σ l K h
    obtain ⟨e, σ1, l1, h2, h3, h4⟩ := ih cd hc σ l K h
    exact ⟨e, σ1, l1, .scope h2, h3, h4⟩
  | _ => intro c hc; cases hc

/-! ### Calls -/
def compR (P : Program) : ResultVar → Option Mo
  | .tmp t => some (.mv (.tmp t))
  | .cell a t => compOp P (.load t (.tmp a))
def compRs (P : Program) (f : FuncId) : Option (List Mo) := match P.funcs[f]? with
  | some fn => fn.results.toList.mapM (compR P)
  | none => none
def kRes (P : Program) (G : Nat → CV) (K : CV → Hl → Prop) (σ : Sg) (l : Hl) : List Mo → List CV → Prop
  | [], acc => K (tuple1 acc) l
  | m :: r, acc => W (mstep P (ev G σ) l m) (c := ⟨fun x => kRes P G K σ l r (acc ++ [x.1])⟩)
def kEnd (P : Program) (G : Nat → CV) (ms : List Mo) (K : CV → Hl → Prop) : KC := fun e σ l => match e with
  | .exit _ => False
  | .normal => kRes P G K σ l ms []
  | .ret => kRes P G K σ l ms []
def argsS (args : List CV) : Sg := fun t => args.getD t undefC

theorem kRes_ok {K : CV → Hl → Prop} {σ : Sg} {l : Hl} : ∀ {rs : List ResultVar} {ms : List Mo} {acc : List CV}, rs.mapM (compR P) = some ms → kRes P G K σ l ms acc → ∃ vs, resList P (HL l) σ rs = some vs ∧ K (tuple1 (acc ++ vs)) l
  | [], ms, acc, hm, h => by simp at hm; subst hm; exact ⟨[], rfl, by simpa [kRes] using h⟩
  | r :: rs, ms, acc, hm, h => by
    rw [List.mapM_cons] at hm
    simp only [Option.bind_eq_bind, bind_some, Option.pure_def, Option.some.injEq] at hm
    obtain ⟨m, h1, ms', h2, rfl⟩ := hm
    simp only [kRes, W_iff] at h
    obtain ⟨⟨v, l1⟩, h3, h4⟩ := h
    obtain ⟨vs, h5, h6⟩ := kRes_ok h2 h4
    refine ⟨v :: vs, ?_, by simpa using h6⟩
    have : resOne P (HL l) σ r = some v := by
      cases r with
      | tmp t => cases h1; simp only [mstep, Option.some.injEq, Prod.mk.injEq] at h3; rw [← h3.1]; rfl
      | cell a t =>
        have h1' : compOp P (.load t (.tmp a)) = some m := h1
        have := mstep_ok h1' h3
        simp only [stepC] at this
        unfold resOne
        show loadC P (HL l) t (ev G σ (.tmp a)) = some v
        cases hl : loadC P (HL l) t (ev G σ (.tmp a)) with
        | none => rw [hl] at this; cases this
        | some x => rw [hl] at this; simp only [Option.map_some, Option.some.injEq, Res.val.injEq] at this; rw [this.1]
    simp only [resList, this, h5]

theorem call_intro {f : FuncId} {c : Cd} {ms : List Mo} (hc : compF P f = some c) (hr : compRs P f = some ms) {args : List CV} {l : Hl} {K : Kv}
    (h : run P G c (argsS args) l (kEnd P G ms K.k)) : CallP P G f args l (c := K) := by
  unfold compF at hc
  unfold compRs at hr
  split at hc
  · rename_i fn hfn
    split at hc
    · rename_i body hb
      rw [hfn] at hr
      obtain ⟨e, σ', l', h1, h2, h3⟩ := run_ok (N' := args.length + (fn.ntmps - args.length)) (by omega) body c hc _ _ _ h
      have fin : (e = .normal ∨ e = .ret) → kRes P G K.k σ' l' ms [] → CallP P G f args l (c := K) := fun he h3 => by
        obtain ⟨vs, h4, h5⟩ := kRes_ok hr h3
        exact ⟨tuple1 vs, l', .inline hfn hb h1 he (by simp only [resC, h4]; rfl), h2, by simpa using h5⟩
      cases e with
      | normal => exact fin (.inl rfl) h3
      | ret => exact fin (.inr rfl) h3
      | exit id => cases h3
    · cases hc
  · cases hc

/-! ### More may be said behind -/
theorem stp_mono {b : Bd} {σ : Sg} {l : Hl} {K K' : CV → Hl → Prop} (hK : ∀ v l, K v l → K' v l) (h : stp P G b σ l K) : stp P G b σ l K' := by
  cases b with
  | mo m => simp only [stp, W_iff] at h ⊢; obtain ⟨v, h1, h2⟩ := h; exact ⟨v, h1, keep_mono hK h2⟩
  | callF f args => obtain ⟨r, l', h1, h2, h3⟩ := h; exact ⟨r, l', h1, h2, hK _ _ h3⟩
  | callV x args =>
    simp only [stp, callVP] at h ⊢
    split at h
    · obtain ⟨h0, r, l', h1, h2, h3⟩ := h; exact ⟨h0, r, l', h1, h2, hK _ _ h3⟩
    · cases h
theorem kGo_mono {σ : Sg} {g : Option (Option Tmp × Bool)} {p q p' q' : Prop} (hp : p → p') (hq : q → q') (h : kGo σ g p q) : kGo σ g p' q' := by
  unfold kGo at h ⊢
  split at h
  · exact hp h
  · simp only [kG] at h ⊢
    split at h
    · rw [kIf_iff] at h ⊢
      rcases h with ⟨a, b⟩ | ⟨a, b⟩
      · exact .inl ⟨a, hp b⟩
      · exact .inr ⟨a, hq b⟩
    · cases h
    · exact hq h
  · exact hq h
theorem runS_mono {K K' : Sg → Hl → Prop} (hK : ∀ σ l, K σ l → K' σ l) : ∀ {s : List Stp} {σ : Sg} {l : Hl}, runS P G s σ l K → runS P G s σ l K'
  | [], _, _, h => hK _ _ h
  | s :: r, _, _, h => kGo_mono (stp_mono fun _ _ h => runS_mono hK h) (fun h => runS_mono hK h) h
theorem runD_mono {K K' : Sg → Hl → Prop} (hK : ∀ σ l, K σ l → K' σ l) : ∀ {s : List Stp} {σ : Sg} {l : Hl} {seen : Seen}, runD P G s σ l seen K → runD P G s σ l seen K'
  | [], _, _, _, h => hK _ _ h
  | s :: r, _, _, _, h => kGo_mono (stp_mono fun _ _ h => ⟨h.1, runD_mono hK h.2⟩) (fun h => runD_mono hK h) h
theorem kSeq_mono {k k' : Sg → Hl → Prop} {K K' : KC} (hk : ∀ σ l, k σ l → k' σ l) (hK : ∀ e σ l, K e σ l → K' e σ l) : ∀ e σ l, kSeq k K e σ l → kSeq k' K' e σ l := by
  intro e σ l h; cases e <;> first | exact hk _ _ h | exact hK _ _ _ h
theorem run_mono : ∀ {c : Cd} {σ : Sg} {l : Hl} {K K' : KC}, (∀ e σ l, K e σ l → K' e σ l) → run P G c σ l K → run P G c σ l K' := by
  intro c
  induction c with
  | skip => intro σ l K K' hK h; exact hK _ _ _ h
  | ret => intro σ l K K' hK h; exact hK _ _ _ h
  | exit id => intro σ l K K' hK h; exact hK _ _ _ h
  | reg s => intro σ l K K' hK h; exact runS_mono (hK _) h
  | dreg s => intro σ l K K' hK h; exact runD_mono (hK _) h
  | seq a b iha ihb => intro σ l K K' hK h; exact iha (kSeq_mono (fun σ l h => ihb hK h) hK) h
  | cond c x y ihx ihy =>
    intro σ l K K' hK h
    simp only [run, kCond] at h ⊢
    split at h
    · rw [kIf_iff] at h ⊢
      rcases h with ⟨a, b⟩ | ⟨a, b⟩
      · exact .inl ⟨a, ihx hK b⟩
      · exact .inr ⟨a, ihy hK b⟩
    · cases h
  | block id c ih =>
    intro σ l K K' hK h
    refine ih (fun e σ l h => ?_) h
    cases e with
    | normal => exact hK _ _ _ h
    | ret => exact hK _ _ _ h
    | exit id' =>
      simp only [kBlock] at h ⊢
      split at h
      · exact hK _ _ _ h
      · exact hK _ _ _ h
  | loop c ih =>
    intro σ l K K' hK h
    obtain ⟨n, h⟩ := h
    refine ⟨n, ?_⟩
    induction n generalizing σ l with
    | zero => cases h
    | succ n ihn => exact ih (kSeq_mono (fun σ l h => ihn h) hK) h
theorem CallP.mono {f : FuncId} {args : List CV} {l : Hl} {K K' : Kv} (hK : ∀ v l, K.k v l → K'.k v l) (h : CallP P G f args l (c := K)) : CallP P G f args l (c := K') := by
  obtain ⟨r, l', h1, h2, h3⟩ := h; exact ⟨r, l', h1, h2, hK _ _ h3⟩

/-! ### Loops -/
/-- A loop with a number that falls. -/
theorem loop_fall {c : Cd} {K : Kc} (I : Nat → Sg → Hl → Prop) (step : ∀ n σ l, I n σ l → run P G c σ l (kSeq (fun σ l => ∃ n', n' < n ∧ I n' σ l) K.k)) : ∀ n σ l, I n σ l → LoopP (run P G c) σ l (c := K) := by
  intro n
  induction n using Nat.strongRecOn with
  | _ n ih =>
    intro σ l h
    -- fuel n + 1 is enough
    have go : ∀ (m n : Nat), n ≤ m → ∀ σ l, I n σ l → loopN (run P G c) (m + 1) σ l K.k := by
      intro m
      induction m with
      | zero =>
        intro n hn σ l h
        obtain rfl : n = 0 := by omega
        exact run_mono (kSeq_mono (fun σ l ⟨n', h1, _⟩ => by omega) (fun _ _ _ h => h)) (step 0 σ l h)
      | succ m ihm =>
        intro n hn σ l h
        exact run_mono (kSeq_mono (fun σ l ⟨n', h1, h2⟩ => ihm n' (by omega) σ l h2) (fun _ _ _ h => h)) (step n σ l h)
    exact ⟨n + 1, go n n (Nat.le_refl _) σ l h⟩

/-- A loop that counts up to a number. -/
theorem loop_up {c : Cd} {K : Kc} (n : Nat) (I : Nat → Sg → Hl → Prop) (step : ∀ k σ l, k ≤ n → I k σ l → run P G c σ l (kSeq (fun σ l => k < n ∧ I (k + 1) σ l) K.k)) {σ : Sg} {l : Hl} (h : I 0 σ l) : LoopP (run P G c) σ l (c := K) := by
  refine loop_fall (fun m σ l => ∃ k, k + m = n ∧ I k σ l) (fun m σ l ⟨k, hk, h⟩ => ?_) n σ l ⟨0, by omega, h⟩
  exact run_mono (kSeq_mono (fun σ l ⟨h1, h2⟩ => ⟨m - 1, by omega, k + 1, by omega, h2⟩) (fun _ _ _ h => h)) (step k σ l (by omega) h)

end
end Go.CM
