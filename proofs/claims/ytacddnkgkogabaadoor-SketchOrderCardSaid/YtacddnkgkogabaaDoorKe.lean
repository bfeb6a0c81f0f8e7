/-
  The canonical machine, part U: a small operation does what the operation does.
-/
import Derived.Test.YtacddnkgkogabaaDoorKd
namespace Go.CM
open Go
set_option linter.unusedVariables false
set_option linter.unusedSimpArgs false

section
variable {P : Program}

theorem bind_some {α β : Type} {x : Option α} {f : α → Option β} {y : β} : x.bind f = some y ↔ ∃ a, x = some a ∧ f a = some y := by cases x <;> simp
theorem map_some {α β : Type} {x : Option α} {f : α → β} {y : β} : x.map f = some y ↔ ∃ a, x = some a ∧ f a = y := by cases x <;> simp
theorem pu_some {l l' : Hl} {x : Option CV} {v : CV} : pu l x = some (v, l') ↔ x = some v ∧ l' = l := by cases x <;> simp [pu, eq_comm]
theorem ite_some {α : Type} {p : Prop} [Decidable p] {x y : α} : (if p then some x else none) = some y ↔ p ∧ x = y := by by_cases p <;> simp_all

theorem appendL_ok {l l' : Hl} {e z by_ n : Nat} {s v : CV} {xs : List CV} (hz : zeroLen P e = some z) (h : appendL l z by_ s xs n = some (v, l')) : appendW P (HL l) e z by_ s xs n = some (v, HL l') := by
  unfold appendL at h
  unfold appendW
  by_cases hn : n = 0
  · rw [if_pos hn] at h ⊢
    cases s <;> simp at h ⊢ <;> simp [h]
  · rw [if_neg hn] at h ⊢
    by_cases h0 : z = 0 ∨ by_ = 0
    · rw [if_pos h0] at h; cases h
    · rw [if_neg h0] at h
      rw [if_neg (by simp only [hz]; simpa using h0)]
      cases s <;> simp only at h ⊢ <;> try (cases h; done)
      case nilS =>
        by_cases hr : n * by_ ≤ roomMax
        · rw [if_pos hr] at h ⊢; cases h; rw [HL_push]; rfl
        · rw [if_neg hr] at h; cases h
      case sl z' b off len cap sz =>
        cases hb : l[b]? with
        | none => rw [hb] at h; cases h
        | some c =>
          cases c <;> rw [hb] at h <;> (try simp only at h) <;> try (cases h; done)
          rename_i m cs
          rw [HL_cells.2 hb]
          simp only
          by_cases h1 : m = sz ∧ z = z' ∧ (len + n) * by_ ≤ roomMax
          · rw [if_pos h1] at h ⊢
            by_cases h2 : len + n ≤ cap
            · rw [if_pos h2] at h ⊢; cases h; rw [HL_set _ (get_lt hb)]
            · rw [if_neg h2] at h ⊢
              by_cases h3 : off + cap * z < sz
              · rw [if_pos h3] at h ⊢; cases h; rw [HL_push]; rfl
              · rw [if_neg h3] at h ⊢
                by_cases h4 : off = 0
                · rw [if_pos h4] at h ⊢; cases h; rw [HL_set _ (get_lt hb)]
                · rw [if_neg h4] at h ⊢; cases h
                  rw [HL_set _ (get_lt hb), HL_push]; rfl
          · rw [if_neg h1] at h; cases h

theorem bldPsL_ok {t : TypeId} {ps : List (Nat × Operand)} {q : List (Nat × Nat × Operand)} (hq : bldPs P t ps = some q) (ρ : Operand → CV) (zero : List CV) (hz : zeroT P t = some zero) {cs : List CV}
    (hb : bldC zero (q.map fun p => (p.1, p.2.1, ρ p.2.2)) = some cs) : buildC P t (ps.map fun p => (p.1, ρ p.2)) = some (.ag cs) := by
  have fill : ∀ (place : Nat → Option (Nat × Nat)) (ps : List (Nat × Operand)) (q : List (Nat × Nat × Operand)) (zero : List CV),
      (ps.mapM fun p => (place p.1).map fun q => (q.1, q.2, p.2)) = some q → bldC zero (q.map fun p => (p.1, p.2.1, ρ p.2.2)) = some cs → fillC place zero (ps.map fun p => (p.1, ρ p.2)) = some cs := by
    intro place ps
    induction ps with
    | nil => intro q zero h1 h2; simp at h1; subst h1; simpa [bldC, fillC] using h2
    | cons p ps ih =>
      intro q zero h1 h2
      rw [List.mapM_cons] at h1
      simp only [Option.bind_eq_bind, bind_some, map_some, Option.pure_def, Option.some.injEq] at h1
      obtain ⟨a, ⟨a', h3, rfl⟩, q', h4, rfl⟩ := h1
      simp only [List.map_cons, bldC, fillC, h3] at h2 ⊢
      split at h2
      · rename_i vs hv
        simp only [hv]
        split at h2
        · rename_i h5
          rw [if_pos h5]
          exact ih _ _ h4 h2
        · cases h2
      · cases h2
  unfold bldPs at hq
  unfold buildC
  split at hq
  · rename_i fs hu
    rw [hz, hu]
    simp only
    split at hq
    · rename_i hall
      rw [if_neg (by simp [hall])]
      rw [fill _ _ _ _ hq hb]; rfl
    · cases hq
  · rename_i n e hu
    rw [map_some] at hq
    obtain ⟨n', h1, rfl⟩ := hq
    rw [hz, hu]
    simp only [h1]
    rw [fill (fun i => some (i * n', n')) ps _ zero ?_ hb]; rfl
    clear hb
    induction ps with
    | nil => rfl
    | cons p ps ih => rw [List.mapM_cons, ih]; rfl
  · cases hq

theorem sliceL_ok {t : TypeId} {ti : TI} (ht : tiOf P t = some ti) (x : CV) (lo hi mx : Option CV) : sliceM ti x lo hi mx = sliceC P t x lo hi mx := by
  unfold tiOf at ht
  unfold sliceC
  split at ht
  · rename_i n e hu
    rw [map_some] at ht
    obtain ⟨z, h1, rfl⟩ := ht
    rw [hu]; simp only [h1, sliceM]
    cases boundsC n n lo hi mx <;> rfl
  · rename_i e hu
    rw [map_some] at ht
    obtain ⟨z, h1, rfl⟩ := ht
    rw [hu]; simp only [h1, sliceM]
    cases x <;> rfl
  · rename_i hu
    cases ht
    rw [hu]; simp only [sliceM]
    cases x <;> cases mx <;> rfl
  · cases ht

theorem lenL_ok {t : TypeId} {ti : TI} (ht : tiOf P t = some ti) {x v : CV} (h : lenM ti x = some v) : lenC P t x = some v := by
  unfold tiOf at ht
  unfold lenC
  split at ht
  · rename_i n e hu
    rw [map_some] at ht
    obtain ⟨z, h1, rfl⟩ := ht
    rw [hu]; simpa [lenM] using h
  · rename_i e hu
    rw [map_some] at ht
    obtain ⟨z, h1, rfl⟩ := ht
    rw [hu]; unfold lenM at h; cases x <;> simp_all
  · rename_i hu
    cases ht
    rw [hu]; unfold lenM at h; cases x <;> simp_all
  · cases ht
theorem capL_ok {t : TypeId} {ti : TI} (ht : tiOf P t = some ti) {x v : CV} (h : capM ti x = some v) : capC P t x = some v := by
  unfold tiOf at ht
  unfold capC
  split at ht
  · rename_i n e hu
    rw [map_some] at ht
    obtain ⟨z, h1, rfl⟩ := ht
    rw [hu]; simpa [capM] using h
  · rename_i e hu
    rw [map_some] at ht
    obtain ⟨z, h1, rfl⟩ := ht
    rw [hu]; unfold capM at h; cases x <;> simp_all
  · rename_i hu
    cases ht
    rw [hu]; unfold capM at h; cases x <;> simp_all
  · cases ht

theorem iaL_ok {t : TypeId} {ti : TI} (ht : tiOf P t = some ti) {x i v : CV} (h : iaC ti x i = some v) : indexAddrC P t x i = some v := by
  unfold tiOf at ht
  unfold indexAddrC
  unfold iaC at h
  cases i <;> (try simp only at h) <;> try (cases h; done)
  rename_i k i
  split at ht
  · rename_i n e hu
    rw [map_some] at ht
    obtain ⟨z, h1, rfl⟩ := ht
    rw [hu]; simpa [asInt, h1] using h
  · rename_i e hu
    rw [map_some] at ht
    obtain ⟨z, h1, rfl⟩ := ht
    rw [hu]; simp only [asInt, h1]; simp only at h
    cases x <;> simp only at h ⊢ <;> first | exact h | cases h
  · rename_i hu
    cases ht
    simp only at h
    cases h
  · cases ht

theorem storeL_ok {t : TypeId} {n : Nat} (hs : sizeT P t = some n) {l l' : Hl} {p v : CV} (h : storeL n l p v = some l') : storeC P (HL l) t p v = some (HL l') := by
  unfold storeL at h
  unfold storeC
  cases p <;> (try simp only at h) <;> try (cases h; done)
  rename_i b off sz
  cases hv : v.cells with
  | none => rw [hv] at h; cases h
  | some vs =>
    rw [hv] at h
    simp only [hs] at h ⊢
    cases hb : l[b]? with
    | none => rw [hb] at h; cases h
    | some c =>
      cases c <;> rw [hb] at h <;> (try simp only at h) <;> try (cases h; done)
      rename_i m cs
      rw [HL_cells.2 hb]
      simp only
      rw [ite_some] at h
      obtain ⟨h1, rfl⟩ := h
      rw [if_pos h1, HL_set _ (get_lt hb)]

theorem copyL_ok {t e : TypeId} {z : Nat} (he : elemT P t = some e) (hs : sizeT P e = some z) {l l' : Hl} {d x v : CV} (h : copyL z l d x = some (v, l')) : copyC P (HL l) t d x = some (v, HL l') := by
  unfold copyL at h
  unfold copyC
  rw [he]; simp only [hs, contents_HL]
  cases hc : contentsL l z x with
  | none => rw [hc] at h; cases h
  | some p =>
    obtain ⟨xs, n⟩ := p
    rw [hc] at h
    simp only at h ⊢
    cases d <;> simp only at h ⊢ <;> try (cases h; done)
    case nilS => cases h; rfl
    case sl z' b off len cap sz =>
      cases hb : l[b]? with
      | none => rw [hb] at h; cases h
      | some c =>
        cases c <;> rw [hb] at h <;> (try simp only at h) <;> try (cases h; done)
        rename_i m cs
        rw [HL_cells.2 hb]
        simp only
        rw [ite_some] at h
        obtain ⟨h1, h2⟩ := h
        cases h2
        rw [if_pos h1, HL_set _ (get_lt hb)]

theorem clearL_ok {t e : TypeId} {zero : List CV} (hu : P.underlying t = some (.slice e)) (hz : zeroT P e = some zero) {l l' : Hl} {x : CV} (h : clearL zero l x = some l') : clearC P (HL l) t x = some (HL l') := by
  unfold clearL at h
  unfold clearC
  rw [hu]
  cases x <;> (try simp only at h) <;> try (cases h; done)
  case nilS => cases h; rfl
  case rsl z es => cases es <;> simp only at h <;> cases h; rfl
  case sl z b off len cap sz =>
    simp only
    by_cases h0 : len = 0
    · rw [if_pos h0] at h ⊢; cases h; rfl
    · rw [if_neg h0] at h ⊢
      rw [hz]
      cases hb : l[b]? with
      | none => rw [hb] at h; cases h
      | some c =>
        cases c <;> rw [hb] at h <;> (try simp only at h) <;> try (cases h; done)
        rename_i m cs
        rw [HL_cells.2 hb]
        simp only
        rw [ite_some] at h
        obtain ⟨h1, rfl⟩ := h
        rw [if_pos h1, HL_set _ (get_lt hb)]

theorem mapUpdL_ok {t kt et : TypeId} (hu : P.underlying t = some (.map kt et)) {l l' : Hl} {m k x : CV} (h : mapUpdL P l kt m k x = some l') : mapUpdC P (HL l) t m k x = some (HL l') := by
  unfold mapUpdL at h
  unfold mapUpdC
  rw [hu]
  cases m <;> (try simp only at h) <;> try (cases h; done)
  rename_i b
  simp only [HL_f]
  cases hb : l[b]? with
  | none => rw [hb] at h; cases h
  | some c =>
    cases c <;> rw [hb] at h <;> simp only at h <;> try (cases h; done)
    rename_i es ck
    simp only
    cases hk : keyFits P kt k with
    | false => rw [hk] at h; cases h
    | true =>
      rw [hk] at h
      simp only at h ⊢
      cases hf : findC P kt k es 0 with
      | none => rw [hf] at h; cases h
      | some r =>
        rw [hf] at h
        cases r with
        | none => cases h; simp only [HL_set _ (get_lt hb)]
        | some jv => cases h; simp only [HL_set _ (get_lt hb)]
theorem load_1 {t : TypeId} (h1 : aggT P t = some false) (h : Hp) (p : CV) : loadC P h t p = (reach h p).bind fun x => x.1[x.2]? := by
  unfold loadC partC; rw [h1]; cases reach h p <;> rfl
theorem load_A {t : TypeId} {n : Nat} (h1 : aggT P t = some true) (h2 : sizeT P t = some n) (h : Hp) (p : CV) : loadC P h t p = (reach h p).bind fun x => partA n x.1 x.2 := by
  unfold loadC partC; rw [h1, h2]; cases reach h p <;> rfl

theorem builtinL_ok {b : Builtin} {ts : List TypeId} {args : List Operand} {m : Mo} (hm : compBuiltin P b ts args = some m) {ρ : Operand → CV} {l l' : Hl} {v : CV} (h : mstep P ρ l m = some (v, l')) :
    builtinC P (HL l) b ts (args.map ρ) = some (.val v (HL l')) := by
  unfold compBuiltin at hm
  split at hm
  · rename_i x0
    split at hm
    · rename_i k e hu
      cases hm
      simp only [mstep, pu_some] at h
      obtain ⟨h2, rfl⟩ := h
      unfold lenMapL at h2
      simp only [List.map_cons, List.map_nil, builtinC]
      cases hx : ρ x0 <;> rw [hx] at h2 <;> (try simp only at h2) <;> try (cases h2; done)
      · cases h2; simp [lenC, lenMapC, hu]
      · rename_i b
        cases hb : l'[b]? with
        | none => rw [hb] at h2; cases h2
        | some c =>
          cases c <;> rw [hb] at h2 <;> simp only at h2 <;> try (cases h2; done)
          cases h2
          simp [lenMapC, hu, HL_f, hb]
    · rw [map_some] at hm
      obtain ⟨ti, h1, rfl⟩ := hm
      simp only [mstep, pu_some] at h
      obtain ⟨h2, rfl⟩ := h
      have h3 := lenL_ok h1 h2
      have h4 : ∀ x, lenMapC P (HL l') _ x = none := fun x => by
        unfold tiOf at h1
        unfold lenMapC
        split at h1 <;> first | (rename_i hu; rw [hu]; done) | (cases h1; done) | skip
        all_goals (rename_i hu; simp only [hu])
      simp only [List.map_cons, List.map_nil, builtinC, h4]
      simp [h3]
  · rw [map_some] at hm
    obtain ⟨ti, h1, rfl⟩ := hm
    simp only [mstep, pu_some] at h
    obtain ⟨h2, rfl⟩ := h
    simp [builtinC, capL_ok h1 h2]
  · rename_i t u s x
    simp only [List.map_cons, List.map_nil, builtinC]
    split at hm
    · rename_i hu
      simp only [bind_some] at hm
      obtain ⟨e, h1, z, h2, by_, h3, zero, h4, hm⟩ := hm
      rw [ite_some] at hm
      obtain ⟨⟨h5, h6⟩, rfl⟩ := hm
      simp only [mstep] at h
      unfold appZM at h
      cases hx : ρ x <;> rw [hx] at h <;> (try simp only at h) <;> try (cases h; done)
      rename_i k n
      by_cases h7 : 0 ≤ n ∧ n < 9223372036854775808 ∧ n.toNat * by_ ≤ roomMax
      · rw [if_pos h7] at h
        rw [hu]
        simp only [appendZC, h1, asInt, h2, h3, h4]
        rw [if_pos ⟨h5, h7⟩, appendL_ok h6 h]; rfl
      · rw [if_neg h7] at h; cases h
    · cases hm
    · rename_i hn hu
      simp only [bind_some] at hm
      obtain ⟨e, h1, z, h2, by_, h3, hm⟩ := hm
      rw [ite_some] at hm
      obtain ⟨h6, rfl⟩ := hm
      simp only [mstep] at h
      unfold appM at h
      cases hc : contentsL l z (ρ x) with
      | none => rw [hc] at h; cases h
      | some p =>
        obtain ⟨xs, n⟩ := p
        rw [hc] at h
        simp only at h
        have : appendC P (HL l) t (ρ s) (ρ x) = some (v, HL l') := by
          simp only [appendC, h1, h2, h3, contents_HL, hc]
          exact appendL_ok h6 h
        rw [this]
        cases hd : P.underlying u with
        | none => exact absurd hd hu
        | some d =>
          cases d <;> first | rfl | (rename_i k; exact absurd hd (hn k))
  · simp only [bind_some, map_some] at hm
    obtain ⟨e, h1, z, h2, rfl⟩ := hm
    simp only [mstep] at h
    simp [builtinC, copyL_ok h1 h2 h]
  · split at hm
    · rename_i e hu
      rw [map_some] at hm
      obtain ⟨zero, h1, rfl⟩ := hm
      simp only [mstep, map_some, Prod.mk.injEq] at h
      obtain ⟨l2, h2, rfl, rfl⟩ := h
      simp [builtinC, clearL_ok hu h1 h2]
    · cases hm
  · cases hm
    simp only [mstep, pu_some] at h
    obtain ⟨h2, rfl⟩ := h
    simp [builtinC, h2]
  · cases hm
    simp only [mstep, pu_some] at h
    obtain ⟨h2, rfl⟩ := h
    simp [builtinC, h2]
  · cases hm

theorem partC_1 {t : TypeId} (h1 : aggT P t = some false) (cs : List CV) (off : Nat) : partC P t cs off = cs[off]? := by unfold partC; rw [h1]
theorem partC_A {t : TypeId} {n : Nat} (h1 : aggT P t = some true) (h2 : sizeT P t = some n) (cs : List CV) (off : Nat) : partC P t cs off = partA n cs off := by unfold partC; rw [h1, h2]; rfl

theorem bytesStrC_none {s d : TypeId} {x : CV} (h : ∀ e, P.underlying d = some (.slice e) → False) : bytesStrC P s d x = none := by
  unfold bytesStrC
  split
  · rename_i e hs hd hx
    exact (h e hx).elim
  · rfl

theorem mstep_ok {op : Op} {m : Mo} (hm : compOp P op = some m) {ρ : Operand → CV} {l l' : Hl} {v : CV} (h : mstep P ρ l m = some (v, l')) : stepC P (HL l) ρ op = some (.val v (HL l')) := by
  cases op <;> simp only [compOp] at hm <;> try (cases hm; done)
  case move x => cases hm; simp only [mstep, Option.some.injEq, Prod.mk.injEq] at h; obtain ⟨rfl, rfl⟩ := h; rfl
  case assign x => cases hm; simp only [mstep, Option.some.injEq, Prod.mk.injEq] at h; obtain ⟨rfl, rfl⟩ := h; rfl
  case pick c a b =>
    cases hm; simp only [mstep, pu_some] at h
    obtain ⟨h2, rfl⟩ := h
    simp only [stepC]
    unfold pickC at h2
    cases hc : ρ c <;> rw [hc] at h2 <;> (try simp only at h2) <;> try (cases h2; done)
    cases h2; rfl
  case alloc t =>
    rw [map_some] at hm
    obtain ⟨zero, h1, rfl⟩ := hm
    simp only [mstep, Option.some.injEq, Prod.mk.injEq] at h
    obtain ⟨rfl, rfl⟩ := h
    simp only [stepC, h1, HL_push]; rfl
  case box t x =>
    cases hm
    simp only [mstep, map_some, Prod.mk.injEq] at h
    obtain ⟨cs, h1, rfl, rfl⟩ := h
    simp only [stepC, h1, HL_push]; rfl
  case build t ps =>
    simp only [bind_some, map_some] at hm
    obtain ⟨zero, h1, q, h2, rfl⟩ := hm
    simp only [mstep, pu_some, map_some] at h
    obtain ⟨⟨cs, h3, rfl⟩, rfl⟩ := h
    simp only [stepC, bldPsL_ok h2 ρ zero h1 h3]; rfl
  case buildSlice t n ps =>
    simp only [bind_some] at hm
    obtain ⟨e, h1, z, h2, zero, h3, hm⟩ := hm
    rw [ite_some] at hm
    obtain ⟨h4, rfl⟩ := hm
    simp only [mstep, map_some, Prod.mk.injEq] at h
    obtain ⟨cs, h5, rfl, rfl⟩ := h
    simp only [stepC, buildSliceC, h1, h2, h3, if_pos h4, h5, HL_push]; rfl
  case load t a =>
    split at hm
    · rename_i n h1 h2
      cases hm
      simp only [mstep, pu_some] at h
      obtain ⟨h3, rfl⟩ := h
      simp only [stepC, load_A h1 h2, reach_HL, h3]; rfl
    · rename_i h1
      cases hm
      simp only [mstep, pu_some] at h
      obtain ⟨h3, rfl⟩ := h
      simp only [stepC, load_1 h1, reach_HL, h3]; rfl
    · cases hm
  case store t a x =>
    rw [map_some] at hm
    obtain ⟨n, h1, rfl⟩ := hm
    simp only [mstep, map_some, Prod.mk.injEq] at h
    obtain ⟨l2, h2, rfl, rfl⟩ := h
    simp only [stepC, storeL_ok h1 h2]; rfl
  case nilCheck x =>
    cases hm
    simp only [mstep, pu_some] at h
    obtain ⟨h2, rfl⟩ := h
    simp only [stepC]
    unfold nilcC at h2
    cases hc : ρ x <;> rw [hc] at h2 <;> simp only at h2 <;> first | (cases h2; done) | (cases h2; rfl)
  case binOp o t x y u =>
    cases hm
    simp only [mstep, pu_some] at h
    obtain ⟨h2, rfl⟩ := h
    simp only [stepC, h2]; rfl
  case unOp o t x =>
    cases hm
    simp only [mstep, pu_some] at h
    obtain ⟨h2, rfl⟩ := h
    simp only [stepC, h2]; rfl
  case convert s d x =>
    simp only [stepC]
    split at hm
    · rename_i ds k hs hd
      cases hm
      simp only [mstep, pu_some] at h
      obtain ⟨h2, rfl⟩ := h
      rw [bytesStrC_none (fun e he => by rw [hd] at he; cases he)]
      unfold cintC at h2
      cases hx : ρ x <;> rw [hx] at h2 <;> (try simp only at h2) <;> try (cases h2; done)
      cases h2
      simp only [convertC, hs, hd]; rfl
    · rename_i e hs hd
      split at hm
      · rename_i he
        cases hm
        simp only [mstep, pu_some] at h
        obtain ⟨h2, rfl⟩ := h
        rw [bytesStrC_none (fun e he => by rw [hd] at he; cases he)]
        have : convertC P (HL l') s d (ρ x) = some v := by
          rw [← h2]
          unfold convertC cbsC
          rw [hs, hd]
          cases hx : ρ x <;> (simp only [he, contents_HL]) <;> (try rfl) <;> (rw [hx] at h2; unfold cbsC at h2; simp only at h2)
          · cases h2
          all_goals (cases hc : contentsL l' 1 _ <;> rfl)
        rw [this]; rfl
      · cases hm
    · rename_i hs hd
      cases hm
      simp only [mstep, pu_some] at h
      obtain ⟨h2, rfl⟩ := h
      rw [bytesStrC_none (fun e he => by rw [hd] at he; cases he)]
      unfold cstrC at h2
      cases hx : ρ x <;> rw [hx] at h2 <;> (try simp only at h2) <;> try (cases h2; done)
      cases h2
      simp only [convertC, hs, hd]; rfl
    · rename_i e hs hd
      split at hm
      · rename_i he
        cases hm
        simp only [mstep, pu_some] at h
        obtain ⟨h2, rfl⟩ := h
        unfold csbC at h2
        cases hx : ρ x <;> rw [hx] at h2 <;> (try simp only at h2) <;> try (cases h2; done)
        cases h2
        simp only [bytesStrC, hs, hd, he]
      · cases hm
    · cases hm
  case makeInterface t x =>
    split at hm
    · cases hm
    · cases hm
    · rename_i h1 h2
      cases hm
      simp only [mstep, Option.some.injEq, Prod.mk.injEq] at h
      obtain ⟨rfl, rfl⟩ := h
      simp only [stepC]
  case makeFunc f a b =>
    cases f <;> simp only at hm <;> try (cases hm; done)
    cases hm
    simp only [mstep, Option.some.injEq, Prod.mk.injEq] at h
    obtain ⟨rfl, rfl⟩ := h
    rfl
  case makeSlice t a c =>
    simp only [bind_some] at hm
    obtain ⟨e, h1, z, h2, by_, h3, zero, h4, hm⟩ := hm
    rw [ite_some] at hm
    obtain ⟨h5, rfl⟩ := hm
    simp only [mstep] at h
    unfold mksC at h
    cases ha : ρ a <;> rw [ha] at h <;> (try simp only at h) <;> try (cases h; done)
    cases hc : ρ c <;> rw [hc] at h <;> (try simp only at h) <;> try (cases h; done)
    rw [ite_some] at h
    obtain ⟨h6, h7⟩ := h
    cases h7
    simp only [stepC, ha, hc, makeSliceC, h1, asInt, h2, h3, h4, if_pos (And.intro h5 h6), HL_push]; rfl
  case slice t x lo hi mx =>
    rw [map_some] at hm
    obtain ⟨ti, h1, rfl⟩ := hm
    simp only [mstep, pu_some] at h
    obtain ⟨h2, rfl⟩ := h
    rw [sliceL_ok h1] at h2
    simp only [stepC, h2]; rfl
  case fieldAddr s x f =>
    rw [bind_some] at hm
    obtain ⟨fd, h1, hm⟩ := hm
    split at hm
    · rename_i n h2
      cases hm
      simp only [mstep, pu_some] at h
      obtain ⟨h3, rfl⟩ := h
      simp only [stepC, fieldAddrC, h1, h2, h3]; rfl
    · cases hm
  case field t x f =>
    rw [bind_some] at hm
    obtain ⟨fd, h1, hm⟩ := hm
    split at hm
    · rename_i n h2 h3
      cases hm
      simp only [mstep, pu_some] at h
      obtain ⟨h4, rfl⟩ := h
      unfold fldCA at h4
      cases hx : ρ x <;> rw [hx] at h4 <;> (try simp only at h4) <;> try (cases h4; done)
      simp only [stepC, hx, h1, partC_A h2 h3, h4]; rfl
    · rename_i h2
      cases hm
      simp only [mstep, pu_some] at h
      obtain ⟨h4, rfl⟩ := h
      unfold fldC1 at h4
      cases hx : ρ x <;> rw [hx] at h4 <;> (try simp only at h4) <;> try (cases h4; done)
      simp only [stepC, hx, h1, partC_1 h2, h4]; rfl
    · cases hm
  case indexAddr t x i =>
    split at hm
    · rename_i n z h1
      cases hm
      simp only [mstep, pu_some] at h
      obtain ⟨h2, rfl⟩ := h
      simp only [stepC, iaL_ok h1 h2]; rfl
    · rename_i z h1
      cases hm
      simp only [mstep, pu_some] at h
      obtain ⟨h2, rfl⟩ := h
      simp only [stepC, iaL_ok h1 h2]; rfl
    · cases hm
  case index t x i =>
    split at hm
    · rename_i n e hu
      split at hm
      · rename_i z h1 h2
        cases hm
        simp only [mstep, pu_some] at h
        obtain ⟨h3, rfl⟩ := h
        unfold ixCA at h3
        cases hx : ρ x <;> rw [hx] at h3 <;> (try simp only at h3) <;> try (cases h3; done)
        cases hi : ρ i <;> rw [hi] at h3 <;> (try simp only at h3) <;> try (cases h3; done)
        simp only [stepC, indexC, hx, hi, hu, asInt, h1, partC_A h2 h1, h3]; rfl
      · rename_i z h1 h2
        cases hm
        simp only [mstep, pu_some] at h
        obtain ⟨h3, rfl⟩ := h
        unfold ixC1 at h3
        cases hx : ρ x <;> rw [hx] at h3 <;> (try simp only at h3) <;> try (cases h3; done)
        cases hi : ρ i <;> rw [hi] at h3 <;> (try simp only at h3) <;> try (cases h3; done)
        simp only [stepC, indexC, hx, hi, hu, asInt, h1, partC_1 h2, h3]; rfl
      · cases hm
    · rename_i hu
      cases hm
      simp only [mstep, pu_some] at h
      obtain ⟨h3, rfl⟩ := h
      unfold ixCT at h3
      cases hx : ρ x <;> rw [hx] at h3 <;> (try simp only at h3) <;> try (cases h3; done)
      cases hi : ρ i <;> rw [hi] at h3 <;> (try simp only at h3) <;> try (cases h3; done)
      simp only [stepC, indexC, hx, hi, hu, asInt, h3]; rfl
    · cases hm
  case extract x i =>
    cases hm
    simp only [mstep, pu_some] at h
    obtain ⟨h2, rfl⟩ := h
    unfold extC at h2
    cases hx : ρ x <;> rw [hx] at h2 <;> (try simp only at h2) <;> try (cases h2; done)
    simp only [stepC, hx, h2]; rfl
  case call c =>
    split at hm
    · rename_i b hb
      simp only [stepC, callC, hb]
      exact builtinL_ok hm h
    · rename_i f hf
      split at hm
      · rename_i fn x y hfn hargs
        rw [ite_some] at hm
        obtain ⟨hi, rfl⟩ := hm
        simp only [mstep] at h
        split at h
        case h_2 => cases h
        rename_i hfn2
        rw [pu_some] at h
        obtain ⟨h2, rfl⟩ := h
        unfold cmpL at h2
        have hbl : ∀ x, bytesOfV (HL l') x = bytesOfL l' x := fun x => by
          cases x <;> simp only [bytesOfV, bytesOfL, contents_HL] <;> rfl
        have hns : ¬(fn.body.isSome = true ∧ fn.name ≠ "runtime.NumGoroutine") := by
          rintro ⟨a, _⟩
          unfold isCmp at hi
          simp only [Bool.and_eq_true] at hi
          rw [Option.isNone_iff_eq_none.1 hi.1.1] at a; cases a
        have hfe : ρ (.func f) = .fn f [] [] := by
          unfold isFn at hfn2
          split at hfn2
          · rename_i g hg; rw [hg, Nat.eq_of_beq_eq_true hfn2]
          · cases hfn2
        simp only [stepC, callC, hf, hfe, hfn, if_neg hns, if_pos hi, hargs, List.map_cons, List.map_nil, List.nil_append, List.append_nil, cmpC, hbl]
        cases ha : bytesOfL l' (ρ x) with
        | none => rw [ha] at h2; cases h2
        | some a =>
          cases hb : bytesOfL l' (ρ y) with
          | none => rw [ha, hb] at h2; cases h2
          | some b => rw [ha, hb] at h2; cases h2; rfl
      · cases hm
    · cases hm
  case panic x => cases hm; cases h
  case makeMap t r =>
    split at hm
    · rename_i k e hu
      cases hm
      simp only [mstep] at h
      cases r with
      | none => cases h; simp [stepC, hu, HL_push]
      | some x =>
        simp only at h
        cases hx : asInt (ρ x) with
        | none => rw [hx] at h; cases h
        | some n => rw [hx] at h; cases h; simp [stepC, hu, hx, HL_push]
    · cases hm
  case lookup t m k ok =>
    split at hm
    · rename_i kt et hu
      rw [map_some] at hm
      obtain ⟨z, hz, rfl⟩ := hm
      simp only [mstep, pu_some] at h
      obtain ⟨h2, rfl⟩ := h
      have hmo : ∀ x, mapOf (HL l') x = mapOfL l' x := fun x => by
        cases x <;> try rfl
        rename_i b
        simp only [mapOf, mapOfL, HL_f]
        cases l'[b]? with
        | none => rfl
        | some c => cases c <;> rfl
      unfold lookupL at h2
      simp only [stepC, lookupC, hu, hmo]
      cases hes : mapOfL l' (ρ m) with
      | none => rw [hes] at h2; cases h2
      | some es =>
        rw [hes] at h2
        simp only at h2 ⊢
        cases hk : keyFits P kt (ρ k) with
        | false => rw [hk] at h2; cases h2
        | true =>
          rw [hk] at h2
          simp only at h2 ⊢
          cases hf : findC P kt (ρ k) es 0 with
          | none => rw [hf] at h2; cases h2
          | some r =>
            rw [hf] at h2
            cases r with
            | none => cases h2; simp [hz]
            | some jv => cases h2; rfl
    · cases hm
  case mapUpdate t m k x =>
    split at hm
    · rename_i kt et hu
      cases hm
      simp only [mstep, map_some] at h
      obtain ⟨l2, h2, h3⟩ := h
      cases h3
      simp only [stepC, mapUpdL_ok hu h2]; rfl
    · cases hm
  case insert t m k x =>
    split at hm
    · rename_i kt et hu
      cases hm
      simp only [mstep, map_some] at h
      obtain ⟨l2, h2, h3⟩ := h
      cases h3
      simp only [stepC, mapUpdL_ok hu h2]; rfl
    · cases hm
  case range t x =>
    split at hm
    · rename_i hu
      cases hm
      simp only [mstep] at h
      unfold rangeL at h
      cases hx : ρ x <;> rw [hx] at h <;> (try simp only at h) <;> try (cases h; done)
      cases h
      simp [stepC, rangeStrC, hu, hx, HL_push]
    · cases hm
  case next it b =>
    cases b with
    | false => cases hm
    | true =>
      cases hm
      simp only [mstep] at h
      unfold nextL at h
      simp only [stepC, nextStrC]
      cases hx : ρ it <;> rw [hx] at h <;> (try simp only at h) <;> try (cases h; done)
      rename_i b
      simp only [HL_f]
      cases hb : l[b]? with
      | none => rw [hb] at h; cases h
      | some c =>
        cases c <;> rw [hb] at h <;> simp only at h <;> try (cases h; done)
        simp only
        split at h
        · rename_i hlt; cases h; rw [hlt]; simp only [Option.map_some, HL_set _ (get_lt hb)]
        · rename_i hlt; cases h; rw [hlt]; rfl
end

end Go.CM

/-
  The canonical machine, part V: code without types, and what it must do for something to hold behind it.
-/
namespace Go.CM
open Go
set_option linter.unusedVariables false
set_option linter.unusedSimpArgs false

abbrev Sg := Nat → CV
abbrev KC := CExit → Sg → Hl → Prop

/-- What comes behind, as 'simp' leaves it alone: in the clothes of an instance. -/
class Kt (α : Type) where
  k : α → Prop
class Pq where
  p : Prop
  q : Prop
class Kv where
  k : CV → Hl → Prop
class Kc where
  k : KC

def W {α : Type} (o : Option α) [c : Kt α] : Prop := match o with | some v => c.k v | none => False
def kIf (b : Bool) [c : Pq] : Prop := match b with | true => c.p | false => c.q
def kCond (x : CV) [c : Pq] : Prop := match x with | .bool b => kIf b (c := c) | _ => False
def kG (x : CV) (w : Bool) [c : Pq] : Prop := match x with | .bool b => kIf (b == w) (c := c) | .bad => False | _ => c.q

inductive Bd where
  | mo (m : Mo)
  | callF (f : FuncId) (args : List Operand)
  | callV (x : Operand) (args : List Operand)

structure Stp where
  i : Nat
  dst : Option Tmp
  g : Option (Option Tmp × Bool)
  b : Bd
  chk : List Nat
  keep : Bool

inductive Cd where
  | skip
  | ret
  | exit (id : Nat)
  | reg (s : List Stp)
  | dreg (s : List Stp)
  | seq (a b : Cd)
  | cond (c : Operand) (x y : Cd)
  | block (id : Nat) (c : Cd)
  | loop (c : Cd)

section
variable (P : Program) (G : Nat → CV)

def funOkB (f : FuncId) : Bool := match P.funcs[f]? with | some fn => fn.body.isSome && fn.name != "runtime.NumGoroutine" | none => false

def CallP (f : FuncId) (args : List CV) (l : Hl) [c : Kv] : Prop := ∃ r l', Ev P G (.call f args (HL l) r (HL l')) ∧ l.length ≤ l'.length ∧ c.k r l'

def callVP (x : CV) (args : List CV) (l : Hl) [c : Kv] : Prop := match x with
  | .fn g first captured => funOkB P g = true ∧ CallP P G g (first ++ args ++ captured) l (c := c)
  | _ => False

/-- Behind an 'append' blocks may be given up. -/
def AppK (v : CV) (l : Hl) [c : Kv] : Prop := c.k v l ∨ ∃ v2 l2, Wk (HL l) (HL l2) ∧ RdK (HL l) (HL l2) v v2 ∧ c.k v2 l2
def keepK (m : Mo) (v : CV) (l : Hl) (K : CV → Hl → Prop) : Prop := match m with
  | .app .. => AppK v l (c := ⟨K⟩)
  | _ => K v l

def stp (b : Bd) (σ : Sg) (l : Hl) (K : CV → Hl → Prop) : Prop := match b with
  | .mo m => W (mstep P (ev G σ) l m) (c := ⟨fun x => keepK m x.1 x.2 K⟩)
  | .callF f args => CallP P G f (args.map (ev G σ)) l (c := ⟨K⟩)
  | .callV x args => callVP P G (ev G σ x) (args.map (ev G σ)) l (c := ⟨K⟩)

def kGo (σ : Sg) (g : Option (Option Tmp × Bool)) (p q : Prop) : Prop := match g with
  | none => p
  | some (some d, w) => kG (σ d) w (c := ⟨p, q⟩)
  | some (none, _) => q

def runS : List Stp → Sg → Hl → (Sg → Hl → Prop) → Prop
  | [], σ, l, K => K σ l
  | s :: r, σ, l, K => kGo σ s.g (stp P G s.b σ l fun v l' => runS r (putC σ s.dst v) l' K) (runS r (putC σ s.dst undefC) l K)

abbrev Seen := List (Nat × (Hl → Prop))
def chks (ids : List Nat) : Seen → Hl → Prop
  | [], _ => True
  | e :: r, l => (ids.contains e.1 = true → e.2 l) ∧ chks ids r l
def Mo.isNew : Mo → Bool
  | .alloc _ | .box _ | .bsl .. | .mks .. => true
  | _ => false
def stillP (b : Bd) (σ : Sg) (v : CV) (l l' l1 : Hl) : Prop := match b with
  | .mo m => match m.isNew with
    | true => l1[l.length]? = l'[l.length]?
    | false => mstep P (ev G σ) l1 m = some (v, l1)
  | _ => True
def seenAdd (keep : Bool) (i : Nat) (p : Hl → Prop) (s : Seen) : Seen := match keep with | true => (i, p) :: s | false => s
def runD : List Stp → Sg → Hl → Seen → (Sg → Hl → Prop) → Prop
  | [], σ, l, _, K => K σ l
  | s :: r, σ, l, seen, K => kGo σ s.g (stp P G s.b σ l fun v l' => chks s.chk seen l' ∧ runD r (putC σ s.dst v) l' (seenAdd s.keep s.i (stillP P G s.b σ v l l') seen) K) (runD r (putC σ s.dst undefC) l seen K)

def kSeq (k : Sg → Hl → Prop) (K : KC) : KC := fun e σ l => match e with
  | .normal => k σ l
  | .exit id => K (.exit id) σ l
  | .ret => K .ret σ l
def kBlock (id : Nat) (K : KC) : KC := fun e σ l => match e with
  | .normal => K .normal σ l
  | .exit id' => match Nat.beq id' id with | true => K .normal σ l | false => K (.exit id') σ l
  | .ret => K .ret σ l
def loopN (r : Sg → Hl → KC → Prop) : Nat → Sg → Hl → KC → Prop
  | 0 => fun _ _ _ => False
  | n + 1 => fun σ l K => r σ l (kSeq (fun σ l => loopN r n σ l K) K)
def LoopP (r : Sg → Hl → KC → Prop) (σ : Sg) (l : Hl) [c : Kc] : Prop := ∃ n, loopN r n σ l c.k

def run : Cd → Sg → Hl → KC → Prop
  | .skip, σ, l, K => K .normal σ l
  | .ret, σ, l, K => K .ret σ l
  | .exit id, σ, l, K => K (.exit id) σ l
  | .reg s, σ, l, K => runS P G s σ l (K .normal)
  | .dreg s, σ, l, K => runD P G s σ l [] (K .normal)
  | .seq a b, σ, l, K => run a σ l (kSeq (fun σ l => run b σ l K) K)
  | .cond c x y, σ, l, K => kCond (ev G σ c) (c := ⟨run x σ l K, run y σ l K⟩)
  | .block id c, σ, l, K => run c σ l (kBlock id K)
  | .loop c, σ, l, K => LoopP (run c) σ l (c := ⟨K⟩)

/-! ### From code -/
def stpOf (ops : Array Oper) (i : Nat) (chk : List Nat) (keep : Bool) : Option Stp := (ops[i]?).bind fun o =>
  let g := o.guard.map fun jw => ((ops[jw.1]?).bind (·.dst), jw.2)
  match compOp P o.op with
  | some m => some ⟨i, o.dst, g, .mo m, chk, keep⟩
  | none => match o.op with
    | .call c => match c.callee with
      | .value (.func f) => match funOkB P f with
        | true => some ⟨i, o.dst, g, .callF f c.args.toList, chk, keep⟩
        | false => none
      | .value x => some ⟨i, o.dst, g, .callV x c.args.toList, chk, keep⟩
      | _ => none
    | _ => none

def touches : Op → Bool
  | .load .. | .convert .. | .alloc _ | .box .. | .buildSlice .. | .makeSlice .. => true
  | .call c => match c.callee, c.argTypes.toList with
    | .builtin .len, [t] => match P.underlying t with | some (.map _ _) => true | _ => false
    | _, _ => false
  | _ => false

/-- What must be asked again behind the effect at a place of the order: 'done': the places ahead, the last one first; 'effs': those among them that have an effect for sure, and this one. -/
def chkAt (ms : List Nat) (ops : Array Oper) (done effs : List Nat) : List Nat :=
  done.filter fun j => (match ops[j]? with | some o => touches P o.op | none => false) && effs.all fun e => !preOf ms e j

def planGo (ms : List Nat) (ops : Array Oper) : List Nat → List Nat → List Nat → List (Nat × List Nat)
  | [], _, _ => []
  | i :: r, done, effs => match ops[i]? with
    | none => []
    | some o => match isEffOp o.op with
      | true => (i, chkAt P ms ops done (i :: effs)) :: planGo ms ops r (i :: done) (match o.guard with | none => i :: effs | some _ => effs)
      | false => (i, []) :: planGo ms ops r (i :: done) effs

def eagerB (ms : List Nat) (ops : Array Oper) : List Nat → Bool
  | [] => true
  | i :: r => (match ops[i]? with | some o => !isEffOp o.op || r.all fun j => preOf ms j i | none => false) && eagerB ms ops r

def compReg (N : Nat) (ops : Array Oper) (draw : Bool) : Option Cd :=
  match ops.toList.all fun o => dstOk N o.dst with
  | false => none
  | true => match draw with
    | false => ((List.range ops.size).mapM fun i => stpOf P ops i [] false).map .reg
    | true =>
      let ms := masksOf ops
      let ord := sched ms ops
      match orderB ms ops ord && eagerB ms ops ord with
      | false => none
      | true =>
        let plan := planGo P ms ops ord [] []
        let ask := plan.flatMap (·.2)
        match plan.mapM fun p => stpOf P ops p.1 p.2 (ask.contains p.1) with
        | none => none
        | some s => match ask with
          | [] => some (.reg s)
          | _ => some (.dreg s)

def comp (N : Nat) : Code → Option Cd
  | .skip => some .skip
  | .label _ => some .skip
  | .ret => some .ret
  | .exit id => some (.exit id)
  | .region _ ops draw => compReg P N ops draw
  | .seq a b => match comp N a, comp N b with
    | some .skip, some b => some b
    | some a, some .skip => some a
    | some a, some b => some (.seq a b)
    | _, _ => none
  | .cond c x y => match comp N x, comp N y with
    | some x, some y => some (.cond c x y)
    | _, _ => none
  | .block id c => (comp N c).map (.block id)
  | .loop c => (comp N c).map .loop
  | .scope c => comp N c
  | _ => none

def compF (f : FuncId) : Option Cd := match P.funcs[f]? with
  | some fn => match fn.body with
    | some c => comp P fn.ntmps c
    | none => none
  | none => none
end

end Go.CM

/-
  The canonical machine, part W: what must hold behind code without types holds behind the code (regions in one order).
-/
namespace Go.CM
open Go
set_option linter.unusedVariables false
set_option linter.unusedSimpArgs false

section
variable {P : Program} {G : Nat → CV}

theorem appendL_len {l l' : Hl} {z by_ n : Nat} {s v : CV} {xs : List CV} (h : appendL l z by_ s xs n = some (v, l')) : l.length ≤ l'.length := by
  unfold appendL at h
  repeat' split at h
  all_goals first | (cases h; done) | (cases h; simp)

theorem mstep_len {ρ : Operand → CV} {l l' : Hl} {m : Mo} {v : CV} (h : mstep P ρ l m = some (v, l')) : l.length ≤ l'.length := by
  cases m <;> simp only [mstep, pu_some, map_some, Option.some.injEq, Prod.mk.injEq] at h
  case mv => obtain ⟨_, rfl⟩ := h; exact Nat.le_refl _
  case alloc => obtain ⟨_, rfl⟩ := h; simp
  case box => obtain ⟨_, _, _, rfl⟩ := h; simp
  case bsl => obtain ⟨_, _, _, rfl⟩ := h; simp
  case st n a x =>
    obtain ⟨_, h, _, rfl⟩ := h
    unfold storeL at h
    repeat' split at h
    all_goals first | (cases h; done) | (cases h; simp)
  case mkI => obtain ⟨_, rfl⟩ := h; exact Nat.le_refl _
  case mkF => obtain ⟨_, rfl⟩ := h; exact Nat.le_refl _
  case mks =>
    unfold mksC at h
    repeat' split at h
    all_goals first | (cases h; done) | (cases h; simp)
  case app =>
    unfold appM at h
    split at h
    · cases h
    · exact appendL_len h
  case appZ =>
    unfold appZM at h
    repeat' split at h
    all_goals first | (cases h; done) | exact appendL_len h
  case cpy =>
    unfold copyL at h
    repeat' split at h
    all_goals first | (cases h; done) | (cases h; simp)
  case clr =>
    obtain ⟨_, h, _, rfl⟩ := h
    unfold clearL at h
    repeat' split at h
    all_goals first | (cases h; done) | (cases h; simp)
  case stop => cases h
  case mkM x =>
    cases x with
    | none => cases h; simp
    | some o =>
      simp only at h
      split at h
      · cases h; simp
      · cases h
  case mup =>
    obtain ⟨_, h, _, rfl⟩ := h
    unfold mapUpdL at h
    repeat' split at h
    all_goals first | (cases h; done) | (cases h; simp)
  case rngS =>
    unfold rangeL at h
    repeat' split at h
    all_goals first | (cases h; done) | (cases h; simp)
  case nxtS =>
    unfold nextL at h
    repeat' split at h
    all_goals first | (cases h; done) | (cases h; simp)
  case cmpB =>
    split at h
    · rw [pu_some] at h; obtain ⟨_, rfl⟩ := h; exact Nat.le_refl _
    · cases h
  all_goals (obtain ⟨_, rfl⟩ := h; exact Nat.le_refl _)

theorem W_iff {α : Type} {o : Option α} {c : Kt α} : W o (c := c) ↔ ∃ v, o = some v ∧ c.k v := by
  unfold W; cases o <;> simp

theorem kIf_iff {b : Bool} {c : Pq} : kIf b (c := c) ↔ (b = true ∧ c.p) ∨ (b = false ∧ c.q) := by cases b <;> simp [kIf]

/-- The parts of a step that the operation has. -/
structure StpOk (P : Program) (ops : Array Oper) (s : Stp) (o : Oper) : Prop where
  here : ops[s.i]? = some o
  dst : s.dst = o.dst
  g : s.g = o.guard.map fun jw => ((ops[jw.1]?).bind (·.dst), jw.2)
  mo : ∀ m, s.b = .mo m → compOp P o.op = some m
  callF : ∀ f args, s.b = .callF f args → ∃ c : Call, o.op = .call c ∧ c.callee = .value (.func f) ∧ c.args.toList = args ∧ funOkB P f = true
  callV : ∀ x args, s.b = .callV x args → ∃ c : Call, o.op = .call c ∧ c.callee = .value x ∧ c.args.toList = args

theorem stpOf_ok {ops : Array Oper} {i : Nat} {chk : List Nat} {keep : Bool} {s : Stp} (h : stpOf P ops i chk keep = some s) : ∃ o, StpOk P ops s o ∧ s.i = i ∧ s.chk = chk ∧ s.keep = keep := by
  unfold stpOf at h
  rw [bind_some] at h
  obtain ⟨o, ho, h⟩ := h
  refine ⟨o, ?_⟩
  simp only at h
  split at h
  · rename_i m hm
    cases h
    exact ⟨⟨ho, rfl, rfl, fun m' h => (by cases h; exact hm), fun f a h => (by cases h), fun x a h => (by cases h)⟩, rfl, rfl, rfl⟩
  · split at h
    · rename_i c hop
      split at h
      · rename_i f hc
        split at h
        · rename_i hf
          cases h
          exact ⟨⟨ho, rfl, rfl, fun m' h => (by cases h), fun f a h => (by cases h; exact ⟨c, hop, hc, rfl, hf⟩), fun x a h => (by cases h)⟩, rfl, rfl, rfl⟩
        · cases h
      · rename_i x hx hc
        cases h
        exact ⟨⟨ho, rfl, rfl, fun m' h => (by cases h), fun f a h => (by cases h), fun x a h => by cases h; exact ⟨c, hop, hc, rfl⟩⟩, rfl, rfl, rfl⟩
      · cases h
    · cases h

theorem funOk_call {g : FuncId} (hf : funOkB P g = true) {h : Hp} {ρ : Operand → CV} {c : Call} {x : Operand} {first captured : List CV} (hc : c.callee = .value x) (hx : ρ x = .fn g first captured) :
    stepC P h ρ (.call c) = some (.call g (first ++ c.args.toList.map ρ ++ captured) h) := by
  unfold funOkB at hf
  simp only [stepC, callC, hc, hx]
  cases hfn : P.funcs[g]? with
  | none => rw [hfn] at hf; cases hf
  | some fn =>
    rw [hfn] at hf
    simp only [Bool.and_eq_true, bne_iff_ne] at hf
    simp only
    rw [if_pos hf]

/-- What only looks. -/
def Mo.looks : Mo → Bool
  | .alloc _ | .box _ | .bsl .. | .mks .. | .st .. | .app .. | .appZ .. | .cpy .. | .clr .. | .mkM _ | .lkp .. | .mup .. | .rngS _ | .nxtS _ | .cmpB .. | .stop => false
  | _ => true

theorem keep_cases {m : Mo} {v : CV} {l : Hl} {K : CV → Hl → Prop} (h : keepK m v l K) : K v l ∨ (m.looks = false ∧ m.isNew = false ∧ ∃ v2 l2, Wk (HL l) (HL l2) ∧ RdK (HL l) (HL l2) v v2 ∧ K v2 l2) := by
  cases m <;> first | exact .inl h | skip
  rcases h with h | h
  · exact .inl h
  · exact .inr ⟨rfl, rfl, h⟩
theorem keep_mono {m : Mo} {v : CV} {l : Hl} {K K' : CV → Hl → Prop} (hK : ∀ v l, K v l → K' v l) (h : keepK m v l K) : keepK m v l K' := by
  cases m <;> first | exact hK _ _ h | skip
  rcases h with h | ⟨v2, l2, h1, h2, h3⟩
  · exact .inl (hK _ _ h)
  · exact .inr ⟨v2, l2, h1, h2, hK _ _ h3⟩

theorem stp_ok {ops : Array Oper} {s : Stp} {o : Oper} (ok : StpOk P ops s o) {σ : Sg} {l : Hl} {K : CV → Hl → Prop} (h : stp P G s.b σ l K) :
    ∃ v l', Ev P G (.op o.op σ (HL l) v (HL l')) ∧ l.length ≤ l'.length ∧ K v l' ∧ ∀ m, s.b = .mo m → (m.looks = true ∨ m.isNew = true) → mstep P (ev G σ) l m = some (v, l') := by
  cases hb : s.b with
  | mo m =>
    rw [hb] at h
    simp only [stp, W_iff] at h
    obtain ⟨⟨v, l'⟩, h1, h2⟩ := h
    have he := Ev.opVal (G := G) (mstep_ok (ok.mo m hb) h1)
    rcases keep_cases h2 with h2 | ⟨n1, n2, v2, l2, k1, k2, k3⟩
    · exact ⟨v, l', he, mstep_len h1, h2, fun m' hm _ => by cases hm; exact h1⟩
    · refine ⟨v2, l2, .wkOp he k1 k2, Nat.le_trans (mstep_len h1) (Nat.le_of_eq k1.n.symm), k3, fun m' hm hl => ?_⟩
      cases hm
      rw [n1, n2] at hl
      rcases hl with h | h <;> cases h
  | callF f args =>
    rw [hb] at h
    obtain ⟨r, l', h1, h2, h3⟩ := h
    obtain ⟨c, hop, hc, ha, hf⟩ := ok.callF f args hb
    refine ⟨r, l', ?_, h2, h3, fun m' hm _ => by cases hm⟩
    rw [hop]
    refine .opCall (funOk_call hf hc rfl) ?_
    simpa [ha] using h1
  | callV x args =>
    rw [hb] at h
    simp only [stp] at h
    obtain ⟨c, hop, hc, ha⟩ := ok.callV x args hb
    unfold callVP at h
    split at h
    · rename_i g first captured hx
      obtain ⟨hf, r, l', h1, h2, h3⟩ := h
      refine ⟨r, l', ?_, h2, h3, fun m' hm _ => by cases hm⟩
      rw [hop]
      refine .opCall (funOk_call hf hc hx) ?_
      rw [ha]; exact h1
    · cases h

theorem kGo_ok {ops : Array Oper} {s : Stp} {o : Oper} (ok : StpOk P ops s o) {σ : Sg} {p q : Prop} (h : kGo σ s.g p q) : (wantedC ops σ o = some true ∧ p) ∨ (wantedC ops σ o = some false ∧ q) := by
  rw [ok.g] at h
  unfold wantedC
  cases hg : o.guard with
  | none => rw [hg] at h; exact .inl ⟨rfl, h⟩
  | some jw =>
    obtain ⟨j, w⟩ := jw
    rw [hg] at h
    simp only [Option.map_some] at h ⊢
    cases hd : (ops[j]?).bind (·.dst) with
    | none => rw [hd] at h; exact .inr ⟨rfl, h⟩
    | some d =>
      rw [hd] at h
      simp only [kGo, kG] at h ⊢
      cases hs : σ d <;> rw [hs] at h <;> simp only at h ⊢ <;> first | exact .inr ⟨trivial, h⟩ | (cases h; done) | skip
      rw [kIf_iff] at h
      rcases h with ⟨h1, h2⟩ | ⟨h1, h2⟩
      · exact .inl ⟨by rw [h1], h2⟩
      · exact .inr ⟨by rw [h1], h2⟩

inductive AllOk (P : Program) (ops : Array Oper) : List Stp → List Oper → Prop
  | nil : AllOk P ops [] []
  | cons {s o ss os} : StpOk P ops s o → AllOk P ops ss os → AllOk P ops (s :: ss) (o :: os)

theorem runS_ok {ops : Array Oper} {N : Nat} (hN : ∀ (i : Nat) (o : Oper), ops[i]? = some o → dstOk N o.dst = true) {K : Sg → Hl → Prop} : ∀ {s : List Stp} {os : List Oper} {σ : Sg} {l : Hl},
    AllOk P ops s os → runS P G s σ l K → ∃ σ' l', Ev P G (.ops ops os N σ (HL l) σ' (HL l')) ∧ l.length ≤ l'.length ∧ K σ' l'
  | [], _, σ, l, hf, h => by cases hf; exact ⟨σ, l, .opsNil, Nat.le_refl _, h⟩
  | s :: r, _, σ, l, hf, h => by
    cases hf with
    | cons ok hf =>
      rename_i o os
      rcases kGo_ok ok h with ⟨hw, h⟩ | ⟨hw, h⟩
      · obtain ⟨v, l1, h1, h2, h3, _⟩ := stp_ok ok h
        obtain ⟨σ', l', h4, h5, h6⟩ := runS_ok hN hf h3
        exact ⟨σ', l', .opsOp hw (hN _ _ ok.here) h1 (by rw [← ok.dst]; exact h4), Nat.le_trans h2 h5, h6⟩
      · obtain ⟨σ', l', h4, h5, h6⟩ := runS_ok hN hf h
        exact ⟨σ', l', .opsSkip hw (hN _ _ ok.here) (by rw [← ok.dst]; exact h4), h5, h6⟩

/-! ### Regions that draw their order -/
theorem reachL_grow {l x : Hl} {p : CV} {y : List CV × Nat} (h : reachL l p = some y) : reachL (l ++ x) p = some y := by
  cases p <;> first | exact h | skip
  rename_i b off sz
  simp only [reachL] at h ⊢
  cases hb : l[b]? with
  | none => rw [hb] at h; cases h
  | some c => rw [hb] at h; rw [List.getElem?_append_left (get_lt hb), hb]; exact h
theorem contentsL_grow {l x : Hl} {z : Nat} {p : CV} {y : List CV × Nat} (h : contentsL l z p = some y) : contentsL (l ++ x) z p = some y := by
  cases p <;> first | exact h | skip
  rename_i z' b off len cap sz
  simp only [contentsL] at h ⊢
  cases hb : l[b]? with
  | none => rw [hb] at h; cases h
  | some c => rw [hb] at h; rw [List.getElem?_append_left (get_lt hb), hb]; exact h
theorem cbsC_grow {l x : Hl} {p v : CV} (h : cbsC l p = some v) : cbsC (l ++ x) p = some v := by
  unfold cbsC at h ⊢
  cases p <;> simp only at h ⊢ <;> first | exact h | skip
  all_goals
    split at h
    · rename_i cs n hc
      rw [contentsL_grow hc]; exact h
    · cases h

def Mo.reads : Mo → Bool
  | .ld1 _ | .ldA .. | .cbs _ | .lenMp _ => true
  | _ => false

theorem looks_same {ρ : Operand → CV} {l l' : Hl} {m : Mo} {v : CV} (hm : m.looks = true) (h : mstep P ρ l m = some (v, l')) : l' = l := by
  cases m <;> simp only [Mo.looks, Bool.true_eq, Bool.false_eq_true, reduceCtorEq] at hm <;> simp only [mstep, pu_some, Option.some.injEq, Prod.mk.injEq] at h <;> first | exact h.2 | exact h.2.symm
theorem looks_grow {ρ : Operand → CV} {l x : Hl} {m : Mo} {v : CV} (hm : m.looks = true) (h : mstep P ρ l m = some (v, l)) : mstep P ρ (l ++ x) m = some (v, l ++ x) := by
  cases m <;> simp only [Mo.looks, Bool.true_eq, Bool.false_eq_true, reduceCtorEq] at hm <;> simp only [mstep, pu_some, Option.some.injEq, Prod.mk.injEq, and_true] at h ⊢ <;> try exact h
  case ld1 a =>
    rw [bind_some] at h ⊢
    obtain ⟨y, h1, h2⟩ := h
    exact ⟨y, reachL_grow h1, h2⟩
  case ldA n a =>
    rw [bind_some] at h ⊢
    obtain ⟨y, h1, h2⟩ := h
    exact ⟨y, reachL_grow h1, h2⟩
  case cbs x => exact cbsC_grow h
  case lenMp y =>
    unfold lenMapL at h ⊢
    cases hx : ρ y <;> rw [hx] at h <;> (try simp only at h) <;> try (cases h; done)
    · exact h
    · rename_i b
      cases hb : l[b]? with
      | none => rw [hb] at h; cases h
      | some c => simp only [List.getElem?_append_left (get_lt hb)]; exact h
theorem looks_indep {ρ : Operand → CV} {l l2 : Hl} {m : Mo} {v : CV} (hm : m.looks = true) (hr : m.reads = false) (h : mstep P ρ l m = some (v, l)) : mstep P ρ l2 m = some (v, l2) := by
  cases m <;> simp only [Mo.looks, Bool.true_eq, Bool.false_eq_true, reduceCtorEq] at hm <;> simp only [Mo.reads, reduceCtorEq] at hr <;> simp only [mstep, pu_some, Option.some.injEq, Prod.mk.injEq, and_true] at h ⊢ <;> exact h

/-- What makes a block. -/
def newL (ρ : Operand → CV) (m : Mo) : Option (List CV × (Nat → CV)) := match m with
  | .alloc zero => some (zero, fun b => .ptr b 0 zero.length)
  | .box x => (ρ x).cells.map fun cs => (cs, fun b => .ptr b 0 cs.length)
  | .bsl z zero len ps => (fillC (fun i => some (i * z, z)) (repeatC zero len) (ps.map fun p => (p.1, ρ p.2))).map fun cs => (cs, fun b => .sl z b 0 len len (len * z))
  | .mks z by_ zero l c => match ρ l, ρ c with
    | .int _ l, .int _ c => if 0 ≤ l ∧ l ≤ c ∧ c < 9223372036854775808 ∧ by_ * c ≤ roomMax then some (repeatC zero c.toNat, fun b => .sl z b 0 l.toNat c.toNat (c.toNat * z)) else none
    | _, _ => none
  | _ => none

theorem repeatC_len (zero : List CV) : ∀ n, (repeatC zero n).length = n * zero.length
  | 0 => by simp [repeatC]
  | n + 1 => by rw [repeatC, List.length_append, repeatC_len zero n, Nat.succ_mul, Nat.add_comm]
theorem splice_len {cs vs : List CV} {off : Nat} (h : off + vs.length ≤ cs.length) : (splice cs off vs).length = cs.length := by
  simp only [splice, List.length_append, List.length_take, List.length_drop]; omega
theorem fillC_len {place : Nat → Option (Nat × Nat)} : ∀ {ps : List (Nat × CV)} {zero cs : List CV}, fillC place zero ps = some cs → cs.length = zero.length
  | [], zero, cs, h => by simp only [fillC, Option.some.injEq] at h; rw [← h]
  | (i, v) :: r, zero, cs, h => by
    unfold fillC at h
    split at h
    · rename_i off size vs _ _
      split at h
      · rename_i h1
        rw [fillC_len h, splice_len (by omega)]
      · cases h
    · cases h

theorem new_ok_L {op : Op} {m : Mo} (hm : compOp P op = some m) (hn : m.isNew = true) {ρ : Operand → CV} {l l' : Hl} {v : CV} (h : mstep P ρ l m = some (v, l')) :
    ∃ cs mk, newC P ρ op = some (cs, mk) ∧ v = mk l.length ∧ l' = l ++ [.cells cs.length cs] := by
  cases op <;> simp only [compOp] at hm <;> try (cases hm; done)
  case alloc t =>
    rw [map_some] at hm
    obtain ⟨zero, h1, rfl⟩ := hm
    simp only [mstep, Option.some.injEq, Prod.mk.injEq] at h
    obtain ⟨rfl, rfl⟩ := h
    exact ⟨zero, _, by simp only [newC, h1]; rfl, rfl, rfl⟩
  case box t x =>
    cases hm
    simp only [mstep, map_some, Prod.mk.injEq] at h
    obtain ⟨cs, h1, rfl, rfl⟩ := h
    exact ⟨cs, _, by simp only [newC, h1]; rfl, rfl, rfl⟩
  case buildSlice t n ps =>
    simp only [bind_some] at hm
    obtain ⟨e, h1, z, h2, zero, h3, hm⟩ := hm
    rw [ite_some] at hm
    obtain ⟨h4, rfl⟩ := hm
    simp only [mstep, map_some, Prod.mk.injEq] at h
    obtain ⟨cs, h5, rfl, rfl⟩ := h
    have hlen : cs.length = n * z := by rw [fillC_len h5, repeatC_len, h4.1]
    exact ⟨cs, _, by simp only [newC, h1, h2, h3, if_pos h4, h5]; rfl, rfl, by rw [hlen]⟩
  case makeSlice t a c =>
    simp only [bind_some] at hm
    obtain ⟨e, h1, z, h2, by_, h3, zero, h4, hm⟩ := hm
    rw [ite_some] at hm
    obtain ⟨h5, rfl⟩ := hm
    simp only [mstep] at h
    unfold mksC at h
    cases ha : ρ a <;> rw [ha] at h <;> (try simp only at h) <;> try (cases h; done)
    cases hc : ρ c <;> rw [hc] at h <;> (try simp only at h) <;> try (cases h; done)
    rw [ite_some] at h
    obtain ⟨h6, h7⟩ := h
    cases h7
    rename_i kc nc
    have hlen : (repeatC zero nc.toNat).length = nc.toNat * z := by rw [repeatC_len, h5]
    exact ⟨repeatC zero nc.toNat, _, by simp only [newC, ha, hc, h1, asInt, h2, h3, h4]; rw [if_pos ⟨h5, h6⟩], rfl, by rw [hlen]⟩
  case pick => cases hm; cases hn
  case move => cases hm; cases hn
  case assign => cases hm; cases hn
  case nilCheck => cases hm; cases hn
  case binOp => cases hm; cases hn
  case unOp => cases hm; cases hn
  case call c =>
    exfalso
    split at hm
    · unfold compBuiltin at hm
      repeat' split at hm
      all_goals first
        | (cases hm; done)
        | (cases hm; cases hn; done)
        | (simp only [bind_some, map_some] at hm; obtain ⟨_, _, rfl⟩ := hm; cases hn; done)
        | (simp only [bind_some, map_some] at hm; obtain ⟨_, _, _, _, rfl⟩ := hm; cases hn; done)
        | (simp only [bind_some, ite_some] at hm; obtain ⟨_, _, _, _, _, _, _, rfl⟩ := hm; cases hn; done)
        | (simp only [bind_some, ite_some] at hm; obtain ⟨_, _, _, _, _, _, _, _, _, rfl⟩ := hm; cases hn; done)
    · split at hm
      · rw [ite_some] at hm; obtain ⟨_, rfl⟩ := hm; cases hn
      · cases hm
    · cases hm
  case next it b => exfalso; cases b <;> simp only [reduceCtorEq] at hm <;> cases hm <;> cases hn
  case panic => cases hm; cases hn
  case lookup => exfalso; split at hm <;> (try cases hm; done); rw [map_some] at hm; obtain ⟨_, _, rfl⟩ := hm; cases hn
  case build => exfalso; simp only [bind_some, map_some] at hm; obtain ⟨_, _, _, _, rfl⟩ := hm; cases hn
  case store => exfalso; rw [map_some] at hm; obtain ⟨_, _, rfl⟩ := hm; cases hn
  case slice => exfalso; rw [map_some] at hm; obtain ⟨_, _, rfl⟩ := hm; cases hn
  case fieldAddr => exfalso; rw [bind_some] at hm; obtain ⟨_, _, hm⟩ := hm; split at hm <;> cases hm; cases hn
  case field => exfalso; rw [bind_some] at hm; obtain ⟨_, _, hm⟩ := hm; split at hm <;> cases hm <;> cases hn
  case extract => cases hm; cases hn
  case makeFunc f a b => exfalso; cases f <;> simp only at hm <;> cases hm; cases hn
  all_goals
    exfalso
    repeat' split at hm
    all_goals first | (cases hm; done) | (cases hm; cases hn; done)
end

end Go.CM

/-
  The canonical machine, part X: what must hold behind code without types holds behind the code.
-/
namespace Go.CM
open Go
set_option linter.unusedVariables false
set_option linter.unusedSimpArgs false

section
variable {P : Program} {G : Nat → CV}

theorem comp_cls {op : Op} {m : Mo} (hm : compOp P op = some m) (he : isEffOp op = false) : m.looks = true ∨ m.isNew = true := by
  cases op <;> simp only [isEffOp, Bool.true_eq_false, reduceCtorEq] at he <;> simp only [compOp] at hm <;> try (cases hm; done)
  case move => cases hm; exact .inl rfl
  case assign => cases hm; exact .inl rfl
  case pick => cases hm; exact .inl rfl
  case alloc => rw [map_some] at hm; obtain ⟨_, _, rfl⟩ := hm; exact .inr rfl
  case box => cases hm; exact .inr rfl
  case build => simp only [bind_some, map_some] at hm; obtain ⟨_, _, _, _, rfl⟩ := hm; exact .inl rfl
  case buildSlice => simp only [bind_some, ite_some] at hm; obtain ⟨_, _, _, _, _, _, _, rfl⟩ := hm; exact .inr rfl
  case load => split at hm <;> cases hm <;> exact .inl rfl
  case nilCheck => cases hm; exact .inl rfl
  case binOp => cases hm; exact .inl rfl
  case unOp => cases hm; exact .inl rfl
  case convert => repeat' split at hm
                  all_goals first | (cases hm; done) | (cases hm; exact .inl rfl)
  case makeInterface => split at hm <;> cases hm; exact .inl rfl
  case makeFunc f a b => cases f <;> simp only at hm <;> cases hm; exact .inl rfl
  case makeSlice => simp only [bind_some, ite_some] at hm; obtain ⟨_, _, _, _, _, _, _, _, _, rfl⟩ := hm; exact .inr rfl
  case slice => rw [map_some] at hm; obtain ⟨_, _, rfl⟩ := hm; exact .inl rfl
  case fieldAddr => rw [bind_some] at hm; obtain ⟨_, _, hm⟩ := hm; split at hm <;> cases hm; exact .inl rfl
  case field => rw [bind_some] at hm; obtain ⟨_, _, hm⟩ := hm; split at hm <;> cases hm <;> exact .inl rfl
  case indexAddr => split at hm <;> cases hm <;> exact .inl rfl
  case index => repeat' split at hm
                all_goals first | (cases hm; done) | (cases hm; exact .inl rfl)
  case extract => cases hm; exact .inl rfl
  case call c =>
    split at hm
    · rename_i b hb
      rw [hb] at he
      cases b <;> simp only [Bool.true_eq_false, reduceCtorEq] at he <;> unfold compBuiltin at hm <;> (repeat' split at hm) <;> first
        | (cases hm; done)
        | (cases hm; exact .inl rfl)
        | (rw [map_some] at hm; obtain ⟨_, _, rfl⟩ := hm; exact .inl rfl)
        | (exfalso; simp only [reduceCtorEq] at *; done)
    · rename_i f hf
      rw [hf] at he; cases he
    · cases hm

theorem comp_reads {op : Op} {m : Mo} (hm : compOp P op = some m) (ht : touches P op = false) : m.reads = false ∧ m.isNew = false := by
  cases op <;> simp only [touches, Bool.true_eq_false, reduceCtorEq] at ht <;> simp only [compOp] at hm <;> try (cases hm; done)
  case move => cases hm; exact ⟨rfl, rfl⟩
  case assign => cases hm; exact ⟨rfl, rfl⟩
  case pick => cases hm; exact ⟨rfl, rfl⟩
  case build => simp only [bind_some, map_some] at hm; obtain ⟨_, _, _, _, rfl⟩ := hm; exact ⟨rfl, rfl⟩
  case store => rw [map_some] at hm; obtain ⟨_, _, rfl⟩ := hm; exact ⟨rfl, rfl⟩
  case nilCheck => cases hm; exact ⟨rfl, rfl⟩
  case binOp => cases hm; exact ⟨rfl, rfl⟩
  case unOp => cases hm; exact ⟨rfl, rfl⟩
  case makeInterface => split at hm <;> cases hm; exact ⟨rfl, rfl⟩
  case makeFunc f a b => cases f <;> simp only at hm <;> cases hm; exact ⟨rfl, rfl⟩
  case slice => rw [map_some] at hm; obtain ⟨_, _, rfl⟩ := hm; exact ⟨rfl, rfl⟩
  case fieldAddr => rw [bind_some] at hm; obtain ⟨_, _, hm⟩ := hm; split at hm <;> cases hm; exact ⟨rfl, rfl⟩
  case field => rw [bind_some] at hm; obtain ⟨_, _, hm⟩ := hm; split at hm <;> cases hm <;> exact ⟨rfl, rfl⟩
  case indexAddr => split at hm <;> cases hm <;> exact ⟨rfl, rfl⟩
  case index => repeat' split at hm
                all_goals first | (cases hm; done) | (cases hm; exact ⟨rfl, rfl⟩)
  case extract => cases hm; exact ⟨rfl, rfl⟩
  case next it b => cases b <;> simp only [reduceCtorEq] at hm <;> cases hm; exact ⟨rfl, rfl⟩
  case panic => cases hm; exact ⟨rfl, rfl⟩
  case lookup => split at hm <;> (try cases hm; done); rw [map_some] at hm; obtain ⟨_, _, rfl⟩ := hm; exact ⟨rfl, rfl⟩
  case mapUpdate => split at hm <;> cases hm; exact ⟨rfl, rfl⟩
  case insert => split at hm <;> cases hm; exact ⟨rfl, rfl⟩
  case makeMap => split at hm <;> cases hm; exact ⟨rfl, rfl⟩
  case range => split at hm <;> cases hm; exact ⟨rfl, rfl⟩
  case call c =>
    split at hm
    · rename_i b hb
      rw [hb] at ht
      unfold compBuiltin at hm
      repeat' split at hm
      all_goals first
        | (cases hm; done)
        | (exfalso; simp_all; done)
        | (cases hm; exact ⟨rfl, rfl⟩)
        | (simp only [bind_some, map_some] at hm; obtain ⟨_, _, rfl⟩ := hm; exact ⟨rfl, rfl⟩)
        | (simp only [bind_some, map_some] at hm; obtain ⟨_, _, _, _, rfl⟩ := hm; exact ⟨rfl, rfl⟩)
        | (simp only [bind_some, ite_some] at hm; obtain ⟨_, _, _, _, _, _, _, rfl⟩ := hm; exact ⟨rfl, rfl⟩)
        | (simp only [bind_some, ite_some] at hm; obtain ⟨_, _, _, _, _, _, _, _, _, rfl⟩ := hm; exact ⟨rfl, rfl⟩)
    · split at hm
      · rw [ite_some] at hm; obtain ⟨_, rfl⟩ := hm; exact ⟨rfl, rfl⟩
      · cases hm
    · cases hm

/-- What a step of a trace is. -/
inductive Kind (P : Program) (G : Nat → CV) (s : Stp) (o : Oper) (σ : Sg) (l : Hl) (v : CV) (l1 : Hl) : TS → Prop
  | pure (m : Mo) (hb : s.b = .mo m) (hm : m.looks = true) (hl : l1 = l) (hs : mstep P (ev G σ) l m = some (v, l)) : Kind P G s o σ l v l1 (.pure s.i v)
  | new (m : Mo) (cs : List CV) (hb : s.b = .mo m) (hm : m.isNew = true) (hl : l1 = l ++ [.cells cs.length cs]) : Kind P G s o σ l v l1 (.new s.i v cs)
  | eff (he : isEffOp o.op = true) (hlen : l.length ≤ l1.length) : Kind P G s o σ l v l1 (.eff s.i v (HL l1))

theorem Kind.idx {s : Stp} {o : Oper} {σ : Sg} {l l1 : Hl} {v : CV} {t : TS} (k : Kind P G s o σ l v l1 t) : t.idx = s.i := by cases k <;> rfl
theorem Kind.val {s : Stp} {o : Oper} {σ : Sg} {l l1 : Hl} {v : CV} {t : TS} (k : Kind P G s o σ l v l1 t) : t.val = v := by cases k <;> rfl
theorem Kind.next {s : Stp} {o : Oper} {σ : Sg} {l l1 : Hl} {v : CV} {t : TS} (k : Kind P G s o σ l v l1 t) : nextH (HL l) t = HL l1 := by
  cases k with
  | pure m hb hm hl hs => rw [hl]; rfl
  | new m cs hb hm hl => rw [hl, ← HL_push]; rfl
  | eff he _ => rfl

theorem isNew_looks {m : Mo} (h : m.isNew = true) : m.looks = false := by cases m <;> first | rfl | cases h

theorem stp_kind {ops : Array Oper} {s : Stp} {o : Oper} (ok : StpOk P ops s o) {σ : Sg} (hw : wantedC ops σ o = some true) {l : Hl} {K : CV → Hl → Prop} (h : stp P G s.b σ l K) :
    ∃ v l1 t, Kind P G s o σ l v l1 t ∧ StepOkC P G ops ⟨σ, HL l⟩ t ∧ K v l1 := by
  obtain ⟨v, l1, h1, h2, h3, h4⟩ := stp_ok ok h
  have effs : isEffOp o.op = true → ∃ v l1 t, Kind P G s o σ l v l1 t ∧ StepOkC P G ops ⟨σ, HL l⟩ t ∧ K v l1 := fun he => ⟨v, l1, _, .eff he h2, ⟨o, ok.here, hw, h1, by simpa using h2⟩, h3⟩
  cases hb : s.b with
  | mo m =>
    have hm := ok.mo m hb
    cases he : isEffOp o.op with
    | true => exact effs he
    | false =>
      have hs := h4 m hb (comp_cls hm he)
      rcases comp_cls hm he with hl | hn
      · have := looks_same hl hs
        subst this
        exact ⟨v, l1, _, .pure m hb hl rfl hs, ⟨o, ok.here, hw⟩, h3⟩
      · obtain ⟨cs, mk, h5, h6, h7⟩ := new_ok_L hm hn hs
        exact ⟨v, l1, _, .new m cs hb hn h7, ⟨o, mk, ok.here, hw, h5, h6⟩, h3⟩
  | callF f args =>
    obtain ⟨c, hop, hc, _⟩ := ok.callF f args hb
    exact effs (by rw [hop]; simp only [isEffOp, hc])
  | callV x args =>
    obtain ⟨c, hop, hc, _⟩ := ok.callV x args hb
    exact effs (by rw [hop]; simp only [isEffOp, hc])

/-- A trace. -/
inductive Tr3 (P : Program) (G : Nat → CV) (ops : Array Oper) : List Stp → Sg → Hl → Seen → List (TS × Sg × Hl) → Sg → Hl → Prop
  | nil {σ l seen} : Tr3 P G ops [] σ l seen [] σ l
  | skip {s o r σ l seen es σ' l'} : StpOk P ops s o → wantedC ops σ o = some false → Tr3 P G ops r (putC σ s.dst undefC) l seen es σ' l' → Tr3 P G ops (s :: r) σ l seen ((.skip s.i, σ, l) :: es) σ' l'
  | step {s o r σ l v l1 t seen es σ' l'} : StpOk P ops s o → Kind P G s o σ l v l1 t → StepOkC P G ops ⟨σ, HL l⟩ t → chks s.chk seen l1 →
      Tr3 P G ops r (putC σ s.dst v) l1 (seenAdd s.keep s.i (stillP P G s.b σ v l l1) seen) es σ' l' → Tr3 P G ops (s :: r) σ l seen ((t, σ, l) :: es) σ' l'

theorem runD_tr {ops : Array Oper} {K : Sg → Hl → Prop} : ∀ {s : List Stp} {σ : Sg} {l : Hl} {seen : Seen}, (∀ x ∈ s, ∃ o, StpOk P ops x o) → runD P G s σ l seen K → ∃ es σ' l', Tr3 P G ops s σ l seen es σ' l' ∧ K σ' l'
  | [], σ, l, seen, _, h => ⟨[], σ, l, .nil, h⟩
  | s :: r, σ, l, seen, hok, h => by
    obtain ⟨o, ok⟩ := hok s (by simp)
    rcases kGo_ok ok h with ⟨hw, h⟩ | ⟨hw, h⟩
    · obtain ⟨v, l1, t, h1, h2, h3, h4⟩ := stp_kind ok hw h
      obtain ⟨es, σ', l', h5, h6⟩ := runD_tr (fun x hx => hok x (by simp [hx])) h4
      exact ⟨_, σ', l', .step ok h1 h2 h3 h5, h6⟩
    · obtain ⟨es, σ', l', h5, h6⟩ := runD_tr (fun x hx => hok x (by simp [hx])) h
      exact ⟨_, σ', l', .skip ok hw h5, h6⟩

theorem runS_D {K : Sg → Hl → Prop} : ∀ {s : List Stp} {σ : Sg} {l : Hl}, (∀ x ∈ s, x.keep = false) → runS P G s σ l K → runD P G s σ l [] K
  | [], σ, l, _, h => h
  | s :: r, σ, l, hk, h => by
    have mono : ∀ (b : Bd) (K K' : CV → Hl → Prop), (∀ v l, K v l → K' v l) → stp P G b σ l K → stp P G b σ l K' := by
      intro b K K' hK h
      cases b with
      | mo m => simp only [stp, W_iff] at h ⊢; obtain ⟨v, h1, h2⟩ := h; exact ⟨v, h1, keep_mono hK h2⟩
      | callF f args => obtain ⟨r, l', h1, h2, h3⟩ := h; exact ⟨r, l', h1, h2, hK _ _ h3⟩
      | callV x args =>
        simp only [stp, callVP] at h ⊢
        split at h
        · obtain ⟨h0, r, l', h1, h2, h3⟩ := h; exact ⟨h0, r, l', h1, h2, hK _ _ h3⟩
        · cases h
    have gmono : ∀ (g : Option (Option Tmp × Bool)) (p q p' q' : Prop), (p → p') → (q → q') → kGo σ g p q → kGo σ g p' q' := by
      intro g p q p' q' hp hq h
      unfold kGo at h ⊢
      split at h
      · exact hp h
      · rename_i d w
        simp only [kG] at h ⊢
        split at h
        · rw [kIf_iff] at h ⊢
          rcases h with ⟨a, b⟩ | ⟨a, b⟩
          · exact .inl ⟨a, hp b⟩
          · exact .inr ⟨a, hq b⟩
        · cases h
        · exact hq h
      · exact hq h
    have hk0 : s.keep = false := hk s (by simp)
    refine gmono _ _ _ _ _ (mono _ _ _ fun v l' h => ?_) (fun h => runS_D (fun x hx => hk x (by simp [hx])) h) h
    refine ⟨trivial, ?_⟩
    rw [hk0]
    exact runS_D (fun x hx => hk x (by simp [hx])) h

theorem Kind.len {s : Stp} {o : Oper} {σ : Sg} {l l1 : Hl} {v : CV} {t : TS} (k : Kind P G s o σ l v l1 t) : l.length ≤ l1.length := by
  cases k with
  | pure m hb hm hl hs => rw [hl]; exact Nat.le_refl _
  | new m cs hb hm hl => rw [hl]; simp
  | eff he hlen => exact hlen
theorem Tr3.len {ops : Array Oper} {s : List Stp} {σ σ' : Sg} {l l' : Hl} {seen : Seen} {es : List (TS × Sg × Hl)} (h : Tr3 P G ops s σ l seen es σ' l') : l.length ≤ l'.length := by
  induction h with
  | nil => exact Nat.le_refl _
  | skip _ _ _ ih => exact ih
  | step _ k _ _ _ ih => exact Nat.le_trans k.len ih

def heapAt (es : List (TS × Sg × Hl)) (l' : Hl) (q : Nat) : Hl := match es[q]? with | some x => x.2.2 | none => l'

theorem Tr3.here {ops : Array Oper} {s : List Stp} {σ σ' : Sg} {l l' : Hl} {seen : Seen} {es : List (TS × Sg × Hl)} (h : Tr3 P G ops s σ l seen es σ' l') : heapAt es l' 0 = l := by
  cases h <;> rfl

theorem Tr3.idx {ops : Array Oper} {s : List Stp} {σ σ' : Sg} {l l' : Hl} {seen : Seen} {es : List (TS × Sg × Hl)} (h : Tr3 P G ops s σ l seen es σ' l') : es.map (fun e => e.1.idx) = s.map (·.i) := by
  induction h with
  | nil => rfl
  | skip _ _ _ ih => simp only [List.map_cons, ih]; rfl
  | step _ k _ _ _ ih => simp only [List.map_cons, ih, k.idx]

theorem Tr3.at {ops : Array Oper} {s : List Stp} {σ σ' : Sg} {l l' : Hl} {seen : Seen} {es : List (TS × Sg × Hl)} (h : Tr3 P G ops s σ l seen es σ' l') :
    (∀ (p : Nat) (e : TS × Sg × Hl), es[p]? = some e → StepOkC P G ops ⟨e.2.1, HL e.2.2⟩ e.1 ∧ stAt ops ⟨σ, HL l⟩ (es.map (·.1)) p = ⟨e.2.1, HL e.2.2⟩) ∧ stAt ops ⟨σ, HL l⟩ (es.map (·.1)) es.length = ⟨σ', HL l'⟩ := by
  induction h with
  | nil => exact ⟨fun p e he => by simp at he, rfl⟩
  | @skip s o r σ l seen es σ' l' ok hw _ ih =>
    have hnx : nextS ops ⟨σ, HL l⟩ (.skip s.i) = ⟨putC σ s.dst undefC, HL l⟩ := by simp only [nextS, dstOf, TS.idx, ok.here, Option.bind_some, TS.val, nextH, ok.dst]
    refine ⟨fun p e he => ?_, ?_⟩
    · cases p with
      | zero => simp only [List.getElem?_cons_zero, Option.some.injEq] at he; subst he; exact ⟨⟨o, ok.here, hw⟩, rfl⟩
      | succ p =>
        simp only [List.getElem?_cons_succ] at he
        obtain ⟨h1, h2⟩ := ih.1 p e he
        refine ⟨h1, ?_⟩
        rw [List.map_cons, stAt_cons, hnx]; exact h2
    · rw [List.map_cons, List.length_cons, stAt_cons, hnx]; exact ih.2
  | @step s o r σ l v l1 t seen es σ' l' ok k hs hc _ ih =>
    have hnx : nextS ops ⟨σ, HL l⟩ t = ⟨putC σ s.dst v, HL l1⟩ := by simp only [nextS, dstOf, k.idx, ok.here, Option.bind_some, k.val, k.next, ok.dst]
    refine ⟨fun p e he => ?_, ?_⟩
    · cases p with
      | zero => simp only [List.getElem?_cons_zero, Option.some.injEq] at he; subst he; exact ⟨hs, rfl⟩
      | succ p =>
        simp only [List.getElem?_cons_succ] at he
        obtain ⟨h1, h2⟩ := ih.1 p e he
        refine ⟨h1, ?_⟩
        rw [List.map_cons, stAt_cons, hnx]; exact h2
    · rw [List.map_cons, List.length_cons, stAt_cons, hnx]; exact ih.2

/-- What is said of a heap holds on, where blocks are added and where it is asked again. -/
theorem Tr3.still {ops : Array Oper} {s : List Stp} {σ σ' : Sg} {l l' : Hl} {seen : Seen} {es : List (TS × Sg × Hl)} (h : Tr3 P G ops s σ l seen es σ' l') (j : Nat) (S : Hl → Prop)
    (hgrow : ∀ l x, S l → S (l ++ x)) (h0 : S l) : ∀ q, q ≤ es.length → (∀ (p : Nat) (e : TS × Sg × Hl), p < q → es[p]? = some e → e.1.isEff = true → (j, S) ∈ seen ∧ ∃ x, s[p]? = some x ∧ j ∈ x.chk) → S (heapAt es l' q) := by
  have chk_get : ∀ {ids : List Nat} {seen : Seen} {l : Hl}, chks ids seen l → (j, S) ∈ seen → j ∈ ids → S l := by
    intro ids seen l hc hm hi
    induction seen with
    | nil => cases hm
    | cons e r ih =>
      obtain ⟨h1, h2⟩ := hc
      rcases List.mem_cons.1 hm with rfl | hm
      · exact h1 (by simpa using hi)
      · exact ih h2 hm
  induction h with
  | nil => intro q hq _; simp only [List.length_nil] at hq; obtain rfl : q = 0 := by omega
           exact h0
  | @skip s o r σ l seen es σ' l' ok hw _ ih =>
    intro q hq hask
    cases q with
    | zero => exact h0
    | succ q => exact ih h0 q (by simpa using hq) (fun p e hp he hE => by
        obtain ⟨h1, x, h2, h3⟩ := hask (p + 1) e (by omega) (by simpa using he) hE
        exact ⟨h1, x, by simpa using h2, h3⟩)
  | @step s o r σ l v l1 t seen es σ' l' ok k hs hc _ ih =>
    intro q hq hask
    cases q with
    | zero => exact h0
    | succ q =>
      have h1 : S l1 := by
        cases k with
        | pure m hb hm hl _ => rw [hl]; exact h0
        | new m cs hb hm hl => rw [hl]; exact hgrow _ _ h0
        | eff he _ =>
          obtain ⟨h1, x, h2, h3⟩ := hask 0 _ (by omega) rfl rfl
          simp only [List.getElem?_cons_zero, Option.some.injEq] at h2
          subst h2
          exact chk_get hc h1 h3
      refine ih h1 q (by simpa using hq) (fun p e hp he hE => ?_)
      obtain ⟨h1, x, h2, h3⟩ := hask (p + 1) e (by omega) (by simpa using he) hE
      refine ⟨?_, x, by simpa using h2, h3⟩
      unfold seenAdd
      cases s.keep with
      | false => exact h1
      | true => exact List.mem_cons_of_mem _ h1

/-- The suffix of a trace behind a step. -/
theorem Tr3.split {ops : Array Oper} {s : List Stp} {σ σ' : Sg} {l l' : Hl} {seen : Seen} {es : List (TS × Sg × Hl)} (h : Tr3 P G ops s σ l seen es σ' l') : ∀ (p : Nat) (e : TS × Sg × Hl), es[p]? = some e → e.1.isSkip = false →
    ∃ x o v l1 seen1, s[p]? = some x ∧ StpOk P ops x o ∧ Kind P G x o e.2.1 e.2.2 v l1 e.1 ∧
      Tr3 P G ops (s.drop (p + 1)) (putC e.2.1 x.dst v) l1 (seenAdd x.keep x.i (stillP P G x.b e.2.1 v e.2.2 l1) seen1) (es.drop (p + 1)) σ' l' := by
  induction h with
  | nil => intro p e he; simp at he
  | @skip s o r σ l seen es σ' l' ok hw _ ih =>
    intro p e he hsk
    cases p with
    | zero => simp only [List.getElem?_cons_zero, Option.some.injEq] at he; subst he; cases hsk
    | succ p =>
      obtain ⟨x, o', v, l1, seen1, h1, h2, h3, h4⟩ := ih p e (by simpa using he) hsk
      exact ⟨x, o', v, l1, seen1, by simpa using h1, h2, h3, by simpa using h4⟩
  | @step s o r σ l v l1 t seen es σ' l' ok k hs hc tr ih =>
    intro p e he hsk
    cases p with
    | zero =>
      simp only [List.getElem?_cons_zero, Option.some.injEq] at he; subst he
      exact ⟨s, o, v, l1, seen, rfl, ok, k, by simpa using tr⟩
    | succ p =>
      obtain ⟨x, o', v, l1, seen1, h1, h2, h3, h4⟩ := ih p e (by simpa using he) hsk
      exact ⟨x, o', v, l1, seen1, by simpa using h1, h2, h3, by simpa using h4⟩
end

end Go.CM

/-
  The canonical machine, part Y: from code without types to a call.
-/
namespace Go.CM
open Go
set_option linter.unusedVariables false
set_option linter.unusedSimpArgs false

section
variable {P : Program} {G : Nat → CV}

theorem plan_fst {ms : List Nat} {ops : Array Oper} : ∀ (ord done effs : List Nat), (∀ i ∈ ord, i < ops.size) → (planGo P ms ops ord done effs).map (·.1) = ord
  | [], _, _, _ => rfl
  | i :: r, done, effs, h => by
    unfold planGo
    have hi : i < ops.size := h i (by simp)
    rw [Array.getElem?_eq_getElem hi]
    simp only
    split <;> simp only [List.map_cons] <;> rw [plan_fst r _ _ fun j hj => h j (by simp [hj])]

theorem plan_cov {ms : List Nat} {ops : Array Oper} : ∀ (ord done effs : List Nat) (p i : Nat) (chk : List Nat), (∀ i ∈ ord, i < ops.size) → (planGo P ms ops ord done effs)[p]? = some (i, chk) →
    (∃ o, ops[i]? = some o ∧ isEffOp o.op = true) → ∀ j, (j ∈ done ∨ ∃ p0, p0 < p ∧ ord[p0]? = some j) → (∃ o, ops[j]? = some o ∧ touches P o.op = true) → (∀ e ∈ effs, preOf ms e j = false) →
    (∀ (p' i' : Nat) (o : Oper), p' ≤ p → ord[p']? = some i' → ops[i']? = some o → isEffOp o.op = true → (p' = p ∨ o.guard = none) → preOf ms i' j = false) → j ∈ chk
  | [], done, effs, p, i, chk, _, hp, _, _, _, _, _, _ => by simp [planGo] at hp
  | x :: r, done, effs, p, i, chk, hord, hp, he, j, hj, ht, hef, hpr => by
    unfold planGo at hp
    have hx : x < ops.size := hord x (by simp)
    rw [Array.getElem?_eq_getElem hx] at hp
    have hox : ops[x]? = some ops[x] := Array.getElem?_eq_getElem hx
    simp only at hp
    have hr : ∀ i ∈ r, i < ops.size := fun j hj => hord j (by simp [hj])
    cases hE : isEffOp ops[x].op with
    | true =>
      rw [hE] at hp
      simp only at hp
      cases p with
      | zero =>
        simp only [List.getElem?_cons_zero, Option.some.injEq, Prod.mk.injEq] at hp
        obtain ⟨rfl, rfl⟩ := hp
        obtain ⟨o, h1, h2⟩ := ht
        rcases hj with hj | ⟨p0, hp0, _⟩
        · refine List.mem_filter.2 ⟨hj, ?_⟩
          simp only [h1, h2, Bool.true_and, List.all_cons, Bool.and_eq_true, List.all_eq_true]
          exact ⟨by simp [hpr 0 x ops[x] (Nat.le_refl _) (by simp) hox hE (.inl rfl)], fun e he => by simp [hef e he]⟩
        · omega
      | succ p =>
        simp only [List.getElem?_cons_succ] at hp
        refine plan_cov r _ _ p i chk hr hp he j ?_ ht ?_ ?_
        · rcases hj with hj | ⟨p0, hp0, hj⟩
          · exact .inl (by simp [hj])
          · cases p0 with
            | zero => simp only [List.getElem?_cons_zero, Option.some.injEq] at hj; exact .inl (by simp [hj])
            | succ p0 => exact .inr ⟨p0, by omega, by simpa using hj⟩
        · intro e he'
          cases hg : ops[x].guard with
          | none =>
            rw [hg] at he'
            rcases List.mem_cons.1 he' with rfl | he'
            · exact hpr 0 e ops[e] (by omega) (by simp) hox hE (.inr hg)
            · exact hef e he'
          | some jw => rw [hg] at he'; exact hef e he'
        · intro p' i' o hp' hi' ho hE' hg
          exact hpr (p' + 1) i' o (by omega) (by simpa using hi') ho hE' (by rcases hg with rfl | hg; exact .inl rfl; exact .inr hg)
    | false =>
      rw [hE] at hp
      simp only at hp
      cases p with
      | zero =>
        simp only [List.getElem?_cons_zero, Option.some.injEq, Prod.mk.injEq] at hp
        obtain ⟨rfl, rfl⟩ := hp
        obtain ⟨o, h1, h2⟩ := he
        rw [hox] at h1; cases h1
        rw [hE] at h2; cases h2
      | succ p =>
        simp only [List.getElem?_cons_succ] at hp
        refine plan_cov r _ _ p i chk hr hp he j ?_ ht hef ?_
        · rcases hj with hj | ⟨p0, hp0, hj⟩
          · exact .inl (by simp [hj])
          · cases p0 with
            | zero => simp only [List.getElem?_cons_zero, Option.some.injEq] at hj; exact .inl (by simp [hj])
            | succ p0 => exact .inr ⟨p0, by omega, by simpa using hj⟩
        · intro p' i' o hp' hi' ho hE' hg
          exact hpr (p' + 1) i' o (by omega) (by simpa using hi') ho hE' (by rcases hg with rfl | hg; exact .inl rfl; exact .inr hg)

theorem eager_spec {ms : List Nat} {ops : Array Oper} : ∀ {ord : List Nat}, eagerB ms ops ord = true → ∀ (p p' i j : Nat) (o : Oper), ord[p]? = some i → ord[p']? = some j → p < p' → ops[i]? = some o → isEffOp o.op = true → preOf ms j i = true
  | [], _, p, p', i, j, o, hp, _, _, _, _ => by simp at hp
  | x :: r, h, p, p', i, j, o, hp, hp', hlt, ho, he => by
    simp only [eagerB, Bool.and_eq_true] at h
    cases p' with
    | zero => omega
    | succ p' =>
      simp only [List.getElem?_cons_succ] at hp'
      cases p with
      | zero =>
        simp only [List.getElem?_cons_zero, Option.some.injEq] at hp
        subst hp
        rw [ho] at h
        simp only [he, Bool.not_true, Bool.false_or, List.all_eq_true] at h
        exact h.1 j (List.mem_of_getElem? hp')
      | succ p => exact eager_spec h.2 p p' i j o (by simpa using hp) hp' (by omega) ho he

theorem mapM_get {α β : Type} {f : α → Option β} : ∀ {l : List α} {r : List β}, l.mapM f = some r → ∀ (p : Nat) (x : β), r[p]? = some x → ∃ a, l[p]? = some a ∧ f a = some x
  | [], r, h, p, x, hx => by simp at h; subst h; simp at hx
  | a :: l, r, h, p, x, hx => by
    rw [List.mapM_cons] at h
    simp only [Option.bind_eq_bind, bind_some, Option.pure_def, Option.some.injEq] at h
    obtain ⟨b, h1, r', h2, rfl⟩ := h
    cases p with
    | zero => simp only [List.getElem?_cons_zero, Option.some.injEq] at hx; subst hx; exact ⟨a, rfl, h1⟩
    | succ p => obtain ⟨a', h3, h4⟩ := mapM_get h2 p x (by simpa using hx); exact ⟨a', by simpa using h3, h4⟩
theorem mapM_len {α β : Type} {f : α → Option β} : ∀ {l : List α} {r : List β}, l.mapM f = some r → r.length = l.length
  | [], r, h => by simp at h; subst h; rfl
  | a :: l, r, h => by
    rw [List.mapM_cons] at h
    simp only [Option.bind_eq_bind, bind_some, Option.pure_def, Option.some.injEq] at h
    obtain ⟨b, h1, r', h2, rfl⟩ := h
    simp [mapM_len h2]

theorem heapAt_drop (es : List (TS × Sg × Hl)) (l' : Hl) (n q : Nat) : heapAt (es.drop n) l' q = heapAt es l' (n + q) := by
  unfold heapAt; rw [List.getElem?_drop]

theorem draw_tr {id N' : Nat} {ops : Array Oper} {steps : List Stp} (hd : ∀ (i : Nat) (o : Oper), ops[i]? = some o → dstOk N' o.dst = true)
    (hord : orderB (masksOf ops) ops (sched (masksOf ops) ops) = true) (heag : eagerB (masksOf ops) ops (sched (masksOf ops) ops) = true)
    (hst : (planGo P (masksOf ops) ops (sched (masksOf ops) ops) [] []).mapM (fun p => stpOf P ops p.1 p.2 (((planGo P (masksOf ops) ops (sched (masksOf ops) ops) [] []).flatMap (·.2)).contains p.1)) = some steps)
    {σ σ' : Sg} {l l' : Hl} {es : List (TS × Sg × Hl)} (tr : Tr3 P G ops steps σ l [] es σ' l') : Ev P G (.code (.region id ops true) N' σ (HL l) .normal σ' (HL l')) := by
  simp only [orderB, Bool.and_eq_true] at hord
  obtain ⟨⟨⟨⟨o1, o2⟩, o3⟩, o4⟩, o5⟩ := hord
  have hrange : ∀ i ∈ sched (masksOf ops) ops, i < ops.size := fun i hi => by
    rw [List.all_eq_true] at o4
    simpa [Nat.blt_eq] using o4 i hi
  have hplan : (planGo P (masksOf ops) ops (sched (masksOf ops) ops) [] []).map (·.1) = sched (masksOf ops) ops := plan_fst _ _ _ hrange
  have hstep : ∀ (p : Nat) (x : Stp), steps[p]? = some x → ∃ o, StpOk P ops x o ∧ (planGo P (masksOf ops) ops (sched (masksOf ops) ops) [] [])[p]? = some (x.i, x.chk) ∧
      x.keep = ((planGo P (masksOf ops) ops (sched (masksOf ops) ops) [] []).flatMap (·.2)).contains x.i := fun p x hx => by
    obtain ⟨a, h1, h2⟩ := mapM_get hst p x hx
    obtain ⟨o, h3, h4, h5, h6⟩ := stpOf_ok h2
    exact ⟨o, h3, by rw [h1, h4, h5], by rw [h6, h4]⟩
  have hstepi : ∀ (p : Nat) (x : Stp), steps[p]? = some x → (sched (masksOf ops) ops)[p]? = some x.i := fun p x hx => by
    obtain ⟨o, _, h1, _⟩ := hstep p x hx
    rw [← hplan, List.getElem?_map, h1]; rfl
  have hidx : ∀ (p : Nat) (e : TS × Sg × Hl), es[p]? = some e → ∃ x, steps[p]? = some x ∧ x.i = e.1.idx := fun p e he => by
    have := congrArg (·[p]?) tr.idx
    simp only [List.getElem?_map, he, Option.map_some] at this
    cases hx : steps[p]? with
    | none => rw [hx] at this; cases this
    | some x => rw [hx] at this; simp only [Option.map_some, Option.some.injEq] at this; exact ⟨x, rfl, this.symm⟩
  have hsch : ∀ (p : Nat) (e : TS × Sg × Hl), es[p]? = some e → (sched (masksOf ops) ops)[p]? = some e.1.idx := fun p e he => by
    obtain ⟨x, h1, h2⟩ := hidx p e he
    rw [hstepi p x h1, h2]
  have hget : ∀ (p : Nat) (t : TS), (es.map (·.1))[p]? = some t → ∃ e, es[p]? = some e ∧ e.1 = t := fun p t ht => by simpa using ht
  have heff : ∀ (p : Nat) (e : TS × Sg × Hl), es[p]? = some e → e.1.isEff = true → ∃ o, ops[e.1.idx]? = some o ∧ isEffOp o.op = true ∧ (wantedC ops e.2.1 o = some true) := fun p e he hE => by
    have hsk : e.1.isSkip = false := by cases h : e.1 <;> rw [h] at hE <;> first | rfl | cases hE
    obtain ⟨x, o, v, l1, seen1, h1, h2, h3, h4⟩ := tr.split p e he hsk
    have hso := (tr.at.1 p e he).1
    have hix := h3.idx
    have hh := h2.here
    rw [← hix] at hh
    refine ⟨o, hh, ?_, ?_⟩
    · revert hE
      generalize e.1 = t at h3
      intro hE
      cases h3 with
      | pure => cases hE
      | new => cases hE
      | eff he _ => exact he
    · revert hso hE hh
      generalize e.1 = t
      intro hE hso hh
      cases t <;> first | (cases hE; done) | skip
      obtain ⟨o', h5, h6, _⟩ := hso
      simp only [TS.idx] at hh
      rw [hh] at h5; cases h5
      exact h6
  have ot : OrdText ops (preOf (masksOf ops)) (es.map (·.1)) := by
    refine ⟨drawTextB_spec o1, fun i hi => ?_, fun p p' t t' hp hp' he => ?_, fun p t hp => ?_, fun p p' t t' hp hp' hlt => ?_, fun p p' t t' hp hp' hlt hE => ?_⟩
    · rw [List.all_eq_true] at o5
      have := o5 i (by simpa using hi)
      have hm : i ∈ sched (masksOf ops) ops := by simpa using this
      have hes : (es.map (·.1)).map TS.idx = sched (masksOf ops) ops := by
        rw [List.map_map]
        show es.map (fun e => e.1.idx) = _
        rw [tr.idx, ← hplan]
        apply List.ext_getElem?
        intro p
        rw [List.getElem?_map, List.getElem?_map]
        cases hx : steps[p]? with
        | none =>
          have : (planGo P (masksOf ops) ops (sched (masksOf ops) ops) [] [])[p]? = none := by
            rw [List.getElem?_eq_none_iff] at hx ⊢
            rw [← mapM_len hst]; exact hx
          rw [this]; rfl
        | some x => obtain ⟨o, _, h1, _⟩ := hstep p x hx; rw [h1]; rfl
      rw [← hes] at hm
      obtain ⟨t, h1, h2⟩ := List.mem_map.1 hm
      obtain ⟨p, hp⟩ := List.getElem?_of_mem h1
      exact ⟨p, t, hp, h2⟩
    · obtain ⟨e, g1, g2⟩ := hget p t hp
      obtain ⟨e', g1', g2'⟩ := hget p' t' hp'
      have a1 := hsch p e g1
      have a2 := hsch p' e' g1'
      rw [g2] at a1; rw [g2'] at a2
      rcases Nat.lt_trichotomy p p' with h | h | h
      · exact absurd he (ordB_spec o2 p p' _ _ a1 a2 h).1
      · exact h
      · exact absurd he.symm (ordB_spec o2 p' p _ _ a2 a1 h).1
    · obtain ⟨e, g1, g2⟩ := hget p t hp
      have a1 := hsch p e g1
      rw [g2] at a1
      exact hrange _ (List.mem_of_getElem? a1)
    · obtain ⟨e, g1, g2⟩ := hget p t hp
      obtain ⟨e', g1', g2'⟩ := hget p' t' hp'
      have a1 := hsch p e g1
      have a2 := hsch p' e' g1'
      rw [g2] at a1; rw [g2'] at a2
      exact (ordB_spec o2 p p' _ _ a1 a2 hlt).2
    · obtain ⟨e, g1, g2⟩ := hget p t hp
      obtain ⟨e', g1', g2'⟩ := hget p' t' hp'
      obtain ⟨o, b1, b2, _⟩ := heff p e g1 (by rw [g2]; exact hE)
      have a1 := hsch p e g1
      have a2 := hsch p' e' g1'
      rw [g2] at a1 b1; rw [g2'] at a2
      exact eager_spec heag p p' _ _ o a1 a2 hlt b1 b2
  have hheap : ∀ q, q ≤ es.length → (stAt ops ⟨σ, HL l⟩ (es.map (·.1)) q).h = HL (heapAt es l' q) := fun q hq => by
    unfold heapAt
    cases he : es[q]? with
    | none =>
      have : q = es.length := by rw [List.getElem?_eq_none_iff] at he; omega
      rw [this, tr.at.2]
    | some e => rw [(tr.at.1 q e he).2]
  have tk : TrOk P G ops (preOf (masksOf ops)) ⟨σ, HL l⟩ (es.map (·.1)) := by
    refine ⟨fun p t hp => ?_, fun q hq p t hpq hp hno => ?_⟩
    · obtain ⟨e, g1, g2⟩ := hget p t hp
      obtain ⟨c1, c2⟩ := tr.at.1 p e g1
      rw [c2, ← g2]; exact c1
    · obtain ⟨e, g1, g2⟩ := hget p t hp
      obtain ⟨c1, c2⟩ := tr.at.1 p e g1
      have hql : q ≤ es.length := by
        rcases hq with rfl | ⟨tq, hq, _⟩
        · simp
        · obtain ⟨eq, g3, _⟩ := hget q tq hq
          exact Nat.le_of_lt (List.getElem?_eq_some_iff.1 g3).1
      rw [hheap q hql, c2]
      cases hsk : e.1.isSkip with
      | true => rw [← g2]; cases h : e.1 <;> rw [h] at hsk <;> first | trivial | cases hsk
      | false =>
        obtain ⟨x, o, v, l1, seen1, h1, h2, h3, h4⟩ := tr.split p e g1 hsk
        obtain ⟨o', h2', hpl, hkeep⟩ := hstep p x h1
        have hoo : o' = o := by have a := h2'.here; have b := h2.here; rw [a] at b; exact Option.some.inj b
        subst hoo
        have ask : touches P o'.op = true → ∀ (p' : Nat) (e' : TS × Sg × Hl), p' < q - (p + 1) → (es.drop (p + 1))[p']? = some e' → e'.1.isEff = true →
            (x.i, stillP P G x.b e.2.1 v e.2.2 l1) ∈ seenAdd x.keep x.i (stillP P G x.b e.2.1 v e.2.2 l1) seen1 ∧ ∃ y, (steps.drop (p + 1))[p']? = some y ∧ x.i ∈ y.chk := by
          intro ht p' e' hp' he' hE'
          rw [List.getElem?_drop] at he'
          obtain ⟨y, k1, k2⟩ := hidx _ e' he'
          obtain ⟨oy, k3, k4, _⟩ := hstep _ y k1
          obtain ⟨oe, k5, k6, k7⟩ := heff _ e' he' hE'
          have hin : x.i ∈ y.chk := by
            refine plan_cov _ _ _ _ _ _ hrange k4 ⟨oe, by rw [k2]; exact k5, k6⟩ x.i (.inr ⟨p, by omega, hstepi p x h1⟩) ⟨o', h2.here, ht⟩ (fun e he => by cases he) ?_
            intro p'' i'' o'' hp'' hi'' ho'' hE'' hg
            -- what is at p'' was carried out
            have hlt : p'' < es.length := by
              have := (List.getElem?_eq_some_iff.1 he').1
              omega
            have hes : es[p'']? = some es[p''] := List.getElem?_eq_getElem hlt
            have hid := hsch _ _ hes
            rw [hi''] at hid
            have hid' : i'' = es[p''].1.idx := Option.some.inj hid
            have hE3 : es[p''].1.isEff = true := by
              cases hs3 : es[p''].1.isSkip with
              | true =>
                exfalso
                rcases hg with rfl | hg
                · rw [hes] at he'
                  cases he'
                  cases h : es[p + 1 + p'].1 <;> rw [h] at hE' hs3 <;> first | (cases hs3; done) | (cases hE'; done)
                · have hso := (tr.at.1 _ _ hes).1
                  cases h : es[p''].1 <;> rw [h] at hs3 hso hid' <;> first | (cases hs3; done) | skip
                  obtain ⟨o3, m1, m2⟩ := hso
                  simp only [TS.idx] at hid'
                  rw [← hid', ho''] at m1; cases m1
                  simp [wantedC, hg] at m2
              | false =>
                obtain ⟨x3, o3, v3, l3, seen3, m1, m2, m3, _⟩ := tr.split _ _ hes hs3
                have hi3 := m3.idx
                have hh3 := m2.here
                rw [← hi3, ← hid', ho''] at hh3; cases hh3
                revert m3
                generalize es[p''].1 = t3
                intro m3
                cases m3 with
                | pure m hb hm _ _ =>
                  exfalso
                  have hc := m2.mo m hb
                  have : isEffOp o''.op = false := by
                    revert hc hm
                    cases o''.op <;> simp only [compOp] <;> intro hm hc <;> first | rfl | (exfalso; revert hc hm; done) | skip
                    case store => rw [map_some] at hc; obtain ⟨_, _, rfl⟩ := hc; cases hm
                    case call c =>
                      split at hc
                      · rename_i b hb
                        unfold isEffOp
                        simp only [hb]
                        unfold compBuiltin at hc
                        repeat' split at hc
                        all_goals first
                          | rfl
                          | (cases hc; done)
                          | (cases hc; cases hm; done)
                          | (simp only [bind_some, map_some] at hc; obtain ⟨_, _, rfl⟩ := hc; cases hm; done)
                          | (simp only [bind_some, map_some] at hc; obtain ⟨_, _, _, _, rfl⟩ := hc; cases hm; done)
                          | (simp only [bind_some, ite_some] at hc; obtain ⟨_, _, _, _, _, _, _, rfl⟩ := hc; cases hm; done)
                          | (simp only [bind_some, ite_some] at hc; obtain ⟨_, _, _, _, _, _, _, _, _, rfl⟩ := hc; cases hm; done)
                      · split at hc
                        · rw [ite_some] at hc; obtain ⟨_, rfl⟩ := hc; cases hm
                        · cases hc
                      · cases hc
                    case next it b => (cases b <;> simp only [reduceCtorEq] at hc <;> cases hc <;> cases hm)
                    case lookup => split at hc <;> (try cases hc; done); rw [map_some] at hc; obtain ⟨_, _, rfl⟩ := hc; cases hm
                    case mapUpdate => split at hc <;> cases hc; cases hm
                    case insert => split at hc <;> cases hc; cases hm
                    case panic => (cases hc; cases hm)
                    case makeMap => split at hc <;> cases hc; cases hm
                    case range => split at hc <;> cases hc; cases hm
                    all_goals (cases hc)
                  rw [this] at hE''; cases hE''
                | new m cs hb hm _ =>
                  exfalso
                  have hc := m2.mo m hb
                  have : isEffOp o''.op = false := by
                    revert hc hm
                    cases o''.op <;> simp only [compOp] <;> intro hm hc <;> first | rfl | (exfalso; revert hc hm; done) | skip
                    case store => rw [map_some] at hc; obtain ⟨_, _, rfl⟩ := hc; cases hm
                    case panic => (cases hc; cases hm)
                    case call c =>
                      split at hc
                      · rename_i b hb
                        unfold isEffOp
                        simp only [hb]
                        unfold compBuiltin at hc
                        repeat' split at hc
                        all_goals first
                          | rfl
                          | (cases hc; done)
                          | (cases hc; cases hm; done)
                          | (simp only [bind_some, map_some] at hc; obtain ⟨_, _, rfl⟩ := hc; cases hm; done)
                          | (simp only [bind_some, map_some] at hc; obtain ⟨_, _, _, _, rfl⟩ := hc; cases hm; done)
                          | (simp only [bind_some, ite_some] at hc; obtain ⟨_, _, _, _, _, _, _, rfl⟩ := hc; cases hm; done)
                          | (simp only [bind_some, ite_some] at hc; obtain ⟨_, _, _, _, _, _, _, _, _, rfl⟩ := hc; cases hm; done)
                      · split at hc
                        · rw [ite_some] at hc; obtain ⟨_, rfl⟩ := hc; cases hm
                        · cases hc
                      · cases hc
                    case next it b => (cases b <;> simp only [reduceCtorEq] at hc <;> cases hc <;> cases hm)
                    case lookup => split at hc <;> (try cases hc; done); rw [map_some] at hc; obtain ⟨_, _, rfl⟩ := hc; cases hm
                    case mapUpdate => split at hc <;> cases hc; cases hm
                    case insert => split at hc <;> cases hc; cases hm
                    case makeMap => split at hc <;> cases hc; cases hm
                    case range => split at hc <;> cases hc; cases hm
                    all_goals (cases hc)
                  rw [this] at hE''; cases hE''
                | eff _ _ => rfl
            have := hno p'' es[p''].1 (by omega) (by simp [hes]) hE3
            rw [hid', h2.here |> fun _ => (h3.idx).symm, g2]
            exact this
          refine ⟨?_, y, by rw [List.getElem?_drop]; exact k1, hin⟩
          have : x.keep = true := by
            rw [hkeep]
            simp only [List.contains_iff_mem, List.mem_flatMap]
            exact ⟨(y.i, y.chk), List.mem_of_getElem? k4, hin⟩
          rw [this]
          exact List.mem_cons_self
        have goStill : touches P o'.op = true → (∀ l x0, stillP P G x.b e.2.1 v e.2.2 l1 l → stillP P G x.b e.2.1 v e.2.2 l1 (l ++ x0)) → stillP P G x.b e.2.1 v e.2.2 l1 l1 → stillP P G x.b e.2.1 v e.2.2 l1 (heapAt es l' q) := by
          intro ht hgrow h0
          have := h4.still x.i _ hgrow h0 (q - (p + 1)) (by simp only [List.length_drop]; omega) (ask ht)
          rwa [heapAt_drop, show p + 1 + (q - (p + 1)) = q by omega] at this
        rw [← g2]
        revert h3 goStill ask g2
        generalize e.1 = t1
        intro g2 h3 ask goStill
        cases h3 with
        | eff => trivial
        | pure m hb hm hl hs =>
          intro o2 ho2
          rw [h2.here] at ho2; cases ho2
          have hc := h2.mo m hb
          cases hr : m.reads with
          | false => exact mstep_ok hc (looks_indep hm hr hs)
          | true =>
            have ht : touches P o'.op = true := by
              cases h : touches P o'.op with
              | true => rfl
              | false => rw [(comp_reads hc h).1] at hr; cases hr
            have hnn : m.isNew = false := by cases m <;> first | rfl | cases hr
            have hst : ∀ l2, stillP P G x.b e.2.1 v e.2.2 l1 l2 ↔ mstep P (ev G e.2.1) l2 m = some (v, l2) := fun l2 => by rw [hb]; simp only [stillP, hnn]
            have := goStill ht (fun l2 x0 h => by rw [hst] at h ⊢; exact looks_grow hm h) (by rw [hst, hl]; exact hs)
            rw [hst] at this
            exact mstep_ok hc this
        | new m cs hb hm hl =>
          have hc := h2.mo m hb
          have ht : touches P o'.op = true := by
            cases h : touches P o'.op with
            | true => rfl
            | false => rw [(comp_reads hc h).2] at hm; cases hm
          have hst : ∀ l2 : Hl, stillP P G x.b e.2.1 v e.2.2 l1 l2 ↔ l2[e.2.2.length]? = some (.cells cs.length cs) := fun l2 => by
            rw [hb, hl]; simp only [stillP, hm]; rw [List.getElem?_append_right (Nat.le_refl _)]; simp
          have := goStill ht (fun l2 x0 h => by rw [hst] at h ⊢; rw [List.getElem?_append_left (get_lt h)]; exact h) (by rw [hst, hl, List.getElem?_append_right (Nat.le_refl _)]; simp)
          rw [hst] at this
          show (HL (heapAt es l' q)).f (HL e.2.2).n = _
          rw [HL_f, HL_n, this]
  have := Ev.drawSeq (id := id) ot hd tk
  rw [List.length_map, tr.at.2] at this
  exact this
end

end Go.CM

/-
  The canonical machine, part Z: calls by what must hold behind them; loops; what a call says by value.
-/
namespace Go.CM
open Go
set_option linter.unusedVariables false
set_option linter.unusedSimpArgs false

section
variable {P : Program} {G : Nat → CV}

theorem allOk_of {ops : Array Oper} {f : Nat → Option Stp} : ∀ {is : List Nat} {s : List Stp} {os : List Oper}, (∀ i x, f i = some x → ∃ o, StpOk P ops x o ∧ x.i = i) → is.mapM f = some s → is.map (fun i => ops[i]?) = os.map some → AllOk P ops s os
  | [], s, os, hf, h, ho => by
    simp at h; subst h
    cases os with
    | nil => exact .nil
    | cons => simp at ho
  | i :: is, s, os, hf, h, ho => by
    rw [List.mapM_cons] at h
    simp only [Option.bind_eq_bind, bind_some, Option.pure_def, Option.some.injEq] at h
    obtain ⟨x, h1, s', h2, rfl⟩ := h
    cases os with
    | nil => simp at ho
    | cons o os =>
      simp only [List.map_cons, List.cons.injEq] at ho
      obtain ⟨o', ok, hi⟩ := hf i x h1
      have : o' = o := by have := ok.here; rw [hi, ho.1] at this; exact (Option.some.inj this).symm
      subst this
      exact .cons ok (allOk_of hf h2 ho.2)

theorem compReg_ok {N N' id : Nat} (hN : N ≤ N') {ops : Array Oper} {draw : Bool} {c : Cd} (hc : compReg P N ops draw = some c) {σ : Sg} {l : Hl} {K : KC} (h : run P G c σ l K) :
    ∃ e σ' l', Ev P G (.code (.region id ops draw) N' σ (HL l) e σ' (HL l')) ∧ l.length ≤ l'.length ∧ K e σ' l' := by
  unfold compReg at hc
  split at hc
  · cases hc
  · rename_i hdst
    have hd : ∀ (i : Nat) (o : Oper), ops[i]? = some o → dstOk N' o.dst = true := fun i o ho => by
      rw [List.all_eq_true] at hdst
      have := hdst o (by simpa using Array.mem_of_getElem? ho)
      unfold dstOk at this ⊢
      split at this
      · rename_i d _; exact decide_eq_true (Nat.lt_of_lt_of_le (of_decide_eq_true this) hN)
      · rfl
    split at hc
    · rw [map_some] at hc
      obtain ⟨s, h1, rfl⟩ := hc
      have hall : AllOk P ops s ops.toList := by
        refine allOk_of (fun i x hx => ?_) h1 ?_
        · obtain ⟨o, h2, h3, _⟩ := stpOf_ok hx; exact ⟨o, h2, h3⟩
        · apply List.ext_getElem?
          intro p
          rw [List.getElem?_map, List.getElem?_map]
          by_cases hp : p < ops.size
          · rw [List.getElem?_range hp]; simp [hp]
          · rw [List.getElem?_eq_none (by simp; omega), List.getElem?_eq_none (by simp; omega)]; rfl
      obtain ⟨σ', l', h2, h3, h4⟩ := runS_ok hd hall h
      exact ⟨.normal, σ', l', .region h2, h3, h4⟩
    · simp only at hc
      split at hc
      · cases hc
      · rename_i hchk
        simp only [Bool.and_eq_true] at hchk
        split at hc
        · cases hc
        · rename_i s hs
          have hok : ∀ x ∈ s, ∃ o, StpOk P ops x o := fun x hx => by
            obtain ⟨p, hp⟩ := List.getElem?_of_mem hx
            obtain ⟨a, _, h2⟩ := mapM_get hs p x hp
            obtain ⟨o, h3, _⟩ := stpOf_ok h2
            exact ⟨o, h3⟩
          have fin : runD P G s σ l [] (K .normal) → ∃ e σ' l', Ev P G (.code (.region id ops true) N' σ (HL l) e σ' (HL l')) ∧ l.length ≤ l'.length ∧ K e σ' l' := fun h => by
            obtain ⟨es, σ', l', h1, h2⟩ := runD_tr hok h
            exact ⟨.normal, σ', l', draw_tr hd hchk.1 hchk.2 hs h1, h1.len, h2⟩
          split at hc
          · rename_i hask
            cases hc
            refine fin (runS_D (fun x hx => ?_) h)
            obtain ⟨p, hp⟩ := List.getElem?_of_mem hx
            obtain ⟨a, _, h2⟩ := mapM_get hs p x hp
            obtain ⟨o, _, _, _, h3⟩ := stpOf_ok h2
            rw [h3, hask]; rfl
          · cases hc
            exact fin h

theorem run_ok {N N' : Nat} (hN : N ≤ N') : ∀ (code : Code) (c : Cd), comp P N code = some c → ∀ (σ : Sg) (l : Hl) (K : KC), run P G c σ l K →
    ∃ e σ' l', Ev P G (.code code N' σ (HL l) e σ' (HL l')) ∧ l.length ≤ l'.length ∧ K e σ' l' := by
  intro code
  induction code with
  | skip => intro c hc σ l K h; cases hc; exact ⟨_, _, _, .skip _ _ _, Nat.le_refl _, h⟩
  | label n => intro c hc σ l K h; cases hc; exact ⟨_, _, _, .label _ _ _ _, Nat.le_refl _, h⟩
  | ret => intro c hc σ l K h; cases hc; exact ⟨_, _, _, .ret _ _ _, Nat.le_refl _, h⟩
  | exit id => intro c hc σ l K h; cases hc; exact ⟨_, _, _, .exit _ _ _ _, Nat.le_refl _, h⟩
  | region id ops draw => intro c hc σ l K h; exact compReg_ok hN hc h
  | seq a b iha ihb =>
    intro c hc σ l K h
    have mk : ∀ (ca cb : Cd), comp P N a = some ca → comp P N b = some cb → run P G ca σ l (kSeq (fun σ l => run P G cb σ l K) K) → ∃ e σ' l', Ev P G (.code (.seq a b) N' σ (HL l) e σ' (HL l')) ∧ l.length ≤ l'.length ∧ K e σ' l' := by
      intro ca cb ha hb h
      obtain ⟨e, σ1, l1, h1, h2, h3⟩ := iha ca ha σ l _ h
      cases e with
      | normal =>
        obtain ⟨e, σ2, l2, h4, h5, h6⟩ := ihb cb hb σ1 l1 K h3
        exact ⟨e, σ2, l2, .seqN h1 h4, Nat.le_trans h2 h5, h6⟩
      | exit id => exact ⟨_, σ1, l1, .seqX h1 (by intro h; cases h), h2, h3⟩
      | ret => exact ⟨_, σ1, l1, .seqX h1 (by intro h; cases h), h2, h3⟩
    simp only [comp] at hc
    split at hc
    · rename_i b' ha hb
      cases hc
      exact mk _ _ ha hb h
    · rename_i a' _ ha hb
      cases hc
      refine mk _ _ ha hb ?_
      have : kSeq (fun σ l => run P G .skip σ l K) K = K := by
        funext e σ l
        cases e <;> rfl
      rw [this]; exact h
    · rename_i a' b' _ _ ha hb
      cases hc
      exact mk _ _ ha hb h
    · cases hc
  | cond c x y ihx ihy =>
    intro cd hc σ l K h
    simp only [comp] at hc
    split at hc
    · rename_i x' y' hx hy
      cases hc
      simp only [run, kCond] at h
      split at h
      · rename_i b hb
        rw [kIf_iff] at h
        rcases h with ⟨rfl, h⟩ | ⟨rfl, h⟩
        · obtain ⟨e, σ1, l1, h1, h2, h3⟩ := ihx x' hx σ l K h
          exact ⟨e, σ1, l1, .cond hb h1, h2, h3⟩
        · obtain ⟨e, σ1, l1, h1, h2, h3⟩ := ihy y' hy σ l K h
          exact ⟨e, σ1, l1, .cond hb h1, h2, h3⟩
      · cases h
    · cases hc
  | block id c ih =>
    intro cd hc σ l K h
    simp only [comp, map_some] at hc
    obtain ⟨c', h1, rfl⟩ := hc
    obtain ⟨e, σ1, l1, h2, h3, h4⟩ := ih c' h1 σ l _ h
    cases e with
    | normal => exact ⟨_, σ1, l1, .blockN h2 (by intro h; cases h), h3, h4⟩
    | ret => exact ⟨_, σ1, l1, .blockN h2 (by intro h; cases h), h3, h4⟩
    | exit id' =>
      simp only [kBlock] at h4
      split at h4
      · rename_i hb
        obtain rfl := nbeq_eq hb
        exact ⟨_, σ1, l1, .blockX h2, h3, h4⟩
      · rename_i hb
        exact ⟨_, σ1, l1, .blockN h2 (by intro h; cases h; rw [Nat.beq_refl] at hb; cases hb), h3, h4⟩
  | loop c ih =>
    intro cd hc σ l K h
    simp only [comp, map_some] at hc
    obtain ⟨c', h1, rfl⟩ := hc
    obtain ⟨n, h⟩ := h
    induction n generalizing σ l with
    | zero => cases h
    | succ n ihn =>
      obtain ⟨e, σ1, l1, h2, h3, h4⟩ := ih c' h1 σ l _ h
      cases e with
      | normal =>
        obtain ⟨e, σ2, l2, h5, h6, h7⟩ := ihn σ1 l1 h4
        exact ⟨e, σ2, l2, .loopN h2 h5, Nat.le_trans h3 h6, h7⟩
      | exit id => exact ⟨_, σ1, l1, .loopX h2 (by intro h; cases h), h3, h4⟩
      | ret => exact ⟨_, σ1, l1, .loopX h2 (by intro h; cases h), h3, h4⟩
  | scope c ih =>
    intro cd hc σ l K h
    obtain ⟨e, σ1, l1, h2, h3, h4⟩ := ih cd hc σ l K h
    exact ⟨e, σ1, l1, .scope h2, h3, h4⟩
  | _ => intro c hc; cases hc

/-! ### Calls -/
def compR (P : Program) : ResultVar → Option Mo
  | .tmp t => some (.mv (.tmp t))
  | .cell a t => compOp P (.load t (.tmp a))
def compRs (P : Program) (f : FuncId) : Option (List Mo) := match P.funcs[f]? with
  | some fn => fn.results.toList.mapM (compR P)
  | none => none
def kRes (P : Program) (G : Nat → CV) (K : CV → Hl → Prop) (σ : Sg) (l : Hl) : List Mo → List CV → Prop
  | [], acc => K (tuple1 acc) l
  | m :: r, acc => W (mstep P (ev G σ) l m) (c := ⟨fun x => kRes P G K σ l r (acc ++ [x.1])⟩)
def kEnd (P : Program) (G : Nat → CV) (ms : List Mo) (K : CV → Hl → Prop) : KC := fun e σ l => match e with
  | .exit _ => False
  | .normal => kRes P G K σ l ms []
  | .ret => kRes P G K σ l ms []
def argsS (args : List CV) : Sg := fun t => args.getD t undefC

theorem kRes_ok {K : CV → Hl → Prop} {σ : Sg} {l : Hl} : ∀ {rs : List ResultVar} {ms : List Mo} {acc : List CV}, rs.mapM (compR P) = some ms → kRes P G K σ l ms acc → ∃ vs, resList P (HL l) σ rs = some vs ∧ K (tuple1 (acc ++ vs)) l
  | [], ms, acc, hm, h => by simp at hm; subst hm; exact ⟨[], rfl, by simpa [kRes] using h⟩
  | r :: rs, ms, acc, hm, h => by
    rw [List.mapM_cons] at hm
    simp only [Option.bind_eq_bind, bind_some, Option.pure_def, Option.some.injEq] at hm
    obtain ⟨m, h1, ms', h2, rfl⟩ := hm
    simp only [kRes, W_iff] at h
    obtain ⟨⟨v, l1⟩, h3, h4⟩ := h
    obtain ⟨vs, h5, h6⟩ := kRes_ok h2 h4
    refine ⟨v :: vs, ?_, by simpa using h6⟩
    have : resOne P (HL l) σ r = some v := by
      cases r with
      | tmp t => cases h1; simp only [mstep, Option.some.injEq, Prod.mk.injEq] at h3; rw [← h3.1]; rfl
      | cell a t =>
        have h1' : compOp P (.load t (.tmp a)) = some m := h1
        have := mstep_ok h1' h3
        simp only [stepC] at this
        unfold resOne
        show loadC P (HL l) t (ev G σ (.tmp a)) = some v
        cases hl : loadC P (HL l) t (ev G σ (.tmp a)) with
        | none => rw [hl] at this; cases this
        | some x => rw [hl] at this; simp only [Option.map_some, Option.some.injEq, Res.val.injEq] at this; rw [this.1]
    simp only [resList, this, h5]

theorem call_intro {f : FuncId} {c : Cd} {ms : List Mo} (hc : compF P f = some c) (hr : compRs P f = some ms) {args : List CV} {l : Hl} {K : Kv}
    (h : run P G c (argsS args) l (kEnd P G ms K.k)) : CallP P G f args l (c := K) := by
  unfold compF at hc
  unfold compRs at hr
  split at hc
  · rename_i fn hfn
    split at hc
    · rename_i body hb
      rw [hfn] at hr
      obtain ⟨e, σ', l', h1, h2, h3⟩ := run_ok (N' := args.length + (fn.ntmps - args.length)) (by omega) body c hc _ _ _ h
      have fin : (e = .normal ∨ e = .ret) → kRes P G K.k σ' l' ms [] → CallP P G f args l (c := K) := fun he h3 => by
        obtain ⟨vs, h4, h5⟩ := kRes_ok hr h3
        exact ⟨tuple1 vs, l', .inline hfn hb h1 he (by simp only [resC, h4]; rfl), h2, by simpa using h5⟩
      cases e with
      | normal => exact fin (.inl rfl) h3
      | ret => exact fin (.inr rfl) h3
      | exit id => cases h3
    · cases hc
  · cases hc

/-! ### More may be said behind -/
theorem stp_mono {b : Bd} {σ : Sg} {l : Hl} {K K' : CV → Hl → Prop} (hK : ∀ v l, K v l → K' v l) (h : stp P G b σ l K) : stp P G b σ l K' := by
  cases b with
  | mo m => simp only [stp, W_iff] at h ⊢; obtain ⟨v, h1, h2⟩ := h; exact ⟨v, h1, keep_mono hK h2⟩
  | callF f args => obtain ⟨r, l', h1, h2, h3⟩ := h; exact ⟨r, l', h1, h2, hK _ _ h3⟩
  | callV x args =>
    simp only [stp, callVP] at h ⊢
    split at h
    · obtain ⟨h0, r, l', h1, h2, h3⟩ := h; exact ⟨h0, r, l', h1, h2, hK _ _ h3⟩
    · cases h
theorem kGo_mono {σ : Sg} {g : Option (Option Tmp × Bool)} {p q p' q' : Prop} (hp : p → p') (hq : q → q') (h : kGo σ g p q) : kGo σ g p' q' := by
  unfold kGo at h ⊢
  split at h
  · exact hp h
  · simp only [kG] at h ⊢
    split at h
    · rw [kIf_iff] at h ⊢
      rcases h with ⟨a, b⟩ | ⟨a, b⟩
      · exact .inl ⟨a, hp b⟩
      · exact .inr ⟨a, hq b⟩
    · cases h
    · exact hq h
  · exact hq h
theorem runS_mono {K K' : Sg → Hl → Prop} (hK : ∀ σ l, K σ l → K' σ l) : ∀ {s : List Stp} {σ : Sg} {l : Hl}, runS P G s σ l K → runS P G s σ l K'
  | [], _, _, h => hK _ _ h
  | s :: r, _, _, h => kGo_mono (stp_mono fun _ _ h => runS_mono hK h) (fun h => runS_mono hK h) h
theorem runD_mono {K K' : Sg → Hl → Prop} (hK : ∀ σ l, K σ l → K' σ l) : ∀ {s : List Stp} {σ : Sg} {l : Hl} {seen : Seen}, runD P G s σ l seen K → runD P G s σ l seen K'
  | [], _, _, _, h => hK _ _ h
  | s :: r, _, _, _, h => kGo_mono (stp_mono fun _ _ h => ⟨h.1, runD_mono hK h.2⟩) (fun h => runD_mono hK h) h
theorem kSeq_mono {k k' : Sg → Hl → Prop} {K K' : KC} (hk : ∀ σ l, k σ l → k' σ l) (hK : ∀ e σ l, K e σ l → K' e σ l) : ∀ e σ l, kSeq k K e σ l → kSeq k' K' e σ l := by
  intro e σ l h; cases e <;> first | exact hk _ _ h | exact hK _ _ _ h
theorem run_mono : ∀ {c : Cd} {σ : Sg} {l : Hl} {K K' : KC}, (∀ e σ l, K e σ l → K' e σ l) → run P G c σ l K → run P G c σ l K' := by
  intro c
  induction c with
  | skip => intro σ l K K' hK h; exact hK _ _ _ h
  | ret => intro σ l K K' hK h; exact hK _ _ _ h
  | exit id => intro σ l K K' hK h; exact hK _ _ _ h
  | reg s => intro σ l K K' hK h; exact runS_mono (hK _) h
  | dreg s => intro σ l K K' hK h; exact runD_mono (hK _) h
  | seq a b iha ihb => intro σ l K K' hK h; exact iha (kSeq_mono (fun σ l h => ihb hK h) hK) h
  | cond c x y ihx ihy =>
    intro σ l K K' hK h
    simp only [run, kCond] at h ⊢
    split at h
    · rw [kIf_iff] at h ⊢
      rcases h with ⟨a, b⟩ | ⟨a, b⟩
      · exact .inl ⟨a, ihx hK b⟩
      · exact .inr ⟨a, ihy hK b⟩
    · cases h
  | block id c ih =>
    intro σ l K K' hK h
    refine ih (fun e σ l h => ?_) h
    cases e with
    | normal => exact hK _ _ _ h
    | ret => exact hK _ _ _ h
    | exit id' =>
      simp only [kBlock] at h ⊢
      split at h
      · exact hK _ _ _ h
      · exact hK _ _ _ h
  | loop c ih =>
    intro σ l K K' hK h
    obtain ⟨n, h⟩ := h
    refine ⟨n, ?_⟩
    induction n generalizing σ l with
    | zero => cases h
    | succ n ihn => exact ih (kSeq_mono (fun σ l h => ihn h) hK) h
theorem CallP.mono {f : FuncId} {args : List CV} {l : Hl} {K K' : Kv} (hK : ∀ v l, K.k v l → K'.k v l) (h : CallP P G f args l (c := K)) : CallP P G f args l (c := K') := by
  obtain ⟨r, l', h1, h2, h3⟩ := h; exact ⟨r, l', h1, h2, hK _ _ h3⟩

/-! ### Loops -/
/-- A loop with a number that falls. -/
theorem loop_fall {c : Cd} {K : Kc} (I : Nat → Sg → Hl → Prop) (step : ∀ n σ l, I n σ l → run P G c σ l (kSeq (fun σ l => ∃ n', n' < n ∧ I n' σ l) K.k)) : ∀ n σ l, I n σ l → LoopP (run P G c) σ l (c := K) := by
  intro n
  induction n using Nat.strongRecOn with
  | _ n ih =>
    intro σ l h
    -- fuel n + 1 is enough
    have go : ∀ (m n : Nat), n ≤ m → ∀ σ l, I n σ l → loopN (run P G c) (m + 1) σ l K.k := by
      intro m
      induction m with
      | zero =>
        intro n hn σ l h
        obtain rfl : n = 0 := by omega
        exact run_mono (kSeq_mono (fun σ l ⟨n', h1, _⟩ => by omega) (fun _ _ _ h => h)) (step 0 σ l h)
      | succ m ihm =>
        intro n hn σ l h
        exact run_mono (kSeq_mono (fun σ l ⟨n', h1, h2⟩ => ihm n' (by omega) σ l h2) (fun _ _ _ h => h)) (step n σ l h)
    exact ⟨n + 1, go n n (Nat.le_refl _) σ l h⟩

/-- A loop that counts up to a number. -/
theorem loop_up {c : Cd} {K : Kc} (n : Nat) (I : Nat → Sg → Hl → Prop) (step : ∀ k σ l, k ≤ n → I k σ l → run P G c σ l (kSeq (fun σ l => k < n ∧ I (k + 1) σ l) K.k)) {σ : Sg} {l : Hl} (h : I 0 σ l) : LoopP (run P G c) σ l (c := K) := by
  refine loop_fall (fun m σ l => ∃ k, k + m = n ∧ I k σ l) (fun m σ l ⟨k, hk, h⟩ => ?_) n σ l ⟨0, by omega, h⟩
  exact run_mono (kSeq_mono (fun σ l ⟨h1, h2⟩ => ⟨m - 1, by omega, k + 1, by omega, h2⟩) (fun _ _ _ h => h)) (step k σ l (by omega) h)

end
end Go.CM
