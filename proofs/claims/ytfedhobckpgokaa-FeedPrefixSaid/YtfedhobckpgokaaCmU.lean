/-
  The canonical machine, part U: a small operation does what the operation does.
-/
import Derived.Test.YtfedhobckpgokaaCmT
namespace Go.CM
open Go
set_option linter.unusedVariables false
set_option linter.unusedSimpArgs false

section
variable {P : Program}

theorem bind_some {α β : Type} {x : Option α} {f : α → Option β} {y : β} : x.bind f = some y ↔ ∃ a, x = some a ∧ f a = some y := by cases x <;> simp
theorem map_some {α β : Type} {x : Option α} {f : α → β} {y : β} : x.map f = some y ↔ ∃ a, x = some a ∧ f a = y := by cases x <;> simp
theorem pu_some {l l' : Hl} {x : Option CV} {v : CV} : pu l x = some (v, l') ↔ x = some v ∧ l' = l := by cases x <;> simp [pu, eq_comm]
theorem ite_some {α : Type} {p : Prop} [Decidable p] {x y : α} : (if p then some x else none) = some y ↔ p ∧ x = y := by by_cases p <;> simp_all

theorem appendL_ok {l l' : Hl} {e z by_ n : Nat} {s v : CV} {xs : List CV} (hz : zeroLen P e = some z) (h : appendL l z by_ s xs n = some (v, l')) : appendW P (HL l) e z by_ s xs n = some (v, HL l') := by
  unfold appendL at h
  unfold appendW
  by_cases hn : n = 0
  · rw [if_pos hn] at h ⊢
    cases s <;> simp at h ⊢ <;> simp [h]
  · rw [if_neg hn] at h ⊢
    by_cases h0 : z = 0 ∨ by_ = 0
    · rw [if_pos h0] at h; cases h
    · rw [if_neg h0] at h
      rw [if_neg (by simp only [hz]; simpa using h0)]
      cases s <;> simp only at h ⊢ <;> try (cases h; done)
      case nilS =>
        by_cases hr : n * by_ ≤ roomMax
        · rw [if_pos hr] at h ⊢; cases h; rw [HL_push]; rfl
        · rw [if_neg hr] at h; cases h
      case sl z' b off len cap sz =>
        cases hb : l[b]? with
        | none => rw [hb] at h; cases h
        | some c =>
          cases c <;> rw [hb] at h <;> (try simp only at h) <;> try (cases h; done)
          rename_i m cs
          rw [HL_cells.2 hb]
          simp only
          by_cases h1 : m = sz ∧ z = z' ∧ (len + n) * by_ ≤ roomMax
          · rw [if_pos h1] at h ⊢
            by_cases h2 : len + n ≤ cap
            · rw [if_pos h2] at h ⊢; cases h; rw [HL_set _ (get_lt hb)]
            · rw [if_neg h2] at h ⊢
              by_cases h3 : off + cap * z < sz
              · rw [if_pos h3] at h ⊢; cases h; rw [HL_push]; rfl
              · rw [if_neg h3] at h ⊢
                by_cases h4 : off = 0
                · rw [if_pos h4] at h ⊢; cases h; rw [HL_set _ (get_lt hb)]
                · rw [if_neg h4] at h; cases h
          · rw [if_neg h1] at h; cases h

theorem bldPsL_ok {t : TypeId} {ps : List (Nat × Operand)} {q : List (Nat × Nat × Operand)} (hq : bldPs P t ps = some q) (ρ : Operand → CV) (zero : List CV) (hz : zeroT P t = some zero) {cs : List CV}
    (hb : bldC zero (q.map fun p => (p.1, p.2.1, ρ p.2.2)) = some cs) : buildC P t (ps.map fun p => (p.1, ρ p.2)) = some (.ag cs) := by
  have fill : ∀ (place : Nat → Option (Nat × Nat)) (ps : List (Nat × Operand)) (q : List (Nat × Nat × Operand)) (zero : List CV),
      (ps.mapM fun p => (place p.1).map fun q => (q.1, q.2, p.2)) = some q → bldC zero (q.map fun p => (p.1, p.2.1, ρ p.2.2)) = some cs → fillC place zero (ps.map fun p => (p.1, ρ p.2)) = some cs := by
    intro place ps
    induction ps with
    | nil => intro q zero h1 h2; simp at h1; subst h1; simpa [bldC, fillC] using h2
    | cons p ps ih =>
      intro q zero h1 h2
      rw [List.mapM_cons] at h1
      simp only [Option.bind_eq_bind, bind_some, map_some, Option.pure_def, Option.some.injEq] at h1
      obtain ⟨a, ⟨a', h3, rfl⟩, q', h4, rfl⟩ := h1
      simp only [List.map_cons, bldC, fillC, h3] at h2 ⊢
      split at h2
      · rename_i vs hv
        simp only [hv]
        split at h2
        · rename_i h5
          rw [if_pos h5]
          exact ih _ _ h4 h2
        · cases h2
      · cases h2
  unfold bldPs at hq
  unfold buildC
  split at hq
  · rename_i fs hu
    rw [hz, hu]
    simp only
    split at hq
    · rename_i hall
      rw [if_neg (by simp [hall])]
      rw [fill _ _ _ _ hq hb]; rfl
    · cases hq
  · rename_i n e hu
    rw [map_some] at hq
    obtain ⟨n', h1, rfl⟩ := hq
    rw [hz, hu]
    simp only [h1]
    rw [fill (fun i => some (i * n', n')) ps _ zero ?_ hb]; rfl
    clear hb
    induction ps with
    | nil => rfl
    | cons p ps ih => rw [List.mapM_cons, ih]; rfl
  · cases hq

theorem sliceL_ok {t : TypeId} {ti : TI} (ht : tiOf P t = some ti) (x : CV) (lo hi mx : Option CV) : sliceM ti x lo hi mx = sliceC P t x lo hi mx := by
  unfold tiOf at ht
  unfold sliceC
  split at ht
  · rename_i n e hu
    rw [map_some] at ht
    obtain ⟨z, h1, rfl⟩ := ht
    rw [hu]; simp only [h1, sliceM]
    cases boundsC n n lo hi mx <;> rfl
  · rename_i e hu
    rw [map_some] at ht
    obtain ⟨z, h1, rfl⟩ := ht
    rw [hu]; simp only [h1, sliceM]
    cases x <;> rfl
  · rename_i hu
    cases ht
    rw [hu]; simp only [sliceM]
    cases x <;> cases mx <;> rfl
  · cases ht

theorem lenL_ok {t : TypeId} {ti : TI} (ht : tiOf P t = some ti) {x v : CV} (h : lenM ti x = some v) : lenC P t x = some v := by
  unfold tiOf at ht
  unfold lenC
  split at ht
  · rename_i n e hu
    rw [map_some] at ht
    obtain ⟨z, h1, rfl⟩ := ht
    rw [hu]; simpa [lenM] using h
  · rename_i e hu
    rw [map_some] at ht
    obtain ⟨z, h1, rfl⟩ := ht
    rw [hu]; unfold lenM at h; cases x <;> simp_all
  · rename_i hu
    cases ht
    rw [hu]; unfold lenM at h; cases x <;> simp_all
  · cases ht
theorem capL_ok {t : TypeId} {ti : TI} (ht : tiOf P t = some ti) {x v : CV} (h : capM ti x = some v) : capC P t x = some v := by
  unfold tiOf at ht
  unfold capC
  split at ht
  · rename_i n e hu
    rw [map_some] at ht
    obtain ⟨z, h1, rfl⟩ := ht
    rw [hu]; simpa [capM] using h
  · rename_i e hu
    rw [map_some] at ht
    obtain ⟨z, h1, rfl⟩ := ht
    rw [hu]; unfold capM at h; cases x <;> simp_all
  · rename_i hu
    cases ht
    rw [hu]; unfold capM at h; cases x <;> simp_all
  · cases ht

theorem iaL_ok {t : TypeId} {ti : TI} (ht : tiOf P t = some ti) {x i v : CV} (h : iaC ti x i = some v) : indexAddrC P t x i = some v := by
  unfold tiOf at ht
  unfold indexAddrC
  unfold iaC at h
  cases i <;> (try simp only at h) <;> try (cases h; done)
  rename_i k i
  split at ht
  · rename_i n e hu
    rw [map_some] at ht
    obtain ⟨z, h1, rfl⟩ := ht
    rw [hu]; simpa [asInt, h1] using h
  · rename_i e hu
    rw [map_some] at ht
    obtain ⟨z, h1, rfl⟩ := ht
    rw [hu]; simp only [asInt, h1]; simp only at h
    cases x <;> simp only at h ⊢ <;> first | exact h | cases h
  · rename_i hu
    cases ht
    simp only at h
    cases h
  · cases ht

theorem storeL_ok {t : TypeId} {n : Nat} (hs : sizeT P t = some n) {l l' : Hl} {p v : CV} (h : storeL n l p v = some l') : storeC P (HL l) t p v = some (HL l') := by
  unfold storeL at h
  unfold storeC
  cases p <;> (try simp only at h) <;> try (cases h; done)
  rename_i b off sz
  cases hv : v.cells with
  | none => rw [hv] at h; cases h
  | some vs =>
    rw [hv] at h
    simp only [hs] at h ⊢
    cases hb : l[b]? with
    | none => rw [hb] at h; cases h
    | some c =>
      cases c <;> rw [hb] at h <;> (try simp only at h) <;> try (cases h; done)
      rename_i m cs
      rw [HL_cells.2 hb]
      simp only
      rw [ite_some] at h
      obtain ⟨h1, rfl⟩ := h
      rw [if_pos h1, HL_set _ (get_lt hb)]

theorem copyL_ok {t e : TypeId} {z : Nat} (he : elemT P t = some e) (hs : sizeT P e = some z) {l l' : Hl} {d x v : CV} (h : copyL z l d x = some (v, l')) : copyC P (HL l) t d x = some (v, HL l') := by
  unfold copyL at h
  unfold copyC
  rw [he]; simp only [hs, contents_HL]
  cases hc : contentsL l z x with
  | none => rw [hc] at h; cases h
  | some p =>
    obtain ⟨xs, n⟩ := p
    rw [hc] at h
    simp only at h ⊢
    cases d <;> simp only at h ⊢ <;> try (cases h; done)
    case nilS => cases h; rfl
    case sl z' b off len cap sz =>
      cases hb : l[b]? with
      | none => rw [hb] at h; cases h
      | some c =>
        cases c <;> rw [hb] at h <;> (try simp only at h) <;> try (cases h; done)
        rename_i m cs
        rw [HL_cells.2 hb]
        simp only
        rw [ite_some] at h
        obtain ⟨h1, h2⟩ := h
        cases h2
        rw [if_pos h1, HL_set _ (get_lt hb)]

theorem clearL_ok {t e : TypeId} {zero : List CV} (hu : P.underlying t = some (.slice e)) (hz : zeroT P e = some zero) {l l' : Hl} {x : CV} (h : clearL zero l x = some l') : clearC P (HL l) t x = some (HL l') := by
  unfold clearL at h
  unfold clearC
  rw [hu]
  cases x <;> (try simp only at h) <;> try (cases h; done)
  case nilS => cases h; rfl
  case rsl z es => cases es <;> simp only at h <;> cases h; rfl
  case sl z b off len cap sz =>
    simp only
    by_cases h0 : len = 0
    · rw [if_pos h0] at h ⊢; cases h; rfl
    · rw [if_neg h0] at h ⊢
      rw [hz]
      cases hb : l[b]? with
      | none => rw [hb] at h; cases h
      | some c =>
        cases c <;> rw [hb] at h <;> (try simp only at h) <;> try (cases h; done)
        rename_i m cs
        rw [HL_cells.2 hb]
        simp only
        rw [ite_some] at h
        obtain ⟨h1, rfl⟩ := h
        rw [if_pos h1, HL_set _ (get_lt hb)]

theorem load_1 {t : TypeId} (h1 : aggT P t = some false) (h : Hp) (p : CV) : loadC P h t p = (reach h p).bind fun x => x.1[x.2]? := by
  unfold loadC partC; rw [h1]; cases reach h p <;> rfl
theorem load_A {t : TypeId} {n : Nat} (h1 : aggT P t = some true) (h2 : sizeT P t = some n) (h : Hp) (p : CV) : loadC P h t p = (reach h p).bind fun x => partA n x.1 x.2 := by
  unfold loadC partC; rw [h1, h2]; cases reach h p <;> rfl

theorem builtinL_ok {b : Builtin} {ts : List TypeId} {args : List Operand} {m : Mo} (hm : compBuiltin P b ts args = some m) {ρ : Operand → CV} {l l' : Hl} {v : CV} (h : mstep P ρ l m = some (v, l')) :
    builtinC P (HL l) b ts (args.map ρ) = some (.val v (HL l')) := by
  unfold compBuiltin at hm
  split at hm
  · rw [map_some] at hm
    obtain ⟨ti, h1, rfl⟩ := hm
    simp only [mstep, pu_some] at h
    obtain ⟨h2, rfl⟩ := h
    simp [builtinC, lenL_ok h1 h2]
  · rw [map_some] at hm
    obtain ⟨ti, h1, rfl⟩ := hm
    simp only [mstep, pu_some] at h
    obtain ⟨h2, rfl⟩ := h
    simp [builtinC, capL_ok h1 h2]
  · rename_i t u s x
    simp only [List.map_cons, List.map_nil, builtinC]
    split at hm
    · rename_i hu
      simp only [bind_some] at hm
      obtain ⟨e, h1, z, h2, by_, h3, zero, h4, hm⟩ := hm
      rw [ite_some] at hm
      obtain ⟨⟨h5, h6⟩, rfl⟩ := hm
      simp only [mstep] at h
      unfold appZM at h
      cases hx : ρ x <;> rw [hx] at h <;> (try simp only at h) <;> try (cases h; done)
      rename_i k n
      by_cases h7 : 0 ≤ n ∧ n < 9223372036854775808 ∧ n.toNat * by_ ≤ roomMax
      · rw [if_pos h7] at h
        rw [hu]
        simp only [appendZC, h1, asInt, h2, h3, h4]
        rw [if_pos ⟨h5, h7⟩, appendL_ok h6 h]; rfl
      · rw [if_neg h7] at h; cases h
    · cases hm
    · rename_i hn hu
      simp only [bind_some] at hm
      obtain ⟨e, h1, z, h2, by_, h3, hm⟩ := hm
      rw [ite_some] at hm
      obtain ⟨h6, rfl⟩ := hm
      simp only [mstep] at h
      unfold appM at h
      cases hc : contentsL l z (ρ x) with
      | none => rw [hc] at h; cases h
      | some p =>
        obtain ⟨xs, n⟩ := p
        rw [hc] at h
        simp only at h
        have : appendC P (HL l) t (ρ s) (ρ x) = some (v, HL l') := by
          simp only [appendC, h1, h2, h3, contents_HL, hc]
          exact appendL_ok h6 h
        rw [this]
        cases hd : P.underlying u with
        | none => exact absurd hd hu
        | some d =>
          cases d <;> first | rfl | (rename_i k; exact absurd hd (hn k))
  · simp only [bind_some, map_some] at hm
    obtain ⟨e, h1, z, h2, rfl⟩ := hm
    simp only [mstep] at h
    simp [builtinC, copyL_ok h1 h2 h]
  · split at hm
    · rename_i e hu
      rw [map_some] at hm
      obtain ⟨zero, h1, rfl⟩ := hm
      simp only [mstep, map_some, Prod.mk.injEq] at h
      obtain ⟨l2, h2, rfl, rfl⟩ := h
      simp [builtinC, clearL_ok hu h1 h2]
    · cases hm
  · cases hm
    simp only [mstep, pu_some] at h
    obtain ⟨h2, rfl⟩ := h
    simp [builtinC, h2]
  · cases hm
    simp only [mstep, pu_some] at h
    obtain ⟨h2, rfl⟩ := h
    simp [builtinC, h2]
  · cases hm

theorem partC_1 {t : TypeId} (h1 : aggT P t = some false) (cs : List CV) (off : Nat) : partC P t cs off = cs[off]? := by unfold partC; rw [h1]
theorem partC_A {t : TypeId} {n : Nat} (h1 : aggT P t = some true) (h2 : sizeT P t = some n) (cs : List CV) (off : Nat) : partC P t cs off = partA n cs off := by unfold partC; rw [h1, h2]; rfl

theorem bytesStrC_none {s d : TypeId} {x : CV} (h : ∀ e, P.underlying d = some (.slice e) → False) : bytesStrC P s d x = none := by
  unfold bytesStrC
  split
  · rename_i e hs hd hx
    exact (h e hx).elim
  · rfl

theorem mstep_ok {op : Op} {m : Mo} (hm : compOp P op = some m) {ρ : Operand → CV} {l l' : Hl} {v : CV} (h : mstep P ρ l m = some (v, l')) : stepC P (HL l) ρ op = some (.val v (HL l')) := by
  cases op <;> simp only [compOp] at hm <;> try (cases hm; done)
  case move x => cases hm; simp only [mstep, Option.some.injEq, Prod.mk.injEq] at h; obtain ⟨rfl, rfl⟩ := h; rfl
  case assign x => cases hm; simp only [mstep, Option.some.injEq, Prod.mk.injEq] at h; obtain ⟨rfl, rfl⟩ := h; rfl
  case pick c a b =>
    cases hm; simp only [mstep, pu_some] at h
    obtain ⟨h2, rfl⟩ := h
    simp only [stepC]
    unfold pickC at h2
    cases hc : ρ c <;> rw [hc] at h2 <;> (try simp only at h2) <;> try (cases h2; done)
    cases h2; rfl
  case alloc t =>
    rw [map_some] at hm
    obtain ⟨zero, h1, rfl⟩ := hm
    simp only [mstep, Option.some.injEq, Prod.mk.injEq] at h
    obtain ⟨rfl, rfl⟩ := h
    simp only [stepC, h1, HL_push]; rfl
  case box t x =>
    cases hm
    simp only [mstep, map_some, Prod.mk.injEq] at h
    obtain ⟨cs, h1, rfl, rfl⟩ := h
    simp only [stepC, h1, HL_push]; rfl
  case build t ps =>
    simp only [bind_some, map_some] at hm
    obtain ⟨zero, h1, q, h2, rfl⟩ := hm
    simp only [mstep, pu_some, map_some] at h
    obtain ⟨⟨cs, h3, rfl⟩, rfl⟩ := h
    simp only [stepC, bldPsL_ok h2 ρ zero h1 h3]; rfl
  case buildSlice t n ps =>
    simp only [bind_some] at hm
    obtain ⟨e, h1, z, h2, zero, h3, hm⟩ := hm
    rw [ite_some] at hm
    obtain ⟨h4, rfl⟩ := hm
    simp only [mstep, map_some, Prod.mk.injEq] at h
    obtain ⟨cs, h5, rfl, rfl⟩ := h
    simp only [stepC, buildSliceC, h1, h2, h3, if_pos h4, h5, HL_push]; rfl
  case load t a =>
    split at hm
    · rename_i n h1 h2
      cases hm
      simp only [mstep, pu_some] at h
      obtain ⟨h3, rfl⟩ := h
      simp only [stepC, load_A h1 h2, reach_HL, h3]; rfl
    · rename_i h1
      cases hm
      simp only [mstep, pu_some] at h
      obtain ⟨h3, rfl⟩ := h
      simp only [stepC, load_1 h1, reach_HL, h3]; rfl
    · cases hm
  case store t a x =>
    rw [map_some] at hm
    obtain ⟨n, h1, rfl⟩ := hm
    simp only [mstep, map_some, Prod.mk.injEq] at h
    obtain ⟨l2, h2, rfl, rfl⟩ := h
    simp only [stepC, storeL_ok h1 h2]; rfl
  case nilCheck x =>
    cases hm
    simp only [mstep, pu_some] at h
    obtain ⟨h2, rfl⟩ := h
    simp only [stepC]
    unfold nilcC at h2
    cases hc : ρ x <;> rw [hc] at h2 <;> simp only at h2 <;> first | (cases h2; done) | (cases h2; rfl)
  case binOp o t x y u =>
    cases hm
    simp only [mstep, pu_some] at h
    obtain ⟨h2, rfl⟩ := h
    simp only [stepC, h2]; rfl
  case unOp o t x =>
    cases hm
    simp only [mstep, pu_some] at h
    obtain ⟨h2, rfl⟩ := h
    simp only [stepC, h2]; rfl
  case convert s d x =>
    simp only [stepC]
    split at hm
    · rename_i ds k hs hd
      cases hm
      simp only [mstep, pu_some] at h
      obtain ⟨h2, rfl⟩ := h
      rw [bytesStrC_none (fun e he => by rw [hd] at he; cases he)]
      unfold cintC at h2
      cases hx : ρ x <;> rw [hx] at h2 <;> (try simp only at h2) <;> try (cases h2; done)
      cases h2
      simp only [convertC, hs, hd]; rfl
    · rename_i e hs hd
      split at hm
      · rename_i he
        cases hm
        simp only [mstep, pu_some] at h
        obtain ⟨h2, rfl⟩ := h
        rw [bytesStrC_none (fun e he => by rw [hd] at he; cases he)]
        have : convertC P (HL l') s d (ρ x) = some v := by
          rw [← h2]
          unfold convertC cbsC
          rw [hs, hd]
          cases hx : ρ x <;> (simp only [he, contents_HL]) <;> (try rfl) <;> (rw [hx] at h2; unfold cbsC at h2; simp only at h2)
          · cases h2
          all_goals (cases hc : contentsL l' 1 _ <;> rfl)
        rw [this]; rfl
      · cases hm
    · rename_i hs hd
      cases hm
      simp only [mstep, pu_some] at h
      obtain ⟨h2, rfl⟩ := h
      rw [bytesStrC_none (fun e he => by rw [hd] at he; cases he)]
      unfold cstrC at h2
      cases hx : ρ x <;> rw [hx] at h2 <;> (try simp only at h2) <;> try (cases h2; done)
      cases h2
      simp only [convertC, hs, hd]; rfl
    · rename_i e hs hd
      split at hm
      · rename_i he
        cases hm
        simp only [mstep, pu_some] at h
        obtain ⟨h2, rfl⟩ := h
        unfold csbC at h2
        cases hx : ρ x <;> rw [hx] at h2 <;> (try simp only at h2) <;> try (cases h2; done)
        cases h2
        simp only [bytesStrC, hs, hd, he]
      · cases hm
    · cases hm
  case makeInterface t x =>
    split at hm
    · cases hm
    · cases hm
    · rename_i h1 h2
      cases hm
      simp only [mstep, Option.some.injEq, Prod.mk.injEq] at h
      obtain ⟨rfl, rfl⟩ := h
      simp only [stepC]
  case makeFunc f a b =>
    cases f <;> simp only at hm <;> try (cases hm; done)
    cases hm
    simp only [mstep, Option.some.injEq, Prod.mk.injEq] at h
    obtain ⟨rfl, rfl⟩ := h
    rfl
  case makeSlice t a c =>
    simp only [bind_some] at hm
    obtain ⟨e, h1, z, h2, by_, h3, zero, h4, hm⟩ := hm
    rw [ite_some] at hm
    obtain ⟨h5, rfl⟩ := hm
    simp only [mstep] at h
    unfold mksC at h
    cases ha : ρ a <;> rw [ha] at h <;> (try simp only at h) <;> try (cases h; done)
    cases hc : ρ c <;> rw [hc] at h <;> (try simp only at h) <;> try (cases h; done)
    rw [ite_some] at h
    obtain ⟨h6, h7⟩ := h
    cases h7
    simp only [stepC, ha, hc, makeSliceC, h1, asInt, h2, h3, h4, if_pos (And.intro h5 h6), HL_push]; rfl
  case slice t x lo hi mx =>
    rw [map_some] at hm
    obtain ⟨ti, h1, rfl⟩ := hm
    simp only [mstep, pu_some] at h
    obtain ⟨h2, rfl⟩ := h
    rw [sliceL_ok h1] at h2
    simp only [stepC, h2]; rfl
  case fieldAddr s x f =>
    rw [bind_some] at hm
    obtain ⟨fd, h1, hm⟩ := hm
    split at hm
    · rename_i n h2
      cases hm
      simp only [mstep, pu_some] at h
      obtain ⟨h3, rfl⟩ := h
      simp only [stepC, fieldAddrC, h1, h2, h3]; rfl
    · cases hm
  case field t x f =>
    rw [bind_some] at hm
    obtain ⟨fd, h1, hm⟩ := hm
    split at hm
    · rename_i n h2 h3
      cases hm
      simp only [mstep, pu_some] at h
      obtain ⟨h4, rfl⟩ := h
      unfold fldCA at h4
      cases hx : ρ x <;> rw [hx] at h4 <;> (try simp only at h4) <;> try (cases h4; done)
      simp only [stepC, hx, h1, partC_A h2 h3, h4]; rfl
    · rename_i h2
      cases hm
      simp only [mstep, pu_some] at h
      obtain ⟨h4, rfl⟩ := h
      unfold fldC1 at h4
      cases hx : ρ x <;> rw [hx] at h4 <;> (try simp only at h4) <;> try (cases h4; done)
      simp only [stepC, hx, h1, partC_1 h2, h4]; rfl
    · cases hm
  case indexAddr t x i =>
    split at hm
    · rename_i n z h1
      cases hm
      simp only [mstep, pu_some] at h
      obtain ⟨h2, rfl⟩ := h
      simp only [stepC, iaL_ok h1 h2]; rfl
    · rename_i z h1
      cases hm
      simp only [mstep, pu_some] at h
      obtain ⟨h2, rfl⟩ := h
      simp only [stepC, iaL_ok h1 h2]; rfl
    · cases hm
  case index t x i =>
    split at hm
    · rename_i n e hu
      split at hm
      · rename_i z h1 h2
        cases hm
        simp only [mstep, pu_some] at h
        obtain ⟨h3, rfl⟩ := h
        unfold ixCA at h3
        cases hx : ρ x <;> rw [hx] at h3 <;> (try simp only at h3) <;> try (cases h3; done)
        cases hi : ρ i <;> rw [hi] at h3 <;> (try simp only at h3) <;> try (cases h3; done)
        simp only [stepC, indexC, hx, hi, hu, asInt, h1, partC_A h2 h1, h3]; rfl
      · rename_i z h1 h2
        cases hm
        simp only [mstep, pu_some] at h
        obtain ⟨h3, rfl⟩ := h
        unfold ixC1 at h3
        cases hx : ρ x <;> rw [hx] at h3 <;> (try simp only at h3) <;> try (cases h3; done)
        cases hi : ρ i <;> rw [hi] at h3 <;> (try simp only at h3) <;> try (cases h3; done)
        simp only [stepC, indexC, hx, hi, hu, asInt, h1, partC_1 h2, h3]; rfl
      · cases hm
    · rename_i hu
      cases hm
      simp only [mstep, pu_some] at h
      obtain ⟨h3, rfl⟩ := h
      unfold ixCT at h3
      cases hx : ρ x <;> rw [hx] at h3 <;> (try simp only at h3) <;> try (cases h3; done)
      cases hi : ρ i <;> rw [hi] at h3 <;> (try simp only at h3) <;> try (cases h3; done)
      simp only [stepC, indexC, hx, hi, hu, asInt, h3]; rfl
    · cases hm
  case extract x i =>
    cases hm
    simp only [mstep, pu_some] at h
    obtain ⟨h2, rfl⟩ := h
    unfold extC at h2
    cases hx : ρ x <;> rw [hx] at h2 <;> (try simp only at h2) <;> try (cases h2; done)
    simp only [stepC, hx, h2]; rfl
  case call c =>
    split at hm
    · rename_i b hb
      simp only [stepC, callC, hb]
      exact builtinL_ok hm h
    · cases hm
end

end Go.CM
