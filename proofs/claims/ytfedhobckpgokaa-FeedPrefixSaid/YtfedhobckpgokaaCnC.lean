/-
  The canonical machine: what comes in, by its type.
-/
import Derived.Test.YtfedhobckpgokaaCnB
import GoSem.ClaimChange
import GoSem.ClaimWide
namespace Go.CM
open Go
set_option linter.unusedVariables false
set_option linter.unusedSimpArgs false

section
variable {P : Program}

/-- Cells of values of some types, one behind the other. -/
inductive Ty (P : Program) : List TypeId → List CV → Prop
  | nil : Ty P [] []
  | bool {t : TypeId} {b : Bool} {ts : List TypeId} {cs : List CV} (hu : P.underlying t = some .bool) (h : Ty P ts cs) : Ty P (t :: ts) (.bool b :: cs)
  | int {t : TypeId} {k : IntKind} {n : Int} {ts : List TypeId} {cs : List CV} (hu : P.underlying t = some (.int k)) (h1 : k.min ≤ n) (h2 : n ≤ k.max) (h : Ty P ts cs) : Ty P (t :: ts) (.int k n :: cs)
  | str {t : TypeId} {s : List UInt8} {ts : List TypeId} {cs : List CV} (hu : P.underlying t = some .string) (hs : s.length ≤ maxLen) (h : Ty P ts cs) : Ty P (t :: ts) (.str s :: cs)
  | nilS {t e : TypeId} {ts : List TypeId} {cs : List CV} (hu : P.underlying t = some (.slice e)) (h : Ty P ts cs) : Ty P (t :: ts) (.nilS :: cs)
  | sl {t e : TypeId} {es : List (List CV)} {ts : List TypeId} {cs : List CV} (hu : P.underlying t = some (.slice e)) (hl : es.length ≤ maxLen) (hz : ∀ r ∈ es, r.length = P.cellsOf e) (he : ∀ r ∈ es, Ty P [e] r) (h : Ty P ts cs) : Ty P (t :: ts) (.rsl (P.cellsOf e) es :: cs)
  | struct {t : TypeId} {fs : Array Field} {ts : List TypeId} {cs : List CV} (hu : P.underlying t = some (.struct fs)) (h : Ty P (fs.toList.map (·.type) ++ ts) cs) : Ty P (t :: ts) cs
  | array {t e : TypeId} {n : Nat} {ts : List TypeId} {cs : List CV} (hu : P.underlying t = some (.array n e)) (h : Ty P (List.replicate n e ++ ts) cs) : Ty P (t :: ts) cs

def consec (P : Program) : List Field → Nat → Option Nat
  | [], o => some o
  | f :: r, o => if f.offset = o then consec P r (o + P.cellsOf f.type) else none

def plainT (P : Program) : Nat → TypeId → Bool
  | 0, _ => false
  | d + 1, t => match P.underlying t with
    | some .bool | some (.int _) | some .string => true
    | some (.slice e) => decide (0 < P.cellsOf e) && plainT P d e
    | some (.struct fs) => decide (consec P fs.toList 0 = some (P.cellsOf t)) && fs.toList.all fun f => plainT P d f.type
    | some (.array n e) => decide (n * P.cellsOf e = P.cellsOf t) && plainT P d e
    | _ => false

/-- What is won of a reading. -/
structure Won (P : Program) (w : World) (A : Nat → Prop) (ts : List TypeId) (vs : List Value) (cs : List CV) : Prop where
  len : cs.length = vs.length
  ty : ∀ ts' cs', Ty P ts' cs' → Ty P (ts ++ ts') (cs ++ cs')
  vr : ∀ (j : Nat) (c : CV) (v : Value), cs[j]? = some c → vs[j]? = some v → VR0 w A c v ∧ v.oneCell' = true

theorem Won.nil {w : World} {A : Nat → Prop} : Won P w A [] [] [] := ⟨rfl, fun _ _ h => h, fun j c v h => by simp at h⟩
theorem Won.app {w : World} {A : Nat → Prop} {ts ts' : List TypeId} {vs vs' : List Value} {cs cs' : List CV} (a : Won P w A ts vs cs) (b : Won P w A ts' vs' cs') : Won P w A (ts ++ ts') (vs ++ vs') (cs ++ cs') := by
  refine ⟨by simp [a.len, b.len], fun ts'' cs'' h => by rw [List.append_assoc, List.append_assoc]; exact a.ty _ _ (b.ty _ _ h), fun j c v hc hv => ?_⟩
  by_cases h : j < cs.length
  · rw [List.getElem?_append_left h] at hc
    rw [List.getElem?_append_left (by rw [← a.len]; exact h)] at hv
    exact a.vr j c v hc hv
  · rw [List.getElem?_append_right (by omega)] at hc
    rw [List.getElem?_append_right (by rw [← a.len]; omega)] at hv
    rw [← a.len] at hv
    exact b.vr _ c v hc hv

theorem mapM_get' {α β : Type} {f : α → Option β} : ∀ {l : List α} {r : List β}, l.mapM f = some r → ∀ (p : Nat) (a : α), l[p]? = some a → ∃ x, r[p]? = some x ∧ f a = some x
  | [], r, h, p, a, ha => by simp at ha
  | a0 :: l, r, h, p, a, ha => by
    rw [List.mapM_cons] at h
    simp only [Option.bind_eq_bind, bind_some, Option.pure_def, Option.some.injEq] at h
    obtain ⟨b, h1, r', h2, rfl⟩ := h
    cases p with
    | zero => simp only [List.getElem?_cons_zero, Option.some.injEq] at ha; subst ha; exact ⟨b, rfl, h1⟩
    | succ p => obtain ⟨x, h3, h4⟩ := mapM_get' h2 p a (by simpa using ha); exact ⟨x, by simpa using h3, h4⟩

theorem one1 {w : World} {A : Nat → Prop} {c : CV} {v : Value} (h : VR0 w A c v) (h1 : v.oneCell' = true) : ∀ (j : Nat) (c' : CV) (v' : Value), [c][j]? = some c' → [v][j]? = some v' → VR0 w A c' v' ∧ v'.oneCell' = true := by
  intro j c' v' hc hv
  cases j with
  | zero => simp only [List.getElem?_cons_zero, Option.some.injEq] at hc hv; subst hc hv; exact ⟨h, h1⟩
  | succ j => simp at hc

theorem trod_bool {H : Type} {enc : TypeId × Value → H} {w : World} {base : Nat} {spare : Nat → Bool} {held : Bool} {fuel : Nat} {t : TypeId} {vs : List Value} {x : DataW H × List MemPlace}
    (hu : P.underlying t = some .bool) (h : DataW.trod enc P w base spare held (fuel + 1) t vs = some x) : ∃ b, vs = [.bool b] := by
  unfold DataW.trod at h
  rw [hu] at h
  split at h
  case h_1 b _ => exact ⟨b, rfl⟩
  all_goals first | (cases h; done) | (rename_i heq; cases heq; done) | (rename_i heq _; cases heq; done) | (rename_i heq _ _; cases heq; done) | (rename_i heq _ _ _; cases heq; done) | (simp_all; done)
theorem trod_int {H : Type} {enc : TypeId × Value → H} {w : World} {base : Nat} {spare : Nat → Bool} {held : Bool} {fuel : Nat} {t : TypeId} {k : IntKind} {vs : List Value} {x : DataW H × List MemPlace}
    (hu : P.underlying t = some (.int k)) (h : DataW.trod enc P w base spare held (fuel + 1) t vs = some x) : ∃ n, vs = [.int k n] ∧ k.min ≤ n ∧ n ≤ k.max := by
  unfold DataW.trod at h
  rw [hu] at h
  split at h <;> simp only [reduceCtorEq, Option.some.injEq, TypeDesc.int.injEq] at * <;> try (exfalso; simp_all; done)
  rename_i k0 k' n heq
  subst heq
  split at h
  · rename_i hc
    obtain ⟨rfl, hw⟩ := hc
    simp only [Lit.wf, Bool.and_eq_true, decide_eq_true_eq] at hw
    exact ⟨n, rfl, hw.1, hw.2⟩
  · cases h
theorem trod_str {H : Type} {enc : TypeId × Value → H} {w : World} {base : Nat} {spare : Nat → Bool} {held : Bool} {fuel : Nat} {t : TypeId} {vs : List Value} {x : DataW H × List MemPlace}
    (hu : P.underlying t = some .string) (h : DataW.trod enc P w base spare held (fuel + 1) t vs = some x) : ∃ s, vs = [.string s] ∧ s.size ≤ maxLen := by
  unfold DataW.trod at h
  rw [hu] at h
  split at h <;> simp only [reduceCtorEq, Option.some.injEq] at * <;> try (exfalso; simp_all; done)
  split at h
  · rename_i s _ hs; exact ⟨s, rfl, hs⟩
  · cases h
theorem trod_slice {H : Type} {enc : TypeId × Value → H} {w : World} {base : Nat} {spare : Nat → Bool} {held : Bool} {fuel : Nat} {t e : TypeId} {vs : List Value} {x : DataW H × List MemPlace}
    (hu : P.underlying t = some (.slice e)) (h : DataW.trod enc P w base spare held (fuel + 1) t vs = some x) :
    vs = [.slice none 0 0] ∨ ∃ a len cap, vs = [.slice (some a) len cap] ∧ len ≤ cap ∧ cap ≤ maxLen ∧ ∃ elems, (List.range len).mapM (fun i => (w.cells? base (a.add (i * P.cellsOf e)) (P.cellsOf e)).bind (DataW.trod enc P w base spare held fuel e)) = some elems := by
  unfold DataW.trod at h
  rw [hu] at h
  split at h <;> simp only [reduceCtorEq, Option.some.injEq, TypeDesc.slice.injEq] at * <;> try (exfalso; simp_all; done)
  · exact .inl trivial
  · rename_i e0 a len cap heq
    subst heq
    split at h
    · rename_i hc
      rw [bind_some] at h
      obtain ⟨elems, h1, _⟩ := h
      exact .inr ⟨a, len, cap, rfl, hc.2.1, hc.2.2, elems, h1⟩
    · cases h
theorem trod_struct {H : Type} {enc : TypeId × Value → H} {w : World} {base : Nat} {spare : Nat → Bool} {held : Bool} {fuel : Nat} {t : TypeId} {fs : Array Field} {vs : List Value} {x : DataW H × List MemPlace}
    (hu : P.underlying t = some (.struct fs)) (h : DataW.trod enc P w base spare held (fuel + 1) t vs = some x) :
    vs.length = P.cellsOf t ∧ ∃ xs, (fs.toList.mapM fun f => DataW.trod enc P w base spare held fuel f.type ((vs.drop f.offset).take (P.cellsOf f.type))) = some xs := by
  unfold DataW.trod at h
  rw [hu] at h
  split at h <;> simp only [reduceCtorEq, Option.some.injEq, TypeDesc.struct.injEq] at * <;> try (exfalso; simp_all; done)
  rename_i fs0 heq
  subst heq
  split at h
  · rename_i hc
    rw [map_some] at h
    obtain ⟨xs, h1, _⟩ := h
    exact ⟨hc, xs, h1⟩
  · cases h
theorem trod_array {H : Type} {enc : TypeId × Value → H} {w : World} {base : Nat} {spare : Nat → Bool} {held : Bool} {fuel : Nat} {t e : TypeId} {n : Nat} {vs : List Value} {x : DataW H × List MemPlace}
    (hu : P.underlying t = some (.array n e)) (h : DataW.trod enc P w base spare held (fuel + 1) t vs = some x) :
    vs.length = P.cellsOf t ∧ ∃ xs, ((List.range n).mapM fun i => DataW.trod enc P w base spare held fuel e ((vs.drop (i * P.cellsOf e)).take (P.cellsOf e))) = some xs := by
  unfold DataW.trod at h
  rw [hu] at h
  split at h <;> simp only [reduceCtorEq, Option.some.injEq, TypeDesc.array.injEq] at * <;> try (exfalso; simp_all; done)
  rename_i n0 e0 heq
  obtain ⟨rfl, rfl⟩ := heq
  split at h
  · rename_i hc
    rw [map_some] at h
    obtain ⟨xs, h1, _⟩ := h
    exact ⟨hc, xs, h1⟩
  · cases h

theorem add_add (a : Addr) (x j : Nat) : a.add (x + j) = (a.add x).add j := by
  unfold Addr.add
  by_cases hx : x = 0
  · subst hx; simp
  · by_cases hj : j = 0
    · subst hj; simp
    · rw [if_neg (by omega), if_neg hx, if_neg hj]
      simp only [Nat.add_assoc]
theorem add_plain (b o n : Nat) : (Addr.mk b o none).add n = ⟨b, o + n, none⟩ := by
  unfold Addr.add
  by_cases hn : n = 0
  · subst hn; simp
  · rw [if_neg hn]

theorem trod_won {H : Type} {enc : TypeId × Value → H} {w : World} {A : Nat → Prop} (hA : ∀ k, A k) {base : Nat} {spare : Nat → Bool} {held : Bool} : ∀ (fuel : Nat) (D : Nat) (t : TypeId) (vs : List Value) (d : DataW H) (ps : List MemPlace),
    plainT P D t = true → DataW.trod enc P w base spare held fuel t vs = some (d, ps) → ∃ cs, Won P w A [t] vs cs
  | 0, _, _, _, _, _, _, h => by simp [DataW.trod] at h
  | fuel + 1, 0, t, vs, d, ps, hp, h => by cases hp
  | fuel + 1, D + 1, t, vs, d, ps, hp, h => by
    have ih := fun t vs d ps hp h => trod_won hA (enc := enc) (w := w) (base := base) (spare := spare) (held := held) fuel D t vs d ps hp h
    unfold plainT at hp
    split at hp
    · rename_i hu
      obtain ⟨b, rfl⟩ := trod_bool hu h
      exact ⟨[.bool b], ⟨rfl, fun ts' cs' h => .bool hu h, one1 (.bool b) rfl⟩⟩
    · rename_i k hu
      obtain ⟨n, rfl, h1, h2⟩ := trod_int hu h
      exact ⟨[.int k n], ⟨rfl, fun ts' cs' h => .int hu h1 h2 h, one1 (.int k n) rfl⟩⟩
    · rename_i hu
      obtain ⟨s, rfl, h1⟩ := trod_str hu h
      exact ⟨[.str s.data.toList], ⟨rfl, fun ts' cs' h => .str hu (show s.data.toList.length ≤ maxLen from h1) h, one1 (.str s) rfl⟩⟩
    · rename_i e hu
      simp only [Bool.and_eq_true, decide_eq_true_eq] at hp
      rcases trod_slice hu h with rfl | ⟨a, len, cap, rfl, hlc, hcm, elems, he⟩
      · exact ⟨[.nilS], ⟨rfl, fun ts' cs' h => .nilS hu h, one1 .nilS rfl⟩⟩
      · have hrow : ∀ i, i < len → ∃ vals row, w.cells? base (a.add (i * P.cellsOf e)) (P.cellsOf e) = some vals ∧ Won P w A [e] vals row := fun i hi => by
          obtain ⟨x, _, hx⟩ := mapM_get' he i i (by rw [List.getElem?_range hi])
          rw [bind_some] at hx
          obtain ⟨vals, h1, h2⟩ := hx
          obtain ⟨row, h3⟩ := ih e vals x.1 x.2 hp.2 h2
          exact ⟨vals, row, h1, h3⟩
        have hch : ∃ (vals : Nat → List Value) (rows : Nat → List CV), ∀ i, i < len → w.cells? base (a.add (i * P.cellsOf e)) (P.cellsOf e) = some (vals i) ∧ Won P w A [e] (vals i) (rows i) := by
          refine ⟨fun i => if hi : i < len then (hrow i hi).choose else [], fun i => if hi : i < len then (hrow i hi).choose_spec.choose else [], fun i hi => ?_⟩
          simp only [dif_pos hi]
          exact (hrow i hi).choose_spec.choose_spec
        obtain ⟨vals, rows, hv⟩ := hch
        have hcells : ∀ i, i < len → (vals i).length = P.cellsOf e ∧ ∀ j, j < P.cellsOf e → ∃ v, (vals i)[j]? = some v ∧ w.cell? (a.add (i * P.cellsOf e + j)) = some v := fun i hi => by
          have h1 := (hv i hi).1
          unfold World.cells? at h1
          split at h1
          · refine ⟨by rw [mapM_len h1]; simp, fun j hj => ?_⟩
            obtain ⟨v, h2, h3⟩ := mapM_get' h1 j j (by rw [List.getElem?_range hj])
            refine ⟨v, h2, ?_⟩
            rw [← h3, add_add]
          · cases h1
        let es := (List.range len).map rows
        have hes : ∀ (i : Nat) (r : List CV), es[i]? = some r → i < len ∧ r = rows i := fun i r hr => by
          simp only [es, List.getElem?_map] at hr
          by_cases hi : i < len
          · rw [List.getElem?_range hi] at hr; simp only [Option.map_some, Option.some.injEq] at hr; exact ⟨hi, hr.symm⟩
          · rw [List.getElem?_eq_none (by simp; omega)] at hr; cases hr
        have hlen : es.length = len := by simp [es]
        have hz : ∀ r ∈ es, r.length = P.cellsOf e := fun r hr => by
          obtain ⟨i, hi⟩ := List.getElem?_of_mem hr
          obtain ⟨h1, rfl⟩ := hes i r hi
          rw [(hv i h1).2.len, (hcells i h1).1]
        have hty : ∀ r ∈ es, Ty P [e] r := fun r hr => by
          obtain ⟨i, hi⟩ := List.getElem?_of_mem hr
          obtain ⟨h1, rfl⟩ := hes i r hi
          have := (hv i h1).2.ty [] [] .nil
          simpa using this
        refine ⟨[.rsl (P.cellsOf e) es], ⟨rfl, fun ts' cs' h => .sl hu (by omega) hz hty h, one1 ?_ rfl⟩⟩
        by_cases h0 : len = 0
        · subst h0
          exact .rsl0 _ _ _
        · obtain ⟨v0, _, hv0⟩ := (hcells 0 (by omega)).2 0 hp.1
          have hspot : a.spot = none := by
            unfold World.cell? at hv0
            split at hv0
            · split at hv0
              · cases hv0
              · rename_i hs
                rw [show 0 * P.cellsOf e + 0 = 0 by omega] at hs
                simp only [Addr.add, if_true] at hs
                cases hsp : a.spot with
                | none => rfl
                | some x => rw [hsp] at hs; simp at hs
            · cases hv0
          obtain ⟨blk, off, spot⟩ := a
          simp only at hspot
          subst hspot
          have key := VR.rsl (w := w) (R := A) (h := Hp.empty) (μ := fun _ => none) (P.cellsOf e) es blk off cap (fun i j => ((vals i)[j]?).getD undef) (by omega) hz
            (fun i j hi hj => by
              rw [hlen] at hi
              obtain ⟨v, h1, h2⟩ := (hcells i hi).2 j hj
              obtain ⟨c, hc⟩ : ∃ c, (rows i)[j]? = some c := by
                have : j < (rows i).length := by rw [(hv i hi).2.len, (hcells i hi).1]; exact hj
                exact ⟨_, List.getElem?_eq_getElem this⟩
              refine ⟨?_, ?_, hA _, fun ⟨b, m, h1, h2, h3⟩ => by cases h2⟩
              · rw [h1, Option.getD_some, ← add_plain]; exact h2
              · rw [h1, Option.getD_some]; exact ((hv i hi).2.vr j c v hc h1).2)
            (fun i r hr j c hc => by
              obtain ⟨hi, rfl⟩ := hes i r hr
              have hj : j < P.cellsOf e := by rw [← (hcells i hi).1, ← (hv i hi).2.len]; exact (List.getElem?_eq_some_iff.1 hc).1
              obtain ⟨v, h1, h2⟩ := (hcells i hi).2 j hj
              rw [h1, Option.getD_some]
              exact ((hv i hi).2.vr j c v hc h1).1)
          rw [hlen] at key
          exact key
    · rename_i fs hu
      simp only [Bool.and_eq_true, decide_eq_true_eq, List.all_eq_true] at hp
      obtain ⟨hlen, xs, hx⟩ := trod_struct hu h
      have go : ∀ (fs : List Field) (o : Nat) (xs : List (DataW H × List MemPlace)), consec P fs o = some vs.length → o ≤ vs.length → (∀ f ∈ fs, plainT P D f.type = true) →
          (fs.mapM fun f => DataW.trod enc P w base spare held fuel f.type ((vs.drop f.offset).take (P.cellsOf f.type))) = some xs → ∃ cs, Won P w A (fs.map (·.type)) (vs.drop o) cs := by
        intro fs
        induction fs with
        | nil => intro o xs hc ho _ _; simp only [consec, Option.some.injEq] at hc; rw [hc, List.drop_length]; exact ⟨[], .nil⟩
        | cons f fs ihf =>
          intro o xs hc ho hpl hm
          simp only [consec] at hc
          split at hc
          · rename_i hfo
            rw [List.mapM_cons] at hm
            simp only [Option.bind_eq_bind, bind_some, Option.pure_def, Option.some.injEq] at hm
            obtain ⟨x, h1, xs', h2, _⟩ := hm
            have hmono : ∀ (fs : List Field) (o n : Nat), consec P fs o = some n → o ≤ n := by
              intro fs
              induction fs with
              | nil => intro o n h; simp only [consec, Option.some.injEq] at h; omega
              | cons g gs ihg =>
                intro o n h
                simp only [consec] at h
                split at h
                · have := ihg _ _ h; omega
                · cases h
            have hle := hmono _ _ _ hc
            obtain ⟨c1, w1⟩ := ih f.type _ x.1 x.2 (hpl f (by simp)) h1
            obtain ⟨c2, w2⟩ := ihf _ xs' hc hle (fun g hg => hpl g (by simp [hg])) h2
            refine ⟨c1 ++ c2, ?_⟩
            have := w1.app w2
            rw [hfo, show List.drop (o + P.cellsOf f.type) vs = List.drop (P.cellsOf f.type) (List.drop o vs) by rw [List.drop_drop], List.take_append_drop] at this
            exact this
          · cases hc
      obtain ⟨cs, hw⟩ := go fs.toList 0 xs (by rw [hlen]; exact hp.1) (Nat.zero_le _) hp.2 hx
      rw [List.drop_zero] at hw
      exact ⟨cs, ⟨hw.len, fun ts' cs' h => .struct hu (hw.ty _ _ h), hw.vr⟩⟩
    · rename_i n e hu
      simp only [Bool.and_eq_true, decide_eq_true_eq] at hp
      obtain ⟨hlen, xs, hx⟩ := trod_array hu h
      have hpart : ∀ i, i < n → ∃ c, Won P w A [e] ((vs.drop (i * P.cellsOf e)).take (P.cellsOf e)) c := fun i hi => by
        obtain ⟨x, _, h1⟩ := mapM_get' hx i i (by rw [List.getElem?_range hi])
        exact ih e _ x.1 x.2 hp.2 h1
      have go : ∀ m, m ≤ n → ∃ cs, Won P w A (List.replicate m e) (vs.drop ((n - m) * P.cellsOf e)) cs := by
        intro m
        induction m with
        | zero => intro _; rw [Nat.sub_zero, List.drop_eq_nil_of_le (by omega)]; exact ⟨[], .nil⟩
        | succ m ihm =>
          intro hm
          obtain ⟨c1, w1⟩ := hpart (n - (m + 1)) (by omega)
          obtain ⟨c2, w2⟩ := ihm (by omega)
          refine ⟨c1 ++ c2, ?_⟩
          have := w1.app w2
          have hidx : (n - m) * P.cellsOf e = (n - (m + 1)) * P.cellsOf e + P.cellsOf e := by rw [← Nat.succ_mul]; congr 1; omega
          rw [hidx, ← List.drop_drop, List.take_append_drop] at this
          exact this
      obtain ⟨cs, hw⟩ := go n (Nat.le_refl _)
      rw [Nat.sub_self, Nat.zero_mul, List.drop_zero] at hw
      exact ⟨cs, ⟨hw.len, fun ts' cs' h => .array hu (hw.ty _ _ h), hw.vr⟩⟩
    · cases hp

/-! ### Arguments -/
/-- A value that is handed over. -/
def TyV (P : Program) (t : TypeId) (c : CV) : Prop := match aggT P t with
  | some true => ∃ cs, c = .ag cs ∧ Ty P [t] cs
  | _ => Ty P [t] [c]

inductive TyA (P : Program) : List TypeId → List CV → Prop
  | nil : TyA P [] []
  | cons {t : TypeId} {c : CV} {ts : List TypeId} {cs : List CV} : TyV P t c → TyA P ts cs → TyA P (t :: ts) (c :: cs)

theorem args_won {H : Type} {enc : TypeId × Value → H} {w : World} {A : Nat → Prop} (hA : ∀ k, A k) {base b0 : Nat} {spare : Nat → Bool} {held : Bool} {D : Nat} : ∀ {ts : List TypeId} {vs : List Value} {ds : List (DataW H)} {ps : List MemPlace},
    (∀ t ∈ ts, plainT P D t = true) → (∀ (j : Nat) t v, ts[j]? = some t → vs[j]? = some v → Value.okWide P w .any b0 t v) → DataW.TrodAll enc P w base spare held ts vs ds ps →
    ∃ cs, TyA P ts cs ∧ cs.length = vs.length ∧ ∀ (j : Nat) (c : CV) (v : Value), cs[j]? = some c → vs[j]? = some v → VR0 w A c v
  | [], [], _, _, _, _, _ => ⟨[], .nil, rfl, fun j c v h => by simp at h⟩
  | [], _ :: _, ds, _, _, _, h => by cases ds <;> cases h
  | _ :: _, [], ds, _, _, _, h => by cases ds <;> cases h
  | _ :: _, _ :: _, [], _, _, _, h => by cases h
  | t :: ts, v :: vs, d :: ds, ps, hp, hok, h => by
    obtain ⟨p, q, ⟨fuel, ht⟩, hr, _⟩ := h
    obtain ⟨cs, h1, h2, h3⟩ := args_won hA (fun t ht => hp t (by simp [ht])) (fun j t v ht hv => hok (j + 1) t v (by simpa using ht) (by simpa using hv)) hr
    obtain ⟨c1, w1⟩ := trod_won hA fuel D t v.cells.toList d p (hp t (by simp)) ht
    have hty : Ty P [t] c1 := by simpa using w1.ty [] [] .nil
    have hv := hok 0 t v rfl rfl
    have fin : ∀ c, TyV P t c → VR0 w A c v → ∃ cs, TyA P (t :: ts) cs ∧ cs.length = (v :: vs).length ∧ ∀ (j : Nat) (c : CV) (v' : Value), cs[j]? = some c → (v :: vs)[j]? = some v' → VR0 w A c v' := fun c hc hcv =>
      ⟨c :: cs, .cons hc h1, by simp [h2], fun j c' v' hj hjv => by
        cases j with
        | zero => simp only [List.getElem?_cons_zero, Option.some.injEq] at hj hjv; subst hj hjv; exact hcv
        | succ j => exact h3 j c' v' (by simpa using hj) (by simpa using hjv)⟩
    unfold Value.okWide at hv
    have agg : aggT P t = (P.underlying t).map fun d => match d with | .struct _ | .array _ _ => true | _ => false := rfl
    cases hu : P.underlying t with
    | none =>
      exfalso
      have := hp t (by simp)
      cases D with
      | zero => cases this
      | succ D => unfold plainT at this; rw [hu] at this; cases this
    | some dsc =>
      rw [hu] at hv agg
      have isAg : (∃ cs, v = .agg cs) → aggT P t = some true → ∃ cs, TyA P (t :: ts) cs ∧ cs.length = (v :: vs).length ∧ ∀ (j : Nat) (c : CV) (v' : Value), cs[j]? = some c → (v :: vs)[j]? = some v' → VR0 w A c v' := by
        rintro ⟨xs, rfl⟩ hag
        refine fin (.ag c1) (by unfold TyV; rw [hag]; exact ⟨c1, rfl, hty⟩) (.ag c1 xs (by have := w1.len; simp only [Value.cells, Array.length_toList] at this; exact this.symm) (fun j x hx => ?_) (fun j c x hc hx => ?_))
        · have hlt : j < c1.length := by rw [w1.len]; simp only [Value.cells, Array.length_toList]; exact (Array.getElem?_eq_some_iff.1 hx).1
          exact (w1.vr j c1[j] x (List.getElem?_eq_getElem hlt) (by simpa [Value.cells] using hx)).2
        · exact (w1.vr j c x hc (by simpa [Value.cells] using hx)).1
      have isOne : (∀ xs, v ≠ .agg xs) → aggT P t = some false → ∃ cs, TyA P (t :: ts) cs ∧ cs.length = (v :: vs).length ∧ ∀ (j : Nat) (c : CV) (v' : Value), cs[j]? = some c → (v :: vs)[j]? = some v' → VR0 w A c v' := by
        intro hne hag
        have hcells : v.cells.toList = [v] := by cases v <;> first | rfl | exact absurd rfl (hne _)
        have hl := w1.len
        rw [hcells] at hl
        obtain ⟨c, rfl⟩ : ∃ c, c1 = [c] := List.length_eq_one_iff.1 hl
        refine fin c (by unfold TyV; rw [hag]; exact hty) (w1.vr 0 c v rfl (by rw [hcells]; rfl)).1
      have notAgg : Cell.okWide P w .any b0 t v → ∀ xs, v ≠ .agg xs := by
        rintro hc xs rfl
        unfold Cell.okWide at hc
        rw [hu] at hc
        cases dsc <;> simp [Cell.ok, hu] at hc
      cases dsc <;> simp only [Option.map_some] at agg <;> first
        | exact isAg (by obtain ⟨cs, h, _⟩ := hv; exact ⟨cs, h⟩) agg
        | exact isOne (notAgg hv) agg

end
end Go.CM
