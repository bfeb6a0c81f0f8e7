/-
  The canonical machine, part F: slicing, literals, make, copy, len, indexes, conversions.
-/
import Derived.Test.YtfedhobckpgokaaCmE
import Derived.Lib.IndexBytes
namespace Go.CM
open Go
set_option linter.unusedVariables false
set_option linter.unusedSimpArgs false

section
variable {P : Program} {w : World} {R : Nat → Prop} {B : Nat} {h : Hp} {μ : Mu}

/-! ### Bounds -/
theorem bound_ok {x : CV} {xv : Value} {y n y' : Nat} {code : BoundsCode} (hb : boundC x y = some n) (hx : VR w R h μ x xv) (hy : y ≤ y') :
    n ≤ y ∧ (Instr.sliceBound xv y' code).run P w = .ok n w := by
  unfold boundC at hb
  cases hx with
  | int k i =>
    simp only at hb
    split at hb
    · rename_i hi
      simp only [Option.some.injEq] at hb
      subst hb
      refine ⟨by omega, ?_⟩
      have : (0 ≤ i ∧ i ≤ (y' : Int)) := ⟨hi.1, by omega⟩
      simp [Instr.sliceBound, asIntOf, this]
    · cases hb
  | _ => simp at hb

/-- An operand that may be left out. -/
def OptVR (w : World) (R : Nat → Prop) (h : Hp) (μ : Mu) : Option CV → Option Value → Prop
  | none, none => True
  | some c, some v => VR w R h μ c v
  | _, _ => False

theorem bounds_ok {lo hi mx : Option CV} {lo' hi' mx' : Option Value} {isS : Bool} {len cap cap' l m hh : Nat} (hb : boundsC len cap lo hi mx = some (l, hh, m)) (hlen : len ≤ cap) (hcap : cap ≤ cap')
    (h1 : OptVR w R h μ lo lo') (h2 : OptVR w R h μ hi hi') (h3 : OptVR w R h μ mx mx') :
    l ≤ hh ∧ hh ≤ m ∧ m ≤ cap ∧ (mx = none → m = cap) ∧ (Instr.sliceBounds isS len cap' lo' hi' mx').run P w = .ok (l, hh, if mx.isSome then m else cap') w := by
  unfold boundsC at hb
  cases mx with
  | none =>
    cases mx' with
    | some v => exact h3.elim
    | none =>
      simp only at hb
      cases hi with
      | none =>
        cases hi' with
        | some v => exact h2.elim
        | none =>
          simp only at hb
          cases lo with
          | none =>
            cases lo' with
            | some v => exact h1.elim
            | none =>
              simp only [Option.some.injEq, Prod.mk.injEq] at hb
              obtain ⟨rfl, rfl, rfl⟩ := hb
              exact ⟨by omega, hlen, Nat.le_refl _, fun _ => rfl, by simp [Instr.sliceBounds]⟩
          | some c =>
            cases lo' with
            | none => exact h1.elim
            | some v =>
              simp only at hb
              cases hl : boundC c len with
              | none => rw [hl] at hb; cases hb
              | some l' =>
                rw [hl] at hb
                simp only [Option.some.injEq, Prod.mk.injEq] at hb
                obtain ⟨rfl, rfl, rfl⟩ := hb
                have hx := bound_ok (P := P) (code := .sliceB) hl h1 (Nat.le_refl _)
                exact ⟨hx.1, hlen, Nat.le_refl _, fun _ => rfl, by simp [Instr.sliceBounds, hx.2]⟩
      | some ch =>
        cases hi' with
        | none => exact h2.elim
        | some vh =>
          simp only at hb
          cases hhi : boundC ch cap with
          | none => rw [hhi] at hb; cases hb
          | some h' =>
            rw [hhi] at hb
            simp only at hb
            have hx := bound_ok (P := P) (code := if isS then .sliceAcap else .sliceAlen) hhi h2 hcap
            cases lo with
            | none =>
              cases lo' with
              | some v => exact h1.elim
              | none =>
                simp only [Option.some.injEq, Prod.mk.injEq] at hb
                obtain ⟨rfl, rfl, rfl⟩ := hb
                exact ⟨by omega, hx.1, Nat.le_refl _, fun _ => rfl, by simp [Instr.sliceBounds, hx.2]⟩
            | some c =>
              cases lo' with
              | none => exact h1.elim
              | some v =>
                simp only at hb
                cases hl : boundC c h' with
                | none => rw [hl] at hb; cases hb
                | some l' =>
                  rw [hl] at hb
                  simp only [Option.some.injEq, Prod.mk.injEq] at hb
                  obtain ⟨rfl, rfl, rfl⟩ := hb
                  have hy := bound_ok (P := P) (code := .sliceB) hl h1 (Nat.le_refl _)
                  exact ⟨hy.1, hx.1, Nat.le_refl _, fun _ => rfl, by simp [Instr.sliceBounds, hx.2, hy.2]⟩
  | some cm =>
    cases mx' with
    | none => exact h3.elim
    | some vm =>
      simp only at hb
      cases hm : boundC cm cap with
      | none => rw [hm] at hb; cases hb
      | some m' =>
        rw [hm] at hb
        simp only at hb
        have hx := bound_ok (P := P) (code := if isS then .slice3Acap else .slice3Alen) hm h3 hcap
        cases hi with
        | none => cases hb
        | some ch =>
          cases hi' with
          | none => exact h2.elim
          | some vh =>
            simp only at hb
            cases hhi : boundC ch m' with
            | none => rw [hhi] at hb; cases hb
            | some h' =>
              rw [hhi] at hb
              simp only at hb
              have hy := bound_ok (P := P) (code := .slice3B) hhi h2 (Nat.le_refl _)
              cases lo with
              | none =>
                cases lo' with
                | some v => exact h1.elim
                | none =>
                  simp only [Option.some.injEq, Prod.mk.injEq] at hb
                  obtain ⟨rfl, rfl, rfl⟩ := hb
                  exact ⟨by omega, hy.1, hx.1, (fun hf => by cases hf), by simp [Instr.sliceBounds, hx.2, hy.2]⟩
              | some c =>
                cases lo' with
                | none => exact h1.elim
                | some v =>
                  simp only at hb
                  cases hl : boundC c h' with
                  | none => rw [hl] at hb; cases hb
                  | some l' =>
                    rw [hl] at hb
                    simp only [Option.some.injEq, Prod.mk.injEq] at hb
                    obtain ⟨rfl, rfl, rfl⟩ := hb
                    have hz := bound_ok (P := P) (code := .slice3C) hl h1 (Nat.le_refl _)
                    exact ⟨hz.1, hy.1, hx.1, (fun hf => by cases hf), by simp [Instr.sliceBounds, hx.2, hy.2, hz.2]⟩

/-! ### Slicing -/
theorem chunks_length {z : Nat} : ∀ (n : Nat) (cs : List CV), (chunks z n cs).length = n
  | 0, _ => rfl
  | n + 1, cs => by simp [chunks, chunks_length n]

theorem chunks_get {z : Nat} : ∀ (n : Nat) (cs : List CV) (i : Nat), i < n → (chunks z n cs)[i]? = some ((cs.drop (i * z)).take z)
  | 0, _, _, h => by omega
  | n + 1, cs, 0, _ => by simp [chunks]
  | n + 1, cs, i + 1, h => by
    simp only [chunks, List.getElem?_cons_succ]
    rw [chunks_get n _ i (by omega), List.drop_drop]
    congr 3
    rw [Nat.succ_mul]; omega

theorem slice_part (rel : Rel R B w h μ) {z b off cap sz l hh m m' cap' : Nat} {cs : List CV} {mm : M} {hasMax : Bool} (hb : h.f b = .cells sz cs) (hm : μ b = some mm) (ho : off + cap * z ≤ sz)
    (hcc : (off + cap * z < sz ∧ cap' = cap) ∨ (off + cap * z = sz ∧ cap ≤ cap' ∧ mm.s + off + cap' * z ≤ mm.T)) (h1 : l ≤ hh) (h2 : hh ≤ m) (h3 : m ≤ cap) (h4 : hasMax = false → m = cap)
    (hm' : m' = if hasMax then m else cap') (hlm : m ≠ l) :
    VR w R h μ (.sl z b (off + l * z) (hh - l) (m - l) sz) (.slice (some ((⟨mm.r, mm.s + off, none⟩ : Addr).add (l * z))) (hh - l) (m' - l)) := by
  have hbk := rel.blk b mm hm
  rw [hb] at hbk
  have hT := hbk.2.1
  rw [Addr.add_mk, Nat.add_assoc]
  have e1 : l * z + (m - l) * z = m * z := by rw [← Nat.add_mul]; congr 1; omega
  have e2 : m * z ≤ cap * z := Nat.mul_le_mul_right _ h3
  refine .sl z b _ _ _ sz _ cs mm hb hm (by omega) (by omega) ?_
  cases hasMax with
  | false =>
    have hmc := h4 rfl
    have hm2 : m' = cap' := by simpa using hm'
    rw [hm2]
    rcases hcc with ⟨a1, a2⟩ | ⟨a1, a2, a3⟩
    · rw [← hmc] at a1 a2
      exact .inl ⟨by omega, by omega⟩
    · rw [← hmc] at a1 a2
      refine .inr ⟨by omega, by omega, ?_⟩
      have e3 : l * z + (cap' - l) * z = cap' * z := by rw [← Nat.add_mul]; congr 1; omega
      omega
  | true =>
    have hm2 : m' = m := by simpa using hm'
    rw [hm2]
    by_cases hlt : off + l * z + (m - l) * z < sz
    · exact .inl ⟨hlt, rfl⟩
    · exact .inr ⟨by omega, Nat.le_refl _, by omega⟩

theorem extract_toList (s : ByteArray) (a b : Nat) : (s.extract a b).data.toList = (s.data.toList.drop a).take (b - a) := by
  simp [ByteArray.extract, ByteArray.copySlice, List.take_drop]

theorem VR.rsl0' (z : Nat) (p : Prop) [Decidable p] (a b : Addr) (cap : Nat) : VR w R h μ (.rsl z []) (.slice (if p then some a else some b) 0 cap) := by
  by_cases hp : p
  · rw [if_pos hp]; exact .rsl0 _ _ _
  · rw [if_neg hp]; exact .rsl0 _ _ _

theorem VR.slGone' (z b off len cap sz cap' : Nat) (p : Prop) [Decidable p] (a a' : Addr) (hl : len ≤ cap) (hc : cap ≤ cap') (hg : Gone h b sz) :
    VR w R h μ (.sl z b off len cap sz) (.slice (if p then some a else some a') len cap') := by
  by_cases hp : p
  · rw [if_pos hp]; exact .slGone _ _ _ _ _ _ _ _ hl hc hg
  · rw [if_neg hp]; exact .slGone _ _ _ _ _ _ _ _ hl hc hg

theorem slice_ok (rel : Rel R B w h μ) {t : TypeId} {x c : CV} {xv : Value} {lo hi mx : Option CV} {lo' hi' mx' : Option Value} (hs : sliceC P t x lo hi mx = some c) (hx : VR w R h μ x xv)
    (h1 : OptVR w R h μ lo lo') (h2 : OptVR w R h μ hi hi') (h3 : OptVR w R h μ mx mx') :
    ∃ v, (Instr.sliceAt t xv lo' hi' mx').run P w = .ok v w ∧ VR w R h μ c v := by
  unfold sliceC at hs
  split at hs
  · -- an array behind its address
    rename_i n e hu
    cases hz : sizeT P e with
    | none => rw [hz] at hs; cases hs
    | some z =>
    cases hb : boundsC n n lo hi mx with
    | none => rw [hz, hb] at hs; cases hs
    | some lhm =>
    obtain ⟨l, hh, m⟩ := lhm
    rw [hz, hb] at hs
    simp only at hs
    obtain ⟨k1, k2, k3, k4, k5⟩ := bounds_ok (P := P) (isS := false) hb (Nat.le_refl _) (Nat.le_refl _) h1 h2 h3
    have hif : (if mx.isSome = true then m else n) = m := by
      cases mx with
      | none => simp [k4 rfl]
      | some v => simp
    rw [hif] at k5
    split at hs
    · rename_i b off sz
      split at hs
      · rename_i hfit
        have hval : ∃ a, xv = .pointer (some a) := by cases hx <;> exact ⟨_, rfl⟩
        obtain ⟨a, rfl⟩ := hval
        refine ⟨_, by simp [Instr.sliceAt, run_und hu, Instr.sureAddr, k5, run_sizeOf' hz]; rfl, ?_⟩
        split at hs
        · rename_i hml
          simp only [Option.some.injEq] at hs; subst hs
          have : hh - l = 0 := by omega
          rw [this]
          exact .rsl0 _ _ _
        · rename_i hml
          simp only [Option.some.injEq] at hs; subst hs
          rw [if_neg hml]
          cases hx with
          | ptr _ _ _ cs mm hb' hm =>
            exact slice_part rel (cap := m) (cap' := m) (hasMax := true) hb' hm hfit (by
              have hbk := rel.blk b mm hm
              rw [hb'] at hbk
              have hT := hbk.2.1
              by_cases hlt : off + m * z < sz
              · exact .inl ⟨hlt, rfl⟩
              · exact .inr ⟨by omega, Nat.le_refl _, by omega⟩) k1 k2 (Nat.le_refl _) (fun hf => by cases hf) (by simp) hml
          | ptrGone _ _ _ _ hg => exact .slGone _ _ _ _ _ _ _ _ (by omega) (Nat.le_refl _) hg
      · cases hs
    · rename_i cs off
      split at hs
      · rename_i hfit
        simp only [Option.some.injEq] at hs; subst hs
        cases hx with
        | rptr _ _ blk o vals hc hv =>
          refine ⟨_, by simp [Instr.sliceAt, run_und hu, Instr.sureAddr, k5, run_sizeOf' hz]; rfl, ?_⟩
          have e0 : hh * z ≤ n * z := Nat.mul_le_mul_right _ (by omega)
          by_cases hml : m = l
          · have e1 : hh - l = 0 := by omega
            rw [e1]
            exact .rsl0 _ _ _
          · rw [if_neg hml, Addr.add_mk]
            have hl := chunks_length (z := z) (hh - l) (cs.drop (off + l * z))
            have hcells : ∀ i, i < hh - l → ∀ j, j < z → off + l * z + (i * z + j) < cs.length := by
              intro i hi' j hj
              have : (l + i + 1) * z ≤ hh * z := Nat.mul_le_mul_right _ (by omega)
              rw [Nat.add_mul, Nat.add_mul] at this
              omega
            have hget : ∀ i e', (chunks z (hh - l) (cs.drop (off + l * z)))[i]? = some e' → i < hh - l ∧ e' = ((cs.drop (off + l * z)).drop (i * z)).take z := by
              intro i e' he'
              have hi' : i < hh - l := by
                have := (List.getElem?_eq_some_iff.1 he').1
                omega
              rw [chunks_get _ _ _ hi'] at he'
              simp only [Option.some.injEq] at he'
              exact ⟨hi', he'.symm⟩
            have := VR.rsl (w := w) (R := R) (h := h) (μ := μ) z (chunks z (hh - l) (cs.drop (off + l * z))) blk (o + off + l * z) (m - l) (fun i j => vals (off + l * z + (i * z + j))) (by omega)
              (fun e' he' => by
                obtain ⟨i, hi', rfl⟩ := List.getElem_of_mem he'
                obtain ⟨a1, a2⟩ := hget i _ (List.getElem?_eq_getElem hi')
                rw [a2, List.length_take, List.length_drop, List.length_drop]
                have : (l + i + 1) * z ≤ hh * z := Nat.mul_le_mul_right _ (by omega)
                rw [Nat.add_mul, Nat.add_mul] at this
                omega)
              (fun i j hi' hj => by
                have := hc (off + l * z + (i * z + j)) (hcells i (by omega) j hj)
                have e3 : o + off + l * z + (i * z + j) = o + (off + l * z + (i * z + j)) := by omega
                rw [e3]; exact this)
              (fun i e' he' j c hj => by
                obtain ⟨a1, rfl⟩ := hget i _ he'
                have hjz : j < z := by
                  have := (List.getElem?_eq_some_iff.1 hj).1
                  rw [List.length_take] at this; omega
                rw [List.getElem?_take_of_lt hjz, List.getElem?_drop, List.getElem?_drop, ] at hj
                exact hv _ c hj)
            rw [hl] at this
            exact this
      · cases hs
    · cases hs
  · -- a slice
    rename_i e hu
    split at hs
    · rename_i z z' b off len cap sz hz
      split at hs
      · rename_i hzz; subst hzz
        cases hb : boundsC len cap lo hi mx with
        | none => rw [hb] at hs; cases hs
        | some lhm =>
        obtain ⟨l, hh, m⟩ := lhm
        rw [hb] at hs
        simp only [Option.map_some, Option.some.injEq] at hs
        cases hx with
        | sl _ _ _ _ _ _ cap' cs mm hb' hm hl ho hcc =>
          have hcap' : cap ≤ cap' := by rcases hcc with hcc | hcc <;> omega
          obtain ⟨k1, k2, k3, k4, k5⟩ := bounds_ok (P := P) (isS := true) hb hl hcap' h1 h2 h3
          refine ⟨_, by simp [Instr.sliceAt, Instr.slice, run_und hu, k5, run_sizeOf' hz]; rfl, ?_⟩
          split at hs
          · rename_i hml
            subst hs
            have : hh - l = 0 := by omega
            rw [this]
            exact VR.rsl0' _ _ _ _ _
          · rename_i hml
            subst hs
            have hne : ¬ ((if mx.isSome = true then m else cap') = l) := by
              cases mx with
              | none => have := k4 rfl; simp; omega
              | some v => simpa using hml
            rw [if_neg hne]
            exact slice_part rel (hasMax := mx.isSome) hb' hm ho hcc k1 k2 k3 (fun hf => k4 (by simpa using hf)) rfl hml
        | slGone _ _ _ _ _ _ cap' a hl hcc hg =>
          obtain ⟨k1, k2, k3, k4, k5⟩ := bounds_ok (P := P) (isS := true) hb hl hcc h1 h2 h3
          refine ⟨_, by simp [Instr.sliceAt, Instr.slice, run_und hu, k5, run_sizeOf' hz]; rfl, ?_⟩
          split at hs
          · rename_i hml
            subst hs
            have : hh - l = 0 := by omega
            rw [this]
            exact VR.rsl0' _ _ _ _ _
          · rename_i hml
            subst hs
            have hle : m ≤ (if mx.isSome = true then m else cap') := by split <;> omega
            exact VR.slGone' _ _ _ _ _ _ _ _ _ _ (by omega) (by omega) hg
      · cases hs
    · rename_i z z' es hz
      split at hs
      · rename_i hzz; subst hzz
        cases hb : boundsC es.length es.length lo hi mx with
        | none => rw [hb] at hs; cases hs
        | some lhm =>
        obtain ⟨l, hh, m⟩ := lhm
        rw [hb] at hs
        simp only [Option.map_some, Option.some.injEq] at hs
        subst hs
        cases hx with
        | rsl _ _ blk off cap vals hl hz' hc hv =>
          obtain ⟨k1, k2, k3, k4, k5⟩ := bounds_ok (P := P) (isS := true) hb (Nat.le_refl _) hl h1 h2 h3
          refine ⟨_, by simp [Instr.sliceAt, Instr.slice, run_und hu, k5, run_sizeOf' hz]; rfl, ?_⟩
          have hlen : ((es.drop l).take (hh - l)).length = hh - l := by rw [List.length_take, List.length_drop]; omega
          have hle : hh ≤ (if mx.isSome = true then m else cap) := by
            cases mx with
            | none => simp only [Option.isSome_none, Bool.false_eq_true, if_false]; omega
            | some v => simpa using k2
          by_cases hml : (if mx.isSome = true then m else cap) = l
          · have e1 : hh - l = 0 := by omega
            rw [if_pos hml, e1, List.take_zero]
            exact .rsl0 _ _ _
          · rw [if_neg hml, Addr.add_mk]
            have hget : ∀ i e', ((es.drop l).take (hh - l))[i]? = some e' → i < hh - l ∧ es[l + i]? = some e' := by
              intro i e' he'
              have hi' : i < hh - l := by
                have := (List.getElem?_eq_some_iff.1 he').1
                omega
              rw [List.getElem?_take_of_lt hi', List.getElem?_drop] at he'
              exact ⟨hi', he'⟩
            have := VR.rsl (w := w) (R := R) (h := h) (μ := μ) z ((es.drop l).take (hh - l)) blk (off + l * z) ((if mx.isSome = true then m else cap) - l) (fun i j => vals (l + i) j) (by omega)
              (fun e' he' => hz' e' (List.mem_of_mem_drop (List.mem_of_mem_take he')))
              (fun i j hi' hj => by
                have := hc (l + i) j (by omega) hj
                have e3 : off + l * z + (i * z + j) = off + ((l + i) * z + j) := by rw [Nat.add_mul]; omega
                rw [e3]; exact this)
              (fun i e' he' j c hj => hv (l + i) e' (hget i e' he').2 j c hj)
            rw [hlen] at this
            exact this
        | rsl0 _ a cap =>
          obtain ⟨k1, k2, k3, k4, k5⟩ := bounds_ok (P := P) (isS := true) hb (Nat.le_refl _) (Nat.zero_le cap) h1 h2 h3
          refine ⟨_, by simp at k5; simp [Instr.sliceAt, Instr.slice, run_und hu, k5, run_sizeOf' hz]; rfl, ?_⟩
          have e1 : hh - l = 0 := by simp at k3; omega
          rw [e1, List.take_zero]
          exact VR.rsl0' _ _ _ _ _
      · cases hs
    · rename_i z hz
      cases hx
      cases hb : boundsC 0 0 lo hi mx with
      | none => rw [hb] at hs; cases hs
      | some lhm =>
      obtain ⟨l, hh, m⟩ := lhm
      rw [hb] at hs
      simp only [Option.map_some, Option.some.injEq] at hs
      subst hs
      obtain ⟨k1, k2, k3, k4, k5⟩ := bounds_ok (P := P) (isS := true) hb (Nat.le_refl _) (Nat.le_refl _) h1 h2 h3
      obtain rfl : m = 0 := by omega
      obtain rfl : hh = 0 := by omega
      obtain rfl : l = 0 := by omega
      refine ⟨_, by simp [Instr.sliceAt, Instr.slice, run_und hu, k5, run_sizeOf' hz]; rfl, ?_⟩
      exact .nilS
    · cases hs
  · -- a string
    rename_i s hu
    split at hs
    · cases hx with
      | str bs =>
        cases hb : boundsC bs.data.toList.length bs.data.toList.length lo hi none with
        | none => rw [hb] at hs; cases hs
        | some lhm =>
        obtain ⟨l, hh, m⟩ := lhm
        rw [hb] at hs
        simp only [Option.map_some, Option.some.injEq] at hs
        subst hs
        cases mx' with
        | some v => exact h3.elim
        | none =>
          have hsz : bs.data.toList.length = bs.size := by simp
          rw [hsz] at hb
          obtain ⟨k1, k2, k3, k4, k5⟩ := bounds_ok (P := P) (isS := false) hb (Nat.le_refl _) (Nat.le_refl _) h1 h2 h3
          refine ⟨.string (bs.extract l hh), by simp [Instr.sliceAt, Instr.slice, run_und hu, k5], ?_⟩
          rw [← extract_toList]
          exact .str _
    · cases hs
  · cases hs

end
end Go.CM
