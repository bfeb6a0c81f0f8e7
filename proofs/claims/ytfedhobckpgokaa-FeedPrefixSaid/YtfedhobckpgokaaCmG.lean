/-
  The canonical machine, part G: literals, make, copy, len, indexes, conversions, numbers, equality.
-/
import Derived.Test.YtfedhobckpgokaaCmF
namespace Go.CM
open Go
set_option linter.unusedVariables false
set_option linter.unusedSimpArgs false

section
variable {P : Program} {w : World} {R : Nat → Prop} {B : Nat} {h : Hp} {μ : Mu}

/-- A row as an array. -/
def RowA (w : World) (R : Nat → Prop) (h : Hp) (μ : Mu) (cs : List CV) (arr : Array Value) : Prop :=
  arr.size = cs.length ∧ ∀ (j : Nat) (c : CV), cs[j]? = some c → ∃ v : Value, arr[j]? = some v ∧ v.oneCell' = true ∧ VR w R h μ c v

theorem RowA.ag {cs : List CV} {arr : Array Value} (hr : RowA w R h μ cs arr) : VR w R h μ (.ag cs) (.agg arr) := by
  refine .ag _ _ hr.1 (fun j v hj => ?_) (fun j c v hc hj => ?_)
  · have hlt : j < cs.length := by have := (Array.getElem?_eq_some_iff.1 hj).1; rw [← hr.1]; exact this
    obtain ⟨u, h1, h2, _⟩ := hr.2 j _ (List.getElem?_eq_getElem hlt)
    rw [hj] at h1; cases h1; exact h2
  · obtain ⟨u, h1, _, h3⟩ := hr.2 j c hc
    rw [hj] at h1; cases h1; exact h3

theorem foldl_set : ∀ (l : List Value) (k off : Nat) (cells : Array Value), off + k + l.length ≤ cells.size →
    ((l.zipIdx k).foldl (fun cs (cj : Value × Nat) => cs.setIfInBounds (off + cj.2) cj.1) cells).size = cells.size ∧
    ∀ j, ((l.zipIdx k).foldl (fun cs (cj : Value × Nat) => cs.setIfInBounds (off + cj.2) cj.1) cells)[j]? = if off + k ≤ j ∧ j < off + k + l.length then l[j - (off + k)]? else cells[j]?
  | [], k, off, cells, _ => ⟨by simp, fun j => by simp; omega⟩
  | v :: l, k, off, cells, hl => by
    simp only [List.length_cons] at hl
    have ih := foldl_set l (k + 1) off (cells.setIfInBounds (off + k) v) (by simp; omega)
    simp only [List.zipIdx_cons, List.foldl_cons]
    refine ⟨by rw [ih.1]; simp, fun j => ?_⟩
    rw [ih.2 j]
    by_cases hj : off + (k + 1) ≤ j ∧ j < off + (k + 1) + l.length
    · rw [if_pos hj, if_pos (by simp only [List.length_cons]; omega)]
      have : j - (off + k) = (j - (off + (k + 1))) + 1 := by omega
      rw [this, List.getElem?_cons_succ]
    · rw [if_neg hj, Array.getElem?_setIfInBounds]
      by_cases he : off + k = j
      · subst he
        rw [if_pos rfl, if_pos (by omega), if_pos (by simp only [List.length_cons]; omega)]
        simp
      · rw [if_neg he, if_neg (by simp only [List.length_cons]; omega)]

theorem fill_ok {place : Nat → Option (Nat × Nat)} : ∀ (parts : List (Nat × CV)) (parts' : List (Nat × Value)) (cs : List CV) (arr : Array Value) (cs' : List CV),
    fillC place cs parts = some cs' → RowA w R h μ cs arr → parts'.length = parts.length → (∀ (j : Nat) (p : Nat × CV) (p' : Nat × Value), parts[j]? = some p → parts'[j]? = some p' → p'.1 = p.1 ∧ VR w R h μ p.2 p'.2) →
    ∃ arr', Instr.fill place arr parts' = some arr' ∧ RowA w R h μ cs' arr'
  | [], [], cs, arr, cs', hf, hr, _, _ => by
    simp only [fillC, Option.some.injEq] at hf; subst hf
    exact ⟨arr, rfl, hr⟩
  | [], _ :: _, _, _, _, _, _, hl, _ => by simp at hl
  | _ :: _, [], _, _, _, _, _, hl, _ => by simp at hl
  | (i, c) :: parts, (i', v) :: parts', cs, arr, cs', hf, hr, hl, hp => by
    obtain ⟨rfl, hv⟩ := hp 0 (i, c) (i', v) rfl rfl
    simp only at hv
    unfold fillC at hf
    cases hpl : place i' with
    | none => rw [hpl] at hf; cases hf
    | some os =>
    obtain ⟨off, size⟩ := os
    cases hc : c.cells with
    | none => rw [hpl, hc] at hf; cases hf
    | some vs =>
    rw [hpl, hc] at hf
    simp only at hf
    split at hf
    · rename_i hcond
      obtain ⟨hsz, hvs⟩ := cells_ok hv hc
      have hlist : v.cells.toList.length = vs.length := by simpa using hsz
      have hfs := foldl_set v.cells.toList 0 off arr (by rw [hr.1, hlist]; omega)
      have hzip : v.cells.zipIdx.foldl (fun cs (x : Value × Nat) => match x with | (c, j) => cs.setIfInBounds (off + j) c) arr = (v.cells.toList.zipIdx 0).foldl (fun cs (cj : Value × Nat) => cs.setIfInBounds (off + cj.2) cj.1) arr := by
        rw [← Array.foldl_toList]
        simp
      obtain ⟨arr', h1, h2⟩ := fill_ok parts parts' (splice cs off vs) (v.cells.zipIdx.foldl (fun cs (x : Value × Nat) => match x with | (c, j) => cs.setIfInBounds (off + j) c) arr) cs' hf (by
          rw [hzip]
          refine ⟨by rw [hfs.1, hr.1, splice_length (by omega)]; omega, fun j x hj => ?_⟩
          rw [hfs.2 j]
          rw [splice_get (by omega)] at hj
          split at hj
          · rename_i hlt
            rw [if_neg (by omega)]
            exact hr.2 j x hj
          · split at hj
            · rename_i h1 h2
              rw [if_pos (by rw [hlist]; omega)]
              obtain ⟨u, a1, a2, a3⟩ := hvs _ x hj
              exact ⟨u, by simpa using a1, a2, a3⟩
            · rename_i h1 h2
              rw [if_neg (by rw [hlist]; omega)]
              exact hr.2 j x hj) (by simpa using hl) (fun j p p' hj hj' => hp (j + 1) p p' (by simpa using hj) (by simpa using hj'))
      refine ⟨arr', ?_, h2⟩
      have hn1 : ¬ (v.cells.size ≠ size ∨ off + v.cells.size > arr.size) := by rw [hsz, hr.1]; omega
      simp only [Instr.fill, hpl]
      rw [if_neg (by simpa using hn1)]
      exact h1
    · cases hf

theorem zero_row {t : TypeId} {z : List CV} (hz : zeroT P t = some z) : ∃ v, (∀ w2 : World, (zeroValue t).run P w2 = .ok v w2) ∧ RowA w R h μ z v.cells := by
  obtain ⟨i, v, hi, hv, hs, hc⟩ := zero_ok (w := w) (R := R) (h := h) (μ := μ) hz
  exact ⟨v, fun w2 => run_zero hi hv, hs, hc⟩

theorem run_mapM_sizes {fs : Array Field} (hs : (fs.toList.all fun f => (sizeT P f.type).isSome) = true) :
    (fs.mapM fun f => (do pure (f.offset, ← sizeOf f.type) : Sem (Nat × Nat))).run P w = .ok ((fs.toList.map fun f => (f.offset, (sizeT P f.type).getD 0)).toArray) w := by
  rw [Array.mapM_eq_mapM_toList]
  simp only [Sem.run_map]
  have : ∀ l : List Field, (l.all fun f => (sizeT P f.type).isSome) = true → (l.mapM fun f => (do pure (f.offset, ← sizeOf f.type) : Sem (Nat × Nat))).run P w = .ok (l.map fun f => (f.offset, (sizeT P f.type).getD 0)) w := by
    intro l
    induction l with
    | nil => intro _; simp
    | cons f l ih =>
      intro hl
      simp only [List.all_cons, Bool.and_eq_true] at hl
      obtain ⟨n, hn⟩ := Option.isSome_iff_exists.1 hl.1
      simp only [List.mapM_cons, Sem.run_bind, run_sizeOf' hn, Result.andThen_ok, Sem.run_pure, ih hl.2, List.map_cons, hn, Option.getD_some]
  rw [this _ hs]
  rfl

theorem build_ok {t : TypeId} {parts : List (Nat × CV)} {parts' : Array (Nat × Value)} {c : CV} (hb : buildC P t parts = some c) (hl : parts'.size = parts.length)
    (hp : ∀ (j : Nat) (p : Nat × CV) (p' : Nat × Value), parts[j]? = some p → parts'[j]? = some p' → p'.1 = p.1 ∧ VR w R h μ p.2 p'.2) :
    ∃ v, (Instr.build t parts').run P w = .ok v w ∧ VR w R h μ c v := by
  unfold buildC at hb
  split at hb
  · rename_i zero fs hz hu
    split at hb
    · cases hb
    · rename_i hsz
      simp only [Bool.not_eq_true', Bool.not_eq_false] at hsz
      cases hf : fillC (placeS P fs) zero parts with
      | none => rw [hf] at hb; cases hb
      | some cs =>
        rw [hf] at hb
        simp only [Option.map_some, Option.some.injEq] at hb; subst hb
        obtain ⟨v, hv, hr⟩ := zero_row (w := w) (R := R) (h := h) (μ := μ) hz
        obtain ⟨arr', h1, h2⟩ := fill_ok parts parts'.toList zero v.cells cs hf hr (by simpa using hl) (fun j p p' hj hj' => hp j p p' hj (by simpa using hj'))
        have hplace : (fun i => ((fs.toList.map fun f => (f.offset, (sizeT P f.type).getD 0)).toArray)[i]?) = placeS P fs := by
          funext i
          simp only [placeS]
          simp only [List.getElem?_toArray, List.getElem?_map, Array.getElem?_toList]
          cases hfi : fs[i]? with
          | none => simp
          | some f =>
            rw [List.all_eq_true] at hsz
            have := hsz f (by have := Array.mem_of_getElem? hfi; simpa using this)
            obtain ⟨n, hn⟩ := Option.isSome_iff_exists.1 this
            simp [hn]
        refine ⟨_, ?_, h2.ag⟩
        simp only [Instr.build, Sem.run_bind, hv, Result.andThen_ok, run_und hu, run_mapM_sizes hsz]
        rw [hplace, h1]
        simp
  · rename_i zero n e hz hu
    cases hsz : sizeT P e with
    | none => rw [hsz] at hb; cases hb
    | some m =>
      rw [hsz] at hb
      simp only at hb
      cases hf : fillC (fun i => some (i * m, m)) zero parts with
      | none => rw [hf] at hb; cases hb
      | some cs =>
        rw [hf] at hb
        simp only [Option.map_some, Option.some.injEq] at hb; subst hb
        obtain ⟨v, hv, hr⟩ := zero_row (w := w) (R := R) (h := h) (μ := μ) hz
        obtain ⟨arr', h1, h2⟩ := fill_ok parts parts'.toList zero v.cells cs hf hr (by simpa using hl) (fun j p p' hj hj' => hp j p p' hj (by simpa using hj'))
        refine ⟨_, ?_, h2.ag⟩
        simp only [Instr.build, Sem.run_bind, hv, Result.andThen_ok, run_und hu, run_sizeOf' hsz]
        rw [h1]
        simp
  · cases hb

theorem repeat_len {zero : List CV} : ∀ n, (repeatC zero n).length = n * zero.length
  | 0 => by simp [repeatC]
  | n + 1 => by simp only [repeatC, List.length_append, repeat_len n, Nat.succ_mul]; omega

theorem repeat_get {zero : List CV} : ∀ (n j : Nat) (c : CV), (repeatC zero n)[j]? = some c → zero[j % zero.length]? = some c
  | 0, _, _, hj => by simp [repeatC] at hj
  | n + 1, j, c, hj => by
    simp only [repeatC] at hj
    by_cases hlt : j < zero.length
    · rw [List.getElem?_append_left hlt] at hj
      rwa [Nat.mod_eq_of_lt hlt]
    · rw [List.getElem?_append_right (by omega)] at hj
      have := repeat_get n _ c hj
      rwa [← Nat.mod_eq_sub_mod (by omega)] at this

/-- Zero cells, again and again. -/
theorem repeat_row {zero : List CV} {z : Array Value} (hr : RowA w R h μ zero z) (n : Nat) : RowA w R h μ (repeatC zero n) ((Array.range (n * zero.length)).map (z[· % z.size]!)) := by
  refine ⟨by simp [repeat_len], fun j c hj => ?_⟩
  have hlt : j < n * zero.length := by
    have := (List.getElem?_eq_some_iff.1 hj).1
    rwa [repeat_len] at this
  obtain ⟨v, h1, h2, h3⟩ := hr.2 _ c (repeat_get n j c hj)
  refine ⟨v, ?_, h2, h3⟩
  rw [← hr.1] at h1
  obtain ⟨hb, rfl⟩ := Array.getElem?_eq_some_iff.1 h1
  simp [hlt, hb]

theorem fill_len {z : Nat} : ∀ (parts : List (Nat × CV)) (a b : List CV), fillC (fun i => some (i * z, z)) a parts = some b → b.length = a.length := by
  intro parts
  induction parts with
  | nil => intro a b hab; simp only [fillC, Option.some.injEq] at hab; subst hab; rfl
  | cons p parts ih =>
    intro a b hab
    unfold fillC at hab
    split at hab
    · rename_i off size vs hpl hvc
      split at hab
      · rw [ih _ _ hab, splice_length (by omega)]; omega
      · cases hab
    · cases hab

theorem buildSlice_run {t e : TypeId} {len z : Nat} {zero cs : List CV} {parts : List (Nat × CV)} {parts' : Array (Nat × Value)} (he : elemT P t = some e) (hz : sizeT P e = some z) (hzero : zeroT P e = some zero) (hzl : zero.length = z) (hmax : len * z ≤ 16777216)
    (hf : fillC (fun i => some (i * z, z)) (repeatC zero len) parts = some cs) (hl : parts'.size = parts.length)
    (hp : ∀ (j : Nat) (p : Nat × CV) (p' : Nat × Value), parts[j]? = some p → parts'[j]? = some p' → p'.1 = p.1 ∧ VR w R h μ p.2 p'.2) :
    cs.length = len * z ∧ ∃ arr, (Instr.buildSlice t len parts').run P w = .ok (.slice (some ⟨w.heap.size, 0, none⟩) len len) (w.alloc (.cells arr e)) ∧ RowA w R h μ cs arr := by
  obtain ⟨v, hv, hr⟩ := zero_row (w := w) (R := R) (h := h) (μ := μ) hzero
  obtain ⟨arr', h1, h2⟩ := fill_ok parts parts'.toList _ _ cs hf (repeat_row hr len) (by simpa using hl) (fun j p p' hj hj' => hp j p p' hj (by simpa using hj'))
  refine ⟨by rw [fill_len _ _ _ hf, repeat_len, hzl], arr', ?_, h2⟩
  have hte := elemT_some he
  have hmax' : ¬ (len * z > 2 ^ 24) := by omega
  simp only [Instr.buildSlice, Sem.run_bind, run_und hte, Result.andThen_ok, run_sizeOf' hz, if_neg hmax']
  rw [hzl] at h1
  generalize hN : len * z = N at h1
  by_cases h0 : N = 0
  · subst h0
    have hnil : ∀ f : Nat → Value, (Array.range 0).map f = #[] := fun f => by simp [Array.range]
    rw [hnil] at h1
    simp [hnil, h1, newRow]
  · simp [h0, hv, h1, newRow]

theorem buildSlice_ok (rel : Rel R B w h μ) {t : TypeId} {len : Nat} {parts : List (Nat × CV)} {parts' : Array (Nat × Value)} {c : CV} {h' : Hp} (hb : buildSliceC P h t len parts = some (c, h')) (hl : parts'.size = parts.length)
    (hp : ∀ (j : Nat) (p : Nat × CV) (p' : Nat × Value), parts[j]? = some p → parts'[j]? = some p' → p'.1 = p.1 ∧ VR w R h μ p.2 p'.2) :
    ∃ v w' μ', (Instr.buildSlice t len parts').run P w = .ok v w' ∧ Ext w h μ w' h' μ' ∧ Rel R B w' h' μ' ∧ VR w' R h' μ' c v := by
  unfold buildSliceC at hb
  cases he : elemT P t with
  | none => rw [he] at hb; cases hb
  | some e =>
  rw [he] at hb
  simp only at hb
  cases hz : sizeT P e with
  | none => rw [hz] at hb; cases hb
  | some z =>
  cases hzero : zeroT P e with
  | none => rw [hz, hzero] at hb; cases hb
  | some zero =>
  rw [hz, hzero] at hb
  simp only at hb
  split at hb
  · rename_i hcond
    obtain ⟨hzl, hmax⟩ := hcond
    cases hf : fillC (fun i => some (i * z, z)) (repeatC zero len) parts with
    | none => rw [hf] at hb; cases hb
    | some cs =>
      rw [hf] at hb
      simp only [Option.map_some, Option.some.injEq, Prod.mk.injEq] at hb
      obtain ⟨rfl, rfl⟩ := hb
      obtain ⟨hcl, arr', hrun, h2⟩ := buildSlice_run he hz hzero hzl hmax hf hl hp
      have ha := alloc_ok rel (cs := cs) (vs := arr') e h2.1 h2.2
      rw [hcl] at ha
      obtain ⟨a1, a2, a3⟩ := ha
      refine ⟨.slice (some ⟨w.heap.size, 0, none⟩) len len, _, _, hrun, a1, a2, ?_⟩
      have := VR.sl (w := w.alloc (.cells arr' e)) (R := R) (h := h.push (.cells (len * z) cs)) (μ := fupd μ h.n (some ⟨w.heap.size, 0, arr'.size⟩)) z h.n 0 len len (len * z) len cs ⟨w.heap.size, 0, arr'.size⟩ (by simp [push_f, push_n]) (by simp) (Nat.le_refl _) (by omega)
        (.inr ⟨by omega, Nat.le_refl _, by simp only; rw [h2.1, hcl]; omega⟩)
      simpa using this
  · cases hb

theorem makeSlice_run {t e : TypeId} {z by_ : Nat} {zero : List CV} {kl kc : IntKind} {li ci : Int} (he : elemT P t = some e) (hz : sizeT P e = some z) (hby : bytesT P e = some by_) (hzero : zeroT P e = some zero) (hzl : zero.length = z)
    (h0 : 0 ≤ li) (hlc : li ≤ ci) (hc63 : ci < 9223372036854775808) (hroom : by_ * ci ≤ roomMax) :
    (repeatC zero ci.toNat).length = ci.toNat * z ∧ ∃ arr, (Instr.makeSlice t (.int kl li) (.int kc ci)).run P w = .ok (.slice (some ⟨w.heap.size, 0, none⟩) li.toNat ci.toNat) (w.alloc (.cells arr e)) ∧ RowA w R h μ (repeatC zero ci.toNat) arr := by
  obtain ⟨v, hv, hr⟩ := zero_row (w := w) (R := R) (h := h) (μ := μ) hzero
  have hrow := repeat_row hr ci.toNat
  refine ⟨by rw [repeat_len, hzl], _, ?_, hrow⟩
  obtain ⟨i, hi, hby'⟩ : ∃ i, P.info? e = some i ∧ i.bytes = by_ := by
    unfold bytesT at hby
    cases hi : P.info? e with
    | none => rw [hi] at hby; cases hby
    | some i => rw [hi] at hby; exact ⟨i, rfl, by simpa using hby⟩
  have hwl : IntKind.i64.wrap li = li := IntWalk.i64_in _ (by omega)
  have hwc : IntKind.i64.wrap ci = ci := IntWalk.i64_in _ (by omega)
  have hte := elemT_some he
  unfold roomMax at hroom
  have t1 : ¬ (ci < 0 ∨ (281474976710656 : Int) < (by_ : Int) * ci) := by omega
  have t2 : ¬ (li < 0) := by omega
  have t3 : ¬ (ci < li) := by omega
  rw [hzl]
  generalize hN : ci.toNat * z = N
  by_cases hz0 : N = 0
  · subst hz0
    have hnil : ∀ f : Nat → Value, (Array.range 0).map f = #[] := fun f => by simp [Array.range]
    simp [hnil, Instr.makeSlice, run_und hte, Go.asInt, asIntOf, typeInfo, hi, hby', hwl, hwc, t1, t2, t3, run_sizeOf' hz, hN, newRow]
  · simp [Instr.makeSlice, run_und hte, Go.asInt, asIntOf, typeInfo, hi, hby', hwl, hwc, t1, t2, t3, run_sizeOf' hz, hN, hz0, hv, newRow]

theorem makeSlice_ok (rel : Rel R B w h μ) {t : TypeId} {l c r : CV} {lv cv : Value} {h' : Hp} (hm : makeSliceC P h t l c = some (r, h')) (hl : VR w R h μ l lv) (hc : VR w R h μ c cv) :
    ∃ v w' μ', (Instr.makeSlice t lv cv).run P w = .ok v w' ∧ Ext w h μ w' h' μ' ∧ Rel R B w' h' μ' ∧ VR w' R h' μ' r v := by
  unfold makeSliceC at hm
  split at hm
  · rename_i e li ci he hli hci
    obtain ⟨kl, rfl⟩ := asInt_ok hli hl
    obtain ⟨kc, rfl⟩ := asInt_ok hci hc
    cases hz : sizeT P e with
    | none => rw [hz] at hm; cases hm
    | some z =>
    cases hby : bytesT P e with
    | none => rw [hz, hby] at hm; cases hm
    | some by_ =>
    cases hzero : zeroT P e with
    | none => rw [hz, hby, hzero] at hm; cases hm
    | some zero =>
    rw [hz, hby, hzero] at hm
    simp only at hm
    split at hm
    · rename_i hcond
      obtain ⟨hzl, h0, hlc, hc63, hroom⟩ := hcond
      simp only [Option.some.injEq, Prod.mk.injEq] at hm
      obtain ⟨rfl, rfl⟩ := hm
      obtain ⟨hlen, arr, hrun, hrow⟩ := makeSlice_run (w := w) (R := R) (h := h) (μ := μ) (kl := kl) (kc := kc) he hz hby hzero hzl h0 hlc hc63 hroom
      have ha := alloc_ok rel (cs := repeatC zero ci.toNat) e hrow.1 hrow.2
      rw [hlen] at ha
      obtain ⟨a1, a2, a3⟩ := ha
      refine ⟨.slice (some ⟨w.heap.size, 0, none⟩) li.toNat ci.toNat, _, _, hrun, a1, a2, ?_⟩
      have := VR.sl (w := w.alloc (.cells arr e)) (R := R) (h := h.push (.cells (ci.toNat * z) (repeatC zero ci.toNat))) (μ := fupd μ h.n (some ⟨w.heap.size, 0, arr.size⟩))
        z h.n 0 li.toNat ci.toNat (ci.toNat * z) ci.toNat (repeatC zero ci.toNat) ⟨w.heap.size, 0, arr.size⟩ (by simp [push_f, push_n]) (by simp) (by omega) (by omega)
        (.inr ⟨by omega, Nat.le_refl _, by simp only; rw [hrow.1, hlen]; omega⟩)
      simpa using this
    · cases hm
  · cases hm

theorem len_ok {t u : TypeId} {ty : TypeId} {x c : CV} {xv : Value} (hc : lenC P t x = some c) (hx : VR w R h μ x xv) : ∃ v, (Builtin.len_ #[t] ty #[xv]).run P w = .ok v w ∧ VR w R h μ c v := by
  unfold lenC at hc
  split at hc <;> (try (simp only [Option.some.injEq] at hc; subst hc))
  · rename_i s hu
    cases hx
    rename_i bs
    exact ⟨goInt bs.size, by simp [Builtin.len_, run_und hu], by have : (bs.data.toList.length : Int) = bs.size := by simp
                                                                 rw [this]; exact .int _ _⟩
  · rename_i n e hu
    exact ⟨goInt n, by simp [Builtin.len_, run_und hu], .int _ _⟩
  · rename_i e hu
    cases hx
    exact ⟨goInt (0 : Nat), by simp [Builtin.len_, run_und hu], .int _ _⟩
  · rename_i e z b off len cap sz hu
    cases hx <;> exact ⟨goInt len, by simp [Builtin.len_, run_und hu], .int _ _⟩
  · rename_i e z es hu
    cases hx
    · exact ⟨goInt es.length, by simp [Builtin.len_, run_und hu], .int _ _⟩
    · exact ⟨goInt (0 : Nat), by simp [Builtin.len_, run_und hu], .int _ _⟩
  · rename_i k e hu
    cases hx
    exact ⟨goInt 0, by simp [Builtin.len_, run_und hu], .int _ _⟩
  · cases hc

end
end Go.CM
