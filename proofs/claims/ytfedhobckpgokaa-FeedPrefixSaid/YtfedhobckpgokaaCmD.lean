/-
  The canonical machine, part D: stores, new blocks, addresses.
-/
import Derived.Test.YtfedhobckpgokaaCmC
namespace Go.CM
open Go
set_option linter.unusedVariables false
set_option linter.unusedSimpArgs false

section
variable {P : Program} {w : World} {R : Nat → Prop} {B : Nat} {h : Hp} {μ : Mu}

/-- A row of stores into a block of cells. -/
theorem run_storeRow (P : Program) (g o : Nat) (t : TypeId) (fz : Nat × Nat) : ∀ (vs : List Value) (i : Nat) (cur : Array Value) (w : World), w.heap[g]? = some (.cells cur t fz) → (fz = (0, 0) ∨ cur.size ≤ fz.1) →
    o + i + vs.length ≤ cur.size → (∀ v ∈ vs, v.oneCell' = true) →
    (storeCells ⟨g, o, none⟩ vs i).run P w = .ok () (w.setRow g (cur.toList.take (o + i) ++ vs ++ cur.toList.drop (o + i + vs.length)).toArray)
  | [], i, cur, w, hg, _, _, _ => by
    simp only [storeCells, List.append_nil, List.length_nil, Nat.add_zero, List.take_append_drop, Array.toArray_toList]
    rw [setRow_self w g cur t fz hg]
    rfl
  | v :: rest, i, cur, w, hg, hfz, hl, h1 => by
    have hi : o + i < cur.size := by simp at hl; omega
    have hadd : (⟨g, o, none⟩ : Addr).add i = ⟨g, o + i, none⟩ := Addr.add_mk _ _ _
    have hcell : w.cell? ⟨g, o + i, none⟩ = some cur[o + i] := by simp [World.cell?, hg, hi]
    have hfro : w.frozen? ⟨g, o + i, none⟩ = false := by
      obtain ⟨lo, hi'⟩ := fz
      rcases hfz with hfz | hfz
      · cases hfz; simp [World.frozen?, hg]
      · have : ¬ lo ≤ o + i := by simp at hfz; omega
        simp [World.frozen?, hg, this]
    have hst : (store ((⟨g, o, none⟩ : Addr).add i) v).run P w = .ok () (w.setRow g (cur.setIfInBounds (o + i) v)) := by
      rw [hadd, run_store P w _ v _ (h1 v (by simp)), hcell]
      simp [hfro, setCell_eq_setRow w g (o + i) cur t fz v hg]
    have ih := run_storeRow P g o t fz rest (i + 1) (cur.setIfInBounds (o + i) v) (w.setRow g (cur.setIfInBounds (o + i) v)) (setRow_heap w g cur _ t _ hg) (by simpa using hfz) (by simp at hl ⊢; omega) (fun x hx => h1 x (by simp [hx]))
    simp only [storeCells, Sem.run_bind, hst, Result.andThen_ok, ih, setRow_setRow]
    congr 3
    have := list_seg_step cur.toList (o + i) v rest (by simp at hl ⊢; omega)
    simpa [Nat.add_assoc, Nat.add_comm 1] using this

theorem splice_length {cs vs : List CV} {k : Nat} (hk : k ≤ cs.length) : (splice cs k vs).length = max cs.length (k + vs.length) := by
  unfold splice
  simp only [List.length_append, List.length_take, List.length_drop]
  omega

theorem splice_get {cs vs : List CV} {k j : Nat} (hk : k ≤ cs.length) : (splice cs k vs)[j]? = if j < k then cs[j]? else if j < k + vs.length then vs[j - k]? else cs[j]? := by
  unfold splice
  rw [List.append_assoc]
  by_cases h1 : j < k
  · rw [List.getElem?_append_left (by simp; omega), List.getElem?_take_of_lt h1, if_pos h1]
  · rw [List.getElem?_append_right (by simp; omega), if_neg h1]
    simp only [List.length_take, Nat.min_eq_left hk]
    by_cases h2 : j < k + vs.length
    · rw [List.getElem?_append_left (by omega), if_pos h2]
    · rw [List.getElem?_append_right (by omega), if_neg h2, List.getElem?_drop]
      congr 1; omega

/-- Cells are written into a block, from place k on; it may grow by it, within the row that it has. -/
theorem write_ok (rel : Rel R B w h μ) {b sz k : Nat} {cs cvs : List CV} {m : M} {vs : List Value} (hb : h.f b = .cells sz cs) (hm : μ b = some m) (hk : k ≤ sz)
    (hl : vs.length = cvs.length) (hfit : m.s + max sz (k + cvs.length) ≤ m.T)
    (hv : ∀ (j : Nat) (c : CV), cvs[j]? = some c → ∃ v : Value, vs[j]? = some v ∧ v.oneCell' = true ∧ VR w R h μ c v) :
    ∃ w', (storeCells ⟨m.r, m.s + k, none⟩ vs).run P w = .ok () w' ∧ Ext w h μ w' (h.set b (.cells (max sz (k + cvs.length)) (splice cs k cvs))) μ ∧
      Rel R B w' (h.set b (.cells (max sz (k + cvs.length)) (splice cs k cvs))) μ := by
  have hbk := rel.blk b m hm
  rw [hb] at hbk
  obtain ⟨hlen, hT, arr, t, fz, hr, ha, hfz, hc⟩ := hbk
  have h1 : ∀ v ∈ vs, v.oneCell' = true := by
    intro v hmem
    obtain ⟨j, hj, rfl⟩ := List.getElem_of_mem hmem
    obtain ⟨v, a1, a2, _⟩ := hv j (cvs[j]'(by omega)) (by simp)
    rw [List.getElem?_eq_getElem hj] at a1
    cases a1
    exact a2
  have hrun := run_storeRow P m.r (m.s + k) t fz vs 0 arr w hr (by rw [ha]; exact hfz) (by omega) h1
  simp only [Nat.add_zero] at hrun
  have hsize : (arr.toList.take (m.s + k) ++ vs ++ arr.toList.drop (m.s + k + vs.length)).toArray.size = arr.size := by
    simp only [List.size_toArray, List.length_append, List.length_take, List.length_drop, Array.length_toList]
    omega
  have hcl := rel.write (w' := w.setRow m.r (arr.toList.take (m.s + k) ++ vs ++ arr.toList.drop (m.s + k + vs.length)).toArray) (cs' := splice cs k cvs) (sz' := max sz (k + cvs.length)) hb hm hr ha hfz
    rfl rfl rfl (by simp [World.setRow]) (setRow_heap w m.r arr _ t fz hr) (fun k' hk' => setRow_other w m.r k' _ hk') hsize
    (by rw [splice_length (by omega), hlen]) (by omega) (by omega) (fun j c hj => ?_)
  · exact ⟨_, hrun, hcl.1, hcl.2⟩
  · rw [splice_get (by omega)] at hj
    simp only [List.getElem?_toArray]
    rw [List.append_assoc]
    split at hj
    · rename_i hlt
      obtain ⟨v, a1, a2, a3⟩ := hc j c hj
      refine ⟨v, ?_, a2, a3⟩
      rw [List.getElem?_append_left (by simp; omega), List.getElem?_take_of_lt (by omega)]
      simpa using a1
    · rename_i hge
      split at hj
      · rename_i hlt
        obtain ⟨v, a1, a2, a3⟩ := hv _ c hj
        refine ⟨v, ?_, a2, a3⟩
        have hmin : min (m.s + k) arr.size = m.s + k := by omega
        rw [List.getElem?_append_right (by simp; omega)]
        simp only [List.length_take, Array.length_toList, hmin]
        rw [List.getElem?_append_left (by omega), ← a1]
        congr 1; omega
      · rename_i hge2
        obtain ⟨v, a1, a2, a3⟩ := hc j c hj
        refine ⟨v, ?_, a2, a3⟩
        have hmin : min (m.s + k) arr.size = m.s + k := by omega
        rw [List.getElem?_append_right (by simp; omega)]
        simp only [List.length_take, Array.length_toList, hmin]
        rw [List.getElem?_append_right (by omega), List.getElem?_drop]
        have : (m.s + k + vs.length + (m.s + j - (m.s + k) - vs.length)) = m.s + j := by omega
        rw [this]
        simpa using a1

theorem store_ok (rel : Rel R B w h μ) {t : TypeId} {p v : CV} {pv vv : Value} {h' : Hp} (hs : storeC P h t p v = some h') (hp : VR w R h μ p pv) (hv : VR w R h μ v vv) :
    ∃ w', (Instr.storeAt t pv vv).run P w = .ok () w' ∧ Ext w h μ w' h' μ ∧ Rel R B w' h' μ := by
  unfold storeC at hs
  split at hs
  · rename_i b off sz vs n hcells hn
    obtain ⟨hsz, hvs⟩ := cells_ok hv hcells
    cases hb : h.f b with
    | cells m cs =>
      rw [hb] at hs
      simp only at hs
      split at hs
      · rename_i hcond
        obtain ⟨rfl, hlen, hfit⟩ := hcond
        simp only [Option.some.injEq] at hs
        subst hs
        cases hp with
        | ptr b' off' sz' cs' mm hb' hm =>
          have hbk := rel.blk b mm hm
          rw [hb] at hbk
          have hT := hbk.2.1
          obtain ⟨w', h1, h2, h3⟩ := write_ok (P := P) rel (cvs := vs) (vs := vv.cells.toList) (k := off) hb hm (by omega) (by simpa using hsz) (by omega)
            (fun j c hj => by obtain ⟨u, a1, a2, a3⟩ := hvs j c hj; exact ⟨u, by simpa using a1, a2, a3⟩)
          have hmax : max m (off + vs.length) = m := by omega
          rw [hmax] at h2 h3
          refine ⟨w', ?_, h2, h3⟩
          have hne : ¬ (vv.cells.size ≠ n) := by omega
          simp [Instr.storeAt, Instr.sureAddr, storeVar, run_sizeOf' hn, hne, h1]
        | ptrGone b' off' sz' a hg =>
          rcases hg with hg | ⟨n', cs', hg, hlt⟩
          · rw [hg] at hb; cases hb
          · rw [hg] at hb; cases hb; omega
      · cases hs
    | _ => rw [hb] at hs; cases hs
  · cases hs

/-! ### New blocks -/
theorem alloc_ok (rel : Rel R B w h μ) {cs : List CV} {vs : Array Value} (t : TypeId) (hl : vs.size = cs.length)
    (hv : ∀ (j : Nat) (c : CV), cs[j]? = some c → ∃ v : Value, vs[j]? = some v ∧ v.oneCell' = true ∧ VR w R h μ c v) :
    let h' := h.push (.cells cs.length cs)
    let μ' := fupd μ h.n (some ⟨w.heap.size, 0, vs.size⟩)
    let w' := w.alloc (.cells vs t)
    Ext w h μ w' h' μ' ∧ Rel R B w' h' μ' ∧ ∀ off, VR w' R h' μ' (.ptr h.n off cs.length) (.pointer (some ⟨w.heap.size, off, none⟩)) := by
  intro h' μ' w'
  have := rel.push (w' := w') cs vs t rfl rfl rfl rfl (by omega) hv
  refine ⟨this.1, this.2, fun off => ?_⟩
  have hp := VR.ptr (w := w') (R := R) (h := h') (μ := μ') h.n off cs.length cs ⟨w.heap.size, 0, vs.size⟩ (by simp [h', push_f, push_n]) (by simp [μ'])
  simpa using hp

theorem zero_ok {t : TypeId} {z : List CV} (hz : zeroT P t = some z) : ∃ i v, P.info? t = some i ∧ i.zero = some v ∧ v.cells.size = z.length ∧
    ∀ (j : Nat) (c : CV), z[j]? = some c → ∃ u : Value, v.cells[j]? = some u ∧ u.oneCell' = true ∧ VR w R h μ c u := by
  obtain ⟨i, v, hi, hv, h1, rfl⟩ := zero_of hz
  refine ⟨i, v, hi, hv, by simp, fun j c hj => ?_⟩
  rw [List.getElem?_map] at hj
  cases hu : v.cells[j]? with
  | none => simp [hu] at hj
  | some u =>
    simp [hu] at hj
    subst hj
    rw [List.all_eq_true] at h1
    exact ⟨u, rfl, h1 u (by have := Array.mem_of_getElem? hu; simpa using this), VR.ofV1 u⟩

/-! ### Addresses -/
theorem cellAt_ok {x : CV} {xv : Value} {k : Nat} {c : CV} (hc : cellAt x k = some c) (hx : VR w R h μ x xv) :
    ∃ a, xv = .pointer (some a) ∧ VR w R h μ c (.pointer (some (a.add k))) := by
  cases hx with
  | ptr b off sz cs m hb hm =>
    simp only [cellAt, Option.some.injEq] at hc; subst hc
    refine ⟨_, rfl, ?_⟩
    rw [Addr.add_mk, Nat.add_assoc]
    exact .ptr b _ sz cs m hb hm
  | ptrGone b off sz a hg =>
    simp only [cellAt, Option.some.injEq] at hc; subst hc
    exact ⟨a, rfl, .ptrGone _ _ _ _ hg⟩
  | rptr cs off blk o vals hc' hv =>
    simp only [cellAt, Option.some.injEq] at hc; subst hc
    refine ⟨_, rfl, ?_⟩
    rw [Addr.add_mk, Nat.add_assoc]
    exact .rptr cs _ blk o vals hc' hv
  | _ => simp [cellAt] at hc

theorem fieldOf_some {s : TypeId} {f : Nat} {fd : Field} (hf : fieldOf P s f = some fd) : ∃ fs, P.underlying s = some (.struct fs) ∧ fs[f]? = some fd := by
  unfold fieldOf at hf
  split at hf
  · rename_i fs hu; exact ⟨fs, hu, hf⟩
  · cases hf

theorem fieldAddr_ok {s : TypeId} {x c : CV} {xv : Value} {f : Nat} (hc : fieldAddrC P s x f = some c) (hx : VR w R h μ x xv) :
    ∃ v, (Instr.fieldAt s xv f).run P w = .ok v w ∧ VR w R h μ c v := by
  unfold fieldAddrC at hc
  split at hc
  · rename_i fd hf
    obtain ⟨fs, hu, hfs⟩ := fieldOf_some hf
    split at hc
    · rename_i n hn
      obtain ⟨a, rfl, hv⟩ := cellAt_ok hc hx
      refine ⟨_, ?_, hv⟩
      simp [Instr.fieldAt, run_und hu, hfs, Instr.sureAddr, fieldPlace, run_sizeOf' hn]
    · cases hc
  · cases hc

theorem asInt_ok {x : CV} {xv : Value} {n : Int} (hi : asInt x = some n) (hx : VR w R h μ x xv) : ∃ k, xv = .int k n := by
  cases hx <;> simp [asInt] at hi
  subst hi
  exact ⟨_, rfl⟩

theorem indexAddr_ok {t : TypeId} {x ix c : CV} {xv iv : Value} (hc : indexAddrC P t x ix = some c) (hx : VR w R h μ x xv) (hi : VR w R h μ ix iv) :
    ∃ v, (Instr.indexAt t xv iv).run P w = .ok v w ∧ VR w R h μ c v := by
  unfold indexAddrC at hc
  split at hc
  · rename_i len e i hu hix
    obtain ⟨k, rfl⟩ := asInt_ok hix hi
    cases hz : sizeT P e with
    | none => rw [hz] at hc; cases hc
    | some z =>
      rw [hz] at hc
      simp only at hc
      split at hc
      · rename_i hb
        obtain ⟨a, rfl, hv⟩ := cellAt_ok hc hx
        refine ⟨_, ?_, hv⟩
        simp [Instr.indexAt, asIntOf, run_und hu, Instr.sureAddr, hb, run_sizeOf' hz]
      · cases hc
  · rename_i e i hu hix
    obtain ⟨k, rfl⟩ := asInt_ok hix hi
    split at hc
    · rename_i z z' b off len cap sz hz
      split at hc
      · rename_i hb
        obtain ⟨rfl, hb⟩ := hb
        simp only [Option.some.injEq] at hc; subst hc
        cases hx with
        | sl _ _ _ _ _ _ cap' cs m hb' hm hl ho hcc =>
          refine ⟨_, ?_, VR.ptr b (off + i.toNat * z) sz cs m hb' hm⟩
          simp [Instr.indexAt, asIntOf, run_und hu, hb, run_sizeOf' hz, Addr.add_mk, Nat.add_assoc]
        | slGone _ _ _ _ _ _ cap' a hl hcc hg =>
          refine ⟨_, ?_, VR.ptrGone b _ sz (a.add (i.toNat * z)) hg⟩
          simp [Instr.indexAt, asIntOf, run_und hu, hb, run_sizeOf' hz]
      · cases hc
    · rename_i z z' es hz
      split at hc
      · rename_i hb
        obtain ⟨rfl, hb⟩ := hb
        cases he : es[i.toNat]? with
        | none => rw [he] at hc; cases hc
        | some e' =>
          rw [he] at hc
          simp only [Option.map_some, Option.some.injEq] at hc; subst hc
          have hlt : i.toNat < es.length := (List.getElem?_eq_some_iff.1 he).1
          have hin : (0 ≤ i ∧ i < (es.length : Int)) := by omega
          cases hx with
          | rsl _ _ blk off cap vals hl hz' hcell hv =>
            have hez : e'.length = z := hz' _ (List.mem_of_getElem? he)
            refine ⟨_, ?_, VR.rptr e' 0 blk (off + i.toNat * z) (vals i.toNat) (fun j hj => ?_) (hv _ _ he)⟩
            · simp [Instr.indexAt, asIntOf, run_und hu, hin, run_sizeOf' hz, Addr.add_mk]
            · have := hcell i.toNat j hlt (by omega)
              rwa [Nat.add_assoc]
          | rsl0 => simp at hlt
      · cases hc
    · cases hc
  · cases hc

end
end Go.CM
