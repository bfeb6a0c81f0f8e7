/-
  The canonical machine, part C: what one operation does is what the model's operation does: loads, stores, addresses, numbers.
-/
import Derived.Test.YtfedhobckpgokaaCmB
namespace Go.CM
open Go
set_option linter.unusedVariables false
set_option linter.unusedSimpArgs false

section
variable {P : Program} {w : World} {R : Nat → Prop} {B : Nat} {h : Hp} {μ : Mu}

/-- What an operation hands back, and where it leaves the world. -/
def Good (R : Nat → Prop) (B : Nat) (w : World) (h : Hp) (μ : Mu) (r : Result Next) (c : CV) (h' : Hp) : Prop :=
  ∃ v w' μ', (r = .ok (.value v) w' ∨ (r = .ok .skip w' ∧ v = undef)) ∧ Ext w h μ w' h' μ' ∧ Rel R B w' h' μ' ∧ VR w' R h' μ' c v

theorem Good.pure (rel : Rel R B w h μ) {r : Result Next} {c : CV} {v : Value} (hr : r = .ok (.value v) w) (hv : VR w R h μ c v) : Good R B w h μ r c h :=
  ⟨v, w, μ, .inl hr, .refl _ _ _, rel, hv⟩

/-! ### Types -/
theorem run_und {t : TypeId} {d : TypeDesc} (hd : P.underlying t = some d) : (underlying t).run P w = .ok d w := by
  simp [underlying, hd]

theorem run_isAgg {t : TypeId} {b : Bool} (hb : aggT P t = some b) : (isAgg t).run P w = .ok b w := by
  unfold aggT at hb
  cases hd : P.underlying t with
  | none => rw [hd] at hb; cases hb
  | some d =>
    rw [hd] at hb
    simp only [Option.map_some, Option.some.injEq] at hb
    unfold isAgg
    simp only [Sem.run_bind, run_und hd, Result.andThen_ok]
    cases d <;> simp_all

theorem info_of_size {t : TypeId} {n : Nat} (hn : sizeT P t = some n) : ∃ i, P.info? t = some i ∧ i.size = n := by
  unfold sizeT at hn
  cases hi : P.info? t with
  | none => rw [hi] at hn; cases hn
  | some i => rw [hi] at hn; exact ⟨i, rfl, by simpa using hn⟩

theorem run_sizeOf' {t : TypeId} {n : Nat} (hn : sizeT P t = some n) : (sizeOf t).run P w = .ok n w := by
  obtain ⟨i, hi, hs⟩ := info_of_size hn
  simp [sizeOf, typeInfo, hi, hs]

theorem zero_of {t : TypeId} {z : List CV} (hz : zeroT P t = some z) : ∃ i v, P.info? t = some i ∧ i.zero = some v ∧ v.cells.toList.all Value.oneCell' = true ∧ z = v.cells.toList.map ofV1 := by
  unfold zeroT at hz
  cases hi : P.info? t with
  | none => rw [hi] at hz; cases hz
  | some i =>
    rw [hi] at hz
    simp only [Option.bind_some] at hz
    cases hv : i.zero with
    | none => rw [hv] at hz; cases hz
    | some v =>
      rw [hv] at hz
      simp only [Option.bind_some] at hz
      split at hz
      · rename_i h1
        exact ⟨i, v, rfl, hv, h1, by simpa using hz.symm⟩
      · cases hz

theorem run_zero {t : TypeId} {i : TypeInfo} {v : Value} (hi : P.info? t = some i) (hv : i.zero = some v) : (zeroValue t).run P w = .ok v w := by
  simp [zeroValue, typeInfo, hi, hv]

/-! ### Constants -/
theorem VR.ofV1 (v : Value) : VR w R h μ (ofV1 v) v := by
  cases v with
  | bool b => exact .bool _
  | int k n => exact .int _ _
  | string s => exact .str _
  | pointer a => cases a <;> first | exact .nilP | exact .bad _
  | slice a l c =>
    simp only [CM.ofV1]
    split
    · exact .nilS
    · exact .bad _
  | map r => cases r <;> first | exact .nilM | exact .bad _
  | nilFunc => exact .nilF
  | nilIface => exact .nilI
  | func fn first captured =>
    simp only [CM.ofV1]
    split
    · rename_i f h1 h2
      have e1 : first = #[] := by simpa using h1
      have e2 : captured = #[] := by simpa using h2
      subst e1 e2
      exact .fn _ [] [] #[] #[] rfl rfl (fun _ _ _ hh => by simp at hh) (fun _ _ _ hh => by simp at hh)
    · exact .bad _
  | _ => exact .bad _

theorem VR.ofV (v : Value) : VR w R h μ (ofV v) v := by
  unfold CM.ofV
  split
  · rename_i cs
    split
    · rename_i hcs
      refine .ag _ _ (by simp) (fun j v hj => ?_) (fun j c v hc hvj => ?_)
      · rw [List.all_eq_true] at hcs
        exact hcs v (by have := Array.mem_of_getElem? hj; simpa using this)
      · rw [List.getElem?_map] at hc
        simp only [Array.getElem?_toList, hvj, Option.map_some, Option.some.injEq] at hc
        subst hc
        exact VR.ofV1 v
    · exact .bad _
  · rename_i vs
    refine .tu _ _ (by simp) (fun j c v hc hvj => ?_)
    rw [List.getElem?_map] at hc
    simp only [Array.getElem?_toList, hvj, Option.map_some, Option.some.injEq] at hc
    subst hc
    exact VR.ofV1 v
  · exact VR.ofV1 v

/-- A value of one cell, in the machine and in the world. -/
theorem VR.one {c : CV} {v : Value} (hv : VR w R h μ c v) (h1 : c.one = true) : v.oneCell' = true := by
  cases hv <;> first | rfl | (simp [CV.one] at h1)

theorem cells_ok {c : CV} {v : Value} {cs : List CV} (hv : VR w R h μ c v) (hc : c.cells = some cs) :
    v.cells.size = cs.length ∧ ∀ (j : Nat) (x : CV), cs[j]? = some x → ∃ u : Value, v.cells[j]? = some u ∧ u.oneCell' = true ∧ VR w R h μ x u := by
  have single : ∀ (c : CV) (v : Value), VR w R h μ c v → v.cells = #[v] → v.oneCell' = true → ∀ cs, cs = [c] →
      v.cells.size = cs.length ∧ ∀ (j : Nat) (x : CV), cs[j]? = some x → ∃ u : Value, v.cells[j]? = some u ∧ u.oneCell' = true ∧ VR w R h μ x u := by
    intro c v hv hcv h1 cs hcs
    subst hcs
    rw [hcv]
    refine ⟨rfl, fun j x hx => ?_⟩
    cases j with
    | zero => simp at hx; subst hx; exact ⟨v, rfl, h1, hv⟩
    | succ j => simp at hx
  cases hv with
  | ag cs' vs hl h1 hv =>
    simp only [CV.cells, Option.some.injEq] at hc; subst hc
    refine ⟨hl, fun j x hx => ?_⟩
    have hj : j < vs.size := by rw [hl]; exact (List.getElem?_eq_some_iff.1 hx).1
    exact ⟨vs[j], by simp [Value.cells, hj], h1 j _ (by simp [hj]), hv j x _ hx (by simp [hj])⟩
  | tu cs' vs hl hv => simp [CV.cells] at hc
  | bad v => simp [CV.cells] at hc
  | bool b => exact single _ _ (.bool b) rfl rfl _ (by simpa [CV.cells] using hc.symm)
  | int k n => exact single _ _ (.int k n) rfl rfl _ (by simpa [CV.cells] using hc.symm)
  | str bs => exact single _ _ (.str bs) rfl rfl _ (by simpa [CV.cells] using hc.symm)
  | nilP => exact single _ _ .nilP rfl rfl _ (by simpa [CV.cells] using hc.symm)
  | nilS => exact single _ _ .nilS rfl rfl _ (by simpa [CV.cells] using hc.symm)
  | nilM => exact single _ _ .nilM rfl rfl _ (by simpa [CV.cells] using hc.symm)
  | nilF => exact single _ _ .nilF rfl rfl _ (by simpa [CV.cells] using hc.symm)
  | nilI => exact single _ _ .nilI rfl rfl _ (by simpa [CV.cells] using hc.symm)
  | ptr b off sz cs' m hb hm => exact single _ _ (.ptr b off sz cs' m hb hm) rfl rfl _ (by simpa [CV.cells] using hc.symm)
  | ptrGone b off sz a hg => exact single _ _ (.ptrGone b off sz a hg) rfl rfl _ (by simpa [CV.cells] using hc.symm)
  | rptr cs' off blk o vals hc' hv => exact single _ _ (.rptr cs' off blk o vals hc' hv) rfl rfl _ (by simpa [CV.cells] using hc.symm)
  | sl z b off len cap sz cap' cs' m hb hm hl ho hc' => exact single _ _ (.sl z b off len cap sz cap' cs' m hb hm hl ho hc') rfl rfl _ (by simpa [CV.cells] using hc.symm)
  | slGone z b off len cap sz cap' a hl hc' hg => exact single _ _ (.slGone z b off len cap sz cap' a hl hc' hg) rfl rfl _ (by simpa [CV.cells] using hc.symm)
  | rsl z es blk off cap vals hl hz hc' hv => exact single _ _ (.rsl z es blk off cap vals hl hz hc' hv) rfl rfl _ (by simpa [CV.cells] using hc.symm)
  | rsl0 z a cap => exact single _ _ (.rsl0 z a cap) rfl rfl _ (by simpa [CV.cells] using hc.symm)
  | fn f fi ca fs cs' hf hc' h1 h2 => exact single _ _ (.fn f fi ca fs cs' hf hc' h1 h2) rfl rfl _ (by simpa [CV.cells] using hc.symm)
  | mp b m hb hm => exact single _ _ (.mp b m hb hm) rfl rfl _ (by simpa [CV.cells] using hc.symm)
  | it b m hb hm => exact single _ _ (.it b m hb hm) rfl rfl _ (by simpa [CV.cells] using hc.symm)
  | ifc t c v hv => exact single _ _ (.ifc t c v hv) rfl rfl _ (by simpa [CV.cells] using hc.symm)

/-! ### Loads -/
theorem Addr.add_mk (b o n : Nat) : (⟨b, o, none⟩ : Addr).add n = ⟨b, o + n, none⟩ := by unfold Addr.add; split <;> simp_all

theorem reach_ok (rel : Rel R B w h μ) {p : CV} {pv : Value} {cs : List CV} {off : Nat} (hr : reach h p = some (cs, off)) (hp : VR w R h μ p pv) :
    ∃ blk o, pv = .pointer (some ⟨blk, o + off, none⟩) ∧ ∀ (j : Nat) (c : CV), cs[j]? = some c → ∃ v : Value, w.cell? ⟨blk, o + j, none⟩ = some v ∧ v.oneCell' = true ∧ VR w R h μ c v := by
  cases hp with
  | ptr b off' sz cs' m hb hm =>
    simp only [reach, hb, ite_true, Option.some.injEq, Prod.mk.injEq] at hr
    obtain ⟨rfl, rfl⟩ := hr
    have hbk := rel.blk b m hm
    rw [hb] at hbk
    obtain ⟨h1, h2, arr, t, fz, h3, h4, h5, h6⟩ := hbk
    refine ⟨m.r, m.s, rfl, fun j c hj => ?_⟩
    obtain ⟨v, a1, a2, a3⟩ := h6 j c hj
    exact ⟨v, by simp [World.cell?, h3, a1], a2, a3⟩
  | ptrGone b off' sz a hg =>
    unfold reach at hr
    rcases hg with hg | ⟨n, cs', hg, hlt⟩
    · simp [hg] at hr
    · simp only [hg] at hr
      split at hr
      · omega
      · cases hr
  | rptr cs' off' blk o vals hc hv =>
    simp only [reach, Option.some.injEq, Prod.mk.injEq] at hr
    obtain ⟨rfl, rfl⟩ := hr
    exact ⟨blk, o, rfl, fun j c hj => ⟨vals j, (hc j (List.getElem?_eq_some_iff.1 hj).1).here, (hc j (List.getElem?_eq_some_iff.1 hj).1).one, hv j c hj⟩⟩
  | _ => simp [reach] at hr

theorem run_load' {a : Addr} {v : Value} (hv : w.cell? a = some v) : (load a).run P w = .ok v w := by simp [hv]

/-- A part of a row that lies in memory. -/
theorem run_loadVar_part {t : TypeId} {cs : List CV} {off : Nat} {c : CV} (hp : partC P t cs off = some c) {blk o : Nat}
    (hc : ∀ (j : Nat) (x : CV), cs[j]? = some x → ∃ v : Value, w.cell? ⟨blk, o + j, none⟩ = some v ∧ v.oneCell' = true ∧ VR w R h μ x v) :
    ∃ v, (loadVar t ⟨blk, o + off, none⟩).run P w = .ok v w ∧ VR w R h μ c v := by
  unfold partC at hp
  cases hag : aggT P t with
  | none => rw [hag] at hp; cases hp
  | some b =>
    rw [hag] at hp
    cases b with
    | false =>
      simp only at hp
      obtain ⟨v, h1, _, h3⟩ := hc off c hp
      exact ⟨v, by simp [loadVar, run_isAgg hag, h1], h3⟩
    | true =>
      cases hn : sizeT P t with
      | none => rw [hn] at hp; cases hp
      | some n =>
        rw [hn] at hp
        simp only at hp
        split at hp
        · rename_i hle
          simp only [Option.some.injEq] at hp
          subst hp
          have hex : ∀ j, j < n → ∃ v, w.cell? ⟨blk, o + (off + j), none⟩ = some v ∧ v.oneCell' = true ∧ VR w R h μ (cs.getD (off + j) .bad) v := by
            intro j hj
            have hlt : off + j < cs.length := by omega
            have := hc (off + j) cs[off + j] (by simp [hlt])
            simpa [List.getD, hlt] using this
          have hv : ∃ f : Nat → Value, ∀ j, j < n → w.cell? ⟨blk, o + (off + j), none⟩ = some (f j) ∧ (f j).oneCell' = true ∧ VR w R h μ (cs.getD (off + j) .bad) (f j) := by
            refine ⟨fun j => if hj : j < n then Classical.choose (hex j hj) else undef, fun j hj => ?_⟩
            simp only [hj, dif_pos]
            exact Classical.choose_spec (hex j hj)
          obtain ⟨f, hf⟩ := hv
          have hl : (loadCells ⟨blk, o + off, none⟩ n).run P w = .ok ((List.range n).map f).toArray w := by
            have := run_loadCells_list (P := P) w ⟨blk, o + off, none⟩ ((List.range n).map f) (fun j v hj => by
              rw [List.getElem?_map] at hj
              have hjn : j < n := by
                rcases Nat.lt_or_ge j n with h1 | h1
                · exact h1
                · rw [List.getElem?_eq_none (by simpa using h1)] at hj; cases hj
              rw [List.getElem?_range hjn] at hj
              simp only [Option.map_some, Option.some.injEq] at hj
              rw [Addr.add_mk, ← hj, Nat.add_assoc]
              exact (hf j hjn).1)
            simpa using this
          refine ⟨.agg ((List.range n).map f).toArray, by simp [loadVar, run_isAgg hag, run_sizeOf' hn, hl], .ag _ _ (by simp; omega) (fun j v hj => ?_) (fun j c v hc' hj => ?_)⟩
          · simp only [List.getElem?_toArray, List.getElem?_map] at hj
            have hjn : j < n := by
              rcases Nat.lt_or_ge j n with h1 | h1
              · exact h1
              · rw [List.getElem?_eq_none (by simpa using h1)] at hj; cases hj
            rw [List.getElem?_range hjn] at hj
            simp only [Option.map_some, Option.some.injEq] at hj
            rw [← hj]; exact (hf j hjn).2.1
          · simp only [List.getElem?_toArray, List.getElem?_map] at hj
            have hjn : j < n := by
              rcases Nat.lt_or_ge j n with h1 | h1
              · exact h1
              · rw [List.getElem?_eq_none (by simpa using h1)] at hj; cases hj
            rw [List.getElem?_range hjn] at hj
            simp only [Option.map_some, Option.some.injEq] at hj
            rw [List.getElem?_take_of_lt hjn, List.getElem?_drop] at hc'
            have := (hf j hjn).2.2
            rw [List.getD, hc'] at this
            rw [← hj]; simpa using this
        · cases hp

theorem load_ok (rel : Rel R B w h μ) {t : TypeId} {p : CV} {pv : Value} {c : CV} (hl : loadC P h t p = some c) (hp : VR w R h μ p pv) :
    ∃ v, (Instr.loadAt t pv).run P w = .ok v w ∧ VR w R h μ c v := by
  unfold loadC at hl
  cases hr : reach h p with
  | none => rw [hr] at hl; cases hl
  | some x =>
    obtain ⟨cs, off⟩ := x
    rw [hr] at hl
    obtain ⟨blk, o, rfl, hc⟩ := reach_ok rel hr hp
    obtain ⟨v, h1, h2⟩ := run_loadVar_part hl hc
    exact ⟨v, by simp [Instr.loadAt, Instr.sureAddr, h1], h2⟩

end
end Go.CM
