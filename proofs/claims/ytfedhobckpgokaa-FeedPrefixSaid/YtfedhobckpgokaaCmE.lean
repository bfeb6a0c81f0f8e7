/-
  The canonical machine, part E: slices: what they hold, append, slicing, copy, make, len.
-/
import Derived.Test.YtfedhobckpgokaaCmD
namespace Go.CM
open Go
set_option linter.unusedVariables false
set_option linter.unusedSimpArgs false

section
variable {P : Program} {w : World} {R : Nat → Prop} {B : Nat} {h : Hp} {μ : Mu}

theorem flatten_len {α : Type} {z : Nat} : ∀ {es : List (List α)}, (∀ e, e ∈ es → e.length = z) → es.flatten.length = es.length * z
  | [], _ => by simp
  | e :: es, hz => by
    rw [List.flatten_cons, List.length_append, hz e (by simp), flatten_len (fun e he => hz e (by simp [he])), List.length_cons, Nat.succ_mul, Nat.add_comm]

theorem flatten_get {α : Type} {z : Nat} : ∀ {es : List (List α)} {j : Nat} {c : α}, (∀ e, e ∈ es → e.length = z) → es.flatten[j]? = some c →
    ∃ i k e, j = i * z + k ∧ k < z ∧ es[i]? = some e ∧ e[k]? = some c
  | [], _, _, _, hj => by simp at hj
  | e :: es, j, c, hz, hj => by
    have he := hz e (by simp)
    rw [List.flatten_cons] at hj
    by_cases hlt : j < e.length
    · rw [List.getElem?_append_left hlt] at hj
      exact ⟨0, j, e, by simp, by omega, rfl, hj⟩
    · rw [List.getElem?_append_right (by omega)] at hj
      obtain ⟨i, k, e', h1, h2, h3, h4⟩ := flatten_get (fun e he => hz e (by simp [he])) hj
      exact ⟨i + 1, k, e', by rw [Nat.succ_mul]; omega, h2, by simpa using h3, h4⟩

/-- A row of cells in a world. -/
def RowAt (w : World) (R : Nat → Prop) (h : Hp) (μ : Mu) (xs : List CV) (vs : List Value) : Prop :=
  vs.length = xs.length ∧ ∀ (j : Nat) (c : CV), xs[j]? = some c → ∃ v : Value, vs[j]? = some v ∧ v.oneCell' = true ∧ VR w R h μ c v

theorem rowAt_of {w : World} {R : Nat → Prop} {h : Hp} {μ : Mu} {xs : List CV} (hx : ∀ (j : Nat) (c : CV), xs[j]? = some c → ∃ v : Value, v.oneCell' = true ∧ VR w R h μ c v) (f : Nat → Value)
    (hf : ∀ (j : Nat) (c : CV), xs[j]? = some c → (f j).oneCell' = true ∧ VR w R h μ c (f j)) : RowAt w R h μ xs ((List.range xs.length).map f) := by
  refine ⟨by simp, fun j c hj => ?_⟩
  have hlt : j < xs.length := (List.getElem?_eq_some_iff.1 hj).1
  exact ⟨f j, by simp [hlt], hf j c hj⟩

/-- Cells that lie in a row in memory, read. -/
theorem run_row {w2 : World} {xs : List CV} {blk o : Nat} (hcell : ∀ a, w2.cell? a = w.cell? a)
    (hx : ∀ (j : Nat) (c : CV), xs[j]? = some c → ∃ v : Value, w.cell? ⟨blk, o + j, none⟩ = some v ∧ v.oneCell' = true ∧ VR w R h μ c v) :
    ∃ vs : List Value, RowAt w R h μ xs vs ∧ ∀ k, k ≤ xs.length → ∀ w2 : World, (∀ a, w2.cell? a = w.cell? a) → (loadCells ⟨blk, o, none⟩ k).run P w2 = .ok (vs.take k).toArray w2 := by
  have hv : ∃ f : Nat → Value, ∀ (j : Nat) (c : CV), xs[j]? = some c → w.cell? ⟨blk, o + j, none⟩ = some (f j) ∧ (f j).oneCell' = true ∧ VR w R h μ c (f j) := by
    refine ⟨fun j => (w.cell? ⟨blk, o + j, none⟩).getD undef, fun j c hj => ?_⟩
    obtain ⟨v, h1, h2, h3⟩ := hx j c hj
    simp only [h1, Option.getD_some]
    exact ⟨trivial, h2, h3⟩
  obtain ⟨f, hf⟩ := hv
  refine ⟨(List.range xs.length).map f, ⟨by simp, fun j c hj => ?_⟩, fun k hk w2 hc2 => ?_⟩
  · have hlt : j < xs.length := (List.getElem?_eq_some_iff.1 hj).1
    exact ⟨f j, by simp [hlt], (hf j c hj).2⟩
  · have := run_loadCells_list (P := P) w2 ⟨blk, o, none⟩ (((List.range xs.length).map f).take k) (fun j v hj => by
      have hjk : j < k := by
        rcases Nat.lt_or_ge j k with h1 | h1
        · exact h1
        · rw [List.getElem?_eq_none (by simp; omega)] at hj; cases hj
      rw [List.getElem?_take_of_lt hjk, List.getElem?_map] at hj
      have hjn : j < xs.length := by omega
      rw [List.getElem?_range hjn] at hj
      simp only [Option.map_some, Option.some.injEq] at hj
      rw [Addr.add_mk, ← hj, hc2]
      exact (hf j _ (List.getElem?_eq_getElem hjn)).1)
    have hl : (((List.range xs.length).map f).take k).length = k := by simp; omega
    rw [hl] at this
    exact this

/-- What a slice holds, read; and its length. -/
theorem contents_ok (rel : Rel R B w h μ) {z n : Nat} {x : CV} {xv : Value} {xs : List CV} (hc : contents h z x = some (xs, n)) (hx : VR w R h μ x xv) :
    xs.length = n * z ∧ (Builtin.lenOf xv).run P w = .ok n w ∧ ∃ vs : List Value, RowAt w R h μ xs vs ∧
      ∀ k, k ≤ n → ∀ w2 : World, (∀ a, w2.cell? a = w.cell? a) → (Builtin.firstCells z k xv).run P w2 = .ok (vs.take (k * z)).toArray w2 := by
  cases hx with
  | nilS =>
    simp only [contents, Option.some.injEq, Prod.mk.injEq] at hc
    obtain ⟨rfl, rfl⟩ := hc
    exact ⟨by simp, by simp [Builtin.lenOf], [], ⟨rfl, fun j c hj => by simp at hj⟩, fun k _ w2 _ => by simp [Builtin.firstCells]⟩
  | str bs =>
    simp only [contents] at hc
    split at hc
    · rename_i hz; subst hz
      simp only [Option.some.injEq, Prod.mk.injEq] at hc
      obtain ⟨rfl, rfl⟩ := hc
      refine ⟨by simp, by simp [Builtin.lenOf], bs.data.toList.map fun b => .int .u8 b.toNat, ⟨by simp, fun j c hj => ?_⟩, fun k hk w2 _ => ?_⟩
      · rw [List.getElem?_map] at hj ⊢
        cases hb : bs.data.toList[j]? with
        | none => rw [hb] at hj; cases hj
        | some b =>
          rw [hb] at hj
          simp only [Option.map_some, Option.some.injEq] at hj
          subst hj
          exact ⟨_, rfl, rfl, .int _ _⟩
      · have hx : (bs.extract 0 k).data.toList = bs.data.toList.take k := by
          simp [ByteArray.extract, ByteArray.copySlice]
        have hy : (bs.extract 0 k).data = (bs.data.toList.take k).toArray := by rw [← hx]
        simp only [Builtin.firstCells, hy]
        simp
    · cases hc
  | rsl z' es blk off cap vals hl hz hcell hv =>
    simp only [contents] at hc
    split at hc
    · rename_i hzz; subst hzz
      simp only [Option.some.injEq, Prod.mk.injEq] at hc
      obtain ⟨rfl, rfl⟩ := hc
      have hlen := flatten_len hz
      have hrow : ∀ (j : Nat) (c : CV), es.flatten[j]? = some c → ∃ v : Value, w.cell? ⟨blk, off + j, none⟩ = some v ∧ v.oneCell' = true ∧ VR w R h μ c v := by
        intro j c hj
        obtain ⟨i, k, e, rfl, hk, he, hek⟩ := flatten_get hz hj
        have hi : i < es.length := (List.getElem?_eq_some_iff.1 he).1
        have hcc := hcell i k hi hk
        exact ⟨vals i k, hcc.here, hcc.one, hv i e he k c hek⟩
      obtain ⟨vs, h1, h2⟩ := run_row (P := P) (w2 := w) (fun _ => rfl) hrow
      refine ⟨hlen, by simp [Builtin.lenOf], vs, h1, fun k hk w2 hc2 => ?_⟩
      have := h2 (k * z) (by rw [hlen]; exact Nat.mul_le_mul_right _ hk) w2 hc2
      simp [Builtin.firstCells, this]
    · cases hc
  | rsl0 z' a cap =>
    simp only [contents] at hc
    split at hc
    · simp only [Option.some.injEq, Prod.mk.injEq] at hc
      obtain ⟨rfl, rfl⟩ := hc
      exact ⟨by simp, by simp [Builtin.lenOf], [], ⟨rfl, fun j c hj => by simp at hj⟩, fun k hk w2 _ => by
        obtain rfl : k = 0 := by simpa using hk
        simp [Builtin.firstCells, loadCells, loadCellsFrom]⟩
    · cases hc
  | sl z' b off len cap sz cap' cs m hb hm hl ho hcap =>
    simp only [contents, hb, true_and] at hc
    split at hc
    · rename_i hzz; subst hzz
      simp only [Option.some.injEq, Prod.mk.injEq] at hc
      obtain ⟨rfl, rfl⟩ := hc
      have hbk := rel.blk b m hm
      rw [hb] at hbk
      obtain ⟨h1, h2, arr, t, fz, h3, h4, h5, h6⟩ := hbk
      have hmul : len * z ≤ cap * z := Nat.mul_le_mul_right _ hl
      have hlen : ((cs.drop off).take (len * z)).length = len * z := by
        rw [List.length_take, List.length_drop]; omega
      have hrow : ∀ (j : Nat) (c : CV), ((cs.drop off).take (len * z))[j]? = some c → ∃ v : Value, w.cell? ⟨m.r, (m.s + off) + j, none⟩ = some v ∧ v.oneCell' = true ∧ VR w R h μ c v := by
        intro j c hj
        have hlt : j < len * z := by
          have := (List.getElem?_eq_some_iff.1 hj).1
          rw [hlen] at this; exact this
        rw [List.getElem?_take_of_lt hlt, List.getElem?_drop] at hj
        obtain ⟨v, a1, a2, a3⟩ := h6 _ c hj
        exact ⟨v, by simp [World.cell?, h3, Nat.add_assoc, a1], a2, a3⟩
      obtain ⟨vs, k1, k2⟩ := run_row (P := P) (w2 := w) (fun _ => rfl) hrow
      refine ⟨hlen, by simp [Builtin.lenOf], vs, k1, fun k hk w2 hc2 => ?_⟩
      have := k2 (k * z) (by rw [hlen]; exact Nat.mul_le_mul_right _ hk) w2 hc2
      simp [Builtin.firstCells, this]
    · cases hc
  | slGone z' b off len cap sz cap' a hl hcc' hg =>
    unfold contents at hc
    rcases hg with hg | ⟨n', cs', hg, hlt⟩
    · simp [hg] at hc
    · simp only [hg] at hc
      split at hc
      · omega
      · cases hc
  | _ => simp [contents] at hc

/-! ### append -/
theorem elemT_some {t e : TypeId} (he : elemT P t = some e) : P.underlying t = some (.slice e) := by
  unfold elemT at he
  split at he
  · rename_i e' hu; cases he; exact hu
  · cases he

def notInt (P : Program) (u : TypeId) : Prop := ∃ d, P.underlying u = some d ∧ ∀ k, d ≠ .int k

theorem intD_of (d : TypeDesc) (hk : ∀ k, d ≠ .int k) : (match d with | .int _ => true | _ => false) = false := by
  cases d with
  | int k => exact absurd rfl (hk k)
  | _ => rfl

theorem run_append_fits {t u ty e : TypeId} {z n sLen sCap : Nat} {base : Option Addr} {xv : Value} {vs : List Value} {w' : World} (he : P.underlying t = some (.slice e)) (hz : sizeT P e = some z) (hu : notInt P u)
    (hl : (Builtin.lenOf xv).run P w = .ok n w) (hf : (Builtin.firstCells z n xv).run P w = .ok vs.toArray w) (hfit : sLen + n ≤ sCap)
    (hst : match base with | some a => (storeCells (a.add (sLen * z)) vs).run P w = .ok () w' | none => w' = w) :
    (Builtin.append_ #[t, u] ty #[.slice base sLen sCap, xv]).run P w = .ok (.slice base (sLen + n) sCap) w' := by
  obtain ⟨d, hd, hk⟩ := hu
  have hdi := intD_of d hk
  cases base with
  | none =>
    subst hst
    simp [Builtin.append_, run_und he, run_sizeOf' hz, run_und hd, hdi, hl, hfit, hf]
  | some a =>
    simp only at hst
    simp [Builtin.append_, run_und he, run_sizeOf' hz, run_und hd, hdi, hl, hfit, hf, hst]

theorem run_append_grows {t u ty e : TypeId} {i : TypeInfo} {zv : Value} {n sLen sCap : Nat} {base : Option Addr} {xv : Value} {olds vs : List Value} (he : P.underlying t = some (.slice e)) (hi : P.info? e = some i) (hzv : i.zero = some zv) (hu : notInt P u)
    (hl : (Builtin.lenOf xv).run P w = .ok n w) (hf : (Builtin.firstCells i.size n xv).run P w.drew = .ok vs.toArray w.drew) (ho : (Builtin.firstCells i.size sLen (.slice base sLen sCap)).run P w.drew = .ok olds.toArray w.drew)
    (hgrow : sCap < sLen + n) (hroom : (sLen + n) * i.bytes ≤ roomMax) (hb : 0 < i.bytes) :
    (Builtin.append_ #[t, u] ty #[.slice base sLen sCap, xv]).run P w =
      .ok (.slice (some ⟨w.heap.size, 0, none⟩) (sLen + n) (grownCap w (sLen + n) sCap e)) (w.drew.alloc (.cells ((olds ++ vs).toArray ++ Builtin.zeroCells zv.cells (grownCap w (sLen + n) sCap e - (sLen + n))) e)) := by
  obtain ⟨d, hd, hk⟩ := hu
  have hdi := intD_of d hk
  have hz : sizeT P e = some i.size := by simp [sizeT, hi]
  have hn : ¬ (sLen + n ≤ sCap) := by omega
  have h48' : ¬ (281474976710656 < Builtin.nextslicecap (sLen + n) sCap * i.bytes) := by
    have := growslice_fits hgrow hroom
    omega
  have hbytes : ¬ (i.bytes = 0) := by omega
  simp [Builtin.append_, run_und he, run_sizeOf' hz, run_und hd, hdi, hl, hn, typeInfo, hi, h48', hbytes, Question.forced, ho, hf, zeroValue, hzv, newRow, grownCap]
  rw [← Array.append_assoc, List.append_toArray olds vs]

theorem Ext.drew {h' : Hp} {μ' : Mu} {w' : World} (e : Ext w h μ w' h' μ') : Ext w h μ w' h' μ' := e

/-- What a value that is a slice looks like. -/
theorem slice_form {s : CV} {sv : Value} (hs : VR w R h μ s sv) (hk : s = .nilS ∨ (∃ z es, s = .rsl z es) ∨ ∃ z b off len cap sz, s = .sl z b off len cap sz) :
    ∃ base sLen sCap, sv = .slice base sLen sCap ∧ sLen ≤ sCap := by
  cases hs <;> simp at hk
  · exact ⟨_, _, _, rfl, Nat.le_refl _⟩
  · rename_i hl ho hcc
    exact ⟨_, _, _, rfl, by omega⟩
  · rename_i hl hcc' hg
    exact ⟨_, _, _, rfl, by omega⟩
  · rename_i hl hz hc hv
    exact ⟨_, _, _, rfl, by omega⟩
  · exact ⟨_, _, _, rfl, Nat.zero_le _⟩

theorem zeroLen_some {e : TypeId} {z : Nat} (hz : zeroLen P e = some z) : ∃ i v, P.info? e = some i ∧ i.zero = some v ∧ v.cells.size = z := by
  unfold zeroLen at hz
  cases hi : P.info? e with
  | none => rw [hi] at hz; cases hz
  | some i =>
    rw [hi] at hz
    simp only [Option.bind_some] at hz
    cases hv : i.zero with
    | none => rw [hv] at hz; cases hz
    | some v => rw [hv] at hz; exact ⟨i, v, rfl, hv, by simpa using hz⟩

theorem grow_row {e : TypeId} {zv : Value} {z need cap : Nat} {xs : List CV} {vs : List Value} (hz : zv.cells.size = z) (hl : xs.length = need * z) (hvs : RowAt w R h μ xs vs) (hcap : need ≤ cap) :
    (vs.toArray ++ Builtin.zeroCells zv.cells (cap - need)).size = cap * z ∧
    ∀ (j : Nat) (c : CV), xs[j]? = some c → ∃ v : Value, (vs.toArray ++ Builtin.zeroCells zv.cells (cap - need))[j]? = some v ∧ v.oneCell' = true ∧ VR w R h μ c v := by
  refine ⟨?_, fun j c hj => ?_⟩
  · have h1 : (Builtin.zeroCells zv.cells (cap - need)).size = (cap - need) * z := by simp [Builtin.zeroCells, hz]
    have h2 : need * z + (cap - need) * z = cap * z := by rw [← Nat.add_mul]; congr 1; omega
    rw [Array.size_append, h1, List.size_toArray, hvs.1, hl, h2]
  · obtain ⟨v, h1, h2, h3⟩ := hvs.2 j c hj
    have hlt : j < vs.length := (List.getElem?_eq_some_iff.1 h1).1
    refine ⟨v, ?_, h2, h3⟩
    rw [Array.getElem?_append_left (by simpa using hlt)]
    simpa using h1

theorem append_core (rel : Rel R B w h μ) {t u ty e : TypeId} {z by_ n : Nat} {s c : CV} {sv xv : Value} {h' : Hp} {xs : List CV} {vs : List Value} (hz : sizeT P e = some z) (hby : bytesT P e = some by_)
    (ha : appendW P h e z by_ s xs n = some (c, h')) (hs : VR w R h μ s sv) (hxl : xs.length = n * z) (hrow : RowAt w R h μ xs vs)
    (hfits : ∀ (base : Option Addr) (sLen sCap : Nat) (w' : World), sLen + n ≤ sCap → (match base with | some a => (storeCells (a.add (sLen * z)) vs).run P w = .ok () w' | none => w' = w) →
      (Builtin.append_ #[t, u] ty #[.slice base sLen sCap, xv]).run P w = .ok (.slice base (sLen + n) sCap) w')
    (hgrows : ∀ (i : TypeInfo) (zv : Value), P.info? e = some i → i.zero = some zv → ∀ (base : Option Addr) (sLen sCap : Nat) (olds : List Value), (Builtin.firstCells i.size sLen (.slice base sLen sCap)).run P w.drew = .ok olds.toArray w.drew →
      sCap < sLen + n → (sLen + n) * i.bytes ≤ roomMax → 0 < i.bytes → (Builtin.append_ #[t, u] ty #[.slice base sLen sCap, xv]).run P w =
      .ok (.slice (some ⟨w.heap.size, 0, none⟩) (sLen + n) (grownCap w (sLen + n) sCap e)) (w.drew.alloc (.cells ((olds ++ vs).toArray ++ Builtin.zeroCells zv.cells (grownCap w (sLen + n) sCap e - (sLen + n))) e))) :
    ∃ v w' μ', (Builtin.append_ #[t, u] ty #[sv, xv]).run P w = .ok v w' ∧ Ext w h μ w' h' μ' ∧ Rel R B w' h' μ' ∧ VR w' R h' μ' c v := by
  unfold appendW at ha
  by_cases hn : n = 0
  · -- nothing is appended
    subst hn
    simp only [if_true] at ha
    have hcs : (c, h') = (s, h) := by
      split at ha <;> first | (simp only [Option.some.injEq] at ha; exact ha.symm) | cases ha
    have hk : s = .nilS ∨ (∃ z es, s = .rsl z es) ∨ ∃ z b off len cap sz, s = .sl z b off len cap sz := by
      split at ha
      · exact .inl rfl
      · exact .inr (.inl ⟨_, _, rfl⟩)
      · exact .inr (.inr ⟨_, _, _, _, _, _, rfl⟩)
      · cases ha
    simp only [Prod.mk.injEq] at hcs
    obtain ⟨rfl, rfl⟩ := hcs
    obtain ⟨base, sLen, sCap, rfl, hle⟩ := slice_form hs hk
    have hv0 : vs = [] := by
      have : vs.length = 0 := by rw [hrow.1, hxl]; simp
      exact List.length_eq_zero_iff.1 this
    subst hv0
    have := hfits base sLen sCap w (by omega) (by cases base <;> simp [storeCells])
    exact ⟨_, w, μ, this, .refl _ _ _, rel, by simpa using hs⟩
  · rw [if_neg hn] at ha
    split at ha
    · cases ha
    · rename_i hcond
      simp only [not_or, Decidable.not_not] at hcond
      obtain ⟨hz0, hb0, hzl⟩ := hcond
      obtain ⟨i, zv, hi, hzv, hzs⟩ := zeroLen_some hzl
      have hsize : i.size = z := by simpa [sizeT, hi] using hz
      have hbytes : i.bytes = by_ := by simpa [bytesT, hi] using hby
      have hzpos : 0 < z := Nat.pos_of_ne_zero hz0
      have hdrew : ∀ a, w.drew.cell? a = w.cell? a := fun _ => rfl
      split at ha
      · -- append to nil
        split at ha
        · rename_i hroom
          simp only [Option.some.injEq, Prod.mk.injEq] at ha
          obtain ⟨rfl, rfl⟩ := ha
          cases hs
          have hg := hgrows i zv hi hzv none 0 0 [] (by simp [Builtin.firstCells]) (by omega) (by rw [hbytes]; simpa using hroom) (by omega)
          have hcap : n ≤ grownCap w (0 + n) 0 e := by have := grownCap_ge w (0 + n) 0 e; omega
          obtain ⟨hr1, hr2⟩ := grow_row (e := e) (zv := zv) (need := n) (cap := grownCap w (0 + n) 0 e) hzs (by rw [hxl]) hrow hcap
          have hp := rel.push (w' := w.drew.alloc (.cells (vs.toArray ++ Builtin.zeroCells zv.cells (grownCap w (0 + n) 0 e - n)) e)) xs _ e rfl rfl rfl rfl (by rw [hr1, hxl]; exact Nat.mul_le_mul_right _ hcap) hr2
          rw [hxl] at hp
          refine ⟨_, _, _, by simpa using hg, by simpa using hp.1, by simpa using hp.2, ?_⟩
          have := VR.sl (w := w.drew.alloc (.cells (vs.toArray ++ Builtin.zeroCells zv.cells (grownCap w (0 + n) 0 e - n)) e)) (R := R) (h := h.push (.cells (n * z) xs)) (μ := fupd μ h.n (some ⟨w.heap.size, 0, (vs.toArray ++ Builtin.zeroCells zv.cells (grownCap w (0 + n) 0 e - n)).size⟩))
            z h.n 0 n n (n * z) (grownCap w (0 + n) 0 e) xs ⟨w.heap.size, 0, (vs.toArray ++ Builtin.zeroCells zv.cells (grownCap w (0 + n) 0 e - n)).size⟩ (by simp [push_f, push_n]) (by simp) (Nat.le_refl _) (by omega) (.inr ⟨by omega, hcap, by simp only; rw [hr1]; omega⟩)
          simpa using this
        · cases ha
      · rename_i z' b off len cap sz
        cases hb : h.f b with
        | cells m cs =>
          rw [hb] at ha
          simp only at ha
          split at ha
          · rename_i hcnd
            obtain ⟨rfl, rfl, hroom⟩ := hcnd
            cases hs with
            | slGone _ _ _ _ _ _ cap' a hl hcc' hg =>
              exfalso
              rcases hg with hg | ⟨n', cs', hg, hlt⟩
              · rw [hg] at hb; cases hb
              · rw [hg] at hb; cases hb; omega
            | sl _ _ _ _ _ _ cap' cs' mm hb' hm hl ho hcc =>
              have hbk := rel.blk b mm hm
              rw [hb] at hbk
              obtain ⟨hclen, hT, _⟩ := hbk
              rw [hb] at hb'; cases hb'
              have hmul : len * z ≤ cap * z := Nat.mul_le_mul_right _ hl
              have hcap' : cap ≤ cap' := by rcases hcc with hcc | hcc <;> omega
              split at ha
              · -- in place, within what the machine knows
                rename_i hfit
                simp only [Option.some.injEq, Prod.mk.injEq] at ha
                obtain ⟨rfl, rfl⟩ := ha
                have hmul2 : len * z + n * z ≤ cap * z := by rw [← Nat.add_mul]; exact Nat.mul_le_mul_right _ hfit
                have hmax : max m (off + len * z + xs.length) = m := by omega
                obtain ⟨w', h1, h2, h3⟩ := write_ok (P := P) rel (cvs := xs) (vs := vs) (k := off + len * z) hb hm (by omega) hrow.1 (by omega) hrow.2
                rw [hmax] at h2 h3
                have hst : (storeCells ((⟨mm.r, mm.s + off, none⟩ : Addr).add (len * z)) vs).run P w = .ok () w' := by rw [Addr.add_mk, Nat.add_assoc]; exact h1
                refine ⟨_, w', μ, hfits (some ⟨mm.r, mm.s + off, none⟩) _ _ _ (by omega) hst, h2, h3, ?_⟩
                exact .sl z b off (len + n) cap m cap' _ mm (by simp [set_f, set_n]; rfl) hm hfit ho hcc
              · rename_i hnofit
                split at ha
                · -- beyond a slice whose end lies within the row: it moves
                  rename_i hexact
                  simp only [Option.some.injEq, Prod.mk.injEq] at ha
                  obtain ⟨rfl, rfl⟩ := ha
                  have hc' : cap' = cap := by rcases hcc with hcc | hcc <;> omega
                  subst hc'
                  have hco : contents h z (.sl z b off len cap' m) = some ((cs.drop off).take (len * z), len) := by simp [contents, hb]
                  obtain ⟨hol, _, olds, horow, hofc0⟩ := contents_ok (P := P) rel hco (VR.sl z b off len cap' m cap' cs mm hb hm hl ho hcc)
                  have hofc : ∀ w2 : World, (∀ a, w2.cell? a = w.cell? a) → (Builtin.firstCells z len (.slice (some ⟨mm.r, mm.s + off, none⟩) len cap')).run P w2 = .ok olds.toArray w2 := fun w2 hw2 => by
                    have := hofc0 len (Nat.le_refl _) w2 hw2
                    rwa [List.take_of_length_le (by rw [horow.1, hol]; exact Nat.le_refl _)] at this
                  have hg := hgrows i zv hi hzv (some ⟨mm.r, mm.s + off, none⟩) len cap' olds (by rw [hsize]; exact hofc w.drew hdrew) (by omega) (by rw [hbytes]; exact hroom) (by omega)
                  have hcap : len + n ≤ grownCap w (len + n) cap' e := grownCap_ge _ _ _ _
                  have hboth : RowAt w R h μ ((cs.drop off).take (len * z) ++ xs) (olds ++ vs) := by
                    refine ⟨by simp [horow.1, hrow.1], fun j c hj => ?_⟩
                    by_cases hlt : j < ((cs.drop off).take (len * z)).length
                    · rw [List.getElem?_append_left hlt] at hj
                      rw [List.getElem?_append_left (by rw [horow.1]; exact hlt)]
                      exact horow.2 j c hj
                    · rw [List.getElem?_append_right (by omega)] at hj
                      rw [List.getElem?_append_right (by rw [horow.1]; omega), horow.1]
                      exact hrow.2 _ c hj
                  have hbl : ((cs.drop off).take (len * z) ++ xs).length = (len + n) * z := by rw [List.length_append, hol, hxl, Nat.add_mul]
                  obtain ⟨hr1, hr2⟩ := grow_row (e := e) (zv := zv) (need := len + n) (cap := grownCap w (len + n) cap' e) hzs hbl hboth hcap
                  have hp := rel.push (w' := w.drew.alloc (.cells ((olds ++ vs).toArray ++ Builtin.zeroCells zv.cells (grownCap w (len + n) cap' e - (len + n))) e)) _ _ e rfl rfl rfl rfl (by rw [hr1, hbl]; exact Nat.mul_le_mul_right _ hcap) hr2
                  rw [hbl] at hp
                  refine ⟨_, _, _, hg, hp.1, hp.2, ?_⟩
                  have := VR.sl (w := w.drew.alloc (.cells ((olds ++ vs).toArray ++ Builtin.zeroCells zv.cells (grownCap w (len + n) cap' e - (len + n))) e)) (R := R) (h := h.push (.cells ((len + n) * z) ((cs.drop off).take (len * z) ++ xs))) (μ := fupd μ h.n (some ⟨w.heap.size, 0, ((olds ++ vs).toArray ++ Builtin.zeroCells zv.cells (grownCap w (len + n) cap' e - (len + n))).size⟩))
                    z h.n 0 (len + n) (len + n) ((len + n) * z) (grownCap w (len + n) cap' e) _ ⟨w.heap.size, 0, ((olds ++ vs).toArray ++ Builtin.zeroCells zv.cells (grownCap w (len + n) cap' e - (len + n))).size⟩ (by simp [push_f, push_n]; rfl) (by simp) (Nat.le_refl _) (by omega) (.inr ⟨by omega, hcap, by simp only; rw [hr1]; omega⟩)
                  simpa using this
                · rename_i hend
                  split at ha
                  · -- beyond the row's end: in place, or it moves
                    rename_i hoff
                    subst hoff
                    simp only [Option.some.injEq, Prod.mk.injEq] at ha
                    obtain ⟨rfl, rfl⟩ := ha
                    obtain ⟨he1, he2, he3⟩ : 0 + cap * z = m ∧ cap ≤ cap' ∧ mm.s + 0 + cap' * z ≤ mm.T := by rcases hcc with hcc | hcc <;> omega
                    have hgt : m < (len + n) * z := by
                      have : (cap + 1) * z ≤ (len + n) * z := Nat.mul_le_mul_right _ (by omega)
                      rw [Nat.add_mul] at this
                      omega
                    have hsum : len * z + n * z = (len + n) * z := by rw [Nat.add_mul]
                    by_cases hfit : len + n ≤ cap'
                    · have hmul3 : (len + n) * z ≤ cap' * z := Nat.mul_le_mul_right _ hfit
                      have hmax : max m (len * z + xs.length) = (len + n) * z := by omega
                      obtain ⟨w', h1, h2, h3⟩ := write_ok (P := P) rel (cvs := xs) (vs := vs) (k := len * z) hb hm (by omega) hrow.1 (by omega) hrow.2
                      rw [hmax] at h2 h3
                      have hspl : splice cs (len * z) xs = cs.take (len * z) ++ xs := by
                        unfold splice
                        rw [List.drop_eq_nil_of_le (by omega), List.append_nil]
                      rw [hspl] at h2 h3
                      have hst : (storeCells ((⟨mm.r, mm.s + 0, none⟩ : Addr).add (len * z)) vs).run P w = .ok () w' := by rw [Addr.add_mk, Nat.add_assoc]; simpa using h1
                      refine ⟨_, w', μ, hfits (some ⟨mm.r, mm.s + 0, none⟩) _ _ _ hfit hst, h2, h3, ?_⟩
                      exact .sl z b 0 (len + n) (len + n) ((len + n) * z) cap' _ mm (by simp [set_f, set_n]; rfl) hm (Nat.le_refl _) (by omega) (.inr ⟨by omega, hfit, he3⟩)
                    · have hco : contents h z (.sl z b 0 len cap m) = some ((cs.drop 0).take (len * z), len) := by simp [contents, hb]
                      obtain ⟨hol, _, olds, horow, hofc0⟩ := contents_ok (P := P) rel hco (VR.sl z b 0 len cap m cap' cs mm hb hm hl ho hcc)
                      have hofc : ∀ w2 : World, (∀ a, w2.cell? a = w.cell? a) → (Builtin.firstCells z len (.slice (some ⟨mm.r, mm.s + 0, none⟩) len cap')).run P w2 = .ok olds.toArray w2 := fun w2 hw2 => by
                        have := hofc0 len (Nat.le_refl _) w2 hw2
                        rwa [List.take_of_length_le (by rw [horow.1, hol]; exact Nat.le_refl _)] at this
                      rw [List.drop_zero] at hol horow
                      have hg := hgrows i zv hi hzv (some ⟨mm.r, mm.s + 0, none⟩) len cap' olds (by rw [hsize]; exact hofc w.drew hdrew) (by omega) (by rw [hbytes]; exact hroom) (by omega)
                      have hcap : len + n ≤ grownCap w (len + n) cap' e := grownCap_ge _ _ _ _
                      have hboth : RowAt w R h μ (cs.take (len * z) ++ xs) (olds ++ vs) := by
                        refine ⟨by simp [horow.1, hrow.1], fun j c hj => ?_⟩
                        by_cases hlt : j < (cs.take (len * z)).length
                        · rw [List.getElem?_append_left hlt] at hj
                          rw [List.getElem?_append_left (by rw [horow.1]; exact hlt)]
                          exact horow.2 j c hj
                        · rw [List.getElem?_append_right (by omega)] at hj
                          rw [List.getElem?_append_right (by rw [horow.1]; omega), horow.1]
                          exact hrow.2 _ c hj
                      have hbl : (cs.take (len * z) ++ xs).length = (len + n) * z := by rw [List.length_append, hol, hxl, Nat.add_mul]
                      obtain ⟨hr1, hr2⟩ := grow_row (e := e) (zv := zv) (need := len + n) (cap := grownCap w (len + n) cap' e) hzs hbl hboth hcap
                      have hp := rel.move (w' := w.drew.alloc (.cells ((olds ++ vs).toArray ++ Builtin.zeroCells zv.cells (grownCap w (len + n) cap' e - (len + n))) e)) hb hm rfl rfl rfl rfl hbl hgt (by rw [hr1]; exact Nat.mul_le_mul_right _ hcap) hr2
                      refine ⟨_, _, _, hg, hp.1, hp.2, ?_⟩
                      have := VR.sl (w := w.drew.alloc (.cells ((olds ++ vs).toArray ++ Builtin.zeroCells zv.cells (grownCap w (len + n) cap' e - (len + n))) e)) (R := R) (h := h.set b (.cells ((len + n) * z) (cs.take (len * z) ++ xs))) (μ := fupd μ b (some ⟨w.heap.size, 0, ((olds ++ vs).toArray ++ Builtin.zeroCells zv.cells (grownCap w (len + n) cap' e - (len + n))).size⟩))
                        z b 0 (len + n) (len + n) ((len + n) * z) (grownCap w (len + n) cap' e) _ ⟨w.heap.size, 0, ((olds ++ vs).toArray ++ Builtin.zeroCells zv.cells (grownCap w (len + n) cap' e - (len + n))).size⟩ (by simp [set_f, set_n]; rfl) (by simp) (Nat.le_refl _) (by omega) (.inr ⟨by omega, hcap, by simp only; rw [hr1]; omega⟩)
                      simpa using this
                  · cases ha
          · cases ha
        | _ => rw [hb] at ha; cases ha
      · cases ha

theorem append_ok (rel : Rel R B w h μ) {t u ty : TypeId} {s x c : CV} {sv xv : Value} {h' : Hp} (hu : notInt P u) (ha : appendC P h t s x = some (c, h')) (hs : VR w R h μ s sv) (hx : VR w R h μ x xv) :
    ∃ v w' μ', (Builtin.append_ #[t, u] ty #[sv, xv]).run P w = .ok v w' ∧ Ext w h μ w' h' μ' ∧ Rel R B w' h' μ' ∧ VR w' R h' μ' c v := by
  unfold appendC at ha
  cases he : elemT P t with
  | none => rw [he] at ha; cases ha
  | some e =>
  have hte := elemT_some he
  rw [he] at ha
  simp only at ha
  cases hz : sizeT P e with
  | none => rw [hz] at ha; cases ha
  | some z =>
  cases hby : bytesT P e with
  | none => rw [hz, hby] at ha; cases ha
  | some by_ =>
  rw [hz, hby] at ha
  simp only at ha
  cases hc : contents h z x with
  | none => rw [hc] at ha; cases ha
  | some xn =>
  obtain ⟨xs, n⟩ := xn
  rw [hc] at ha
  simp only at ha
  obtain ⟨hxl, hlen, vs, hrow, hfc0⟩ := contents_ok (P := P) rel hc hx
  have hfc : ∀ w2 : World, (∀ a, w2.cell? a = w.cell? a) → (Builtin.firstCells z n xv).run P w2 = .ok vs.toArray w2 := fun w2 hw2 => by
    have := hfc0 n (Nat.le_refl _) w2 hw2
    rwa [List.take_of_length_le (by rw [hrow.1, hxl]; exact Nat.le_refl _)] at this
  refine append_core rel hz hby ha hs hxl hrow (fun base sLen sCap w' hfit hst => run_append_fits hte hz hu hlen (hfc w (fun _ => rfl)) hfit hst) (fun i zv hi hzv base sLen sCap olds ho hg hr hb => ?_)
  have hsize : i.size = z := by simpa [sizeT, hi] using hz
  exact run_append_grows hte hi hzv hu hlen (by rw [hsize]; exact hfc w.drew (fun _ => rfl)) ho hg hr hb

end
end Go.CM
