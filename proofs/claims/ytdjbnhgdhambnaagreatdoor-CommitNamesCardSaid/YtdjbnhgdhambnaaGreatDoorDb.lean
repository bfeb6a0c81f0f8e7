/-
  The canonical machine, part E: slices: what they hold, append, slicing, copy, make, len.
-/
import Derived.Test.YtdjbnhgdhambnaaGreatDoorDa
import Derived.Lib.IndexBytes
import Derived.Laws.BytesString
import Derived.Lib.ConvBytes
set_option linter.unusedVariables false
set_option linter.unusedSimpArgs false
set_option linter.unnecessarySimpa false
namespace Go.CM
open Go
section
variable {P : Program} {w : World} {R : Nat → Prop} {B : Nat} {h : Hp} {μ : Mu}
theorem flatten_len {α : Type} {z : Nat} : ∀ {es : List (List α)}, (∀ e, e ∈ es → e.length = z) → es.flatten.length = es.length * z
 | [], _ => by simp
 | e :: es, hz => by
  rw [List.flatten_cons, List.length_append, hz e (by simp), flatten_len (fun e he => hz e (by simp [he])), List.length_cons, Nat.succ_mul, Nat.add_comm]
theorem flatten_get {α : Type} {z : Nat} : ∀ {es : List (List α)} {j : Nat} {c : α}, (∀ e, e ∈ es → e.length = z) → es.flatten[j]? = some c →
  ∃ i k e, j = i * z + k ∧ k < z ∧ es[i]? = some e ∧ e[k]? = some c
 | [], _, _, _, hj => by simp at hj
 | e :: es, j, c, hz, hj => by
  have he := hz e (by simp)
  rw [List.flatten_cons] at hj
  by_cases hlt : j < e.length
  ·rw [List.getElem?_append_left hlt] at hj
   exact ⟨0, j, e, by simp, by omega, rfl, hj⟩
  ·rw [List.getElem?_append_right (by omega)] at hj
   obtain ⟨i, k, e', h1, h2, h3, h4⟩ := flatten_get (fun e he => hz e (by simp [he])) hj
   exact ⟨i + 1, k, e', by rw [Nat.succ_mul]; omega, h2, by simpa using h3, h4⟩
def RowAt (w : World) (R : Nat → Prop) (h : Hp) (μ : Mu) (xs : List CV) (vs : List Value) : Prop :=
 vs.length = xs.length ∧ ∀ (j : Nat) (c : CV), xs[j]? = some c → ∃ v : Value, vs[j]? = some v ∧ v.oneCell' = true ∧ VR w R h μ c v
theorem run_row {w2 : World} {xs : List CV} {blk o : Nat} (hcell : ∀ a, w2.cell? a = w.cell? a)
  (hx : ∀ (j : Nat) (c : CV), xs[j]? = some c → ∃ v : Value, w.cell? ⟨blk, o + j, none⟩ = some v ∧ v.oneCell' = true ∧ VR w R h μ c v) :
  ∃ vs : List Value, RowAt w R h μ xs vs ∧ ∀ k, k ≤ xs.length → ∀ w2 : World, (∀ a, w2.cell? a = w.cell? a) → (loadCells ⟨blk, o, none⟩ k).run P w2 = .ok (vs.take k).toArray w2 := by
 have hv : ∃ f : Nat → Value, ∀ (j : Nat) (c : CV), xs[j]? = some c → w.cell? ⟨blk, o + j, none⟩ = some (f j) ∧ (f j).oneCell' = true ∧ VR w R h μ c (f j) := by
  refine ⟨fun j => (w.cell? ⟨blk, o + j, none⟩).getD undef, fun j c hj => ?_⟩
  obtain ⟨v, h1, h2, h3⟩ := hx j c hj
  simp only [h1, Option.getD_some]
  exact ⟨trivial, h2, h3⟩
 obtain ⟨f, hf⟩ := hv
 refine ⟨(List.range xs.length).map f, ⟨by simp, fun j c hj => ?_⟩, fun k hk w2 hc2 => ?_⟩
 ·have hlt : j < xs.length := (List.getElem?_eq_some_iff.1 hj).1
  exact ⟨f j, by simp [hlt], (hf j c hj).2⟩
 ·have := run_loadCells_list (P := P) w2 ⟨blk, o, none⟩ (((List.range xs.length).map f).take k) (fun j v hj => by
   have hjk : j < k := by
    rcases Nat.lt_or_ge j k with h1 | h1
    ·exact h1
    ·rw [List.getElem?_eq_none (by simp; omega)] at hj; cases hj
   rw [List.getElem?_take_of_lt hjk, List.getElem?_map] at hj
   have hjn : j < xs.length := by omega
   rw [List.getElem?_range hjn] at hj
   simp only [Option.map_some, Option.some.injEq] at hj
   rw [Addr.add_mk, ← hj, hc2]
   exact (hf j _ (List.getElem?_eq_getElem hjn)).1)
  have hl : (((List.range xs.length).map f).take k).length = k := by simp; omega
  rw [hl] at this
  exact this
theorem contents_ok (rel : Rel R B w h μ) {z n : Nat} {x : CV} {xv : Value} {xs : List CV} (hc : contents h z x = some (xs, n)) (hx : VR w R h μ x xv) :
  xs.length = n * z ∧ (Builtin.lenOf xv).run P w = .ok n w ∧ ∃ vs : List Value, RowAt w R h μ xs vs ∧
   ∀ k, k ≤ n → ∀ w2 : World, (∀ a, w2.cell? a = w.cell? a) → (Builtin.firstCells z k xv).run P w2 = .ok (vs.take (k * z)).toArray w2 := by
 cases hx with
 | nilS =>
  simp only [contents, Option.some.injEq, Prod.mk.injEq] at hc
  obtain ⟨rfl, rfl⟩ := hc
  exact ⟨by simp, by simp [Builtin.lenOf], [], ⟨rfl, fun j c hj => by simp at hj⟩, fun k _ w2 _ => by simp [Builtin.firstCells]⟩
 | str bs =>
  simp only [contents] at hc
  split at hc
  ·rename_i hz; subst hz
   simp only [Option.some.injEq, Prod.mk.injEq] at hc
   obtain ⟨rfl, rfl⟩ := hc
   refine ⟨by simp, by simp [Builtin.lenOf], bs.data.toList.map fun b => .int .u8 b.toNat, ⟨by simp, fun j c hj => ?_⟩, fun k hk w2 _ => ?_⟩
   ·rw [List.getElem?_map] at hj ⊢
    cases hb : bs.data.toList[j]? with
    | none => rw [hb] at hj; cases hj
    | some b =>
     rw [hb] at hj
     simp only [Option.map_some, Option.some.injEq] at hj
     subst hj
     exact ⟨_, rfl, rfl, .int _ _⟩
   ·have hx : (bs.extract 0 k).data.toList = bs.data.toList.take k := by
     simp [ByteArray.extract, ByteArray.copySlice]
    have hy : (bs.extract 0 k).data = (bs.data.toList.take k).toArray := by rw [← hx]
    simp only [Builtin.firstCells, hy]
    simp
  ·cases hc
 | rsl z' es blk off cap vals hl hz hcell hv =>
  simp only [contents] at hc
  split at hc
  ·rename_i hzz; subst hzz
   simp only [Option.some.injEq, Prod.mk.injEq] at hc
   obtain ⟨rfl, rfl⟩ := hc
   have hlen := flatten_len hz
   have hrow : ∀ (j : Nat) (c : CV), es.flatten[j]? = some c → ∃ v : Value, w.cell? ⟨blk, off + j, none⟩ = some v ∧ v.oneCell' = true ∧ VR w R h μ c v := by
    intro j c hj
    obtain ⟨i, k, e, rfl, hk, he, hek⟩ := flatten_get hz hj
    have hi : i < es.length := (List.getElem?_eq_some_iff.1 he).1
    have hcc := hcell i k hi hk
    exact ⟨vals i k, hcc.here, hcc.one, hv i e he k c hek⟩
   obtain ⟨vs, h1, h2⟩ := run_row (P := P) (w2 := w) (fun _ => rfl) hrow
   refine ⟨hlen, by simp [Builtin.lenOf], vs, h1, fun k hk w2 hc2 => ?_⟩
   have := h2 (k * z) (by rw [hlen]; exact Nat.mul_le_mul_right _ hk) w2 hc2
   simp [Builtin.firstCells, this]
  ·cases hc
 | rsl0 z' a cap =>
  simp only [contents] at hc
  split at hc
  ·simp only [Option.some.injEq, Prod.mk.injEq] at hc
   obtain ⟨rfl, rfl⟩ := hc
   exact ⟨by simp, by simp [Builtin.lenOf], [], ⟨rfl, fun j c hj => by simp at hj⟩, fun k hk w2 _ => by
    obtain rfl : k = 0 := by simpa using hk
    simp [Builtin.firstCells, loadCells, loadCellsFrom]⟩
  ·cases hc
 | sl z' b off len cap sz cap' cs m hb hm hl ho hcap =>
  simp only [contents, hb, true_and] at hc
  split at hc
  ·rename_i hzz; subst hzz
   simp only [Option.some.injEq, Prod.mk.injEq] at hc
   obtain ⟨rfl, rfl⟩ := hc
   have hbk := rel.blk b m hm
   rw [hb] at hbk
   obtain ⟨h1, h2, arr, t, fz, h3, h4, h5, h6⟩ := hbk
   have hmul : len * z ≤ cap * z := Nat.mul_le_mul_right _ hl
   have hlen : ((cs.drop off).take (len * z)).length = len * z := by
    rw [List.length_take, List.length_drop]; omega
   have hrow : ∀ (j : Nat) (c : CV), ((cs.drop off).take (len * z))[j]? = some c → ∃ v : Value, w.cell? ⟨m.r, (m.s + off) + j, none⟩ = some v ∧ v.oneCell' = true ∧ VR w R h μ c v := by
    intro j c hj
    have hlt : j < len * z := by
     have := (List.getElem?_eq_some_iff.1 hj).1
     rw [hlen] at this; exact this
    rw [List.getElem?_take_of_lt hlt, List.getElem?_drop] at hj
    obtain ⟨v, a1, a2, a3⟩ := h6 _ c hj
    exact ⟨v, by simp [World.cell?, h3, Nat.add_assoc, a1], a2, a3⟩
   obtain ⟨vs, k1, k2⟩ := run_row (P := P) (w2 := w) (fun _ => rfl) hrow
   refine ⟨hlen, by simp [Builtin.lenOf], vs, k1, fun k hk w2 hc2 => ?_⟩
   have := k2 (k * z) (by rw [hlen]; exact Nat.mul_le_mul_right _ hk) w2 hc2
   simp [Builtin.firstCells, this]
  ·cases hc
 | slEnd z' b off sz a cs m hb hm =>
  simp only [contents, hb, true_and] at hc
  split at hc
  ·rename_i hzz; subst hzz
   simp only [Option.some.injEq, Prod.mk.injEq, Nat.zero_mul, List.take_zero] at hc
   obtain ⟨rfl, rfl⟩ := hc
   exact ⟨by simp, by simp [Builtin.lenOf], [], ⟨rfl, fun j c hj => by simp at hj⟩, fun k hk w2 _ => by
    obtain rfl : k = 0 := by simpa using hk
    simp [Builtin.firstCells, loadCells, loadCellsFrom]⟩
  ·cases hc
 | slGone z' b off len cap sz cap' a hl hcc' hg =>
  unfold contents at hc
  rcases hg with hg | ⟨n', cs', hg, hlt⟩
  ·simp [hg] at hc
  ·simp only [hg] at hc
   split at hc
   ·omega
   ·cases hc
 | _ => simp [contents] at hc
theorem elemT_some {t e : TypeId} (he : elemT P t = some e) : P.underlying t = some (.slice e) := by
 unfold elemT at he
 split at he
 ·rename_i e' hu; cases he; exact hu
 ·cases he
def notInt (P : Program) (u : TypeId) : Prop := ∃ d, P.underlying u = some d ∧ ∀ k, d ≠ .int k
theorem intD_of (d : TypeDesc) (hk : ∀ k, d ≠ .int k) : (match d with | .int _ => true | _ => false) = false := by
 cases d with
 | int k => exact absurd rfl (hk k)
 | _ => rfl
theorem run_append_fits {t u ty e : TypeId} {z n sLen sCap : Nat} {base : Option Addr} {xv : Value} {vs : List Value} {w' : World} (he : P.underlying t = some (.slice e)) (hz : sizeT P e = some z) (hu : notInt P u)
  (hl : (Builtin.lenOf xv).run P w = .ok n w) (hf : (Builtin.firstCells z n xv).run P w = .ok vs.toArray w) (hfit : sLen + n ≤ sCap)
  (hst : match base with | some a => (storeCells (a.add (sLen * z)) vs).run P w = .ok () w' | none => w' = w) :
  (Builtin.append_ #[t, u] ty #[.slice base sLen sCap, xv]).run P w = .ok (.slice base (sLen + n) sCap) w' := by
 obtain ⟨d, hd, hk⟩ := hu
 have hdi := intD_of d hk
 cases base with
 | none =>
  subst hst
  simp [Builtin.append_, run_und he, run_sizeOf' hz, run_und hd, hdi, hl, hfit, hf]
 | some a =>
  simp only at hst
  simp [Builtin.append_, run_und he, run_sizeOf' hz, run_und hd, hdi, hl, hfit, hf, hst]
theorem run_append_grows {t u ty e : TypeId} {i : TypeInfo} {zv : Value} {n sLen sCap : Nat} {base : Option Addr} {xv : Value} {olds vs : List Value} (he : P.underlying t = some (.slice e)) (hi : P.info? e = some i) (hzv : i.zero = some zv) (hu : notInt P u)
  (hl : (Builtin.lenOf xv).run P w = .ok n w) (hf : (Builtin.firstCells i.size n xv).run P w.drew = .ok vs.toArray w.drew) (ho : (Builtin.firstCells i.size sLen (.slice base sLen sCap)).run P w.drew = .ok olds.toArray w.drew)
  (hgrow : sCap < sLen + n) (hroom : (sLen + n) * i.bytes ≤ roomMax) (hb : 0 < i.bytes) :
  (Builtin.append_ #[t, u] ty #[.slice base sLen sCap, xv]).run P w =
   .ok (.slice (some ⟨w.heap.size, 0, none⟩) (sLen + n) (grownCap w (sLen + n) sCap e)) (w.drew.alloc (.cells ((olds ++ vs).toArray ++ Builtin.zeroCells zv.cells (grownCap w (sLen + n) sCap e - (sLen + n))) e)) := by
 obtain ⟨d, hd, hk⟩ := hu
 have hdi := intD_of d hk
 have hz : sizeT P e = some i.size := by simp [sizeT, hi]
 have hn : ¬ (sLen + n ≤ sCap) := by omega
 have h48' : ¬ (281474976710656 < Builtin.nextslicecap (sLen + n) sCap * i.bytes) := by
  have := growslice_fits hgrow hroom
  omega
 have hbytes : ¬ (i.bytes = 0) := by omega
 simp [Builtin.append_, run_und he, run_sizeOf' hz, run_und hd, hdi, hl, hn, typeInfo, hi, h48', hbytes, Question.forced, ho, hf, zeroValue, hzv, newRow, grownCap]
 rw [← Array.append_assoc, List.append_toArray olds vs]
theorem Ext.drew {h' : Hp} {μ' : Mu} {w' : World} (e : Ext w h μ w' h' μ') : Ext w h μ w' h' μ' := e
theorem slice_form {s : CV} {sv : Value} (hs : VR w R h μ s sv) (hk : s = .nilS ∨ (∃ z es, s = .rsl z es) ∨ ∃ z b off len cap sz, s = .sl z b off len cap sz) :
  ∃ base sLen sCap, sv = .slice base sLen sCap ∧ sLen ≤ sCap := by
 cases hs <;> simp at hk
 ·exact ⟨_, _, _, rfl, Nat.le_refl _⟩
 ·rename_i hl ho hcc
  exact ⟨_, _, _, rfl, by omega⟩
 ·rename_i hl hcc' hg
  exact ⟨_, _, _, rfl, by omega⟩
 ·exact ⟨_, _, _, rfl, Nat.le_refl _⟩
 ·rename_i hl hz hc hv
  exact ⟨_, _, _, rfl, by omega⟩
 ·exact ⟨_, _, _, rfl, Nat.zero_le _⟩
theorem zeroLen_some {e : TypeId} {z : Nat} (hz : zeroLen P e = some z) : ∃ i v, P.info? e = some i ∧ i.zero = some v ∧ v.cells.size = z := by
 unfold zeroLen at hz
 cases hi : P.info? e with
 | none => rw [hi] at hz; cases hz
 | some i =>
  rw [hi] at hz
  simp only [Option.bind_some] at hz
  cases hv : i.zero with
  | none => rw [hv] at hz; cases hz
  | some v => rw [hv] at hz; exact ⟨i, v, rfl, hv, by simpa using hz⟩
theorem grow_row {e : TypeId} {zv : Value} {z need cap : Nat} {xs : List CV} {vs : List Value} (hz : zv.cells.size = z) (hl : xs.length = need * z) (hvs : RowAt w R h μ xs vs) (hcap : need ≤ cap) :
  (vs.toArray ++ Builtin.zeroCells zv.cells (cap - need)).size = cap * z ∧
  ∀ (j : Nat) (c : CV), xs[j]? = some c → ∃ v : Value, (vs.toArray ++ Builtin.zeroCells zv.cells (cap - need))[j]? = some v ∧ v.oneCell' = true ∧ VR w R h μ c v := by
 refine ⟨?_, fun j c hj => ?_⟩
 ·have h1 : (Builtin.zeroCells zv.cells (cap - need)).size = (cap - need) * z := by simp [Builtin.zeroCells, hz]
  have h2 : need * z + (cap - need) * z = cap * z := by rw [← Nat.add_mul]; congr 1; omega
  rw [Array.size_append, h1, List.size_toArray, hvs.1, hl, h2]
 ·obtain ⟨v, h1, h2, h3⟩ := hvs.2 j c hj
  have hlt : j < vs.length := (List.getElem?_eq_some_iff.1 h1).1
  refine ⟨v, ?_, h2, h3⟩
  rw [Array.getElem?_append_left (by simpa using hlt)]
  simpa using h1
theorem append_core (rel : Rel R B w h μ) {t u ty e : TypeId} {z by_ n : Nat} {s c : CV} {sv xv : Value} {h' : Hp} {xs : List CV} {vs : List Value} (hz : sizeT P e = some z) (hby : bytesT P e = some by_)
  (ha : appendW P h e z by_ s xs n = some (c, h')) (hs : VR w R h μ s sv) (hxl : xs.length = n * z) (hrow : RowAt w R h μ xs vs)
  (hfits : ∀ (base : Option Addr) (sLen sCap : Nat) (w' : World), sLen + n ≤ sCap → (match base with | some a => (storeCells (a.add (sLen * z)) vs).run P w = .ok () w' | none => w' = w) →
   (Builtin.append_ #[t, u] ty #[.slice base sLen sCap, xv]).run P w = .ok (.slice base (sLen + n) sCap) w')
  (hgrows : ∀ (i : TypeInfo) (zv : Value), P.info? e = some i → i.zero = some zv → ∀ (base : Option Addr) (sLen sCap : Nat) (olds : List Value), (Builtin.firstCells i.size sLen (.slice base sLen sCap)).run P w.drew = .ok olds.toArray w.drew →
   sCap < sLen + n → (sLen + n) * i.bytes ≤ roomMax → 0 < i.bytes → (Builtin.append_ #[t, u] ty #[.slice base sLen sCap, xv]).run P w =
   .ok (.slice (some ⟨w.heap.size, 0, none⟩) (sLen + n) (grownCap w (sLen + n) sCap e)) (w.drew.alloc (.cells ((olds ++ vs).toArray ++ Builtin.zeroCells zv.cells (grownCap w (sLen + n) sCap e - (sLen + n))) e))) :
  ∃ v w' μ', (Builtin.append_ #[t, u] ty #[sv, xv]).run P w = .ok v w' ∧ Ext w h μ w' h' μ' ∧ Rel R B w' h' μ' ∧ VR w' R h' μ' c v := by
 unfold appendW at ha
 by_cases hn : n = 0
 ·-- nothing is appended
  subst hn
  simp only [if_true] at ha
  have hcs : (c, h') = (s, h) := by
   split at ha <;> first | (simp only [Option.some.injEq] at ha; exact ha.symm) | cases ha
  have hk : s = .nilS ∨ (∃ z es, s = .rsl z es) ∨ ∃ z b off len cap sz, s = .sl z b off len cap sz := by
   split at ha
   ·exact .inl rfl
   ·exact .inr (.inl ⟨_, _, rfl⟩)
   ·exact .inr (.inr ⟨_, _, _, _, _, _, rfl⟩)
   ·cases ha
  simp only [Prod.mk.injEq] at hcs
  obtain ⟨rfl, rfl⟩ := hcs
  obtain ⟨base, sLen, sCap, rfl, hle⟩ := slice_form hs hk
  have hv0 : vs = [] := by
   have : vs.length = 0 := by rw [hrow.1, hxl]; simp
   exact List.length_eq_zero_iff.1 this
  subst hv0
  have := hfits base sLen sCap w (by omega) (by cases base <;> simp [storeCells])
  exact ⟨_, w, μ, this, .refl _ _ _, rel, by simpa using hs⟩
 ·rw [if_neg hn] at ha
  split at ha
  ·cases ha
  ·rename_i hcond
   simp only [not_or, Decidable.not_not] at hcond
   obtain ⟨hz0, hb0, hzl⟩ := hcond
   obtain ⟨i, zv, hi, hzv, hzs⟩ := zeroLen_some hzl
   have hsize : i.size = z := by simpa [sizeT, hi] using hz
   have hbytes : i.bytes = by_ := by simpa [bytesT, hi] using hby
   have hzpos : 0 < z := Nat.pos_of_ne_zero hz0
   have hdrew : ∀ a, w.drew.cell? a = w.cell? a := fun _ => rfl
   split at ha
   ·-- append to nil
    split at ha
    ·rename_i hroom
     simp only [Option.some.injEq, Prod.mk.injEq] at ha
     obtain ⟨rfl, rfl⟩ := ha
     cases hs
     have hg := hgrows i zv hi hzv none 0 0 [] (by simp [Builtin.firstCells]) (by omega) (by rw [hbytes]; simpa using hroom) (by omega)
     have hcap : n ≤ grownCap w (0 + n) 0 e := by have := grownCap_ge w (0 + n) 0 e; omega
     obtain ⟨hr1, hr2⟩ := grow_row (e := e) (zv := zv) (need := n) (cap := grownCap w (0 + n) 0 e) hzs (by rw [hxl]) hrow hcap
     have hp := rel.push (w' := w.drew.alloc (.cells (vs.toArray ++ Builtin.zeroCells zv.cells (grownCap w (0 + n) 0 e - n)) e)) xs _ e rfl rfl rfl rfl (by rw [hr1, hxl]; exact Nat.mul_le_mul_right _ hcap) hr2
     rw [hxl] at hp
     refine ⟨_, _, _, by simpa using hg, by simpa using hp.1, by simpa using hp.2, ?_⟩
     have := VR.sl (w := w.drew.alloc (.cells (vs.toArray ++ Builtin.zeroCells zv.cells (grownCap w (0 + n) 0 e - n)) e)) (R := R) (h := h.push (.cells (n * z) xs)) (μ := fupd μ h.n (some ⟨w.heap.size, 0, (vs.toArray ++ Builtin.zeroCells zv.cells (grownCap w (0 + n) 0 e - n)).size⟩))
      z h.n 0 n n (n * z) (grownCap w (0 + n) 0 e) xs ⟨w.heap.size, 0, (vs.toArray ++ Builtin.zeroCells zv.cells (grownCap w (0 + n) 0 e - n)).size⟩ (by simp [push_f, push_n]) (by simp) (Nat.le_refl _) (by omega) (.inr ⟨by omega, hcap, by simp only; rw [hr1]; omega⟩)
     simpa using this
    ·cases ha
   ·rename_i z' b off len cap sz
    cases hb : h.f b with
    | cells m cs =>
     rw [hb] at ha
     simp only at ha
     split at ha
     ·rename_i hcnd
      obtain ⟨rfl, rfl, hroom⟩ := hcnd
      cases hs with
      | slGone _ _ _ _ _ _ cap' a hl hcc' hg =>
       exfalso
       rcases hg with hg | ⟨n', cs', hg, hlt⟩
       ·rw [hg] at hb; cases hb
       ·rw [hg] at hb; cases hb; omega
      | slEnd _ _ _ _ a cs' mm hb' hm =>
       rw [hb] at hb'; cases hb'
       have hbn := rel.bn hm
       rw [if_neg (by omega), Nat.zero_mul, List.take_zero, List.take_zero, List.nil_append, Nat.zero_add] at ha
       have hg := hgrows i zv hi hzv (some a) 0 0 [] (by simp [Builtin.firstCells, loadCells, loadCellsFrom]) (by omega) (by rw [hbytes]; exact hroom) (by omega)
       rw [Nat.zero_add] at hg
       have hcap : n ≤ grownCap w n 0 e := grownCap_ge _ _ _ _
       obtain ⟨hr1, hr2⟩ := grow_row (e := e) (zv := zv) (need := n) (cap := grownCap w n 0 e) hzs (by rw [hxl]) hrow hcap
       split at ha
       ·simp only [Option.some.injEq, Prod.mk.injEq] at ha
        obtain ⟨rfl, rfl⟩ := ha
        have hp := rel.push (w' := w.drew.alloc (.cells (vs.toArray ++ Builtin.zeroCells zv.cells (grownCap w n 0 e - n)) e)) xs _ e rfl rfl rfl rfl (by rw [hr1, hxl]; exact Nat.mul_le_mul_right _ hcap) hr2
        rw [hxl] at hp
        refine ⟨_, _, _, by simpa using hg, by simpa using hp.1, by simpa using hp.2, ?_⟩
        have := VR.sl (w := w.drew.alloc (.cells (vs.toArray ++ Builtin.zeroCells zv.cells (grownCap w n 0 e - n)) e)) (R := R) (h := h.push (.cells (n * z) xs)) (μ := fupd μ h.n (some ⟨w.heap.size, 0, (vs.toArray ++ Builtin.zeroCells zv.cells (grownCap w n 0 e - n)).size⟩))
         z h.n 0 n n (n * z) (grownCap w n 0 e) xs ⟨w.heap.size, 0, (vs.toArray ++ Builtin.zeroCells zv.cells (grownCap w n 0 e - n)).size⟩ (by simp [push_f, push_n]) (by simp) (Nat.le_refl _) (by omega) (.inr ⟨by omega, hcap, by simp only; rw [hr1]; omega⟩)
        simpa using this
       ·rename_i hend
        split at ha
        ·rename_i hoff
         subst hoff
         simp only [Option.some.injEq, Prod.mk.injEq] at ha
         obtain ⟨rfl, rfl⟩ := ha
         have hgt : m < n * z := by
          have : 1 * 1 ≤ n * z := Nat.mul_le_mul (by omega) hzpos
          omega
         have hp := rel.move (w' := w.drew.alloc (.cells (vs.toArray ++ Builtin.zeroCells zv.cells (grownCap w n 0 e - n)) e)) hb hm rfl rfl rfl rfl hxl hgt (by rw [hr1]; exact Nat.mul_le_mul_right _ hcap) hr2
         refine ⟨_, _, _, by simpa using hg, by simpa using hp.1, by simpa using hp.2, ?_⟩
         have := VR.sl (w := w.drew.alloc (.cells (vs.toArray ++ Builtin.zeroCells zv.cells (grownCap w n 0 e - n)) e)) (R := R) (h := h.set b (.cells (n * z) xs)) (μ := fupd μ b (some ⟨w.heap.size, 0, (vs.toArray ++ Builtin.zeroCells zv.cells (grownCap w n 0 e - n)).size⟩))
          z b 0 n n (n * z) (grownCap w n 0 e) xs ⟨w.heap.size, 0, (vs.toArray ++ Builtin.zeroCells zv.cells (grownCap w n 0 e - n)).size⟩ (by simp [set_f, set_n]) (by simp) (Nat.le_refl _) (by omega) (.inr ⟨by omega, hcap, by simp only; rw [hr1]; omega⟩)
         simpa using this
        ·simp only [Option.some.injEq, Prod.mk.injEq] at ha
         obtain ⟨rfl, rfl⟩ := ha
         have hp := rel.push (w' := w.drew.alloc (.cells (vs.toArray ++ Builtin.zeroCells zv.cells (grownCap w n 0 e - n)) e)) xs _ e rfl rfl rfl rfl (by rw [hr1, hxl]; exact Nat.mul_le_mul_right _ hcap) hr2
         rw [hxl] at hp
         have hk := hp.2.kill (b := b) (sz := m) (cs := cs) (h' := (h.set b .dead).push (.cells (n * z) xs)) (by rw [push_f, fupd_ne _ _ _ _ (by omega)]; exact hb) (by rw [push_n]; omega) (by
          rw [push_f, push_f, set_f, set_n]
          funext x
          simp only [fupd]
          by_cases h1 : x = h.n
          ·rw [if_pos h1, if_neg (by omega), if_pos h1]
          ·rw [if_neg h1]
           split <;> rfl) rfl
         refine ⟨_, _, _, by simpa using hg, by simpa using hp.1.trans hk.1, by simpa using hk.2, ?_⟩
         have := VR.sl (w := w.drew.alloc (.cells (vs.toArray ++ Builtin.zeroCells zv.cells (grownCap w n 0 e - n)) e)) (R := R) (h := (h.set b .dead).push (.cells (n * z) xs)) (μ := fupd μ h.n (some ⟨w.heap.size, 0, (vs.toArray ++ Builtin.zeroCells zv.cells (grownCap w n 0 e - n)).size⟩))
          z h.n 0 n n (n * z) (grownCap w n 0 e) xs ⟨w.heap.size, 0, (vs.toArray ++ Builtin.zeroCells zv.cells (grownCap w n 0 e - n)).size⟩ (by rw [push_f, set_n, fupd_same]) (by simp) (Nat.le_refl _) (by omega) (.inr ⟨by omega, hcap, by simp only; rw [hr1]; omega⟩)
         simpa using this
      | sl _ _ _ _ _ _ cap' cs' mm hb' hm hl ho hcc =>
       have hbk := rel.blk b mm hm
       rw [hb] at hbk
       obtain ⟨hclen, hT, _⟩ := hbk
       rw [hb] at hb'; cases hb'
       have hmul : len * z ≤ cap * z := Nat.mul_le_mul_right _ hl
       have hcap' : cap ≤ cap' := by rcases hcc with hcc | hcc <;> omega
       split at ha
       ·-- in place, within what the machine knows
        rename_i hfit
        simp only [Option.some.injEq, Prod.mk.injEq] at ha
        obtain ⟨rfl, rfl⟩ := ha
        have hmul2 : len * z + n * z ≤ cap * z := by rw [← Nat.add_mul]; exact Nat.mul_le_mul_right _ hfit
        have hmax : max m (off + len * z + xs.length) = m := by omega
        obtain ⟨w', h1, h2, h3⟩ := write_ok (P := P) rel (cvs := xs) (vs := vs) (k := off + len * z) hb hm (by omega) hrow.1 (by omega) hrow.2
        rw [hmax] at h2 h3
        have hst : (storeCells ((⟨mm.r, mm.s + off, none⟩ : Addr).add (len * z)) vs).run P w = .ok () w' := by rw [Addr.add_mk, Nat.add_assoc]; exact h1
        refine ⟨_, w', μ, hfits (some ⟨mm.r, mm.s + off, none⟩) _ _ _ (by omega) hst, h2, h3, ?_⟩
        exact .sl z b off (len + n) cap m cap' _ mm (by simp [set_f, set_n]; rfl) hm hfit ho hcc
       ·rename_i hnofit
        split at ha
        ·-- beyond a slice whose end lies within the row: it moves
         rename_i hexact
         simp only [Option.some.injEq, Prod.mk.injEq] at ha
         obtain ⟨rfl, rfl⟩ := ha
         have hc' : cap' = cap := by rcases hcc with hcc | hcc <;> omega
         subst hc'
         have hco : contents h z (.sl z b off len cap' m) = some ((cs.drop off).take (len * z), len) := by simp [contents, hb]
         obtain ⟨hol, _, olds, horow, hofc0⟩ := contents_ok (P := P) rel hco (VR.sl z b off len cap' m cap' cs mm hb hm hl ho hcc)
         have hofc : ∀ w2 : World, (∀ a, w2.cell? a = w.cell? a) → (Builtin.firstCells z len (.slice (some ⟨mm.r, mm.s + off, none⟩) len cap')).run P w2 = .ok olds.toArray w2 := fun w2 hw2 => by
          have := hofc0 len (Nat.le_refl _) w2 hw2
          rwa [List.take_of_length_le (by rw [horow.1, hol]; exact Nat.le_refl _)] at this
         have hg := hgrows i zv hi hzv (some ⟨mm.r, mm.s + off, none⟩) len cap' olds (by rw [hsize]; exact hofc w.drew hdrew) (by omega) (by rw [hbytes]; exact hroom) (by omega)
         have hcap : len + n ≤ grownCap w (len + n) cap' e := grownCap_ge _ _ _ _
         have hboth : RowAt w R h μ ((cs.drop off).take (len * z) ++ xs) (olds ++ vs) := by
          refine ⟨by simp [horow.1, hrow.1], fun j c hj => ?_⟩
          by_cases hlt : j < ((cs.drop off).take (len * z)).length
          ·rw [List.getElem?_append_left hlt] at hj
           rw [List.getElem?_append_left (by rw [horow.1]; exact hlt)]
           exact horow.2 j c hj
          ·rw [List.getElem?_append_right (by omega)] at hj
           rw [List.getElem?_append_right (by rw [horow.1]; omega), horow.1]
           exact hrow.2 _ c hj
         have hbl : ((cs.drop off).take (len * z) ++ xs).length = (len + n) * z := by rw [List.length_append, hol, hxl, Nat.add_mul]
         obtain ⟨hr1, hr2⟩ := grow_row (e := e) (zv := zv) (need := len + n) (cap := grownCap w (len + n) cap' e) hzs hbl hboth hcap
         have hp := rel.push (w' := w.drew.alloc (.cells ((olds ++ vs).toArray ++ Builtin.zeroCells zv.cells (grownCap w (len + n) cap' e - (len + n))) e)) _ _ e rfl rfl rfl rfl (by rw [hr1, hbl]; exact Nat.mul_le_mul_right _ hcap) hr2
         rw [hbl] at hp
         refine ⟨_, _, _, hg, hp.1, hp.2, ?_⟩
         have := VR.sl (w := w.drew.alloc (.cells ((olds ++ vs).toArray ++ Builtin.zeroCells zv.cells (grownCap w (len + n) cap' e - (len + n))) e)) (R := R) (h := h.push (.cells ((len + n) * z) ((cs.drop off).take (len * z) ++ xs))) (μ := fupd μ h.n (some ⟨w.heap.size, 0, ((olds ++ vs).toArray ++ Builtin.zeroCells zv.cells (grownCap w (len + n) cap' e - (len + n))).size⟩))
          z h.n 0 (len + n) (len + n) ((len + n) * z) (grownCap w (len + n) cap' e) _ ⟨w.heap.size, 0, ((olds ++ vs).toArray ++ Builtin.zeroCells zv.cells (grownCap w (len + n) cap' e - (len + n))).size⟩ (by simp [push_f, push_n]; rfl) (by simp) (Nat.le_refl _) (by omega) (.inr ⟨by omega, hcap, by simp only; rw [hr1]; omega⟩)
         simpa using this
        ·rename_i hend
         split at ha
         ·-- beyond the row's end: in place, or it moves
          rename_i hoff
          subst hoff
          simp only [Option.some.injEq, Prod.mk.injEq] at ha
          obtain ⟨rfl, rfl⟩ := ha
          obtain ⟨he1, he2, he3⟩ : 0 + cap * z = m ∧ cap ≤ cap' ∧ mm.s + 0 + cap' * z ≤ mm.T := by rcases hcc with hcc | hcc <;> omega
          have hgt : m < (len + n) * z := by
           have : (cap + 1) * z ≤ (len + n) * z := Nat.mul_le_mul_right _ (by omega)
           rw [Nat.add_mul] at this
           omega
          have hsum : len * z + n * z = (len + n) * z := by rw [Nat.add_mul]
          by_cases hfit : len + n ≤ cap'
          ·have hmul3 : (len + n) * z ≤ cap' * z := Nat.mul_le_mul_right _ hfit
           have hmax : max m (len * z + xs.length) = (len + n) * z := by omega
           obtain ⟨w', h1, h2, h3⟩ := write_ok (P := P) rel (cvs := xs) (vs := vs) (k := len * z) hb hm (by omega) hrow.1 (by omega) hrow.2
           rw [hmax] at h2 h3
           have hspl : splice cs (len * z) xs = cs.take (len * z) ++ xs := by
            unfold splice
            rw [List.drop_eq_nil_of_le (by omega), List.append_nil]
           rw [hspl] at h2 h3
           have hst : (storeCells ((⟨mm.r, mm.s + 0, none⟩ : Addr).add (len * z)) vs).run P w = .ok () w' := by rw [Addr.add_mk, Nat.add_assoc]; simpa using h1
           refine ⟨_, w', μ, hfits (some ⟨mm.r, mm.s + 0, none⟩) _ _ _ hfit hst, h2, h3, ?_⟩
           exact .sl z b 0 (len + n) (len + n) ((len + n) * z) cap' _ mm (by simp [set_f, set_n]; rfl) hm (Nat.le_refl _) (by omega) (.inr ⟨by omega, hfit, he3⟩)
          ·have hco : contents h z (.sl z b 0 len cap m) = some ((cs.drop 0).take (len * z), len) := by simp [contents, hb]
           obtain ⟨hol, _, olds, horow, hofc0⟩ := contents_ok (P := P) rel hco (VR.sl z b 0 len cap m cap' cs mm hb hm hl ho hcc)
           have hofc : ∀ w2 : World, (∀ a, w2.cell? a = w.cell? a) → (Builtin.firstCells z len (.slice (some ⟨mm.r, mm.s + 0, none⟩) len cap')).run P w2 = .ok olds.toArray w2 := fun w2 hw2 => by
            have := hofc0 len (Nat.le_refl _) w2 hw2
            rwa [List.take_of_length_le (by rw [horow.1, hol]; exact Nat.le_refl _)] at this
           rw [List.drop_zero] at hol horow
           have hg := hgrows i zv hi hzv (some ⟨mm.r, mm.s + 0, none⟩) len cap' olds (by rw [hsize]; exact hofc w.drew hdrew) (by omega) (by rw [hbytes]; exact hroom) (by omega)
           have hcap : len + n ≤ grownCap w (len + n) cap' e := grownCap_ge _ _ _ _
           have hboth : RowAt w R h μ (cs.take (len * z) ++ xs) (olds ++ vs) := by
            refine ⟨by simp [horow.1, hrow.1], fun j c hj => ?_⟩
            by_cases hlt : j < (cs.take (len * z)).length
            ·rw [List.getElem?_append_left hlt] at hj
             rw [List.getElem?_append_left (by rw [horow.1]; exact hlt)]
             exact horow.2 j c hj
            ·rw [List.getElem?_append_right (by omega)] at hj
             rw [List.getElem?_append_right (by rw [horow.1]; omega), horow.1]
             exact hrow.2 _ c hj
           have hbl : (cs.take (len * z) ++ xs).length = (len + n) * z := by rw [List.length_append, hol, hxl, Nat.add_mul]
           obtain ⟨hr1, hr2⟩ := grow_row (e := e) (zv := zv) (need := len + n) (cap := grownCap w (len + n) cap' e) hzs hbl hboth hcap
           have hp := rel.move (w' := w.drew.alloc (.cells ((olds ++ vs).toArray ++ Builtin.zeroCells zv.cells (grownCap w (len + n) cap' e - (len + n))) e)) hb hm rfl rfl rfl rfl hbl hgt (by rw [hr1]; exact Nat.mul_le_mul_right _ hcap) hr2
           refine ⟨_, _, _, hg, hp.1, hp.2, ?_⟩
           have := VR.sl (w := w.drew.alloc (.cells ((olds ++ vs).toArray ++ Builtin.zeroCells zv.cells (grownCap w (len + n) cap' e - (len + n))) e)) (R := R) (h := h.set b (.cells ((len + n) * z) (cs.take (len * z) ++ xs))) (μ := fupd μ b (some ⟨w.heap.size, 0, ((olds ++ vs).toArray ++ Builtin.zeroCells zv.cells (grownCap w (len + n) cap' e - (len + n))).size⟩))
            z b 0 (len + n) (len + n) ((len + n) * z) (grownCap w (len + n) cap' e) _ ⟨w.heap.size, 0, ((olds ++ vs).toArray ++ Builtin.zeroCells zv.cells (grownCap w (len + n) cap' e - (len + n))).size⟩ (by simp [set_f, set_n]; rfl) (by simp) (Nat.le_refl _) (by omega) (.inr ⟨by omega, hcap, by simp only; rw [hr1]; omega⟩)
           simpa using this
         ·-- beyond the row's end, from a place within it: a block of its own, in place or moved
          rename_i hoff
          simp only [Option.some.injEq, Prod.mk.injEq] at ha
          obtain ⟨rfl, rfl⟩ := ha
          obtain ⟨he1, he2, he3⟩ : off + cap * z = m ∧ cap ≤ cap' ∧ mm.s + off + cap' * z ≤ mm.T := by rcases hcc with hcc | hcc <;> omega
          have hgt : m < off + (len + n) * z := by
           have : (cap + 1) * z ≤ (len + n) * z := Nat.mul_le_mul_right _ (by omega)
           rw [Nat.add_mul] at this
           omega
          have hsum : len * z + n * z = (len + n) * z := by rw [Nat.add_mul]
          have hbn := rel.bn hm
          by_cases hfit : len + n ≤ cap'
          ·have hmul3 : (len + n) * z ≤ cap' * z := Nat.mul_le_mul_right _ hfit
           have hmax : max m (off + len * z + xs.length) = off + (len + n) * z := by omega
           obtain ⟨w', h1, h2, h3⟩ := write_ok (P := P) rel (cvs := xs) (vs := vs) (k := off + len * z) hb hm (by omega) hrow.1 (by omega) hrow.2
           rw [hmax] at h2 h3
           have hspl : (splice cs (off + len * z) xs).drop off = (cs.drop off).take (len * z) ++ xs := by
            unfold splice
            rw [List.drop_eq_nil_of_le (as := cs) (by omega), List.append_nil, List.drop_append_of_le_length (by simp; omega), List.drop_take]
            congr 2; omega
           have hst : (storeCells ((⟨mm.r, mm.s + off, none⟩ : Addr).add (len * z)) vs).run P w = .ok () w' := by rw [Addr.add_mk, Nat.add_assoc]; exact h1
           have hrs := h3.reseat (b := b) (off := off) (m := mm) (h' := (h.set b .dead).push (.cells ((len + n) * z) ((cs.drop off).take (len * z) ++ xs))) (by rw [set_f, fupd_same]) hm (by omega) (by
            rw [push_f, set_f, set_f, set_n, set_n, hspl]
            have : off + (len + n) * z - off = (len + n) * z := by omega
            rw [this]
            funext x
            simp only [fupd]
            split
            ·rfl
            ·split <;> rfl) rfl
           refine ⟨_, w', _, hfits (some ⟨mm.r, mm.s + off, none⟩) _ _ _ hfit hst, h2.trans hrs.1, hrs.2, ?_⟩
           exact .sl z h.n 0 (len + n) (len + n) ((len + n) * z) cap' _ ⟨mm.r, mm.s + off, mm.T⟩ (by rw [push_f, set_n, fupd_same]) (by rw [set_n]; simp) (Nat.le_refl _) (by omega) (.inr ⟨by omega, hfit, by simpa using (by omega : mm.s + off + cap' * z ≤ mm.T)⟩)
          ·have hco : contents h z (.sl z b off len cap m) = some ((cs.drop off).take (len * z), len) := by simp [contents, hb]
           obtain ⟨hol, _, olds, horow, hofc0⟩ := contents_ok (P := P) rel hco (VR.sl z b off len cap m cap' cs mm hb hm hl ho hcc)
           have hofc : ∀ w2 : World, (∀ a, w2.cell? a = w.cell? a) → (Builtin.firstCells z len (.slice (some ⟨mm.r, mm.s + off, none⟩) len cap')).run P w2 = .ok olds.toArray w2 := fun w2 hw2 => by
            have := hofc0 len (Nat.le_refl _) w2 hw2
            rwa [List.take_of_length_le (by rw [horow.1, hol]; exact Nat.le_refl _)] at this
           have hg := hgrows i zv hi hzv (some ⟨mm.r, mm.s + off, none⟩) len cap' olds (by rw [hsize]; exact hofc w.drew hdrew) (by omega) (by rw [hbytes]; exact hroom) (by omega)
           have hcap : len + n ≤ grownCap w (len + n) cap' e := grownCap_ge _ _ _ _
           have hboth : RowAt w R h μ ((cs.drop off).take (len * z) ++ xs) (olds ++ vs) := by
            refine ⟨by simp [horow.1, hrow.1], fun j c hj => ?_⟩
            by_cases hlt : j < ((cs.drop off).take (len * z)).length
            ·rw [List.getElem?_append_left hlt] at hj
             rw [List.getElem?_append_left (by rw [horow.1]; exact hlt)]
             exact horow.2 j c hj
            ·rw [List.getElem?_append_right (by omega)] at hj
             rw [List.getElem?_append_right (by rw [horow.1]; omega), horow.1]
             exact hrow.2 _ c hj
           have hbl : ((cs.drop off).take (len * z) ++ xs).length = (len + n) * z := by rw [List.length_append, hol, hxl, Nat.add_mul]
           obtain ⟨hr1, hr2⟩ := grow_row (e := e) (zv := zv) (need := len + n) (cap := grownCap w (len + n) cap' e) hzs hbl hboth hcap
           have hp := rel.push (w' := w.drew.alloc (.cells ((olds ++ vs).toArray ++ Builtin.zeroCells zv.cells (grownCap w (len + n) cap' e - (len + n))) e)) _ _ e rfl rfl rfl rfl (by rw [hr1, hbl]; exact Nat.mul_le_mul_right _ hcap) hr2
           rw [hbl] at hp
           have hk := hp.2.kill (b := b) (sz := m) (cs := cs) (h' := (h.set b .dead).push (.cells ((len + n) * z) ((cs.drop off).take (len * z) ++ xs))) (by rw [push_f, fupd_ne _ _ _ _ (by omega)]; exact hb) (by rw [push_n]; omega) (by
            rw [push_f, push_f, set_f, set_n]
            funext x
            simp only [fupd]
            by_cases h1 : x = h.n
            ·rw [if_pos h1, if_neg (by omega), if_pos h1]
            ·rw [if_neg h1]
             split <;> rfl) rfl
           refine ⟨_, _, _, hg, hp.1.trans hk.1, hk.2, ?_⟩
           have := VR.sl (w := w.drew.alloc (.cells ((olds ++ vs).toArray ++ Builtin.zeroCells zv.cells (grownCap w (len + n) cap' e - (len + n))) e)) (R := R) (h := (h.set b .dead).push (.cells ((len + n) * z) ((cs.drop off).take (len * z) ++ xs))) (μ := fupd μ h.n (some ⟨w.heap.size, 0, ((olds ++ vs).toArray ++ Builtin.zeroCells zv.cells (grownCap w (len + n) cap' e - (len + n))).size⟩))
            z h.n 0 (len + n) (len + n) ((len + n) * z) (grownCap w (len + n) cap' e) _ ⟨w.heap.size, 0, ((olds ++ vs).toArray ++ Builtin.zeroCells zv.cells (grownCap w (len + n) cap' e - (len + n))).size⟩ (by rw [push_f, set_n, fupd_same]) (by simp) (Nat.le_refl _) (by omega) (.inr ⟨by omega, hcap, by simp only; rw [hr1]; omega⟩)
           simpa using this
     ·cases ha
    | _ => rw [hb] at ha; cases ha
   ·cases ha
theorem append_ok (rel : Rel R B w h μ) {t u ty : TypeId} {s x c : CV} {sv xv : Value} {h' : Hp} (hu : notInt P u) (ha : appendC P h t s x = some (c, h')) (hs : VR w R h μ s sv) (hx : VR w R h μ x xv) :
  ∃ v w' μ', (Builtin.append_ #[t, u] ty #[sv, xv]).run P w = .ok v w' ∧ Ext w h μ w' h' μ' ∧ Rel R B w' h' μ' ∧ VR w' R h' μ' c v := by
 unfold appendC at ha
 cases he : elemT P t with
 | none => rw [he] at ha; cases ha
 | some e =>
 have hte := elemT_some he
 rw [he] at ha
 simp only at ha
 cases hz : sizeT P e with
 | none => rw [hz] at ha; cases ha
 | some z =>
 cases hby : bytesT P e with
 | none => rw [hz, hby] at ha; cases ha
 | some by_ =>
 rw [hz, hby] at ha
 simp only at ha
 cases hc : contents h z x with
 | none => rw [hc] at ha; cases ha
 | some xn =>
 obtain ⟨xs, n⟩ := xn
 rw [hc] at ha
 simp only at ha
 obtain ⟨hxl, hlen, vs, hrow, hfc0⟩ := contents_ok (P := P) rel hc hx
 have hfc : ∀ w2 : World, (∀ a, w2.cell? a = w.cell? a) → (Builtin.firstCells z n xv).run P w2 = .ok vs.toArray w2 := fun w2 hw2 => by
  have := hfc0 n (Nat.le_refl _) w2 hw2
  rwa [List.take_of_length_le (by rw [hrow.1, hxl]; exact Nat.le_refl _)] at this
 refine append_core rel hz hby ha hs hxl hrow (fun base sLen sCap w' hfit hst => run_append_fits hte hz hu hlen (hfc w (fun _ => rfl)) hfit hst) (fun i zv hi hzv base sLen sCap olds ho hg hr hb => ?_)
 have hsize : i.size = z := by simpa [sizeT, hi] using hz
 exact run_append_grows hte hi hzv hu hlen (by rw [hsize]; exact hfc w.drew (fun _ => rfl)) ho hg hr hb
end
section
variable {P : Program} {w : World} {R : Nat → Prop} {B : Nat} {h : Hp} {μ : Mu}
theorem bound_ok {x : CV} {xv : Value} {y n y' : Nat} {code : BoundsCode} (hb : boundC x y = some n) (hx : VR w R h μ x xv) (hy : y ≤ y') :
  n ≤ y ∧ (Instr.sliceBound xv y' code).run P w = .ok n w := by
 unfold boundC at hb
 cases hx with
 | int k i =>
  simp only at hb
  split at hb
  ·rename_i hi
   simp only [Option.some.injEq] at hb
   subst hb
   refine ⟨by omega, ?_⟩
   have : (0 ≤ i ∧ i ≤ (y' : Int)) := ⟨hi.1, by omega⟩
   simp [Instr.sliceBound, asIntOf, this]
  ·cases hb
 | _ => simp at hb
def OptVR (w : World) (R : Nat → Prop) (h : Hp) (μ : Mu) : Option CV → Option Value → Prop
 | none, none => True
 | some c, some v => VR w R h μ c v
 | _, _ => False
theorem bounds_ok {lo hi mx : Option CV} {lo' hi' mx' : Option Value} {isS : Bool} {len cap cap' l m hh : Nat} (hb : boundsC len cap lo hi mx = some (l, hh, m)) (hlen : len ≤ cap) (hcap : cap ≤ cap')
  (h1 : OptVR w R h μ lo lo') (h2 : OptVR w R h μ hi hi') (h3 : OptVR w R h μ mx mx') :
  l ≤ hh ∧ hh ≤ m ∧ m ≤ cap ∧ (mx = none → m = cap) ∧ (Instr.sliceBounds isS len cap' lo' hi' mx').run P w = .ok (l, hh, if mx.isSome then m else cap') w := by
 unfold boundsC at hb
 cases mx with
 | none =>
  cases mx' with
  | some v => exact h3.elim
  | none =>
   simp only at hb
   cases hi with
   | none =>
    cases hi' with
    | some v => exact h2.elim
    | none =>
     simp only at hb
     cases lo with
     | none =>
      cases lo' with
      | some v => exact h1.elim
      | none =>
       simp only [Option.some.injEq, Prod.mk.injEq] at hb
       obtain ⟨rfl, rfl, rfl⟩ := hb
       exact ⟨by omega, hlen, Nat.le_refl _, fun _ => rfl, by simp [Instr.sliceBounds]⟩
     | some c =>
      cases lo' with
      | none => exact h1.elim
      | some v =>
       simp only at hb
       cases hl : boundC c len with
       | none => rw [hl] at hb; cases hb
       | some l' =>
        rw [hl] at hb
        simp only [Option.some.injEq, Prod.mk.injEq] at hb
        obtain ⟨rfl, rfl, rfl⟩ := hb
        have hx := bound_ok (P := P) (code := .sliceB) hl h1 (Nat.le_refl _)
        exact ⟨hx.1, hlen, Nat.le_refl _, fun _ => rfl, by simp [Instr.sliceBounds, hx.2]⟩
   | some ch =>
    cases hi' with
    | none => exact h2.elim
    | some vh =>
     simp only at hb
     cases hhi : boundC ch cap with
     | none => rw [hhi] at hb; cases hb
     | some h' =>
      rw [hhi] at hb
      simp only at hb
      have hx := bound_ok (P := P) (code := if isS then .sliceAcap else .sliceAlen) hhi h2 hcap
      cases lo with
      | none =>
       cases lo' with
       | some v => exact h1.elim
       | none =>
        simp only [Option.some.injEq, Prod.mk.injEq] at hb
        obtain ⟨rfl, rfl, rfl⟩ := hb
        exact ⟨by omega, hx.1, Nat.le_refl _, fun _ => rfl, by simp [Instr.sliceBounds, hx.2]⟩
      | some c =>
       cases lo' with
       | none => exact h1.elim
       | some v =>
        simp only at hb
        cases hl : boundC c h' with
        | none => rw [hl] at hb; cases hb
        | some l' =>
         rw [hl] at hb
         simp only [Option.some.injEq, Prod.mk.injEq] at hb
         obtain ⟨rfl, rfl, rfl⟩ := hb
         have hy := bound_ok (P := P) (code := .sliceB) hl h1 (Nat.le_refl _)
         exact ⟨hy.1, hx.1, Nat.le_refl _, fun _ => rfl, by simp [Instr.sliceBounds, hx.2, hy.2]⟩
 | some cm =>
  cases mx' with
  | none => exact h3.elim
  | some vm =>
   simp only at hb
   cases hm : boundC cm cap with
   | none => rw [hm] at hb; cases hb
   | some m' =>
    rw [hm] at hb
    simp only at hb
    have hx := bound_ok (P := P) (code := if isS then .slice3Acap else .slice3Alen) hm h3 hcap
    cases hi with
    | none => cases hb
    | some ch =>
     cases hi' with
     | none => exact h2.elim
     | some vh =>
      simp only at hb
      cases hhi : boundC ch m' with
      | none => rw [hhi] at hb; cases hb
      | some h' =>
       rw [hhi] at hb
       simp only at hb
       have hy := bound_ok (P := P) (code := .slice3B) hhi h2 (Nat.le_refl _)
       cases lo with
       | none =>
        cases lo' with
        | some v => exact h1.elim
        | none =>
         simp only [Option.some.injEq, Prod.mk.injEq] at hb
         obtain ⟨rfl, rfl, rfl⟩ := hb
         exact ⟨by omega, hy.1, hx.1, (fun hf => by cases hf), by simp [Instr.sliceBounds, hx.2, hy.2]⟩
       | some c =>
        cases lo' with
        | none => exact h1.elim
        | some v =>
         simp only at hb
         cases hl : boundC c h' with
         | none => rw [hl] at hb; cases hb
         | some l' =>
          rw [hl] at hb
          simp only [Option.some.injEq, Prod.mk.injEq] at hb
          obtain ⟨rfl, rfl, rfl⟩ := hb
          have hz := bound_ok (P := P) (code := .slice3C) hl h1 (Nat.le_refl _)
          exact ⟨hz.1, hy.1, hx.1, (fun hf => by cases hf), by simp [Instr.sliceBounds, hx.2, hy.2, hz.2]⟩
theorem chunks_length {z : Nat} : ∀ (n : Nat) (cs : List CV), (chunks z n cs).length = n
 | 0, _ => rfl
 | n + 1, cs => by simp [chunks, chunks_length n]
theorem chunks_get {z : Nat} : ∀ (n : Nat) (cs : List CV) (i : Nat), i < n → (chunks z n cs)[i]? = some ((cs.drop (i * z)).take z)
 | 0, _, _, h => by omega
 | n + 1, cs, 0, _ => by simp [chunks]
 | n + 1, cs, i + 1, h => by
  simp only [chunks, List.getElem?_cons_succ]
  rw [chunks_get n _ i (by omega), List.drop_drop]
  congr 3
  rw [Nat.succ_mul]; omega
theorem slice_part (rel : Rel R B w h μ) {z b off cap sz l hh m m' cap' : Nat} {cs : List CV} {mm : M} {hasMax : Bool} (hb : h.f b = .cells sz cs) (hm : μ b = some mm) (ho : off + cap * z ≤ sz)
  (hcc : (off + cap * z < sz ∧ cap' = cap) ∨ (off + cap * z = sz ∧ cap ≤ cap' ∧ mm.s + off + cap' * z ≤ mm.T)) (h1 : l ≤ hh) (h2 : hh ≤ m) (h3 : m ≤ cap) (h4 : hasMax = false → m = cap)
  (hm' : m' = if hasMax then m else cap') (hlm : m ≠ l) :
  VR w R h μ (.sl z b (off + l * z) (hh - l) (m - l) sz) (.slice (some ((⟨mm.r, mm.s + off, none⟩ : Addr).add (l * z))) (hh - l) (m' - l)) := by
 have hbk := rel.blk b mm hm
 rw [hb] at hbk
 have hT := hbk.2.1
 rw [Addr.add_mk, Nat.add_assoc]
 have e1 : l * z + (m - l) * z = m * z := by rw [← Nat.add_mul]; congr 1; omega
 have e2 : m * z ≤ cap * z := Nat.mul_le_mul_right _ h3
 refine .sl z b _ _ _ sz _ cs mm hb hm (by omega) (by omega) ?_
 cases hasMax with
 | false =>
  have hmc := h4 rfl
  have hm2 : m' = cap' := by simpa using hm'
  rw [hm2]
  rcases hcc with ⟨a1, a2⟩ | ⟨a1, a2, a3⟩
  ·rw [← hmc] at a1 a2
   exact .inl ⟨by omega, by omega⟩
  ·rw [← hmc] at a1 a2
   refine .inr ⟨by omega, by omega, ?_⟩
   have e3 : l * z + (cap' - l) * z = cap' * z := by rw [← Nat.add_mul]; congr 1; omega
   omega
 | true =>
  have hm2 : m' = m := by simpa using hm'
  rw [hm2]
  by_cases hlt : off + l * z + (m - l) * z < sz
  ·exact .inl ⟨hlt, rfl⟩
  ·exact .inr ⟨by omega, Nat.le_refl _, by omega⟩
theorem extract_toList (s : ByteArray) (a b : Nat) : (s.extract a b).data.toList = (s.data.toList.drop a).take (b - a) := by
 simp [ByteArray.extract, ByteArray.copySlice, List.take_drop]
theorem VR.rsl0' (z : Nat) (p : Prop) [Decidable p] (a b : Addr) (cap : Nat) : VR w R h μ (.rsl z []) (.slice (if p then some a else some b) 0 cap) := by
 by_cases hp : p
 ·rw [if_pos hp]; exact .rsl0 _ _ _
 ·rw [if_neg hp]; exact .rsl0 _ _ _
theorem VR.slGone' (z b off len cap sz cap' : Nat) (p : Prop) [Decidable p] (a a' : Addr) (hl : len ≤ cap) (hc : cap ≤ cap') (hg : Gone h b sz) :
  VR w R h μ (.sl z b off len cap sz) (.slice (if p then some a else some a') len cap') := by
 by_cases hp : p
 ·rw [if_pos hp]; exact .slGone _ _ _ _ _ _ _ _ hl hc hg
 ·rw [if_neg hp]; exact .slGone _ _ _ _ _ _ _ _ hl hc hg
theorem slice_ok (rel : Rel R B w h μ) {t : TypeId} {x c : CV} {xv : Value} {lo hi mx : Option CV} {lo' hi' mx' : Option Value} (hs : sliceC P t x lo hi mx = some c) (hx : VR w R h μ x xv)
  (h1 : OptVR w R h μ lo lo') (h2 : OptVR w R h μ hi hi') (h3 : OptVR w R h μ mx mx') :
  ∃ v, (Instr.sliceAt t xv lo' hi' mx').run P w = .ok v w ∧ VR w R h μ c v := by
 unfold sliceC at hs
 split at hs
 ·-- an array behind its address
  rename_i n e hu
  cases hz : sizeT P e with
  | none => rw [hz] at hs; cases hs
  | some z =>
  cases hb : boundsC n n lo hi mx with
  | none => rw [hz, hb] at hs; cases hs
  | some lhm =>
  obtain ⟨l, hh, m⟩ := lhm
  rw [hz, hb] at hs
  simp only at hs
  obtain ⟨k1, k2, k3, k4, k5⟩ := bounds_ok (P := P) (isS := false) hb (Nat.le_refl _) (Nat.le_refl _) h1 h2 h3
  have hif : (if mx.isSome = true then m else n) = m := by
   cases mx with
   | none => simp [k4 rfl]
   | some v => simp
  rw [hif] at k5
  split at hs
  ·rename_i b off sz
   split at hs
   ·rename_i hfit
    have hval : ∃ a, xv = .pointer (some a) := by cases hx <;> exact ⟨_, rfl⟩
    obtain ⟨a, rfl⟩ := hval
    refine ⟨_, by simp [Instr.sliceAt, run_und hu, Instr.sureAddr, k5, run_sizeOf' hz]; rfl, ?_⟩
    split at hs
    ·rename_i hml
     simp only [Option.some.injEq] at hs; subst hs
     have : hh - l = 0 := by omega
     rw [this]
     exact .rsl0 _ _ _
    ·rename_i hml
     simp only [Option.some.injEq] at hs; subst hs
     rw [if_neg hml]
     cases hx with
     | ptr _ _ _ cs mm hb' hm =>
      exact slice_part rel (cap := m) (cap' := m) (hasMax := true) hb' hm hfit (by
       have hbk := rel.blk b mm hm
       rw [hb'] at hbk
       have hT := hbk.2.1
       by_cases hlt : off + m * z < sz
       ·exact .inl ⟨hlt, rfl⟩
       ·exact .inr ⟨by omega, Nat.le_refl _, by omega⟩) k1 k2 (Nat.le_refl _) (fun hf => by cases hf) (by simp) hml
     | ptrGone _ _ _ _ hg => exact .slGone _ _ _ _ _ _ _ _ (by omega) (Nat.le_refl _) hg
   ·cases hs
  ·rename_i cs off
   split at hs
   ·rename_i hfit
    simp only [Option.some.injEq] at hs; subst hs
    cases hx with
    | rptr _ _ blk o vals hc hv =>
     refine ⟨_, by simp [Instr.sliceAt, run_und hu, Instr.sureAddr, k5, run_sizeOf' hz]; rfl, ?_⟩
     have e0 : hh * z ≤ n * z := Nat.mul_le_mul_right _ (by omega)
     by_cases hml : m = l
     ·have e1 : hh - l = 0 := by omega
      rw [e1]
      exact .rsl0 _ _ _
     ·rw [if_neg hml, Addr.add_mk]
      have hl := chunks_length (z := z) (hh - l) (cs.drop (off + l * z))
      have hcells : ∀ i, i < hh - l → ∀ j, j < z → off + l * z + (i * z + j) < cs.length := by
       intro i hi' j hj
       have : (l + i + 1) * z ≤ hh * z := Nat.mul_le_mul_right _ (by omega)
       rw [Nat.add_mul, Nat.add_mul] at this
       omega
      have hget : ∀ i e', (chunks z (hh - l) (cs.drop (off + l * z)))[i]? = some e' → i < hh - l ∧ e' = ((cs.drop (off + l * z)).drop (i * z)).take z := by
       intro i e' he'
       have hi' : i < hh - l := by
        have := (List.getElem?_eq_some_iff.1 he').1
        omega
       rw [chunks_get _ _ _ hi'] at he'
       simp only [Option.some.injEq] at he'
       exact ⟨hi', he'.symm⟩
      have := VR.rsl (w := w) (R := R) (h := h) (μ := μ) z (chunks z (hh - l) (cs.drop (off + l * z))) blk (o + off + l * z) (m - l) (fun i j => vals (off + l * z + (i * z + j))) (by omega)
       (fun e' he' => by
        obtain ⟨i, hi', rfl⟩ := List.getElem_of_mem he'
        obtain ⟨a1, a2⟩ := hget i _ (List.getElem?_eq_getElem hi')
        rw [a2, List.length_take, List.length_drop, List.length_drop]
        have : (l + i + 1) * z ≤ hh * z := Nat.mul_le_mul_right _ (by omega)
        rw [Nat.add_mul, Nat.add_mul] at this
        omega)
       (fun i j hi' hj => by
        have := hc (off + l * z + (i * z + j)) (hcells i (by omega) j hj)
        have e3 : o + off + l * z + (i * z + j) = o + (off + l * z + (i * z + j)) := by omega
        rw [e3]; exact this)
       (fun i e' he' j c hj => by
        obtain ⟨a1, rfl⟩ := hget i _ he'
        have hjz : j < z := by
         have := (List.getElem?_eq_some_iff.1 hj).1
         rw [List.length_take] at this; omega
        rw [List.getElem?_take_of_lt hjz, List.getElem?_drop, List.getElem?_drop, ] at hj
        exact hv _ c hj)
      rw [hl] at this
      exact this
   ·cases hs
  ·cases hs
 ·-- a slice
  rename_i e hu
  split at hs
  ·rename_i z z' b off len cap sz hz
   split at hs
   ·rename_i hzz; subst hzz
    cases hb : boundsC len cap lo hi mx with
    | none => rw [hb] at hs; cases hs
    | some lhm =>
    obtain ⟨l, hh, m⟩ := lhm
    rw [hb] at hs
    simp only [Option.map_some, Option.some.injEq] at hs
    cases hx with
    | sl _ _ _ _ _ _ cap' cs mm hb' hm hl ho hcc =>
     have hcap' : cap ≤ cap' := by rcases hcc with hcc | hcc <;> omega
     obtain ⟨k1, k2, k3, k4, k5⟩ := bounds_ok (P := P) (isS := true) hb hl hcap' h1 h2 h3
     refine ⟨_, by simp [Instr.sliceAt, Instr.slice, run_und hu, k5, run_sizeOf' hz]; rfl, ?_⟩
     split at hs
     ·rename_i hml
      subst hs
      have : hh - l = 0 := by omega
      rw [this]
      by_cases hz0 : (if mx.isSome = true then m else cap') = l
      ·rw [if_pos hz0, hz0, Nat.sub_self]
       exact .slEnd _ _ _ _ _ _ mm hb' hm
      ·rw [if_neg hz0]
       cases mx with
       | some v => exact absurd (by simpa using hml) hz0
       | none =>
        have hmc := k4 rfl
        simp only [Option.isSome_none, Bool.false_eq_true, if_false] at hz0 ⊢
        have hcl : cap = l := by omega
        have he : off + cap * z = sz ∧ cap ≤ cap' ∧ mm.s + off + cap' * z ≤ mm.T := by rcases hcc with hcc | hcc <;> omega
        have hmul : l * z + (cap' - l) * z = cap' * z := by rw [← Nat.add_mul]; congr 1; omega
        subst hcl
        rw [Addr.add_mk]
        have := VR.sl (w := w) (R := R) (h := h) (μ := μ) z b (off + cap * z) 0 0 sz (cap' - cap) _ mm hb' hm (Nat.le_refl _) (by omega) (.inr ⟨by omega, by omega, by omega⟩)
        rwa [← Nat.add_assoc] at this
     ·rename_i hml
      subst hs
      have hne : ¬ ((if mx.isSome = true then m else cap') = l) := by
       cases mx with
       | none => have := k4 rfl; simp; omega
       | some v => simpa using hml
      rw [if_neg hne]
      exact slice_part rel (hasMax := mx.isSome) hb' hm ho hcc k1 k2 k3 (fun hf => k4 (by simpa using hf)) rfl hml
    | slEnd _ _ _ _ a cs mm hb' hm =>
     obtain ⟨k1, k2, k3, k4, k5⟩ := bounds_ok (P := P) (isS := true) hb (Nat.le_refl 0) (Nat.le_refl 0) h1 h2 h3
     refine ⟨_, by simp [Instr.sliceAt, Instr.slice, run_und hu, k5, run_sizeOf' hz]; rfl, ?_⟩
     have hm0 : m = 0 := by
      cases mx with
      | none => exact k4 rfl
      | some v => simp at k3; omega
     have hl0 : l = 0 := by omega
     have hh0 : hh = 0 := by omega
     subst hm0 hl0 hh0
     simp only [if_true] at hs
     subst hs
     simp
     exact .slEnd _ _ _ _ _ _ mm hb' hm
    | slGone _ _ _ _ _ _ cap' a hl hcc hg =>
     obtain ⟨k1, k2, k3, k4, k5⟩ := bounds_ok (P := P) (isS := true) hb hl hcc h1 h2 h3
     refine ⟨_, by simp [Instr.sliceAt, Instr.slice, run_und hu, k5, run_sizeOf' hz]; rfl, ?_⟩
     split at hs
     ·rename_i hml
      subst hs
      have : hh - l = 0 := by omega
      rw [this]
      exact VR.slGone' _ _ _ _ _ _ _ _ _ _ (Nat.le_refl _) (Nat.zero_le _) hg
     ·rename_i hml
      subst hs
      have hle : m ≤ (if mx.isSome = true then m else cap') := by split <;> omega
      exact VR.slGone' _ _ _ _ _ _ _ _ _ _ (by omega) (by omega) hg
   ·cases hs
  ·rename_i z z' es hz
   split at hs
   ·rename_i hzz; subst hzz
    cases hb : boundsC es.length es.length lo hi mx with
    | none => rw [hb] at hs; cases hs
    | some lhm =>
    obtain ⟨l, hh, m⟩ := lhm
    rw [hb] at hs
    simp only [Option.map_some, Option.some.injEq] at hs
    subst hs
    cases hx with
    | rsl _ _ blk off cap vals hl hz' hc hv =>
     obtain ⟨k1, k2, k3, k4, k5⟩ := bounds_ok (P := P) (isS := true) hb (Nat.le_refl _) hl h1 h2 h3
     refine ⟨_, by simp [Instr.sliceAt, Instr.slice, run_und hu, k5, run_sizeOf' hz]; rfl, ?_⟩
     have hlen : ((es.drop l).take (hh - l)).length = hh - l := by rw [List.length_take, List.length_drop]; omega
     have hle : hh ≤ (if mx.isSome = true then m else cap) := by
      cases mx with
      | none => simp only [Option.isSome_none, Bool.false_eq_true, if_false]; omega
      | some v => simpa using k2
     by_cases hml : (if mx.isSome = true then m else cap) = l
     ·have e1 : hh - l = 0 := by omega
      rw [if_pos hml, e1, List.take_zero]
      exact .rsl0 _ _ _
     ·rw [if_neg hml, Addr.add_mk]
      have hget : ∀ i e', ((es.drop l).take (hh - l))[i]? = some e' → i < hh - l ∧ es[l + i]? = some e' := by
       intro i e' he'
       have hi' : i < hh - l := by
        have := (List.getElem?_eq_some_iff.1 he').1
        omega
       rw [List.getElem?_take_of_lt hi', List.getElem?_drop] at he'
       exact ⟨hi', he'⟩
      have := VR.rsl (w := w) (R := R) (h := h) (μ := μ) z ((es.drop l).take (hh - l)) blk (off + l * z) ((if mx.isSome = true then m else cap) - l) (fun i j => vals (l + i) j) (by omega)
       (fun e' he' => hz' e' (List.mem_of_mem_drop (List.mem_of_mem_take he')))
       (fun i j hi' hj => by
        have := hc (l + i) j (by omega) hj
        have e3 : off + l * z + (i * z + j) = off + ((l + i) * z + j) := by rw [Nat.add_mul]; omega
        rw [e3]; exact this)
       (fun i e' he' j c hj => hv (l + i) e' (hget i e' he').2 j c hj)
      rw [hlen] at this
      exact this
    | rsl0 _ a cap =>
     obtain ⟨k1, k2, k3, k4, k5⟩ := bounds_ok (P := P) (isS := true) hb (Nat.le_refl _) (Nat.zero_le cap) h1 h2 h3
     refine ⟨_, by simp at k5; simp [Instr.sliceAt, Instr.slice, run_und hu, k5, run_sizeOf' hz]; rfl, ?_⟩
     have e1 : hh - l = 0 := by simp at k3; omega
     rw [e1, List.take_zero]
     exact VR.rsl0' _ _ _ _ _
   ·cases hs
  ·rename_i z hz
   cases hx
   cases hb : boundsC 0 0 lo hi mx with
   | none => rw [hb] at hs; cases hs
   | some lhm =>
   obtain ⟨l, hh, m⟩ := lhm
   rw [hb] at hs
   simp only [Option.map_some, Option.some.injEq] at hs
   subst hs
   obtain ⟨k1, k2, k3, k4, k5⟩ := bounds_ok (P := P) (isS := true) hb (Nat.le_refl _) (Nat.le_refl _) h1 h2 h3
   obtain rfl : m = 0 := by omega
   obtain rfl : hh = 0 := by omega
   obtain rfl : l = 0 := by omega
   refine ⟨_, by simp [Instr.sliceAt, Instr.slice, run_und hu, k5, run_sizeOf' hz]; rfl, ?_⟩
   exact .nilS
  ·cases hs
 ·-- a string
  rename_i s hu
  split at hs
  ·cases hx with
   | str bs =>
    cases hb : boundsC bs.data.toList.length bs.data.toList.length lo hi none with
    | none => rw [hb] at hs; cases hs
    | some lhm =>
    obtain ⟨l, hh, m⟩ := lhm
    rw [hb] at hs
    simp only [Option.map_some, Option.some.injEq] at hs
    subst hs
    cases mx' with
    | some v => exact h3.elim
    | none =>
     have hsz : bs.data.toList.length = bs.size := by simp
     rw [hsz] at hb
     obtain ⟨k1, k2, k3, k4, k5⟩ := bounds_ok (P := P) (isS := false) hb (Nat.le_refl _) (Nat.le_refl _) h1 h2 h3
     refine ⟨.string (bs.extract l hh), by simp [Instr.sliceAt, Instr.slice, run_und hu, k5], ?_⟩
     rw [← extract_toList]
     exact .str _
  ·cases hs
 ·cases hs
end
section
variable {P : Program} {w : World} {R : Nat → Prop} {B : Nat} {h : Hp} {μ : Mu}
def RowA (w : World) (R : Nat → Prop) (h : Hp) (μ : Mu) (cs : List CV) (arr : Array Value) : Prop :=
 arr.size = cs.length ∧ ∀ (j : Nat) (c : CV), cs[j]? = some c → ∃ v : Value, arr[j]? = some v ∧ v.oneCell' = true ∧ VR w R h μ c v
theorem RowA.ag {cs : List CV} {arr : Array Value} (hr : RowA w R h μ cs arr) : VR w R h μ (.ag cs) (.agg arr) := by
 refine .ag _ _ hr.1 (fun j v hj => ?_) (fun j c v hc hj => ?_)
 ·have hlt : j < cs.length := by have := (Array.getElem?_eq_some_iff.1 hj).1; rw [← hr.1]; exact this
  obtain ⟨u, h1, h2, _⟩ := hr.2 j _ (List.getElem?_eq_getElem hlt)
  rw [hj] at h1; cases h1; exact h2
 ·obtain ⟨u, h1, _, h3⟩ := hr.2 j c hc
  rw [hj] at h1; cases h1; exact h3
theorem foldl_set : ∀ (l : List Value) (k off : Nat) (cells : Array Value), off + k + l.length ≤ cells.size →
  ((l.zipIdx k).foldl (fun cs (cj : Value × Nat) => cs.setIfInBounds (off + cj.2) cj.1) cells).size = cells.size ∧
  ∀ j, ((l.zipIdx k).foldl (fun cs (cj : Value × Nat) => cs.setIfInBounds (off + cj.2) cj.1) cells)[j]? = if off + k ≤ j ∧ j < off + k + l.length then l[j - (off + k)]? else cells[j]?
 | [], k, off, cells, _ => ⟨by simp, fun j => by simp; omega⟩
 | v :: l, k, off, cells, hl => by
  simp only [List.length_cons] at hl
  have ih := foldl_set l (k + 1) off (cells.setIfInBounds (off + k) v) (by simp; omega)
  simp only [List.zipIdx_cons, List.foldl_cons]
  refine ⟨by rw [ih.1]; simp, fun j => ?_⟩
  rw [ih.2 j]
  by_cases hj : off + (k + 1) ≤ j ∧ j < off + (k + 1) + l.length
  ·rw [if_pos hj, if_pos (by simp only [List.length_cons]; omega)]
   have : j - (off + k) = (j - (off + (k + 1))) + 1 := by omega
   rw [this, List.getElem?_cons_succ]
  ·rw [if_neg hj, Array.getElem?_setIfInBounds]
   by_cases he : off + k = j
   ·subst he
    rw [if_pos rfl, if_pos (by omega), if_pos (by simp only [List.length_cons]; omega)]
    simp
   ·rw [if_neg he, if_neg (by simp only [List.length_cons]; omega)]
theorem fill_ok {place : Nat → Option (Nat × Nat)} : ∀ (parts : List (Nat × CV)) (parts' : List (Nat × Value)) (cs : List CV) (arr : Array Value) (cs' : List CV),
  fillC place cs parts = some cs' → RowA w R h μ cs arr → parts'.length = parts.length → (∀ (j : Nat) (p : Nat × CV) (p' : Nat × Value), parts[j]? = some p → parts'[j]? = some p' → p'.1 = p.1 ∧ VR w R h μ p.2 p'.2) →
  ∃ arr', Instr.fill place arr parts' = some arr' ∧ RowA w R h μ cs' arr'
 | [], [], cs, arr, cs', hf, hr, _, _ => by
  simp only [fillC, Option.some.injEq] at hf; subst hf
  exact ⟨arr, rfl, hr⟩
 | [], _ :: _, _, _, _, _, _, hl, _ => by simp at hl
 | _ :: _, [], _, _, _, _, _, hl, _ => by simp at hl
 | (i, c) :: parts, (i', v) :: parts', cs, arr, cs', hf, hr, hl, hp => by
  obtain ⟨rfl, hv⟩ := hp 0 (i, c) (i', v) rfl rfl
  simp only at hv
  unfold fillC at hf
  cases hpl : place i' with
  | none => rw [hpl] at hf; cases hf
  | some os =>
  obtain ⟨off, size⟩ := os
  cases hc : c.cells with
  | none => rw [hpl, hc] at hf; cases hf
  | some vs =>
  rw [hpl, hc] at hf
  simp only at hf
  split at hf
  ·rename_i hcond
   obtain ⟨hsz, hvs⟩ := cells_ok hv hc
   have hlist : v.cells.toList.length = vs.length := by simpa using hsz
   have hfs := foldl_set v.cells.toList 0 off arr (by rw [hr.1, hlist]; omega)
   have hzip : v.cells.zipIdx.foldl (fun cs (x : Value × Nat) => match x with | (c, j) => cs.setIfInBounds (off + j) c) arr = (v.cells.toList.zipIdx 0).foldl (fun cs (cj : Value × Nat) => cs.setIfInBounds (off + cj.2) cj.1) arr := by
    rw [← Array.foldl_toList]
    simp
   obtain ⟨arr', h1, h2⟩ := fill_ok parts parts' (splice cs off vs) (v.cells.zipIdx.foldl (fun cs (x : Value × Nat) => match x with | (c, j) => cs.setIfInBounds (off + j) c) arr) cs' hf (by
     rw [hzip]
     refine ⟨by rw [hfs.1, hr.1, splice_length (by omega)]; omega, fun j x hj => ?_⟩
     rw [hfs.2 j]
     rw [splice_get (by omega)] at hj
     split at hj
     ·rename_i hlt
      rw [if_neg (by omega)]
      exact hr.2 j x hj
     ·split at hj
      ·rename_i h1 h2
       rw [if_pos (by rw [hlist]; omega)]
       obtain ⟨u, a1, a2, a3⟩ := hvs _ x hj
       exact ⟨u, by simpa using a1, a2, a3⟩
      ·rename_i h1 h2
       rw [if_neg (by rw [hlist]; omega)]
       exact hr.2 j x hj) (by simpa using hl) (fun j p p' hj hj' => hp (j + 1) p p' (by simpa using hj) (by simpa using hj'))
   refine ⟨arr', ?_, h2⟩
   have hn1 : ¬ (v.cells.size ≠ size ∨ off + v.cells.size > arr.size) := by rw [hsz, hr.1]; omega
   simp only [Instr.fill, hpl]
   rw [if_neg (by simpa using hn1)]
   exact h1
  ·cases hf
theorem zero_row {t : TypeId} {z : List CV} (hz : zeroT P t = some z) : ∃ v, (∀ w2 : World, (zeroValue t).run P w2 = .ok v w2) ∧ RowA w R h μ z v.cells := by
 obtain ⟨i, v, hi, hv, hs, hc⟩ := zero_ok (w := w) (R := R) (h := h) (μ := μ) hz
 exact ⟨v, fun w2 => run_zero hi hv, hs, hc⟩
theorem run_mapM_sizes {fs : Array Field} (hs : (fs.toList.all fun f => (sizeT P f.type).isSome) = true) :
  (fs.mapM fun f => (do pure (f.offset, ← sizeOf f.type) : Sem (Nat × Nat))).run P w = .ok ((fs.toList.map fun f => (f.offset, (sizeT P f.type).getD 0)).toArray) w := by
 rw [Array.mapM_eq_mapM_toList]
 simp only [Sem.run_map]
 have : ∀ l : List Field, (l.all fun f => (sizeT P f.type).isSome) = true → (l.mapM fun f => (do pure (f.offset, ← sizeOf f.type) : Sem (Nat × Nat))).run P w = .ok (l.map fun f => (f.offset, (sizeT P f.type).getD 0)) w := by
  intro l
  induction l with
  | nil => intro _; simp
  | cons f l ih =>
   intro hl
   simp only [List.all_cons, Bool.and_eq_true] at hl
   obtain ⟨n, hn⟩ := Option.isSome_iff_exists.1 hl.1
   simp only [List.mapM_cons, Sem.run_bind, run_sizeOf' hn, Result.andThen_ok, Sem.run_pure, ih hl.2, List.map_cons, hn, Option.getD_some]
 rw [this _ hs]
 rfl
theorem build_ok {t : TypeId} {parts : List (Nat × CV)} {parts' : Array (Nat × Value)} {c : CV} (hb : buildC P t parts = some c) (hl : parts'.size = parts.length)
  (hp : ∀ (j : Nat) (p : Nat × CV) (p' : Nat × Value), parts[j]? = some p → parts'[j]? = some p' → p'.1 = p.1 ∧ VR w R h μ p.2 p'.2) :
  ∃ v, (Instr.build t parts').run P w = .ok v w ∧ VR w R h μ c v := by
 unfold buildC at hb
 split at hb
 ·rename_i zero fs hz hu
  split at hb
  ·cases hb
  ·rename_i hsz
   simp only [Bool.not_eq_true', Bool.not_eq_false] at hsz
   cases hf : fillC (placeS P fs) zero parts with
   | none => rw [hf] at hb; cases hb
   | some cs =>
    rw [hf] at hb
    simp only [Option.map_some, Option.some.injEq] at hb; subst hb
    obtain ⟨v, hv, hr⟩ := zero_row (w := w) (R := R) (h := h) (μ := μ) hz
    obtain ⟨arr', h1, h2⟩ := fill_ok parts parts'.toList zero v.cells cs hf hr (by simpa using hl) (fun j p p' hj hj' => hp j p p' hj (by simpa using hj'))
    have hplace : (fun i => ((fs.toList.map fun f => (f.offset, (sizeT P f.type).getD 0)).toArray)[i]?) = placeS P fs := by
     funext i
     simp only [placeS]
     simp only [List.getElem?_toArray, List.getElem?_map, Array.getElem?_toList]
     cases hfi : fs[i]? with
     | none => simp
     | some f =>
      rw [List.all_eq_true] at hsz
      have := hsz f (by have := Array.mem_of_getElem? hfi; simpa using this)
      obtain ⟨n, hn⟩ := Option.isSome_iff_exists.1 this
      simp [hn]
    refine ⟨_, ?_, h2.ag⟩
    simp only [Instr.build, Sem.run_bind, hv, Result.andThen_ok, run_und hu, run_mapM_sizes hsz]
    rw [hplace, h1]
    simp
 ·rename_i zero n e hz hu
  cases hsz : sizeT P e with
  | none => rw [hsz] at hb; cases hb
  | some m =>
   rw [hsz] at hb
   simp only at hb
   cases hf : fillC (fun i => some (i * m, m)) zero parts with
   | none => rw [hf] at hb; cases hb
   | some cs =>
    rw [hf] at hb
    simp only [Option.map_some, Option.some.injEq] at hb; subst hb
    obtain ⟨v, hv, hr⟩ := zero_row (w := w) (R := R) (h := h) (μ := μ) hz
    obtain ⟨arr', h1, h2⟩ := fill_ok parts parts'.toList zero v.cells cs hf hr (by simpa using hl) (fun j p p' hj hj' => hp j p p' hj (by simpa using hj'))
    refine ⟨_, ?_, h2.ag⟩
    simp only [Instr.build, Sem.run_bind, hv, Result.andThen_ok, run_und hu, run_sizeOf' hsz]
    rw [h1]
    simp
 ·cases hb
theorem repeat_len {zero : List CV} : ∀ n, (repeatC zero n).length = n * zero.length
 | 0 => by simp [repeatC]
 | n + 1 => by simp only [repeatC, List.length_append, repeat_len n, Nat.succ_mul]; omega
theorem repeat_get {zero : List CV} : ∀ (n j : Nat) (c : CV), (repeatC zero n)[j]? = some c → zero[j % zero.length]? = some c
 | 0, _, _, hj => by simp [repeatC] at hj
 | n + 1, j, c, hj => by
  simp only [repeatC] at hj
  by_cases hlt : j < zero.length
  ·rw [List.getElem?_append_left hlt] at hj
   rwa [Nat.mod_eq_of_lt hlt]
  ·rw [List.getElem?_append_right (by omega)] at hj
   have := repeat_get n _ c hj
   rwa [← Nat.mod_eq_sub_mod (by omega)] at this
theorem repeat_row {zero : List CV} {z : Array Value} (hr : RowA w R h μ zero z) (n : Nat) : RowA w R h μ (repeatC zero n) ((Array.range (n * zero.length)).map (z[· % z.size]!)) := by
 refine ⟨by simp [repeat_len], fun j c hj => ?_⟩
 have hlt : j < n * zero.length := by
  have := (List.getElem?_eq_some_iff.1 hj).1
  rwa [repeat_len] at this
 obtain ⟨v, h1, h2, h3⟩ := hr.2 _ c (repeat_get n j c hj)
 refine ⟨v, ?_, h2, h3⟩
 rw [← hr.1] at h1
 obtain ⟨hb, rfl⟩ := Array.getElem?_eq_some_iff.1 h1
 simp [hlt, hb]
theorem fill_len {z : Nat} : ∀ (parts : List (Nat × CV)) (a b : List CV), fillC (fun i => some (i * z, z)) a parts = some b → b.length = a.length := by
 intro parts
 induction parts with
 | nil => intro a b hab; simp only [fillC, Option.some.injEq] at hab; subst hab; rfl
 | cons p parts ih =>
  intro a b hab
  unfold fillC at hab
  split at hab
  ·rename_i off size vs hpl hvc
   split at hab
   ·rw [ih _ _ hab, splice_length (by omega)]; omega
   ·cases hab
  ·cases hab
theorem buildSlice_run {t e : TypeId} {len z : Nat} {zero cs : List CV} {parts : List (Nat × CV)} {parts' : Array (Nat × Value)} (he : elemT P t = some e) (hz : sizeT P e = some z) (hzero : zeroT P e = some zero) (hzl : zero.length = z) (hmax : len * z ≤ 16777216)
  (hf : fillC (fun i => some (i * z, z)) (repeatC zero len) parts = some cs) (hl : parts'.size = parts.length)
  (hp : ∀ (j : Nat) (p : Nat × CV) (p' : Nat × Value), parts[j]? = some p → parts'[j]? = some p' → p'.1 = p.1 ∧ VR w R h μ p.2 p'.2) :
  cs.length = len * z ∧ ∃ arr, (Instr.buildSlice t len parts').run P w = .ok (.slice (some ⟨w.heap.size, 0, none⟩) len len) (w.alloc (.cells arr e)) ∧ RowA w R h μ cs arr := by
 obtain ⟨v, hv, hr⟩ := zero_row (w := w) (R := R) (h := h) (μ := μ) hzero
 obtain ⟨arr', h1, h2⟩ := fill_ok parts parts'.toList _ _ cs hf (repeat_row hr len) (by simpa using hl) (fun j p p' hj hj' => hp j p p' hj (by simpa using hj'))
 refine ⟨by rw [fill_len _ _ _ hf, repeat_len, hzl], arr', ?_, h2⟩
 have hte := elemT_some he
 have hmax' : ¬ (len * z > 2 ^ 24) := by omega
 simp only [Instr.buildSlice, Sem.run_bind, run_und hte, Result.andThen_ok, run_sizeOf' hz, if_neg hmax']
 rw [hzl] at h1
 generalize hN : len * z = N at h1
 by_cases h0 : N = 0
 ·subst h0
  have hnil : ∀ f : Nat → Value, (Array.range 0).map f = #[] := fun f => by simp [Array.range]
  rw [hnil] at h1
  simp [hnil, h1, newRow]
 ·simp [h0, hv, h1, newRow]
theorem buildSlice_ok (rel : Rel R B w h μ) {t : TypeId} {len : Nat} {parts : List (Nat × CV)} {parts' : Array (Nat × Value)} {c : CV} {h' : Hp} (hb : buildSliceC P h t len parts = some (c, h')) (hl : parts'.size = parts.length)
  (hp : ∀ (j : Nat) (p : Nat × CV) (p' : Nat × Value), parts[j]? = some p → parts'[j]? = some p' → p'.1 = p.1 ∧ VR w R h μ p.2 p'.2) :
  ∃ v w' μ', (Instr.buildSlice t len parts').run P w = .ok v w' ∧ Ext w h μ w' h' μ' ∧ Rel R B w' h' μ' ∧ VR w' R h' μ' c v := by
 unfold buildSliceC at hb
 cases he : elemT P t with
 | none => rw [he] at hb; cases hb
 | some e =>
 rw [he] at hb
 simp only at hb
 cases hz : sizeT P e with
 | none => rw [hz] at hb; cases hb
 | some z =>
 cases hzero : zeroT P e with
 | none => rw [hz, hzero] at hb; cases hb
 | some zero =>
 rw [hz, hzero] at hb
 simp only at hb
 split at hb
 ·rename_i hcond
  obtain ⟨hzl, hmax⟩ := hcond
  cases hf : fillC (fun i => some (i * z, z)) (repeatC zero len) parts with
  | none => rw [hf] at hb; cases hb
  | some cs =>
   rw [hf] at hb
   simp only [Option.map_some, Option.some.injEq, Prod.mk.injEq] at hb
   obtain ⟨rfl, rfl⟩ := hb
   obtain ⟨hcl, arr', hrun, h2⟩ := buildSlice_run he hz hzero hzl hmax hf hl hp
   have ha := alloc_ok rel (cs := cs) (vs := arr') e h2.1 h2.2
   rw [hcl] at ha
   obtain ⟨a1, a2, a3⟩ := ha
   refine ⟨.slice (some ⟨w.heap.size, 0, none⟩) len len, _, _, hrun, a1, a2, ?_⟩
   have := VR.sl (w := w.alloc (.cells arr' e)) (R := R) (h := h.push (.cells (len * z) cs)) (μ := fupd μ h.n (some ⟨w.heap.size, 0, arr'.size⟩)) z h.n 0 len len (len * z) len cs ⟨w.heap.size, 0, arr'.size⟩ (by simp [push_f, push_n]) (by simp) (Nat.le_refl _) (by omega)
    (.inr ⟨by omega, Nat.le_refl _, by simp only; rw [h2.1, hcl]; omega⟩)
   simpa using this
 ·cases hb
theorem makeSlice_run {t e : TypeId} {z by_ : Nat} {zero : List CV} {kl kc : IntKind} {li ci : Int} (he : elemT P t = some e) (hz : sizeT P e = some z) (hby : bytesT P e = some by_) (hzero : zeroT P e = some zero) (hzl : zero.length = z)
  (h0 : 0 ≤ li) (hlc : li ≤ ci) (hc63 : ci < 9223372036854775808) (hroom : by_ * ci ≤ roomMax) :
  (repeatC zero ci.toNat).length = ci.toNat * z ∧ ∃ arr, (Instr.makeSlice t (.int kl li) (.int kc ci)).run P w = .ok (.slice (some ⟨w.heap.size, 0, none⟩) li.toNat ci.toNat) (w.alloc (.cells arr e)) ∧ RowA w R h μ (repeatC zero ci.toNat) arr := by
 obtain ⟨v, hv, hr⟩ := zero_row (w := w) (R := R) (h := h) (μ := μ) hzero
 have hrow := repeat_row hr ci.toNat
 refine ⟨by rw [repeat_len, hzl], _, ?_, hrow⟩
 obtain ⟨i, hi, hby'⟩ : ∃ i, P.info? e = some i ∧ i.bytes = by_ := by
  unfold bytesT at hby
  cases hi : P.info? e with
  | none => rw [hi] at hby; cases hby
  | some i => rw [hi] at hby; exact ⟨i, rfl, by simpa using hby⟩
 have hwl : IntKind.i64.wrap li = li := IntWalk.i64_in _ (by omega)
 have hwc : IntKind.i64.wrap ci = ci := IntWalk.i64_in _ (by omega)
 have hte := elemT_some he
 unfold roomMax at hroom
 have t1 : ¬ (ci < 0 ∨ (281474976710656 : Int) < (by_ : Int) * ci) := by omega
 have t2 : ¬ (li < 0) := by omega
 have t3 : ¬ (ci < li) := by omega
 rw [hzl]
 generalize hN : ci.toNat * z = N
 by_cases hz0 : N = 0
 ·subst hz0
  have hnil : ∀ f : Nat → Value, (Array.range 0).map f = #[] := fun f => by simp [Array.range]
  simp [hnil, Instr.makeSlice, run_und hte, Go.asInt, asIntOf, typeInfo, hi, hby', hwl, hwc, t1, t2, t3, run_sizeOf' hz, hN, newRow]
 ·simp [Instr.makeSlice, run_und hte, Go.asInt, asIntOf, typeInfo, hi, hby', hwl, hwc, t1, t2, t3, run_sizeOf' hz, hN, hz0, hv, newRow]
theorem makeSlice_ok (rel : Rel R B w h μ) {t : TypeId} {l c r : CV} {lv cv : Value} {h' : Hp} (hm : makeSliceC P h t l c = some (r, h')) (hl : VR w R h μ l lv) (hc : VR w R h μ c cv) :
  ∃ v w' μ', (Instr.makeSlice t lv cv).run P w = .ok v w' ∧ Ext w h μ w' h' μ' ∧ Rel R B w' h' μ' ∧ VR w' R h' μ' r v := by
 unfold makeSliceC at hm
 split at hm
 ·rename_i e li ci he hli hci
  obtain ⟨kl, rfl⟩ := asInt_ok hli hl
  obtain ⟨kc, rfl⟩ := asInt_ok hci hc
  cases hz : sizeT P e with
  | none => rw [hz] at hm; cases hm
  | some z =>
  cases hby : bytesT P e with
  | none => rw [hz, hby] at hm; cases hm
  | some by_ =>
  cases hzero : zeroT P e with
  | none => rw [hz, hby, hzero] at hm; cases hm
  | some zero =>
  rw [hz, hby, hzero] at hm
  simp only at hm
  split at hm
  ·rename_i hcond
   obtain ⟨hzl, h0, hlc, hc63, hroom⟩ := hcond
   simp only [Option.some.injEq, Prod.mk.injEq] at hm
   obtain ⟨rfl, rfl⟩ := hm
   obtain ⟨hlen, arr, hrun, hrow⟩ := makeSlice_run (w := w) (R := R) (h := h) (μ := μ) (kl := kl) (kc := kc) he hz hby hzero hzl h0 hlc hc63 hroom
   have ha := alloc_ok rel (cs := repeatC zero ci.toNat) e hrow.1 hrow.2
   rw [hlen] at ha
   obtain ⟨a1, a2, a3⟩ := ha
   refine ⟨.slice (some ⟨w.heap.size, 0, none⟩) li.toNat ci.toNat, _, _, hrun, a1, a2, ?_⟩
   have := VR.sl (w := w.alloc (.cells arr e)) (R := R) (h := h.push (.cells (ci.toNat * z) (repeatC zero ci.toNat))) (μ := fupd μ h.n (some ⟨w.heap.size, 0, arr.size⟩))
    z h.n 0 li.toNat ci.toNat (ci.toNat * z) ci.toNat (repeatC zero ci.toNat) ⟨w.heap.size, 0, arr.size⟩ (by simp [push_f, push_n]) (by simp) (by omega) (by omega)
    (.inr ⟨by omega, Nat.le_refl _, by simp only; rw [hrow.1, hlen]; omega⟩)
   simpa using this
  ·cases hm
 ·cases hm
theorem len_ok {t u : TypeId} {ty : TypeId} {x c : CV} {xv : Value} (hc : lenC P t x = some c) (hx : VR w R h μ x xv) : ∃ v, (Builtin.len_ #[t] ty #[xv]).run P w = .ok v w ∧ VR w R h μ c v := by
 unfold lenC at hc
 split at hc <;> (try (simp only [Option.some.injEq] at hc; subst hc))
 ·rename_i s hu
  cases hx
  rename_i bs
  exact ⟨goInt bs.size, by simp [Builtin.len_, run_und hu], by rw [show (bs.data.toList.length : Int) = bs.size from by simp]; exact .int _ _⟩
 ·rename_i n e hu
  exact ⟨goInt n, by simp [Builtin.len_, run_und hu], .int _ _⟩
 ·rename_i e hu
  cases hx
  exact ⟨goInt (0 : Nat), by simp [Builtin.len_, run_und hu], .int _ _⟩
 ·rename_i e z b off len cap sz hu
  cases hx
  ·exact ⟨goInt len, by simp [Builtin.len_, run_und hu], .int _ _⟩
  ·exact ⟨goInt len, by simp [Builtin.len_, run_und hu], .int _ _⟩
  ·exact ⟨goInt (0 : Nat), by simp [Builtin.len_, run_und hu], .int _ _⟩
 ·rename_i e z es hu
  cases hx
  ·exact ⟨goInt es.length, by simp [Builtin.len_, run_und hu], .int _ _⟩
  ·exact ⟨goInt (0 : Nat), by simp [Builtin.len_, run_und hu], .int _ _⟩
 ·rename_i k e hu
  cases hx
  exact ⟨goInt 0, by simp [Builtin.len_, run_und hu], .int _ _⟩
 ·cases hc
end
section
variable {P : Program} {w : World} {R : Nat → Prop} {B : Nat} {h : Hp} {μ : Mu}
theorem part_ok {t : TypeId} {cs : List CV} {vs : Array Value} {off : Nat} {c : CV} (hp : partC P t cs off = some c) (hr : RowA w R h μ cs vs) :
  ∃ v, (∀ w2 : World, (part t vs off).run P w2 = .ok v w2) ∧ VR w R h μ c v := by
 unfold partC at hp
 cases hag : aggT P t with
 | none => rw [hag] at hp; cases hp
 | some b =>
  rw [hag] at hp
  cases b with
  | false =>
   simp only at hp
   obtain ⟨v, h1, _, h3⟩ := hr.2 off c hp
   exact ⟨v, fun w2 => by simp [part, run_isAgg hag, h1], h3⟩
  | true =>
   cases hn : sizeT P t with
   | none => rw [hn] at hp; cases hp
   | some n =>
    rw [hn] at hp
    simp only at hp
    split at hp
    ·rename_i hle
     simp only [Option.some.injEq] at hp
     subst hp
     refine ⟨.agg (vs.extract off (off + n)), fun w2 => by simp [part, run_isAgg hag, run_sizeOf' hn], RowA.ag ⟨by simp; rw [hr.1]; omega, fun j c hj => ?_⟩⟩
     have hjn : j < n := by
      have := (List.getElem?_eq_some_iff.1 hj).1
      rw [List.length_take] at this; omega
     rw [List.getElem?_take_of_lt hjn, List.getElem?_drop] at hj
     obtain ⟨v, h1, h2, h3⟩ := hr.2 _ c hj
     refine ⟨v, ?_, h2, h3⟩
     rw [Array.getElem?_extract, if_pos (by rw [hr.1]; omega)]
     exact h1
    ·cases hp
theorem ag_row {cs : List CV} {xv : Value} (hx : VR w R h μ (.ag cs) xv) : ∃ vs, xv = .agg vs ∧ RowA w R h μ cs vs := by
 cases hx with
 | ag _ vs hl h1 hv =>
  refine ⟨vs, rfl, hl, fun j c hj => ?_⟩
  have hlt : j < vs.size := by rw [hl]; exact (List.getElem?_eq_some_iff.1 hj).1
  exact ⟨vs[j], by simp [hlt], h1 j _ (by simp [hlt]), hv j c _ hj (by simp [hlt])⟩
theorem field_ok {t : TypeId} {cs : List CV} {f : Nat} {fd : Field} {c : CV} {xv : Value} (hf : fieldOf P t f = some fd) (hp : partC P fd.type cs fd.offset = some c) (hx : VR w R h μ (.ag cs) xv) :
  ∃ v, (Instr.field t xv f).run P w = .ok v w ∧ VR w R h μ c v := by
 obtain ⟨fs, hu, hfs⟩ := fieldOf_some hf
 obtain ⟨vs, rfl, hr⟩ := ag_row hx
 obtain ⟨v, h1, h2⟩ := part_ok (P := P) hp hr
 exact ⟨v, by simp [Instr.field, run_und hu, hfs, asAgg, h1], h2⟩
theorem index_ok {t : TypeId} {x ix c : CV} {xv iv : Value} (hc : indexC P t x ix = some c) (hx : VR w R h μ x xv) (hi : VR w R h μ ix iv) :
  ∃ v, (Instr.index t xv iv).run P w = .ok v w ∧ VR w R h μ c v := by
 unfold indexC at hc
 split at hc
 ·rename_i n e cs i hu hix
  obtain ⟨k, rfl⟩ := asInt_ok hix hi
  cases hz : sizeT P e with
  | none => rw [hz] at hc; cases hc
  | some z =>
   rw [hz] at hc
   simp only at hc
   split at hc
   ·rename_i hb
    obtain ⟨vs, rfl, hr⟩ := ag_row hx
    obtain ⟨v, h1, h2⟩ := part_ok (P := P) hc hr
    exact ⟨v, by simp [Instr.index, asIntOf, run_und hu, hb, run_sizeOf' hz, h1], h2⟩
   ·cases hc
 ·rename_i s i hu hix
  obtain ⟨k, rfl⟩ := asInt_ok hix hi
  split at hc
  ·rename_i hb
   cases hx with
   | str bs =>
    cases hbi : bs.data.toList[i.toNat]? with
    | none => rw [hbi] at hc; cases hc
    | some b =>
     rw [hbi] at hc
     simp only [Option.map_some, Option.some.injEq] at hc
     subst hc
     have hlt : i.toNat < bs.size := by have := (List.getElem?_eq_some_iff.1 hbi).1; simpa using this
     have hget : bs[i.toNat]? = some b := by
      have hb2 := (List.getElem?_eq_some_iff.1 hbi).2
      rw [getElem?_pos bs i.toNat hlt]
      simp only [Option.some.injEq]
      rw [← hb2]
      rfl
     exact ⟨.int .u8 b.toNat, by simp [Instr.index, asIntOf, run_und hu, hb, hget], .int _ _⟩
  ·cases hc
 ·cases hc
theorem copy_ok (rel : Rel R B w h μ) {t u ty : TypeId} {d x c : CV} {dv xv : Value} {h' : Hp} (hc : copyC P h t d x = some (c, h')) (hd : VR w R h μ d dv) (hx : VR w R h μ x xv) :
  ∃ v w', (Builtin.copy_ #[t, u] ty #[dv, xv]).run P w = .ok v w' ∧ Ext w h μ w' h' μ ∧ Rel R B w' h' μ ∧ VR w' R h' μ c v := by
 unfold copyC at hc
 cases he : elemT P t with
 | none => rw [he] at hc; cases hc
 | some e =>
 rw [he] at hc
 simp only at hc
 cases hz : sizeT P e with
 | none => rw [hz] at hc; cases hc
 | some z =>
 rw [hz] at hc
 simp only at hc
 cases hco : contents h z x with
 | none => rw [hco] at hc; cases hc
 | some xn =>
 obtain ⟨xs, n⟩ := xn
 rw [hco] at hc
 simp only at hc
 have hte := elemT_some he
 obtain ⟨hxl, hlen, vs, hrow, hfc⟩ := contents_ok (P := P) rel hco hx
 split at hc
 ·simp only [Option.some.injEq, Prod.mk.injEq] at hc
  obtain ⟨rfl, rfl⟩ := hc
  cases hd
  have h0 := hfc 0 (Nat.zero_le _) w (fun _ => rfl)
  refine ⟨goInt (0 : Nat), w, ?_, .refl _ _ _, rel, .int _ _⟩
  simp [Builtin.copy_, run_und hte, hlen, run_sizeOf' hz, h0]
 ·rename_i z' b off len cap sz
  cases hb : h.f b with
  | cells m cs =>
   rw [hb] at hc
   simp only at hc
   split at hc
   ·rename_i hcnd
    obtain ⟨rfl, rfl⟩ := hcnd
    simp only [Option.some.injEq, Prod.mk.injEq] at hc
    obtain ⟨rfl, rfl⟩ := hc
    cases hd with
    | slEnd _ _ _ _ a cs' mm hb' hm =>
     have h0 := hfc 0 (Nat.zero_le _) w (fun _ => rfl)
     have hsp : splice cs off [] = cs := by simp [splice]
     have hsm := rel.same (h' := h.set b (.cells m (splice cs off (xs.take (min n 0 * z))))) (by
      rw [set_f, Nat.min_zero, Nat.zero_mul, List.take_zero, hsp]
      funext x
      simp only [fupd]
      split
      ·rename_i hx; rw [hx, hb]
      ·rfl) rfl
     refine ⟨goInt (0 : Nat), w, ?_, hsm.1, hsm.2, by rw [Nat.min_zero]; exact .int _ _⟩
     simp [Builtin.copy_, run_und hte, hlen, run_sizeOf' hz, h0, storeCells, Result.andThen]
    | slGone _ _ _ _ _ _ cap' a hl hcc hg =>
     exfalso
     rcases hg with hg | ⟨n', cs', hg, hlt⟩
     ·rw [hg] at hb; cases hb
     ·rw [hg] at hb; cases hb; omega
    | sl _ _ _ _ _ _ cap' cs' mm hb' hm hl ho hcc =>
     have hbk := rel.blk b mm hm
     rw [hb] at hbk
     obtain ⟨hclen, hT, _⟩ := hbk
     have hmul : min n len * z ≤ cap * z := Nat.mul_le_mul_right _ (by omega)
     have hmul2 : min n len * z ≤ n * z := Nat.mul_le_mul_right _ (by omega)
     have htl : (xs.take (min n len * z)).length = min n len * z := by rw [List.length_take]; omega
     have hmax : max m (off + (xs.take (min n len * z)).length) = m := by rw [htl]; omega
     obtain ⟨w', h1, h2, h3⟩ := write_ok (P := P) rel (cvs := xs.take (min n len * z)) (vs := vs.take (min n len * z)) (k := off) hb hm (by omega)
      (by rw [List.length_take, List.length_take, hrow.1]) (by rw [hmax]; omega) (fun j c hj => by
       have hlt : j < min n len * z := by have := (List.getElem?_eq_some_iff.1 hj).1; rwa [htl] at this
       rw [List.getElem?_take_of_lt hlt] at hj ⊢
       exact hrow.2 j c hj)
     rw [hmax] at h2 h3
     have hf := hfc (min n len) (by omega) w (fun _ => rfl)
     refine ⟨goInt (min n len : Nat), w', ?_, h2, h3, .int _ _⟩
     have hmin : Nat.min n len = min n len := rfl
     simp [Builtin.copy_, run_und hte, hlen, run_sizeOf' hz, hmin, hf, h1]
   ·cases hc
  | _ => rw [hb] at hc; cases hc
 ·cases hc
theorem bytesOf_ints : ∀ (cs : List CV) (vs : List Value) (bs : List UInt8), bytesOfC cs = some bs → vs.length = cs.length →
  (∀ (j : Nat) (c : CV), cs[j]? = some c → ∃ v : Value, vs[j]? = some v ∧ v.oneCell' = true ∧ VR w R h μ c v) →
  ∃ ns : List Int, vs = ns.map (Value.int .u8) ∧ bs = ns.map fun n => UInt8.ofNat n.toNat
 | [], [], bs, hb, _, _ => by
  simp only [bytesOfC, Option.some.injEq] at hb; subst hb
  exact ⟨[], rfl, rfl⟩
 | [], _ :: _, _, _, hl, _ => by simp at hl
 | _ :: _, [], _, _, hl, _ => by simp at hl
 | c :: cs, v :: vs, bs, hb, hl, hv => by
  obtain ⟨v0, hv0, _, hvr⟩ := hv 0 c rfl
  simp only [List.getElem?_cons_zero, Option.some.injEq] at hv0
  subst hv0
  cases hvr with
  | int k n =>
   cases k <;> simp only [bytesOfC] at hb <;> try (cases hb; done)
   cases hbs : bytesOfC cs with
   | none => rw [hbs] at hb; cases hb
   | some bs' =>
    rw [hbs] at hb
    simp only [Option.map_some, Option.some.injEq] at hb
    subst hb
    obtain ⟨ns, h1, h2⟩ := bytesOf_ints cs vs bs' hbs (by simpa using hl) (fun j c hj => hv (j + 1) c (by simpa using hj))
    exact ⟨n :: ns, by rw [h1]; rfl, by rw [h2]; rfl⟩
  | _ => simp [bytesOfC] at hb
theorem foldl_push : ∀ (ns : List Int) (s : ByteArray), (ns.foldl (fun r n => r.push (UInt8.ofNat n.toNat)) s).data.toList = s.data.toList ++ ns.map fun n => UInt8.ofNat n.toNat
 | [], s => by simp
 | n :: ns, s => by
  rw [List.foldl_cons, foldl_push ns]
  simp [ByteArray.push]
theorem convert_ok (rel : Rel R B w h μ) {s d : TypeId} {x c : CV} {xv : Value} (hc : convertC P h s d x = some c) (hx : VR w R h μ x xv) :
  ∃ v, (convert s d xv).run P w = .ok v w ∧ VR w R h μ c v := by
 unfold convertC at hc
 split at hc
 ·rename_i ds k k' n hs hd
  simp only [Option.some.injEq] at hc; subst hc
  cases hx
  exact ⟨.int k (k.wrap n), by simp [convert, run_und hs, run_und hd, Conv.intToInt], .int _ _⟩
 ·rename_i s' hs hd
  simp only [Option.some.injEq] at hc; subst hc
  cases hx with
  | str bs => exact ⟨.string bs, by simp [convert, run_und hs, run_und hd], .str _⟩
 ·rename_i e hs hd hne1
  cases hue : P.underlying e with
  | none => rw [hue] at hc; cases hc
  | some de =>
   rw [hue] at hc
   split at hc
   ·rename_i heq
    simp only [Option.some.injEq] at heq hc; subst heq hc
    cases hx
    refine ⟨.string ByteArray.empty, by simp [convert, run_und hs, run_und hd, run_und hue, Conv.bytesToString], ?_⟩
    exact .str ByteArray.empty
   ·rename_i heq hnn
    simp only [Option.some.injEq] at heq; subst heq
    split at hc
    ·cases hc
    ·rename_i cs n hnstr hco
     cases hbs : bytesOfC cs with
     | none => rw [hbs] at hc; cases hc
     | some bs =>
      rw [hbs] at hc
      simp only [Option.map_some, Option.some.injEq] at hc; subst hc
      obtain ⟨hxl, hlen, vs, hrow, hfc⟩ := contents_ok (P := P) rel hco hx
      have hf := hfc n (Nat.le_refl _) w (fun _ => rfl)
      obtain ⟨ns, rfl, rfl⟩ := bytesOf_ints cs vs bs hbs hrow.1 hrow.2
      have htake : (ns.map (Value.int .u8)).take (n * 1) = ns.map (Value.int .u8) := List.take_of_length_le (by rw [hrow.1, hxl]; exact Nat.le_refl _)
      rw [htake] at hf
      have hform : ∃ a len cap, xv = .slice a len cap := by
       cases hx <;> first | exact ⟨_, _, _, rfl⟩ | (simp [contents] at hco; done) | (exact absurd rfl (hnstr _))
      obtain ⟨a, len, cap, rfl⟩ := hform
      simp only [Builtin.lenOf, Sem.run_pure, Result.ok.injEq] at hlen
      obtain ⟨rfl, _⟩ := hlen
      have hdata := foldl_push ns ByteArray.empty
      refine ⟨.string (ns.foldl (fun r n => r.push (UInt8.ofNat n.toNat)) ByteArray.empty), ?_, ?_⟩
      ·rw [run_convert_bytes_string w s d e a len cap hs hue hd]
       cases a with
       | none =>
        simp only [Builtin.firstCells, Sem.run_pure, Result.ok.injEq] at hf
        have hvs : ns = [] := by
         have := congrArg Array.toList hf.1
         simpa using this.symm
        subst hvs
        simp [Conv.bytesToString]
       | some a =>
        simp only [Builtin.firstCells, Nat.mul_one] at hf
        exact run_bytesToString w a len cap ns hf
      ·have : (ns.foldl (fun r n => r.push (UInt8.ofNat n.toNat)) ByteArray.empty).data.toList = ns.map fun n => UInt8.ofNat n.toNat := by rw [hdata]; rfl
       rw [← this]
       exact .str _
    ·cases hc
   ·cases hc
 ·cases hc
theorem rel_more (rel : Rel R B w h μ) {w' : World} (hb : RowKit.Below w.heap.size w w') (hdr : w.drawn ≤ w'.drawn := by first | exact Nat.le_refl _ | exact Nat.le_succ _) : Ext w h μ w' h μ ∧ Rel R B w' h μ := by
 have e : Ext w h μ w' h μ := ⟨⟨hb.os, hb.tape, hb.output, hb.size, fun k hk _ => hb.block k hk, fun _ ho => .inl ho, fun b sz cs m h1 h2 => .inl ⟨cs, h1, h2⟩, fun _ _ hg => hg, fun _ _ _ h1 h2 => ⟨h1, h2⟩, Nat.le_refl _, hdr⟩, fun _ _ hm => hm⟩
 refine ⟨e, fun b m hm => ?_, rel.inj, rel.base, rel.fresh, rel.up, Nat.le_trans rel.size hb.size, rel.mu⟩
 cases hl : live (h.f b) with
 | false => cases hc : h.f b <;> first | trivial | (rw [hc] at hl; cases hl)
 | true => exact (rel.blk b m hm).ext e.toExt0 (hb.block _ (rel.lt hl hm))
theorem bytesStr_ok (rel : Rel R B w h μ) {s d : TypeId} {x c : CV} {xv : Value} (hc : bytesStrC P s d x = some c) (hx : VR w R h μ x xv) :
  ∃ v w', (convert s d xv).run P w = .ok v w' ∧ Ext w h μ w' h μ ∧ Rel R B w' h μ ∧ VR w' R h μ c v := by
 unfold bytesStrC at hc
 split at hc
 ·rename_i ds e s' hs hd
  split at hc
  ·rename_i hu
   simp only [Option.some.injEq] at hc; subst hc
   cases hx with
   | str bs =>
    have hbel : RowKit.Below w.heap.size w (Lib.bytesWorld w e bs) := ⟨rfl, rfl, rfl, by rw [Lib.bytesWorld_size]; omega, fun k hk => Lib.bytesWorld_at_old w e bs k hk⟩
    obtain ⟨h1, h2⟩ := rel_more rel hbel
    refine ⟨_, _, Lib.run_convert_string_bytes w s d e bs hs hd hu, h1, h2, ?_⟩
    have hsz : bs.data.toList.length = bs.size := by simp
    have hown : ¬ Own h μ w.heap.size := by
     rintro ⟨b, m, hl, hm, he⟩
     have := rel.lt hl hm
     omega
    have hcap : bs.size ≤ grownCap w bs.size 0 e := grownCap_ge w bs.size 0 e
    have := VR.rsl (w := Lib.bytesWorld w e bs) (R := R) (h := h) (μ := μ) 1 (bs.data.toList.map fun b => [byteC b]) w.heap.size 0 (grownCap w bs.size 0 e) (fun i _ => .int .u8 (bs.data.toList.getD i 0).toNat)
     (by simpa using hcap) (fun e he => by obtain ⟨b, _, rfl⟩ := List.mem_map.1 he; rfl)
     (fun i j hi hj => by
      have hi' : i < bs.size := by simpa using hi
      have : j = 0 := by omega
      subst this
      exact ⟨by simpa using Lib.bytesWorld_cell w e bs i hi', rfl, rel.up _ rel.size, hown⟩)
     (fun i e he j c hj => by
      rw [List.getElem?_map] at he
      cases hb : bs.data.toList[i]? with
      | none => rw [hb] at he; cases he
      | some b =>
       rw [hb] at he
       simp only [Option.map_some, Option.some.injEq] at he; subst he
       cases j with
       | zero =>
        simp only [List.getElem?_cons_zero, Option.some.injEq] at hj; subst hj
        have : bs.data.toList.getD i 0 = b := by simp [List.getD, hb]
        rw [this]
        exact .int _ _
       | succ j => simp at hj)
    rw [List.length_map, hsz] at this
    exact this
  ·cases hc
 ·cases hc
theorem cap_ok {t ty : TypeId} {x c : CV} {xv : Value} (hc : capC P t x = some c) (hx : VR w R h μ x xv) : ∃ v, (Builtin.cap_ #[t] ty #[xv]).run P w = .ok v w ∧ VR w R h μ c v := by
 unfold capC at hc
 split at hc <;> (try (simp only [Option.some.injEq] at hc; subst hc))
 ·rename_i n e hu
  exact ⟨goInt n, by simp [Builtin.cap_, run_und hu], .int _ _⟩
 ·rename_i e hu
  cases hx
  exact ⟨goInt (0 : Nat), by simp [Builtin.cap_, run_und hu], .int _ _⟩
 ·cases hc
theorem clear_ok (rel : Rel R B w h μ) {t ty : TypeId} {x : CV} {xv : Value} {h' : Hp} (hc : clearC P h t x = some h') (hx : VR w R h μ x xv) :
  ∃ w', (Builtin.clear_ #[t] ty #[xv]).run P w = .ok (.tuple #[]) w' ∧ Ext w h μ w' h' μ ∧ Rel R B w' h' μ := by
 unfold clearC at hc
 split at hc
 ·rename_i e hu
  simp only [Option.some.injEq] at hc; subst hc
  cases hx
  exact ⟨w, by simp [Builtin.clear_, run_und hu], .refl _ _ _, rel⟩
 ·rename_i e z hu
  simp only [Option.some.injEq] at hc; subst hc
  cases hx <;> exact ⟨w, by simp [Builtin.clear_, run_und hu], .refl _ _ _, rel⟩
 ·rename_i e z b off len cap sz hu
  split at hc
  ·rename_i hl0
   simp only [Option.some.injEq] at hc; subst hc
   subst hl0
   cases hx <;> exact ⟨w, by simp [Builtin.clear_, run_und hu], .refl _ _ _, rel⟩
  ·rename_i hl0
   split at hc
   ·rename_i zero m cs hz hb
    split at hc
    ·rename_i hcnd
     obtain ⟨rfl, rfl⟩ := hcnd
     simp only [Option.some.injEq] at hc; subst hc
     cases hx with
     | slEnd => exact absurd rfl hl0
     | slGone _ _ _ _ _ _ cap' a hl hcc hg =>
      exfalso
      rcases hg with hg | ⟨n', cs', hg, hlt⟩
      ·rw [hg] at hb; cases hb
      ·rw [hg] at hb; cases hb; omega
     | sl _ _ _ _ _ _ cap' cs' mm hb' hm hl ho hcc =>
      have hbk := rel.blk b mm hm
      rw [hb] at hbk
      obtain ⟨hclen, hT, _⟩ := hbk
      obtain ⟨v, hv, hr⟩ := zero_row (P := P) (w := w) (R := R) (h := h) (μ := μ) hz
      have hrr := repeat_row hr len
      have hmul : len * zero.length ≤ cap * zero.length := Nat.mul_le_mul_right _ hl
      have hrl : (repeatC zero len).length = len * zero.length := repeat_len len
      have hmax : max m (off + (repeatC zero len).length) = m := by rw [hrl]; omega
      have hzl : v.cells.size = zero.length := hr.1
      have hzc : (Builtin.zeroCells v.cells len) = (Array.range (len * zero.length)).map (v.cells[· % v.cells.size]!) := by
       unfold Builtin.zeroCells
       rw [hzl]
      obtain ⟨w', h1, h2, h3⟩ := write_ok (P := P) rel (cvs := repeatC zero len) (vs := (Builtin.zeroCells v.cells len).toList) (k := off) hb hm (by omega)
       (by rw [hzc, hrl]; simp) (by rw [hmax]; omega) (fun j c hj => by
        rw [hzc]
        obtain ⟨u, a1, a2, a3⟩ := hrr.2 j c hj
        exact ⟨u, by rw [Array.getElem?_toList]; exact a1, a2, a3⟩)
      rw [hmax] at h2 h3
      refine ⟨w', ?_, h2, h3⟩
      cases hlen : len with
      | zero => exact absurd hlen hl0
      | succ len' =>
       rw [hlen] at h1
       simp [Builtin.clear_, run_und hu, hv, h1]
    ·cases hc
   ·cases hc
 ·cases hc
theorem appendZ_ok (rel : Rel R B w h μ) {t u ty : TypeId} {k : IntKind} {s x c : CV} {sv xv : Value} {h' : Hp} (hu : P.underlying u = some (.int k)) (ha : appendZC P h t s x = some (c, h')) (hs : VR w R h μ s sv) (hx : VR w R h μ x xv) :
  ∃ v w' μ', (Builtin.append_ #[t, u] ty #[sv, xv]).run P w = .ok v w' ∧ Ext w h μ w' h' μ' ∧ Rel R B w' h' μ' ∧ VR w' R h' μ' c v := by
 unfold appendZC at ha
 split at ha
 ·rename_i e n he hi
  have hte := elemT_some he
  obtain ⟨kx, rfl⟩ := asInt_ok hi hx
  split at ha
  ·rename_i z by_ zero hz hby hzero
   split at ha
   ·rename_i hcond
    obtain ⟨hzl, hn0, hn63, hroom⟩ := hcond
    obtain ⟨i, zv, hinfo, hzv, hzs, _⟩ := zero_ok (P := P) (w := w) (R := R) (h := h) (μ := μ) hzero
    have hsize : i.size = z := by simpa [sizeT, hinfo] using hz
    have hbytes : i.bytes = by_ := by simpa [bytesT, hinfo] using hby
    have hwrap : IntKind.i64.wrap n = n := by
     simp [IntKind.wrap, IntKind.bits, IntKind.signed]; omega
    have hn : (n.toNat : Int) = n := by omega
    have hneg : ¬ (n < 0) := by omega
    have h48 : ¬ (2 ^ 48 < n * (by_ : Int)) := by
     have h1 : ((n.toNat * by_ : Nat) : Int) = n * by_ := by rw [Int.natCast_mul, hn]
     have h2 : ((n.toNat * by_ : Nat) : Int) ≤ ((140737488355328 : Nat) : Int) := Int.ofNat_le.2 hroom
     rw [h1] at h2
     omega
    have hrow : RowA w R h μ (repeatC zero n.toNat) (Builtin.zeroCells zv.cells n.toNat) := by
     obtain ⟨v, hv, hr⟩ := zero_row (P := P) (w := w) (R := R) (h := h) (μ := μ) hzero
     have hvz : v = zv := by
      have := hv w
      simp [zeroValue, typeInfo, hinfo, hzv] at this
      exact this.symm
     subst hvz
     have hrr := repeat_row hr n.toNat
     have hzc : (Builtin.zeroCells v.cells n.toNat) = (Array.range (n.toNat * zero.length)).map (v.cells[· % v.cells.size]!) := by
      unfold Builtin.zeroCells
      rw [hr.1]
     rw [hzc]
     exact hrr
    have hrl : (repeatC zero n.toNat).length = n.toNat * z := by rw [repeat_len, hzl]
    have hai : ∀ w2 : World, (Go.asInt (.int kx n)).run P w2 = .ok n w2 := fun w2 => rfl
    have h48' : ¬ (281474976710656 < n * (by_ : Int)) := by omega
    have hzr : ∀ w2 : World, (zeroValue e).run P w2 = .ok zv w2 := fun w2 => by simp [zeroValue, typeInfo, hinfo, hzv]
    have hz00 : n.toNat * z = 0 → Builtin.zeroCells zv.cells n.toNat = #[] := fun h0 => by
     apply Array.eq_empty_of_size_eq_zero
     unfold Builtin.zeroCells
     simp [hzs, hzl, h0]
    refine append_core rel hz hby ha hs hrl (vs := (Builtin.zeroCells zv.cells n.toNat).toList) ⟨by simpa using hrow.1, fun j c hj => by
     obtain ⟨v, a1, a2, a3⟩ := hrow.2 j c hj
     exact ⟨v, by rw [Array.getElem?_toList]; exact a1, a2, a3⟩⟩ (fun base sLen sCap w' hfit hst => ?_) (fun i' zv' hi' hzv' base sLen sCap olds ho hg hr hb => ?_)
    ·by_cases h0 : n.toNat * z = 0
     ·rw [hz00 h0] at hst
      cases base with
      | none =>
       subst hst
       simp [Builtin.append_, hai, run_und hte, run_und hu, run_sizeOf' hz, hwrap, hneg, typeInfo, hinfo, hbytes, hfit, h48', h0]
      | some a =>
       simp only at hst
       simp [Builtin.append_, hai, run_und hte, run_und hu, run_sizeOf' hz, hwrap, hneg, typeInfo, hinfo, hbytes, hfit, h48', h0, hst]
     ·cases base with
      | none =>
       subst hst
       simp [Builtin.append_, hai, run_und hte, run_und hu, run_sizeOf' hz, hwrap, hneg, typeInfo, hinfo, hbytes, hfit, h48', h0, hzr]
      | some a =>
       simp only at hst
       simp [Builtin.append_, hai, run_und hte, run_und hu, run_sizeOf' hz, hwrap, hneg, typeInfo, hinfo, hbytes, hfit, h48', h0, hzr, hst]
    ·rw [hinfo] at hi'
     cases hi'
     rw [hzv] at hzv'
     cases hzv'
     have hgs : ¬ (281474976710656 < Builtin.nextslicecap (sLen + n.toNat) sCap * i.bytes) := by
      have := growslice_fits (need := sLen + n.toNat) (old := sCap) (bytes := i.bytes) hg hr
      omega
     have hnf : ¬ (sLen + n.toNat ≤ sCap) := by omega
     have hmx : ¬ ((9223372036854775807 : Int) < ((sLen + n.toNat : Nat) : Int)) := by
      have h1 : (sLen + n.toNat) * 1 ≤ (sLen + n.toNat) * i.bytes := Nat.mul_le_mul_left _ hb
      unfold roomMax at hr
      omega
     have hmx' : ¬ ((9223372036854775807 : Int) < (sLen : Int) + max n 0) := by omega
     rw [hsize] at ho
     rw [hbytes] at hgs
     by_cases h0 : n.toNat * z = 0
     ·have hlist : (olds ++ (Builtin.zeroCells zv.cells n.toNat).toList).toArray = olds.toArray := by rw [hz00 h0]; simp
      rw [hlist]
      simp [Builtin.append_, hai, run_und hte, run_und hu, run_sizeOf' hz, hwrap, hneg, typeInfo, hinfo, hbytes, hnf, h48', hmx, hmx', hgs, h0, hzr, ho, Question.forced, newRow, grownCap]
     ·have hlist : (olds ++ (Builtin.zeroCells zv.cells n.toNat).toList).toArray = olds.toArray ++ Builtin.zeroCells zv.cells n.toNat := by simp
      rw [hlist]
      simp [Builtin.append_, hai, run_und hte, run_und hu, run_sizeOf' hz, hwrap, hneg, typeInfo, hinfo, hbytes, hnf, h48', hmx, hmx', hgs, h0, hzr, ho, Question.forced, newRow, grownCap]
   ·cases ha
  ·cases ha
 ·cases ha
end
section
variable {P : Program} {w : World} {R : Nat → Prop} {B : Nat} {h : Hp} {μ : Mu}
theorem binInt_ok {op : BinOp} {t : TypeId} {k k' : IntKind} {a b : Int} {c : CV} (hc : binInt op k a k' b = some c) :
  ∃ v, (binOp op t (.int k a) (.int k' b)).run P w = .ok v w ∧ VR w R h μ c v := by
 cases op
 case shl =>
  simp only [binInt] at hc
  split at hc
  ·cases hc
  ·rename_i hb
   simp only [Option.some.injEq] at hc; subst hc
   exact ⟨_, by simp [binOp, Op.shift, hb], .int _ _⟩
 case shr =>
  simp only [binInt] at hc
  split at hc
  ·cases hc
  ·rename_i hb
   simp only [Option.some.injEq] at hc; subst hc
   exact ⟨_, by simp [binOp, Op.shift, hb], .int _ _⟩
 case quo =>
  simp only [binInt] at hc
  split at hc
  ·rename_i hb
   obtain ⟨rfl, hb⟩ := hb
   simp only [Option.some.injEq] at hc; subst hc
   exact ⟨_, by simp [binOp, Op.intDiv, hb], .int _ _⟩
  ·cases hc
 case rem =>
  simp only [binInt] at hc
  split at hc
  ·rename_i hb
   obtain ⟨rfl, hb⟩ := hb
   simp only [Option.some.injEq] at hc; subst hc
   exact ⟨_, by simp [binOp, Op.intDiv, hb], .int _ _⟩
  ·cases hc
 all_goals
  simp only [binInt] at hc
  split at hc
  ·rename_i hk
   subst hk
   simp only [Option.some.injEq] at hc; subst hc
   first
    | (refine ⟨_, ?_, .int _ _⟩; unfold binOp; simp only [ne_eq, not_true_eq_false, if_false]; rfl)
    | (refine ⟨_, ?_, .bool _⟩; unfold binOp; simp only [ne_eq, not_true_eq_false, if_false]; rfl)
  ·cases hc
theorem toList_eq (s : ByteArray) : s.toList = s.data.toList := by
 rw [ByteArray.toList_eq]
theorem binStr_ok {op : BinOp} {t : TypeId} {a b : ByteArray} {c : CV} (hc : binStr op a.data.toList b.data.toList = some c) :
  ∃ v, (binOp op t (.string a) (.string b)).run P w = .ok v w ∧ VR w R h μ c v := by
 cases op <;> simp only [binStr] at hc <;> try (cases hc; done)
 case add =>
  split at hc
  ·rename_i hle
   simp only [Option.some.injEq] at hc; subst hc
   have h1 : a.data.toList.length = a.size := by simp
   have h2 : b.data.toList.length = b.size := by simp
   rw [h1, h2] at hle
   have hle' : ¬ ((9223372036854775807 : Int) < (a.size : Int) + (b.size : Int)) := by omega
   have hl : (a ++ b).data.toList = a.data.toList ++ b.data.toList := by simp
   refine ⟨.string (a ++ b), by simp [binOp, Op.stringOp, hle'], ?_⟩
   rw [← hl]
   exact .str _
  ·cases hc
 all_goals
  simp only [Option.some.injEq] at hc; subst hc
  exact ⟨_, by simp [binOp, Op.stringOp, toList_eq], .bool _⟩
theorem equalIn_bool {d : Nat} {t : TypeId} {a b : Bool} (hu : P.underlying t = some .bool) : (Op.equalIn (d + 1) t (.bool a) (.bool b)).run P w = .ok (a == b) w := by
 simp [Op.equalIn, run_und hu]
theorem equalIn_int {d : Nat} {t : TypeId} {k0 k : IntKind} {a b : Int} (hu : P.underlying t = some (.int k0)) : (Op.equalIn (d + 1) t (.int k a) (.int k b)).run P w = .ok (a == b) w := by
 simp [Op.equalIn, run_und hu]
theorem equalIn_str {d : Nat} {t : TypeId} {a b : ByteArray} (hu : P.underlying t = some .string) : (Op.equalIn (d + 1) t (.string a) (.string b)).run P w = .ok (a.data.toList == b.data.toList) w := by
 simp [Op.equalIn, run_und hu, toList_eq, beq_toListBytes]
theorem equalIn_slice {d : Nat} {t e : TypeId} {x y l c : Nat} {b : Option Addr} (hu : P.underlying t = some (.slice e)) : (Op.equalIn (d + 1) t (.slice none x y) (.slice b l c)).run P w = .ok b.isNone w := by
 simp [Op.equalIn, run_und hu]
theorem equalIn_slice' {d : Nat} {t e : TypeId} {x y l c : Nat} {a : Addr} (hu : P.underlying t = some (.slice e)) : (Op.equalIn (d + 1) t (.slice (some a) l c) (.slice none x y)).run P w = .ok false w := by
 simp [Op.equalIn, run_und hu]
theorem eqFields_ok {d : Nat} {xs ys : List CV} {xa ya : Array Value}
  (ih : ∀ (t : TypeId) (x y : CV) (b : Bool) (xv yv : Value), eqT P d t x y = some b → VR w R h μ x xv → VR w R h μ y yv → (Op.equalIn d t xv yv).run P w = .ok b w)
  (hxr : RowA w R h μ xs xa) (hyr : RowA w R h μ ys ya) : ∀ (l : List Field) (b : Bool), eqT.eqFields P (eqT P d) xs ys l = some b → (Op.eqFields d xa ya l).run P w = .ok b w
 | [], b, hb => by simp only [eqT.eqFields, Option.some.injEq] at hb; subst hb; simp [Op.eqFields]
 | f :: l, b, hb => by
  unfold eqT.eqFields at hb
  unfold Op.eqFields
  by_cases hf : f.name = "_"
  ·rw [if_pos hf] at hb
   simp [hf, eqFields_ok ih hxr hyr l b hb]
  ·rw [if_neg hf] at hb
   split at hb
   ·rename_i a c ha hc
    obtain ⟨va, h1, h2⟩ := part_ok (P := P) ha hxr
    obtain ⟨vc, h3, h4⟩ := part_ok (P := P) hc hyr
    split at hb
    ·rename_i heq
     have := ih f.type a c true va vc heq h2 h4
     simp [hf, h1, h3, this, eqFields_ok ih hxr hyr l b hb]
    ·rename_i heq
     have := ih f.type a c false va vc heq h2 h4
     simp only [Option.some.injEq] at hb; subst hb
     simp [hf, h1, h3, this]
    ·cases hb
   ·cases hb
theorem eqElems_ok {d z : Nat} {e : TypeId} {xs ys : List CV} {xa ya : Array Value}
  (ih : ∀ (t : TypeId) (x y : CV) (b : Bool) (xv yv : Value), eqT P d t x y = some b → VR w R h μ x xv → VR w R h μ y yv → (Op.equalIn d t xv yv).run P w = .ok b w)
  (hxr : RowA w R h μ xs xa) (hyr : RowA w R h μ ys ya) (f : Nat → Option Bool × Unit → Sem (ForInStep (Option Bool × Unit)))
  (hf : ∀ (i : Nat) (va vc : Value) (b : Bool) (r : Option Bool × Unit), (part e xa (i * z)).run P w = .ok va w → (part e ya (i * z)).run P w = .ok vc w → (Op.equalIn d e va vc).run P w = .ok b w →
   (f i r).run P w = .ok (if b then .yield (none, ()) else .done (some false, ())) w) :
  ∀ (n i : Nat) (b : Bool), eqT.eqElems P (eqT P d) e z xs ys n i = some b → (forIn (List.range' i n) (none, ()) f).run P w = .ok (if b then (none, ()) else (some false, ())) w
 | 0, i, b, hb => by
  simp only [eqT.eqElems, Option.some.injEq] at hb; subst hb
  simp
 | n + 1, i, b, hb => by
  unfold eqT.eqElems at hb
  split at hb
  ·rename_i a c ha hc
   obtain ⟨va, h1, h2⟩ := part_ok (P := P) ha hxr
   obtain ⟨vc, h3, h4⟩ := part_ok (P := P) hc hyr
   rw [List.range'_succ, List.forIn_cons]
   split at hb
   ·rename_i heq
    have hq := ih e a c true va vc heq h2 h4
    have hh := hf i va vc true (none, ()) (h1 w) (h3 w) hq
    simp only [Sem.run_bind, hh, if_true, Result.andThen_ok]
    exact eqElems_ok ih hxr hyr f hf n (i + 1) b hb
   ·rename_i heq
    have hq := ih e a c false va vc heq h2 h4
    have hh := hf i va vc false (none, ()) (h1 w) (h3 w) hq
    simp only [Option.some.injEq] at hb; subst hb
    simp [hh]
   ·cases hb
  ·cases hb
theorem run_equalIn_array {d n z : Nat} {t e : TypeId} {xa ya : Array Value} (hu : P.underlying t = some (.array n e)) (hz : sizeT P e = some z) {b : Bool}
  (hk : ∀ f : Nat → Option Bool × Unit → Sem (ForInStep (Option Bool × Unit)),
   (∀ (i : Nat) (va vc : Value) (b : Bool) (r : Option Bool × Unit), (part e xa (i * z)).run P w = .ok va w → (part e ya (i * z)).run P w = .ok vc w → (Op.equalIn d e va vc).run P w = .ok b w → (f i r).run P w = .ok (if b then .yield (none, ()) else .done (some false, ())) w) →
   (forIn (List.range' 0 n) (none, ()) f).run P w = .ok (if b then (none, ()) else (some false, ())) w) :
  (Op.equalIn (d + 1) t (.agg xa) (.agg ya)).run P w = .ok b w := by
 simp only [Op.equalIn, Sem.run_bind, run_und hu, Result.andThen_ok, run_sizeOf' hz]
 rw [Std.Legacy.Range.forIn_eq_forIn_range']
 have hr : List.range' ([:n] : Std.Legacy.Range).start ([:n] : Std.Legacy.Range).size ([:n] : Std.Legacy.Range).step = List.range' 0 n := by simp [Std.Legacy.Range.size]
 rw [hr, hk]
 ·cases b <;> simp
 ·intro i va vc b r h1 h2 h3
  cases b <;> simp [h1, h2, h3]
theorem eqT_ok : ∀ (d : Nat) (t : TypeId) (x y : CV) (b : Bool) (xv yv : Value), eqT P d t x y = some b → VR w R h μ x xv → VR w R h μ y yv →
  (Op.equalIn d t xv yv).run P w = .ok b w := by
 intro d
 induction d with
 | zero => intro t x y b xv yv he; simp [eqT] at he
 | succ d ih =>
  intro t x y b xv yv he hx hy
  unfold eqT at he
  split at he
  ·rename_i a b' hu
   simp only [Option.some.injEq] at he; subst he
   cases hx; cases hy
   exact equalIn_bool hu
  ·rename_i k0 k a k' b' hu
   split at he
   ·rename_i hk; subst hk
    simp only [Option.some.injEq] at he; subst he
    cases hx; cases hy
    exact equalIn_int hu
   ·cases he
  ·rename_i a b' hu
   simp only [Option.some.injEq] at he; subst he
   cases hx; cases hy
   exact equalIn_str hu
  ·rename_i fs xs ys hu
   split at he
   ·cases he
   ·rename_i hst
    obtain ⟨xa, rfl, hxr⟩ := ag_row hx
    obtain ⟨ya, rfl, hyr⟩ := ag_row hy
    have hst' : P.stoodInHeld t = false := by simpa using hst
    have hfs : P.fieldsOf t = fs := by simp [Program.fieldsOf, hu]
    rw [run_equalIn_struct w d t xa ya (by rw [hfs]; exact hu) hst', hfs]
    exact eqFields_ok ih hxr hyr _ _ he
  ·rename_i n e xs ys hu
   cases hz : sizeT P e with
   | none => rw [hz] at he; cases he
   | some z =>
    rw [hz] at he
    simp only at he
    obtain ⟨xa, rfl, hxr⟩ := ag_row hx
    obtain ⟨ya, rfl, hyr⟩ := ag_row hy
    exact run_equalIn_array hu hz (fun f hf => eqElems_ok ih hxr hyr f hf n 0 b he)
  ·rename_i e hu
   simp only [Option.some.injEq] at he; subst he
   cases hx; cases hy
   exact equalIn_slice hu
  ·rename_i e z b' off len cap sz hu
   simp only [Option.some.injEq] at he; subst he
   cases hx; cases hy <;> exact equalIn_slice hu
  ·rename_i e z es hu
   simp only [Option.some.injEq] at he; subst he
   cases hx; cases hy <;> exact equalIn_slice hu
  ·rename_i e z b' off len cap sz hu
   simp only [Option.some.injEq] at he; subst he
   cases hy; cases hx <;> exact equalIn_slice' hu
  ·rename_i e z es hu
   simp only [Option.some.injEq] at he; subst he
   cases hy; cases hx <;> exact equalIn_slice' hu
  ·cases he
end
end Go.CM
