/-
  The canonical machine: slices.Insert of one element into a row of one's own.
-/
import Derived.Test.YtdjbnhgdhambnaaGreatDoorDf
import Derived.Lib.AppendZerosOnto
set_option linter.unusedVariables false
set_option linter.unusedSimpArgs false
set_option linter.unnecessarySimpa false
namespace Go.CM
open Go Go.Proofs Go.Shelf
structure InsL (P : Program) (f : FuncId) (T I e z : Nat) : Prop where
 und : P.underlying T = some (.slice e)
 undI : P.underlying I = some (.int .i64)
 fin : ∀ (base : Option Addr) (n c vc vb voff : Nat) (r : Value) (w w' : World), n ≤ c → n ≤ 4611686018427387904 → (base = none → n = 0 ∧ c = 0) →
  (Builtin.append_ #[T, T] T #[.slice base n c, .slice (some ⟨vb, voff, none⟩) 1 vc]).run P w = .ok r w' →
  Calls P f #[.slice base n c, .int .i64 n, .slice (some ⟨vb, voff, none⟩) 1 vc] w fun x w2 => x = .returned r ∧ w2 = w'
 shift : ∀ (b off n c i vb voff vc : Nat) (k1 k2 : Value) (w W1 W2 : World) (tA tB : TypeId) (kA kB : Nat), i < n → n + 1 ≤ c → n ≤ 4611686018427387904 → vb ≠ b →
  w.shape? vb = some (tA, kA) → w.shape? b = some (tB, kB) → kB ≠ 0 → w.frozen? ⟨vb, voff, none⟩ = false → w.frozen? ⟨vb, kA, none⟩ = false →
  (Builtin.copy_ #[T, T] I #[.slice (some ⟨b, off + (i + 1) * z, none⟩) (n - i) (c - (i + 1)), .slice (some ⟨b, off + i * z, none⟩) (n + 1 - i) (c - i)]).run P w.drew = .ok k1 W1 →
  (Builtin.copy_ #[T, T] I #[.slice (some ⟨b, off + i * z, none⟩) (n + 1 - i) (c - i), .slice (some ⟨vb, voff, none⟩) 1 vc]).run P W1 = .ok k2 W2 →
  Calls P f #[.slice (some ⟨b, off, none⟩) n c, .int .i64 i, .slice (some ⟨vb, voff, none⟩) 1 vc] w fun x w2 => x = .returned (.slice (some ⟨b, off, none⟩) (n + 1) c) ∧ w2 = W2
 grow : ∀ (b off n c i vb voff vc N G : Nat) (k1 k2 : Value) (w W0 W1 W2 : World), i < n → n ≤ c → c < n + 1 → n + 1 ≤ G → n ≤ 4611686018427387904 →
  (Builtin.append_ #[T, I] T #[.slice (some ⟨b, off, none⟩) i c, .int .i64 ((n : Int) + 1 - (i : Int))]).run P w = .ok (.slice (some ⟨N, 0, none⟩) (n + 1) G) W0 →
  (Builtin.copy_ #[T, T] I #[.slice (some ⟨N, i * z, none⟩) (n + 1 - i) (G - i), .slice (some ⟨vb, voff, none⟩) 1 vc]).run P W0 = .ok k1 W1 →
  (Builtin.copy_ #[T, T] I #[.slice (some ⟨N, (i + 1) * z, none⟩) (n - i) (G - (i + 1)), .slice (some ⟨b, off + i * z, none⟩) (n - i) (c - i)]).run P W1.drew = .ok k2 W2 →
  Calls P f #[.slice (some ⟨b, off, none⟩) n c, .int .i64 i, .slice (some ⟨vb, voff, none⟩) 1 vc] w fun x w2 => x = .returned (.slice (some ⟨N, 0, none⟩) (n + 1) G) ∧ w2 = W2
section
variable {P : Program} {G : Nat → CV} {R : Nat → Prop} {B : Nat} {w : World} {h : Hp} {μ : Mu}
theorem load_blk (rel : Rel R B w h μ) {b sz o n : Nat} {cs : List CV} {m : M} (hb : h.f b = .cells sz cs) (hm : μ b = some m) (hin : o + n ≤ sz) :
  ∃ vs : List Value, RowAt w R h μ ((cs.drop o).take n) vs ∧ (loadCells ⟨m.r, m.s + o, none⟩ n).run P w = .ok vs.toArray w := by
 have hbk := rel.blk b m hm
 rw [hb] at hbk
 obtain ⟨hcl, hfit, arr, e, fz, hr, hT, hfz, hcells⟩ := hbk
 have hlen : ((cs.drop o).take n).length = n := by rw [List.length_take, List.length_drop]; omega
 obtain ⟨vs, hrow, hl⟩ := run_row (P := P) (w := w) (R := R) (h := h) (μ := μ) (w2 := w) (xs := (cs.drop o).take n) (blk := m.r) (o := m.s + o) (fun _ => rfl) (fun j c hj => by
  have hlt : j < n := by have := (List.getElem?_eq_some_iff.1 hj).1; omega
  rw [List.getElem?_take_of_lt hlt, List.getElem?_drop] at hj
  obtain ⟨v, h1, h2, h3⟩ := hcells (o + j) c hj
  refine ⟨v, ?_, h2, h3⟩
  simp only [World.cell?, hr, Option.isSome_none]
  rw [Nat.add_assoc]
  exact h1)
 refine ⟨vs, hrow, ?_⟩
 have := hl n (by omega) w (fun _ => rfl)
 rwa [List.take_of_length_le (by rw [hrow.1, hlen]; exact Nat.le_refl _)] at this
theorem copy_raw (rel : Rel R B w h μ) {t u ty e z : Nat} (hte : P.underlying t = some (.slice e)) (hz : sizeT P e = some z) {b sz k : Nat} {cs : List CV} {m : M} (hb : h.f b = .cells sz cs) (hm : μ b = some m) (hk : k ≤ sz)
  {dLen dc sLen sc cnt : Nat} {a : Addr} {xs : List CV} {vs : List Value} (hcnt : Nat.min sLen dLen = cnt) (hxl : xs.length = cnt * z) (hload : (loadCells a (cnt * z)).run P w = .ok vs.toArray w)
  (hrow : RowAt w R h μ xs vs) (hfit : m.s + max sz (k + cnt * z) ≤ m.T) :
  ∃ w', (Builtin.copy_ #[t, u] ty #[.slice (some ⟨m.r, m.s + k, none⟩) dLen dc, .slice (some a) sLen sc]).run P w = .ok (goInt cnt) w' ∧
   Ext w h μ w' (h.set b (.cells (max sz (k + cnt * z)) (splice cs k xs))) μ ∧ Rel R B w' (h.set b (.cells (max sz (k + cnt * z)) (splice cs k xs))) μ := by
 obtain ⟨w', h1, h2, h3⟩ := write_ok (P := P) rel (cvs := xs) (vs := vs) (k := k) hb hm hk hrow.1 (by rw [hxl]; exact hfit) hrow.2
 rw [hxl] at h2 h3
 refine ⟨w', ?_, h2, h3⟩
 simp [Builtin.copy_, run_und hte, Builtin.lenOf, Builtin.firstCells, run_sizeOf' hz, hcnt, hload, h1]
theorem reseat0 {w1 : World} {h1 : Hp} {μ1 : Mu} (rel1 : Rel R B w1 h1 μ1) (ex : Ext w h μ w1 h1 μ1) {b z n nc ns : Nat} {row : List CV} {v : Value} (hf : h1.f = fupd h.f b (.cells ns row)) (hn : h1.n = h.n) (hns : ns = nc * z) (h0 : 0 < n) (hbn : b < h.n)
  (hv : VR w1 R h1 μ1 (.sl z b 0 n nc ns) v) :
  ∃ μ', Ext w h μ w1 ((h.set b .dead).push (.cells ns row)) μ' ∧ Rel R B w1 ((h.set b .dead).push (.cells ns row)) μ' ∧ VR w1 R ((h.set b .dead).push (.cells ns row)) μ' (.sl z h.n 0 n nc ns) v := by
 have hb1 : h1.f b = .cells ns row := by rw [hf, fupd_same]
 cases hv with
 | slGone _ _ _ _ _ _ _ _ _ _ hg =>
  exfalso
  rcases hg with hg | ⟨n', cs', hg, hlt⟩
  ·rw [hb1] at hg; cases hg
  ·rw [hb1] at hg; cases hg; omega
 | slEnd => omega
 | sl _ _ _ _ _ _ cap' cs0 m hb0 hm hl ho hcc =>
  have hrs := rel1.reseat (b := b) (off := 0) (m := m) (h' := (h.set b .dead).push (.cells ns row)) hb1 hm (Nat.zero_le _) (by
   rw [push_f, set_f, set_n, hf, hn]
   funext x
   simp only [fupd, Nat.sub_zero, List.drop_zero]
   by_cases h2 : x = h.n
   ·rw [if_pos h2, if_pos h2]
   ·rw [if_neg h2, if_neg h2]
    split <;> rfl) (by rw [push_n, set_n, hn])
  refine ⟨_, ex.trans hrs.1, hrs.2, ?_⟩
  rw [hn]
  exact .sl z h.n 0 n nc ns cap' row ⟨m.r, m.s + 0, m.T⟩ (by rw [push_f, set_n, fupd_same]) (by simp) hl ho (by
   rcases hcc with hcc | ⟨hc1, hc2, hc3⟩
   ·omega
   ·exact .inr ⟨hc1, hc2, by simpa using hc3⟩)
theorem below_drew (w : World) : RowKit.Below w.heap.size w w.drew := ⟨rfl, rfl, rfl, Nat.le_refl _, fun _ _ => rfl⟩
theorem ins_splice {z i len : Nat} {cs vs : List CV} (hvl : vs.length = z) (hi : i < len) (hl : len * z ≤ cs.length) :
  splice (splice cs ((i + 1) * z) ((cs.drop (i * z)).take ((len - i) * z))) (i * z) vs = insRow z cs vs i len := by
 have h1 : (i + 1) * z = i * z + z := by rw [Nat.succ_mul]
 have h2 : (i + 1) * z ≤ len * z := Nat.mul_le_mul_right _ hi
 have h3 : i * z + (len - i) * z = len * z := by rw [← Nat.add_mul]; congr 1; omega
 have h4 : (len + 1) * z = len * z + z := by rw [Nat.succ_mul]
 have hD : ((cs.drop (i * z)).take ((len - i) * z)).length = (len - i) * z := by rw [List.length_take, List.length_drop]; omega
 have hA : (cs.take ((i + 1) * z)).length = i * z + z := by rw [List.length_take]; omega
 unfold insRow splice
 rw [hD, hvl]
 have e1 : (i + 1) * z + (len - i) * z = (len + 1) * z := by omega
 rw [e1, List.append_assoc (cs.take ((i + 1) * z)), List.take_append_of_le_length (by rw [hA]; omega), List.take_take, show min (i * z) ((i + 1) * z) = i * z by omega]
 rw [show i * z + z = (cs.take ((i + 1) * z)).length by rw [hA], List.drop_left]
 simp only [List.append_assoc]
theorem ins_grown {z i len : Nat} {cs vs : List CV} (hvl : vs.length = z) (hi : i < len) (hl : len * z = cs.length) :
  splice (splice (cs.take (i * z)) (i * z) vs) ((i + 1) * z) ((cs.drop (i * z)).take ((len - i) * z)) = insRow z cs vs i len := by
 have h1 : (i + 1) * z = i * z + z := by rw [Nat.succ_mul]
 have h2 : (i + 1) * z ≤ len * z := Nat.mul_le_mul_right _ hi
 have h3 : i * z + (len - i) * z = len * z := by rw [← Nat.add_mul]; congr 1; omega
 have h4 : (len + 1) * z = len * z + z := by rw [Nat.succ_mul]
 have hA : (cs.take (i * z)).length = i * z := by rw [List.length_take]; omega
 have e0 : splice (cs.take (i * z)) (i * z) vs = cs.take (i * z) ++ vs := by
  unfold splice
  rw [List.drop_eq_nil_of_le (by rw [hA]; omega), List.append_nil, List.take_of_length_le (by rw [hA]; exact Nat.le_refl _)]
 rw [e0]
 unfold insRow splice
 have e1 : (cs.take (i * z) ++ vs).take ((i + 1) * z) = cs.take (i * z) ++ vs := List.take_of_length_le (by rw [List.length_append, hA, hvl]; omega)
 have e2 : ∀ k, (cs.take (i * z) ++ vs).drop ((i + 1) * z + k) = [] := fun k => List.drop_eq_nil_of_le (by rw [List.length_append, hA, hvl]; omega)
 have e3 : cs.drop ((len + 1) * z) = [] := List.drop_eq_nil_of_le (by omega)
 rw [e1, e2, e3]
theorem max_mul' (a b z : Nat) : max a b * z = max (a * z) (b * z) := by
 rcases Nat.le_total a b with h | h
 ·rw [Nat.max_eq_right h, Nat.max_eq_right (Nat.mul_le_mul_right _ h)]
 ·rw [Nat.max_eq_left h, Nat.max_eq_left (Nat.mul_le_mul_right _ h)]
theorem ins_append {T e z by_ : Nat} (hT : elemT P T = some e) (hz : sizeT P e = some z) (hby : bytesT P e = some by_) (hnz : 0 < z) (hbz : 0 < by_) (hzl : zeroLen P e = some z)
  {b bv len cap : Nat} {cs vs : List CV} (hb : h.f b = .cells (cap * z) cs) (hcl : cs.length = cap * z) (hbv : h.f bv = .cells z vs) (hvl : vs.length = z) (hlc : len ≤ cap) (hroom : (len + 1) * by_ ≤ roomMax) :
  appendC P h T (.sl z b 0 len cap (cap * z)) (.sl z bv 0 1 1 z) = some (.sl z b 0 (len + 1) (max cap (len + 1)) (max cap (len + 1) * z), h.set b (.cells (max cap (len + 1) * z) (insRow z cs vs len len))) := by
 have h4 : (len + 1) * z = len * z + z := by rw [Nat.succ_mul]
 have hle : len * z ≤ cap * z := Nat.mul_le_mul_right _ hlc
 have hrow : insRow z cs vs len len = cs.take (len * z) ++ vs ++ cs.drop ((len + 1) * z) := by simp [insRow]
 have hv1 : (vs.drop 0).take (1 * z) = vs := by rw [List.drop_zero, Nat.one_mul, List.take_of_length_le (by omega)]
 unfold appendC
 rw [hT]
 simp only [hz, hby, contents, hbv, and_self, if_true, hv1]
 unfold appendW
 rw [if_neg (by omega), if_neg (by rw [hzl]; simp; omega)]
 simp only [hb, true_and, hroom, if_true]
 by_cases hf : len + 1 ≤ cap
 ·have hle1 : (len + 1) * z ≤ cap * z := Nat.mul_le_mul_right _ hf
  rw [if_pos hf, Nat.max_eq_left hf, hrow]
  simp only [splice, Nat.zero_add, hvl, ← h4]
 ·obtain rfl : len = cap := by omega
  rw [if_neg hf, if_neg (by omega), Nat.max_eq_right (by omega), hrow, List.drop_eq_nil_of_le (by omega), List.append_nil]
theorem ins_callS {f T I e z by_ : Nat} (L : InsL P f T I e z) (hT : elemT P T = some e) (hz : sizeT P e = some z) (hby : bytesT P e = some by_) (hnz : 0 < z) (hbz : 0 < by_) (hzl : zeroLen P e = some z)
  {b bv len cap i : Nat} {cs vs : List CV} (hb : h.f b = .cells (cap * z) cs) (hbv : h.f bv = .cells z vs) (hne : bv ≠ b) (hi : i ≤ len) (hlc : len ≤ cap) (hroom : (len + 1) * by_ ≤ roomMax) :
  CallS P G f [.sl z b 0 len cap (cap * z), .int .i64 i, .sl z bv 0 1 1 z] h (.sl z h.n 0 (len + 1) (max cap (len + 1)) (max cap (len + 1) * z)) ((h.set b .dead).push (.cells (max cap (len + 1) * z) (insRow z cs vs i len))) := by
 intro R B w μ vals rel gok hl hv
 obtain ⟨vl⟩ := vals
 match vl, hl with
 | [v0, v1, v2], _ =>
 have hv0 := hv 0 _ v0 rfl rfl
 have hv1 := hv 1 _ v1 rfl rfl
 have hv2 := hv 2 _ v2 rfl rfl
 have hv2' := hv2
 cases hv1
 have h62 : len ≤ 4611686018427387904 := by
  have := Nat.le_mul_of_pos_right (len + 1) hbz
  unfold roomMax at hroom
  omega
 have hnotI : notInt P T := ⟨_, L.und, fun k hk => by cases hk⟩
 have hm0 := max_mul' cap (len + 1) z
 have h4 : (len + 1) * z = len * z + z := by rw [Nat.succ_mul]
 have hle : len * z ≤ cap * z := Nat.mul_le_mul_right _ hlc
 cases hv2 with
 | slGone _ _ _ _ _ _ _ _ _ _ hg =>
  exfalso
  rcases hg with hg | ⟨n', cs', hg, hlt⟩
  ·rw [hbv] at hg; cases hg
  ·rw [hbv] at hg; cases hg; omega
 | sl _ _ _ _ _ _ vc vs0 mv hbv0 hmv hlv hov hcv =>
 have hbkv := rel.blk bv mv hmv
 rw [hbv] at hbkv
 obtain ⟨hvl, hfitv, arrv, ev, fzv, hrv, hTv, hfzv, hcellsv⟩ := hbkv
 by_cases hil : i = len
 ·subst hil
  have hmb : ∃ a cap', v0 = .slice (some a) i cap' ∧ i ≤ cap' ∧ cs.length = cap * z ∧ b < h.n := by
   cases hv0 with
   | slGone _ _ _ _ _ _ _ _ _ _ hg =>
    exfalso
    rcases hg with hg | ⟨n', cs', hg, hlt⟩
    ·rw [hb] at hg; cases hg
    ·rw [hb] at hg; cases hg; omega
   | slEnd _ _ _ _ a cs0 m hb0 hm =>
    have hbk := rel.blk b m hm
    rw [hb] at hbk
    exact ⟨a, 0, rfl, Nat.le_refl _, hbk.1, rel.bn hm⟩
   | sl _ _ _ _ _ _ cap' cs0 m hb0 hm hl ho hcc =>
    have hbk := rel.blk b m hm
    rw [hb] at hbk
    exact ⟨_, cap', rfl, by omega, hbk.1, rel.bn hm⟩
  obtain ⟨a, cap', rfl, hle2, hcl, hbn⟩ := hmb
  obtain ⟨v, w1, μ1, hrun, hex, hrel, hvr⟩ := append_ok (P := P) (ty := T) (u := T) rel hnotI (ins_append (P := P) hT hz hby hnz hbz hzl hb hcl hbv hvl hlc hroom) hv0 hv2'
  refine (L.fin (some a) i cap' vc mv.r (mv.s + 0) v w w1 hle2 h62 (fun h => by cases h) hrun).mono ?_
  rintro x w2 ⟨rfl, rfl⟩
  obtain ⟨μ', h1, h2, h3⟩ := reseat0 (h := h) hrel hex (b := b) (row := insRow z cs vs i i) (ns := max cap (i + 1) * z) (set_f _ _ _) rfl rfl (by omega) hbn hvr
  exact ⟨v, μ', rfl, h1, h2, h3⟩
 have hilt : i < len := by omega
 have h1z : (i + 1) * z = i * z + z := by rw [Nat.succ_mul]
 have h2z : (i + 1) * z ≤ len * z := Nat.mul_le_mul_right _ hilt
 have h3z : i * z + (len - i) * z = len * z := by rw [← Nat.add_mul]; congr 1; omega
 cases hv0 with
 | slGone _ _ _ _ _ _ _ _ _ _ hg =>
  exfalso
  rcases hg with hg | ⟨n', cs', hg, hlt⟩
  ·rw [hb] at hg; cases hg
  ·rw [hb] at hg; cases hg; omega
 | slEnd => omega
 | sl _ _ _ _ _ _ cap' cs0 m hb0 hm hlc0 ho hcc =>
 rw [hb] at hb0; cases hb0
 have hbk := rel.blk b m hm
 rw [hb] at hbk
 obtain ⟨hcl, hfitb, arr, eb, fz, hr, hTb, hfz, hcells⟩ := hbk
 obtain ⟨hc2, hc3⟩ : cap ≤ cap' ∧ m.s + cap' * z ≤ m.T := by
  rcases hcc with hcc | ⟨hc1, hc2, hc3⟩
  ·omega
  ·exact ⟨hc2, by simpa using hc3⟩
 have hbn := rel.bn hm
 have hmr : mv.r ≠ m.r := fun he => hne (rel.inj bv b mv m (by rw [hbv]; rfl) (by rw [hb]; rfl) hmv hm he)
 have hv1 : (vs.drop 0).take z = vs := by rw [List.drop_zero, List.take_of_length_le (by omega)]
 have hDl : ((cs.drop (i * z)).take ((len - i) * z)).length = (len - i) * z := by rw [List.length_take, List.length_drop]; omega
 by_cases hfit : len + 1 ≤ cap'
 ·have hle1 : (len + 1) * z ≤ cap' * z := Nat.mul_le_mul_right _ hfit
  obtain ⟨ex0, rel0⟩ := rel_more rel (w' := w.drew) (below_drew w)
  obtain ⟨ls, hrow1, hload1⟩ := load_blk (P := P) rel0 (o := i * z) (n := (len - i) * z) hb hm (by omega)
  obtain ⟨W1, hcp1, ex1, rel1⟩ := copy_raw (P := P) (t := T) (u := T) (ty := I) rel0 L.und hz (k := (i + 1) * z) hb hm (by omega) (dLen := len - i) (dc := cap' - (i + 1)) (sLen := len + 1 - i) (sc := cap' - i) (cnt := len - i)
   (by simp only [Nat.min_def]; split <;> omega) hDl hload1 hrow1 (by omega)
  have hs1 : max (cap * z) ((i + 1) * z + (len - i) * z) = max cap (len + 1) * z := by omega
  rw [hs1] at ex1 rel1
  have hb1 : (h.set b (.cells (max cap (len + 1) * z) (splice cs ((i + 1) * z) ((cs.drop (i * z)).take ((len - i) * z))))).f b = .cells (max cap (len + 1) * z) (splice cs ((i + 1) * z) ((cs.drop (i * z)).take ((len - i) * z))) := by rw [set_f, fupd_same]
  have hbv1 : (h.set b (.cells (max cap (len + 1) * z) (splice cs ((i + 1) * z) ((cs.drop (i * z)).take ((len - i) * z))))).f bv = .cells z vs := by rw [set_f, fupd_ne _ _ _ _ hne]; exact hbv
  obtain ⟨lv, hrow2, hload2⟩ := load_blk (P := P) rel1 (o := 0) (n := z) hbv1 hmv (by omega)
  rw [hv1] at hrow2
  obtain ⟨W2, hcp2, ex2, rel2⟩ := copy_raw (P := P) (t := T) (u := T) (ty := I) rel1 L.und hz (k := i * z) hb1 hm (by omega) (dLen := len + 1 - i) (dc := cap' - i) (sLen := 1) (sc := vc) (cnt := 1)
   (by simp only [Nat.min_def]; split <;> omega) (by omega) (by rw [Nat.one_mul]; exact hload2) hrow2 (by omega)
  have hs2 : max (max cap (len + 1) * z) (i * z + 1 * z) = max cap (len + 1) * z := by omega
  rw [hs2, ins_splice hvl hilt (by omega)] at ex2 rel2
  have hfa : w.frozen? ⟨mv.r, mv.s + 0, none⟩ = false := by
   simp only [World.frozen?, hrv]
   rcases hfzv with h0 | h0
   ·subst h0; simp
   ·simp; intro h3; omega
  have hfe : w.frozen? ⟨mv.r, arrv.size, none⟩ = false := by
   simp only [World.frozen?, hrv]
   rcases hfzv with h0 | h0
   ·subst h0; simp
   ·simp; intro h3; omega
  refine (L.shift m.r m.s len cap' i mv.r (mv.s + 0) vc _ _ w W1 W2 ev eb arrv.size arr.size hilt hfit h62 hmr (by simp [World.shape?, hrv]) (by simp [World.shape?, hr]) (by omega) hfa hfe hcp1 hcp2).mono ?_
  rintro x w2 ⟨rfl, rfl⟩
  obtain ⟨μ', h1, h2, h3⟩ := reseat0 (h := h) rel2 ((ex0.trans ex1).trans ex2) (b := b) (row := insRow z cs vs i len) (ns := max cap (len + 1) * z) (n := len + 1) (nc := max cap (len + 1)) (z := z) (v := .slice (some ⟨m.r, m.s + 0, none⟩) (len + 1) cap') (by
   rw [set_f, set_f]
   funext y
   simp only [fupd]
   split <;> rfl) rfl rfl (by omega) hbn (.sl z b 0 (len + 1) (max cap (len + 1)) (max cap (len + 1) * z) cap' _ m (by rw [set_f, fupd_same]) hm (by omega) (by omega) (.inr ⟨by omega, by omega, by simpa using hc3⟩))
  exact ⟨_, μ', rfl, h1, h2, h3⟩
 ·obtain rfl : cap = len := by omega
  obtain rfl : cap' = cap := by omega
  obtain ⟨i0, zv, hi0, hzv, hzs⟩ := zeroLen_some hzl
  have hsize : i0.size = z := by simp [sizeT, hi0] at hz; exact hz
  have hbytes : i0.bytes = by_ := by simp [bytesT, hi0] at hby; exact hby
  have hco : contents h z (.sl z b 0 i cap' (cap' * z)) = some ((cs.drop 0).take (i * z), i) := by simp [contents, hb]
  obtain ⟨hol, _, olds, horow, hofc⟩ := contents_ok (P := P) rel hco (VR.sl z b 0 i cap' (cap' * z) cap' cs m hb hm (by omega) (by omega) (.inr ⟨by omega, Nat.le_refl _, by simpa using hc3⟩))
  have hold := hofc i (Nat.le_refl _) w.drew (fun _ => rfl)
  rw [List.take_of_length_le (by rw [horow.1, hol]; exact Nat.le_refl _)] at hold
  rw [List.drop_zero] at horow hol
  have hroom' : (cap' + 1) * i0.bytes ≤ roomMax := by rw [hbytes]; exact hroom
  have hik : i + (cap' + 1 - i) = cap' + 1 := by omega
  have hb48 : (cap' + 1 - i) * i0.bytes ≤ (cap' + 1) * i0.bytes := Nat.mul_le_mul_right _ (by omega)
  have happ := Lib.run_append_grow_zeros w T I T e i0 zv .i64 .i64 L.und L.undI hi0 hzv (some ⟨m.r, m.s + 0, none⟩) i cap' olds (by rw [hsize]; exact hold) (cap' + 1 - i) (by omega) (by omega) (by omega) (by omega) (by unfold roomMax at hroom'; omega)
   (by rw [hik]; have := growslice_fits (old := cap') (need := cap' + 1) (by omega) hroom'; omega)
  rw [hik] at happ
  obtain ⟨GG, hGG⟩ : ∃ GG, GG = grownCap w (cap' + 1) cap' e := ⟨_, rfl⟩
  have hGn : cap' + 1 ≤ GG := by rw [hGG]; exact grownCap_ge w _ _ _
  rw [← hGG] at happ
  obtain ⟨ROW, hROW⟩ : ∃ ROW : Array Value, ROW = olds.toArray ++ Builtin.zeroCells zv.cells (cap' + 1 - i) ++ Builtin.zeroCells zv.cells (GG - (cap' + 1)) := ⟨_, rfl⟩
  rw [← hROW] at happ
  have hRs : (cap' + 1) * z ≤ ROW.size := by
   have e1 : i * z + (cap' + 1 - i) * z = (cap' + 1) * z := by rw [← Nat.add_mul]; congr 1
   rw [hROW]
   simp only [Array.size_append, List.size_toArray, Builtin.zeroCells]
   simp [hzs, horow.1]
   omega
  have hA : (cs.take (i * z)).length = i * z := by rw [List.length_take]; omega
  obtain ⟨ex0, rel0⟩ := rel.push (w' := w.drew.alloc (.cells ROW e)) (cs.take (i * z)) ROW e rfl rfl rfl rfl (by omega) (fun j c hj => by
   obtain ⟨v, g1, g2, g3⟩ := horow.2 j c hj
   refine ⟨v, ?_, g2, g3⟩
   have hlt : j < olds.length := (List.getElem?_eq_some_iff.1 g1).1
   rw [hROW, Array.append_assoc, Array.getElem?_append_left (by simpa using hlt)]
   simpa using g1)
  rw [hA] at ex0 rel0
  have hbne : b ≠ h.n := by omega
  have hbvn := rel.bn hmv
  have hbvne : bv ≠ h.n := by omega
  have hmn : (fupd μ h.n (some ⟨w.heap.size, 0, ROW.size⟩)) h.n = some ⟨w.heap.size, 0, ROW.size⟩ := fupd_same _ _ _
  have hmv0 : (fupd μ h.n (some ⟨w.heap.size, 0, ROW.size⟩)) bv = some mv := by rw [fupd_ne _ _ _ _ hbvne]; exact hmv
  have hmb0 : (fupd μ h.n (some ⟨w.heap.size, 0, ROW.size⟩)) b = some m := by rw [fupd_ne _ _ _ _ hbne]; exact hm
  have hbN : (h.push (.cells (i * z) (cs.take (i * z)))).f h.n = .cells (i * z) (cs.take (i * z)) := by rw [push_f, fupd_same]
  have hbV : (h.push (.cells (i * z) (cs.take (i * z)))).f bv = .cells z vs := by rw [push_f, fupd_ne _ _ _ _ hbvne]; exact hbv
  obtain ⟨lv, hrow1, hload1⟩ := load_blk (P := P) rel0 (o := 0) (n := z) hbV hmv0 (by omega)
  rw [hv1] at hrow1
  obtain ⟨W1, hcp1, ex1, rel1⟩ := copy_raw (P := P) (t := T) (u := T) (ty := I) rel0 L.und hz (k := i * z) hbN hmn (Nat.le_refl _) (dLen := cap' + 1 - i) (dc := GG - i) (sLen := 1) (sc := vc) (cnt := 1)
   (by simp only [Nat.min_def]; split <;> omega) (by omega) (by rw [Nat.one_mul]; exact hload1) hrow1 (by simp only; omega)
  have hs1 : max (i * z) (i * z + 1 * z) = (i + 1) * z := by omega
  rw [hs1] at ex1 rel1
  obtain ⟨exd, reld⟩ := rel_more rel1 (w' := W1.drew) (below_drew W1)
  have hbN1 : ((h.push (.cells (i * z) (cs.take (i * z)))).set h.n (.cells ((i + 1) * z) (splice (cs.take (i * z)) (i * z) vs))).f h.n = .cells ((i + 1) * z) (splice (cs.take (i * z)) (i * z) vs) := by rw [set_f, fupd_same]
  have hbB1 : ((h.push (.cells (i * z) (cs.take (i * z)))).set h.n (.cells ((i + 1) * z) (splice (cs.take (i * z)) (i * z) vs))).f b = .cells (cap' * z) cs := by rw [set_f, fupd_ne _ _ _ _ hbne, push_f, fupd_ne _ _ _ _ hbne]; exact hb
  obtain ⟨ls, hrow2, hload2⟩ := load_blk (P := P) reld (o := i * z) (n := (cap' - i) * z) hbB1 hmb0 (by omega)
  obtain ⟨W2, hcp2, ex2, rel2⟩ := copy_raw (P := P) (t := T) (u := T) (ty := I) reld L.und hz (k := (i + 1) * z) hbN1 hmn (Nat.le_refl _) (dLen := cap' - i) (dc := GG - (i + 1)) (sLen := cap' - i) (sc := cap' - i) (cnt := cap' - i)
   (by simp only [Nat.min_def]; split <;> omega) hDl hload2 hrow2 (by simp only; omega)
  have hs2 : max ((i + 1) * z) ((i + 1) * z + (cap' - i) * z) = (cap' + 1) * z := by omega
  rw [hs2, ins_grown hvl hilt (by omega)] at ex2 rel2
  simp only [Nat.zero_add] at hcp1 hcp2
  have hnw : max cap' (cap' + 1) = cap' + 1 := by omega
  rw [hnw]
  refine (L.grow m.r (m.s + 0) cap' cap' i mv.r (mv.s + 0) vc w.heap.size GG _ _ w _ W1 W2 hilt (Nat.le_refl _) (by omega) hGn h62 ?_ hcp1 hcp2).mono ?_
  ·have : (cap' : Int) + 1 - (i : Int) = ((cap' + 1 - i : Nat) : Int) := by omega
   rw [this]
   exact happ
  rintro x w2 ⟨rfl, rfl⟩
  have hk := rel2.kill (b := b) (sz := cap' * z) (cs := cs) (h' := (h.set b .dead).push (.cells ((cap' + 1) * z) (insRow z cs vs i cap'))) (by rw [set_f, fupd_ne _ _ _ _ hbne]; exact hbB1) (by rw [set_n, set_n, push_n]; omega) (by
   rw [push_f, set_f, set_n, set_f, set_f, push_f]
   funext y
   simp only [fupd]
   by_cases h1 : y = h.n
   ·rw [if_pos h1, if_neg (by omega), if_pos h1]
   ·rw [if_neg h1]
    split
    ·rfl
    ·simp [h1]) (by rw [push_n, set_n, set_n, set_n, push_n])
  refine ⟨_, _, rfl, (((ex0.trans ex1).trans exd).trans ex2).trans hk.1, hk.2, ?_⟩
  have := VR.sl (w := w2) (R := R) (h := (h.set b .dead).push (.cells ((cap' + 1) * z) (insRow z cs vs i cap'))) (μ := fupd μ h.n (some ⟨w.heap.size, 0, ROW.size⟩)) z h.n 0 (cap' + 1) (cap' + 1) ((cap' + 1) * z) GG (insRow z cs vs i cap') ⟨w.heap.size, 0, ROW.size⟩ (by rw [push_f, set_n, fupd_same]) (by simp) (Nat.le_refl _) (by omega) (.inr ⟨by omega, hGn, by
   simp only
   have e1 : i * z + (cap' + 1 - i) * z = (cap' + 1) * z := by rw [← Nat.add_mul]; congr 1
   have e2 : (cap' + 1) * z + (GG - (cap' + 1)) * z = GG * z := by rw [← Nat.add_mul]; congr 1; omega
   rw [hROW]
   simp only [Array.size_append, List.size_toArray, Builtin.zeroCells]
   simp [hzs, horow.1]
   omega⟩)
  simpa using this
theorem ins_callN {f T I e z by_ : Nat} (L : InsL P f T I e z) (hT : elemT P T = some e) (hz : sizeT P e = some z) (hby : bytesT P e = some by_) (hnz : 0 < z) (hbz : 0 < by_) (hzl : zeroLen P e = some z)
  {bv : Nat} {vs : List CV} (hbv : h.f bv = .cells z vs) (hroom : by_ ≤ roomMax) :
  CallS P G f [.nilS, .int .i64 0, .sl z bv 0 1 1 z] h (.sl z h.n 0 1 1 z) (h.push (.cells z vs)) := by
 intro R B w μ vals rel gok hl hv
 obtain ⟨vl⟩ := vals
 match vl, hl with
 | [v0, v1, v2], _ =>
 have hv0 := hv 0 _ v0 rfl rfl
 have hv1 := hv 1 _ v1 rfl rfl
 have hv2 := hv 2 _ v2 rfl rfl
 have hv2' := hv2
 cases hv1
 have hv0' := hv0
 cases hv0
 have hnotI : notInt P T := ⟨_, L.und, fun k hk => by cases hk⟩
 cases hv2 with
 | slGone _ _ _ _ _ _ _ _ _ _ hg =>
  exfalso
  rcases hg with hg | ⟨n', cs', hg, hlt⟩
  ·rw [hbv] at hg; cases hg
  ·rw [hbv] at hg; cases hg; omega
 | sl _ _ _ _ _ _ vc vs0 mv hbv0 hmv hlv hov hcv =>
 have hbkv := rel.blk bv mv hmv
 rw [hbv] at hbkv
 obtain ⟨hvl, _⟩ := hbkv
 have ha : appendC P h T .nilS (.sl z bv 0 1 1 z) = some (.sl z h.n 0 1 1 z, h.push (.cells z vs)) := by
  have hv1 : (vs.drop 0).take (1 * z) = vs := by rw [List.drop_zero, Nat.one_mul, List.take_of_length_le (by omega)]
  unfold appendC
  rw [hT]
  simp only [hz, hby, contents, hbv, and_self, if_true, hv1]
  unfold appendW
  rw [if_neg (by omega), if_neg (by rw [hzl]; simp; omega)]
  simp only [Nat.one_mul, hroom, if_true]
 obtain ⟨v, w1, μ1, hrun, hex, hrel, hvr⟩ := append_ok (P := P) (ty := T) (u := T) rel hnotI ha hv0' hv2'
 refine (L.fin none 0 0 vc mv.r (mv.s + 0) v w w1 (Nat.le_refl _) (by omega) (fun _ => ⟨rfl, rfl⟩) hrun).mono ?_
 rintro x w2 ⟨rfl, rfl⟩
 exact ⟨v, μ1, rfl, hex, hrel, hvr⟩
theorem insH_ok {f T I e z by_ : Nat} (L : InsL P f T I e z) (hT : elemT P T = some e) (hz : sizeT P e = some z) (hby : bytesT P e = some by_) (hnz : 0 < z) (hbz : 0 < by_) (hzl : zeroLen P e = some z)
  (args : List CV) (h : Hp) (r : CV) (h' : Hp) (hx : insH z by_ args h = some (r, h')) : CallS P G f args h r h' := by
 unfold insH at hx
 split at hx
 ·rename_i s x y
  split at hx
  ·rename_i i z2 bv o2 l2 c2 s2 hxi
   have hxx : x = .int .i64 i := by
    unfold asI64 at hxi
    split at hxi
    ·split at hxi
     ·cases hxi; rfl
     ·cases hxi
    ·cases hxi
   subst hxx
   split at hx
   ·rename_i m2 vs hbv
    split at hx
    ·rename_i hc
     obtain ⟨rfl, rfl, rfl, rfl, rfl, rfl, h0⟩ := hc
     obtain ⟨k, rfl⟩ := Int.eq_ofNat_of_zero_le h0
     rw [Int.toNat_natCast] at hx
     unfold insS at hx
     cases s <;> simp only at hx <;> try (cases hx; done)
     case nilS =>
      split at hx
      ·rename_i hc
       obtain ⟨rfl, hr⟩ := hc
       cases hx
       exact ins_callN L hT hz hby hnz hbz hzl hbv hr
      ·cases hx
     case sl z1 b off len cap sz =>
      cases hb : h.f b <;> rw [hb] at hx <;> (try simp only at hx) <;> try (cases hx; done)
      split at hx
      ·rename_i hc
       obtain ⟨rfl, rfl, rfl, rfl, hne, hi, hlc, hr⟩ := hc
       cases hx
       exact ins_callS L hT hz hby hnz hbz hzl hb hbv hne hi hlc hr
      ·cases hx
    ·cases hx
   ·cases hx
  ·cases hx
 ·cases hx
end
end Go.CM
