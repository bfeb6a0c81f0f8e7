/-
  The sort of Go's library, laid at this translation (printed by program).
-/
import Derived.Test.YtacddnkgkogabaaDoorKi
import Derived.Test.YtacddnkgkogabaaDoorRows
import Derived.Shelf.SlSortCmp.WholeK
import Derived.Shelf.SlGeneric
namespace Go.Proofs
open Go.Shelf
set_option maxRecDepth 100000
def Tryd.sortL_ren : Go.Shelf.Ren := ⟨fun | 6 => 59 | 15 => 73 | 14 => 72 | 28 => 89 | 29 => 90 | 20 => 81 | 21 => 82 | 22 => 83 | 23 => 84 | 24 => 85 | 25 => 86 | 26 => 87 | 27 => 88 | 46 => 98 | 47 => 99 | 48 => 100 | 49 => 101 | 50 => 102 | 57 => 107 | n => n, fun | 22 => 50 | 24 => 24 | 25 => 94 | 3 => 3 | 39 => 74 | 0 => 0 | 53 => 105 | 55 => 36 | 4 => 4 | 46 => 122 | 45 => 121 | 50 => 126 | 5 => 5 | 9 => 9 | 66 => 139 | 70 => 143 | 76 => 150 | 77 => 151 | n => n, fun | n => n⟩
theorem Tryd.sortL : Go.Proofs.SlLaysF0.n6 Tryd.prog Tryd.sortL_ren where
  mixed := by kernel_rfl
  f6 := ⟨"slices.SortFunc[[]braid/api.ID,braid/api.ID]", by decide, Tryd.func59.trans (congrArg some (by kernel_rfl))⟩
  f14 := ⟨"slices.pdqsortCmpFunc[braid/api.ID]", by decide, Tryd.func72.trans (congrArg some (by kernel_rfl))⟩
  f15 := Tryd.func73.trans (congrArg some (by kernel_rfl))
  f20 := ⟨"slices.insertionSortCmpFunc[braid/api.ID]", by decide, Tryd.func81.trans (congrArg some (by kernel_rfl))⟩
  f21 := ⟨"slices.heapSortCmpFunc[braid/api.ID]", by decide, Tryd.func82.trans (congrArg some (by kernel_rfl))⟩
  f22 := ⟨"slices.breakPatternsCmpFunc[braid/api.ID]", by decide, Tryd.func83.trans (congrArg some (by kernel_rfl))⟩
  f23 := ⟨"slices.choosePivotCmpFunc[braid/api.ID]", by decide, Tryd.func84.trans (congrArg some (by kernel_rfl))⟩
  f24 := ⟨"slices.reverseRangeCmpFunc[braid/api.ID]", by decide, Tryd.func85.trans (congrArg some (by kernel_rfl))⟩
  f25 := ⟨"slices.partialInsertionSortCmpFunc[braid/api.ID]", by decide, Tryd.func86.trans (congrArg some (by kernel_rfl))⟩
  f26 := ⟨"slices.partitionEqualCmpFunc[braid/api.ID]", by decide, Tryd.func87.trans (congrArg some (by kernel_rfl))⟩
  f27 := ⟨"slices.partitionCmpFunc[braid/api.ID]", by decide, Tryd.func88.trans (congrArg some (by kernel_rfl))⟩
  f28 := Tryd.func89.trans (congrArg some (by kernel_rfl))
  f29 := Tryd.func90.trans (congrArg some (by kernel_rfl))
  f46 := ⟨"slices.siftDownCmpFunc[braid/api.ID]", by decide, Tryd.func98.trans (congrArg some (by kernel_rfl))⟩
  f47 := Tryd.func99.trans (congrArg some (by kernel_rfl))
  f48 := Tryd.func100.trans (congrArg some (by kernel_rfl))
  f49 := ⟨"slices.medianAdjacentCmpFunc[braid/api.ID]", by decide, Tryd.func101.trans (congrArg some (by kernel_rfl))⟩
  f50 := ⟨"slices.medianCmpFunc[braid/api.ID]", by decide, Tryd.func102.trans (congrArg some (by kernel_rfl))⟩
  f57 := ⟨"slices.order2CmpFunc[braid/api.ID]", by decide, Tryd.func107.trans (congrArg some (by kernel_rfl))⟩
  t0 := Tryd.underlying0
  a0 := Tryd.isAgg0
  z0 := Tryd.sizeOf0
  v0 := Tryd.zeroValue0
  t3 := Tryd.underlying3
  a3 := Tryd.isAgg3
  z3 := Tryd.sizeOf3
  v3 := Tryd.zeroValue3
  t4 := Tryd.underlying4
  a4 := Tryd.isAgg4
  z4 := Tryd.sizeOf4
  v4 := Tryd.zeroValue4
  t5 := Tryd.underlying5
  a5 := Tryd.isAgg5
  z5 := Tryd.sizeOf5
  v5 := Tryd.zeroValue5
  t9 := Tryd.underlying9
  a9 := Tryd.isAgg9
  z9 := Tryd.sizeOf9
  v9 := Tryd.zeroValue9
  t22 := Tryd.underlying50
  a22 := Tryd.isAgg50
  z22 := Tryd.sizeOf50
  v22 := Tryd.zeroValue50
  t25 := Tryd.underlying94
  a25 := Tryd.isAgg94
  z25 := Tryd.sizeOf94
  v25 := Tryd.zeroValue94
  t39 := Tryd.underlying74
  a39 := Tryd.isAgg74
  z39 := Tryd.sizeOf74
  v39 := Tryd.zeroValue74
  t45 := Tryd.underlying121
  a45 := Tryd.isAgg121
  z45 := Tryd.sizeOf121
  v45 := Tryd.zeroValue121
  t46 := Tryd.underlying122
  a46 := Tryd.isAgg122
  z46 := Tryd.sizeOf122
  v46 := Tryd.zeroValue122
  t50 := Tryd.underlying126
  a50 := Tryd.isAgg126
  z50 := Tryd.sizeOf126
  v50 := Tryd.zeroValue126
  t53 := Tryd.underlying105
  a53 := Tryd.isAgg105
  z53 := Tryd.sizeOf105
  v53 := Tryd.zeroValue105
  t55 := Tryd.underlying36
  a55 := Tryd.isAgg36
  z55 := Tryd.sizeOf36
  v55 := Tryd.zeroValue36
  t66 := Tryd.underlying139
  a66 := Tryd.isAgg139
  z66 := Tryd.sizeOf139
  v66 := Tryd.zeroValue139
  t70 := Tryd.underlying143
  a70 := Tryd.isAgg143
  z70 := Tryd.sizeOf143
  v70 := Tryd.zeroValue143
  t76 := Tryd.underlying150
  a76 := Tryd.isAgg150
  z76 := Tryd.sizeOf150
  v76 := Tryd.zeroValue150
  t77 := Tryd.underlying151
  a77 := Tryd.isAgg151
  z77 := Tryd.sizeOf151
  v77 := Tryd.zeroValue151
end Go.Proofs

/-
  Ids, sorted by Go's library.
-/
namespace Go.CM
open Go Go.Proofs Go.Sort Go.Shelf
set_option linter.unusedVariables false
set_option linter.unusedSimpArgs false
set_option maxRecDepth 100000
open Sha

abbrev Idx := {l : List B // l.length = 32}
instance : Inhabited Idx := ⟨⟨List.replicate 32 0#8, by simp⟩⟩
def encX (x : Idx) : List CV := x.1.map e8
def cmpX (x y : Idx) : Int := cmpB x.1 y.1
theorem swo_X : SWO (ltOf cmpX) where
  irrefl x := swo_cmpB.irrefl x.1
  trans x y z := swo_cmpB.trans x.1 y.1 z.1
  ntrans x y z := swo_cmpB.ntrans x.1 y.1 z.1
theorem anti_X (x y : Idx) (h1 : ltOf cmpX x y = false) (h2 : ltOf cmpX y x = false) : x = y := Subtype.ext (anti_cmpB x.1 y.1 h1 h2)
theorem encX_len (x : Idx) : (encX x).length = 32 := by unfold encX; rw [List.length_map, x.2]
theorem encX_plain (x : Idx) : ∀ c ∈ encX x, plainC c = true := fun c hc => by obtain ⟨b, _, rfl⟩ := List.mem_map.1 hc; rfl
theorem sortL_ids {g : Nat} (eg : ∀ args w, (callFunc g args).run Tryd.prog w = .ok (.enter g args) w) : SortL Tryd.prog 59 g 32 (fun x => (encX x).map valOf) cmpX :=
  fun blk off cap d w hcmp hH hblk hsz =>
    AnyQ.slices_SortFunc Tryd.sortL 32 (by intro w; exact Tryd.isAgg24 w) (by intro w; exact Tryd.sizeOf24 w) _ (fun x => by rw [List.length_map, encX_len]) (fun x v hv => by obtain ⟨c, _, rfl⟩ := List.mem_map.1 hv; exact valOf_one c) cmpX swo_X g #[] blk off cap d w eg hcmp hH hblk hsz
end Go.CM

/-
  Sketches: compare, Of, walked.
-/
namespace Go.CM
open Go Go.Proofs Go.Sort Go.Shelf
set_option linter.unusedVariables false
set_option linter.unusedSimpArgs false
set_option maxRecDepth 100000
namespace Sk
open Sha

theorem enc8_flat : ∀ a : List B, (a.map enc8).flatten = a.map e8
  | [] => rfl
  | x :: a => by rw [List.map_cons, List.flatten_cons, enc8_flat a]; rfl
theorem own_arr {l : Hl} {j n : Nat} {a : List B} (ha : a.length = n) (hj : l[j]? = some (.cells n (a.map e8))) : OwnS 1 l (.sl 1 j 0 n n n) j (a.map enc8) := by
  refine .sl j n n n (a.map e8) _ hj (by simp [ha]) (by simp [ha]) (fun e he => ?_) (Nat.le_refl _) (by omega) ?_
  · obtain ⟨x, _, rfl⟩ := List.mem_map.1 he; rfl
  · rw [List.take_of_length_le (by simp [ha]), enc8_flat]
theorem skcmp_ok (a b : List B) (ha : a.length = 32) (hb : b.length = 32) : PureC Tryd.prog GS 60 [idC a, idC b] (.int .i64 (cmpB a b)) := by
  refine pure_of Tryd.checked.mixed GS_closed ?_
  apply call_intro c60_eq r60_eq
  unfold c60 r60
  have hs := slice_arr_all (n := 32) (b := 1) (by omega)
  have hs0 := slice_arr_all (n := 32) (b := 0) (by omega)
  simp [idC, ha, hb, hs, hs0]
  have hc := compare_ok (some a) (some b) (by simp [ha]) (by simp [ha, hb])
  refine pure_callB hc ?_ rfl ?_
  · exact .cons ((own_arr (j := 0) ha rfl).rdH_enc (fun _ => rfl) (some a) rfl rfl) (.cons ((own_arr (j := 1) hb rfl).rdH_enc (fun _ => rfl) (some b) rfl rfl) .nil)
  · simp
    exact rd_eq rfl rfl

/-! Of -/
def eId (i : List B) : List CV := i.map e8
abbrev Ids := Sv (List B)
def encIds (s : Ids) : CV := encS 32 eId s
def okIds (s : Ids) : Prop := ∀ i ∈ s.l, i.length = 32
theorem closed_eId (i : List B) : closedL (eId i) = true := closedL_map e8 (fun _ => rfl) _
theorem closed_ids (s : Ids) : (encIds s).closed = true := closed_encS closed_eId s
/-- Bounds of all counts. -/
def Bnd (m : Int) (l : List Cell) : Prop := ∀ c ∈ l, -m ≤ c.count ∧ c.count ≤ m
theorem putAt_some {N : Nat} {id : List B} {by_ : Int} {w : Q} (hid : id.length = 32) (hby : -1 ≤ by_ ∧ by_ ≤ 1) : ∀ (ps : List Nat) (l : List Cell) (m : Int), (∀ p ∈ ps, p < N) → l.length = N → (∀ c ∈ l, c.sum.length = 32) → Bnd m l → m + ps.length ≤ 1000000 →
    ∃ t, putAt id by_ w ps l = some t ∧ t.length = N ∧ (∀ c ∈ t, c.sum.length = 32) ∧ Bnd (m + ps.length) t
  | [], l, m, _, hl, ho, hb, _ => ⟨l, rfl, hl, ho, by simpa using hb⟩
  | p :: ps, l, m, hp, hl, ho, hb, hm => by
    have hpl : p < l.length := by rw [hl]; exact hp p (by simp)
    unfold putAt
    rw [List.getElem?_eq_getElem hpl]
    simp only
    have hc := hb l[p] (List.getElem_mem hpl)
    have hin : inR (stepC l[p] id by_ w) = true := by
      rw [inR_iff]; simp only [stepC]; simp only [List.length_cons] at hm; omega
    rw [hin]
    simp only
    obtain ⟨t, h1, h2, h3, h4⟩ := putAt_some (N := N) (w := w) hid hby ps (l.set p (stepC l[p] id by_ w)) (m + 1) (fun q hq => hp q (by simp [hq])) (by simpa using hl) (fun c hc => by
      rcases List.mem_or_eq_of_mem_set hc with h | h
      · exact ho c h
      · subst h; exact xorL_len (ho _ (List.getElem_mem hpl)) hid) (fun c hc => by
      rcases List.mem_or_eq_of_mem_set hc with h | h
      · have := hb c h; omega
      · subst h; simp only [stepC]; omega) (by simp only [List.length_cons] at hm; omega)
    refine ⟨t, h1, h2, h3, fun c hc => ?_⟩
    have := h4 c hc
    simp only [List.length_cons]
    omega
theorem changed_some {l : List Cell} {id : List B} {by_ m : Int} (hid : id.length = 32) (hby : -1 ≤ by_ ∧ by_ ≤ 1) (hsz : sizedB l.length = true) (ho : ∀ c ∈ l, c.sum.length = 32) (hb : Bnd m l) (hm : m + 3 ≤ 1000000) :
    ∃ t, changed l id by_ = some t ∧ t.length = l.length ∧ (∀ c ∈ t, c.sum.length = 32) ∧ Bnd (m + 3) t := by
  obtain ⟨N, hN, h3, h48, hmod⟩ := sized_nat hsz
  have hN' : l.length = N := by omega
  have := putAt_some (N := l.length) (w := word id) hid hby (placesL l.length id) l m (fun p hp => by
    simp only [placesL, List.mem_cons, List.not_mem_nil, or_false] at hp
    rcases hp with rfl | rfl | rfl <;> exact place_lt_n (by omega) (by omega) id (by omega)) rfl ho hb (by simpa [placesL] using hm)
  simpa [placesL, changed] using this
theorem chk_of {s : Sketch} (hsz : sizedB s.l.length = true) (hb : Bnd 1000000 s.l) : chk s = 0 := by
  unfold chk
  rw [if_pos ⟨hsz, List.all_eq_true.2 fun c hc => by rw [inR_iff]; exact hb c hc⟩]
theorem put_of {s : Sketch} {id : List B} {by_ : Int} {t : List Cell} (h0 : chk s = 0) (h : changed s.l id by_ = some t) : put s id by_ = (some t, 0) := by unfold put; rw [if_pos h0, h]
/-- A sketch, valid, with bounded counts. -/
structure Good (N : Nat) (m : Int) (l : List Cell) : Prop where
  len : l.length = N
  sum : ∀ c ∈ l, c.sum.length = 32
  bnd : Bnd m l
def addAll (l : List Cell) (ids : List (List B)) : List Cell := ids.foldl (fun l i => (changed l i 1).getD []) l
theorem Good.step {N : Nat} {m : Int} {l : List Cell} (g : Good N m l) (hN : sizedB N = true) {id : List B} (hid : id.length = 32) {by_ : Int} (hby : -1 ≤ by_ ∧ by_ ≤ 1) (hm : m + 3 ≤ 1000000) :
    ∃ t, changed l id by_ = some t ∧ Good N (m + 3) t := by
  obtain ⟨t, h1, h2, h3, h4⟩ := changed_some hid hby (by rw [g.len]; exact hN) g.sum g.bnd hm
  exact ⟨t, h1, ⟨by rw [h2, g.len], h3, h4⟩⟩
theorem Good.add {N : Nat} (hN : sizedB N = true) : ∀ (ids : List (List B)) (m : Int) (l : List Cell), Good N m l → (∀ i ∈ ids, i.length = 32) → m + 3 * ids.length ≤ 1000000 → Good N (m + 3 * ids.length) (addAll l ids)
  | [], m, l, g, _, _ => by simpa [addAll] using g
  | i :: ids, m, l, g, hi, hm => by
    simp only [List.length_cons] at hm
    obtain ⟨t, h1, h2⟩ := g.step hN (hi i (by simp)) (by_ := 1) (by omega) (by omega)
    have := Good.add hN ids (m + 3) t h2 (fun j hj => hi j (by simp [hj])) (by omega)
    have e : addAll l (i :: ids) = addAll t ids := by unfold addAll; rw [List.foldl_cons, h1]; rfl
    rw [e]
    have e2 : m + 3 * ((i :: ids).length : Int) = m + 3 + 3 * ids.length := by simp only [List.length_cons]; omega
    rw [e2]; exact this
theorem Good.zero (N : Nat) : Good N 0 (List.replicate N zeroCell) := ⟨by simp, fun c hc => by rw [(List.mem_replicate.1 hc).2]; rfl, fun c hc => by rw [(List.mem_replicate.1 hc).2]; simp [zeroCell]⟩
end Sk
end Go.CM

/-
  Sketches: Sub, walked.
-/
namespace Go.CM
open Go Go.Proofs Go.Sort Go.Shelf
set_option linter.unusedVariables false
set_option linter.unusedSimpArgs false
set_option maxRecDepth 100000
namespace Sk
open Sha

def subC (c d : Cell) : Cell := ⟨c.count - d.count, xorL c.sum d.sum, c.check ^^^ d.check⟩
def subL (a b : List Cell) : List Cell := List.zipWith subC a b
def subS (a b : Sketch) : Sketch × Int :=
  if chk a = 0 then (if chk b = 0 then (if a.l.length = b.l.length then (if (subL a.l b.l).all inR = true then (some (subL a.l b.l), 0) else (none, 16)) else (none, 2)) else (none, chk b)) else (none, chk a)
end Sk
end Go.CM

/-
  Sets of ids that are maps of one's own.
-/
namespace Go.CM
open Go Go.Proofs
set_option linter.unusedVariables false
set_option linter.unusedSimpArgs false
set_option maxRecDepth 100000
open Sha Sk

theorem beqL_refl : ∀ l : List B, beqL (l.map e8) (l.map e8) = true
  | [] => rfl
  | x :: l => by
    have h1 : CV.beq (e8 x) (e8 x) = true := by simp [e8, CV.beq]
    show (CV.beq (e8 x) (e8 x) && beqL (l.map e8) (l.map e8)) = true
    rw [h1, beqL_refl l]; rfl
theorem beq_id (x : List B) : CV.beq (idC x) (idC x) = true := beqL_refl x
theorem fits_id {x : List B} (h : x.length = 32) : keyFits Tryd.prog 24 (idC x) = true := by
  have h1 : keyTy Tryd.prog 8 24 = true := by kernel_rfl
  have h2 : aggT Tryd.prog 24 = some true := by kernel_rfl
  have h3 : sizeT Tryd.prog 24 = some 32 := by kernel_rfl
  have h4 : (x.map e8).all plain1 = true := by rw [List.all_eq_true]; intro c hc; obtain ⟨b, _, rfl⟩ := List.mem_map.1 hc; rfl
  show (keyTy Tryd.prog 8 24 && (match aggT Tryd.prog 24, sizeT Tryd.prog 24 with | some true, some m => Nat.beq (x.map e8).length m | _, _ => false) && (x.map e8).all plain1) = true
  rw [h1, h2, h3, h4, List.length_map, h]
  rfl
/-- The entries of a set. -/
inductive Ents : List (CV × CV × Nat) → List (List B) → Prop
  | nil : Ents [] []
  | cons {es : List (CV × CV × Nat)} {ks : List (List B)} {k : List B} (n : Nat) (hk : k.length = 32) (h : Ents es ks) : Ents ((idC k, .bool true, n) :: es) (k :: ks)
theorem Ents.len {es : List (CV × CV × Nat)} {ks : List (List B)} (h : Ents es ks) : es.length = ks.length := by induction h <;> simp_all
theorem Ents.snoc {es : List (CV × CV × Nat)} {ks : List (List B)} (h : Ents es ks) {k : List B} (hk : k.length = 32) (n : Nat) : Ents (es ++ [(idC k, .bool true, n)]) (ks ++ [k]) := by
  induction h with
  | nil => exact .cons n hk .nil
  | cons m hk' h ih => exact .cons m hk' ih
theorem find_id {x : List B} (hx : x.length = 32) {es : List (CV × CV × Nat)} {ks : List (List B)} (h : Ents es ks) : ∀ i, (x ∈ ks → ∃ j, findC Tryd.prog 24 (idC x) es i = some (some (j, .bool true))) ∧ (x ∉ ks → findC Tryd.prog 24 (idC x) es i = some none) := by
  induction h with
  | nil => intro i; exact ⟨fun h => by simp at h, fun _ => rfl⟩
  | @cons es ks k n hk h ih =>
    intro i
    unfold findC
    rw [fits_id hk]
    simp only
    rw [show eqT Tryd.prog 10000 24 (idC x) (idC k) = some (decide (x = k)) from eq_id hx hk (D := 9998)]
    by_cases he : x = k
    · subst he
      simp only [decide_true, beq_id]
      exact ⟨fun _ => ⟨i, rfl⟩, fun h => absurd (by simp) h⟩
    · simp only [he, decide_false]
      obtain ⟨h1, h2⟩ := ih (i + 1)
      exact ⟨fun h => h1 (by simpa [he] using h), fun h => h2 (fun h' => h (by simp [h']))⟩
/-- A set of one's own. -/
structure OwnM (l : Hl) (j : Nat) (ks : List (List B)) : Prop where
  e : ∃ es ck, l[j]? = some (.map es ck) ∧ Ents es ks
theorem OwnM.look {l : Hl} {j : Nat} {ks : List (List B)} (h : OwnM l j ks) {x : List B} (hx : x.length = 32) : lookupL Tryd.prog l 24 (.bool false) false (.mp j) (idC x) = some (.bool (decide (x ∈ ks))) := by
  obtain ⟨es, ck, h1, h2⟩ := h.e
  have h3 : mapOfL l (.mp j) = some es := by simp [mapOfL, h1]
  unfold lookupL
  rw [h3]
  simp only [fits_id hx]
  obtain ⟨f1, f2⟩ := find_id hx h2 0
  by_cases hm : x ∈ ks
  · obtain ⟨i, hi⟩ := f1 hm
    rw [hi]; simp [hm]
  · rw [f2 hm]; simp [hm]
theorem OwnM.put {l : Hl} {j : Nat} {ks : List (List B)} (h : OwnM l j ks) {x : List B} (hx : x.length = 32) (hn : x ∉ ks) : ∃ c, mapUpdL Tryd.prog l 24 (.mp j) (idC x) (.bool true) = some (l.set j c) ∧ (∀ l' : Hl, l'[j]? = some c → OwnM l' j (ks ++ [x])) := by
  obtain ⟨es, ck, h1, h2⟩ := h.e
  unfold mapUpdL
  simp only [h1, fits_id hx, (find_id hx h2 0).2 hn]
  exact ⟨_, rfl, fun l' hl' => ⟨_, _, hl', h2.snoc hx _⟩⟩
theorem OwnM.len {l : Hl} {j : Nat} {ks : List (List B)} (h : OwnM l j ks) : lenMapL l (.mp j) = some (.int .i64 ks.length) := by
  obtain ⟨es, ck, h1, h2⟩ := h.e
  unfold lenMapL
  simp only [h1, h2.len]
theorem OwnM.frame {l l' : Hl} {j : Nat} {ks : List (List B)} (h : OwnM l j ks) (hj : l'[j]? = l[j]?) : OwnM l' j ks := by
  obtain ⟨es, ck, h1, h2⟩ := h.e
  exact ⟨es, ck, by rw [hj, h1], h2⟩
theorem OwnM.lt {l : Hl} {j : Nat} {ks : List (List B)} (h : OwnM l j ks) : j < l.length := by
  obtain ⟨es, ck, h1, h2⟩ := h.e
  exact (List.getElem?_eq_some_iff.1 h1).1
end Go.CM

/-
  Sketches: the reference's Less, In, SameIDs, with, next, walked.
-/
namespace Go.CM
open Go Go.Proofs Go.Sort Go.Shelf
set_option linter.unusedVariables false
set_option linter.unusedSimpArgs false
set_option maxRecDepth 100000
namespace Sk
open Sha

set_option maxHeartbeats 2000000 in
theorem less_ok (a b : List B) (ha : a.length = 32) (hb : b.length = 32) : PureC Tryd.prog GS 63 [idC a, idC b] (.bool (ltB a b)) := by
  refine pure_of Tryd.checked.mixed GS_closed ?_
  apply call_intro c63_eq r63_eq
  unfold c63 r63
  simp [idC, ha, hb]
  refine loop_up 32 (fun k σ l => σ 2 = .ptr 0 0 32 ∧ σ 3 = .ptr 1 0 32 ∧ σ 5 = .int .i64 k ∧ l = [.cells 32 (a.map e8), .cells 32 (b.map e8)] ∧ ∀ j, j < k → a[j]? = b[j]?) ?_ (by simp)
  rintro k σ l hk ⟨g2, g3, g5, rfl, hs⟩
  obtain ⟨σ, rfl⟩ := upds3 g2 g3 g5
  clear g2 g3 g5
  unfold l63_0
  by_cases hk32 : (k : Int) < 32
  · have hkn : k < 32 := by omega
    have hk31 : k ≤ 31 := by omega
    have hwk : IntKind.i64.wrap ((k : Int) + 1) = (k + 1 : Nat) := wrap_i64 (by omega) (by omega)
    obtain ⟨x, hx, _⟩ := get_of (l := a) (k := k) (by omega)
    obtain ⟨y, hy, _⟩ := get_of (l := b) (k := k) (by omega)
    have hd := cmpB_drop (a := a) (b := b) k hs (by omega) (by omega)
    rw [List.drop_eq_getElem_cons (l := a) (i := k) (by omega), List.drop_eq_getElem_cons (l := b) (i := k) (by omega), (List.getElem?_eq_some_iff.1 hx).2, (List.getElem?_eq_some_iff.1 hy).2, cmpB_cons] at hd
    have hlt : ltB a b = decide (cmpB a b < 0) := rfl
    simp [hk32, hk31, hkn, hx, hy, e8, u]
    by_cases hxy : x = y
    · subst hxy
      simp [hk32, hwk]
      refine ⟨hkn, fun j hj => ?_⟩
      by_cases hjk : j = k
      · subst hjk; rw [hx, hy]
      · exact hs j (by omega)
    · have hne : x.toNat ≠ y.toNat := fun h => hxy (BitVec.eq_of_toNat_eq h)
      have hne' : ¬ ((x.toNat : Int) = y.toNat) := by omega
      by_cases h1 : x.toNat < y.toNat
      · rw [if_pos h1] at hd
        simp [hne', hne, hk32, hk31, hkn, hx, hy, e8, u, h1]
        exact rd_bool (by rw [hlt, ← hd]; rfl)
      · rw [if_neg h1, if_pos (by omega)] at hd
        simp [hne', hne, hk32, hk31, hkn, hx, hy, e8, u, h1]
        exact rd_bool (by rw [hlt, ← hd]; rfl)
  · have hk' : k = 32 := by omega
    subst hk'
    have hab : a = b := by
      apply List.ext_getElem?
      intro j
      by_cases hj : j < 32
      · exact hs j hj
      · rw [List.getElem?_eq_none (by omega), List.getElem?_eq_none (by omega)]
    simp
    exact rd_bool (by subst hab; unfold ltB ltOf; rw [cmpB_self]; rfl)

/-- The next pure cell. -/
def wants (s : List Cell) (done : List (List B)) (i : Nat) : Bool := match s[i]? with | some c => pureB s.length c i && !decide (c.sum ∈ done) | none => false
def nextN (s : List Cell) (done : List (List B)) : Option Nat := (List.range s.length).find? (wants s done)
def optI : Option Nat → Int | some i => i | none => -1
theorem find_range {p : Nat → Bool} {n k : Nat} (hk : k < n) (hp : p k = true) (hno : ∀ j, j < k → p j = false) : (List.range n).find? p = some k := by
  rw [List.find?_eq_some_iff_getElem]
  refine ⟨hp, k, by simpa using hk, by simp, fun j hj => ?_⟩
  simp [hno j hj]
end Sk
end Go.CM

/-
  Sketches: peeling, as data; the program's Peel, walked.
-/
namespace Go.CM
open Go Go.Proofs Go.Sort Go.Shelf
set_option linter.unusedVariables false
set_option linter.unusedSimpArgs false
set_option maxRecDepth 100000
namespace Sk
open Sha

/-- What peeling gives: an error, or the left ones, the right ones (in the order in which they are taken), and the rest. -/
abbrev PR := Int ⊕ (List (List B) × List (List B) × List Cell)
def peelR : Nat → List Cell → List (List B) → List (List B) → List (List B) → PR
  | 0, _, _, _, _ => .inl 0
  | f + 1, now, l, r, done => match nextN now done with
    | none => .inr (l, r, now)
    | some i => match now[i]? with
      | none => .inl 0
      | some c => match Nat.beq done.length 60 with
        | true => .inl 4
        | false => match changed now c.sum (-c.count) with
          | none => .inl 16
          | some t => match decide (0 < c.count) with
            | true => peelR f t (l ++ [c.sum]) r (done ++ [c.sum])
            | false => peelR f t l (r ++ [c.sum]) (done ++ [c.sum])
def sortB (l : List (List B)) : List (List B) := l.mergeSort fun x y => !ltB y x
def svB (l : List (List B)) : Ids := match l with | [] => none | a :: r => some (sortB (a :: r))
def peelE (s : Sketch) : PR := if chk s = 0 then peelR 62 s.l [] [] [] else .inl (chk s)
def peelC : PR → CV
  | .inl e => .tu [.nilS, .nilS, .nilS, .int .i64 e]
  | .inr (l, r, now) => .tu [encIds (svB l), encIds (svB r), encSk (some now), .int .i64 0]
theorem clone_ok (s : Sketch) (ho : okSk s) (hl : s.l.length ≤ 1000000000) : PureC Tryd.prog GS 56 [encSk s] (encSk s) := by
  refine pure_of Tryd.checked.mixed GS_closed ?_
  exact cloneS_own ho hl fun v j l' hown _ _ _ hnil => hown.q.rd_enc closed_cell s hnil rfl
theorem nextN_some {now : List Cell} {done : List (List B)} {i : Nat} (h : nextN now done = some i) : i < now.length ∧ wants now done i = true ∧ ∀ j, j < i → wants now done j = false := by
  unfold nextN at h
  obtain ⟨h1, k, hk, h2, h3⟩ := List.find?_eq_some_iff_getElem.1 h
  simp at h2 hk
  subst h2
  exact ⟨hk, h1, fun j hj => by have := h3 j hj; simpa using this⟩
theorem wants_iff {now : List Cell} {done : List (List B)} {i : Nat} {c : Cell} (hc : now[i]? = some c) : wants now done i = (pureB now.length c i && !decide (c.sum ∈ done)) := by unfold wants; rw [hc]
theorem pure_count {n : Nat} {c : Cell} {i : Nat} (h : pureB n c i = true) : c.count = 1 ∨ c.count = -1 := by
  unfold pureB at h; simp at h; exact h.1.1
theorem changed_len {l : List Cell} {id : List B} {by_ : Int} {t : List Cell} (h : changed l id by_ = some t) : t.length = l.length := by
  have go : ∀ (ps : List Nat) (w : Q) (l : List Cell) t, putAt id by_ w ps l = some t → t.length = l.length := by
    intro ps w
    induction ps with
    | nil => intro l t ht; cases ht; rfl
    | cons p ps ih =>
      intro l t ht
      unfold putAt at ht
      split at ht
      · cases ht
      · split at ht
        · have := ih _ t ht; simpa using this
        · cases ht
  exact go _ _ _ _ h
theorem changed_ok2 {l : List Cell} {id : List B} {by_ : Int} {t : List Cell} (hid : id.length = 32) (h : changed l id by_ = some t) (ho : ∀ c ∈ l, inR c = true ∧ c.sum.length = 32) : ∀ c ∈ t, inR c = true ∧ c.sum.length = 32 := by
  have go : ∀ (ps : List Nat) (w : Q) (l : List Cell), (∀ c ∈ l, inR c = true ∧ c.sum.length = 32) → ∀ t, putAt id by_ w ps l = some t → ∀ c ∈ t, inR c = true ∧ c.sum.length = 32 := by
    intro ps w
    induction ps with
    | nil => intro l hl t ht; cases ht; exact hl
    | cons p ps ih =>
      intro l hl t ht
      unfold putAt at ht
      split at ht
      · cases ht
      · rename_i c hc
        split at ht
        · rename_i hin
          refine ih _ (fun x hx => ?_) t ht
          rcases List.mem_or_eq_of_mem_set hx with h | h
          · exact hl x h
          · subst h; exact ⟨hin, xorL_len (hl c (List.mem_of_getElem? hc)).2 hid⟩
        · cases ht
  exact go _ _ _ ho _ h
/-- What a sketch is while it is peeled. -/
structure Now (N : Nat) (now : List Cell) : Prop where
  len : now.length = N
  sz : sizedB N = true
  c : ∀ c ∈ now, inR c = true ∧ c.sum.length = 32
theorem Now.chk {N : Nat} {now : List Cell} (h : Now N now) : chk (some now) = 0 := by
  unfold Sk.chk
  rw [if_pos ⟨by rw [Sv.l_some, h.len]; exact h.sz, List.all_eq_true.2 fun c hc => (h.c c hc).1⟩]
theorem Now.step {N : Nat} {now t : List Cell} {id : List B} {by_ : Int} (h : Now N now) (hid : id.length = 32) (ht : changed now id by_ = some t) : Now N t := ⟨by rw [changed_len ht, h.len], h.sz, changed_ok2 hid ht h.c⟩
theorem Now.of {s : Sketch} (h : Sk.chk s = 0) (ho : okSk s) : Now s.l.length s.l := by
  obtain ⟨h1, h2⟩ := chk_0 h
  exact ⟨rfl, h1, fun c hc => ⟨h2 c hc, ho c hc⟩⟩
/-- What is known between two rounds. -/
structure PI (N : Nat) (R : PR) (now : List Cell) (l r done : List (List B)) : Prop where
  nw : Now N now
  hd : done.length = l.length + r.length
  h60 : done.length ≤ 60
  ids : ∀ i ∈ done, i.length = 32
  li : ∀ i ∈ l, i.length = 32
  ri : ∀ i ∈ r, i.length = 32
  res : peelR (62 - done.length) now l r done = R
theorem neg_wrap {n : Int} (h : n = 1 ∨ n = -1) : IntKind.i64.wrap (-n) = -n := by rcases h with h | h <;> subst h <;> rfl
theorem idx_of : ∀ {xs : List (List B)}, (∀ i ∈ xs, i.length = 32) → ∃ ys : List Idx, ys.map (·.1) = xs
  | [], _ => ⟨[], rfl⟩
  | x :: xs, h => by
    obtain ⟨ys, hy⟩ := idx_of (xs := xs) fun i hi => h i (by simp [hi])
    exact ⟨⟨x, h x (by simp)⟩ :: ys, by simp [hy]⟩
theorem sorted_map (ys : List Idx) : (sorted cmpX ys).map (·.1) = sortB (ys.map (·.1)) := by
  unfold sorted sortB
  rw [List.map_mergeSort]
  intro a _ b _
  rfl
theorem sort_nil : PureN Tryd.prog GS 59 [.nilS, .fn 60 [] []] (.tu []) :=
  pureN_runs Tryd.checked.mixed GS_closed (noO_ok _ _) tbl_ok (fuel := 100) (k := 10) (by kernel_rfl)
theorem sort_call {l : Hl} {v : CV} {j : Nat} {xs : List (List B)} (hx : ∀ i ∈ xs, i.length = 32) (hl : xs.length ≤ 1000000) (hn : isNilS v = xs.isEmpty) (h : OwnS 32 l v j (xs.map eId)) {K : CV → Hl → Prop}
    (hK : ∀ l', l'.length = l.length → (∀ b, v = .nilS ∨ b ≠ j → l'[b]? = l[b]?) → OwnQ 32 l' v j ((sortB xs).map eId) → K (.tu []) l') : CallP Tryd.prog GS 59 [v, .fn 60 [] []] l (c := ⟨K⟩) := by
  by_cases hnil : xs = []
  · subst hnil
    have hvn : v = .nilS := isNil_iff.1 (by rw [hn]; rfl)
    subst hvn
    exact pure_call sort_nil.toC rfl (hK l rfl (fun _ _ => rfl) (by simpa [sortB] using OwnQ.nil j))
  · obtain ⟨ys, hy⟩ := idx_of hx
    have he : ys.map encX = xs.map eId := by rw [← hy, List.map_map]; rfl
    have hs : (sorted cmpX ys).map encX = (sortB xs).map eId := by rw [← hy, ← sorted_map, List.map_map]; rfl
    have hyl : ys.length = xs.length := by rw [← hy]; simp
    have hvn : v ≠ .nilS := fun hv => by subst hv; rw [show isNilS .nilS = true from rfl] at hn; exact hnil (by simpa using hn.symm)
    rw [← he] at h
    exact sortQ cmpX (sortL_ids (by intro args w; exact enters_of Tryd.func60 (by kernel_rfl) rfl args w)) swo_X anti_X encX_len encX_plain (fun x y => skcmp_ok x.1 y.1 x.2 y.2) h.q (by omega) (fun hn0 => absurd (by rw [← hy, hn0]; rfl) hnil)
      (fun l' h1 h2 h3 => hK l' h1 (fun b hb => h2 b (hb.resolve_left hvn)) (by rw [← hs]; exact h3))

/-- One of two slices of one's own grows; a set stands beside them. -/
theorem two_app {l : Hl} {va vb x : CV} {ja jb : Nat} {ea eb : List (List CV)} {I : List CV} {done : List (List B)} (ha : OwnS 32 l va ja ea) (hb : OwnS 32 l vb jb eb) (d : va = .nilS ∨ vb = .nilS ∨ ja ≠ jb) (om : OwnM l 0 done) (da : va = .nilS ∨ ja ≠ 0)
    (hx : contentsL l 32 x = some (([I] : List (List CV)).flatten, ([I] : List (List CV)).length)) (hI : I.length = 32) (hr : (ea.length + 1) * 32 ≤ roomMax) :
    ∃ v' j' l', appM l 32 32 va x = some (v', l') ∧ OwnS 32 l' v' j' (ea ++ [I]) ∧ OwnS 32 l' vb jb eb ∧ (v' = .nilS ∨ vb = .nilS ∨ j' ≠ jb) ∧ (v' = .nilS ∨ j' ≠ 0) ∧ isNilS v' = false ∧ OwnM l' 0 done ∧ l.length ≤ l'.length ∧ (∀ b, b < l.length → va = .nilS ∨ b ≠ ja → l'[b]? = l[b]?) := by
  obtain ⟨v', j', l', a1, a2, a3, a4, a5, a6⟩ := appS (by_ := 32) ha hx (by simp [hI]) (by omega) (by omega) (by simpa using hr)
  have hv' : isNilS v' = false := by rw [a6]; simp
  have hvn : v' ≠ .nilS := fun h => by rw [h] at hv'; cases hv'
  have h0 := om.lt
  refine ⟨v', j', l', a1, a2, ?_, ?_, ?_, hv', om.frame (a4 0 h0 (by rcases da with h | h; exact .inl h; exact .inr (fun h' => h h'.symm))), a3, a4⟩
  · rcases d with h | h | h
    · exact hb.frame fun hj => a4 jb hj (.inl h)
    · subst h
      have := hb.q.nil_of
      rw [this]; exact .nil jb
    · exact hb.frame fun hj => a4 jb hj (.inr fun h' => h h'.symm)
  · rcases hb.lt with h | h
    · exact .inr (.inl h)
    · rcases a5 with h' | h' | h'
      · exact .inr (.inr (by omega))
      · rcases d with h2 | h2 | h2
        · exact absurd h2 h'.1
        · exact .inr (.inl h2)
        · exact .inr (.inr (by rw [h'.2]; exact h2))
      · exact absurd h' hvn
  · rcases a5 with h' | h' | h'
    · exact .inr (by omega)
    · exact .inr (by rw [h'.2]; exact da.resolve_left h'.1)
    · exact absurd h' hvn

/-- What the machine holds between two rounds of the program's Peel. -/
structure PW (N : Nat) (R : PR) (k : Nat) (σ : Sg) (l : Hl) (now : List Cell) (lf rt done : List (List B)) (v2 : CV) (j2 : Nat) (v3 : CV) (j3 i : Nat) : Prop where
  g2 : σ 2 = v2
  g3 : σ 3 = v3
  g4 : σ 4 = encSk (some now)
  g7 : σ 7 = .mp 0
  g8 : σ 8 = .int .i64 i
  pi : PI N R now lf rt done
  om : OwnM l 0 done
  o2 : OwnS 32 l v2 j2 (lf.map eId)
  o3 : OwnS 32 l v3 j3 (rt.map eId)
  n2 : isNilS v2 = lf.isEmpty
  n3 : isNilS v3 = rt.isEmpty
  d2 : v2 = .nilS ∨ j2 ≠ 0
  d3 : v3 = .nilS ∨ j3 ≠ 0
  d23 : v2 = .nilS ∨ v3 = .nilS ∨ j2 ≠ j3
  hi : i ≤ N
  no : ∀ j, j < i → wants now done j = false
  hk : k ≤ done.length * 50 + i
theorem ldA_of {C : List CV} {c : Cell} (hc : c.sum.length = 32) (hC : C = encCell c) : C.length = 34 ∧ C[0]? = some (.int .i64 c.count) ∧ C.tail.take 32 = c.sum.map e8 ∧ C[33]? = some (e64 c.check) := by
  have := row_parts c hc C hC
  rw [List.drop_one] at this
  exact this
set_option maxHeartbeats 16000000 in
theorem peel_ok (s : Sketch) (ho : okSk s) (hl : s.l.length ≤ 1000000) : PureC Tryd.prog GS 31 [encSk s] (peelC (peelE s)) := by
  refine pure_of Tryd.checked.mixed GS_closed ?_
  apply call_intro c31_eq r31_eq
  unfold c31 r31
  have hcs := closed_sk s
  simp
  refine pure_call (check_ok s ho (by omega)) (by simp [closedL, hcs]) ?_
  rcases chk_8 s with h0 | h0
  · have hpe : peelE s = peelR 62 s.l [] [] [] := by unfold peelE; rw [if_pos h0]
    obtain ⟨R, hR⟩ : ∃ R, R = peelE s := ⟨_, rfl⟩
    rw [← hR] at hpe ⊢
    simp [h0]
    refine pure_call (clone_ok s ho (by omega)) (by simp [closedL, hcs]) ?_
    have hnow := Now.of h0 ho
    have hsn : s = some s.l := by
      cases s with
      | none => have := sized_nat hnow.sz; obtain ⟨N, hN, h3, _⟩ := this; simp at hN; omega
      | some l => rfl
    obtain ⟨N, hN, h3, h48, hmod⟩ := sized_nat hnow.sz
    simp
    refine loop_up 4000 (fun k σ l => ∃ now lf rt done v2 j2 v3 j3 i, PW s.l.length R k σ l now lf rt done v2 j2 v3 j3 i) ?_ ?_
    · rintro k σ l hk ⟨now, lf, rt, done, v2, j2, v3, j3, i, g2, g3, g4, g7, g8, pi, om, o2, o3, n2, n3, d2, d3, d23, hi, no, hkk⟩
      obtain ⟨σ, rfl⟩ := upds5 g2 g3 g4 g7 g8
      clear g2 g3 g4 g7 g8
      unfold l31_0
      have hlen : lenM (.sl 34) (encSk (some now)) = some (.int .i64 now.length) := len_encS _
      have hnl := pi.nw.len
      have h60 := pi.h60
      by_cases hin : i < now.length
      · have hwi : IntKind.i64.wrap ((i : Int) + 1) = (i + 1 : Nat) := wrap_i64 (by omega) (by omega)
        obtain ⟨c, hc, hcm⟩ := get_of hin
        obtain ⟨hcr, hcl⟩ := pi.nw.c c hcm
        have hia : iaC (.sl 34) (encSk (some now)) (.int .i64 i) = some (.rptr (encCell c) 0) := by unfold encSk; rw [ia_encS]; simp [hc]
        obtain ⟨C, hC⟩ : ∃ C, C = encCell c := ⟨_, rfl⟩
        obtain ⟨p1, p2, p3, p4⟩ := ldA_of hcl hC
        rw [← hC] at hia
        have hs34 : splice (CV.int IntKind.i64 0 :: (rep 32 (CV.int IntKind.u8 0) ++ [CV.int IntKind.u64 0])) 0 C = C := splice_full (by rw [p1]; rfl)
        obtain ⟨_, q2⟩ := List.getElem?_eq_some_iff.1 p2
        obtain ⟨L, hL⟩ : ∃ L, L = l ++ [CB.cells 34 C] := ⟨_, rfl⟩
        obtain ⟨m, hm⟩ : ∃ m, m = l.length := ⟨_, rfl⟩
        have hmL : L[m]? = some (CB.cells 34 C) := by rw [hL, hm]; simp
        have hLl : L.length = m + 1 := by rw [hL, hm]; simp
        have hom : OwnM L 0 done := om.frame (by rw [hL, List.getElem?_append_left om.lt])
        have ho2 : OwnS 32 L v2 j2 (lf.map eId) := by rw [hL]; exact o2.more _
        have ho3 : OwnS 32 L v3 j3 (rt.map eId) := by rw [hL]; exact o3.more _
        obtain ⟨I, hI⟩ : ∃ I, I = c.sum.map e8 := ⟨_, rfl⟩
        have hIl : I.length = 32 := by rw [hI, List.length_map, hcl]
        have hIc : closedL I = true := by rw [hI]; exact closedL_map e8 (fun _ => rfl) _
        rw [← hI] at p3
        have hlk := hom.look hcl
        unfold idC at hlk
        rw [← hI] at hlk
        simp [hlen, hin, hia, p1, hs34, List.take_of_length_le, ← hL, ← hm, hmL, p3, hlk]
        have hskip : wants now done i = false → k < 4000 ∧ ∃ now' lf' rt' done' v2' j2' v3' j3' i', PI s.l.length R now' lf' rt' done' ∧ now' = now ∧ lf' = lf ∧ rt' = rt ∧ done' = done ∧ v2' = v2 ∧ j2' = j2 ∧ v3' = v3 ∧ j3' = j3 ∧ i' = i + 1 := fun _ => ⟨by omega, _, _, _, _, _, _, _, _, _, pi, rfl, rfl, rfl, rfl, rfl, rfl, rfl, rfl, rfl⟩
        have hno1 : wants now done i = false → ∀ j, j < i + 1 → wants now done j = false := fun h j hj => by
          by_cases hji : j = i
          · subst hji; exact h
          · exact no j (by omega)
        have hw := wants_iff (done := done) hc
        by_cases hmem : c.sum ∈ done
        · have hw0 : wants now done i = false := by rw [hw]; simp [hmem]
          simp [hmem, hwi]
          exact ⟨by omega, now, lf, rt, done, v2, j2, v3, j3, i + 1, by simp, by simp, by simp, by simp, by simp, pi, hom, ho2, ho3, n2, n3, d2, d3, d23, by omega, hno1 hw0, by omega⟩
        · simp [hmem]
          have hpu := sketchPure_ok (some now) i (fun c hc => (pi.nw.c c hc).2) (by rw [Sv.l_some]; omega)
          rw [pureS_some pi.nw.chk hc] at hpu
          refine pure_call hpu (by simp [closedL, CV.closed, closed_sk]) ?_
          cases hpb : pureB now.length c i with
          | false =>
            have hw0 : wants now done i = false := by rw [hw, hpb]; rfl
            simp [hpb, hwi]
            exact ⟨by omega, now, lf, rt, done, v2, j2, v3, j3, i + 1, by simp, by simp, by simp, by simp, by simp, pi, hom, ho2, ho3, n2, n3, d2, d3, d23, by omega, hno1 hw0, by omega⟩
          | true =>
            have hw1 : wants now done i = true := by rw [hw, hpb]; simp [hmem]
            have hnx : nextN now done = some i := find_range hin hw1 no
            have hres := pi.res
            have hcnt := pure_count hpb
            have hlm := hom.len
            obtain ⟨f, hf⟩ : ∃ f, 62 - done.length = f + 1 := ⟨61 - done.length, by omega⟩
            rw [hf] at hres
            unfold peelR at hres
            rw [hnx] at hres
            simp only [hc] at hres
            by_cases h6 : done.length = 60
            · have h6' : ((done.length : Int) = 60) := by omega
              rw [nbeq_true h6] at hres
              simp only at hres
              rw [← hres]
              simp [hpb, hlm, h6', peelC]
              exact .same _ rfl
            · have h6' : ¬ ((done.length : Int) = 60) := by omega
              rw [nbeq_false h6] at hres
              simp only at hres
              have hput : PureC Tryd.prog GS 46 _ _ := put_ok (some now) c.sum (-c.count) (fun c hc => (pi.nw.c c hc).2) (by rw [Sv.l_some]; omega) hcl (by rcases hcnt with h | h <;> omega)
              have hput2 : put (some now) c.sum (-c.count) = match changed now c.sum (-c.count) with | some t => (some t, 0) | none => (none, 16) := by unfold put; rw [if_pos pi.nw.chk]; try rfl
              rw [hput2] at hput
              unfold idC at hput
              rw [← hI] at hput
              have hneg := neg_wrap hcnt
              simp [hpb, hlm, h6', hmL, p3, q2, p1, hIl, hneg]
              refine pure_call hput (by simp [closedL, CV.closed, closed_sk, hIc]) ?_
              cases hch : changed now c.sum (-c.count) with
              | none =>
                rw [hch] at hres
                rw [← hres]
                simp [peelC]
                exact .same _ rfl
              | some t =>
                rw [hch] at hres
                simp only at hres
                have hnt := pi.nw.step hcl hch
                have hr0 : roomMax = 140737488355328 := rfl
                obtain ⟨L1, hL1⟩ : ∃ L1, L1 = L ++ [CB.cells 32 I] := ⟨_, rfl⟩
                have hom1 : OwnM L1 0 done := hom.frame (by rw [hL1, List.getElem?_append_left hom.lt])
                have h21 : OwnS 32 L1 v2 j2 (lf.map eId) := by rw [hL1]; exact ho2.more _
                have h31 : OwnS 32 L1 v3 j3 (rt.map eId) := by rw [hL1]; exact ho3.more _
                have hm1 : L1[m]? = some (CB.cells 34 C) := by rw [hL1, List.getElem?_append_left (by omega)]; exact hmL
                have hL1l : L1.length = m + 2 := by rw [hL1]; simp [hLl]
                have hcI : contentsL L1 32 (.sl 32 L.length 0 1 1 32) = some (([I] : List (List CV)).flatten, ([I] : List (List CV)).length) := by
                  have : L1[L.length]? = some (CB.cells 32 I) := by rw [hL1]; simp
                  simp [contentsL, this, hIl, List.take_of_length_le]
                have hlt2 : v2 = .nilS ∨ m ≠ j2 := by rcases o2.lt with h | h; exact .inl h; exact .inr (by omega)
                have hlt3 : v3 = .nilS ∨ m ≠ j3 := by rcases o3.lt with h | h; exact .inl h; exact .inr (by omega)
                have hll := pi.hd
                have hPI2 : ∀ lf' rt', lf'.length + rt'.length = done.length + 1 → (∀ i ∈ lf', i.length = 32) → (∀ i ∈ rt', i.length = 32) → peelR f t lf' rt' (done ++ [c.sum]) = R → PI s.l.length R t lf' rt' (done ++ [c.sum]) := fun lf' rt' e1 e2 e3 e4 =>
                  ⟨hnt, by simp; omega, by simp; omega, fun i hi => (by rcases List.mem_append.1 hi with h | h; exact pi.ids i h; simp at h; subst h; exact hcl), e2, e3, by rw [show 62 - (done ++ [c.sum]).length = f by simp; omega]; exact e4⟩
                have hsnoc : ∀ xs : List (List B), (∀ i ∈ xs, i.length = 32) → ∀ i ∈ xs ++ [c.sum], i.length = 32 := fun xs hx i hi => by
                  rcases List.mem_append.1 hi with h | h
                  · exact hx i h
                  · simp at h; subst h; exact hcl
                have hmapI : ∀ xs : List (List B), (xs ++ [c.sum]).map eId = xs.map eId ++ [I] := fun xs => by rw [hI]; simp [eId]
                have hw0 : IntKind.i64.wrap (-1 + 1) = 0 := rfl
                have hk60 : done.length < 60 := by omega
                have hsp32 : splice (rep 32 (CV.int .u8 0)) 0 I = I := splice_full (by simp [hIl])
                rcases hcnt with h1 | h1
                · rw [h1] at hres
                  simp [hmL, p3, q2, p1, hIl, h1, hsp32, ← hL1]
                  obtain ⟨v', j', l', b1, b2, b3, b4, b5, b6, b7, b8, b9⟩ := two_app h21 h31 d23 hom1 d2 hcI hIl (by simp; omega)
                  simp [b1]
                  refine AppK.keep ?_
                  have fm : l'[m]? = some (CB.cells 34 C) := by rw [b9 m (by omega) hlt2]; exact hm1
                  obtain ⟨X, x1, x2⟩ := b7.put hcl hmem
                  unfold idC at x1
                  rw [← hI] at x1
                  have hset : ∀ b, b ≠ 0 → (l'.set 0 X)[b]? = l'[b]? := fun b hb => List.getElem?_set_ne (fun h => hb h.symm)
                  have h0l : 0 < l'.length := b7.lt
                  have hfr : ∀ {v : CV} {j : Nat} {es : List (List CV)}, OwnS 32 l' v j es → (v = .nilS ∨ j ≠ 0) → OwnS 32 (l'.set 0 X) v j es := fun ho hd => by
                    rcases hd with h | h
                    · subst h
                      have := ho.q.nil_of
                      rw [this]; exact .nil _
                    · exact ho.frame fun _ => hset _ h
                  simp [fm, p3, p1, x1, hw0]
                  refine ⟨by omega, t, lf ++ [c.sum], rt, done ++ [c.sum], v', j', v3, j3, 0, by simp, by simp, by simp, by simp, by simp; rfl, hPI2 _ _ (by simp; omega) (hsnoc _ pi.li) pi.ri hres, x2 _ (List.getElem?_set_self h0l), by rw [hmapI]; exact hfr b2 b5, hfr b3 d3, by rw [b6]; simp, n3, b5, d3, b4, by omega, fun j hj => by omega, by simp; omega⟩
                · rw [h1] at hres
                  simp [hmL, p3, q2, p1, hIl, h1, hsp32, ← hL1]
                  obtain ⟨v', j', l', b1, b2, b3, b4, b5, b6, b7, b8, b9⟩ := two_app h31 h21 (by rcases d23 with h | h | h; exact .inr (.inl h); exact .inl h; exact .inr (.inr fun h' => h h'.symm)) hom1 d3 hcI hIl (by simp; omega)
                  simp [b1]
                  refine AppK.keep ?_
                  have fm : l'[m]? = some (CB.cells 34 C) := by rw [b9 m (by omega) hlt3]; exact hm1
                  obtain ⟨X, x1, x2⟩ := b7.put hcl hmem
                  unfold idC at x1
                  rw [← hI] at x1
                  have hset : ∀ b, b ≠ 0 → (l'.set 0 X)[b]? = l'[b]? := fun b hb => List.getElem?_set_ne (fun h => hb h.symm)
                  have h0l : 0 < l'.length := b7.lt
                  have hfr : ∀ {v : CV} {j : Nat} {es : List (List CV)}, OwnS 32 l' v j es → (v = .nilS ∨ j ≠ 0) → OwnS 32 (l'.set 0 X) v j es := fun ho hd => by
                    rcases hd with h | h
                    · subst h
                      have := ho.q.nil_of
                      rw [this]; exact .nil _
                    · exact ho.frame fun _ => hset _ h
                  simp [fm, p3, p1, x1, hw0]
                  refine ⟨by omega, t, lf, rt ++ [c.sum], done ++ [c.sum], v2, j2, v', j', 0, by simp, by simp, by simp, by simp, by simp; rfl, hPI2 _ _ (by simp; omega) pi.li (hsnoc _ pi.ri) hres, x2 _ (List.getElem?_set_self h0l), hfr b3 d2, by rw [hmapI]; exact hfr b2 b5, n2, by rw [b6]; simp, d2, b5, (by rcases b4 with h | h | h; exact .inr (.inl h); exact .inl h; exact .inr (.inr fun h' => h h'.symm)), by omega, fun j hj => by omega, by simp; omega⟩
      · have hi' : i = now.length := by omega
        subst hi'
        have hnx : nextN now done = none := by
          unfold nextN
          rw [List.find?_eq_none]
          intro j hj
          rw [no j (by simpa using hj)]; simp
        have hres := pi.res
        obtain ⟨f, hf⟩ : ∃ f, 62 - done.length = f + 1 := ⟨61 - done.length, by omega⟩
        rw [hf] at hres
        unfold peelR at hres
        rw [hnx] at hres
        simp only at hres
        simp [hlen]
        have hll : lf.length ≤ 60 := by have := pi.hd; omega
        have hrl : rt.length ≤ 60 := by have := pi.hd; omega
        have hg : ∀ (xs : List (List B)) (l : Hl) (v : CV) (j : Nat), isNilS v = xs.isEmpty → OwnQ 32 l v j ((sortB xs).map eId) → Rd l v (encIds (svB xs)) := fun xs l v j hn ho => by
          cases xs with
          | nil =>
            have : v = .nilS := isNil_iff.1 (by rw [hn]; rfl)
            subst this
            exact .same _ rfl
          | cons x xs => exact ho.rd_enc closed_eId (some (sortB (x :: xs))) (by rw [hn]; rfl) rfl
        refine sort_call pi.li (by omega) n2 o2 fun l1 c1 c2 c3 => ?_
        simp
        have o3' : OwnS 32 l1 v3 j3 (rt.map eId) := by
          rcases d23 with h | h | h
          · exact o3.frame fun _ => c2 j3 (.inl h)
          · subst h
            have := o3.q.nil_of
            rw [this]; exact .nil j3
          · exact o3.frame fun _ => c2 j3 (.inr fun h' => h h'.symm)
        refine sort_call pi.ri (by omega) n3 o3' fun l2 e1 e2 e3 => ?_
        simp
        have c3' : OwnQ 32 l2 v2 j2 ((sortB lf).map eId) := by
          refine c3.frame2 ?_
          rcases d23 with h | h | h
          · exact .inl h
          · exact .inr (e2 j2 (.inl h))
          · exact .inr (e2 j2 (.inr h))
        rw [← hres]
        exact .tu _ _ rfl fun j c c' hj hj' => by
          match j with
          | 0 => simp at hj hj'; subst hj hj'; exact hg lf l2 v2 j2 n2 c3'
          | 1 => simp at hj hj'; subst hj hj'; exact hg rt l2 v3 j3 n3 e3
          | 2 => simp at hj hj'; subst hj hj'; exact .same _ (closed_sk _)
          | 3 => simp at hj hj'; subst hj hj'; exact .same _ rfl
          | j + 4 => simp at hj
    · refine ⟨s.l, [], [], [], .nilS, 1, .nilS, 1, 0, by simp, by simp, by simp [← hsn], by simp, by simp, ⟨hnow, rfl, by simp, by simp, by simp, by simp, hpe.symm⟩, ⟨[], 0, by simp, .nil⟩, .nil 1, .nil 1, rfl, rfl, .inl rfl, .inl rfl, .inl rfl, by omega, fun j hj => by omega, by omega⟩
  · have hpe : peelE s = .inl 8 := by unfold peelE; rw [if_neg (by rw [h0]; simp), h0]
    rw [hpe]
    simp [h0, peelC]
    exact .same _ rfl
end Sk
end Go.CM

/-
  Sketches: sorted lists of ids; the reference's Peel, walked.
-/
namespace Go.CM
open Go Go.Proofs Go.Sort Go.Shelf
set_option linter.unusedVariables false
set_option linter.unusedSimpArgs false
set_option maxRecDepth 100000
namespace Sk
open Sha

def leB (x y : List B) : Bool := !ltB y x
theorem leB_trans (a b c : List B) (h1 : leB a b = true) (h2 : leB b c = true) : leB a c = true := by
  unfold leB ltB at *
  simp only [Bool.not_eq_true'] at *
  exact swo_cmpB.ntrans c b a h2 h1
theorem leB_total (a b : List B) : (leB a b || leB b a) = true := by
  unfold leB ltB ltOf
  have := cmpB_swap a b
  by_cases h : cmpB a b < 0
  · simp; omega
  · simp; omega
theorem leB_anti (a b : List B) (h1 : leB a b = true) (h2 : leB b a = true) : a = b := by
  unfold leB ltB at *
  simp only [Bool.not_eq_true'] at *
  exact anti_cmpB a b h2 h1
theorem not_lt_le {a b : List B} (h : ltB a b = false) : leB b a = true := by unfold leB; rw [h]; rfl
theorem sortB_pw (l : List (List B)) : (sortB l).Pairwise fun a b => leB a b = true := List.pairwise_mergeSort (le := leB) leB_trans leB_total l
theorem sortB_perm (l : List (List B)) : (sortB l).Perm l := List.mergeSort_perm l _
theorem svB_l (l : List (List B)) : (svB l).l = sortB l := by
  cases l with
  | nil => simp [svB, sortB]
  | cons a r => rfl
/-- What the machine holds between two rounds of the reference's Peel. -/
structure QW (N : Nat) (R : PR) (k : Nat) (σ : Sg) (l : Hl) (now : List Cell) (lf rt done : List (List B)) (vd : CV) (jd : Nat) : Prop where
  g7 : σ 7 = encIds (svB lf)
  g8 : σ 8 = encIds (svB rt)
  g9 : σ 9 = vd
  g10 : σ 10 = encSk (some now)
  g11 : σ 11 = .int .i64 (optI (nextN now done))
  pi : PI N R now lf rt done
  od : OwnS 32 l vd jd (done.map eId)
  nd : isNilS vd = done.isEmpty
  hk : k = done.length
theorem okSv {l : List (List B)} (h : ∀ i ∈ l, i.length = 32) : okIds (svB l) := fun i hi => by rw [svB_l] at hi; exact h i ((sortB_perm l).mem_iff.1 hi)
theorem lenSv (l : List (List B)) : (svB l).l.length = l.length := by rw [svB_l]; exact (sortB_perm l).length_eq
end Sk
end Go.CM

/-
  Sketches: SketchPeels, walked.
-/
namespace Go.CM
open Go Go.Proofs Go.Sort Go.Shelf
set_option linter.unusedVariables false
set_option linter.unusedSimpArgs false
set_option maxRecDepth 100000
namespace Sk
open Sha

def pL : PR → Ids | .inl _ => none | .inr (l, _, _) => svB l
def pR : PR → Ids | .inl _ => none | .inr (_, r, _) => svB r
def pN : PR → Sketch | .inl _ => none | .inr (_, _, n) => some n
def pE : PR → Int | .inl e => e | .inr _ => 0
theorem peelC_eq (R : PR) : peelC R = .tu [encIds (pL R), encIds (pR R), encSk (pN R), .int .i64 (pE R)] := by
  cases R with
  | inl e => rfl
  | inr x => rfl
end Sk
end Go.CM

/-
  Sketches, plain: a sketch is a sum over its ids, cell by cell.
-/
namespace Go.CM
open Go Go.Proofs Go.Sort Go.Shelf
set_option linter.unusedVariables false
set_option linter.unusedSimpArgs false
set_option maxRecDepth 100000
namespace Sk
open Sha

/-! ### Exclusive or, cells -/
theorem xorL_comm (a b : List B) : xorL a b = xorL b a := by
  unfold xorL
  rw [List.zipWith_comm]
  congr 1
  funext x y
  exact BitVec.xor_comm y x
theorem xorL_assoc : ∀ a b c : List B, xorL (xorL a b) c = xorL a (xorL b c)
  | [], b, c => by simp [xorL]
  | a :: x, [], c => by simp [xorL]
  | a :: x, b :: y, [] => by simp [xorL]
  | a :: x, b :: y, c :: z => by
    have := xorL_assoc x y z
    simp only [xorL, List.zipWith_cons_cons] at this ⊢
    rw [this, BitVec.xor_assoc]
theorem xorL_self : ∀ a : List B, xorL a a = List.replicate a.length 0#8
  | [] => rfl
  | a :: x => by
    have := xorL_self x
    simp only [xorL, List.zipWith_cons_cons, List.length_cons, List.replicate_succ] at this ⊢
    rw [this, BitVec.xor_self]
theorem xorL_zero : ∀ a : List B, xorL a (List.replicate a.length 0#8) = a
  | [] => rfl
  | a :: x => by
    have := xorL_zero x
    simp only [xorL, List.length_cons, List.replicate_succ, List.zipWith_cons_cons] at this ⊢
    rw [this, BitVec.xor_zero]
def addC (c d : Cell) : Cell := ⟨c.count + d.count, xorL c.sum d.sum, c.check ^^^ d.check⟩
theorem addC_comm (a b : Cell) : addC a b = addC b a := by unfold addC; rw [Int.add_comm, xorL_comm, BitVec.xor_comm]
theorem addC_assoc (a b c : Cell) : addC (addC a b) c = addC a (addC b c) := by unfold addC; simp only [Int.add_assoc, xorL_assoc, BitVec.xor_assoc]
theorem addC_right (a b c : Cell) : addC (addC a b) c = addC (addC a c) b := by rw [addC_assoc, addC_comm b c, addC_assoc]
theorem addC_zero {a : Cell} (h : a.sum.length = 32) : addC a zeroCell = a := by
  have h1 : xorL a.sum (List.replicate 32 0#8) = a.sum := by rw [← h]; exact xorL_zero _
  unfold addC
  show (⟨a.count + 0, xorL a.sum (List.replicate 32 0#8), a.check ^^^ 0#64⟩ : Cell) = a
  rw [h1, BitVec.xor_zero, Int.add_zero]
def negC (c : Cell) : Cell := ⟨-c.count, c.sum, c.check⟩
theorem addC_neg {a : Cell} (h : a.sum.length = 32) : addC a (negC a) = zeroCell := by
  unfold addC negC
  simp only [xorL_self, h, BitVec.xor_self]
  rw [Int.add_right_neg]; rfl
theorem addC_len {a b : Cell} (ha : a.sum.length = 32) (hb : b.sum.length = 32) : (addC a b).sum.length = 32 := xorL_len ha hb
/-- What an id puts into a cell. -/
def one (n : Nat) (x : List B) (by_ : Int) (i : Nat) : Cell := if i ∈ placesL n x then ⟨by_, x, word x⟩ else zeroCell
theorem one_len {n : Nat} {x : List B} (h : x.length = 32) (by_ : Int) (i : Nat) : (one n x by_ i).sum.length = 32 := by unfold one; split; exact h; rfl
theorem one_neg (n : Nat) (x : List B) (by_ : Int) (i : Nat) : negC (one n x by_ i) = one n x (-by_) i := by unfold one; split <;> rfl
/-- A list of cells is got from a function of the place. -/
def tab (n : Nat) (f : Nat → Cell) : List Cell := (List.range n).map f
theorem tab_len (n : Nat) (f : Nat → Cell) : (tab n f).length = n := by simp [tab]
theorem tab_get {n : Nat} {f : Nat → Cell} {i : Nat} (h : i < n) : (tab n f)[i]? = some (f i) := by unfold tab; rw [List.getElem?_map, List.getElem?_range h]; rfl
theorem tab_ext {n : Nat} {f g : Nat → Cell} (h : ∀ i, i < n → f i = g i) : tab n f = tab n g := by
  unfold tab; exact List.map_congr_left fun i hi => h i (by simpa using hi)
theorem tab_of (l : List Cell) : l = tab l.length fun i => l.getD i zeroCell := by
  apply List.ext_getElem?
  intro i
  by_cases h : i < l.length
  · rw [tab_get h, List.getD_eq_getElem?_getD, List.getElem?_eq_getElem h]; rfl
  · rw [List.getElem?_eq_none (by omega), List.getElem?_eq_none (by rw [tab_len]; omega)]
theorem tab_mem {n : Nat} {f : Nat → Cell} {c : Cell} (h : c ∈ tab n f) : ∃ i, i < n ∧ c = f i := by
  unfold tab at h
  obtain ⟨i, hi, rfl⟩ := List.mem_map.1 h
  exact ⟨i, by simpa using hi, rfl⟩
theorem tab_sub {n : Nat} (f g : Nat → Cell) : subL (tab n f) (tab n g) = tab n fun i => subC (f i) (g i) := by
  unfold subL tab
  rw [List.zipWith_map, List.zipWith_self]
/-- The three places are different. -/
theorem places_ne {n : Nat} (h3 : 3 ≤ n) (x : List B) : place n x 0 ≠ place n x 1 ∧ place n x 0 ≠ place n x 2 ∧ place n x 1 ≠ place n x 2 := by
  have h0 := place_lt h3 x (r := 0)
  have h1 := place_lt h3 x (r := 1)
  have h2 := place_lt h3 x (r := 2)
  refine ⟨?_, ?_, ?_⟩ <;> omega
theorem putAt_tab {N : Nat} {x : List B} {by_ : Int} {w : Q} (hx : x.length = 32) (hby : -1 ≤ by_ ∧ by_ ≤ 1) : ∀ (ps : List Nat) (f : Nat → Cell), ps.Nodup → (∀ p ∈ ps, p < N) → (∀ i, i < N → -999999 ≤ (f i).count ∧ (f i).count ≤ 999999) → (∀ i, i < N → (f i).sum.length = 32) →
    putAt x by_ w ps (tab N f) = some (tab N fun i => if i ∈ ps then addC (f i) ⟨by_, x, w⟩ else f i)
  | [], f, _, _, _, _ => by simp [putAt]
  | p :: ps, f, hnd, hp, hb, ho => by
    have hpN := hp p (by simp)
    obtain ⟨h1, h2⟩ := List.nodup_cons.1 hnd
    unfold putAt
    rw [tab_get hpN]
    simp only
    have hbp := hb p hpN
    have hin : inR (stepC (f p) x by_ w) = true := by rw [inR_iff]; simp only [stepC]; omega
    rw [hin]
    simp only
    have hset : (tab N f).set p (stepC (f p) x by_ w) = tab N (fun i => if i = p then stepC (f p) x by_ w else f i) := by
      apply List.ext_getElem?
      intro i
      rw [List.getElem?_set]
      by_cases hip : p = i
      · subst hip
        rw [if_pos rfl, tab_len, if_pos hpN, tab_get hpN, if_pos rfl]
      · rw [if_neg hip]
        by_cases hiN : i < N
        · rw [tab_get hiN, tab_get hiN, if_neg (fun h => hip h.symm)]
        · rw [List.getElem?_eq_none (by rw [tab_len]; omega), List.getElem?_eq_none (by rw [tab_len]; omega)]
    have go : ∀ (qs : List Nat) (g h : Nat → Cell), (∀ q ∈ qs, g q = h q ∧ q < N) → qs.Nodup → (∀ q ∈ qs, -999999 ≤ (g q).count ∧ (g q).count ≤ 999999) → putAt x by_ w qs (tab N h) = some (tab N fun i => if i ∈ qs then addC (g i) ⟨by_, x, w⟩ else h i) := by
      intro qs
      induction qs with
      | nil => intro g h _ _ _; simp [putAt]
      | cons q qs ih =>
        intro g h hg hnd hb
        obtain ⟨n1, n2⟩ := List.nodup_cons.1 hnd
        obtain ⟨e1, e2⟩ := hg q (by simp)
        have hbq := hb q (by simp)
        unfold putAt
        rw [tab_get e2]
        simp only
        have hin : inR (stepC (h q) x by_ w) = true := by rw [inR_iff, ← e1]; simp only [stepC]; omega
        rw [hin]
        simp only
        have hset : (tab N h).set q (stepC (h q) x by_ w) = tab N (fun i => if i = q then stepC (h q) x by_ w else h i) := by
          apply List.ext_getElem?
          intro i
          rw [List.getElem?_set]
          by_cases hip : q = i
          · subst hip
            rw [if_pos rfl, tab_len, if_pos e2, tab_get e2, if_pos rfl]
          · rw [if_neg hip]
            by_cases hiN : i < N
            · rw [tab_get hiN, tab_get hiN, if_neg (fun h => hip h.symm)]
            · rw [List.getElem?_eq_none (by rw [tab_len]; omega), List.getElem?_eq_none (by rw [tab_len]; omega)]
        rw [hset, ih g _ (fun r hr => ⟨by rw [(hg r (by simp [hr])).1, if_neg (fun h => n1 (by rw [← h]; exact hr))], (hg r (by simp [hr])).2⟩) n2 (fun r hr => hb r (by simp [hr]))]
        congr 1
        refine tab_ext fun i hi => ?_
        by_cases hiq : i = q
        · subst hiq
          rw [if_neg n1, if_pos rfl, if_pos (by simp), e1]
          rfl
        · by_cases hiqs : i ∈ qs
          · rw [if_pos hiqs, if_pos (by simp [hiqs])]
          · rw [if_neg hiqs, if_neg hiq, if_neg (by simp [hiq, hiqs])]
    rw [hset, go ps f _ (fun q hq => ⟨by rw [if_neg (fun h => h1 (by rw [← h]; exact hq))], hp q (by simp [hq])⟩) h2 (fun q hq => hb q (hp q (by simp [hq])))]
    congr 1
    refine tab_ext fun i hi => ?_
    by_cases hip : i = p
    · subst hip
      rw [if_neg h1, if_pos rfl, if_pos (by simp)]
      rfl
    · by_cases hiqs : i ∈ ps
      · rw [if_pos hiqs, if_pos (by simp [hiqs])]
      · rw [if_neg hiqs, if_neg hip, if_neg (by simp [hip, hiqs])]
/-- Adding or removing an id, as a sum. -/
theorem changed_tab {N : Nat} (hN : sizedB N = true) {x : List B} {by_ : Int} (hx : x.length = 32) (hby : -1 ≤ by_ ∧ by_ ≤ 1) (f : Nat → Cell) (hb : ∀ i, i < N → -999999 ≤ (f i).count ∧ (f i).count ≤ 999999) (ho : ∀ i, i < N → (f i).sum.length = 32) :
    changed (tab N f) x by_ = some (tab N fun i => addC (f i) (one N x by_ i)) := by
  obtain ⟨M, hM, h3, h48, hmod⟩ := sized_nat hN
  have hM' : N = M := by omega
  subst hM'
  obtain ⟨d1, d2, d3⟩ := places_ne h3 x
  unfold changed
  rw [tab_len, putAt_tab hx hby (placesL N x) f (by simp [placesL, d1, d2, d3]) (fun p hp => by
    simp only [placesL, List.mem_cons, List.not_mem_nil, or_false] at hp
    rcases hp with rfl | rfl | rfl <;> exact place_lt_n h3 hmod x (by omega)) hb ho]
  congr 1
  refine tab_ext fun i hi => ?_
  unfold one
  split
  · rfl
  · rw [addC_zero (ho i hi)]
end Sk
end Go.CM

/-
  Sketches: calls without unknowns, carried out.
-/
namespace Go.CM
open Go Go.Proofs
set_option linter.unusedVariables false
set_option linter.unusedSimpArgs false
set_option maxRecDepth 1000000
namespace Sk
open Sha

def xorF : List CV → Option CV
  | [a, b] => match idOf a, idOf b with
    | some a, some b => some (idC (xorL a b))
    | _, _ => none
  | _ => none
abbrev xorO : FuncId × Bool × (List CV → Option CV) := (57, false, xorF)
theorem xorO_ok : OrcP Tryd.prog GS xorO := by
  intro args r h
  refine ⟨?_, fun h => by cases h⟩
  simp only [xorF] at h
  split at h
  · split at h
    · rename_i a b ha hb
      cases h
      obtain ⟨rfl, h1⟩ := idOf_ok ha
      obtain ⟨rfl, h2⟩ := idOf_ok hb
      exact xor_ok _ _ h1 h2
    · cases h
  · cases h
def wordF : List CV → Option CV
  | [a] => match idOf a with
    | some a => some (.tu [e64 (word a), .int .i64 0])
    | none => none
  | _ => none
abbrev wordO : FuncId × Bool × (List CV → Option CV) := (15, false, wordF)
theorem wordO_ok : OrcP Tryd.prog GS wordO := by
  intro args r h
  refine ⟨?_, fun h => by cases h⟩
  simp only [wordF] at h
  split at h
  · split at h
    · rename_i a ha
      cases h
      obtain ⟨rfl, h1⟩ := idOf_ok ha
      exact word_ok _ h1
    · cases h
  · cases h
def placesF : List CV → Option CV
  | [.int .i64 n, a] => match idOf a with
    | some a => some (match sizedB n with | true => .tu [placesC n.toNat a, .int .i64 0] | false => .tu [.ag [.int .i64 0, .int .i64 0, .int .i64 0], .int .i64 2])
    | none => none
  | _ => none
abbrev placesO : FuncId × Bool × (List CV → Option CV) := (13, false, placesF)
theorem placesO_ok : OrcP Tryd.prog GS placesO := by
  intro args r h
  refine ⟨?_, fun h => by cases h⟩
  simp only [placesF] at h
  split at h
  · split at h
    · rename_i a ha
      cases h
      obtain ⟨rfl, h1⟩ := idOf_ok ha
      exact places_ok _ _ h1
    · cases h
  · cases h
end Sk
end Go.CM

/-
  Sketches: SketchNames, carried out in parts (printed by program).
-/
namespace Go.CM
open Go Go.Proofs
set_option linter.unusedVariables false
set_option maxRecDepth 1000000

-- (some braid/sketch.Of): 29323
abbrev kSketchNamesA1 : List CV := [.rsl 34 [[ji (0)] ++ rep 32 (.int .u8 0) ++ [.int .u64 (0)], [ji (1)] ++ jb [0, 0, 0, 5, 0, 0, 0, 6, 0, 0, 0, 7, 0, 0, 0, 0, 0, 0, 0, 0, 0, 0, 0, 0, 0, 0, 0, 0, 0, 0, 0, 0] ++ [.int .u64 (5119487410153467689)], [ji (0)] ++ rep 32 (.int .u8 0) ++ [.int .u64 (0)], [ji (0)] ++ rep 32 (.int .u8 0) ++ [.int .u64 (0)], [ji (0)] ++ rep 32 (.int .u8 0) ++ [.int .u64 (0)], [ji (0)] ++ rep 32 (.int .u8 0) ++ [.int .u64 (0)], [ji (1)] ++ jb [0, 0, 0, 5, 0, 0, 0, 6, 0, 0, 0, 7, 0, 0, 0, 0, 0, 0, 0, 0, 0, 0, 0, 0, 0, 0, 0, 0, 0, 0, 0, 0] ++ [.int .u64 (5119487410153467689)], [ji (0)] ++ rep 32 (.int .u8 0) ++ [.int .u64 (0)], [ji (0)] ++ rep 32 (.int .u8 0) ++ [.int .u64 (0)], [ji (0)] ++ rep 32 (.int .u8 0) ++ [.int .u64 (0)], [ji (0)] ++ rep 32 (.int .u8 0) ++ [.int .u64 (0)], [ji (1)] ++ jb [0, 0, 0, 5, 0, 0, 0, 6, 0, 0, 0, 7, 0, 0, 0, 0, 0, 0, 0, 0, 0, 0, 0, 0, 0, 0, 0, 0, 0, 0, 0, 0] ++ [.int .u64 (5119487410153467689)]]]
abbrev kSketchNamesR1 : CV := .tu ([.rsl 32 [jb [0, 0, 0, 5, 0, 0, 0, 6, 0, 0, 0, 7, 0, 0, 0, 0, 0, 0, 0, 0, 0, 0, 0, 0, 0, 0, 0, 0, 0, 0, 0, 0]]] ++ [.nilS] ++ [.rsl 34 [[ji (0)] ++ rep 32 (.int .u8 0) ++ [.int .u64 (0)], [ji (0)] ++ rep 32 (.int .u8 0) ++ [.int .u64 (0)], [ji (0)] ++ rep 32 (.int .u8 0) ++ [.int .u64 (0)], [ji (0)] ++ rep 32 (.int .u8 0) ++ [.int .u64 (0)], [ji (0)] ++ rep 32 (.int .u8 0) ++ [.int .u64 (0)], [ji (0)] ++ rep 32 (.int .u8 0) ++ [.int .u64 (0)], [ji (0)] ++ rep 32 (.int .u8 0) ++ [.int .u64 (0)], [ji (0)] ++ rep 32 (.int .u8 0) ++ [.int .u64 (0)], [ji (0)] ++ rep 32 (.int .u8 0) ++ [.int .u64 (0)], [ji (0)] ++ rep 32 (.int .u8 0) ++ [.int .u64 (0)], [ji (0)] ++ rep 32 (.int .u8 0) ++ [.int .u64 (0)], [ji (0)] ++ rep 32 (.int .u8 0) ++ [.int .u64 (0)]]] ++ [ji (0)])
theorem kSketchNames1 : PureN Tryd.prog GS 31 kSketchNamesA1 kSketchNamesR1 :=
  pureN_runs Tryd.checked.mixed GS_closed (orcOf_ok (AllO.mem (allO_cons Sk.xorO_ok (allO_cons Sk.wordO_ok (allO_cons Sk.placesO_ok (allO_nil)))))) tbl_ok (orc := orcOf [Sk.xorO, Sk.wordO, Sk.placesO]) (fuel := 100000) (k := 60) (by kernel_rfl)
-- (some braid/sketch.Peel): 7021
abbrev kSketchNamesA2 : List CV := [.rsl 34 [[ji (0)] ++ rep 32 (.int .u8 0) ++ [.int .u64 (0)], [ji (-1)] ++ jb [0, 0, 0, 5, 0, 0, 0, 6, 0, 0, 0, 7, 0, 0, 0, 0, 0, 0, 0, 0, 0, 0, 0, 0, 0, 0, 0, 0, 0, 0, 0, 0] ++ [.int .u64 (5119487410153467689)], [ji (0)] ++ rep 32 (.int .u8 0) ++ [.int .u64 (0)], [ji (0)] ++ rep 32 (.int .u8 0) ++ [.int .u64 (0)], [ji (0)] ++ rep 32 (.int .u8 0) ++ [.int .u64 (0)], [ji (0)] ++ rep 32 (.int .u8 0) ++ [.int .u64 (0)], [ji (-1)] ++ jb [0, 0, 0, 5, 0, 0, 0, 6, 0, 0, 0, 7, 0, 0, 0, 0, 0, 0, 0, 0, 0, 0, 0, 0, 0, 0, 0, 0, 0, 0, 0, 0] ++ [.int .u64 (5119487410153467689)], [ji (0)] ++ rep 32 (.int .u8 0) ++ [.int .u64 (0)], [ji (0)] ++ rep 32 (.int .u8 0) ++ [.int .u64 (0)], [ji (0)] ++ rep 32 (.int .u8 0) ++ [.int .u64 (0)], [ji (0)] ++ rep 32 (.int .u8 0) ++ [.int .u64 (0)], [ji (-1)] ++ jb [0, 0, 0, 5, 0, 0, 0, 6, 0, 0, 0, 7, 0, 0, 0, 0, 0, 0, 0, 0, 0, 0, 0, 0, 0, 0, 0, 0, 0, 0, 0, 0] ++ [.int .u64 (5119487410153467689)]]]
abbrev kSketchNamesR2 : CV := .tu ([.nilS] ++ [.rsl 32 [jb [0, 0, 0, 5, 0, 0, 0, 6, 0, 0, 0, 7, 0, 0, 0, 0, 0, 0, 0, 0, 0, 0, 0, 0, 0, 0, 0, 0, 0, 0, 0, 0]]] ++ [.rsl 34 [[ji (0)] ++ rep 32 (.int .u8 0) ++ [.int .u64 (0)], [ji (0)] ++ rep 32 (.int .u8 0) ++ [.int .u64 (0)], [ji (0)] ++ rep 32 (.int .u8 0) ++ [.int .u64 (0)], [ji (0)] ++ rep 32 (.int .u8 0) ++ [.int .u64 (0)], [ji (0)] ++ rep 32 (.int .u8 0) ++ [.int .u64 (0)], [ji (0)] ++ rep 32 (.int .u8 0) ++ [.int .u64 (0)], [ji (0)] ++ rep 32 (.int .u8 0) ++ [.int .u64 (0)], [ji (0)] ++ rep 32 (.int .u8 0) ++ [.int .u64 (0)], [ji (0)] ++ rep 32 (.int .u8 0) ++ [.int .u64 (0)], [ji (0)] ++ rep 32 (.int .u8 0) ++ [.int .u64 (0)], [ji (0)] ++ rep 32 (.int .u8 0) ++ [.int .u64 (0)], [ji (0)] ++ rep 32 (.int .u8 0) ++ [.int .u64 (0)]]] ++ [ji (0)])
theorem kSketchNames2 : PureN Tryd.prog GS 31 kSketchNamesA2 kSketchNamesR2 :=
  pureN_runs Tryd.checked.mixed GS_closed (orcOf_ok (AllO.mem (allO_cons Sk.xorO_ok (allO_cons Sk.wordO_ok (allO_cons Sk.placesO_ok (allO_nil)))))) tbl_ok (orc := orcOf [Sk.xorO, Sk.wordO, Sk.placesO]) (fuel := 100000) (k := 60) (by kernel_rfl)
-- (some braid/sketch.Peel): 5362
abbrev kSketchNamesA3 : List CV := [.rsl 34 [[ji (0)] ++ rep 32 (.int .u8 0) ++ [.int .u64 (0)], [ji (2)] ++ jb [0, 0, 0, 12, 0, 0, 0, 0, 0, 0, 0, 0, 0, 0, 0, 0, 0, 0, 0, 0, 0, 0, 0, 0, 0, 0, 0, 0, 0, 0, 0, 0] ++ [.int .u64 (742507902314508248)], [ji (0)] ++ rep 32 (.int .u8 0) ++ [.int .u64 (0)], [ji (0)] ++ rep 32 (.int .u8 0) ++ [.int .u64 (0)], [ji (0)] ++ rep 32 (.int .u8 0) ++ [.int .u64 (0)], [ji (0)] ++ rep 32 (.int .u8 0) ++ [.int .u64 (0)], [ji (2)] ++ jb [0, 0, 0, 12, 0, 0, 0, 0, 0, 0, 0, 0, 0, 0, 0, 0, 0, 0, 0, 0, 0, 0, 0, 0, 0, 0, 0, 0, 0, 0, 0, 0] ++ [.int .u64 (742507902314508248)], [ji (0)] ++ rep 32 (.int .u8 0) ++ [.int .u64 (0)], [ji (0)] ++ rep 32 (.int .u8 0) ++ [.int .u64 (0)], [ji (0)] ++ rep 32 (.int .u8 0) ++ [.int .u64 (0)], [ji (0)] ++ rep 32 (.int .u8 0) ++ [.int .u64 (0)], [ji (2)] ++ jb [0, 0, 0, 12, 0, 0, 0, 0, 0, 0, 0, 0, 0, 0, 0, 0, 0, 0, 0, 0, 0, 0, 0, 0, 0, 0, 0, 0, 0, 0, 0, 0] ++ [.int .u64 (742507902314508248)]]]
abbrev kSketchNamesR3 : CV := .tu ([.nilS] ++ [.nilS] ++ [.rsl 34 [[ji (0)] ++ rep 32 (.int .u8 0) ++ [.int .u64 (0)], [ji (2)] ++ jb [0, 0, 0, 12, 0, 0, 0, 0, 0, 0, 0, 0, 0, 0, 0, 0, 0, 0, 0, 0, 0, 0, 0, 0, 0, 0, 0, 0, 0, 0, 0, 0] ++ [.int .u64 (742507902314508248)], [ji (0)] ++ rep 32 (.int .u8 0) ++ [.int .u64 (0)], [ji (0)] ++ rep 32 (.int .u8 0) ++ [.int .u64 (0)], [ji (0)] ++ rep 32 (.int .u8 0) ++ [.int .u64 (0)], [ji (0)] ++ rep 32 (.int .u8 0) ++ [.int .u64 (0)], [ji (2)] ++ jb [0, 0, 0, 12, 0, 0, 0, 0, 0, 0, 0, 0, 0, 0, 0, 0, 0, 0, 0, 0, 0, 0, 0, 0, 0, 0, 0, 0, 0, 0, 0, 0] ++ [.int .u64 (742507902314508248)], [ji (0)] ++ rep 32 (.int .u8 0) ++ [.int .u64 (0)], [ji (0)] ++ rep 32 (.int .u8 0) ++ [.int .u64 (0)], [ji (0)] ++ rep 32 (.int .u8 0) ++ [.int .u64 (0)], [ji (0)] ++ rep 32 (.int .u8 0) ++ [.int .u64 (0)], [ji (2)] ++ jb [0, 0, 0, 12, 0, 0, 0, 0, 0, 0, 0, 0, 0, 0, 0, 0, 0, 0, 0, 0, 0, 0, 0, 0, 0, 0, 0, 0, 0, 0, 0, 0] ++ [.int .u64 (742507902314508248)]]] ++ [ji (0)])
theorem kSketchNames3 : PureN Tryd.prog GS 31 kSketchNamesA3 kSketchNamesR3 :=
  pureN_runs Tryd.checked.mixed GS_closed (orcOf_ok (AllO.mem (allO_nil))) tbl_ok (orc := orcOf []) (fuel := 100000) (k := 60) (by kernel_rfl)
-- (some braid/braidlaw39.alive): 9375
abbrev kSketchNamesA4 : List CV := []
abbrev kSketchNamesR4 : CV := .bool true
theorem kSketchNames4 : PureN Tryd.prog GS 34 kSketchNamesA4 kSketchNamesR4 :=
  pureN_runs Tryd.checked.mixed GS_closed (orcOf_ok (AllO.mem (allO_cons Sk.xorO_ok (allO_cons Sk.wordO_ok (allO_cons Sk.placesO_ok (allO_cons (pickO_ok (allK_cons kSketchNames1 (allK_cons kSketchNames2 (allK_cons kSketchNames3 (allK_nil))))) (allO_nil))))))) tbl_ok (orc := orcOf [Sk.xorO, Sk.wordO, Sk.placesO, (31, true, pickA [(kSketchNamesA1, kSketchNamesR1), (kSketchNamesA2, kSketchNamesR2), (kSketchNamesA3, kSketchNamesR3)])]) (fuel := 100000) (k := 60) (by kernel_rfl)
end Go.CM

/-
  Sketches: SketchOrder, walked.
-/
namespace Go.CM
open Go Go.Proofs Go.Sort Go.Shelf
set_option linter.unusedVariables false
set_option linter.unusedSimpArgs false
set_option maxRecDepth 100000
namespace Sk
open Sha

theorem alive_ok : PureC Tryd.prog GS 34 [] (.bool true) := kSketchNames4.toC
def smallB (s : Sketch) : Bool := (s.l.all fun c => decide (-900000 ≤ c.count ∧ c.count ≤ 900000)) && decide (chk s = 0)
theorem tyA_skl {ts : List TypeId} {cs : List CV} (h : TyA Tryd.prog (22 :: ts) cs) : ∃ (s : Sketch) (cs' : List CV), cs = encSk s :: cs' ∧ okSk s ∧ s.l.length ≤ maxLen ∧ TyA Tryd.prog ts cs' := by
  obtain ⟨c, cs', rfl, h1, h2⟩ := tyA_cons h
  obtain ⟨s, cs1, hs, hl, hi, h3⟩ := ty_sl (e := 69) (z := 34) (by kernel_rfl) (by kernel_rfl) ty_cell (tyV_one (by kernel_rfl) h1)
  cases hs
  exact ⟨s, cs', rfl, hi, hl, h2⟩
theorem refCheck_big (s : Sketch) (ho : okSk s) : PureC Tryd.prog GS 23 [encSk s] (.int .i64 (chk s)) := by
  by_cases hl : s.l.length ≤ 1000000000
  · exact refCheck_ok s ho hl
  · refine pure_of Tryd.checked.mixed GS_closed ?_
    apply call_intro c23_eq r23_eq
    unfold c23 r23
    have hlen : lenM (.sl 34) (encSk s) = some (.int .i64 s.l.length) := len_encS _
    have h1 : sizedB s.l.length = false := by unfold sizedB; exact decide_eq_false (by omega)
    have h2 : chk s = 8 := by unfold chk; rw [if_neg (by rw [h1]; simp)]
    simp [hlen]
    refine pure_call (refSize_ok s.l.length) rfl ?_
    simp [h1, h2]
    exact rd_eq rfl rfl
theorem small_ok (s : Sketch) (ho : okSk s) (hl : s.l.length ≤ maxLen) : PureC Tryd.prog GS 42 [encSk s] (.bool (smallB s)) := by
  refine pure_of Tryd.checked.mixed GS_closed ?_
  apply call_intro c42_eq r42_eq
  unfold c42 r42
  have hlen : lenM (.sl 34) (encSk s) = some (.int .i64 s.l.length) := len_encS _
  have hcs := closed_sk s
  simp
  refine loop_up s.l.length (fun k σ l => σ 0 = encSk s ∧ σ 3 = .int .i64 k ∧ ∀ (j : Nat) (c : Cell), j < k → s.l[j]? = some c → -900000 ≤ c.count ∧ c.count ≤ 900000) ?_ (by simp)
  rintro k σ l hk ⟨g0, g3, hs⟩
  obtain ⟨σ, rfl⟩ := upds2 g0 g3
  clear g0 g3
  unfold l42_0
  by_cases h : k < s.l.length
  · obtain ⟨c, hc, hcm⟩ := get_of h
    have hmax : maxLen = 9223372036854775807 := rfl
    have hwk : IntKind.i64.wrap ((k : Int) + 1) = (k + 1 : Nat) := wrap_i64 (by omega) (by omega)
    have hia : iaC (.sl 34) (encSk s) (.int .i64 k) = some (.rptr (encCell c) 0) := by unfold encSk; rw [ia_encS]; simp [hc]
    obtain ⟨C, hC⟩ : ∃ C, C = encCell c := ⟨_, rfl⟩
    obtain ⟨p1, p2, p3, p4⟩ := ldA_of (ho c hcm) hC
    rw [← hC] at hia
    have hbad : ¬ (-900000 ≤ c.count ∧ c.count ≤ 900000) → smallB s = false := fun hb => by
      unfold smallB
      have : (s.l.all fun c => decide (-900000 ≤ c.count ∧ c.count ≤ 900000)) = false := by
        rw [List.all_eq_false]; exact ⟨c, hcm, by simpa using hb⟩
      rw [this]; rfl
    by_cases h1 : c.count < -900000
    · simp [hlen, h, hia, p2, h1, hbad (by omega)]
      exact rd_eq rfl rfl
    · by_cases h2 : 900000 < c.count
      · simp [hlen, h, hia, p2, h1, h2, hbad (by omega)]
        exact rd_eq rfl rfl
      · simp [hlen, h, hia, p2, h1, h2, hwk]
        intro j d hj hd
        by_cases hjk : j = k
        · subst hjk; rw [hc] at hd; cases hd; omega
        · exact hs j d (by omega) hd
  · have hall : (s.l.all fun c => decide (-900000 ≤ c.count ∧ c.count ≤ 900000)) = true := by
      rw [List.all_eq_true]
      intro c hc
      obtain ⟨j, hj⟩ := List.mem_iff_getElem?.1 hc
      simpa using hs j c (by have := (List.getElem?_eq_some_iff.1 hj).1; omega) hj
    simp [hlen, h]
    refine pure_call (refCheck_big s ho) (by simp [closedL, hcs]) ?_
    simp
    exact rd_bool (by unfold smallB; rw [hall]; simp)
/-! ### Sums -/
def acc (N : Nat) (c : Cell) (ids : List (List B)) (i : Nat) : Cell := ids.foldl (fun c x => addC c (one N x 1 i)) c
theorem acc_len {N : Nat} {i : Nat} : ∀ {ids : List (List B)} {c : Cell}, (∀ x ∈ ids, x.length = 32) → c.sum.length = 32 → (acc N c ids i).sum.length = 32
  | [], c, _, h => h
  | x :: ids, c, hi, h => acc_len (ids := ids) (fun y hy => hi y (by simp [hy])) (addC_len h (one_len (hi x (by simp)) _ _))
theorem one_bnd (N : Nat) (x : List B) (i : Nat) : 0 ≤ (one N x 1 i).count ∧ (one N x 1 i).count ≤ 1 := by unfold one; split <;> simp [zeroCell]
theorem acc_bnd {N : Nat} {i : Nat} : ∀ {ids : List (List B)} {c : Cell} {m : Int}, -m ≤ c.count ∧ c.count ≤ m → -(m + ids.length) ≤ (acc N c ids i).count ∧ (acc N c ids i).count ≤ m + ids.length
  | [], c, m, h => by simpa [acc] using h
  | x :: ids, c, m, h => by
    have h1 := one_bnd N x i
    have := acc_bnd (N := N) (i := i) (ids := ids) (c := addC c (one N x 1 i)) (m := m + 1) (by simp only [addC]; omega)
    simp only [List.length_cons]
    have e : acc N c (x :: ids) i = acc N (addC c (one N x 1 i)) ids i := rfl
    rw [e]; omega
/-- A valid sketch with bounded counts, as a table. -/
structure Tb (N : Nat) (m : Int) (f : Nat → Cell) : Prop where
  sz : sizedB N = true
  b : ∀ i, i < N → -m ≤ (f i).count ∧ (f i).count ≤ m
  o : ∀ i, i < N → (f i).sum.length = 32
theorem Tb.chk {N : Nat} {m : Int} {f : Nat → Cell} (h : Tb N m f) (hm : m ≤ 1000000) : chk (some (tab N f)) = 0 := by
  refine chk_of (by rw [Sv.l_some, tab_len]; exact h.sz) fun c hc => ?_
  obtain ⟨i, hi, rfl⟩ := tab_mem hc
  have := h.b i hi
  omega
theorem Tb.ok {N : Nat} {m : Int} {f : Nat → Cell} (h : Tb N m f) : okSk (some (tab N f)) := fun c hc => by
  obtain ⟨i, hi, rfl⟩ := tab_mem hc
  exact h.o i hi
theorem one_bnd2 (N : Nat) (x : List B) (by_ : Int) (i : Nat) (h : -1 ≤ by_ ∧ by_ ≤ 1) : -1 ≤ (one N x by_ i).count ∧ (one N x by_ i).count ≤ 1 := by unfold one; split <;> simp [zeroCell]; omega
theorem Tb.put {N : Nat} {m : Int} {f : Nat → Cell} (h : Tb N m f) (hm : m ≤ 999999) {x : List B} (hx : x.length = 32) {by_ : Int} (hby : -1 ≤ by_ ∧ by_ ≤ 1) :
    put (some (tab N f)) x by_ = (some (tab N fun i => addC (f i) (one N x by_ i)), 0) ∧ Tb N (m + 1) fun i => addC (f i) (one N x by_ i) := by
  refine ⟨put_of (h.chk (by omega)) (changed_tab h.sz hx hby f (fun i hi => by have := h.b i hi; omega) h.o), h.sz, fun i hi => ?_, fun i hi => addC_len (h.o i hi) (one_len hx _ _)⟩
  have := h.b i hi
  have := one_bnd2 N x by_ i hby
  simp only [addC]; omega
theorem Tb.size {N : Nat} {m : Int} {f : Nat → Cell} (h : Tb N m f) : 3 ≤ N ∧ N ≤ 48 := by
  obtain ⟨M, hM, h3, h48, _⟩ := sized_nat h.sz
  omega
theorem Tb.of {s : Sketch} (h : smallB s = true) (ho : okSk s) : ∃ f, s = some (tab s.l.length f) ∧ Tb s.l.length 900000 f := by
  unfold smallB at h
  simp only [Bool.and_eq_true, decide_eq_true_eq] at h
  obtain ⟨h1, h2⟩ := h
  obtain ⟨h3, h4⟩ := chk_0 h2
  rw [List.all_eq_true] at h1
  have hs : s = some s.l := by
    cases s with
    | none => obtain ⟨M, hM, k3, _⟩ := sized_nat h3; simp at hM; omega
    | some l => rfl
  have hg : ∀ i, i < s.l.length → s.l.getD i zeroCell ∈ s.l := fun i hi => by rw [List.getD_eq_getElem?_getD, List.getElem?_eq_getElem hi]; exact List.getElem_mem hi
  refine ⟨fun i => s.l.getD i zeroCell, ?_, h3, fun i hi => by simpa using h1 _ (hg i hi), fun i hi => ho _ (hg i hi)⟩
  rw [← tab_of]; exact hs
theorem Tb.sub {N : Nat} {m m' : Int} {f g : Nat → Cell} (hf : Tb N m f) (hg : Tb N m' g) (hm : m ≤ 1000000) (hm' : m' ≤ 1000000) (hd : ∀ i, i < N → -1000000 ≤ (subC (f i) (g i)).count ∧ (subC (f i) (g i)).count ≤ 1000000) :
    subS (some (tab N f)) (some (tab N g)) = (some (tab N fun i => subC (f i) (g i)), 0) := by
  unfold subS
  rw [if_pos (hf.chk hm), if_pos (hg.chk hm'), if_pos (by rw [Sv.l_some, Sv.l_some, tab_len, tab_len]), Sv.l_some, Sv.l_some, tab_sub, if_pos]
  rw [List.all_eq_true]
  intro c hc
  obtain ⟨i, hi, rfl⟩ := tab_mem hc
  rw [inR_iff]; exact hd i hi
end Sk
end Go.CM

/-
  Sketches, plain: what peeling keeps.
-/
namespace Go.CM
open Go Go.Proofs Go.Sort Go.Shelf
set_option linter.unusedVariables false
set_option linter.unusedSimpArgs false
set_option maxRecDepth 100000
namespace Sk
open Sha

/-- Ids taken away. -/
def rem (N : Nat) (c : Cell) (ids : List (List B)) (i : Nat) : Cell := ids.foldl (fun c x => addC c (one N x (-1) i)) c
theorem acc_one (N : Nat) (i : Nat) (d : Cell) : ∀ (ids : List (List B)) (c : Cell), acc N (addC c d) ids i = addC (acc N c ids i) d
  | [], c => rfl
  | x :: ids, c => by
    show acc N (addC (addC c d) (one N x 1 i)) ids i = addC (acc N (addC c (one N x 1 i)) ids i) d
    rw [addC_right, acc_one N i d ids]
theorem rem_one (N : Nat) (i : Nat) (d : Cell) : ∀ (ids : List (List B)) (c : Cell), rem N (addC c d) ids i = addC (rem N c ids i) d
  | [], c => rfl
  | x :: ids, c => by
    show rem N (addC (addC c d) (one N x (-1) i)) ids i = addC (rem N (addC c (one N x (-1) i)) ids i) d
    rw [addC_right, rem_one N i d ids]
theorem acc_snoc (N : Nat) (c : Cell) (ids : List (List B)) (x : List B) (i : Nat) : acc N c (ids ++ [x]) i = addC (acc N c ids i) (one N x 1 i) := by unfold acc; rw [List.foldl_append]; rfl
theorem rem_snoc (N : Nat) (c : Cell) (ids : List (List B)) (x : List B) (i : Nat) : rem N c (ids ++ [x]) i = addC (rem N c ids i) (one N x (-1) i) := by unfold rem; rw [List.foldl_append]; rfl
theorem rem_len {N : Nat} {i : Nat} : ∀ {ids : List (List B)} {c : Cell}, (∀ x ∈ ids, x.length = 32) → c.sum.length = 32 → (rem N c ids i).sum.length = 32
  | [], c, _, h => h
  | x :: ids, c, hi, h => rem_len (ids := ids) (fun y hy => hi y (by simp [hy])) (addC_len h (one_len (hi x (by simp)) _ _))
theorem acc_perm {N : Nat} {i : Nat} {c : Cell} {l l' : List (List B)} (h : l.Perm l') : acc N c l i = acc N c l' i := by
  unfold acc
  exact h.foldl_eq' (fun x _ y _ z => addC_right _ _ _) c
theorem rem_perm {N : Nat} {i : Nat} {c : Cell} {l l' : List (List B)} (h : l.Perm l') : rem N c l i = rem N c l' i := by
  unfold rem
  exact h.foldl_eq' (fun x _ y _ z => addC_right _ _ _) c
/-- Both. -/
def both (N : Nat) (c : Cell) (l r : List (List B)) (i : Nat) : Cell := rem N (acc N c l i) r i
theorem both_l {N : Nat} {i : Nat} {c : Cell} {l r : List (List B)} {x : List B} (hx : x.length = 32) (hc : c.sum.length = 32) : both N (addC c (one N x (-1) i)) (l ++ [x]) r i = both N c l r i := by
  unfold both
  rw [acc_snoc, acc_one, addC_assoc, ← one_neg N x 1 i, addC_comm (negC _), addC_neg (one_len hx _ _), ← acc_one, addC_zero hc]
theorem both_r {N : Nat} {i : Nat} {c : Cell} {l r : List (List B)} {x : List B} (hx : x.length = 32) (hc : c.sum.length = 32) : both N (addC c (one N x 1 i)) l (r ++ [x]) i = both N c l r i := by
  unfold both
  rw [rem_snoc, acc_one, rem_one, addC_assoc, ← one_neg N x 1 i, addC_neg (one_len hx _ _), ← rem_one, ← acc_one, addC_zero hc]
theorem peelR_spec {N : Nat} : ∀ (f : Nat) (m : Int) (g : Nat → Cell) (l r done : List (List B)), Tb N m g → m + f ≤ 999999 → f + done.length = 62 → done.length ≤ 60 → done.Perm (l ++ r) → done.Nodup → (∀ x ∈ done, x.length = 32) →
    peelR f (tab N g) l r done = .inl 4 ∨ ∃ l' r' g', peelR f (tab N g) l r done = .inr (l', r', tab N g') ∧ Tb N (m + f) g' ∧ (∀ i, i < N → both N (g' i) l' r' i = both N (g i) l r i) ∧ (l' ++ r').Nodup ∧ (∀ x ∈ l' ++ r', x.length = 32) ∧ l'.length + r'.length ≤ 60
  | 0, m, g, l, r, done, T, hm, hf, h60, hp, hnd, hln => by omega
  | f + 1, m, g, l, r, done, T, hm, hf, h60, hp, hnd, hln => by
    have hlen : l.length + r.length = done.length := by have := hp.length_eq; simp at this; omega
    unfold peelR
    cases hnx : nextN (tab N g) done with
    | none =>
      right
      refine ⟨l, r, g, rfl, ⟨T.sz, fun i hi => by have := T.b i hi; omega, T.o⟩, fun _ _ => rfl, hp.nodup_iff.1 hnd, fun x hx => hln x (hp.mem_iff.2 hx), by omega⟩
    | some i =>
      obtain ⟨hi, hw, _⟩ := nextN_some hnx
      rw [tab_len] at hi
      have hc := tab_get (f := g) hi
      rw [wants_iff hc] at hw
      simp only [Bool.and_eq_true, Bool.not_eq_true', decide_eq_false_iff_not] at hw
      have hcnt := pure_count hw.1
      have hx := T.o i hi
      simp only [hc]
      by_cases h6 : done.length = 60
      · rw [nbeq_true h6]; left; rfl
      · rw [nbeq_false h6]
        simp only
        have hby : -1 ≤ -(g i).count ∧ -(g i).count ≤ 1 := by rcases hcnt with h | h <;> omega
        rw [changed_tab T.sz hx hby g (fun j hj => by have := T.b j hj; omega) T.o]
        simp only
        have T' : Tb N (m + 1) fun j => addC (g j) (one N (g i).sum (-(g i).count) j) := (T.put (by omega) hx hby).2
        have hnd' : (done ++ [(g i).sum]).Nodup := by
          rw [List.nodup_append]
          exact ⟨hnd, by simp, fun a ha b hb => by simp at hb; subst hb; exact fun h => hw.2 (h ▸ ha)⟩
        have hln' : ∀ x ∈ done ++ [(g i).sum], x.length = 32 := fun x hx' => by
          rcases List.mem_append.1 hx' with h | h
          · exact hln x h
          · simp at h; subst h; exact hx
        rcases hcnt with h1 | h1
        · have hd : decide (0 < (g i).count) = true := by rw [h1]; rfl
          rw [hd]
          simp only
          have hp' : (done ++ [(g i).sum]).Perm ((l ++ [(g i).sum]) ++ r) := by
            refine (hp.append_right _).trans ?_
            rw [List.append_assoc, List.append_assoc]
            exact List.Perm.append_left l List.perm_append_comm
          rcases peelR_spec f (m + 1) _ (l ++ [(g i).sum]) r _ T' (by omega) (by simp; omega) (by simp; omega) hp' hnd' hln' with h | ⟨l', r', g', a1, a2, a3, a4, a5, a6⟩
          · exact .inl h
          · refine .inr ⟨l', r', g', a1, ⟨a2.sz, fun j hj => by have := a2.b j hj; omega, a2.o⟩, fun j hj => ?_, a4, a5, a6⟩
            rw [a3 j hj]
            have : -(g i).count = -1 := by omega
            rw [this]
            exact both_l hx (T.o j hj)
        · have hd : decide (0 < (g i).count) = false := by rw [h1]; rfl
          rw [hd]
          simp only
          have hp' : (done ++ [(g i).sum]).Perm (l ++ (r ++ [(g i).sum])) := by
            rw [← List.append_assoc]; exact hp.append_right _
          rcases peelR_spec f (m + 1) _ l (r ++ [(g i).sum]) _ T' (by omega) (by simp; omega) (by simp; omega) hp' hnd' hln' with h | ⟨l', r', g', a1, a2, a3, a4, a5, a6⟩
          · exact .inl h
          · refine .inr ⟨l', r', g', a1, ⟨a2.sz, fun j hj => by have := a2.b j hj; omega, a2.o⟩, fun j hj => ?_, a4, a5, a6⟩
            rw [a3 j hj]
            have : -(g i).count = 1 := by omega
            rw [this]
            exact both_r hx (T.o j hj)
end Sk
end Go.CM

/-
  Sketches: Increasing, SketchBack, walked.
-/
namespace Go.CM
open Go Go.Proofs Go.Sort Go.Shelf
set_option linter.unusedVariables false
set_option linter.unusedSimpArgs false
set_option maxRecDepth 100000
namespace Sk
open Sha

def Inc (l : List (List B)) : Prop := ∀ (j : Nat) (x y : List B), l[j]? = some x → l[j + 1]? = some y → ltB x y = true
def incB : List (List B) → Bool
  | [] => true
  | a :: r => (match r with | [] => true | b :: _ => ltB a b) && incB r
theorem incB_iff : ∀ l : List (List B), incB l = true ↔ Inc l
  | [] => ⟨fun _ j x y h => by simp at h, fun _ => rfl⟩
  | [a] => ⟨fun _ j x y h h2 => by simp at h2, fun _ => rfl⟩
  | a :: b :: r => by
    have ih := incB_iff (b :: r)
    constructor
    · intro h
      have h' : ltB a b = true ∧ incB (b :: r) = true := by
        have : incB (a :: b :: r) = (ltB a b && incB (b :: r)) := rfl
        rw [this] at h; simpa using h
      intro j x y hx hy
      cases j with
      | zero => simp at hx hy; subst hx hy; exact h'.1
      | succ j => exact ih.1 h'.2 j x y (by simpa using hx) (by simpa using hy)
    · intro h
      have : incB (a :: b :: r) = (ltB a b && incB (b :: r)) := rfl
      rw [this, h 0 a b rfl rfl, ih.2 fun j x y hx hy => h (j + 1) x y (by simpa using hx) (by simpa using hy)]
      rfl
theorem inc_ok (s : Ids) (ho : okIds s) (hl : s.l.length ≤ 1000000) : PureC Tryd.prog GS 36 [encIds s] (.bool (incB s.l)) := by
  refine pure_of Tryd.checked.mixed GS_closed ?_
  apply call_intro c36_eq r36_eq
  unfold c36 r36
  have hlen : lenM (.sl 32) (encIds s) = some (.int .i64 s.l.length) := len_encS _
  simp
  refine loop_up s.l.length (fun k σ l => σ 0 = encIds s ∧ σ 3 = .int .i64 ((k + 1 : Nat) : Int) ∧ ∀ (j : Nat) (x y : List B), j < k → s.l[j]? = some x → s.l[j + 1]? = some y → ltB x y = true) ?_ (by simp)
  rintro k σ l hk ⟨g0, g3, hs⟩
  obtain ⟨σ, rfl⟩ := upds2 g0 g3
  clear g0 g3
  unfold l36_0
  obtain ⟨k1, hk1⟩ : ∃ k1, k1 = k + 1 := ⟨_, rfl⟩
  rw [← hk1]
  by_cases h : k1 < s.l.length
  · obtain ⟨x, hx, hxm⟩ := get_of (l := s.l) (k := k) (by omega)
    obtain ⟨y, hy, hym⟩ := get_of (l := s.l) (k := k1) h
    have hwk : IntKind.i64.wrap ((k1 : Int) + 1) = (k1 + 1 : Nat) := wrap_i64 (by omega) (by omega)
    have hwm : IntKind.i64.wrap ((k1 : Int) - 1) = (k : Nat) := by rw [wrap_i64 (by omega) (by omega)]; omega
    have hxl := ho x hxm
    have hyl := ho y hym
    have hix : iaC (.sl 32) (encIds s) (.int .i64 k) = some (.rptr (eId x) 0) := by unfold encIds; rw [ia_encS]; simp [hx]
    have hiy : iaC (.sl 32) (encIds s) (.int .i64 k1) = some (.rptr (eId y) 0) := by unfold encIds; rw [ia_encS]; simp [hy]
    have hle := less_ok x y hxl hyl
    unfold idC at hle
    have c1 : closedL (x.map e8) = true := closedL_map e8 (fun _ => rfl) _
    have c2 : closedL (y.map e8) = true := closedL_map e8 (fun _ => rfl) _
    simp [hlen, h, hwm, hix, hiy, eId, hxl, hyl, List.take_of_length_le]
    refine pure_call hle (by simp [closedL, CV.closed, c1, c2]) ?_
    cases hlt : ltB x y with
    | true =>
      simp [hwk]
      refine ⟨by omega, fun j a b hj ha hb => ?_⟩
      by_cases hjk : j = k
      · subst hjk; rw [hx] at ha; rw [← hk1, hy] at hb; cases ha; cases hb; exact hlt
      · exact hs j a b (by omega) ha hb
    | false =>
      have : incB s.l = false := by
        cases hi : incB s.l with
        | false => rfl
        | true => have := (incB_iff _).1 hi k x y hx (by rw [← hk1]; exact hy); rw [hlt] at this; cases this
      simp [this]
      exact rd_eq rfl rfl
  · have : incB s.l = true := (incB_iff _).2 fun j x y hx hy => hs j x y (by have := (List.getElem?_eq_some_iff.1 hy).1; omega) hx hy
    simp [hlen, h, this]
    exact rd_eq rfl rfl
theorem inc_sort {l : List (List B)} (h : l.Nodup) : incB (sortB l) = true := by
  rw [incB_iff]
  intro j x y hx hy
  have hp := sortB_pw l
  have hn : (sortB l).Nodup := (sortB_perm l).nodup_iff.2 h
  obtain ⟨h1, rfl⟩ := List.getElem?_eq_some_iff.1 hx
  obtain ⟨h2, rfl⟩ := List.getElem?_eq_some_iff.1 hy
  have h3 := List.pairwise_iff_getElem.1 hp j (j + 1) h1 h2 (by omega)
  have h4 := List.pairwise_iff_getElem.1 hn j (j + 1) h1 h2 (by omega)
  cases hlt : ltB (sortB l)[j] (sortB l)[j + 1] with
  | true => rfl
  | false => exact absurd (leB_anti _ _ h3 (not_lt_le hlt)) h4
/-- Putting ids back one after the other. -/
theorem tab_acc {N : Nat} {m : Int} {g : Nat → Cell} (T : Tb N m g) {l : List (List B)} (hl : ∀ x ∈ l, x.length = 32) : Tb N (m + l.length) fun i => acc N (g i) l i :=
  ⟨T.sz, fun i hi => acc_bnd (T.b i hi), fun i hi => acc_len hl (T.o i hi)⟩
theorem rem_bnd {N : Nat} {i : Nat} : ∀ {ids : List (List B)} {c : Cell} {m : Int}, -m ≤ c.count ∧ c.count ≤ m → -(m + ids.length) ≤ (rem N c ids i).count ∧ (rem N c ids i).count ≤ m + ids.length
  | [], c, m, h => by simpa [rem] using h
  | x :: ids, c, m, h => by
    have h1 := one_bnd2 N x (-1) i (by omega)
    have := rem_bnd (N := N) (i := i) (ids := ids) (c := addC c (one N x (-1) i)) (m := m + 1) (by simp only [addC]; omega)
    simp only [List.length_cons]
    have e : rem N c (x :: ids) i = rem N (addC c (one N x (-1) i)) ids i := rfl
    rw [e]; omega
theorem tab_rem {N : Nat} {m : Int} {g : Nat → Cell} (T : Tb N m g) {l : List (List B)} (hl : ∀ x ∈ l, x.length = 32) : Tb N (m + l.length) fun i => rem N (g i) l i :=
  ⟨T.sz, fun i hi => rem_bnd (T.b i hi), fun i hi => rem_len hl (T.o i hi)⟩
set_option maxHeartbeats 16000000 in
theorem back_call (s : Sketch) (hs : okSk s) (hsl : s.l.length ≤ maxLen) : CallP Tryd.prog GS 8 [encSk s] [] (c := ⟨fun r _ => r = .bool true⟩) := by
  apply call_intro c8_eq r8_eq
  unfold c8 r8
  have hcs := closed_sk s
  simp
  refine pure_call alive_ok rfl ?_
  simp
  refine pure_call (small_ok s hs hsl) (by simp [closedL, hcs]) ?_
  cases hsm : smallB s with
  | false => simp
  | true =>
    obtain ⟨f, hf, T⟩ := Tb.of hsm hs
    obtain ⟨N, hN⟩ : ∃ N, N = s.l.length := ⟨_, rfl⟩
    rw [← hN] at hf T
    obtain ⟨h3, h48⟩ := T.size
    have hpe : peelE s = peelR 62 (tab N f) [] [] [] := by
      unfold peelE
      rw [if_pos (by rw [hf]; exact T.chk (by omega))]
      congr 1
      rw [hf, Sv.l_some]
    have hpk := peel_ok s hs (by omega)
    rw [peelC_eq] at hpk
    simp
    refine pure_call hpk (by simp [closedL, hcs]) ?_
    rcases peelR_spec 62 900000 f [] [] [] T (by omega) rfl (by simp) (by simp) (by simp) (by simp) with h | ⟨lf, rt, g, hR, G, hb, hnd, hln, h60⟩
    · rw [hpe, h]
      have z1 : lenM (.sl 32) (encIds none) = some (.int .i64 0) := rfl
      have z2 : lenM (.sl 34) (encSk none) = some (.int .i64 0) := rfl
      simp [pL, pR, pN, pE, z1, z2]
    · rw [hpe, hR]
      have hll : ∀ x ∈ lf, x.length = 32 := fun x hx => hln x (by simp [hx])
      have hrl : ∀ x ∈ rt, x.length = 32 := fun x hx => hln x (by simp [hx])
      have hnl := (List.nodup_append.1 hnd).1
      have hnr := (List.nodup_append.1 hnd).2.1
      have k1 := inc_ok (svB lf) (okSv hll) (by rw [lenSv]; omega)
      have k2 := inc_ok (svB rt) (okSv hrl) (by rw [lenSv]; omega)
      rw [svB_l, inc_sort hnl] at k1
      rw [svB_l, inc_sort hnr] at k2
      have hl1 : lenM (.sl 32) (encIds (svB lf)) = some (.int .i64 lf.length) := by have : lenM (.sl 32) (encIds (svB lf)) = some (.int .i64 (svB lf).l.length) := len_encS _; rw [this, lenSv]
      have hl2 : lenM (.sl 32) (encIds (svB rt)) = some (.int .i64 rt.length) := by have : lenM (.sl 32) (encIds (svB rt)) = some (.int .i64 (svB rt).l.length) := len_encS _; rw [this, lenSv]
      have hsum : IntKind.i64.wrap ((lf.length : Int) + (rt.length : Int)) = (lf.length + rt.length : Nat) := by rw [wrap_i64 (by omega) (by omega)]; omega
      have h60' : ¬ (60 : Int) < (lf.length : Int) + (rt.length : Int) := by omega
      simp [pL, pR, pN, pE]
      refine pure_call k1 (by simp [closedL, closed_ids]) ?_
      simp
      refine pure_call k2 (by simp [closedL, closed_ids]) ?_
      simp only [Bool.not_true]
      simp [hl1, hl2, hsum, h60']
      obtain ⟨L, hL⟩ : ∃ L, L = svB lf := ⟨_, rfl⟩
      obtain ⟨R, hRR⟩ : ∃ R, R = svB rt := ⟨_, rfl⟩
      have hLl : L.l.length = lf.length := by rw [hL, lenSv]
      have hRl : R.l.length = rt.length := by rw [hRR, lenSv]
      have hLo : okIds L := by rw [hL]; exact okSv hll
      have hRo : okIds R := by rw [hRR]; exact okSv hrl
      rw [← hL] at hl1 ⊢
      rw [← hRR] at hl2 ⊢
      refine loop_up lf.length (fun k σ l => σ 0 = encSk s ∧ σ 3 = .bool true ∧ σ 4 = encIds L ∧ σ 5 = encIds R ∧ σ 6 = encSk (some (tab N fun i => acc N (g i) (L.l.take k) i)) ∧ σ 8 = .int .i64 k) ?_ (by simp [acc])
      rintro k σ l hk ⟨g0, g3, g4, g5, g6, g8⟩
      obtain ⟨σ, rfl⟩ := upds6 g0 g3 g4 g5 g6 g8
      clear g0 g3 g4 g5 g6 g8
      unfold l8_0
      by_cases h : k < lf.length
      · obtain ⟨x, hx, hxm⟩ := get_of (l := L.l) (k := k) (by omega)
        have hwk : IntKind.i64.wrap ((k : Int) + 1) = (k + 1 : Nat) := wrap_i64 (by omega) (by omega)
        have hxl := hLo x hxm
        have hia : iaC (.sl 32) (encIds L) (.int .i64 k) = some (.rptr (eId x) 0) := by unfold encIds; rw [ia_encS]; simp [hx]
        have hTk := tab_acc G (l := L.l.take k) (fun y hy => hLo y (List.mem_of_mem_take hy))
        obtain ⟨e1, _⟩ := hTk.put (by simp; omega) hxl (by_ := 1) (by omega)
        have c1 := add_ok _ x hTk.ok (by rw [Sv.l_some, tab_len]; omega) hxl
        rw [e1] at c1
        unfold idC at c1
        have hc1 : closedL (x.map e8) = true := closedL_map e8 (fun _ => rfl) _
        have hnext : (fun i => acc N (g i) (L.l.take (k + 1)) i) = fun i => addC (acc N (g i) (L.l.take k) i) (one N x 1 i) := by
          funext i; rw [List.take_add_one, hx]; simp only [Option.toList_some]; rw [acc_snoc]
        simp [hl1, h, hia, eId, hxl, List.take_of_length_le]
        refine pure_call c1 (by simp [closedL, CV.closed, closed_sk, hc1]) ?_
        simp [h, hwk, hnext]
      · have hk' : k = lf.length := by omega
        subst hk'
        simp [hl1]
        have hfull : L.l.take lf.length = L.l := List.take_of_length_le (by omega)
        have hTa := tab_acc G (l := L.l) hLo
        refine loop_up rt.length (fun k σ l => σ 0 = encSk s ∧ σ 3 = .bool true ∧ σ 5 = encIds R ∧ σ 6 = encSk (some (tab N fun i => rem N (acc N (g i) L.l i) (R.l.take k) i)) ∧ σ 11 = .int .i64 k) ?_ (by simp [rem, hfull])
        rintro k σ l hk ⟨g0, g3, g5, g6, g11⟩
        obtain ⟨σ, rfl⟩ := upds5 g0 g3 g5 g6 g11
        clear g0 g3 g5 g6 g11
        unfold l8_1
        by_cases h : k < rt.length
        · obtain ⟨x, hx, hxm⟩ := get_of (l := R.l) (k := k) (by omega)
          have hwk : IntKind.i64.wrap ((k : Int) + 1) = (k + 1 : Nat) := wrap_i64 (by omega) (by omega)
          have hxl := hRo x hxm
          have hia : iaC (.sl 32) (encIds R) (.int .i64 k) = some (.rptr (eId x) 0) := by unfold encIds; rw [ia_encS]; simp [hx]
          have hTk := tab_rem hTa (l := R.l.take k) (fun y hy => hRo y (List.mem_of_mem_take hy))
          obtain ⟨e1, _⟩ := hTk.put (by simp; omega) hxl (by_ := -1) (by omega)
          have c1 := remove_ok _ x hTk.ok (by rw [Sv.l_some, tab_len]; omega) hxl
          rw [e1] at c1
          unfold idC at c1
          have hc1 : closedL (x.map e8) = true := closedL_map e8 (fun _ => rfl) _
          have hnext : (fun i => rem N (acc N (g i) L.l i) (R.l.take (k + 1)) i) = fun i => addC (rem N (acc N (g i) L.l i) (R.l.take k) i) (one N x (-1) i) := by
            funext i; rw [List.take_add_one, hx]; simp only [Option.toList_some]; rw [rem_snoc]
          simp [hl2, h, hia, eId, hxl, List.take_of_length_le]
          refine pure_call c1 (by simp [closedL, CV.closed, closed_sk, hc1]) ?_
          simp [h, hwk, hnext]
        · have hk' : k = rt.length := by omega
          subst hk'
          have hfull2 : R.l.take rt.length = R.l := List.take_of_length_le (by omega)
          have hback : tab N (fun i => rem N (acc N (g i) L.l i) R.l i) = tab N f := tab_ext fun i hi => by
            have h1 := hb i hi
            unfold both at h1
            rw [hL, hRR, svB_l, svB_l, acc_perm (sortB_perm lf), rem_perm (sortB_perm rt), h1]
            rfl
          have hsm2 := same_ok s s hs hs (by omega)
          simp only [decide_true] at hsm2
          simp [hl2, hfull2, hback, ← hf]
          refine pure_call hsm2 (by simp [closedL, hcs]) ?_
          simp
end Sk
end Go.CM
