/-
  The canonical machine: slices.SortFunc on a row of one's own.
-/
import Derived.Test.YtcoanbhfelfigaaGreatDoorEf
namespace Go.CM
open Go Go.Proofs Go.Shelf Go.Sort Go.RowKit
set_option linter.unusedVariables false
set_option linter.unusedSimpArgs false
def SortL (P : Program) (f g : FuncId) (k : Nat) {X : Type} [Inhabited X] (encV : X → List Value) (cf : X → X → Int) : Prop :=
  ∀ (blk off cap : Nat) (d : Array X) (w : World), CmpLays P g #[] encV k cf blk off d.size w → HoldsK encV k w blk off d → blk < w.heap.size → d.size < 4611686018427387904 →
    Calls P f #[.slice (some ⟨blk, off, none⟩) d.size cap, .func (.func g) #[] #[]] w fun e w' => e = .returned (.tuple #[]) ∧ ∃ d' n os, PermIn 0 d.size d d' ∧ SortedIn (ltOf cf) 0 d.size d' ∧ w' = sortWorldK encV k w blk off n d' os
def sorted {X : Type} (cf : X → X → Int) (xs : List X) : List X := xs.mergeSort fun x y => !ltOf cf y x
theorem sorted_length {X : Type} (cf : X → X → Int) (xs : List X) : (sorted cf xs).length = xs.length := List.length_mergeSort _
section
variable {P : Program} {G : Nat → CV} {X : Type} {enc : X → List CV} {k : Nat}
theorem row_get (hk : ∀ x, (enc x).length = k) (xs : List X) {j : Nat} (hj : j < xs.length * k) : ∃ x c, xs[j / k]? = some x ∧ (enc x)[j % k]? = some c ∧ ((xs.map enc).flatten)[j]? = some c := by
  have hk0 : 0 < k := Nat.pos_of_ne_zero fun h => by subst h; simp at hj
  have h1 : j / k < xs.length := Nat.div_lt_of_lt_mul (by rw [Nat.mul_comm]; exact hj)
  have h2 : j % k < k := Nat.mod_lt _ hk0
  refine ⟨xs[j / k], (enc xs[j / k])[j % k]'(by rw [hk]; exact h2), List.getElem?_eq_getElem h1, List.getElem?_eq_getElem _, ?_⟩
  have h3 : (xs.map enc)[j / k]? = some (enc xs[j / k]) := by rw [List.getElem?_map, List.getElem?_eq_getElem h1]; rfl
  have h4 := flat_get (z := k) (fun e he => by obtain ⟨x, _, rfl⟩ := List.mem_map.1 he; exact hk x) h3 h2
  rw [Nat.mul_comm, Nat.div_add_mod] at h4
  rw [h4]
  exact List.getElem?_eq_getElem _
theorem flatK_row [Inhabited X] (hk : ∀ x, (enc x).length = k) (xs : List X) {j : Nat} (hj : j < xs.length * k) {c : CV} (hc : ((xs.map enc).flatten)[j]? = some c) : (flatK (fun x => (enc x).map valOf) k xs.toArray)[j]! = valOf c := by
  obtain ⟨x, c', h1, h2, h3⟩ := row_get hk xs hj
  rw [h3] at hc; cases hc
  rw [get_flatK _ _ _ _ (by simpa using hj)]
  have h4 : xs.toArray[j / k]! = x := by
    have hlt := (List.getElem?_eq_some_iff.1 h1).1
    rw [getElem!_pos _ _ (by simpa using hlt)]
    simpa using (List.getElem?_eq_some_iff.1 h1).2
  rw [h4]
  obtain ⟨h5, h6⟩ := List.getElem?_eq_some_iff.1 h2
  rw [getElem!_pos _ _ (by simpa using h5)]
  simp [h6]
theorem sort_callS [Inhabited X] {f g b off len cap sz : Nat} {cs : List CV} {xs : List X} {h : Hp} (cf : X → X → Int) (hL : SortL P f g k (fun x => (enc x).map valOf) cf) (hO : SWO (ltOf cf)) (hanti : ∀ x y, ltOf cf x y = false → ltOf cf y x = false → x = y)
    (hk : ∀ x, (enc x).length = k) (hp : ∀ x, ∀ c ∈ enc x, plainC c = true) (hcmp : ∀ x y, PureC P G g [.ag (enc x), .ag (enc y)] (.int .i64 (cf x y)))
    (hb : h.f b = .cells sz cs) (hlen : xs.length = len) (h1 : 0 < len) (h62 : len < 4611686018427387904) (hcs : (cs.drop off).take (len * k) = (xs.map enc).flatten) (hin : off + len * k ≤ sz) :
    CallS P G f [.sl k b off len cap sz, .fn g [] []] h (.tu []) (h.set b (.cells sz (splice cs off ((sorted cf xs).map enc).flatten))) := by
  intro R B w μ vs rel gok hl hv
  obtain ⟨vl⟩ := vs
  match vl, hl with
  | [v0, v1], _ =>
  have hv0 := hv 0 _ v0 rfl rfl
  have hv1 := hv 1 _ v1 rfl rfl
  have hsz0 : ¬ Gone h b sz := by
    rintro (h0 | ⟨n, cs0, h0, h2⟩)
    · rw [hb] at h0; cases h0
    · rw [hb] at h0; cases h0; omega
  cases hv1 with
  | fn _ _ _ fs cv hf hc _ _ =>
  have hfs : fs = #[] := Array.eq_empty_of_size_eq_zero hf
  have hcv : cv = #[] := Array.eq_empty_of_size_eq_zero hc
  subst hfs hcv
  cases hv0 with
  | slGone _ _ _ _ _ _ _ _ _ _ hg => exact absurd hg hsz0
  | slEnd => omega
  | sl _ _ _ _ _ _ cap' cs0 m hb0 hm hlc ho hcc =>
  rw [hb] at hb0; cases hb0
  have hblk := rel.blk b m hm
  rw [hb] at hblk
  obtain ⟨hcl, hfit, arr, e, fz, hr, hT, hfz, hcells⟩ := hblk
  have hlive : live (h.f b) = true := by rw [hb]; rfl
  have hown : Own h μ m.r := ⟨b, m, hlive, hm, rfl⟩
  have hmr := rel.lt hlive hm
  have hkk : ∀ j, j < len * k → ∃ c, ((xs.map enc).flatten)[j]? = some c ∧ cs[off + j]? = some c ∧ plainC c = true := by
    intro j hj
    obtain ⟨x, c, g1, g2, g3⟩ := row_get hk xs (by rw [hlen]; exact hj)
    refine ⟨c, g3, ?_, hp x c (List.mem_of_getElem? g2)⟩
    rw [← hcs, List.getElem?_take_of_lt hj, List.getElem?_drop] at g3
    exact g3
  have hH : HoldsK (fun x => (enc x).map valOf) k w m.r (m.s + off) xs.toArray := by
    intro j hj
    rw [size_flatK] at hj
    have hj' : j < len * k := by simpa [hlen] using hj
    obtain ⟨c, g1, g2, g3⟩ := hkk j hj'
    obtain ⟨v, g4, g5, g6⟩ := hcells (off + j) c g2
    have hlt : m.s + off + j < arr.size := by
      have := (Array.getElem?_eq_some_iff.1 g4).1
      omega
    constructor
    · simp only [World.cell?, hr, Option.isSome_none]
      rw [flatK_row hk xs (by rw [hlen]; exact hj') g1, ← vr_plain g3 g6, Nat.add_assoc]
      exact g4
    · simp only [World.frozen?, hr]
      rcases hfz with h0 | h0
      · subst h0; simp
      · simp; intro h3; omega
  have hcl2 : CmpLays P g #[] (fun x => (enc x).map valOf) k cf m.r (m.s + off) xs.toArray.size w := by
    intro n os dk hdk x y
    obtain ⟨W, hW⟩ : ∃ W, W = sortWorldK (fun x => (enc x).map valOf) k w m.r (m.s + off) n dk os := ⟨_, rfl⟩
    have hWh : ∀ i, i ≠ m.r → i < w.heap.size → W.heap[i]? = w.heap[i]? := by
      intro i hi hlt
      rw [hW]
      show (((w.heap.modify m.r _) ++ os))[i]? = _
      rw [Array.getElem?_append_left (by simpa using hlt), Array.getElem?_modify, if_neg (fun h => hi h.symm)]
    rw [← hW]
    have hA : ∀ i, (R i ∧ ¬ Own h μ i) → i < w.heap.size → W.heap[i]? = w.heap[i]? := fun i hi hlt => hWh i (fun he => hi.2 (by rw [he]; exact hown)) hlt
    have key := hcmp x y W (fun i => R i ∧ ¬ Own h μ i) #[.agg ((enc x).map valOf).toArray, .agg ((enc y).map valOf).toArray] (fun gi => vr0_world hA (closed_vr (gok gi).2 (gok gi).1)) rfl (fun j c v hj hjv => by
      have one : ∀ z : X, VR0 W (fun i => R i ∧ ¬ Own h μ i) (.ag (enc z)) (.agg ((enc z).map valOf).toArray) := fun z => by
        refine .ag _ _ (by simp) (fun i v hi => ?_) (fun i c v hi hiv => ?_)
        · simp only [List.getElem?_toArray, List.getElem?_map, Option.map_eq_some_iff] at hi
          obtain ⟨c, _, rfl⟩ := hi
          exact valOf_one c
        · simp only [List.getElem?_toArray, List.getElem?_map, Option.map_eq_some_iff] at hiv
          obtain ⟨c', h3, rfl⟩ := hiv
          rw [hi] at h3; cases h3
          exact plain_vr (hp z c (List.mem_of_getElem? hi))
      match j with
      | 0 => simp at hj hjv; subst hj hjv; exact one x
      | 1 => simp at hj hjv; subst hj hjv; exact one y
      | j + 2 => simp at hj)
    refine key.mono ?_
    rintro e w' ⟨v, rfl, hbl, hr2⟩
    obtain ⟨q, os', rfl⟩ := blw_grow hbl
    cases hr2
    exact ⟨rfl, q, os', rfl⟩
  have hcall := hL m.r (m.s + off) cap' xs.toArray w hcl2 hH hmr (by simpa [hlen] using h62)
  have hsize : ((xs.toArray.size : Nat) : Int) = (len : Int) := by simp [hlen]
  rw [show (xs.toArray.size) = len by simp [hlen]] at hcall
  refine hcall.mono ?_
  rintro e' w' ⟨rfl, d', n, os, hP, hS, rfl⟩
  have hd' : d'.toList = sorted cf xs := by
    have := sorted_unique_holds hO hanti xs.toArray d' (by simpa [hlen] using hP) (by simpa [hlen] using hS)
    simpa [sorted] using this
  obtain ⟨ys, hys⟩ : ∃ ys, ys = sorted cf xs := ⟨_, rfl⟩
  rw [← hys] at hd' ⊢
  have hyl : ys.length = len := by rw [hys, sorted_length, hlen]
  have hda : d' = ys.toArray := by rw [← hd']
  subst hda
  have hfl : ((ys.map enc).flatten).length = len * k := by
    have : ∀ l : List X, ((l.map enc).flatten).length = l.length * k := fun l => by
      induction l with
      | nil => simp
      | cons a l ih => simp only [List.map_cons, List.flatten_cons, List.length_append, ih, hk, List.length_cons]; rw [Nat.succ_mul]; omega
    rw [this, hyl]
  obtain ⟨w1, hw1⟩ : ∃ w1, w1 = putRowK (fun x => (enc x).map valOf) k (Sort.ahead w n) m.r (m.s + off) ys.toArray := ⟨_, rfl⟩
  have hheap : w1.heap = w.heap.modify m.r (onCells (putCells id (m.s + off) (flatK (fun x => (enc x).map valOf) k ys.toArray))) := by rw [hw1]; rfl
  have hcsl : off ≤ cs.length := by omega
  obtain ⟨ex, rel1⟩ := rel.write (w' := w1) (sz' := sz) (cs' := splice cs off ((ys.map enc).flatten)) (arr' := putCells id (m.s + off) (flatK (fun x => (enc x).map valOf) k ys.toArray) arr) hb hm hr hT hfz (by rw [hw1]; rfl) (by rw [hw1]; rfl) (by rw [hw1]; rfl) (by rw [hheap]; simp)
    (by rw [hheap, Array.getElem?_modify, if_pos rfl, hr]; rfl) (fun i hi => by rw [hheap, Array.getElem?_modify, if_neg (fun h => hi h.symm)]) (by simp [putCells])
    (by rw [splice_length hcsl, hfl]; omega) (Nat.le_refl _) hfit (fun j c hj => by
      rw [splice_get hcsl, hfl] at hj
      have hget : (putCells id (m.s + off) (flatK (fun x => (enc x).map valOf) k ys.toArray) arr)[m.s + j]? = (arr[m.s + j]?).map fun x => if m.s + off ≤ m.s + j ∧ m.s + j < m.s + off + (flatK (fun x => (enc x).map valOf) k ys.toArray).size then (flatK (fun x => (enc x).map valOf) k ys.toArray)[m.s + j - (m.s + off)]! else x := by
        unfold putCells; rw [Array.getElem?_mapIdx]; rfl
      rw [size_flatK] at hget
      by_cases hj1 : j < off
      · rw [if_pos hj1] at hj
        obtain ⟨v, g4, g5, g6⟩ := hcells j c hj
        refine ⟨v, ?_, g5, g6⟩
        rw [hget, g4, Option.map_some, if_neg (by omega)]
      · rw [if_neg hj1] at hj
        by_cases hj2 : j < off + len * k
        · rw [if_pos hj2] at hj
          have hjl : j - off < len * k := by omega
          obtain ⟨c0, g1, g2, g3⟩ := hkk (j - off) hjl
          rw [show off + (j - off) = j by omega] at g2
          obtain ⟨v, g4, g5, g6⟩ := hcells j c0 g2
          obtain ⟨x, c1, e1, e2, e3⟩ := row_get hk ys (j := j - off) (by rw [hyl]; exact hjl)
          rw [e3] at hj; cases hj
          refine ⟨valOf c, ?_, valOf_one c, plain_vr (hp x c (List.mem_of_getElem? e2))⟩
          rw [hget, g4, Option.map_some, if_pos (by simp [hyl]; omega), show m.s + j - (m.s + off) = j - off by omega, flatK_row hk ys (by rw [hyl]; exact hjl) e3]
        · rw [if_neg hj2] at hj
          obtain ⟨v, g4, g5, g6⟩ := hcells j c hj
          refine ⟨v, ?_, g5, g6⟩
          rw [hget, g4, Option.map_some, if_neg (by simp [hyl]; omega)]) (by rw [hw1]; exact Nat.le_add_right _ _)
  have hbel : Blw w1 (grow w1 os) := ⟨⟨rfl, rfl, rfl, by simp [grow], fun i hi => by simp only [grow]; rw [Array.getElem?_append_left hi]⟩, Nat.le_refl _⟩
  obtain ⟨ex2, rel2⟩ := rel_below rel1 hbel
  refine ⟨_, μ, rfl, ?_, ?_, .tu [] #[] rfl (fun j c v hj _ => by simp at hj)⟩
  · rw [hw1] at ex ex2; exact ex.trans ex2
  · rw [hw1] at rel2; exact rel2
end
end Go.CM

/-
  The canonical machine: slices.SortFunc on a queue of one's own, as a walk meets it.
-/
namespace Go.CM
open Go Go.Proofs Go.Shelf Go.Sort Go.RowKit
set_option linter.unusedVariables false
set_option linter.unusedSimpArgs false
section
variable {P : Program} {G : Nat → CV} {X : Type} {enc : X → List CV} {k : Nat}
theorem rows_flat_len {k : Nat} : ∀ {es : List (List CV)}, (∀ e ∈ es, e.length = k) → es.flatten.length = es.length * k
  | [], _ => by simp
  | e :: es, h => by
    rw [List.flatten_cons, List.length_append, h e (by simp), rows_flat_len (fun x hx => h x (by simp [hx])), List.length_cons, Nat.succ_mul]; omega
theorem sortQ [Inhabited X] {f g : Nat} (cf : X → X → Int) (hL : SortL P f g k (fun x => (enc x).map valOf) cf) (hO : SWO (ltOf cf)) (hanti : ∀ x y, ltOf cf x y = false → ltOf cf y x = false → x = y)
    (hk : ∀ x, (enc x).length = k) (hp : ∀ x, ∀ c ∈ enc x, plainC c = true) (hcmp : ∀ x y, PureC P G g [.ag (enc x), .ag (enc y)] (.int .i64 (cf x y)))
    {l : Hl} {v : CV} {j : Nat} {xs : List X} (hown : OwnQ k l v j (xs.map enc)) (h62 : xs.length < 4611686018427387904) {K : CV → Hl → Prop}
    (h0 : xs = [] → CallP P G f [v, .fn g [] []] l (c := ⟨K⟩))
    (hK : ∀ l', l'.length = l.length → (∀ b, b ≠ j → l'[b]? = l[b]?) → OwnQ k l' v j ((sorted cf xs).map enc) → K (.tu []) l') : CallP P G f [v, .fn g [] []] l (c := ⟨K⟩) := by
  cases xs with
  | nil => exact h0 rfl
  | cons x xs =>
  obtain ⟨ys, hys⟩ : ∃ ys, ys = x :: xs := ⟨_, rfl⟩
  rw [← hys] at hown h62 hK
  have hpos : 0 < ys.length := by rw [hys]; simp
  generalize hes : ys.map enc = es at hown
  cases hown with
  | nil j => rw [List.map_eq_nil_iff] at hes; rw [hes] at hpos; simp at hpos
  | sl j off n cap sz cs es hb hl hn hz hc hcap hcs =>
  subst hes
  have hn' : ys.length = n := by simpa using hn
  have hle : n * k ≤ cap * k := Nat.mul_le_mul_right _ hc
  have hjl : j < l.length := (List.getElem?_eq_some_iff.1 hb).1
  have hs := sort_callS (P := P) (G := G) (cap := cap) cf hL hO hanti hk hp hcmp (h := HL l) (HL_cells.2 hb) hn' (by omega) (by omega) hcs (by omega)
  rw [HL_set _ hjl] at hs
  refine ⟨_, _, .ext hs, by simp, ?_⟩
  have hsl : ((sorted cf ys).map enc).length = n := by rw [List.length_map, sorted_length, hn']
  have hrow : ∀ e ∈ (sorted cf ys).map enc, e.length = k := fun e he => by obtain ⟨x, _, rfl⟩ := List.mem_map.1 he; exact hk x
  have hfl : (((sorted cf ys).map enc).flatten).length = n * k := by rw [rows_flat_len hrow, hsl]
  have hcsl : off ≤ cs.length := by omega
  refine hK _ (by simp) (fun b hbj => by rw [List.getElem?_set_ne (fun h => hbj h.symm)]) ?_
  refine .sl j off n cap sz _ _ (List.getElem?_set_self hjl) (by rw [splice_length hcsl, hfl]; omega) hsl hrow hc hcap ?_
  unfold splice
  have h1 : (List.take off cs).length = off := by rw [List.length_take]; omega
  rw [List.append_assoc, List.drop_append_of_le_length (by omega), List.drop_of_length_le (by omega), List.nil_append, List.take_append_of_le_length (by omega), List.take_of_length_le (by omega)]
end
end Go.CM

/-
  The canonical machine: appending to a slice of one's own, with a frame for nil; a set's frames.
-/
namespace Go.CM
open Go
set_option linter.unusedVariables false
set_option linter.unusedSimpArgs false
section
variable {P : Program} {l : Hl} {ρ : Operand → CV}
@[simp ↓] theorem m_mkM0 : mstep P ρ l (.mkM none) = some (.mp l.length, l ++ [.map [] 0]) := id rfl
@[simp ↓] theorem m_lkp (kt : TypeId) (zero : CV) (ok : Bool) (m k : Operand) : mstep P ρ l (.lkp kt zero ok m k) = pu l (lookupL P l kt zero ok (ρ m) (ρ k)) := id rfl
@[simp ↓] theorem m_mup (kt : TypeId) (m k x : Operand) : mstep P ρ l (.mup kt m k x) = (mapUpdL P l kt (ρ m) (ρ k) (ρ x)).map fun l' => (undefC, l') := id rfl
@[simp ↓] theorem m_lenMp (x : Operand) : mstep P ρ l (.lenMp x) = pu l (lenMapL l (ρ x)) := id rfl
@[simp ↓] theorem m_rngS (x : Operand) : mstep P ρ l (.rngS x) = rangeL l (ρ x) := id rfl
@[simp ↓] theorem m_nxtS (x : Operand) : mstep P ρ l (.nxtS x) = nextL l (ρ x) := id rfl
@[simp ↓] theorem keep_mkM (x : Option Operand) (v : CV) (K : CV → Hl → Prop) : keepK (.mkM x) v l K = K v l := id rfl
@[simp ↓] theorem keep_lkp (kt : TypeId) (zero : CV) (ok : Bool) (m k : Operand) (v : CV) (K : CV → Hl → Prop) : keepK (.lkp kt zero ok m k) v l K = K v l := id rfl
@[simp ↓] theorem keep_mup (kt : TypeId) (m k x : Operand) (v : CV) (K : CV → Hl → Prop) : keepK (.mup kt m k x) v l K = K v l := id rfl
@[simp ↓] theorem keep_lenMp (x : Operand) (v : CV) (K : CV → Hl → Prop) : keepK (.lenMp x) v l K = K v l := id rfl
@[simp ↓] theorem keep_rngS (x : Operand) (v : CV) (K : CV → Hl → Prop) : keepK (.rngS x) v l K = K v l := id rfl
@[simp ↓] theorem keep_nxtS (x : Operand) (v : CV) (K : CV → Hl → Prop) : keepK (.nxtS x) v l K = K v l := id rfl
end
section
variable {z : Nat} {l l' : Hl} {v : CV} {j : Nat} {es : List (List CV)}
theorem appS (h : OwnS z l v j es) {by_ : Nat} {x : CV} {xs : List (List CV)} (hx : contentsL l z x = some (xs.flatten, xs.length)) (hzx : ∀ e ∈ xs, e.length = z) (h0 : z ≠ 0) (hby : by_ ≠ 0) (hroom : (es.length + xs.length) * by_ ≤ roomMax) :
    ∃ v' j' l', appM l z by_ v x = some (v', l') ∧ OwnS z l' v' j' (es ++ xs) ∧ l.length ≤ l'.length ∧ (∀ b, b < l.length → v = .nilS ∨ b ≠ j → l'[b]? = l[b]?) ∧ (l.length ≤ j' ∨ (v ≠ .nilS ∧ j' = j) ∨ v' = .nilS) ∧ isNilS v' = (isNilS v && xs.isEmpty) := by
  by_cases hv : v = .nilS
  · subst hv
    have he : es = [] := h.q.nil_of
    subst he
    obtain ⟨v', j', l1, h1, h2, h3, h4, h5, h6⟩ := app_law (.nil (z := z) (l := l) (l.length + 1)) hx hzx h0 hby hroom
    refine ⟨v', j', l1, h1, h2, h3, fun b hb _ => h4 b hb (by omega), ?_, isNil_app h6⟩
    rcases h5 with h5 | h5
    · exact .inl (by omega)
    · exact .inl h5
  · obtain ⟨v', j', l1, h1, h2, h3, h4, h5, h6⟩ := app_law h hx hzx h0 hby hroom
    refine ⟨v', j', l1, h1, h2, h3, fun b hb hn => h4 b hb (hn.resolve_left hv), ?_, isNil_app h6⟩
    rcases h5 with h5 | h5
    · exact .inr (.inl ⟨hv, h5⟩)
    · exact .inl h5
theorem OwnS.keep (h : OwnS z l v j es) (hf : ∀ b, b < l.length → b = j → l'[b]? = l[b]?) : OwnS z l' v j es := h.frame fun hj => hf j hj rfl
end
end Go.CM

/-
  Equality of plain values: rows of numbers, strings and truths are equal just when all cells are.
-/
namespace Go.CM
open Go
set_option linter.unusedVariables false
set_option linter.unusedSimpArgs false
inductive Tk where
  | b
  | i (k : IntKind)
  | s
def tkOk : Tk → CV → Bool
  | .b, .bool _ => true
  | .i k, .int k' _ => decide (k = k')
  | .s, .str _ => true
  | _, _ => false
def okK : List Tk → List CV → Bool
  | [], [] => true
  | k :: ks, c :: cs => tkOk k c && okK ks cs
  | _, _ => false
theorem okK_len : ∀ {ks : List Tk} {cs : List CV}, okK ks cs = true → cs.length = ks.length
  | [], [], _ => rfl
  | [], _ :: _, h => by cases h
  | _ :: _, [], h => by cases h
  | k :: ks, c :: cs, h => by simp only [okK, Bool.and_eq_true] at h; simp [okK_len h.2]
theorem okK_split : ∀ {l r : List Tk} {m : List CV}, okK (l ++ r) m = true → ∃ m1 m2, m = m1 ++ m2 ∧ okK l m1 = true ∧ okK r m2 = true
  | [], r, m, h => ⟨[], m, rfl, rfl, h⟩
  | k :: l, r, [], h => by cases h
  | k :: l, r, c :: m, h => by
    simp only [List.cons_append, okK, Bool.and_eq_true] at h
    obtain ⟨m1, m2, rfl, h1, h2⟩ := okK_split h.2
    exact ⟨c :: m1, m2, rfl, by simp [okK, h.1, h1], h2⟩
theorem one_int {k : IntKind} {xs : List CV} (h : okK [.i k] xs = true) : ∃ p, xs = [.int k p] := by
  cases xs with
  | nil => cases h
  | cons c r =>
    simp only [okK, Bool.and_eq_true] at h
    cases r with
    | cons _ _ => cases h.2
    | nil =>
      cases c <;> simp only [tkOk] at h <;> try (cases h.1; done)
      rename_i k' p
      have hk : k = k' := by simpa using h.1
      subst hk
      exact ⟨p, rfl⟩
theorem beqL_app : ∀ {x1 y1 x2 y2 : List CV}, x1.length = y1.length → beqL (x1 ++ x2) (y1 ++ y2) = (beqL x1 y1 && beqL x2 y2)
  | [], [], _, _, _ => by simp [beqL]
  | [], _ :: _, _, _, h => by simp at h
  | _ :: _, [], _, _, h => by simp at h
  | a :: x1, b :: y1, x2, y2, h => by
    simp only [List.length_cons, Nat.add_right_cancel_iff] at h
    simp only [List.cons_append, beqL, beqL_app h, Bool.and_assoc]
section
variable (P : Program)
def kindsFs (f : TypeId → Option (List Tk)) : List Field → Nat → Option (List Tk)
  | [], _ => some []
  | fd :: fs, o => match f fd.type, sizeT P fd.type with
    | some l, some z => match fd.name != "_" && Nat.beq fd.offset o && Nat.beq l.length z with
      | true => match kindsFs f fs (o + z) with
        | some r => some (l ++ r)
        | none => none
      | false => none
    | _, _ => none
def kindsT : Nat → TypeId → Option (List Tk)
  | 0, _ => none
  | d + 1, t => match P.underlying t with
    | some .bool => some [.b]
    | some (.int k) => some [.i k]
    | some .string => some [.s]
    | some (.array n e) => match kindsT d e, sizeT P e with
      | some l, some z => match Nat.beq l.length z with
        | true => some (List.replicate n l).flatten
        | false => none
      | _, _ => none
    | some (.struct fs) => match P.stoodInHeld t with
      | false => kindsFs P (kindsT d) fs.toList 0
      | true => none
    | _ => none
def asT (t : TypeId) (l : List CV) : Option CV := match aggT P t with
  | some true => some (.ag l)
  | some false => l[0]?
  | none => none
end
variable {P : Program}
theorem part_at {t : TypeId} {z : Nat} (hz : sizeT P t = some z) {pre mid post : List CV} (hm : mid.length = z) (hg : aggT P t = some false → mid.length = 1) : partC P t (pre ++ (mid ++ post)) pre.length = asT P t mid := by
  unfold partC asT
  rw [hz]
  cases ha : aggT P t with
  | none => rfl
  | some g =>
    cases g with
    | true =>
      simp only
      rw [if_pos (by simp; omega), List.drop_left, List.take_append_of_le_length (by omega), List.take_of_length_le (by omega)]
    | false =>
      have := hg ha
      simp only
      rw [List.getElem?_append_right (by omega), Nat.sub_self, List.getElem?_append_left (by omega)]
def EqAt (P : Program) (f : TypeId → Option (List Tk)) (eq : TypeId → CV → CV → Option Bool) : Prop :=
  ∀ t ks, f t = some ks → (aggT P t = some false → ks.length = 1) ∧ ∀ xs ys, okK ks xs = true → okK ks ys = true → ∃ a b, asT P t xs = some a ∧ asT P t ys = some b ∧ eq t a b = some (beqL xs ys)
theorem eqFields_plain {f : TypeId → Option (List Tk)} {eq : TypeId → CV → CV → Option Bool} (he : EqAt P f eq) : ∀ (fs : List Field) (o : Nat) (ks : List Tk), kindsFs P f fs o = some ks → ∀ (px py mx my : List CV), px.length = o → py.length = o → okK ks mx = true → okK ks my = true →
    eqT.eqFields P eq (px ++ mx) (py ++ my) fs = some (beqL mx my)
  | [], o, ks, h, px, py, mx, my, hx, hy, kx, ky => by
    cases h
    cases mx with
    | nil => cases my with | nil => rfl | cons _ _ => cases ky
    | cons _ _ => cases kx
  | fd :: fs, o, ks, h, px, py, mx, my, hx, hy, kx, ky => by
    unfold kindsFs at h
    split at h
    · rename_i l z hl hz
      split at h
      · rename_i hc
        simp only [Bool.and_eq_true, bne_iff_ne, ne_eq] at hc
        split at h
        · rename_i r hr
          cases h
          obtain ⟨x1, x2, rfl, a1, a2⟩ := okK_split kx
          obtain ⟨y1, y2, rfl, b1, b2⟩ := okK_split ky
          have ho : fd.offset = o := Nat.eq_of_beq_eq_true hc.1.2
          have hlz : l.length = z := Nat.eq_of_beq_eq_true hc.2
          obtain ⟨g1, g2⟩ := he _ _ hl
          obtain ⟨a, b, ea, eb, eab⟩ := g2 x1 y1 a1 b1
          have lx := okK_len a1
          have ly := okK_len b1
          unfold eqT.eqFields
          rw [if_neg hc.1.1, ho]
          rw [show partC P fd.type (px ++ (x1 ++ x2)) o = some a by rw [← hx, part_at hz (by omega) (fun h => by rw [lx]; exact g1 h)]; exact ea]
          rw [show partC P fd.type (py ++ (y1 ++ y2)) o = some b by rw [← hy, part_at hz (by omega) (fun h => by rw [ly]; exact g1 h)]; exact eb]
          simp only [eab]
          rw [beqL_app (by omega)]
          have ih := eqFields_plain he fs (o + z) r hr (px ++ x1) (py ++ y1) x2 y2 (by simp; omega) (by simp; omega) a2 b2
          rw [List.append_assoc, List.append_assoc] at ih
          cases beqL x1 y1 with
          | true => simpa using ih
          | false => simp
        · cases h
      · cases h
    · cases h
theorem eqElems_plain {eq : TypeId → CV → CV → Option Bool} {e : TypeId} {l : List Tk} {z : Nat} (hz : sizeT P e = some z) (hlz : l.length = z) (hg : aggT P e = some false → l.length = 1)
    (he : ∀ xs ys, okK l xs = true → okK l ys = true → ∃ a b, asT P e xs = some a ∧ asT P e ys = some b ∧ eq e a b = some (beqL xs ys)) : ∀ (n i : Nat) (px py mx my : List CV), px.length = i * z → py.length = i * z → okK (List.replicate n l).flatten mx = true → okK (List.replicate n l).flatten my = true →
    eqT.eqElems P eq e z (px ++ mx) (py ++ my) n i = some (beqL mx my)
  | 0, i, px, py, mx, my, hx, hy, kx, ky => by
    simp only [List.replicate_zero, List.flatten_nil] at kx ky
    cases mx with
    | nil => cases my with | nil => rfl | cons _ _ => cases ky
    | cons _ _ => cases kx
  | n + 1, i, px, py, mx, my, hx, hy, kx, ky => by
    rw [List.replicate_succ, List.flatten_cons] at kx ky
    obtain ⟨x1, x2, rfl, a1, a2⟩ := okK_split kx
    obtain ⟨y1, y2, rfl, b1, b2⟩ := okK_split ky
    obtain ⟨a, b, ea, eb, eab⟩ := he x1 y1 a1 b1
    have lx := okK_len a1
    have ly := okK_len b1
    unfold eqT.eqElems
    rw [show partC P e (px ++ (x1 ++ x2)) (i * z) = some a by rw [← hx, part_at hz (by omega) (fun h => by rw [lx]; exact hg h)]; exact ea]
    rw [show partC P e (py ++ (y1 ++ y2)) (i * z) = some b by rw [← hy, part_at hz (by omega) (fun h => by rw [ly]; exact hg h)]; exact eb]
    simp only [eab]
    rw [beqL_app (by omega)]
    have ih := eqElems_plain hz hlz hg he n (i + 1) (px ++ x1) (py ++ y1) x2 y2 (by simp [Nat.succ_mul]; omega) (by simp [Nat.succ_mul]; omega) a2 b2
    rw [List.append_assoc, List.append_assoc] at ih
    cases beqL x1 y1 with
    | true => simpa using ih
    | false => simp
theorem eqT_plain : ∀ (d D : Nat), d ≤ D → EqAt P (kindsT P d) (eqT P D)
  | 0, D, _, t, ks, h => by cases h
  | d + 1, 0, hd, t, ks, h => by omega
  | d + 1, D + 1, hd, t, ks, h => by
    have ih := eqT_plain d D (by omega)
    unfold kindsT at h
    split at h
    · rename_i hu
      have ha : aggT P t = some false := by unfold aggT; rw [hu]; rfl
      cases h
      refine ⟨fun _ => rfl, fun xs ys hx hy => ?_⟩
      match xs, ys, hx, hy with
      | [.bool p], [.bool q], _, _ =>
        refine ⟨.bool p, .bool q, by simp [asT, ha], by simp [asT, ha], ?_⟩
        unfold eqT; rw [hu]
        cases p <;> cases q <;> rfl
    · rename_i k hu
      have ha : aggT P t = some false := by unfold aggT; rw [hu]; rfl
      cases h
      refine ⟨fun _ => rfl, fun xs ys hx hy => ?_⟩
      obtain ⟨p, rfl⟩ := one_int hx
      obtain ⟨q, rfl⟩ := one_int hy
      · refine ⟨.int k p, .int k q, by simp [asT, ha], by simp [asT, ha], ?_⟩
        unfold eqT; rw [hu]
        by_cases h : p = q <;> simp [beqL, CV.beq, h]
    · rename_i hu
      have ha : aggT P t = some false := by unfold aggT; rw [hu]; rfl
      cases h
      refine ⟨fun _ => rfl, fun xs ys hx hy => ?_⟩
      match xs, ys, hx, hy with
      | [.str p], [.str q], _, _ =>
        refine ⟨.str p, .str q, by simp [asT, ha], by simp [asT, ha], ?_⟩
        unfold eqT; rw [hu]
        by_cases h : p = q <;> simp [beqL, CV.beq, h]
    · rename_i n e hu
      have ha : aggT P t = some true := by unfold aggT; rw [hu]; rfl
      split at h
      · rename_i l z hl hz
        split at h
        · rename_i hlz
          cases h
          obtain ⟨g1, g2⟩ := ih _ _ hl
          refine ⟨fun h => (by rw [ha] at h; cases h), fun xs ys hx hy => ⟨.ag xs, .ag ys, by simp [asT, ha], by simp [asT, ha], ?_⟩⟩
          unfold eqT; rw [hu]
          simp only [hz]
          exact eqElems_plain hz (Nat.eq_of_beq_eq_true hlz) g1 g2 n 0 [] [] xs ys (by simp) (by simp) hx hy
        · cases h
      · cases h
    · rename_i fs hu
      have ha : aggT P t = some true := by unfold aggT; rw [hu]; rfl
      split at h
      · rename_i hs
        refine ⟨fun h => (by rw [ha] at h; cases h), fun xs ys hx hy => ⟨.ag xs, .ag ys, by simp [asT, ha], by simp [asT, ha], ?_⟩⟩
        unfold eqT; rw [hu]
        simp only [hs, Bool.false_eq_true, if_false]
        exact eqFields_plain ih fs.toList 0 ks h [] [] xs ys rfl rfl hx hy
      · cases h
    · cases h
theorem bin_plain_eql {t : TypeId} {ks : List Tk} (hk : kindsT P 20 t = some ks) (ha : aggT P t = some true) (hg : P.eqGuardType P.depth t = false) {xs ys : List CV} (hx : okK ks xs = true) (hy : okK ks ys = true) : binC P .eql t (.ag xs) (.ag ys) = some (.bool (beqL xs ys)) := by
  obtain ⟨a, b, ea, eb, eab⟩ := (eqT_plain (P := P) 20 10000 (by omega) t ks hk).2 xs ys hx hy
  simp only [asT, ha, Option.some.injEq] at ea eb
  subst ea; subst eb
  exact bin_eql_of hg eab
theorem bin_plain_neq {t : TypeId} {ks : List Tk} (hk : kindsT P 20 t = some ks) (ha : aggT P t = some true) (hg : P.eqGuardType P.depth t = false) {xs ys : List CV} (hx : okK ks xs = true) (hy : okK ks ys = true) : binC P .neq t (.ag xs) (.ag ys) = some (.bool (!beqL xs ys)) := by
  obtain ⟨a, b, ea, eb, eab⟩ := (eqT_plain (P := P) 20 10000 (by omega) t ks hk).2 xs ys hx hy
  simp only [asT, ha, Option.some.injEq] at ea eb
  subst ea; subst eb
  exact bin_neq_of hg eab
end Go.CM
