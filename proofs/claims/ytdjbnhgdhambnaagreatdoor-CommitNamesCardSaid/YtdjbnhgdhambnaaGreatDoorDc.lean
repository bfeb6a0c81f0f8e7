/-
  The canonical machine, part Im: maps, strings rune by rune, bytes compared.
-/
import Derived.Test.YtdjbnhgdhambnaaGreatDoorDb
import Derived.Stop.SameAnswer
import Derived.Orders
import Derived.Still
import Derived.Scope
import Derived.LoopN
set_option linter.unusedVariables false
set_option linter.unusedSimpArgs false
set_option linter.unnecessarySimpa false
namespace Go.CM
open Go
section
variable {P : Program} {w : World} {R : Nat → Prop} {B : Nat} {h : Hp} {μ : Mu}
def toV1 : CV → Value
 | .bool b => .bool b
 | .int k n => .int k n
 | .str s => .string ⟨s.toArray⟩
 | _ => .tuple #[]
def toV : CV → Value
 | .ag cs => .agg (cs.map toV1).toArray
 | c => toV1 c
theorem plain_toV1 {c : CV} {v : Value} (hp : plain1 c = true) (hv : VR w R h μ c v) : v = toV1 c := by
 cases c <;> simp [plain1] at hp
 ·cases hv; rfl
 ·cases hv; rfl
 ·cases hv
  rename_i bs
  show Value.string bs = .string ⟨bs.data.toList.toArray⟩
  congr 1
theorem keyFits_ag {t : TypeId} {c : CV} (hf : keyFits P t c = true) : ∃ cs m, c = .ag cs ∧ keyTy P 8 t = true ∧ aggT P t = some true ∧ sizeT P t = some m ∧ cs.length = m ∧ ∀ x ∈ cs, plain1 x = true := by
 unfold keyFits at hf
 split at hf
 ·rename_i cs
  simp only [Bool.and_eq_true] at hf
  obtain ⟨⟨h1, h2⟩, h3⟩ := hf
  split at h2
  ·rename_i m ha hs
   exact ⟨cs, m, rfl, h1, ha, hs, Nat.eq_of_beq_eq_true h2, fun x hx => List.all_eq_true.1 h3 x hx⟩
  ·cases h2
 ·cases hf
theorem key_toV {t : TypeId} {c : CV} {v : Value} (hf : keyFits P t c = true) (hv : VR w R h μ c v) : v = toV c := by
 obtain ⟨cs, m, rfl, _, _, _, _, hint⟩ := keyFits_ag hf
 cases hv with
 | ag _ vs hl h1 hv =>
  show Value.agg vs = .agg (cs.map toV1).toArray
  congr 1
  apply Array.ext_getElem?
  intro j
  have hx : (cs.map toV1).toArray[j]? = (cs[j]?).map toV1 := by simp
  rw [hx]
  cases hj : cs[j]? with
  | none => simp only [Option.map_none]; rw [Array.getElem?_eq_none]; rw [hl]; exact List.getElem?_eq_none_iff.1 hj
  | some c =>
   have hlt := (List.getElem?_eq_some_iff.1 hj).1
   have hv1 := hv j c vs[j] hj (Array.getElem?_eq_getElem (by omega))
   rw [Array.getElem?_eq_getElem (by omega)]
   simp only [Option.map_some, Option.some.injEq]
   exact plain_toV1 (hint c (List.mem_of_getElem? hj)) hv1
theorem bytes_beq_self (a : ByteArray) : (a == a) = true := by
 show (a.data == a.data) = true
 exact beq_self_eq_true _
theorem sameBits_toV1 {c : CV} (n : Nat) (hc : plain1 c = true) : Instr.sameBits n (toV1 c) (toV1 c) = true := by
 cases c <;> simp [plain1] at hc <;> unfold toV1 Instr.sameBits
 ·simp
 ·simp
 ·exact bytes_beq_self _
theorem sameBits_key {t : TypeId} {c : CV} (n : Nat) (hf : keyFits P t c = true) : Instr.sameBits (n + 1) (toV c) (toV c) = true := by
 obtain ⟨cs, m, rfl, _, _, _, _, hint⟩ := keyFits_ag hf
 unfold toV Instr.sameBits
 simp only [beq_self_eq_true, Bool.true_and, List.all_eq_true]
 rintro ⟨x, y⟩ hxy
 rw [List.mem_iff_getElem?] at hxy
 obtain ⟨j, hj⟩ := hxy
 rw [List.getElem?_zip_eq_some] at hj
 obtain ⟨h1, h2⟩ := hj
 rw [h1] at h2; cases h2
 simp only [List.getElem?_map, Option.map_eq_some_iff] at h1
 obtain ⟨c, hc, rfl⟩ := h1
 exact sameBits_toV1 n (hint c (List.mem_of_getElem? hc))
theorem run_keyStays {t : TypeId} {c : CV} (hf : keyFits P t c = true) : (Instr.keyThatStays (toV c) (toV c)).run P w = .ok (toV c) w := by
 unfold Instr.keyThatStays
 rw [if_pos (sameBits_key 9999 hf)]
 simp
theorem forIn_unit {α : Type} {f : α → PUnit → Sem (ForInStep PUnit)} : ∀ (l : List α), (∀ x ∈ l, (f x ⟨⟩).run P w = .ok (.yield ⟨⟩) w) → (forIn l ⟨⟩ f).run P w = .ok ⟨⟩ w
 | [], _ => by simp
 | x :: l, hf => by
  rw [List.forIn_cons]
  simp only [Sem.run_bind, hf x (by simp), Result.andThen_ok]
  exact forIn_unit l (fun y hy => hf y (by simp [hy]))
theorem run_checkKey' (em : Bool) : ∀ (d n : Nat) (t : TypeId) (c : CV) (v : Value), d ≤ n → keyTy P d t = true → VR w R h μ c v → (aggT P t = some true → ∃ cs m, c = .ag cs ∧ sizeT P t = some m ∧ cs.length = m) →
  (Instr.checkKey em n t v).run P w = .ok () w
 | 0, _, _, _, _, _, hk, _, _ => by simp [keyTy] at hk
 | d + 1, 0, _, _, _, hn, _, _, _ => by omega
 | d + 1, n + 1, t, c, v, hn, hk, hv, ha => by
  unfold keyTy at hk
  split at hk
  ·rename_i hu; cases v <;> simp [Instr.checkKey, run_und hu]
  ·rename_i hu; cases v <;> simp [Instr.checkKey, run_und hu]
  ·rename_i hu; cases v <;> simp [Instr.checkKey, run_und hu]
  ·rename_i len e m hu hm
   have hagg : aggT P t = some true := by unfold aggT; rw [hu]; rfl
   obtain ⟨cs, m', rfl, hm', hl⟩ := ha hagg
   rw [hm] at hm'; cases hm'
   simp only [Bool.and_eq_true] at hk
   obtain ⟨hke, hse⟩ := hk
   split at hse
   ·rename_i z a hz haz
    simp only [Bool.and_eq_true] at hse
    have hle := Nat.le_of_ble_eq_true hse.1
    have hz1 := Nat.le_of_ble_eq_true hse.2
    obtain ⟨vs, rfl, hr⟩ := ag_row hv
    unfold Instr.checkKey
    simp only [Sem.run_bind, run_und hu, Result.andThen_ok]
    rw [Std.Legacy.Range.forIn_eq_forIn_range']
    rw [forIn_unit]
    ·simp
    intro i hi
    have hil : i < len := by simp [Std.Legacy.Range.size] at hi; omega
    have hiz : i * z + z ≤ cs.length := by
     have : i * z + z ≤ len * z := by rw [← Nat.succ_mul]; exact Nat.mul_le_mul_right _ hil
     omega
    have hp : ∃ c, partC P e cs (i * z) = some c ∧ (aggT P e = some true → ∃ cs' m', c = .ag cs' ∧ sizeT P e = some m' ∧ cs'.length = m') := by
     unfold partC
     rw [haz, hz]
     cases a with
     | true => exact ⟨_, by simp only; rw [if_pos hiz], fun _ => ⟨_, z, rfl, rfl, by simp; omega⟩⟩
     | false => exact ⟨cs[i * z]'(by omega), by simp only; exact List.getElem?_eq_getElem (by omega), fun h => by cases h⟩
    obtain ⟨c, hc, hca⟩ := hp
    obtain ⟨u, h3, h4⟩ := part_ok (P := P) hc hr
    simp only [Sem.run_bind, run_sizeOf' hz, Result.andThen_ok, h3 w]
    rw [run_checkKey' em d n e c u (by omega) hke h4 hca]
    simp
   ·cases hse
  ·rename_i fs m hu hm
   have hagg : aggT P t = some true := by unfold aggT; rw [hu]; rfl
   obtain ⟨cs, m', rfl, hm', hl⟩ := ha hagg
   rw [hm] at hm'; cases hm'
   obtain ⟨vs, rfl, hr⟩ := ag_row hv
   unfold Instr.checkKey
   simp only [Sem.run_bind, run_und hu, Result.andThen_ok]
   rw [← Array.forIn_toList, forIn_unit]
   ·simp
   intro f hf
   have hk1 := List.all_eq_true.1 hk f hf
   simp only [Bool.and_eq_true] at hk1
   obtain ⟨hke, hse⟩ := hk1
   split at hse
   ·rename_i z a hz haz
    simp only [Bool.and_eq_true] at hse
    have hle := Nat.le_of_ble_eq_true hse.1
    have hz1 := Nat.le_of_ble_eq_true hse.2
    have hp : ∃ c, partC P f.type cs f.offset = some c ∧ (aggT P f.type = some true → ∃ cs' m', c = .ag cs' ∧ sizeT P f.type = some m' ∧ cs'.length = m') := by
     unfold partC
     rw [haz, hz]
     cases a with
     | true => exact ⟨_, by simp only; rw [if_pos (by omega)], fun _ => ⟨_, z, rfl, rfl, by simp; omega⟩⟩
     | false => exact ⟨cs[f.offset]'(by omega), by simp only; exact List.getElem?_eq_getElem (by omega), fun h => by cases h⟩
    obtain ⟨c, hc, hca⟩ := hp
    obtain ⟨u, h3, h4⟩ := part_ok (P := P) hc hr
    have := run_checkKey' em d n f.type c u (by omega) hke h4 hca
    by_cases hnm : f.name = "_"
    ·simp [hnm]
    ·simp [hnm, h3 w, this]
   ·cases hse
  ·cases hk
theorem run_checkKey2 {t : TypeId} {c : CV} {v : Value} (em : Bool) (hf : keyFits P t c = true) (hv : VR w R h μ c v) : (Instr.checkKey em 10000 t v).run P w = .ok () w := by
 obtain ⟨cs, m, rfl, h1, h2, h3, h4, _⟩ := keyFits_ag hf
 exact run_checkKey' em 8 10000 t _ v (by omega) h1 hv (fun _ => ⟨cs, m, rfl, h3, h4⟩)
def EntRel (w : World) (R : Nat → Prop) (h : Hp) (μ : Mu) (es : List (CV × CV × Nat)) (es' : List MapEntry) : Prop :=
 es'.length = es.length ∧ ∀ (j : Nat) (k v : CV) (b : Nat), es[j]? = some (k, v, b) → ∃ x : MapEntry, es'[j]? = some x ∧ VR w R h μ k x.key ∧ VR w R h μ v x.val ∧ x.born = b
def FoundRel (w : World) (R : Nat → Prop) (h : Hp) (μ : Mu) (k : CV) (es' : List MapEntry) (i : Nat) : Option (Nat × CV) → Option (Nat × Value) → Prop
 | none, r => r = none
 | some (j, v), r => ∃ vv, r = some (j, vv) ∧ VR w R h μ v vv ∧ i ≤ j ∧ ∃ x, es'[j - i]? = some x ∧ x.val = vv ∧ VR w R h μ k x.key
theorem entRel_tail {es : List (CV × CV × Nat)} {e : CV × CV × Nat} {x : MapEntry} {es' : List MapEntry} (hr : EntRel w R h μ (e :: es) (x :: es')) : EntRel w R h μ es es' :=
 ⟨by have := hr.1; simp at this; exact this, fun j k v b hj => hr.2 (j + 1) k v b (by simpa using hj)⟩
theorem entRel_head {es : List (CV × CV × Nat)} {k v : CV} {b : Nat} {x : MapEntry} {es' : List MapEntry} (hr : EntRel w R h μ ((k, v, b) :: es) (x :: es')) : VR w R h μ k x.key ∧ VR w R h μ v x.val ∧ x.born = b := by
 obtain ⟨y, h1, h2⟩ := hr.2 0 k v b rfl
 simp at h1; subst h1; exact h2
theorem findAsking_ok {kt : TypeId} {k : CV} {kv : Value} (hk : VR w R h μ k kv) : ∀ (es : List (CV × CV × Nat)) (es' : List MapEntry) (i : Nat) (r : Option (Nat × CV)), EntRel w R h μ es es' → findC P kt k es i = some r →
  ∃ r', (Instr.findAsking kt kv es' i).run P w = .ok r' w ∧ FoundRel w R h μ k es' i r r'
 | [], es', i, r, hr, hf => by
  have : es' = [] := List.length_eq_zero_iff.1 hr.1
  subst this
  simp only [findC, Option.some.injEq] at hf; subst hf
  exact ⟨none, by simp [Instr.findAsking], rfl⟩
 | (k', v, b) :: es, [], i, r, hr, hf => by have := hr.1; simp at this
 | (k', v, b) :: es, x :: es', i, r, hr, hf => by
  obtain ⟨h1, h2, h3⟩ := entRel_head hr
  simp only [findC] at hf
  split at hf
  ·cases hf
  rename_i hfit
  split at hf
  ·rename_i heq
   split at hf
   ·rename_i hbeq
    simp only [Option.some.injEq] at hf; subst hf
    have hrun := eqT_ok (P := P) 10000 kt k k' true kv x.key heq hk h1
    refine ⟨some (i, x.val), ?_, x.val, rfl, h2, Nat.le_refl _, x, by simp, rfl, ?_⟩
    ·simp only [Instr.findAsking, Op.equal, Op.maxDepth, Sem.run_bind]
     rw [hrun]; simp
    ·rw [CV.beq_eq hbeq]; exact h1
   ·cases hf
  ·rename_i heq
   have hrun := eqT_ok (P := P) 10000 kt k k' false kv x.key heq hk h1
   obtain ⟨r', h4, h5⟩ := findAsking_ok hk es es' (i + 1) r (entRel_tail hr) hf
   refine ⟨r', ?_, ?_⟩
   ·simp only [Instr.findAsking, Op.equal, Op.maxDepth, Sem.run_bind]
    rw [hrun]; simpa using h4
   ·cases r with
    | none => exact h5
    | some jv =>
     obtain ⟨vv, h6, h7, h8, y, h9, h10, h11⟩ := h5
     exact ⟨vv, h6, h7, by omega, y, by rw [show jv.1 - i = (jv.1 - (i + 1)) + 1 by omega]; simpa using h9, h10, h11⟩
  ·cases hf
theorem run_findKey {kt : TypeId} {k : CV} {kv : Value} (hk : VR w R h μ k kv) (hf : keyFits P kt k = true) {es : List (CV × CV × Nat)} {es' : List MapEntry} {r : Option (Nat × CV)} (hr : EntRel w R h μ es es') (hfind : findC P kt k es 0 = some r) :
  ∃ r', (Instr.findKey kt kv es').run P w = .ok r' w ∧ FoundRel w R h μ k es' 0 r r' := by
 obtain ⟨r', h1, h2⟩ := findAsking_ok hk es es' 0 r hr hfind
 refine ⟨r', ?_, h2⟩
 obtain ⟨cs, m, rfl, h3, h4, _⟩ := keyFits_ag hf
 unfold aggT at h4
 cases hu : P.underlying kt with
 | none => rw [hu] at h4; cases h4
 | some d =>
  rw [hu] at h4
  unfold Instr.findKey
  simp only [Sem.run_bind, run_und hu, Result.andThen_ok]
  cases es' with
  | nil => simpa [Instr.findNow, Instr.findAsking] using h1
  | cons x es' =>
   have hn : Instr.findNow d kv (x :: es') 0 = none := by
    cases d <;> simp at h4 <;> simp [Instr.findNow, Instr.sameNow]
   rw [hn]
   exact h1
theorem mapOf_ok (rel : Rel R B w h μ) {m : CV} {mv : Value} {es : List (CV × CV × Nat)} (hm : mapOf h m = some es) (hv : VR w R h μ m mv) :
  (mv = .map none ∧ es = []) ∨ ∃ b mm ck es', m = .mp b ∧ h.f b = .map es ck ∧ μ b = some mm ∧ mv = .map (some mm.r) ∧ w.heap[mm.r]? = some (.map es' ck) ∧ EntRel w R h μ es es'.toList := by
 cases m <;> simp [mapOf] at hm
 ·subst hm; cases hv; exact .inl ⟨rfl, rfl⟩
 ·rename_i b
  cases hv with
  | mp _ mm hb hmm =>
   cases hc : h.f b <;> rw [hc] at hm <;> simp at hm
   rename_i es0 ck
   subst hm
   have hblk := rel.blk b mm hmm
   rw [hc] at hblk
   obtain ⟨es', h1, h2, h3⟩ := hblk
   refine .inr ⟨b, mm, ck, es', rfl, hc, hmm, rfl, h1, by simpa using h2, fun j k v b' hj => ?_⟩
   obtain ⟨x, h4, h5⟩ := h3 j k v b' hj
   exact ⟨x, by simpa using h4, h5⟩
theorem run_getObj {r : Nat} {es : Array MapEntry} {ck : Nat} (hb : w.heap[r]? = some (.map es ck)) : (getObj r).run P w = .ok (.map es ck) w := by simp [getObj, Sem.run, hb]
theorem run_getIter {r : Nat} {s : ByteArray} {pos : Nat} (hb : w.heap[r]? = some (.stringIter s pos)) : (getObj r).run P w = .ok (.stringIter s pos) w := by simp [getObj, Sem.run, hb]
theorem zeroV_ok {t : TypeId} {z : CV} (hz : zeroV P t = some z) : ∃ v, (zeroValue t).run P w = .ok v w ∧ VR w R h μ z v := by
 unfold zeroV at hz
 cases hi : P.info? t with
 | none => rw [hi] at hz; cases hz
 | some i =>
  rw [hi] at hz
  simp only [Option.bind_some] at hz
  cases hv : i.zero with
  | none => rw [hv] at hz; cases hz
  | some v =>
   rw [hv] at hz
   simp only [Option.map_some, Option.some.injEq] at hz; subst hz
   exact ⟨v, run_zero hi hv, .ofV v⟩
theorem VR.tu2 {a b : CV} {va vb : Value} (ha : VR w R h μ a va) (hb : VR w R h μ b vb) : VR w R h μ (.tu [a, b]) (.tuple #[va, vb]) := by
 refine .tu _ _ rfl fun j c v hc hv => ?_
 rcases j with _ | _ | j
 ·simp at hc hv; subst hc hv; exact ha
 ·simp at hc hv; subst hc hv; exact hb
 ·simp at hc
theorem lookup_ok (rel : Rel R B w h μ) {t : TypeId} {m k c : CV} {mv kv : Value} {ok : Bool} (hl : lookupC P h t m k ok = some c) (hm : VR w R h μ m mv) (hk : VR w R h μ k kv) :
  ∃ v, (Instr.lookup t mv kv ok).run P w = .ok v w ∧ VR w R h μ c v := by
 unfold lookupC at hl
 split at hl
 ·rename_i kt et es hu hmo
  split at hl
  ·cases hl
  ·rename_i hfit
   have core : ∀ es' : List MapEntry, EntRel w R h μ es es' → ∃ r', (Instr.findKey kt kv es').run P w = .ok r' w ∧
     ((∃ i v, r' = some (i, v) ∧ ∃ cv, VR w R h μ cv v ∧ c = if ok then .tu [cv, .bool true] else cv) ∨ (r' = none ∧ ∃ z, zeroV P et = some z ∧ c = if ok then .tu [z, .bool false] else z)) := by
    intro es' hr
    cases hfc : findC P kt k es 0 with
    | none => rw [hfc] at hl; cases hl
    | some r =>
     obtain ⟨r', h1, h2⟩ := run_findKey hk hfit hr hfc
     rw [hfc] at hl
     refine ⟨r', h1, ?_⟩
     cases r with
     | none =>
      cases h2
      simp only at hl
      cases hz : zeroV P et with
      | none => rw [hz] at hl; cases hl
      | some z =>
       rw [hz] at hl
       simp only [Option.map_some, Option.some.injEq] at hl
       exact .inr ⟨rfl, z, rfl, hl.symm⟩
     | some jv =>
      obtain ⟨vv, rfl, h4, _⟩ := h2
      simp only [Option.some.injEq] at hl
      exact .inl ⟨_, vv, rfl, _, h4, hl.symm⟩
   have fin : ∀ (es' : List MapEntry) (em : Bool), EntRel w R h μ es es' → ∀ m : Sem Value, m.run P w = (((Instr.checkKey em 10000 kt kv).bind fun _ => (Instr.findKey kt kv es').bind fun r => match r with
     | some (_, v) => pure (if ok = true then .tuple #[v, .bool true] else v)
     | none => (zeroValue et).bind fun z => pure (if ok = true then .tuple #[z, .bool false] else z)) : Sem Value).run P w → ∃ v, m.run P w = .ok v w ∧ VR w R h μ c v := by
    intro es' em hr m hm
    obtain ⟨r', h1, h2⟩ := core es' hr
    have hbind : ∀ {α β : Type} (a : Sem α) (f : α → Sem β), a.bind f = a >>= f := fun _ _ => rfl
    simp only [hbind, Sem.run_bind, run_checkKey2 em hfit hk, Result.andThen_ok, h1] at hm
    rcases h2 with ⟨i, v, rfl, cv, h3, rfl⟩ | ⟨rfl, z, h3, rfl⟩
    ·simp only at hm
     cases ok
     ·exact ⟨v, by simpa using hm, h3⟩
     ·exact ⟨.tuple #[v, .bool true], by simpa using hm, VR.tu2 h3 (.bool _)⟩
    ·obtain ⟨v, h4, h5⟩ := zeroV_ok (w := w) (R := R) (h := h) (μ := μ) h3
     simp only [Sem.run_bind, h4, Result.andThen_ok] at hm
     cases ok
     ·exact ⟨v, by simpa using hm, h5⟩
     ·exact ⟨.tuple #[v, .bool false], by simpa using hm, VR.tu2 h5 (.bool _)⟩
   have hbind : ∀ {α β : Type} (a : Sem α) (f : α → Sem β), a.bind f = a >>= f := fun _ _ => rfl
   rcases mapOf_ok rel hmo hm with ⟨rfl, rfl⟩ | ⟨b, mm, ck, es', rfl, hb, hmm, rfl, hheap, hr⟩
   ·refine fin [] true ⟨rfl, fun j k v b hj => by simp at hj⟩ _ ?_
    unfold Instr.lookup
    simp only [hbind, Sem.run_bind, run_und hu, Result.andThen_ok, Sem.run_pure]
    cases hck : (Instr.checkKey true 10000 kt kv).run P w with
    | halt a b => simp [hck]
    | ok a w1 =>
     simp [hck]
     cases hfk : (Instr.findKey kt kv []).run P w1 with
     | halt a b => simp
     | ok r w2 =>
      simp
      cases r with
      | none => cases (zeroValue et).run P w2 <;> simp
      | some x => simp
   ·refine fin es'.toList es'.isEmpty hr _ ?_
    unfold Instr.lookup
    simp only [hbind, Sem.run_bind, run_und hu, Result.andThen_ok, Sem.run_pure, run_getObj hheap]
    cases hck : (Instr.checkKey es'.isEmpty 10000 kt kv).run P w with
    | halt a b => simp [hck]
    | ok a w1 =>
     simp [hck]
     cases hfk : (Instr.findKey kt kv es'.toList).run P w1 with
     | halt a b => simp
     | ok r w2 =>
      simp
      cases r with
      | none => cases (zeroValue et).run P w2 <;> simp
      | some x => simp
 ·cases hl
theorem lenMap_ok (rel : Rel R B w h μ) {t ty : TypeId} {x c : CV} {xv : Value} (hc : lenMapC P h t x = some c) (hx : VR w R h μ x xv) : ∃ v, (Builtin.len_ #[t] ty #[xv]).run P w = .ok v w ∧ VR w R h μ c v := by
 unfold lenMapC at hc
 split at hc
 ·rename_i kt et b hu
  split at hc
  ·rename_i es ck hb
   simp only [Option.some.injEq] at hc; subst hc
   cases hx with
   | mp _ mm hk hmm =>
    have hblk := rel.blk b mm hmm
    rw [hb] at hblk
    obtain ⟨es', h1, h2, h3⟩ := hblk
    exact ⟨.int .i64 es'.size, by simp [Builtin.len_, run_und hu, run_getObj h1, goInt], by rw [h2]; exact .int _ _⟩
  ·cases hc
 ·cases hc
theorem makeMap_ok (rel : Rel R B w h μ) {t : TypeId} {r : Option Value} (hu : ∃ k e, P.underlying t = some (.map k e)) (hr : ∀ x, r = some x → ∃ k n, x = .int k n) : ∃ v w' μ', (Instr.makeMap t r).run P w = .ok v w' ∧ Ext w h μ w' (h.push (.map [] 0)) μ' ∧ Rel R B w' (h.push (.map [] 0)) μ' ∧ VR w' R (h.push (.map [] 0)) μ' (.mp h.n) v := by
 have := rel.pushO (w' := w.alloc (.map #[] 0)) (.map [] 0) (.map #[] 0) (k := 0) rfl rfl rfl rfl rfl ⟨#[], by show (w.heap.push _)[w.heap.size]? = _; simp, rfl, fun j k v b hj => by simp at hj⟩
 refine ⟨.map (some w.heap.size), w.alloc (.map #[] 0), _, ?_, this.1, this.2, ?_⟩
 ·obtain ⟨k, e, hu⟩ := hu
  cases r with
  | none => simp [Instr.makeMap, newObj, Sem.run]
  | some x =>
   obtain ⟨k', n, rfl⟩ := hr x rfl
   simp [Instr.makeMap, newObj, Sem.run, run_und hu, Go.asInt, Go.asIntOf]
 ·exact .mp h.n ⟨w.heap.size, 0, 0⟩ (by simp [push_f, kindC]) (by simp)
theorem mapUpd_ok (rel : Rel R B w h μ) {t : TypeId} {m k x : CV} {mv kv xv : Value} {h' : Hp} (hu0 : mapUpdC P h t m k x = some h') (hm : VR w R h μ m mv) (hk : VR w R h μ k kv) (hx : VR w R h μ x xv) :
  ∃ w', (Instr.mapUpdate t mv kv xv).run P w = .ok () w' ∧ Ext w h μ w' h' μ ∧ Rel R B w' h' μ := by
 unfold mapUpdC at hu0
 split at hu0
 ·rename_i kt et b hu
  split at hu0
  ·rename_i es ck hb
   split at hu0
   ·cases hu0
   ·rename_i hfit
    cases hm with
    | mp _ mm hkd hmm =>
     have hblk := rel.blk b mm hmm
     rw [hb] at hblk
     obtain ⟨es', h1, h2, h3⟩ := hblk
     have hlt : mm.r < w.heap.size := by
      rcases Nat.lt_or_ge mm.r w.heap.size with h | h
      ·exact h
      ·rw [Array.getElem?_eq_none h] at h1; cases h1
     have hr : EntRel w R h μ es es'.toList := ⟨by simpa using h2, fun j k v b' hj => by obtain ⟨y, h4, h5⟩ := h3 j k v b' hj; exact ⟨y, by simpa using h4, h5⟩⟩
     have hset : ∀ o : Obj, (setObj mm.r o).run P w = .ok () { w with heap := w.heap.setIfInBounds mm.r o } := fun o => by simp [setObj, Sem.run, h1]
     have hput : ∀ (es2 : List (CV × CV × Nat)) (es2' : Array MapEntry) (ck2 : Nat), (∀ {w2 : World} {h2 : Hp}, Ext0 w h μ w2 h2 μ → es2'.size = es2.length ∧ ∀ (j : Nat) (k v : CV) (b : Nat), es2[j]? = some (k, v, b) → ∃ x : MapEntry, es2'[j]? = some x ∧ VR w2 R h2 μ k x.key ∧ VR w2 R h2 μ v x.val ∧ x.born = b) →
       Ext w h μ { w with heap := w.heap.setIfInBounds mm.r (.map es2' ck2) } (h.set b (.map es2 ck2)) μ ∧ Rel R B { w with heap := w.heap.setIfInBounds mm.r (.map es2' ck2) } (h.set b (.map es2 ck2)) μ := by
      intro es2 es2' ck2 hq
      refine rel.putO (k := 0) hb rfl rfl hmm rfl rfl rfl (by simp) (fun k hk => ?_) (fun e => ?_)
      ·simp only; rw [Array.getElem?_setIfInBounds]; rw [if_neg (fun hh => hk hh.symm)]
      ·obtain ⟨q1, q2⟩ := hq e
       exact ⟨es2', by simp only; rw [Array.getElem?_setIfInBounds]; simp [hlt], q1, q2⟩
     unfold Instr.mapUpdate
     simp only [Sem.run_bind, run_und hu, Result.andThen_ok, run_getObj h1, run_checkKey2 false hfit hk]
     cases hfc : findC P kt k es 0 with
     | none => rw [hfc] at hu0; cases hu0
     | some r =>
      rw [hfc] at hu0
      obtain ⟨r', h4, h5⟩ := run_findKey hk hfit hr hfc
      rw [h4]
      cases r with
      | none =>
       cases h5
       simp only [Option.some.injEq] at hu0; subst hu0
       have := hput (es ++ [(k, x, ck)]) (es'.push { key := kv, val := xv, born := ck }) (ck + 1) (fun e => ⟨by simp [h2], fun j k' v' b' hj => ?_⟩)
       ·exact ⟨_, by simp only [Result.andThen_ok]; rw [hset], this⟩
       ·rw [Array.getElem?_push]
        by_cases hjl : j < es.length
        ·rw [List.getElem?_append_left hjl] at hj
         obtain ⟨y, h6, h7, h8, h9⟩ := h3 j k' v' b' hj
         exact ⟨y, by rw [if_neg (by omega)]; exact h6, h7.ext0 e, h8.ext0 e, h9⟩
        ·rw [List.getElem?_append_right (by omega)] at hj
         have hj0 : j - es.length = 0 := by
          rcases Nat.eq_zero_or_pos (j - es.length) with h | h
          ·exact h
          ·rw [List.getElem?_eq_none (by simp; omega)] at hj; cases hj
         rw [hj0] at hj
         simp at hj
         obtain ⟨rfl, rfl, rfl⟩ := hj
         exact ⟨_, by rw [if_pos (by omega)], hk.ext0 e, hx.ext0 e, rfl⟩
      | some jv =>
       obtain ⟨i, v⟩ := jv
       obtain ⟨vv, rfl, h6, _, y, h7, h8, h9⟩ := h5
       simp only [Option.some.injEq] at hu0; subst hu0
       have h7' : es'[i]? = some y := by simpa using h7
       have e1 : y.key = kv := by rw [key_toV hfit h9, key_toV hfit hk]
       have hks : (Instr.keyThatStays (((es'[i]?).map (·.key)).getD kv) kv).run P w = .ok kv w := by
        rw [h7']
        simp only [Option.map_some, Option.getD_some, e1]
        rw [key_toV hfit hk]
        exact run_keyStays hfit
       have := hput (es.modify i fun e => (k, x, e.2.2)) (es'.modify i fun e => { e with key := kv, val := xv }) ck (fun e => ⟨by simp [h2], fun j k' v' b' hj => ?_⟩)
       ·refine ⟨_, ?_, this⟩
        simp only [Result.andThen_ok, Sem.run_bind, hks]
        rw [hset]
       ·rw [List.getElem?_modify] at hj
        rw [Array.getElem?_modify]
        cases hej : es[j]? with
        | none => rw [hej] at hj; simp at hj
        | some e0 =>
         obtain ⟨k0, v0, b0⟩ := e0
         rw [hej] at hj
         obtain ⟨y0, h10, h11, h12, h13⟩ := h3 j k0 v0 b0 hej
         rw [h10]
         by_cases hij : i = j
         ·simp [hij] at hj
          obtain ⟨rfl, rfl, rfl⟩ := hj
          exact ⟨{ y0 with key := kv, val := xv }, by simp [hij], hk.ext0 e, hx.ext0 e, h13⟩
         ·simp [hij] at hj
          obtain ⟨rfl, rfl, rfl⟩ := hj
          exact ⟨y0, by simp [hij], h11.ext0 e, h12.ext0 e, h13⟩
  ·cases hu0
 ·cases hu0
theorem rangeStr_ok (rel : Rel R B w h μ) {t : TypeId} {x c : CV} {xv : Value} {h' : Hp} (hr : rangeStrC P h t x = some (c, h')) (hx : VR w R h μ x xv) :
  ∃ v w' μ', (Instr.range t xv).run P w = .ok v w' ∧ Ext w h μ w' h' μ' ∧ Rel R B w' h' μ' ∧ VR w' R h' μ' c v := by
 unfold rangeStrC at hr
 split at hr
 ·rename_i s hu
  simp only [Option.some.injEq, Prod.mk.injEq] at hr
  obtain ⟨rfl, rfl⟩ := hr
  cases hx
  rename_i bs
  have := rel.pushO (w' := w.alloc (.stringIter bs 0)) (.iter bs.data.toList 0) (.stringIter bs 0) (k := 1) rfl rfl rfl rfl rfl ⟨bs, rfl, by show (w.heap.push _)[w.heap.size]? = _; simp⟩
  refine ⟨.pointer (some ⟨w.heap.size, 0, none⟩), w.alloc (.stringIter bs 0), _, ?_, this.1, this.2, ?_⟩
  ·simp [Instr.range, run_und hu, newObj, Sem.run]
  ·exact .it h.n ⟨w.heap.size, 0, 0⟩ (by simp [push_f, kindC]) (by simp)
 ·cases hr
theorem nextStr_ok (rel : Rel R B w h μ) {x c : CV} {xv : Value} {h' : Hp} {ty : TypeId} (hr : nextStrC h x = some (c, h')) (hx : VR w R h μ x xv) :
  ∃ v w', (Instr.next xv true ty).run P w = .ok v w' ∧ Ext w h μ w' h' μ ∧ Rel R B w' h' μ ∧ VR w' R h' μ c v := by
 unfold nextStrC at hr
 split at hr
 ·rename_i b
  split at hr
  ·rename_i s pos hb
   cases hx with
   | it _ mm hkd hmm =>
    have hblk := rel.blk b mm hmm
    rw [hb] at hblk
    obtain ⟨bs, rfl, h1⟩ := hblk
    have hlt : mm.r < w.heap.size := by
     rcases Nat.lt_or_ge mm.r w.heap.size with h | h
     ·exact h
     ·rw [Array.getElem?_eq_none h] at h1; cases h1
    have hbs : (⟨bs.data.toList.toArray⟩ : ByteArray) = bs := by cases bs; simp
    have hsz : bs.data.toList.length = bs.size := by rw [Array.length_toList]; rfl
    rw [hbs] at hr
    split at hr
    ·rename_i hlt2
     have hp : pos < bs.size := by rw [← hsz]; rw [Nat.blt_eq] at hlt2; exact hlt2
     simp only [Option.some.injEq, Prod.mk.injEq] at hr
     obtain ⟨rfl, rfl⟩ := hr
     have := rel.putO (w' := { w with heap := w.heap.setIfInBounds mm.r (.stringIter bs (pos + (Utf8.decode bs pos).2)) }) (k := 1) (c' := .iter bs.data.toList (pos + (Utf8.decode bs pos).2)) hb rfl rfl hmm rfl rfl rfl (by simp)
      (fun k hk => by simp only; rw [Array.getElem?_setIfInBounds]; rw [if_neg (fun hh => hk hh.symm)]) (fun e => ⟨bs, rfl, by simp only; rw [Array.getElem?_setIfInBounds]; simp [hlt]⟩)
     refine ⟨.tuple #[.bool true, .int .i64 pos, .int .i32 (Utf8.decode bs pos).1], _, ?_, this.1, this.2, ?_⟩
     ·simp only [Instr.next, Sem.run_bind, run_getIter h1, Result.andThen_ok, if_pos hp]
      simp [setObj, Sem.run, h1, goInt]
     ·refine .tu _ _ rfl fun j c v hc hv => ?_
      rcases j with _ | _ | _ | j
      ·simp at hc hv; subst hc hv; exact .bool _
      ·simp at hc hv; subst hc hv; exact .int _ _
      ·simp at hc hv; subst hc hv; exact .int _ _
      ·simp at hc
    ·rename_i hlt2
     have hp : ¬ pos < bs.size := by
      rw [← hsz]; intro hh
      rw [← Nat.blt_eq] at hh; rw [hh] at hlt2; cases hlt2
     simp only [Option.some.injEq, Prod.mk.injEq] at hr
     obtain ⟨rfl, rfl⟩ := hr
     refine ⟨.tuple #[.bool false], w, ?_, .refl _ _ _, rel, ?_⟩
     ·simp only [Instr.next, Sem.run_bind, run_getIter h1, Result.andThen_ok, if_neg hp]
      simp
     ·refine .tu _ _ rfl fun j c v hc hv => ?_
      rcases j with _ | j
      ·simp at hc hv; subst hc hv; exact .bool _
      ·simp at hc
  ·cases hr
 ·cases hr
theorem run_extBytes {blk : Nat} : ∀ (n : Nat) (o : Nat) (ns : List Int) (acc : ByteArray), ns.length = n → (∀ j v, (ns.map (Value.int .u8))[j]? = some v → (load (⟨blk, o + j, none⟩ : Addr)).run P w = .ok v w) →
  ∃ bs, (Extern.Bytes.loadBytes ⟨blk, o, none⟩ n acc).run P w = .ok bs w ∧ bs.data.toList = acc.data.toList ++ ns.map fun n => UInt8.ofNat n.toNat
 | 0, o, ns, acc, hl, _ => ⟨acc, by simp [Extern.Bytes.loadBytes], by rw [List.length_eq_zero_iff.1 hl]; simp⟩
 | n + 1, o, [], acc, hl, _ => by simp at hl
 | n + 1, o, x :: ns, acc, hl, h => by
  have h0 := h 0 _ rfl
  obtain ⟨bs, h1, h2⟩ := run_extBytes n (o + 1) ns (acc.push (UInt8.ofNat x.toNat)) (by simpa using hl) (fun j v hj => by
   have := h (j + 1) v (by simpa using hj)
   rw [show o + (j + 1) = o + 1 + j by omega] at this
   exact this)
  refine ⟨bs, ?_, ?_⟩
  ·unfold Extern.Bytes.loadBytes
   rw [Nat.add_zero] at h0
   simp only [Sem.run_bind, h0, Result.andThen_ok, Addr.add_mk]
   exact h1
  ·rw [h2]; simp
theorem bytesOfV_ok (rel : Rel R B w h μ) {x : CV} {xv : Value} {l : List UInt8} (hb : bytesOfV h x = some l) (hx : VR w R h μ x xv) : ∃ bs, (Extern.Bytes.bytesOf xv).run P w = .ok bs w ∧ bs.data.toList = l := by
 unfold bytesOfV at hb
 split at hb
 ·simp only [Option.some.injEq] at hb; subst hb
  cases hx with
  | str bs => exact ⟨bs, by simp [Extern.Bytes.bytesOf], rfl⟩
 ·rename_i hns
  split at hb
  ·rename_i cs n hco
   obtain ⟨hxl, hlen, vs, hrow, hfc⟩ := contents_ok (P := P) rel hco hx
   have hf := hfc n (Nat.le_refl _) w (fun _ => rfl)
   obtain ⟨ns, rfl, rfl⟩ := bytesOf_ints cs vs l hb hrow.1 hrow.2
   have hnl : ns.length = n := by have := hrow.1; simp at this; omega
   have htake : (ns.map (Value.int .u8)).take (n * 1) = ns.map (Value.int .u8) := List.take_of_length_le (by simp; omega)
   rw [htake] at hf
   have hform : ∃ a len cap, xv = .slice a len cap := by
    cases hx <;> first | exact ⟨_, _, _, rfl⟩ | (simp [contents] at hco; done) | (exact absurd rfl (hns _))
   obtain ⟨a, len, cap, rfl⟩ := hform
   simp only [Builtin.lenOf, Sem.run_pure, Result.ok.injEq] at hlen
   obtain ⟨rfl, _⟩ := hlen
   cases a with
   | none =>
    simp only [Builtin.firstCells, Sem.run_pure, Result.ok.injEq] at hf
    have hvs : ns = [] := by
     have := congrArg Array.toList hf.1
     simpa using this.symm
    subst hvs
    exact ⟨.empty, by simp [Extern.Bytes.bytesOf], rfl⟩
   | some a =>
    by_cases hn0 : len = 0
    ·subst hn0
     have : ns = [] := List.length_eq_zero_iff.1 hnl
     subst this
     exact ⟨.empty, by simp [Extern.Bytes.bytesOf, Extern.Bytes.loadBytes], rfl⟩
    have ha : ∃ blk o, a = ⟨blk, o, none⟩ := by
     cases hx with
     | sl => exact ⟨_, _, rfl⟩
     | rsl => exact ⟨_, _, rfl⟩
     | rsl0 => exact absurd rfl hn0
     | slEnd => exact absurd rfl hn0
     | bad => simp [contents] at hco
     | slGone _ _ _ _ _ _ _ _ h1 h2 hg =>
      exfalso
      simp only [contents] at hco
      rcases hg with hg | ⟨n, cs2, hg, hlt⟩
      ·rw [hg] at hco; cases hco
      ·rw [hg] at hco
       simp only at hco
       split at hco
       ·rename_i hh; omega
       ·cases hco
    obtain ⟨blk, o, rfl⟩ := ha
    simp only [Builtin.firstCells, Nat.mul_one] at hf
    unfold loadCells at hf
    obtain ⟨l, h1, h2, h3⟩ := loadCellsFrom_ok _ _ _ _ _ _ hf
    have h4 : l = ns.map (Value.int .u8) := by
     have := congrArg Array.toList h2
     simpa using this.symm
    subst h4
    obtain ⟨bs, h5, h6⟩ := run_extBytes (P := P) (w := w) (blk := blk) len o ns .empty hnl (fun j v hj => by
     have := h3 j v hj
     rw [Addr.add_mk, Nat.zero_add] at this
     exact this)
    exact ⟨bs, by simpa [Extern.Bytes.bytesOf] using h5, by rw [h6]; rfl⟩
  ·cases hb
theorem cmp_list : ∀ (a b : List UInt8), (match (List.range (min a.length b.length)).find? fun i => a.getD i 0 != b.getD i 0 with
  | some i => if a.getD i 0 < b.getD i 0 then (-1 : Int) else 1
  | none => if a.length < b.length then -1 else if a.length > b.length then 1 else 0) = cmpBytes a b
 | [], [] => by simp [cmpBytes]
 | [], _ :: _ => by simp [cmpBytes]
 | _ :: _, [] => by simp [cmpBytes]
 | x :: a, y :: b => by
  have ih := cmp_list a b
  simp only [List.length_cons, Nat.add_min_add_right, List.range_succ_eq_map, List.find?_cons, List.getD_cons_zero]
  by_cases hxy : x = y
  ·subst hxy
   simp only [bne_self_eq_false, cmpBytes, if_true]
   rw [← ih, List.find?_map]
   have hfun : ((fun i => (x :: a).getD i 0 != (x :: b).getD i 0) ∘ Nat.succ) = fun i => a.getD i 0 != b.getD i 0 := by
    funext i; simp
   rw [hfun]
   cases hf : (List.range (min a.length b.length)).find? fun i => a.getD i 0 != b.getD i 0 with
   | none => simp only [Option.map_none]; congr 1 <;> simp
   | some i => simp
  ·have hne : (x != y) = true := by simp [hxy]
   simp only [hne, cmpBytes, if_neg hxy, List.getD_cons_zero]
theorem find_ext {α : Type} {p q : α → Bool} : ∀ (l : List α), (∀ x ∈ l, p x = q x) → l.find? p = l.find? q
 | [], _ => rfl
 | x :: l, h => by
  rw [List.find?_cons, List.find?_cons, h x (by simp), find_ext l (fun y hy => h y (by simp [hy]))]
theorem cmp_ok (a b : ByteArray) : Extern.BytealgCompare.cmp a b = cmpBytes a.data.toList b.data.toList := by
 rw [← cmp_list]
 unfold Extern.BytealgCompare.cmp
 have hg : ∀ (a : ByteArray) (i : Nat), i < a.size → a[i]! = a.data.toList.getD i 0 := fun a i hi => by
  simp only [List.getD_eq_getElem?_getD, Array.getElem?_toList]
  rw [getElem!_pos a i hi]
  have : i < a.data.size := hi
  rw [Array.getElem?_eq_getElem this]; rfl
 have hl : ∀ a : ByteArray, a.data.toList.length = a.size := fun a => by rw [Array.length_toList]; rfl
 rw [hl, hl]
 have hfind : (List.range (min a.size b.size)).find? (fun i => a[i]! != b[i]!) = (List.range (min a.size b.size)).find? (fun i => a.data.toList.getD i 0 != b.data.toList.getD i 0) := by
  apply find_ext
  intro i hi
  have := List.mem_range.1 hi
  rw [hg a i (by omega), hg b i (by omega)]
 rw [hfind]
 cases hf : (List.range (min a.size b.size)).find? (fun i => a.data.toList.getD i 0 != b.data.toList.getD i 0) with
 | none => rfl
 | some i =>
  have := List.mem_range.1 (List.mem_of_find?_eq_some hf)
  simp only
  rw [hg a i (by omega), hg b i (by omega)]
theorem find_cmp {fn : Func} (hn : fn.name = "internal/bytealg.Compare") (ho : fn.origin = "" ∨ fn.origin = "internal/bytealg.Compare") : Extern.find fn = some Extern.BytealgCompare.compare ∧ Extern.findNext fn = none := by
 constructor
 ·unfold Extern.find
  simp only [hn]
  rfl
 ·unfold Extern.findNext
  simp only [hn]
  rcases ho with ho | ho <;> rw [ho] <;> rfl
theorem extCmp_ok (rel : Rel R B w h μ) {f : FuncId} {fn : Func} {args : List CV} {vs : Array Value} {c : CV} (hf : P.funcs[f]? = some fn) (hi : isCmp fn = true) (hc : cmpC h args = some c)
  (hl : vs.size = args.length) (hv : ∀ (j : Nat) (c : CV) (v : Value), args[j]? = some c → vs[j]? = some v → VR w R h μ c v) :
  ∃ v, (callFunc f vs).run P w = .ok (.value v) w ∧ VR w R h μ c v := by
 unfold isCmp at hi
 simp only [Bool.and_eq_true, Bool.or_eq_true, beq_iff_eq] at hi
 obtain ⟨⟨hb, hn⟩, ho⟩ := hi
 unfold cmpC at hc
 split at hc
 ·rename_i x y
  split at hc
  ·rename_i a b ha hb'
   simp only [Option.some.injEq] at hc; subst hc
   simp only [List.length_cons, List.length_nil] at hl
   have hvs : vs = #[vs[0], vs[1]] := by
    apply Array.ext
    ·simpa using hl
    ·intro i h1 h2
     rcases (show i = 0 ∨ i = 1 by simp at h2; omega) with rfl | rfl <;> rfl
   obtain ⟨ba, h1, h2⟩ := bytesOfV_ok (P := P) rel ha (hv 0 x vs[0] rfl (by simp [hl]))
   obtain ⟨bb, h3, h4⟩ := bytesOfV_ok (P := P) rel hb' (hv 1 y vs[1] rfl (by simp [hl]))
   obtain ⟨e1, e2⟩ := find_cmp hn ho
   refine ⟨.int .i64 (cmpBytes a b), ?_, .int _ _⟩
   rw [hvs]
   have hne : fn.name ≠ "runtime.NumGoroutine" := by rw [hn]; decide
   have hb := Option.isNone_iff_eq_none.1 hb
   have hcmp : Extern.BytealgCompare.compare #[vs[0], vs[1]] = (do pure (goInt (Extern.BytealgCompare.cmp (← Extern.Bytes.bytesOf vs[0]) (← Extern.Bytes.bytesOf vs[1])))) := rfl
   simp [callFunc, hf, hne, hb, e1, e2, mark, Sem.run, hcmp, h1, h3, cmp_ok, h2, h4, goInt]
  ·cases hc
 ·cases hc
end
section
variable {P : Program} {w : World} {R : Nat → Prop} {B : Nat} {h : Hp} {μ : Mu}
inductive EqShape : Value → Value → Prop where
 | bool (a b : Bool) : EqShape (.bool a) (.bool b)
 | agg (a b : Array Value) : EqShape (.agg a) (.agg b)
 | slice (a : Option Addr) (l c : Nat) (a' : Option Addr) (l' c' : Nat) : EqShape (.slice a l c) (.slice a' l' c')
theorem eqShape_of {d : Nat} {t : TypeId} {x y : CV} {b : Bool} {xv yv : Value} (he : eqT P d t x y = some b) (hx : VR w R h μ x xv) (hy : VR w R h μ y yv)
  (hi : ∀ k a k' b', x = .int k a → y = .int k' b' → False) (hs : ∀ a b', x = .str a → y = .str b' → False) : EqShape xv yv := by
 cases d with
 | zero => simp [eqT] at he
 | succ d =>
  unfold eqT at he
  split at he
  ·cases hx; cases hy; exact .bool _ _
  ·exact (hi _ _ _ _ rfl rfl).elim
  ·exact (hs _ _ rfl rfl).elim
  ·cases hx; cases hy; exact .agg _ _
  ·cases hx; cases hy; exact .agg _ _
  ·cases hx; cases hy; exact .slice _ _ _ _ _ _
  ·cases hx; cases hy <;> exact .slice _ _ _ _ _ _
  ·cases hx; cases hy <;> exact .slice _ _ _ _ _ _
  ·cases hx <;> cases hy <;> exact .slice _ _ _ _ _ _
  ·cases hx <;> cases hy <;> exact .slice _ _ _ _ _ _
  ·cases he
theorem eqGuard_ok {op : BinOp} {t : TypeId} {ox oy : Operand} {xv yv : Value} (hs : EqShape xv yv) (hg : ∀ a b, xv = .agg a → yv = .agg b → P.eqGuardType P.depth t = false) : (eqGuard op t ox oy xv yv).run P w = .ok () w := by
 cases hs with
 | bool a b => cases op <;> rfl
 | agg a b => exact run_eqGuard_agg w op t ox oy a b (hg a b rfl rfl)
 | slice => cases op <;> rfl
theorem run_eql_shape {t : TypeId} {xv yv : Value} {b : Bool} (hs : EqShape xv yv) (he' : (Op.equalIn 10000 t xv yv).run P w = .ok b w) :
  (binOp .eql t xv yv).run P w = .ok (.bool b) w ∧ (binOp .neq t xv yv).run P w = .ok (.bool (!b)) w := by
 have hq : (Op.equal t xv yv).run P w = .ok b w := he'
 cases hs <;> constructor <;> simp [binOp, hq]
theorem eqGuard_int {op : BinOp} {t : TypeId} {ox oy : Operand} {k k' : IntKind} {a b : Int} : (eqGuard op t ox oy (.int k a) (.int k' b)).run P w = .ok () w := by
 cases op <;> rfl
theorem eqGuard_str {op : BinOp} {t : TypeId} {ox oy : Operand} {a b : ByteArray} : (eqGuard op t ox oy (.string a) (.string b)).run P w = .ok () w := by
 cases op <;> rfl
theorem binC_ok {op : BinOp} {t : TypeId} {ox oy : Operand} {x y c : CV} {xv yv : Value} (hc : binC P op t x y = some c) (hx : VR w R h μ x xv) (hy : VR w R h μ y yv) :
  ∃ v, ((do eqGuard op t ox oy xv yv; binOp op t xv yv : Sem Value)).run P w = .ok v w ∧ VR w R h μ c v := by
 unfold binC at hc
 split at hc
 ·cases hx; cases hy
  obtain ⟨v, h1, h2⟩ := binInt_ok (P := P) (w := w) (R := R) (h := h) (μ := μ) (t := t) hc
  exact ⟨v, by simp [eqGuard_int, h1], h2⟩
 ·cases hx; cases hy
  obtain ⟨v, h1, h2⟩ := binStr_ok (P := P) (w := w) (R := R) (h := h) (μ := μ) (t := t) hc
  exact ⟨v, by simp [eqGuard_str, h1], h2⟩
 ·rename_i hni hns
  have key : ∀ b, eqOk P t x y = true → eqT P 10000 t x y = some b → EqShape xv yv ∧ (eqGuard op t ox oy xv yv).run P w = .ok () w ∧
    (binOp .eql t xv yv).run P w = .ok (.bool b) w ∧ (binOp .neq t xv yv).run P w = .ok (.bool (!b)) w := by
   intro b hok he
   have hsh := eqShape_of he hx hy hni hns
   have hg : ∀ a b, xv = .agg a → yv = .agg b → P.eqGuardType P.depth t = false := by
    rintro a b rfl rfl
    cases hx with
    | ag cs _ _ _ _ =>
     cases hy with
     | ag cs' _ _ _ _ => simpa [eqOk] using hok
     | bad => simp [eqT] at he
    | bad => cases hy <;> simp [eqT] at he
   have hq := eqT_ok 10000 t x y b xv yv he hx hy
   obtain ⟨k1, k2⟩ := run_eql_shape hsh hq
   exact ⟨hsh, eqGuard_ok hsh hg, k1, k2⟩
  split at hc
  ·split at hc
   ·rename_i hok
    cases he : eqT P 10000 t x y with
    | none => rw [he] at hc; cases hc
    | some b =>
     rw [he] at hc
     simp only [Option.map_some, Option.some.injEq] at hc; subst hc
     obtain ⟨_, k1, k2, _⟩ := key b hok he
     exact ⟨.bool b, by simp [k1, k2], .bool _⟩
   ·cases hc
  ·split at hc
   ·rename_i hok
    cases he : eqT P 10000 t x y with
    | none => rw [he] at hc; cases hc
    | some b =>
     rw [he] at hc
     simp only [Option.map_some, Option.some.injEq] at hc; subst hc
     obtain ⟨_, k1, _, k2⟩ := key b hok he
     exact ⟨.bool (!b), by simp [k1, k2], .bool _⟩
   ·cases hc
  ·cases hc
theorem unC_ok {op : UnOp} {x c : CV} {xv : Value} (hc : unC op x = some c) (hx : VR w R h μ x xv) : ∃ v, (Op.unary op xv).run P w = .ok v w ∧ VR w R h μ c v := by
 unfold unC at hc
 split at hc
 ·simp only [Option.some.injEq] at hc; subst hc
  cases hx
  exact ⟨_, by simp [Op.unary], .bool _⟩
 ·simp only [Option.some.injEq] at hc; subst hc
  cases hx
  refine ⟨_, ?_, .int _ _⟩
  simp only [Op.unary]; rfl
 ·simp only [Option.some.injEq] at hc; subst hc
  cases hx
  refine ⟨_, ?_, .int _ _⟩
  simp only [Op.unary]; rfl
 ·cases hc
theorem optVR_map {ρ : Operand → CV} {ρ' : Operand → Value} (hρ : ∀ x, VR w R h μ (ρ x) (ρ' x)) (o : Option Operand) : OptVR w R h μ (o.map ρ) (o.map ρ') := by
 cases o with
 | none => trivial
 | some x => exact hρ x
def StepOk (P : Program) (R : Nat → Prop) (B : Nat) (w : World) (h : Hp) (μ : Mu) (r : Result Next) : Res → Prop
 | .val c h' => Good R B w h μ r c h'
 | .call f args h' => h' = h ∧ ∃ vs : Array Value, r = .ok (.enter f vs) w ∧ vs.size = args.length ∧ ∀ (j : Nat) (c : CV) (v : Value), args[j]? = some c → vs[j]? = some v → VR w R h μ c v
theorem Good.mk {r : Result Next} {c : CV} {h' : Hp} {v : Value} {w' : World} {μ' : Mu} (hr : r = .ok (.value v) w') (he : Ext w h μ w' h' μ') (hl : Rel R B w' h' μ') (hv : VR w' R h' μ' c v) : Good R B w h μ r c h' :=
 ⟨v, w', μ', .inl hr, he, hl, hv⟩
theorem builtin_ok (rel : Rel R B w h μ) {b : Builtin} {ts : Array TypeId} {ty : TypeId} {consts : Array Bool} {args : List CV} {vs : Array Value} {r : Res} (hs : builtinC P h b ts.toList args = some r)
  (hl : vs.size = args.length) (hv : ∀ (j : Nat) (c : CV) (v : Value), args[j]? = some c → vs[j]? = some v → VR w R h μ c v) : StepOk P R B w h μ ((builtin b ts ty consts vs).run P w) r := by
 have one : ∀ x, args = [x] → ∃ xv, vs = #[xv] ∧ VR w R h μ x xv := by
  intro x hx
  subst hx
  simp only [List.length_cons, List.length_nil] at hl
  refine ⟨vs[0], ?_, hv 0 x _ rfl (by simp [hl])⟩
  apply Array.ext
  ·simpa using hl
  ·intro i h1 h2
   have : i = 0 := by omega
   subst this; rfl
 have two : ∀ x y, args = [x, y] → ∃ xv yv, vs = #[xv, yv] ∧ VR w R h μ x xv ∧ VR w R h μ y yv := by
  intro x y hx
  subst hx
  simp only [List.length_cons, List.length_nil] at hl
  refine ⟨vs[0], vs[1], ?_, hv 0 x _ rfl (by simp [hl]), hv 1 y _ rfl (by simp [hl])⟩
  apply Array.ext
  ·simpa using hl
  ·intro i h1 h2
   rcases (show i = 0 ∨ i = 1 by simp at h2; omega) with rfl | rfl <;> rfl
 have arr1 : ∀ t, ts.toList = [t] → ts = #[t] := fun t ht => by apply Array.toList_inj.1; simpa using ht
 have arr2 : ∀ t u, ts.toList = [t, u] → ts = #[t, u] := fun t u ht => by apply Array.toList_inj.1; simpa using ht
 unfold builtinC at hs
 split at hs
 ·rename_i t x hts
  obtain ⟨xv, rfl, hx⟩ := one x rfl
  obtain rfl := arr1 t hts
  split at hs
  ·rename_i c hc
   simp only [Option.some.injEq] at hs; subst hs
   obtain ⟨v, h1, h2⟩ := lenMap_ok (P := P) (ty := ty) rel hc hx
   exact Good.mk (by simp [builtin, h1]) (.refl _ _ _) rel h2
  cases hc : lenC P t x with
  | none => rw [hc] at hs; cases hs
  | some c =>
   rw [hc] at hs
   simp only [Option.map_some, Option.some.injEq] at hs; subst hs
   obtain ⟨v, h1, h2⟩ := len_ok (P := P) (u := t) (ty := ty) hc hx
   exact Good.mk (by simp [builtin, h1]) (.refl _ _ _) rel h2
 ·rename_i t u s x hts
  obtain ⟨sv, xv, rfl, hs', hx⟩ := two s x rfl
  obtain rfl := arr2 t u hts
  split at hs
  ·rename_i k hu
   cases hc : appendZC P h t s x with
   | none => rw [hc] at hs; cases hs
   | some c =>
    obtain ⟨c, h'⟩ := c
    rw [hc] at hs
    simp only [Option.map_some, Option.some.injEq] at hs; subst hs
    obtain ⟨v, w', μ', h1, h2, h3, h4⟩ := appendZ_ok (ty := ty) rel hu hc hs' hx
    exact Good.mk (by simp [builtin, h1]) h2 h3 h4
  ·cases hs
  ·rename_i hn1 hn2
   cases hc : appendC P h t s x with
   | none => rw [hc] at hs; cases hs
   | some c =>
    obtain ⟨c, h'⟩ := c
    rw [hc] at hs
    simp only [Option.map_some, Option.some.injEq] at hs; subst hs
    have hu : notInt P u := by
     cases hd : P.underlying u with
     | none => exact absurd hd hn2
     | some d => exact ⟨d, hd, fun k hk => hn1 k (by rw [hd, hk])⟩
    obtain ⟨v, w', μ', h1, h2, h3, h4⟩ := append_ok (ty := ty) rel hu hc hs' hx
    exact Good.mk (by simp [builtin, h1]) h2 h3 h4
 ·rename_i t u d x hts
  obtain ⟨dv, xv, rfl, hd, hx⟩ := two d x rfl
  obtain rfl := arr2 t u hts
  cases hc : copyC P h t d x with
  | none => rw [hc] at hs; cases hs
  | some c =>
   obtain ⟨c, h'⟩ := c
   rw [hc] at hs
   simp only [Option.map_some, Option.some.injEq] at hs; subst hs
   obtain ⟨v, w', h1, h2, h3, h4⟩ := copy_ok (u := u) (ty := ty) rel hc hd hx
   exact Good.mk (by simp [builtin, h1]) h2 h3 h4
 ·rename_i t x hts
  obtain ⟨xv, rfl, hx⟩ := one x rfl
  obtain rfl := arr1 t hts
  cases hc : capC P t x with
  | none => rw [hc] at hs; cases hs
  | some c =>
   rw [hc] at hs
   simp only [Option.map_some, Option.some.injEq] at hs; subst hs
   obtain ⟨v, h1, h2⟩ := cap_ok (P := P) (ty := ty) hc hx
   exact Good.mk (by simp [builtin, h1]) (.refl _ _ _) rel h2
 ·rename_i t x hts
  obtain ⟨xv, rfl, hx⟩ := one x rfl
  obtain rfl := arr1 t hts
  cases hc : clearC P h t x with
  | none => rw [hc] at hs; cases hs
  | some h' =>
   rw [hc] at hs
   simp only [Option.map_some, Option.some.injEq] at hs; subst hs
   obtain ⟨w', h1, h2, h3⟩ := clear_ok (P := P) (ty := ty) rel hc hx
   exact Good.mk (v := .tuple #[]) (by simp [builtin, h1]) h2 h3 (.tu [] #[] rfl (fun _ _ _ hh => by simp at hh))
 ·rename_i x y
  obtain ⟨xv, yv, rfl, hx, hy⟩ := two x y rfl
  cases hc : min2C x y with
  | none => rw [hc] at hs; cases hs
  | some c =>
   rw [hc] at hs
   simp only [Option.map_some, Option.some.injEq] at hs; subst hs
   unfold min2C at hc
   split at hc
   ·split at hc
    ·rename_i hk; subst hk
     simp only [Option.some.injEq] at hc; subst hc
     cases hx; cases hy
     refine Good.mk (v := .int _ _) ?_ (.refl _ _ _) rel (.int _ _)
     simp [builtin, Builtin.min_, Builtin.min2]
    ·cases hc
   ·cases hc
 ·rename_i x y
  obtain ⟨xv, yv, rfl, hx, hy⟩ := two x y rfl
  cases hc : max2C x y with
  | none => rw [hc] at hs; cases hs
  | some c =>
   rw [hc] at hs
   simp only [Option.map_some, Option.some.injEq] at hs; subst hs
   unfold max2C at hc
   split at hc
   ·split at hc
    ·rename_i hk; subst hk
     simp only [Option.some.injEq] at hc; subst hc
     cases hx; cases hy
     refine Good.mk (v := .int _ _) ?_ (.refl _ _ _) rel (.int _ _)
     simp [builtin, Builtin.max_, Builtin.max2]
    ·cases hc
   ·cases hc
 ·cases hs
theorem callF_ok {f : FuncId} {fn : Func} {vs : Array Value} (hf : P.funcs[f]? = some fn) (hb : fn.body.isSome = true) (hn : fn.name ≠ "runtime.NumGoroutine") : (callFunc f vs).run P w = .ok (.enter f vs) w := by
 have hb' : fn.body ≠ none := fun hh => by rw [hh] at hb; cases hb
 simp [callFunc, hf, hn, hb']
theorem list_ok {ρ : Operand → CV} {ρ' : Operand → Value} (hρ : ∀ x, VR w R h μ (ρ x) (ρ' x)) (xs : Array Operand) :
  ∀ (j : Nat) (c : CV) (v : Value), (xs.toList.map ρ)[j]? = some c → (xs.map ρ')[j]? = some v → VR w R h μ c v := by
 intro j c v hj hv
 rw [List.getElem?_map] at hj
 rw [Array.getElem?_map] at hv
 cases ho : xs[j]? with
 | none => simp [ho] at hv
 | some o =>
  simp [ho] at hj hv
  subst hj hv
  exact hρ o
theorem meth_ok {t : TypeId} {name : String} {g : FuncId} (hm : methC P t name = some g) (u : Value) : (Go.method (P.types.size + Made.depth) t u name).run P w = .ok (g, u) w := by
 unfold methC at hm
 split at hm
 ·cases hm
 ·cases hm
 ·rename_i hu1 hu2
  split at hm
  ·rename_i i hi
   split at hm
   ·rename_i m hf
    split at hm
    ·rename_i f hp hfn
     cases hm
     obtain ⟨k, hk⟩ : ∃ k, P.types.size + Made.depth = k + 1 := ⟨P.types.size + Made.depth - 1, by unfold Made.depth; omega⟩
     rw [hk]
     cases hd : P.underlying t with
     | none => exact absurd hd hu2
     | some d =>
      have hpe : m.path = #[] := Array.toList_eq_nil_iff.1 hp
      cases d <;> first
       | (exfalso; exact hu1 _ hd)
       | simp [Go.method, typeInfo, hi, hf, hp, hfn, follow, receiverAt, run_und hd, Place.get]
    ·cases hm
   ·cases hm
  ·cases hm
theorem tas_ok {t xt : TypeId} {ok : Bool} {z c x : CV} {v : Value} (hz : tasT P t = some z) (hc : tasC t z ok x = some c) (hx : VR w R h μ x v) :
  ∃ v', (Instr.typeAssert v xt t ok).run P w = .ok v' w ∧ VR w R h μ c v' := by
 unfold tasT at hz
 split at hz
 ·cases hz
 ·cases hz
 ·rename_i hu1 hu2
  cases hd : P.underlying t with
  | none => exact absurd hd hu2
  | some d =>
   obtain ⟨zv, hzr, hzv⟩ := zeroV_ok (P := P) (w := w) (R := R) (h := h) (μ := μ) hz
   have two : ∀ (a : CV) (va : Value) (q : Bool), VR w R h μ a va → VR w R h μ (.tu [a, .bool q]) (.tuple #[va, .bool q]) := by
    intro a va q ha
    refine .tu _ _ rfl (fun j c v hj hv => ?_)
    match j, hj, hv with
    | 0, hj, hv => simp at hj hv; subst hj hv; exact ha
    | 1, hj, hv => simp at hj hv; subst hj hv; exact .bool q
    | j + 2, hj, hv => simp at hj
   cases x <;> simp only [tasC] at hc <;> try (cases hc; done)
   case nilI =>
    cases hx
    cases ok <;> simp only at hc <;> cases hc
    refine ⟨.tuple #[zv, .bool false], ?_, two _ _ _ hzv⟩
    cases d <;> first
     | (exfalso; exact hu1 _ hd)
     | simp [Instr.typeAssert, run_und hd, hzr]
   case ifc t' c0 =>
    cases hx with
    | ifc _ _ u hu =>
     split at hc
     ·rename_i ht
      have ht := Nat.eq_of_beq_eq_true ht
      subst ht
      cases ok <;> simp only at hc <;> cases hc
      ·refine ⟨u, ?_, hu⟩
       cases d <;> first
        | (exfalso; exact hu1 _ hd)
        | simp [Instr.typeAssert, run_und hd]
      ·refine ⟨.tuple #[u, .bool true], ?_, two _ _ _ hu⟩
       cases d <;> first
        | (exfalso; exact hu1 _ hd)
        | simp [Instr.typeAssert, run_und hd]
     ·rename_i ht
      have ht : t' ≠ t := fun h => by rw [h, Nat.beq_refl] at ht; cases ht
      cases ok <;> simp only at hc <;> cases hc
      refine ⟨.tuple #[zv, .bool false], ?_, two _ _ _ hzv⟩
      cases d <;> first
       | (exfalso; exact hu1 _ hd)
       | simp [Instr.typeAssert, run_und hd, hzr, ht]
theorem call_ok (rel : Rel R B w h μ) {ρ : Operand → CV} {ρ' : Operand → Value} (hρ : ∀ x, VR w R h μ (ρ x) (ρ' x)) {c : Call} {ty : TypeId} {r : Res} (hs : callC P h ρ c = some r) :
  StepOk P R B w h μ ((do let d ← resolve ρ' c ty; invoke d.target d.args : Sem Next).run P w) r := by
 unfold callC at hs
 split at hs
 ·rename_i b hb
  have := fun consts => builtin_ok (P := P) (b := b) (ts := c.argTypes) (ty := ty) (consts := consts) (args := c.args.toList.map ρ) (vs := c.args.map ρ') rel hs (by simp)
   (fun j x v hj hv => by
    rw [List.getElem?_map] at hj
    rw [Array.getElem?_map] at hv
    cases ho : c.args[j]? with
    | none => simp [ho] at hv
    | some o =>
     simp [ho] at hj hv
     subst hj hv
     exact hρ o)
  simp only [resolve, hb, Sem.run_bind, Sem.run_pure, Result.andThen_ok, invoke]
  exact this _
 ·rename_i f hf
  split at hs
  ·rename_i g first captured hfn
   have hv := hρ f
   rw [hfn] at hv
   cases hfv : ρ' f with
   | func fn' fs cs =>
    rw [hfv] at hv
    cases hv with
    | fn _ _ _ _ _ h1 h2 h3 h4 =>
     split at hs
     ·rename_i fn hfun
      have hargs : ∀ (j : Nat) (x : CV) (v : Value), (first ++ c.args.toList.map ρ ++ captured)[j]? = some x → (fs ++ c.args.map ρ' ++ cs)[j]? = some v → VR w R h μ x v := by
       intro j x v hj hvj
       by_cases hlt1 : j < first.length
       ·rw [List.append_assoc, List.getElem?_append_left hlt1] at hj
        rw [Array.append_assoc, Array.getElem?_append_left (by omega)] at hvj
        exact h3 j x v hj hvj
       ·by_cases hlt2 : j < first.length + c.args.size
        ·rw [List.getElem?_append_left (by simp; omega), List.getElem?_append_right (by omega), List.getElem?_map] at hj
         rw [Array.getElem?_append_left (by simp; omega), Array.getElem?_append_right (by omega), Array.getElem?_map, h1] at hvj
         cases ho : c.args[j - first.length]? with
         | none => simp [ho] at hvj
         | some o =>
          simp [ho] at hj hvj
          subst hj hvj
          exact hρ o
        ·rw [List.getElem?_append_right (by simp; omega)] at hj
         rw [Array.getElem?_append_right (by simp; omega)] at hvj
         refine h4 _ x v hj ?_
         simpa [h1] using hvj
      split at hs
      ·rename_i hcond
       simp only [Option.some.injEq] at hs; subst hs
       refine ⟨rfl, fs ++ c.args.map ρ' ++ cs, ?_, by simp [h1, h2], hargs⟩
       simp [resolve, hf, hfv, Deferred.ofValue, invoke, callF_ok hfun hcond.1 hcond.2]
      ·split at hs
       ·rename_i hcmp
        cases hcc : cmpC h (first ++ c.args.toList.map ρ ++ captured) with
        | none => rw [hcc] at hs; cases hs
        | some cc =>
         rw [hcc] at hs
         simp only [Option.map_some, Option.some.injEq] at hs; subst hs
         obtain ⟨v, e1, e2⟩ := extCmp_ok (P := P) (vs := fs ++ c.args.map ρ' ++ cs) rel hfun hcmp hcc (by simp [h1, h2]) hargs
         rw [Array.append_assoc] at e1
         exact Good.mk (by simp [resolve, hf, hfv, Deferred.ofValue, invoke, e1]) (.refl _ _ _) rel e2
       ·cases hs
     ·cases hs
   | _ => rw [hfv] at hv; cases hv
  ·cases hs
 ·rename_i x name hc
  split at hs
  ·rename_i t v0 hx
   have hv := hρ x
   rw [hx] at hv
   split at hs
   ·rename_i g hm
    split at hs
    ·rename_i fn hfun
     split at hs
     ·rename_i hcond
      simp only [Option.some.injEq] at hs; subst hs
      cases hfv : ρ' x with
      | iface t' u =>
       rw [hfv] at hv
       cases hv with
       | ifc _ _ _ hu =>
        refine ⟨rfl, #[u] ++ c.args.map ρ', ?_, by simp; omega, ?_⟩
        ·have hmeth := meth_ok (P := P) (w := w) hm u
         have h0 : (#[Value.iface t u] ++ c.args.map ρ')[0]? = some (Value.iface t u) := by rw [Array.getElem?_append_left (by simp)]; rfl
         have hsz : (c.args.map ρ').extract 0 c.args.size = c.args.map ρ' := by
          apply Array.ext'
          simp [List.take_of_length_le]
         simp [h0, hsz, resolve, hc, hfv, invoke, callMethod, hmeth, callF_ok hfun hcond.1 hcond.2]
        ·intro j x v hj hvj
         cases j with
         | zero =>
          rw [Array.getElem?_append_left (by simp)] at hvj
          simp at hj hvj; subst hj hvj; exact hu
         | succ j =>
          rw [List.getElem?_cons_succ] at hj
          rw [Array.getElem?_append_right (by simp)] at hvj
          exact list_ok hρ c.args j x v hj (by simpa using hvj)
      | _ => rw [hfv] at hv; cases hv
     ·cases hs
    ·cases hs
   ·cases hs
  ·cases hs
theorem parts_ok {ρ : Operand → CV} {ρ' : Operand → Value} (hρ : ∀ x, VR w R h μ (ρ x) (ρ' x)) (ps : Array (Nat × Operand)) :
  (ps.map fun (i, x) => (i, ρ' x)).size = (ps.toList.map fun p => (p.1, ρ p.2)).length ∧
  ∀ (j : Nat) (p : Nat × CV) (p' : Nat × Value), (ps.toList.map fun p => (p.1, ρ p.2))[j]? = some p → (ps.map fun (i, x) => (i, ρ' x))[j]? = some p' → p'.1 = p.1 ∧ VR w R h μ p.2 p'.2 := by
 refine ⟨by simp, fun j p p' hj hj' => ?_⟩
 rw [List.getElem?_map] at hj
 rw [Array.getElem?_map] at hj'
 cases ho : ps[j]? with
 | none => simp [ho] at hj'
 | some o =>
  simp [ho] at hj hj'
  subst hj hj'
  exact ⟨rfl, hρ o.2⟩
theorem step_ok (rel : Rel R B w h μ) {ρ : Operand → CV} {ρ' : Operand → Value} (hρ : ∀ x, VR w R h μ (ρ x) (ρ' x)) (o : Oper) {r : Res} (hs : stepC P h ρ o.op = some r) :
  StepOk P R B w h μ ((execOp ρ' o).run P w) r := by
 obtain ⟨dst, op, type, pos, after, guard⟩ := o
 have ofOpt : ∀ {x : Option CV} {m : Sem Value}, (∀ c, x = some c → ∃ v, m.run P w = .ok v w ∧ VR w R h μ c v) → x.map (fun y => Res.val y h) = some r →
   StepOk P R B w h μ ((do pure (.value (← m)) : Sem Next).run P w) r := by
  intro x m hx hr
  cases hxc : x with
  | none => rw [hxc] at hr; cases hr
  | some c =>
   rw [hxc] at hr
   simp only [Option.map_some, Option.some.injEq] at hr; subst hr
   obtain ⟨v, h1, h2⟩ := hx c hxc
   exact Good.mk (by simp [h1]) (.refl _ _ _) rel h2
 have ofNew : ∀ {x : Option (CV × Hp)} {m : Sem Value}, (∀ c h', x = some (c, h') → ∃ v w' μ', m.run P w = .ok v w' ∧ Ext w h μ w' h' μ' ∧ Rel R B w' h' μ' ∧ VR w' R h' μ' c v) → x.map (fun y => Res.val y.1 y.2) = some r →
   StepOk P R B w h μ ((do pure (.value (← m)) : Sem Next).run P w) r := by
  intro x m hx hr
  cases hxc : x with
  | none => rw [hxc] at hr; cases hr
  | some c =>
   obtain ⟨c, h'⟩ := c
   rw [hxc] at hr
   simp only [Option.map_some, Option.some.injEq] at hr; subst hr
   obtain ⟨v, w', μ', h1, h2, h3, h4⟩ := hx c h' hxc
   exact Good.mk (by simp [h1]) h2 h3 h4
 cases op
 case move x =>
  simp only [stepC, Option.some.injEq] at hs; subst hs
  exact Good.mk (by simp [execOp]) (.refl _ _ _) rel (hρ x)
 case assign x =>
  simp only [stepC, Option.some.injEq] at hs; subst hs
  exact Good.mk (by simp [execOp]) (.refl _ _ _) rel (hρ x)
 case pick c a b =>
  simp only [stepC] at hs
  have hcv := hρ c
  cases hc : ρ c <;> rw [hc] at hs hcv <;> simp only at hs <;> try (cases hs; done)
  simp only [Option.some.injEq] at hs; subst hs
  cases hv : ρ' c <;> rw [hv] at hcv <;> try (cases hcv; done)
  cases hcv
  rename_i t
  cases t
  ·exact Good.mk (v := ρ' b) (by simp [execOp, hv, asBool]) (.refl _ _ _) rel (by simpa using hρ b)
  ·exact Good.mk (v := ρ' a) (by simp [execOp, hv, asBool]) (.refl _ _ _) rel (by simpa using hρ a)
 case alloc t =>
  simp only [stepC] at hs
  cases hz : zeroT P t with
  | none => rw [hz] at hs; cases hs
  | some z =>
   rw [hz] at hs
   simp only [Option.map_some, Option.some.injEq] at hs; subst hs
   obtain ⟨v, hv, hr⟩ := zero_row (P := P) (w := w) (R := R) (h := h) (μ := μ) hz
   obtain ⟨a1, a2, a3⟩ := alloc_ok rel (cs := z) (vs := v.cells) t hr.1 hr.2
   exact Good.mk (by simp [execOp, Instr.alloc, hv, newVar, newRow]) a1 a2 (a3 0)
 case box t x =>
  simp only [stepC] at hs
  cases hz : (ρ x).cells with
  | none => rw [hz] at hs; cases hs
  | some z =>
   rw [hz] at hs
   simp only [Option.map_some, Option.some.injEq] at hs; subst hs
   obtain ⟨k1, k2⟩ := cells_ok (hρ x) hz
   obtain ⟨a1, a2, a3⟩ := alloc_ok rel (cs := z) (vs := (ρ' x).cells) t k1 k2
   exact Good.mk (by simp [execOp, Instr.box, newVar, newRow]) a1 a2 (a3 0)
 case build t parts =>
  obtain ⟨k1, k2⟩ := parts_ok hρ parts
  exact ofOpt (fun c hc => build_ok hc k1 k2) hs
 case buildSlice t len parts =>
  obtain ⟨k1, k2⟩ := parts_ok hρ parts
  exact ofNew (fun c h' hc => buildSlice_ok rel hc k1 k2) hs
 case load t a => exact ofOpt (fun c hc => load_ok rel hc (hρ a)) hs
 case store t a x =>
  simp only [stepC] at hs
  cases hst : storeC P h t (ρ a) (ρ x) with
  | none => rw [hst] at hs; cases hs
  | some h' =>
   rw [hst] at hs
   simp only [Option.map_some, Option.some.injEq] at hs; subst hs
   obtain ⟨w', h1, h2, h3⟩ := store_ok (P := P) rel hst (hρ a) (hρ x)
   exact ⟨undef, w', μ, .inr ⟨by simp [execOp, h1], rfl⟩, h2, h3, .tu [] #[] rfl (fun _ _ _ hh => by simp at hh)⟩
 case nilCheck x =>
  simp only [stepC] at hs
  have hv := hρ x
  cases hc : ρ x <;> rw [hc] at hs hv <;> simp only at hs <;> try (cases hs; done)
  all_goals
   simp only [Option.some.injEq] at hs; subst hs
   cases hx : ρ' x <;> rw [hx] at hv <;> try (cases hv; done)
   rename_i y
   refine Good.mk (v := ρ' x) ?_ (.refl _ _ _) rel (by rw [hx]; exact hv)
   cases hv <;> simp [execOp, hx]
 case binOp op t x y yt => exact ofOpt (fun c hc => binC_ok hc (hρ x) (hρ y)) hs
 case unOp op t x => exact ofOpt (fun c hc => unC_ok hc (hρ x)) hs
 case convert s d x =>
  simp only [stepC] at hs
  split at hs
  ·rename_i c hc
   simp only [Option.some.injEq] at hs; subst hs
   obtain ⟨v, w', h1, h2, h3, h4⟩ := bytesStr_ok rel hc (hρ x)
   exact Good.mk (by simp [execOp, h1]) h2 h3 h4
  ·exact ofOpt (fun c hc => convert_ok rel hc (hρ x)) hs
 case makeInterface t x =>
  simp only [stepC] at hs
  cases hu : P.underlying t with
  | none => rw [hu] at hs; cases hs
  | some d =>
   rw [hu] at hs
   cases d <;> simp only at hs <;> try (cases hs; done)
   all_goals
    simp only [Option.some.injEq] at hs; subst hs
    exact Good.mk (v := .iface t (ρ' x)) (by simp [execOp, Instr.makeInterface, run_und hu]) (.refl _ _ _) rel (.ifc t _ _ (hρ x))
 case makeFunc fn first captured =>
  cases fn <;> simp only [stepC] at hs <;> try (cases hs; done)
  simp only [Option.some.injEq] at hs; subst hs
  exact Good.mk (by simp [execOp, Instr.makeFunc]) (.refl _ _ _) rel (.fn _ _ _ _ _ (by simp) (by simp) (list_ok hρ first) (list_ok hρ captured))
 case makeSlice t l c => exact ofNew (fun c' h' hc => makeSlice_ok rel hc (hρ l) (hρ c)) hs
 case slice t x lo hi mx => exact ofOpt (fun c hc => slice_ok rel hc (hρ x) (optVR_map hρ lo) (optVR_map hρ hi) (optVR_map hρ mx)) hs
 case fieldAddr s x f => exact ofOpt (fun c hc => fieldAddr_ok hc (hρ x)) hs
 case field t x f =>
  simp only [stepC] at hs
  split at hs
  ·rename_i cs fd hx hf
   have hv := hρ x
   rw [hx] at hv
   exact ofOpt (fun c hc => field_ok hf hc hv) hs
  ·cases hs
 case indexAddr t x i => exact ofOpt (fun c hc => indexAddr_ok hc (hρ x) (hρ i)) hs
 case index t x i => exact ofOpt (fun c hc => index_ok hc (hρ x) (hρ i)) hs
 case extract x i =>
  simp only [stepC] at hs
  have hv := hρ x
  cases hc : ρ x <;> rw [hc] at hs hv <;> simp only at hs <;> try (cases hs; done)
  rename_i vs
  cases hx : ρ' x <;> rw [hx] at hv <;> try (cases hv; done)
  rename_i arr
  cases hv with
  | tu _ _ hl hvv =>
   refine ofOpt (m := Instr.extract (ρ' x) i) (fun c hc => ?_) hs
   have hlt : i < arr.size := by rw [hl]; exact (List.getElem?_eq_some_iff.1 hc).1
   exact ⟨arr[i], by simp [Instr.extract, hx, hlt], hvv i c _ hc (by simp [hlt])⟩
 case call c => exact call_ok rel hρ hs
 case makeMap t r =>
  simp only [stepC] at hs
  split at hs
  ·rename_i k e hu hr
   simp only [Option.some.injEq] at hs; subst hs
   obtain ⟨v, w', μ', h1, h2, h3, h4⟩ := makeMap_ok (P := P) (t := t) (r := r.map ρ') rel ⟨_, _, hu⟩ (fun x hx => by
    cases r with
    | none => cases hx
    | some o =>
     simp only [Option.map_some, Option.some.injEq] at hx; subst hx
     simp only at hr
     cases hi : asInt (ρ o) with
     | none => rw [hi] at hr; cases hr
     | some n =>
      obtain ⟨k, hk⟩ := asInt_ok hi (hρ o)
      exact ⟨k, n, hk⟩)
   exact Good.mk (by simp [execOp, h1]) h2 h3 h4
  ·cases hs
 case lookup t m k ok => exact ofOpt (fun c hc => lookup_ok rel hc (hρ m) (hρ k)) hs
 case mapUpdate t m k x =>
  simp only [stepC] at hs
  cases hst : mapUpdC P h t (ρ m) (ρ k) (ρ x) with
  | none => rw [hst] at hs; cases hs
  | some h' =>
   rw [hst] at hs
   simp only [Option.map_some, Option.some.injEq] at hs; subst hs
   obtain ⟨w', h1, h2, h3⟩ := mapUpd_ok (P := P) rel hst (hρ m) (hρ k) (hρ x)
   exact ⟨undef, w', μ, .inr ⟨by simp [execOp, h1], rfl⟩, h2, h3, .tu [] #[] rfl (fun _ _ _ hh => by simp at hh)⟩
 case insert t m k x =>
  simp only [stepC] at hs
  cases hst : mapUpdC P h t (ρ m) (ρ k) (ρ x) with
  | none => rw [hst] at hs; cases hs
  | some h' =>
   rw [hst] at hs
   simp only [Option.map_some, Option.some.injEq] at hs; subst hs
   obtain ⟨w', h1, h2, h3⟩ := mapUpd_ok (P := P) rel hst (hρ m) (hρ k) (hρ x)
   exact ⟨undef, w', μ, .inr ⟨by simp [execOp, h1], rfl⟩, h2, h3, .tu [] #[] rfl (fun _ _ _ hh => by simp at hh)⟩
 case range t x => exact ofNew (fun c h' hc => rangeStr_ok rel hc (hρ x)) hs
 case next it isS =>
  cases isS with
  | false => simp only [stepC] at hs; cases hs
  | true => exact ofNew (fun c h' hc => by obtain ⟨v, w', h1, h2, h3, h4⟩ := nextStr_ok (P := P) (ty := type) rel hc (hρ it); exact ⟨v, w', μ, h1, h2, h3, h4⟩) hs
 case typeAssert x xt t ok =>
  simp only [stepC] at hs
  split at hs
  ·rename_i z hz
   exact ofOpt (fun c hc => tas_ok hz hc (hρ x)) hs
  ·cases hs
 all_goals (simp only [stepC] at hs; cases hs)
end
inductive CExit where
 | normal
 | exit (id : Nat)
 | ret
def CExit.out : CExit → Exit
 | .normal => .normal
 | .exit id => .exit id
 | .ret => .ret
def wantedC (ops : Array Oper) (σ : Nat → CV) (o : Oper) : Option Bool :=
 match o.guard with
 | none => some true
 | some (j, want) => match (ops[j]?).bind (·.dst) with
  | none => some false
  | some d => match σ d with
   | .bool b => some (b == want)
   | .bad => none
   | _ => some false
def putC (σ : Nat → CV) (dst : Option Tmp) (c : CV) : Nat → CV := match dst with | some d => fupd σ d c | none => σ
def dstOk (N : Nat) (dst : Option Tmp) : Bool := match dst with | some d => decide (d < N) | none => true
def resOne (P : Program) (h : Hp) (σ : Nat → CV) : ResultVar → Option CV
 | .tmp t => some (σ t)
 | .cell a t => loadC P h t (σ a)
def resList (P : Program) (h : Hp) (σ : Nat → CV) : List ResultVar → Option (List CV)
 | [] => some []
 | r :: rs => match resOne P h σ r, resList P h σ rs with
  | some v, some vs => some (v :: vs)
  | _, _ => none
def tuple1 : List CV → CV
 | [v] => v
 | vs => .tu vs
def resC (P : Program) (h : Hp) (σ : Nat → CV) (fn : Func) : Option CV := (resList P h σ fn.results.toList).map tuple1
mutual
def CV.closed : CV → Bool
 | .ag cs => closedL cs
 | .tu cs => closedL cs
 | .rptr cs _ => closedL cs
 | .rsl _ es => closedLL es
 | .fn _ a b => closedL a && closedL b
 | .ifc _ v => v.closed
 | .ptr .. | .sl .. | .mp _ | .it _ => false
 | _ => true
def closedL : List CV → Bool
 | [] => true
 | c :: cs => c.closed && closedL cs
def closedLL : List (List CV) → Bool
 | [] => true
 | c :: cs => closedL c && closedLL cs
end
def VR0 (w : World) (A : Nat → Prop) (c : CV) (v : Value) : Prop := VR w A Hp.empty (fun _ => none) c v
structure Blw (w w' : World) : Prop extends RowKit.Below w.heap.size w w' where
 drawn : w.drawn ≤ w'.drawn
def Gok (G : Nat → CV) (w : World) (R : Nat → Prop) (h : Hp) (μ : Mu) : Prop := ∀ g, (G g).closed = true ∧ VR w R h μ (G g) (.pointer (some ⟨g, 0, none⟩))
def CallS (P : Program) (G : Nat → CV) (f : FuncId) (args : List CV) (h : Hp) (r : CV) (h' : Hp) : Prop :=
 ∀ (R : Nat → Prop) (B : Nat) (w : World) (μ : Mu) (vs : Array Value), Rel R B w h μ → Gok G w R h μ → vs.size = args.length →
  (∀ (j : Nat) (c : CV) (v : Value), args[j]? = some c → vs[j]? = some v → VR w R h μ c v) →
  Calls P f vs w fun e w' => ∃ v μ', e = .returned v ∧ Ext w h μ w' h' μ' ∧ Rel R B w' h' μ' ∧ VR w' R h' μ' r v
def PureC (P : Program) (G : Nat → CV) (f : FuncId) (args : List CV) (r : CV) : Prop :=
 ∀ (w : World) (A : Nat → Prop) (vs : Array Value), (∀ g, VR0 w A (G g) (.pointer (some ⟨g, 0, none⟩))) → vs.size = args.length →
  (∀ (j : Nat) (c : CV) (v : Value), args[j]? = some c → vs[j]? = some v → VR0 w A c v) →
  Calls P f vs w fun e w' => ∃ v, e = .returned v ∧ Blw w w' ∧ VR0 w' (fun k => A k ∨ w.heap.size ≤ k) r v
def PureN (P : Program) (G : Nat → CV) (f : FuncId) (args : List CV) (r : CV) : Prop :=
 ∀ (w : World) (A : Nat → Prop) (vs : Array Value), (∀ g, VR0 w A (G g) (.pointer (some ⟨g, 0, none⟩))) → vs.size = args.length →
  (∀ (j : Nat) (c : CV) (v : Value), args[j]? = some c → vs[j]? = some v → VR0 w A c v) →
  Calls P f vs w fun e w' => ∃ v, e = .returned v ∧ Blw w w' ∧ VR0 w' (fun k => w.heap.size ≤ k) r v
inductive RdH (h : Hp) : CV → CV → Prop
 | same (c : CV) (hc : c.closed = true) : RdH h c c
 | ag (cs cs' : List CV) (hl : cs'.length = cs.length) (hv : ∀ (j : Nat) (c c' : CV), cs[j]? = some c → cs'[j]? = some c' → RdH h c c') : RdH h (.ag cs) (.ag cs')
 | tu (cs cs' : List CV) (hl : cs'.length = cs.length) (hv : ∀ (j : Nat) (c c' : CV), cs[j]? = some c → cs'[j]? = some c' → RdH h c c') : RdH h (.tu cs) (.tu cs')
 | sl (z b off len cap sz : Nat) (cs : List CV) (es : List (List CV)) (hb : h.f b = .cells sz cs) (hl : es.length = len) (hz : ∀ e ∈ es, e.length = z)
   (hin : off + len * z ≤ cs.length)
   (hv : ∀ (i j : Nat) (e : List CV) (c c' : CV), es[i]? = some e → e[j]? = some c' → cs[off + (i * z + j)]? = some c → RdH h c c') : RdH h (.sl z b off len cap sz) (.rsl z es)
 | sl0 (z b off cap sz : Nat) : RdH h (.sl z b off 0 cap sz) (.rsl z [])
 | ptr (b off sz : Nat) (cs cs' : List CV) (hb : h.f b = .cells sz cs) (hl : cs'.length = cs.length) (hv : ∀ (j : Nat) (c c' : CV), cs[j]? = some c → cs'[j]? = some c' → RdH h c c') : RdH h (.ptr b off sz) (.rptr cs' off)
mutual
def CV.flat : CV → Bool
 | .ag cs => flatL cs
 | .tu cs => flatL cs
 | .ifc _ v => v.flat
 | .bool _ | .int .. | .str _ | .nilP | .nilS | .nilM | .nilF | .nilI => true
 | _ => false
def flatL : List CV → Bool
 | [] => true
 | c :: cs => c.flat && flatL cs
end
inductive Cls where
 | pure | new | eff
def newC (P : Program) (ρ : Operand → CV) : Op → Option (List CV × (Nat → CV))
 | .alloc t => (zeroT P t).map fun z => (z, fun b => .ptr b 0 z.length)
 | .box _ x => (ρ x).cells.map fun cs => (cs, fun b => .ptr b 0 cs.length)
 | .buildSlice t len parts => match elemT P t with
  | some e => match sizeT P e, zeroT P e with
   | some z, some zero => if zero.length = z ∧ len * z ≤ 16777216 then
     (fillC (fun i => some (i * z, z)) (repeatC zero len) (parts.toList.map fun p => (p.1, ρ p.2))).map fun cs => (cs, fun b => .sl z b 0 len len (len * z))
    else none
   | _, _ => none
  | none => none
 | .makeSlice t l c => match elemT P t, asInt (ρ l), asInt (ρ c) with
  | some e, some l, some c => match sizeT P e, bytesT P e, zeroT P e with
   | some z, some by_, some zero =>
    if zero.length = z ∧ 0 ≤ l ∧ l ≤ c ∧ c < 9223372036854775808 ∧ by_ * c ≤ roomMax then
     some (repeatC zero c.toNat, fun b => .sl z b 0 l.toNat c.toNat (c.toNat * z))
    else none
   | _, _, _ => none
  | _, _, _ => none
 | _ => none
def writer (ops : Array Oper) (t : Nat) : Option Nat := (List.range ops.size).find? fun i => match ops[i]? with | some o => o.dst == some t | none => false
def envOf (ops : Array Oper) (pre : Nat → Nat → Bool) (val : Nat → CV) (σ : Nat → CV) (i : Nat) (o : Oper) : Nat → CV := fun t =>
 if (o.looksAt ops).contains t then
  match writer ops t with
  | some j => if pre i j then val j else σ t
  | none => σ t
 else .bad
structure DrawText (ops : Array Oper) (pre : Nat → Nat → Bool) : Prop where
 edge : ∀ (i : Nat) (o : Oper) (e : Edge), ops[i]? = some o → e ∈ o.after → Region.binds .any e = true → e.on < i
 chain : ∀ (i : Nat) (o : Oper) (j : Nat), ops[i]? = some o → pre i j = true → ∃ e ∈ o.after, Region.binds .any e = true ∧ (e.on = j ∨ pre e.on j = true)
 one : ∀ (i : Nat) (o : Oper) (t : Tmp), ops[i]? = some o → o.dst = some t → writer ops t = some i
 acc : ∀ (i : Nat) (o : Oper) (t : Tmp) (j : Nat), ops[i]? = some o → t ∈ o.looksAt ops → writer ops t = some j → pre i j = true ∨ pre j i = true ∨ j = i
 sel : Region.noSelect ops = true
def pushes (h : Hp) (l : List (List CV)) : Hp := l.foldl (fun h cs => h.push (.cells cs.length cs)) h
def Grows (h h' : Hp) : Prop := ∃ l, h' = pushes h l
theorem pushes_n : ∀ (l : List (List CV)) (h : Hp), (pushes h l).n = h.n + l.length
 | [], h => rfl
 | c :: l, h => by
  have := pushes_n l (h.push (.cells c.length c))
  simp only [pushes, List.foldl_cons, List.length_cons] at this ⊢
  rw [this]
  simp only [push_f, push_n]; omega
theorem pushes_same : ∀ (l : List (List CV)) (h : Hp) (b : Nat), b < h.n → (pushes h l).f b = h.f b
 | [], h, b, _ => rfl
 | c :: l, h, b, hb => by
  have := pushes_same l (h.push (.cells c.length c)) b (by simp only [push_f, push_n]; omega)
  simp only [pushes, List.foldl_cons] at this ⊢
  rw [this]
  simp only [push_f, push_n]
  exact fupd_ne _ _ _ _ (by omega)
theorem pushes_fresh : ∀ (l : List (List CV)) (h : Hp), (∀ b, h.n ≤ b → h.f b = .none) → ∀ b, (pushes h l).n ≤ b → (pushes h l).f b = .none
 | [], h, hf => hf
 | c :: l, h, hf => by
  refine pushes_fresh l (h.push (.cells c.length c)) (fun b hb => ?_)
  simp only [push_f, push_n] at hb ⊢
  rw [fupd_ne _ _ _ _ (by omega)]
  exact hf b (by omega)
theorem Grows.n {h h' : Hp} (g : Grows h h') : h.n ≤ h'.n := by obtain ⟨l, rfl⟩ := g; rw [pushes_n]; omega
theorem Grows.same {h h' : Hp} (g : Grows h h') (b : Nat) (hb : b < h.n) : h'.f b = h.f b := by obtain ⟨l, rfl⟩ := g; exact pushes_same l h b hb
theorem Grows.fresh {h h' : Hp} (g : Grows h h') (hf : ∀ b, h.n ≤ b → h.f b = .none) : ∀ b, h'.n ≤ b → h'.f b = .none := by obtain ⟨l, rfl⟩ := g; exact pushes_fresh l h hf
inductive RdK (h h2 : Hp) : CV → CV → Prop
 | same (c : CV) : RdK h h2 c c
 | ag (cs cs' : List CV) (hl : cs'.length = cs.length) (hv : ∀ (j : Nat) (c c' : CV), cs[j]? = some c → cs'[j]? = some c' → RdK h h2 c c') : RdK h h2 (.ag cs) (.ag cs')
 | sl (z b off len cap sz : Nat) (cs : List CV) (es : List (List CV)) (hb : h.f b = .cells sz cs) (hd : h2.f b = .dead) (hl : es.length = len) (hz : ∀ e ∈ es, e.length = z)
   (hin : off + len * z ≤ cs.length)
   (hv : ∀ (i j : Nat) (e : List CV) (c c' : CV), es[i]? = some e → e[j]? = some c' → cs[off + (i * z + j)]? = some c → RdK h h2 c c') : RdK h h2 (.sl z b off len cap sz) (.rsl z es)
 | sl0 (z b off cap sz : Nat) : RdK h h2 (.sl z b off 0 cap sz) (.rsl z [])
structure Wk (h h2 : Hp) : Prop where
 n : h2.n = h.n
 blk : ∀ b, h2.f b = h.f b ∨ ∃ sz cs, h.f b = .cells sz cs ∧ (h2.f b = .dead ∨ ∃ cs2, h2.f b = .cells sz cs2 ∧ cs2.length = cs.length ∧ ∀ (j : Nat) (c c2 : CV), cs[j]? = some c → cs2[j]? = some c2 → RdK h h2 c c2)
inductive J where
 | code (c : Code) (N : Nat) (σ : Nat → CV) (h : Hp) (e : CExit) (σ' : Nat → CV) (h' : Hp)
 | ops (all : Array Oper) (l : List Oper) (N : Nat) (σ : Nat → CV) (h : Hp) (σ' : Nat → CV) (h' : Hp)
 | op (op : Op) (σ : Nat → CV) (h : Hp) (v : CV) (h' : Hp)
 | call (f : FuncId) (args : List CV) (h : Hp) (r : CV) (h' : Hp)
def feas (pre : Nat → Nat → Bool) (m : Nat) (hs : Nat → Nat) (i k : Nat) : Prop := k ≤ m ∧ (∀ q, q < m → pre i (hs q) = true → q < k) ∧ ∀ q, q < m → pre (hs q) i = true → k ≤ q
inductive Ev (P : Program) (G : Nat → CV) : J → Prop where
 | skip (N σ h) : Ev P G (.code .skip N σ h .normal σ h)
 | label (l N σ h) : Ev P G (.code (.label l) N σ h .normal σ h)
 | ret (N σ h) : Ev P G (.code .ret N σ h .ret σ h)
 | exit (id N σ h) : Ev P G (.code (.exit id) N σ h (.exit id) σ h)
 | seqN {a b N σ h σ1 h1 e σ' h'} : Ev P G (.code a N σ h .normal σ1 h1) → Ev P G (.code b N σ1 h1 e σ' h') → Ev P G (.code (.seq a b) N σ h e σ' h')
 | seqX {a b N σ h e σ' h'} : Ev P G (.code a N σ h e σ' h') → e ≠ .normal → Ev P G (.code (.seq a b) N σ h e σ' h')
 | cond {c x y N σ h b e σ' h'} : ev G σ c = .bool b → Ev P G (.code (if b then x else y) N σ h e σ' h') → Ev P G (.code (.cond c x y) N σ h e σ' h')
 | blockN {id c N σ h e σ' h'} : Ev P G (.code c N σ h e σ' h') → e ≠ .exit id → Ev P G (.code (.block id c) N σ h e σ' h')
 | blockX {id c N σ h σ' h'} : Ev P G (.code c N σ h (.exit id) σ' h') → Ev P G (.code (.block id c) N σ h .normal σ' h')
 | loopN {c N σ h σ1 h1 e σ' h'} : Ev P G (.code c N σ h .normal σ1 h1) → Ev P G (.code (.loop c) N σ1 h1 e σ' h') → Ev P G (.code (.loop c) N σ h e σ' h')
 | loopX {c N σ h e σ' h'} : Ev P G (.code c N σ h e σ' h') → e ≠ .normal → Ev P G (.code (.loop c) N σ h e σ' h')
 | scope {c N σ h e σ' h'} : Ev P G (.code c N σ h e σ' h') → Ev P G (.code (.scope c) N σ h e σ' h')
 | region {id ops N σ h σ' h'} : Ev P G (.ops ops ops.toList N σ h σ' h') → Ev P G (.code (.region id ops false) N σ h .normal σ' h')
 | draw {id ops N σ h σ' h'} (pre : Nat → Nat → Bool) (val : Nat → CV) (W : Nat → Bool) (cls : Nat → Cls) (m : Nat) (hs : Nat → Nat) (Hk H1 : Nat → Hp) (bid : Nat → Nat) (cells : Nat → List CV)
   (txt : DrawText ops pre)
   (hdst : ∀ (i : Nat) (o : Oper), ops[i]? = some o → dstOk N o.dst = true)
   (h0 : Grows h (Hk 0)) (hm : h' = Hk m) (hσ : σ' = fun t => match writer ops t with | some i => val i | none => σ t)
   (heff : ∀ (i : Nat) (o : Oper), ops[i]? = some o → W i = true → cls i = .eff → ∃ q, q < m ∧ hs q = i)
   (heff' : ∀ q, q < m → ∃ o, ops[hs q]? = some o ∧ W (hs q) = true ∧ cls (hs q) = .eff)
   (hord : ∀ q q', q < m → q' < m → q < q' → pre (hs q') (hs q) = true)
   (hinj : ∀ q q', q < m → q' < m → hs q = hs q' → q = q')
   (hwant : ∀ (i : Nat) (o : Oper), ops[i]? = some o → wantedC ops (envOf ops pre val σ i o) o = some (W i))
   (hskip : ∀ (i : Nat) (o : Oper), ops[i]? = some o → W i = false → val i = undefC)
   (hpure : ∀ (i : Nat) (o : Oper), ops[i]? = some o → W i = true → cls i = .pure → ∀ k, feas pre m hs i k → stepC P (Hk k) (ev G (envOf ops pre val σ i o)) o.op = some (.val (val i) (Hk k)))
   (hnew : ∀ (i : Nat) (o : Oper), ops[i]? = some o → W i = true → cls i = .new → ∃ mk, newC P (ev G (envOf ops pre val σ i o)) o.op = some (cells i, mk) ∧ val i = mk (bid i) ∧ h.n ≤ bid i ∧
    ∀ k, feas pre m hs i k → (Hk k).f (bid i) = .cells (cells i).length (cells i))
   (hbid : ∀ (i j : Nat) (o o' : Oper), ops[i]? = some o → ops[j]? = some o' → W i = true → W j = true → cls i = .new → cls j = .new → bid i = bid j → i = j)
   (hbid' : ∀ (i : Nat) (o : Oper) (q : Nat), ops[i]? = some o → W i = true → cls i = .new → q < m → bid i < (Hk q).n ∨ (H1 q).n ≤ bid i)
   (hgrow : ∀ q, q < m → Grows (H1 q) (Hk (q + 1)))
   (hcall : ∀ (q : Nat) (o : Oper), q < m → ops[hs q]? = some o → Ev P G (.op o.op (envOf ops pre val σ (hs q) o) (Hk q) (val (hs q)) (H1 q))) :
   Ev P G (.code (.region id ops true) N σ h .normal σ' h')
 | opsNil {all N σ h} : Ev P G (.ops all [] N σ h σ h)
 | opsSkip {all o l N σ h σ' h'} : wantedC all σ o = some false → dstOk N o.dst = true → Ev P G (.ops all l N (putC σ o.dst undefC) h σ' h') → Ev P G (.ops all (o :: l) N σ h σ' h')
 | opsOp {all o l N σ h v h1 σ' h'} : wantedC all σ o = some true → dstOk N o.dst = true → Ev P G (.op o.op σ h v h1) → Ev P G (.ops all l N (putC σ o.dst v) h1 σ' h') → Ev P G (.ops all (o :: l) N σ h σ' h')
 | opVal {op σ h v h'} : stepC P h (ev G σ) op = some (.val v h') → Ev P G (.op op σ h v h')
 | opCall {op σ h f args h1 v h'} : stepC P h (ev G σ) op = some (.call f args h1) → Ev P G (.call f args h1 v h') → Ev P G (.op op σ h v h')
 | wkOp {op σ h v h' v2 h2} : Ev P G (.op op σ h v h') → Wk h' h2 → RdK h' h2 v v2 → Ev P G (.op op σ h v2 h2)
 | inline {f fn c args h e σ' h' r} : P.funcs[f]? = some fn → fn.body = some c →
   Ev P G (.code c (args.length + (fn.ntmps - args.length)) (fun t => args.getD t undefC) h e σ' h') → (e = .normal ∨ e = .ret) → resC P h' σ' fn = some r → Ev P G (.call f args h r h')
 | pure {f args h r} : PureC P G f args r → closedL args = true → Ev P G (.call f args h r h)
 | pureB {f args args' h r} : PureC P G f args' r → args'.length = args.length → (∀ (j : Nat) (c c' : CV), args[j]? = some c → args'[j]? = some c' → RdH h c c') → r.flat = true → Ev P G (.call f args h r h)
 | ext {f args h r h'} : CallS P G f args h r h' → Ev P G (.call f args h r h')
 | pureN {f args args' h r} : PureN P G f args' r → args'.length = args.length → (∀ (j : Nat) (c c' : CV), args[j]? = some c → args'[j]? = some c' → RdH h c c') → Ev P G (.call f args h r h)
section
variable {P : Program} {G : Nat → CV}
structure SR (N : Nat) (w : World) (R : Nat → Prop) (h : Hp) (μ : Mu) (σ : Nat → CV) (a : Act) : Prop where
 size : a.tmps.size = N
 defers : a.defers = []
 val : ∀ t, VR w R h μ (σ t) (a.tmps.getD t undef)
theorem Gok.ext {w w' : World} {R : Nat → Prop} {h h' : Hp} {μ μ' : Mu} (g : Gok G w R h μ) (e : Ext w h μ w' h' μ') : Gok G w' R h' μ' := fun i => ⟨(g i).1, (g i).2.ext e⟩
theorem SR.ext {N : Nat} {w w' : World} {R : Nat → Prop} {h h' : Hp} {μ μ' : Mu} {σ : Nat → CV} {a : Act} (s : SR N w R h μ σ a) (e : Ext w h μ w' h' μ') : SR N w' R h' μ' σ a :=
 ⟨s.size, s.defers, fun t => (s.val t).ext e⟩
theorem SR.ev {N : Nat} {w : World} {R : Nat → Prop} {h : Hp} {μ : Mu} {σ : Nat → CV} {a : Act} (s : SR N w R h μ σ a) (g : Gok G w R h μ) (x : Operand) : VR w R h μ (ev G σ x) (a.eval x) := by
 cases x with
 | tmp t => exact s.val t
 | const v => exact VR.ofV v
 | global i => exact (g i).2
 | func f => exact .fn f [] [] #[] #[] rfl rfl (fun _ _ _ hh => by simp at hh) (fun _ _ _ hh => by simp at hh)
theorem undef_ok {w : World} {R : Nat → Prop} {h : Hp} {μ : Mu} : VR w R h μ undefC undef := .tu [] #[] rfl (fun _ _ _ hh => by simp at hh)
theorem SR.put {N : Nat} {w : World} {R : Nat → Prop} {h : Hp} {μ : Mu} {σ : Nat → CV} {a : Act} (s : SR N w R h μ σ a) {dst : Option Tmp} (hd : dstOk N dst = true) {c : CV} {v : Value} (hv : VR w R h μ c v) :
  SR N w R h μ (putC σ dst c) (a.put dst v) := by
 cases dst with
 | none => exact s
 | some d =>
  have hlt : d < a.tmps.size := by rw [s.size]; simpa [dstOk] using hd
  refine ⟨by simp [Act.put, s.size], s.defers, fun t => ?_⟩
  simp only [putC, Act.put]
  by_cases ht : t = d
  ·subst ht
   rw [fupd_same]
   simp [hlt]
   exact hv
  ·rw [fupd_ne _ _ _ _ ht]
   have := s.val t
   simpa [Array.getElem?_setIfInBounds_ne (Ne.symm ht)] using this
theorem wanted_ok {w : World} {R : Nat → Prop} {h : Hp} {μ : Mu} {ops : Array Oper} {σ : Nat → CV} {tmps : Array Value} {o : Oper} {b : Bool} (hw : wantedC ops σ o = some b)
  (hv : ∀ d, (∃ j want, o.guard = some (j, want) ∧ (ops[j]?).bind (·.dst) = some d) → VR w R h μ (σ d) (tmps.getD d undef)) : Region.wanted o (yielded ops tmps) = b := by
 unfold wantedC at hw
 unfold Region.wanted
 cases hg : o.guard with
 | none => rw [hg] at hw; simpa using hw
 | some jw =>
  obtain ⟨j, want⟩ := jw
  rw [hg] at hw
  simp only at hw ⊢
  unfold yielded
  cases hd : (ops[j]?).bind (·.dst) with
  | none =>
   rw [hd] at hw
   simp only [Option.some.injEq] at hw
   subst hw
   simp
  | some d =>
   rw [hd] at hw
   have hvd := hv d ⟨j, want, hg, hd⟩
   simp only [Option.bind_some] at hw ⊢
   cases ht : tmps[d]? with
   | none =>
    have hu : tmps.getD d undef = undef := by simp [Array.getD_eq_getD_getElem?, ht]
    rw [hu] at hvd
    cases hc : σ d <;> rw [hc] at hw hvd <;> simp at hw <;> try (subst hw; simp)
    all_goals cases hvd
   | some v =>
    have hu : tmps.getD d undef = v := by simp [Array.getD_eq_getD_getElem?, ht]
    rw [hu] at hvd
    cases hc : σ d <;> rw [hc] at hw hvd <;> simp at hw
    all_goals (cases hvd <;> (subst hw; simp))
def wpX (P : Program) (n : Nat) (c : Code) (Q : Exit → Act → World → Prop) (a : Act) (w : World) : Prop :=
 match c with
 | .loop c' => Code.rounds P c' Q n a w
 | c => c.wp P Q a w
theorem wpX.wp {n : Nat} {c : Code} {Q : Exit → Act → World → Prop} {a : Act} {w : World} (h : wpX P n c Q a w) : c.wp P Q a w := by
 cases c <;> first | exact wp_loop_rounds n h | exact h
def Sound (P : Program) (G : Nat → CV) : J → Prop
 | .code c N σ h e σ' h' => ∃ n, ∀ (R : Nat → Prop) (B : Nat) (w : World) (μ : Mu) (a : Act) (Q : Exit → Act → World → Prop), Rel R B w h μ → Gok G w R h μ → SR N w R h μ σ a →
   (∀ a' w' μ', Ext w h μ w' h' μ' → Rel R B w' h' μ' → SR N w' R h' μ' σ' a' → Q e.out a' w') → wpX P n c Q a w
 | .ops all l N σ h σ' h' => ∀ (R : Nat → Prop) (B : Nat) (w : World) (μ : Mu) (a : Act) (Q : Exit → Act → World → Prop), Rel R B w h μ → Gok G w R h μ → SR N w R h μ σ a →
   (∀ a' w' μ', Ext w h μ w' h' μ' → Rel R B w' h' μ' → SR N w' R h' μ' σ' a' → Q .normal a' w') → wpList P all Q l a w
 | .op op σ h v h' => ∀ (R : Nat → Prop) (B : Nat) (w : World) (μ : Mu) (a : Act) (o : Oper) (K : Act → World → Prop) (Q : Exit → Act → World → Prop), o.op = op → Rel R B w h μ → Gok G w R h μ →
   (∀ x, VR w R h μ (ev G σ x) (a.eval x)) → (∀ v' w' μ', Ext w h μ w' h' μ' → Rel R B w' h' μ' → VR w' R h' μ' v v' → K (a.put o.dst v') w') → o.wp P a w K Q
 | .call f args h r h' => CallS P G f args h r h'
theorem results_ok {N : Nat} {w : World} {R : Nat → Prop} {B : Nat} {h : Hp} {μ : Mu} {σ : Nat → CV} {a : Act} (rel : Rel R B w h μ) (s : SR N w R h μ σ a) {fn : Func} {r : CV} (hr : resC P h σ fn = some r) :
  ∃ v, (results fn a.tmps).run P w = .ok v w ∧ VR w R h μ r v := by
 have one : ∀ (x : ResultVar) (c : CV), resOne P h σ x = some c → ∃ v, (∀ F : ResultVar → Sem Value, (∀ t, F (.tmp t) = pure (a.tmps.getD t undef)) → (∀ p t, F (.cell p t) = (do loadVar t (← asAddr (a.tmps.getD p undef)))) → (F x).run P w = .ok v w) ∧ VR w R h μ c v := by
  intro x c hx
  cases x with
  | tmp t =>
   simp only [resOne, Option.some.injEq] at hx; subst hx
   exact ⟨_, fun F h1 _ => by rw [h1]; rfl, s.val t⟩
  | cell p t =>
   simp only [resOne] at hx
   obtain ⟨v, h1, h2⟩ := load_ok (P := P) rel hx (s.val p)
   refine ⟨v, fun F _ hF => ?_, h2⟩
   rw [hF]
   cases hp : a.tmps.getD p undef with
   | pointer ad =>
    cases ad with
    | none => rw [hp] at h1; simp [Instr.loadAt, Instr.sureAddr] at h1
    | some ad => rw [hp] at h1; simpa [Instr.loadAt, Instr.sureAddr, asAddr, hp] using h1
   | _ => rw [hp] at h1; simp [Instr.loadAt, Instr.sureAddr] at h1
 have all : ∀ (l : List ResultVar) (cs : List CV), resList P h σ l = some cs → ∃ vs : List Value, (∀ F : ResultVar → Sem Value, (∀ t, F (.tmp t) = pure (a.tmps.getD t undef)) → (∀ p t, F (.cell p t) = (do loadVar t (← asAddr (a.tmps.getD p undef)))) → (l.mapM F).run P w = .ok vs w) ∧
   vs.length = cs.length ∧ ∀ (j : Nat) (c : CV) (v : Value), cs[j]? = some c → vs[j]? = some v → VR w R h μ c v := by
  intro l
  induction l with
  | nil => intro cs hc; simp only [resList, Option.some.injEq] at hc; subst hc; exact ⟨[], fun F _ _ => by simp, rfl, fun _ _ _ hh => by simp at hh⟩
  | cons x l ih =>
   intro cs hc
   unfold resList at hc
   split at hc
   ·rename_i c cs' hx hl
    simp only [Option.some.injEq] at hc; subst hc
    obtain ⟨v, h1, h2⟩ := one x c hx
    obtain ⟨vs, h3, h4, h5⟩ := ih cs' hl
    refine ⟨v :: vs, fun F k1 k2 => by simp only [List.mapM_cons, Sem.run_bind, h1 F k1 k2, Result.andThen_ok, h3 F k1 k2, Sem.run_pure], by simp [h4], fun j c' v' hj hv => ?_⟩
    cases j with
    | zero => simp at hj hv; subst hj hv; exact h2
    | succ j => exact h5 j c' v' (by simpa using hj) (by simpa using hv)
   ·cases hc
 unfold resC at hr
 cases hl : resList P h σ fn.results.toList with
 | none => rw [hl] at hr; cases hr
 | some cs =>
  rw [hl] at hr
  simp only [Option.map_some, Option.some.injEq] at hr; subst hr
  obtain ⟨vs, h1, h2, h3⟩ := all _ _ hl
  have hrun : (results fn a.tmps).run P w = .ok (if hh : vs.toArray.size = 1 then vs.toArray[0] else .tuple vs.toArray) w := by
   unfold results
   rw [Array.mapM_eq_mapM_toList]
   simp only [Sem.run_bind, Sem.run_map]
   rw [h1 _ (fun _ => rfl) (fun _ _ => rfl)]
   simp
  refine ⟨_, hrun, ?_⟩
  match cs, vs, h2, h3 with
  | [], [], _, _ => exact .tu [] #[] rfl (fun _ _ _ hh => by simp at hh)
  | [c], [v], _, h3 => exact h3 0 c v rfl rfl
  | c :: c' :: cs, v :: v' :: vs, h2, h3 =>
   simp only [List.size_toArray, List.length_cons]
   rw [dif_neg (by omega)]
   exact .tu _ _ (by simpa using h2) (fun j x y hj hy => h3 j x y hj (by simpa using hy))
theorem closed_vr {w : World} {R : Nat → Prop} {h : Hp} {μ : Mu} {c : CV} {v : Value} (hv : VR w R h μ c v) : c.closed = true → VR0 w (fun k => R k ∧ ¬ Own h μ k) c v := by
 have hl : ∀ (cs : List CV), closedL cs = true → ∀ (j : Nat) (c : CV), cs[j]? = some c → c.closed = true := by
  intro cs
  induction cs with
  | nil => intro _ j c hj; simp at hj
  | cons x cs ih =>
   intro hc j c hj
   simp only [closedL, Bool.and_eq_true] at hc
   cases j with
   | zero => simp at hj; subst hj; exact hc.1
   | succ j => exact ih hc.2 j c (by simpa using hj)
 have hll : ∀ (es : List (List CV)), closedLL es = true → ∀ (i : Nat) (e : List CV), es[i]? = some e → closedL e = true := by
  intro es
  induction es with
  | nil => intro _ j c hj; simp at hj
  | cons x cs ih =>
   intro hc j c hj
   simp only [closedLL, Bool.and_eq_true] at hc
   cases j with
   | zero => simp at hj; subst hj; exact hc.1
   | succ j => exact ih hc.2 j c (by simpa using hj)
 have cell : ∀ b o v, Cell w R h μ b o v → Cell w (fun k => R k ∧ ¬ Own h μ k) Hp.empty (fun _ => none) b o v := fun b o v hc =>
  ⟨hc.here, hc.one, ⟨hc.ro, hc.free⟩, fun ⟨b, m, h1, h2, h3⟩ => by cases h2⟩
 unfold VR0
 induction hv with
 | bool b => exact fun _ => .bool b
 | int k n => exact fun _ => .int k n
 | str bs => exact fun _ => .str bs
 | nilP => exact fun _ => .nilP
 | nilS => exact fun _ => .nilS
 | nilM => exact fun _ => .nilM
 | nilF => exact fun _ => .nilF
 | nilI => exact fun _ => .nilI
 | ag cs vs hlen h1 hv ih => exact fun hc => .ag cs vs hlen h1 fun j c v hj hjv => ih j c v hj hjv (hl cs (by simpa [CV.closed] using hc) j c hj)
 | tu cs vs hlen hv ih => exact fun hc => .tu cs vs hlen fun j c v hj hjv => ih j c v hj hjv (hl cs (by simpa [CV.closed] using hc) j c hj)
 | ptr => exact fun hc => by simp [CV.closed] at hc
 | ptrGone => exact fun hc => by simp [CV.closed] at hc
 | rptr cs off blk o vals hc hv ih => exact fun hcl => .rptr cs off blk o vals (fun j hj => cell _ _ _ (hc j hj)) fun j c hj => ih j c hj (hl cs (by simpa [CV.closed] using hcl) j c hj)
 | sl => exact fun hc => by simp [CV.closed] at hc
 | slGone => exact fun hc => by simp [CV.closed] at hc
 | slEnd => exact fun hc => by simp [CV.closed] at hc
 | rsl z es blk off cap vals hl' hz hc hv ih => exact fun hcl => .rsl z es blk off cap vals hl' hz (fun i j hi hj => cell _ _ _ (hc i j hi hj)) fun i e he j c hj => ih i e he j c hj (hl e (hll es (by simpa [CV.closed] using hcl) i e he) j c hj)
 | rsl0 z a cap => exact fun _ => .rsl0 z a cap
 | fn f first captured fs cs hf hc h1 h2 ih1 ih2 =>
  intro hcl
  simp only [CV.closed, Bool.and_eq_true] at hcl
  exact .fn f first captured fs cs hf hc (fun j c v hj hjv => ih1 j c v hj hjv (hl _ hcl.1 j c hj)) fun j c v hj hjv => ih2 j c v hj hjv (hl _ hcl.2 j c hj)
 | mp => exact fun hc => by simp [CV.closed] at hc
 | it => exact fun hc => by simp [CV.closed] at hc
 | ifc t c v hv ih => exact fun hcl => .ifc t c v (ih (by simpa [CV.closed] using hcl))
 | yl l => exact fun _ => .yl l
 | bad v => exact fun _ => .bad v
theorem closedL_get {cs : List CV} (hc : closedL cs = true) : ∀ (j : Nat) (c : CV), cs[j]? = some c → c.closed = true := by
 induction cs with
 | nil => intro j c hj; simp at hj
 | cons x cs ih =>
  intro j c hj
  simp only [closedL, Bool.and_eq_true] at hc
  cases j with
  | zero => simp at hj; subst hj; exact hc.1
  | succ j => exact ih hc.2 j c (by simpa using hj)
theorem VR0.up {w : World} {A : Nat → Prop} {R : Nat → Prop} {h : Hp} {μ : Mu} {c : CV} {v : Value} (hv : VR0 w A c v) (hA : ∀ k, k < w.heap.size → A k → R k ∧ ¬ Own h μ k) : VR w R h μ c v := by
 have cell : ∀ b o v, Cell w A Hp.empty (fun _ => none) b o v → Cell w R h μ b o v := fun b o v hc =>
  have hb : b < w.heap.size := World.block_lt_of_cell? _ _ hc.here
  ⟨hc.here, hc.one, (hA b hb hc.ro).1, (hA b hb hc.ro).2⟩
 unfold VR0 at hv
 induction hv with
 | bool b => exact .bool b
 | int k n => exact .int k n
 | str bs => exact .str bs
 | nilP => exact .nilP
 | nilS => exact .nilS
 | nilM => exact .nilM
 | nilF => exact .nilF
 | nilI => exact .nilI
 | ag cs vs hlen h1 hv ih => exact .ag cs vs hlen h1 ih
 | tu cs vs hlen hv ih => exact .tu cs vs hlen ih
 | ptr b off sz cs m hb hm => cases hm
 | ptrGone b off sz a hg => rcases hg with hg | ⟨n, cs, hg, _⟩ <;> cases hg
 | rptr cs off blk o vals hc hv ih => exact .rptr cs off blk o vals (fun j hj => cell _ _ _ (hc j hj)) ih
 | sl z b off len cap sz cap' cs m hb hm => cases hm
 | slGone z b off len cap sz cap' a hl hc hg => rcases hg with hg | ⟨n, cs, hg, _⟩ <;> cases hg
 | slEnd z b off sz a cs m hb hm => cases hm
 | rsl z es blk off cap vals hl' hz hc hv ih => exact .rsl z es blk off cap vals hl' hz (fun i j hi hj => cell _ _ _ (hc i j hi hj)) ih
 | rsl0 z a cap => exact .rsl0 z a cap
 | fn f first captured fs cs hf hc h1 h2 ih1 ih2 => exact .fn f first captured fs cs hf hc ih1 ih2
 | mp b m hb hm => cases hm
 | it b m hb hm => cases hm
 | ifc t c v hv ih => exact .ifc t c v ih
 | yl l => exact .yl l
 | bad v => exact .bad v
theorem own_lt {R : Nat → Prop} {B : Nat} {w : World} {h : Hp} {μ : Mu} (rel : Rel R B w h μ) {k : Nat} (ho : Own h μ k) : k < w.heap.size := by
 obtain ⟨b, m, h1, h2, rfl⟩ := ho
 exact rel.lt h1 h2
theorem rel_below {R : Nat → Prop} {B : Nat} {w w' : World} {h : Hp} {μ : Mu} (rel : Rel R B w h μ) (hb : Blw w w') : Ext w h μ w' h μ ∧ Rel R B w' h μ := by
 have e : Ext w h μ w' h μ := ⟨⟨hb.os, hb.tape, hb.output, hb.size, fun k hk _ => hb.block k hk, fun _ ho => .inl ho, fun b sz cs m h1 h2 => .inl ⟨cs, h1, h2⟩, fun _ _ hg => hg, fun _ _ _ h1 h2 => ⟨h1, h2⟩, Nat.le_refl _, hb.drawn⟩, fun _ _ hm => hm⟩
 refine ⟨e, fun b m hm => ?_, rel.inj, rel.base, rel.fresh, rel.up, Nat.le_trans rel.size hb.size, rel.mu⟩
 cases hl : live (h.f b) with
 | false => cases hc : h.f b <;> first | trivial | (rw [hc] at hl; cases hl)
 | true => exact (rel.blk b m hm).ext e.toExt0 (hb.block _ (rel.lt hl hm))
theorem rdH_vr {w : World} {R : Nat → Prop} {B : Nat} {h : Hp} {μ : Mu} (rel : Rel R B w h μ) : ∀ {c c' : CV}, RdH h c c' → ∀ {v : Value}, VR w R h μ c v → VR0 w R c' v := by
 intro c c' hr
 have hcd : ∀ {b sz : Nat} {cs : List CV} {m : M}, h.f b = .cells sz cs → μ b = some m → ∃ f : Nat → Value, ∀ (j : Nat) (c : CV), cs[j]? = some c → Cell w R Hp.empty (fun _ => none) m.r (m.s + j) (f j) ∧ VR w R h μ c (f j) := by
  intro b sz cs m hb hm
  have hblk := rel.blk b m hm
  rw [hb] at hblk
  obtain ⟨hcs, hT, arr, t, fz, hw, ha, hf, hcell⟩ := hblk
  have hB : R m.r := rel.up _ (rel.base b m (by rw [hb]; rfl) hm)
  refine ⟨fun j => (arr[m.s + j]?).getD undef, fun j c hj => ?_⟩
  obtain ⟨v, h1, h2, h3⟩ := hcell _ _ hj
  refine ⟨⟨?_, by simp only [h1, Option.getD_some]; exact h2, hB, fun ⟨b, m, h1, h2, h3⟩ => by cases h2⟩, by simp only [h1, Option.getD_some]; exact h3⟩
  simp only [World.cell?, hw, h1, Option.getD_some, Option.isSome_none]
  rfl
 induction hr with
 | same c hc =>
  intro v hv
  exact (VR0.up (closed_vr hv hc) fun k _ hk => ⟨hk.1, fun ⟨b, m, h1, h2, h3⟩ => by cases h2⟩ : VR w R Hp.empty (fun _ => none) _ v)
 | ag cs cs' hl h ih =>
  intro v hv
  cases hv with
  | ag _ vs hl1 h1 hv =>
   refine .ag cs' vs (by omega) h1 (fun j c' v hj hjv => ?_)
   have hlt : j < cs.length := by rw [← hl]; exact (List.getElem?_eq_some_iff.1 hj).1
   exact ih j cs[j] c' (List.getElem?_eq_getElem hlt) hj (hv j cs[j] v (List.getElem?_eq_getElem hlt) hjv)
 | tu cs cs' hl h ih =>
  intro v hv
  cases hv with
  | tu _ vs hl1 hv =>
   refine .tu cs' vs (by omega) (fun j c' v hj hjv => ?_)
   have hlt : j < cs.length := by rw [← hl]; exact (List.getElem?_eq_some_iff.1 hj).1
   exact ih j cs[j] c' (List.getElem?_eq_getElem hlt) hj (hv j cs[j] v (List.getElem?_eq_getElem hlt) hjv)
 | sl0 z b off cap sz =>
  intro v hv
  cases hv with
  | sl _ _ _ _ _ _ cap' cs m hb hm hl ho hc => exact .rsl0 z _ cap'
  | slGone _ _ _ _ _ _ cap' a hl hc hg => exact .rsl0 z _ cap'
  | slEnd _ _ _ _ a cs m hb hm => exact .rsl0 z a 0
 | ptr b off sz cs cs' hb hl h ih =>
  intro v hv
  cases hv with
  | ptrGone _ _ _ a hg =>
   exfalso
   rcases hg with hg | ⟨n, cs2, hg, hlt⟩
   ·rw [hb] at hg; cases hg
   ·rw [hb] at hg; cases hg; omega
  | ptr _ _ _ cs2 m hb2 hm =>
   obtain ⟨f, hf⟩ := hcd hb hm
   refine .rptr cs' off m.r m.s f (fun j hj => ?_) (fun j c' hj => ?_)
   ·exact (hf j cs[j] (List.getElem?_eq_getElem (by omega))).1
   ·have hlt : j < cs.length := by rw [← hl]; exact (List.getElem?_eq_some_iff.1 hj).1
    exact ih j cs[j] c' (List.getElem?_eq_getElem hlt) hj (hf j cs[j] (List.getElem?_eq_getElem hlt)).2
 | sl z b off len cap sz cs es hb hl hz hin h ih =>
  intro v hv
  cases hv with
  | slEnd _ _ _ _ a cs2 m hb2 hm2 =>
   obtain rfl := List.length_eq_zero_iff.1 hl
   exact .rsl0 z a 0
  | slGone _ _ _ _ _ _ cap' a hl hc hg =>
   exfalso
   rcases hg with hg | ⟨n, cs2, hg, hlt⟩
   ·rw [hb] at hg; cases hg
   ·rw [hb] at hg; cases hg; omega
  | sl _ _ _ _ _ _ cap' cs2 m hb2 hm hl2 ho hc =>
   have hcap : len ≤ cap' := by rcases hc with ⟨_, h⟩ | ⟨_, h, _⟩ <;> omega
   obtain ⟨f, hf⟩ := hcd hb hm
   subst hl
   have hlt : ∀ i j, i < es.length → j < z → off + (i * z + j) < cs.length := by
    intro i j hi hj
    have : i * z + z ≤ es.length * z := by rw [← Nat.succ_mul]; exact Nat.mul_le_mul_right _ hi
    omega
   refine .rsl z es m.r (m.s + off) cap' (fun i j => f (off + (i * z + j))) hcap hz (fun i j hi hj => ?_) (fun i e he j c' hj => ?_)
   ·have := (hf _ _ (List.getElem?_eq_getElem (hlt i j hi hj))).1
    rw [← Nat.add_assoc] at this
    exact this
   ·have hi : i < es.length := (List.getElem?_eq_some_iff.1 he).1
    have hjz : j < z := by rw [← hz e (List.mem_of_getElem? he)]; exact (List.getElem?_eq_some_iff.1 hj).1
    exact ih i j e _ c' he hj (List.getElem?_eq_getElem (hlt i j hi hjz)) (hf _ _ (List.getElem?_eq_getElem (hlt i j hi hjz))).2
theorem flatL_get : ∀ {cs : List CV}, flatL cs = true → ∀ (j : Nat) (c : CV), cs[j]? = some c → c.flat = true := by
 intro cs
 induction cs with
 | nil => intro _ j c h; simp at h
 | cons x cs ih =>
  intro hc j c hj
  simp only [flatL, Bool.and_eq_true] at hc
  cases j with
  | zero => simp at hj; subst hj; exact hc.1
  | succ j => exact ih hc.2 j c (by simpa using hj)
theorem flat_vr {w w' : World} {A R : Nat → Prop} {h h' : Hp} {μ μ' : Mu} {c : CV} {v : Value} (hv : VR w A h μ c v) (hf : c.flat = true) : VR w' R h' μ' c v := by
 induction hv with
 | bool b => exact .bool b
 | int k n => exact .int k n
 | str bs => exact .str bs
 | nilP => exact .nilP
 | nilS => exact .nilS
 | nilM => exact .nilM
 | nilF => exact .nilF
 | nilI => exact .nilI
 | ag cs vs hlen h1 hv ih => exact .ag cs vs hlen h1 (fun j c v hj hjv => ih j c v hj hjv (flatL_get (by simpa only [CV.flat] using hf) j c hj))
 | tu cs vs hlen hv ih => exact .tu cs vs hlen (fun j c v hj hjv => ih j c v hj hjv (flatL_get (by simpa only [CV.flat] using hf) j c hj))
 | ifc t c v hv ih => exact .ifc t c v (ih (by simpa only [CV.flat] using hf))
 | yl l => exact .yl l
 | _ => simp [CV.flat] at hf
theorem pureB_sound {f : FuncId} {args args' : List CV} {r : CV} {h : Hp} (hp : PureC P G f args' r) (hlen : args'.length = args.length) (hrd : ∀ (j : Nat) (c c' : CV), args[j]? = some c → args'[j]? = some c' → RdH h c c')
  (hfl : r.flat = true) : Sound P G (.call f args h r h) := by
 intro R B w μ vs rel g hl hv
 refine (hp w R vs (fun i => ?_) (by omega) (fun j c' v hj hjv => ?_)).mono ?_
 ·exact (VR0.up (closed_vr (g i).2 (g i).1) fun k _ hk => ⟨hk.1, fun ⟨b, m, h1, h2, h3⟩ => by cases h2⟩ : VR w R Hp.empty (fun _ => none) _ _)
 ·have hlt : j < args.length := by rw [← hlen]; exact (List.getElem?_eq_some_iff.1 hj).1
  exact rdH_vr rel (hrd j args[j] c' (List.getElem?_eq_getElem hlt) hj) (hv j args[j] v (List.getElem?_eq_getElem hlt) hjv)
 ·rintro e w' ⟨v, rfl, hb, hr⟩
  obtain ⟨k1, k2⟩ := rel_below rel hb
  exact ⟨v, μ, rfl, k1, k2, flat_vr hr hfl⟩
theorem pureN_sound {f : FuncId} {args args' : List CV} {r : CV} {h : Hp} (hp : PureN P G f args' r) (hlen : args'.length = args.length) (hrd : ∀ (j : Nat) (c c' : CV), args[j]? = some c → args'[j]? = some c' → RdH h c c') : Sound P G (.call f args h r h) := by
 intro R B w μ vs rel g hl hv
 refine (hp w R vs (fun i => ?_) (by omega) (fun j c' v hj hjv => ?_)).mono ?_
 ·exact (VR0.up (closed_vr (g i).2 (g i).1) fun k _ hk => ⟨hk.1, fun ⟨b, m, h1, h2, h3⟩ => by cases h2⟩ : VR w R Hp.empty (fun _ => none) _ _)
 ·have hlt : j < args.length := by rw [← hlen]; exact (List.getElem?_eq_some_iff.1 hj).1
  exact rdH_vr rel (hrd j args[j] c' (List.getElem?_eq_getElem hlt) hj) (hv j args[j] v (List.getElem?_eq_getElem hlt) hjv)
 ·rintro e w' ⟨v, rfl, hb, hr⟩
  obtain ⟨k1, k2⟩ := rel_below rel hb
  exact ⟨v, μ, rfl, k1, k2, hr.up fun k hk hA => ⟨rel.up k (Nat.le_trans rel.size hA), fun ho => by have := own_lt rel ho; omega⟩⟩
theorem PureN.toC {f : FuncId} {args : List CV} {r : CV} (hp : PureN P G f args r) : PureC P G f args r := fun w A vs hg hl hv =>
 (hp w A vs hg hl hv).mono fun e w' ⟨v, h1, h2, h3⟩ => ⟨v, h1, h2, (VR0.up h3 fun k _ hk => ⟨.inr hk, fun ⟨b, m, h1, h2, h3⟩ => by cases h2⟩ : VR w' _ Hp.empty (fun _ => none) _ _)⟩
theorem pure_sound {f : FuncId} {args : List CV} {r : CV} {h : Hp} (hp : PureC P G f args r) (hc : closedL args = true) : Sound P G (.call f args h r h) := by
 intro R B w μ vs rel g hl hv
 refine (hp w (fun k => R k ∧ ¬ Own h μ k) vs (fun i => ?_) hl (fun j c v hj hjv => closed_vr (hv j c v hj hjv) (closedL_get hc j c hj))).mono ?_
 ·exact closed_vr (g i).2 (g i).1
 ·rintro e w' ⟨v, rfl, hb, hr⟩
  obtain ⟨k1, k2⟩ := rel_below rel hb
  refine ⟨v, μ, rfl, k1, k2, hr.up (fun k hk hA => ?_)⟩
  rcases hA with hA | hA
  ·exact hA
  ·exact ⟨rel.up k (Nat.le_trans rel.size hA), fun ho => by have := own_lt rel ho; omega⟩
end
section
variable {P : Program} {G : Nat → CV}
theorem new_ok {w : World} {R : Nat → Prop} {h : Hp} {μ : Mu} {ρ : Operand → CV} {ρ' : Operand → Value} (hρ : ∀ x, VR w R h μ (ρ x) (ρ' x)) (o : Oper) {cs : List CV} {mk : Nat → CV} (hn : newC P ρ o.op = some (cs, mk)) :
  ∃ v arr t, (execOp ρ' o).run P w = .ok (.value v) (w.alloc (.cells arr t)) ∧ RowA w R h μ cs arr ∧
   ∀ (w' : World) (R' : Nat → Prop) (h' : Hp) (μ' : Mu) (b : Nat), h'.f b = .cells cs.length cs → μ' b = some ⟨w.heap.size, 0, arr.size⟩ → VR w' R' h' μ' (mk b) v := by
 obtain ⟨dst, op, type, pos, after, guard⟩ := o
 cases op <;> simp only [newC] at hn <;> try (cases hn; done)
 case alloc t =>
  cases hz : zeroT P t with
  | none => rw [hz] at hn; cases hn
  | some z =>
   rw [hz] at hn
   simp only [Option.map_some, Option.some.injEq, Prod.mk.injEq] at hn
   obtain ⟨rfl, rfl⟩ := hn
   obtain ⟨v, hv, hr⟩ := zero_row (P := P) (w := w) (R := R) (h := h) (μ := μ) hz
   refine ⟨.pointer (some ⟨w.heap.size, 0, none⟩), v.cells, t, by simp [execOp, Instr.alloc, hv, newVar, newRow], hr, fun w' R' h' μ' b hb hm => ?_⟩
   have := VR.ptr (w := w') (R := R') (h := h') (μ := μ') b 0 z.length z _ hb hm
   simpa using this
 case box t x =>
  cases hz : (ρ x).cells with
  | none => rw [hz] at hn; cases hn
  | some z =>
   rw [hz] at hn
   simp only [Option.map_some, Option.some.injEq, Prod.mk.injEq] at hn
   obtain ⟨rfl, rfl⟩ := hn
   obtain ⟨k1, k2⟩ := cells_ok (hρ x) hz
   refine ⟨.pointer (some ⟨w.heap.size, 0, none⟩), (ρ' x).cells, t, by simp [execOp, Instr.box, newVar, newRow], ⟨k1, k2⟩, fun w' R' h' μ' b hb hm => ?_⟩
   have := VR.ptr (w := w') (R := R') (h := h') (μ := μ') b 0 z.length z _ hb hm
   simpa using this
 case buildSlice t len parts =>
  cases he : elemT P t with
  | none => rw [he] at hn; cases hn
  | some e =>
  rw [he] at hn
  simp only at hn
  cases hz : sizeT P e with
  | none => rw [hz] at hn; cases hn
  | some z =>
  cases hzero : zeroT P e with
  | none => rw [hz, hzero] at hn; cases hn
  | some zero =>
  rw [hz, hzero] at hn
  simp only at hn
  split at hn
  ·rename_i hcond
   cases hf : fillC (fun i => some (i * z, z)) (repeatC zero len) (parts.toList.map fun p => (p.1, ρ p.2)) with
   | none => rw [hf] at hn; cases hn
   | some cs' =>
    rw [hf] at hn
    simp only [Option.map_some, Option.some.injEq, Prod.mk.injEq] at hn
    obtain ⟨rfl, rfl⟩ := hn
    obtain ⟨k1, k2⟩ := parts_ok hρ parts
    obtain ⟨hcl, arr, hrun, h2⟩ := buildSlice_run he hz hzero hcond.1 hcond.2 hf k1 k2
    refine ⟨.slice (some ⟨w.heap.size, 0, none⟩) len len, arr, e, by simp [execOp, hrun], h2, fun w' R' h' μ' b hb hm => ?_⟩
    rw [hcl] at hb
    have := VR.sl (w := w') (R := R') (h := h') (μ := μ') z b 0 len len (len * z) len _ _ hb hm (Nat.le_refl _) (by omega) (.inr ⟨by omega, Nat.le_refl _, by simp only; rw [h2.1, hcl]; omega⟩)
    simpa using this
  ·cases hn
 case makeSlice t l c =>
  split at hn
  ·rename_i e li ci he hli hci
   obtain ⟨kl, hlv⟩ := asInt_ok hli (hρ l)
   obtain ⟨kc, hcv⟩ := asInt_ok hci (hρ c)
   cases hz : sizeT P e with
   | none => rw [hz] at hn; cases hn
   | some z =>
   cases hby : bytesT P e with
   | none => rw [hz, hby] at hn; cases hn
   | some by_ =>
   cases hzero : zeroT P e with
   | none => rw [hz, hby, hzero] at hn; cases hn
   | some zero =>
   rw [hz, hby, hzero] at hn
   simp only at hn
   split at hn
   ·rename_i hcond
    obtain ⟨hzl, h0, hlc, hc63, hroom⟩ := hcond
    simp only [Option.some.injEq, Prod.mk.injEq] at hn
    obtain ⟨rfl, rfl⟩ := hn
    obtain ⟨hlen, arr, hrun, hrow⟩ := makeSlice_run (w := w) (R := R) (h := h) (μ := μ) (kl := kl) (kc := kc) he hz hby hzero hzl h0 hlc hc63 hroom
    refine ⟨.slice (some ⟨w.heap.size, 0, none⟩) li.toNat ci.toNat, arr, e, by simp [execOp, hlv, hcv, hrun], hrow, fun w' R' h' μ' b hb hm => ?_⟩
    rw [hlen] at hb
    have := VR.sl (w := w') (R := R') (h := h') (μ := μ') z b 0 li.toNat ci.toNat (ci.toNat * z) ci.toNat _ _ hb hm (by omega) (by omega) (.inr ⟨by omega, Nat.le_refl _, by simp only; rw [hrow.1, hlen]; omega⟩)
    simpa using this
   ·cases hn
  ·cases hn
theorem Grows.rel {R : Nat → Prop} {B : Nat} {w : World} {h h' : Hp} {μ : Mu} (g : Grows h h') (rel : Rel R B w h μ) : Ext w h μ w h' μ ∧ Rel R B w h' μ := by
 have hlt : ∀ b m, μ b = some m → b < h.n := fun b m hm => rel.bn hm
 have e : Ext w h μ w h' μ := by
  refine ⟨⟨rfl, rfl, rfl, Nat.le_refl _, fun _ _ _ => rfl, ?_, ?_, ?_, ?_, g.n, Nat.le_refl _⟩, fun _ _ hm => hm⟩
  ·rintro k ⟨b, m, hl, hm, rfl⟩
   rw [g.same b (hlt b m hm)] at hl
   exact .inl ⟨b, m, hl, hm, rfl⟩
  ·intro b sz cs m hb hm
   exact .inl ⟨cs, by rw [g.same b (hlt b m hm)]; exact hb, hm⟩
  ·rintro b sz hg
   have hb : b < h.n := by
    rcases Nat.lt_or_ge b h.n with h1 | h1
    ·exact h1
    ·have := rel.fresh b h1
     rcases hg with hg | ⟨n, cs, hg, _⟩ <;> rw [this] at hg <;> cases hg
   rcases hg with hg | ⟨n, cs, hg, hlt'⟩
   ·exact .inl (by rw [g.same b hb]; exact hg)
   ·exact .inr ⟨n, cs, by rw [g.same b hb]; exact hg, hlt'⟩
  ·intro b k m hb hm
   exact ⟨by rw [g.same b (hlt b m hm)]; exact hb, hm⟩
 refine ⟨e, fun b m hm => ?_, fun b b' m m' hl hl' hm hm' hr => ?_, fun b m hl hm => ?_, g.fresh rel.fresh, rel.up, rel.size, fun b hb => rel.mu b (Nat.le_trans g.n hb)⟩
 ·rw [g.same b (hlt b m hm)]
  exact (rel.blk b m hm).ext e.toExt0 rfl
 ·rw [g.same b (hlt b m hm)] at hl
  rw [g.same b' (hlt b' m' hm')] at hl'
  exact rel.inj b b' m m' hl hl' hm hm' hr
 ·rw [g.same b (hlt b m hm)] at hl
  exact rel.base b m hl hm
theorem then_of {K : Act → World → Prop} {Q : Exit → Act → World → Prop} {e : CExit} {a : Act} {w : World} (he : e ≠ .normal) (h : Q e.out a w) : Exit.then K Q e.out a w := by
 cases e with
 | normal => exact absurd rfl he
 | exit id => exact h
 | ret => exact h
theorem block_of {id : Nat} {Q : Exit → Act → World → Prop} {e : CExit} {a : Act} {w : World} (he : e ≠ .exit id) (h : Q e.out a w) : Exit.inBlock id Q e.out a w := by
 cases e with
 | normal => exact h
 | exit id' =>
  have : id' ≠ id := fun hh => he (by rw [hh])
  simpa [Exit.inBlock, CExit.out, this] using h
 | ret => exact h
def DrawSound (P : Program) (G : Nat → CV) : Prop :=
 ∀ {id : Nat} {ops : Array Oper} {N : Nat} {σ : Nat → CV} {h : Hp} {σ' : Nat → CV} {h' : Hp} (pre : Nat → Nat → Bool) (val : Nat → CV) (W : Nat → Bool) (cls : Nat → Cls) (m : Nat) (hs : Nat → Nat) (Hk H1 : Nat → Hp) (bid : Nat → Nat) (cells : Nat → List CV),
  DrawText ops pre →
  (∀ (i : Nat) (o : Oper), ops[i]? = some o → dstOk N o.dst = true) →
  Grows h (Hk 0) → h' = Hk m → (σ' = fun t => match writer ops t with | some i => val i | none => σ t) →
  (∀ (i : Nat) (o : Oper), ops[i]? = some o → W i = true → cls i = .eff → ∃ q, q < m ∧ hs q = i) →
  (∀ q, q < m → ∃ o, ops[hs q]? = some o ∧ W (hs q) = true ∧ cls (hs q) = .eff) →
  (∀ q q', q < m → q' < m → q < q' → pre (hs q') (hs q) = true) →
  (∀ q q', q < m → q' < m → hs q = hs q' → q = q') →
  (∀ (i : Nat) (o : Oper), ops[i]? = some o → wantedC ops (envOf ops pre val σ i o) o = some (W i)) →
  (∀ (i : Nat) (o : Oper), ops[i]? = some o → W i = false → val i = undefC) →
  (∀ (i : Nat) (o : Oper), ops[i]? = some o → W i = true → cls i = .pure → ∀ k, feas pre m hs i k → stepC P (Hk k) (ev G (envOf ops pre val σ i o)) o.op = some (.val (val i) (Hk k))) →
  (∀ (i : Nat) (o : Oper), ops[i]? = some o → W i = true → cls i = .new → ∃ mk, newC P (ev G (envOf ops pre val σ i o)) o.op = some (cells i, mk) ∧ val i = mk (bid i) ∧ h.n ≤ bid i ∧
    ∀ k, feas pre m hs i k → (Hk k).f (bid i) = .cells (cells i).length (cells i)) →
  (∀ (i j : Nat) (o o' : Oper), ops[i]? = some o → ops[j]? = some o' → W i = true → W j = true → cls i = .new → cls j = .new → bid i = bid j → i = j) →
  (∀ (i : Nat) (o : Oper) (q : Nat), ops[i]? = some o → W i = true → cls i = .new → q < m → bid i < (Hk q).n ∨ (H1 q).n ≤ bid i) →
  (∀ q, q < m → Grows (H1 q) (Hk (q + 1))) →
  (∀ (q : Nat) (o : Oper), q < m → ops[hs q]? = some o → Sound P G (.op o.op (envOf ops pre val σ (hs q) o) (Hk q) (val (hs q)) (H1 q))) →
  Sound P G (.code (.region id ops true) N σ h .normal σ' h')
theorem Wk.ext {h h2 : Hp} (k : Wk h h2) (w : World) (μ : Mu) : Ext w h μ w h2 μ := by
 refine ⟨⟨rfl, rfl, rfl, Nat.le_refl _, fun _ _ _ => rfl, ?_, ?_, ?_, ?_, Nat.le_of_eq k.n.symm, Nat.le_refl _⟩, fun _ _ hm => hm⟩
 ·rintro r ⟨b, m, hl, hm, rfl⟩
  refine .inl ⟨b, m, ?_, hm, rfl⟩
  rcases k.blk b with he | ⟨sz, cs, hc, _⟩
  ·rw [← he]; exact hl
  ·rw [hc]; rfl
 ·intro b sz cs m hb hm
  rcases k.blk b with he | ⟨sz', cs', hc, hd | ⟨cs2, h2c, _⟩⟩
  ·exact .inl ⟨cs, by rw [he]; exact hb, hm⟩
  ·exact .inr (.inl hd)
  ·rw [hb] at hc; cases hc; exact .inl ⟨cs2, h2c, hm⟩
 ·rintro b sz (hb | ⟨n, cs, hb, hlt⟩)
  ·rcases k.blk b with he | ⟨sz', cs', hc, _⟩
   ·exact .inl (he.trans hb)
   ·rw [hb] at hc; cases hc
  ·rcases k.blk b with he | ⟨sz', cs', hc, hd | ⟨cs2, h2c, _⟩⟩
   ·exact .inr ⟨n, cs, by rw [he]; exact hb, hlt⟩
   ·exact .inl hd
   ·rw [hb] at hc; cases hc; exact .inr ⟨n, cs2, h2c, hlt⟩
 ·intro b kk m hb hm
  rcases k.blk b with he | ⟨sz', cs', hc, _⟩
  ·exact ⟨by rw [he]; exact hb, hm⟩
  ·rw [hc] at hb; cases hb
theorem Wk.live {h h2 : Hp} (k : Wk h h2) {b : Nat} (hl : live (h2.f b) = true) : live (h.f b) = true := by
 rcases k.blk b with he | ⟨sz, cs, hc, _⟩
 ·rw [← he]; exact hl
 ·rw [hc]; rfl
theorem Wk.vr {R : Nat → Prop} {B : Nat} {w : World} {h h2 : Hp} {μ : Mu} (rel : Rel R B w h μ) (k : Wk h h2) : ∀ {c c2 : CV}, RdK h h2 c c2 → ∀ {v : Value}, VR w R h μ c v → VR w R h2 μ c2 v := by
 intro c c2 hr
 induction hr with
 | same c => intro v hv; exact hv.ext (k.ext w μ)
 | ag cs cs' hl h ih =>
  intro v hv
  cases hv with
  | ag _ vs hl1 h1 hv =>
   refine .ag cs' vs (by omega) h1 (fun j c' v hj hjv => ?_)
   have hlt : j < cs.length := by rw [← hl]; exact (List.getElem?_eq_some_iff.1 hj).1
   exact ih j cs[j] c' (List.getElem?_eq_getElem hlt) hj (hv j cs[j] v (List.getElem?_eq_getElem hlt) hjv)
 | sl0 z b off cap sz =>
  intro v hv
  cases hv with
  | sl _ _ _ _ _ _ cap' cs m hb hm hl ho hc => exact .rsl0 z _ cap'
  | slGone _ _ _ _ _ _ cap' a hl hc hg => exact .rsl0 z _ cap'
  | slEnd _ _ _ _ a cs m hb hm => exact .rsl0 z a 0
 | sl z b off len cap sz cs es hb hd hl hz hin hv ih =>
  intro v hv
  cases hv with
  | slEnd _ _ _ _ a cs2 m hb2 hm2 =>
   obtain rfl := List.length_eq_zero_iff.1 hl
   exact .rsl0 z a 0
  | slGone _ _ _ _ _ _ cap' a hl hc hg =>
   exfalso
   rcases hg with hg | ⟨n, cs2, hg, hlt⟩
   ·rw [hb] at hg; cases hg
   ·rw [hb] at hg; cases hg; omega
  | sl _ _ _ _ _ _ cap' cs2 m hb2 hm hl2 ho hc =>
   rw [hb] at hb2; cases hb2
   have hblk := rel.blk b m hm
   rw [hb] at hblk
   obtain ⟨hcs, hT, arr, t, fz, hw, ha, hf, hcell⟩ := hblk
   have hcap : len ≤ cap' := by rcases hc with ⟨_, h⟩ | ⟨_, h, _⟩ <;> omega
   have hlb : Go.CM.live (h.f b) = true := by rw [hb]; rfl
   have hB : R m.r := rel.up _ (rel.base b m hlb hm)
   have hno : ¬ Own h2 μ m.r := by
    rintro ⟨b', m', hl', hm', hr'⟩
    have := rel.inj b' b m' m (k.live hl') hlb hm' hm hr'
    subst this
    rw [hd] at hl'; cases hl'
   subst hl
   have hcd : ∀ i j, i < es.length → j < z → ∃ c v, cs[off + (i * z + j)]? = some c ∧ arr[m.s + (off + (i * z + j))]? = some v ∧ v.oneCell' = true ∧ VR w R h μ c v := by
    intro i j hi hj
    have hlt : off + (i * z + j) < cs.length := by
     have : i * z + z ≤ es.length * z := by rw [← Nat.succ_mul]; exact Nat.mul_le_mul_right _ hi
     omega
    obtain ⟨v, h1, h2, h3⟩ := hcell _ _ (List.getElem?_eq_getElem hlt)
    exact ⟨_, v, List.getElem?_eq_getElem hlt, h1, h2, h3⟩
   refine .rsl z es m.r (m.s + off) cap' (fun i j => (arr[m.s + (off + (i * z + j))]?).getD undef) hcap hz (fun i j hi hj => ?_) (fun i e he j c' hj => ?_)
   ·obtain ⟨c, v, h1, h2, h3, h4⟩ := hcd i j hi hj
    refine ⟨?_, ?_, hB, hno⟩
    ·simp only [World.cell?, hw, h2, Option.getD_some, Option.isSome_none]
     rw [show m.s + off + (i * z + j) = m.s + (off + (i * z + j)) by omega, h2]; rfl
    ·rw [h2]; exact h3
   ·have hi : i < es.length := (List.getElem?_eq_some_iff.1 he).1
    have hjz : j < z := by rw [← hz e (List.mem_of_getElem? he)]; exact (List.getElem?_eq_some_iff.1 hj).1
    obtain ⟨c, v, h1, h2, h3, h4⟩ := hcd i j hi hjz
    simp only [h2, Option.getD_some]
    exact ih i j e c c' he hj h1 h4
theorem Wk.rel {R : Nat → Prop} {B : Nat} {w : World} {h h2 : Hp} {μ : Mu} (rel : Rel R B w h μ) (k : Wk h h2) : Rel R B w h2 μ := by
 refine ⟨?_, ?_, ?_, ?_, rel.up, rel.size, ?_⟩
 ·intro b m hm
  have hb := rel.blk b m hm
  rcases k.blk b with he | ⟨sz, cs, hc, hd | ⟨cs2, h2c, hlen, hv⟩⟩
  ·rw [he]; exact hb.ext (k.ext w μ).toExt0 rfl
  ·rw [hd]; trivial
  ·rw [h2c]
   rw [hc] at hb
   obtain ⟨h1, h2', arr, t, fz, h3, h4, h5, h6⟩ := hb
   refine ⟨by omega, h2', arr, t, fz, h3, h4, h5, fun j c2 hj => ?_⟩
   have hlt : j < cs.length := by rw [← hlen]; exact (List.getElem?_eq_some_iff.1 hj).1
   obtain ⟨v, a1, a2, a3⟩ := h6 j cs[j] (List.getElem?_eq_getElem hlt)
   exact ⟨v, a1, a2, k.vr rel (hv j cs[j] c2 (List.getElem?_eq_getElem hlt) hj) a3⟩
 ·intro b b' m m' hl hl' hm hm' hr
  exact rel.inj b b' m m' (k.live hl) (k.live hl') hm hm' hr
 ·intro b m hl hm
  exact rel.base b m (k.live hl) hm
 ·intro b hb
  rw [k.n] at hb
  rcases k.blk b with he | ⟨sz, cs, hc, _⟩
  ·rw [he]; exact rel.fresh b hb
  ·rw [rel.fresh b hb] at hc; cases hc
 ·intro b hb
  rw [k.n] at hb
  exact rel.mu b hb
theorem sound_of (hd : DrawSound P G) {j : J} (hj : Ev P G j) : Sound P G j := by
 induction hj with
 | skip N σ h => exact ⟨0, fun R B w μ a Q rel g s k => wp_skip (k a w μ (.refl _ _ _) rel s)⟩
 | label l N σ h => exact ⟨0, fun R B w μ a Q rel g s k => wp_label (k a w μ (.refl _ _ _) rel s)⟩
 | ret N σ h => exact ⟨0, fun R B w μ a Q rel g s k => wp_ret (k a w μ (.refl _ _ _) rel s)⟩
 | exit id N σ h => exact ⟨0, fun R B w μ a Q rel g s k => wp_exit (k a w μ (.refl _ _ _) rel s)⟩
 | seqN h1 h2 ih1 ih2 =>
  obtain ⟨n1, ih1⟩ := ih1
  obtain ⟨n2, ih2⟩ := ih2
  exact ⟨0, fun R B w μ a Q rel g s k => wp_seq (wpX.wp (ih1 R B w μ a _ rel g s fun a1 w1 μ1 e1 r1 s1 =>
   wpX.wp (ih2 R B w1 μ1 a1 Q r1 (g.ext e1) s1 fun a2 w2 μ2 e2 r2 s2 => k a2 w2 μ2 (e1.trans e2) r2 s2)))⟩
 | seqX h1 he ih1 =>
  obtain ⟨n1, ih1⟩ := ih1
  exact ⟨0, fun R B w μ a Q rel g s k => wp_seq (wpX.wp (ih1 R B w μ a _ rel g s fun a1 w1 μ1 e1 r1 s1 => then_of he (k a1 w1 μ1 e1 r1 s1)))⟩
 | cond hc h1 ih1 =>
  rename_i c x y N σ h b e σ' h'
  obtain ⟨n1, ih1⟩ := ih1
  refine ⟨0, fun R B w μ a Q rel g s k => ?_⟩
  have hv := s.ev g c
  rw [hc] at hv
  cases hev : a.eval c <;> rw [hev] at hv <;> try (cases hv; done)
  cases hv
  exact wp_cond hev (wpX.wp (ih1 R B w μ a Q rel g s k))
 | blockN h1 he ih1 =>
  obtain ⟨n1, ih1⟩ := ih1
  exact ⟨0, fun R B w μ a Q rel g s k => wp_block (wpX.wp (ih1 R B w μ a _ rel g s fun a1 w1 μ1 e1 r1 s1 => block_of he (k a1 w1 μ1 e1 r1 s1)))⟩
 | blockX h1 ih1 =>
  obtain ⟨n1, ih1⟩ := ih1
  exact ⟨0, fun R B w μ a Q rel g s k => wp_block (wpX.wp (ih1 R B w μ a _ rel g s fun a1 w1 μ1 e1 r1 s1 => by
   simp only [CExit.out, Exit.inBlock, if_true]
   exact k a1 w1 μ1 e1 r1 s1))⟩
 | loopN h1 h2 ih1 ih2 =>
  obtain ⟨n1, ih1⟩ := ih1
  obtain ⟨n2, ih2⟩ := ih2
  exact ⟨n2 + 1, fun R B w μ a Q rel g s k => wpX.wp (ih1 R B w μ a _ rel g s fun a1 w1 μ1 e1 r1 s1 =>
   ih2 R B w1 μ1 a1 Q r1 (g.ext e1) s1 fun a2 w2 μ2 e2 r2 s2 => k a2 w2 μ2 (e1.trans e2) r2 s2)⟩
 | loopX h1 he ih1 =>
  obtain ⟨n1, ih1⟩ := ih1
  exact ⟨1, fun R B w μ a Q rel g s k => wpX.wp (ih1 R B w μ a _ rel g s fun a1 w1 μ1 e1 r1 s1 => then_of he (k a1 w1 μ1 e1 r1 s1))⟩
 | scope h1 ih1 =>
  obtain ⟨n1, ih1⟩ := ih1
  rename_i c N σ h e σ' h'
  refine ⟨0, fun R B w μ a Q rel g s k => wp_scope_straight (wpX.wp (ih1 R B w μ a _ rel g s fun a1 w1 μ1 e1 r1 s1 => ?_))⟩
  have := k a1 w1 μ1 e1 r1 s1
  cases e <;> exact this
 | region h1 ih1 => exact ⟨0, fun R B w μ a Q rel g s k => wp_region_list (ih1 R B w μ a Q rel g s k)⟩
 | draw pre val W cls m hs Hk H1 bid cells txt hdst h0 hm hσ heff heff' hord hinj hwant hskip hpure hnew hbid hbid' hgrow hcall ih =>
  exact hd pre val W cls m hs Hk H1 bid cells txt hdst h0 hm hσ heff heff' hord hinj hwant hskip hpure hnew hbid hbid' hgrow ih
 | opsNil => exact fun R B w μ a Q rel g s k => k a w μ (.refl _ _ _) rel s
 | opsSkip hw hdk h1 ih1 =>
  intro R B w μ a Q rel g s k
  have hwant := wanted_ok (w := w) (R := R) (h := _) (μ := μ) (tmps := a.tmps) hw (fun d _ => s.val d)
  unfold wpList
  rw [if_neg (by rw [hwant]; simp)]
  exact ih1 R B w μ _ Q rel g (s.put hdk undef_ok) k
 | opsOp hw hdk h1 h2 ih1 ih2 =>
  intro R B w μ a Q rel g s k
  have hwant := wanted_ok (w := w) (R := R) (h := _) (μ := μ) (tmps := a.tmps) hw (fun d _ => s.val d)
  unfold wpList
  rw [if_pos hwant]
  refine .inl (ih1 R B w μ a _ _ Q rfl rel g (s.ev g) fun v' w1 μ1 e1 r1 hv => ?_)
  exact ih2 R B w1 μ1 _ Q r1 (g.ext e1) ((s.ext e1).put hdk hv) fun a2 w2 μ2 e2 r2 s2 => k a2 w2 μ2 (e1.trans e2) r2 s2
 | opVal hs =>
  intro R B w μ a o K Q ho rel g hρ k
  subst ho
  have := step_ok (P := P) rel hρ o hs
  obtain ⟨v, w', μ', hr, e, r, hv⟩ := this
  unfold Oper.wp
  rcases hr with hr | ⟨hr, rfl⟩
  ·rw [hr]; exact k v w' μ' e r hv
  ·rw [hr]; exact k undef w' μ' e r hv
 | opCall hs h1 ih1 =>
  intro R B w μ a o K Q ho rel g hρ k
  subst ho
  obtain ⟨rfl, vs, hr, hl, hv⟩ := step_ok (P := P) rel hρ o hs
  unfold Oper.wp
  rw [hr]
  refine (ih1 R B w μ vs rel g hl hv).mono ?_
  rintro e w' ⟨v, μ', rfl, e1, r1, hv1⟩
  exact k v w' μ' e1 r1 hv1
 | wkOp h1 wk hv ih1 =>
  intro R B w μ a o K Q ho rel g hρ k
  refine ih1 R B w μ a o K Q ho rel g hρ fun v' w' μ' e r hvr => ?_
  exact k v' w' μ' (e.trans (wk.ext w' μ')) (wk.rel r) (wk.vr r hv hvr)
 | inline hf hb h1 he hr ih1 =>
  rename_i f fn c args h e σ' h' r
  obtain ⟨n1, ih1⟩ := ih1
  intro R B w μ vs rel g hl hv
  refine calls_of_wp hf hb (wpX.wp (ih1 R B w μ _ _ rel g ⟨by simp [hl], rfl, fun t => ?_⟩ fun a1 w1 μ1 e1 r1 s1 => ?_))
  ·by_cases ht : t < args.length
   ·have ha : args.getD t undefC = args[t] := by simp [List.getD, ht]
    have hvs : (vs ++ Array.replicate (fn.ntmps - vs.size) undef).getD t undef = vs[t] := by
     rw [Array.getD_eq_getD_getElem?, Array.getElem?_append_left (by omega)]
     simp [show t < vs.size by omega]
    rw [ha, hvs]
    exact hv t _ _ (by simp [ht]) (by simp)
   ·have ha : args.getD t undefC = undefC := by simp [List.getD, List.getElem?_eq_none (by omega : args.length ≤ t)]
    have hvs : (vs ++ Array.replicate (fn.ntmps - vs.size) undef).getD t undef = undef := by
     rw [Array.getD_eq_getD_getElem?, Array.getElem?_append_right (by omega), Array.getElem?_replicate]
     split <;> rfl
    rw [ha, hvs]
    exact undef_ok
  ·obtain ⟨v, k1, k2⟩ := results_ok r1 s1 hr
   have hres : s1.defers = s1.defers := rfl
   rcases he with rfl | rfl
   ·exact ⟨s1.defers, v, k1, v, μ1, rfl, e1, r1, k2⟩
   ·exact ⟨s1.defers, v, k1, v, μ1, rfl, e1, r1, k2⟩
 | pure hp hc => exact pure_sound hp hc
 | pureB hp hl hr hf => exact pureB_sound hp hl hr hf
 | ext hs => exact hs
 | pureN hp hl hr => exact pureN_sound hp hl hr
end
end Go.CM
