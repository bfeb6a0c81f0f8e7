/-
  The canonical machine, part I: numbers, strings, equality; one operation.
-/
import Derived.Test.YtfedhobckpgokaaCmH
namespace Go.CM
open Go
set_option linter.unusedVariables false
set_option linter.unusedSimpArgs false

section
variable {P : Program} {w : World} {R : Nat → Prop} {B : Nat} {h : Hp} {μ : Mu}

theorem binInt_ok {op : BinOp} {t : TypeId} {k k' : IntKind} {a b : Int} {c : CV} (hc : binInt op k a k' b = some c) :
    ∃ v, (binOp op t (.int k a) (.int k' b)).run P w = .ok v w ∧ VR w R h μ c v := by
  cases op
  case shl =>
    simp only [binInt] at hc
    split at hc
    · cases hc
    · rename_i hb
      simp only [Option.some.injEq] at hc; subst hc
      exact ⟨_, by simp [binOp, Op.shift, hb], .int _ _⟩
  case shr =>
    simp only [binInt] at hc
    split at hc
    · cases hc
    · rename_i hb
      simp only [Option.some.injEq] at hc; subst hc
      exact ⟨_, by simp [binOp, Op.shift, hb], .int _ _⟩
  case quo =>
    simp only [binInt] at hc
    split at hc
    · rename_i hb
      obtain ⟨rfl, hb⟩ := hb
      simp only [Option.some.injEq] at hc; subst hc
      exact ⟨_, by simp [binOp, Op.intDiv, hb], .int _ _⟩
    · cases hc
  case rem =>
    simp only [binInt] at hc
    split at hc
    · rename_i hb
      obtain ⟨rfl, hb⟩ := hb
      simp only [Option.some.injEq] at hc; subst hc
      exact ⟨_, by simp [binOp, Op.intDiv, hb], .int _ _⟩
    · cases hc
  all_goals
    simp only [binInt] at hc
    split at hc
    · rename_i hk
      subst hk
      simp only [Option.some.injEq] at hc; subst hc
      first
        | (refine ⟨_, ?_, .int _ _⟩; unfold binOp; simp only [ne_eq, not_true_eq_false, if_false]; rfl)
        | (refine ⟨_, ?_, .bool _⟩; unfold binOp; simp only [ne_eq, not_true_eq_false, if_false]; rfl)
    · cases hc

theorem toList_eq (s : ByteArray) : s.toList = s.data.toList := by
  rw [ByteArray.toList_eq]

theorem binStr_ok {op : BinOp} {t : TypeId} {a b : ByteArray} {c : CV} (hc : binStr op a.data.toList b.data.toList = some c) :
    ∃ v, (binOp op t (.string a) (.string b)).run P w = .ok v w ∧ VR w R h μ c v := by
  cases op <;> simp only [binStr] at hc <;> try (cases hc; done)
  case add =>
    split at hc
    · rename_i hle
      simp only [Option.some.injEq] at hc; subst hc
      have h1 : a.data.toList.length = a.size := by simp
      have h2 : b.data.toList.length = b.size := by simp
      rw [h1, h2] at hle
      have hle' : ¬ ((9223372036854775807 : Int) < (a.size : Int) + (b.size : Int)) := by omega
      have hl : (a ++ b).data.toList = a.data.toList ++ b.data.toList := by simp
      refine ⟨.string (a ++ b), by simp [binOp, Op.stringOp, hle'], ?_⟩
      rw [← hl]
      exact .str _
    · cases hc
  all_goals
    simp only [Option.some.injEq] at hc; subst hc
    exact ⟨_, by simp [binOp, Op.stringOp, toList_eq], .bool _⟩

theorem equalIn_bool {d : Nat} {t : TypeId} {a b : Bool} (hu : P.underlying t = some .bool) : (Op.equalIn (d + 1) t (.bool a) (.bool b)).run P w = .ok (a == b) w := by
  simp [Op.equalIn, run_und hu]
theorem equalIn_int {d : Nat} {t : TypeId} {k0 k : IntKind} {a b : Int} (hu : P.underlying t = some (.int k0)) : (Op.equalIn (d + 1) t (.int k a) (.int k b)).run P w = .ok (a == b) w := by
  simp [Op.equalIn, run_und hu]
theorem equalIn_str {d : Nat} {t : TypeId} {a b : ByteArray} (hu : P.underlying t = some .string) : (Op.equalIn (d + 1) t (.string a) (.string b)).run P w = .ok (a.data.toList == b.data.toList) w := by
  simp [Op.equalIn, run_und hu, toList_eq, beq_toListBytes]
theorem equalIn_slice {d : Nat} {t e : TypeId} {x y l c : Nat} {b : Option Addr} (hu : P.underlying t = some (.slice e)) : (Op.equalIn (d + 1) t (.slice none x y) (.slice b l c)).run P w = .ok b.isNone w := by
  simp [Op.equalIn, run_und hu]
theorem equalIn_slice' {d : Nat} {t e : TypeId} {x y l c : Nat} {a : Addr} (hu : P.underlying t = some (.slice e)) : (Op.equalIn (d + 1) t (.slice (some a) l c) (.slice none x y)).run P w = .ok false w := by
  simp [Op.equalIn, run_und hu]

theorem eqFields_ok {d : Nat} {xs ys : List CV} {xa ya : Array Value}
    (ih : ∀ (t : TypeId) (x y : CV) (b : Bool) (xv yv : Value), eqT P d t x y = some b → VR w R h μ x xv → VR w R h μ y yv → (Op.equalIn d t xv yv).run P w = .ok b w)
    (hxr : RowA w R h μ xs xa) (hyr : RowA w R h μ ys ya) : ∀ (l : List Field) (b : Bool), eqT.eqFields P (eqT P d) xs ys l = some b → (Op.eqFields d xa ya l).run P w = .ok b w
  | [], b, hb => by simp only [eqT.eqFields, Option.some.injEq] at hb; subst hb; simp [Op.eqFields]
  | f :: l, b, hb => by
    unfold eqT.eqFields at hb
    unfold Op.eqFields
    by_cases hf : f.name = "_"
    · rw [if_pos hf] at hb
      simp [hf, eqFields_ok ih hxr hyr l b hb]
    · rw [if_neg hf] at hb
      split at hb
      · rename_i a c ha hc
        obtain ⟨va, h1, h2⟩ := part_ok (P := P) ha hxr
        obtain ⟨vc, h3, h4⟩ := part_ok (P := P) hc hyr
        split at hb
        · rename_i heq
          have := ih f.type a c true va vc heq h2 h4
          simp [hf, h1, h3, this, eqFields_ok ih hxr hyr l b hb]
        · rename_i heq
          have := ih f.type a c false va vc heq h2 h4
          simp only [Option.some.injEq] at hb; subst hb
          simp [hf, h1, h3, this]
        · cases hb
      · cases hb

/-- The model's loop over an array's elements, from place i on. -/
theorem eqElems_ok {d z : Nat} {e : TypeId} {xs ys : List CV} {xa ya : Array Value}
    (ih : ∀ (t : TypeId) (x y : CV) (b : Bool) (xv yv : Value), eqT P d t x y = some b → VR w R h μ x xv → VR w R h μ y yv → (Op.equalIn d t xv yv).run P w = .ok b w)
    (hxr : RowA w R h μ xs xa) (hyr : RowA w R h μ ys ya) (f : Nat → Option Bool × Unit → Sem (ForInStep (Option Bool × Unit)))
    (hf : ∀ (i : Nat) (va vc : Value) (b : Bool) (r : Option Bool × Unit), (part e xa (i * z)).run P w = .ok va w → (part e ya (i * z)).run P w = .ok vc w → (Op.equalIn d e va vc).run P w = .ok b w →
      (f i r).run P w = .ok (if b then .yield (none, ()) else .done (some false, ())) w) :
    ∀ (n i : Nat) (b : Bool), eqT.eqElems P (eqT P d) e z xs ys n i = some b → (forIn (List.range' i n) (none, ()) f).run P w = .ok (if b then (none, ()) else (some false, ())) w
  | 0, i, b, hb => by
    simp only [eqT.eqElems, Option.some.injEq] at hb; subst hb
    simp
  | n + 1, i, b, hb => by
    unfold eqT.eqElems at hb
    split at hb
    · rename_i a c ha hc
      obtain ⟨va, h1, h2⟩ := part_ok (P := P) ha hxr
      obtain ⟨vc, h3, h4⟩ := part_ok (P := P) hc hyr
      rw [List.range'_succ, List.forIn_cons]
      split at hb
      · rename_i heq
        have hq := ih e a c true va vc heq h2 h4
        have hh := hf i va vc true (none, ()) (h1 w) (h3 w) hq
        simp only [Sem.run_bind, hh, if_true, Result.andThen_ok]
        exact eqElems_ok ih hxr hyr f hf n (i + 1) b hb
      · rename_i heq
        have hq := ih e a c false va vc heq h2 h4
        have hh := hf i va vc false (none, ()) (h1 w) (h3 w) hq
        simp only [Option.some.injEq] at hb; subst hb
        simp [hh]
      · cases hb
    · cases hb

theorem run_equalIn_array {d n z : Nat} {t e : TypeId} {xa ya : Array Value} (hu : P.underlying t = some (.array n e)) (hz : sizeT P e = some z) {b : Bool}
    (hk : ∀ f : Nat → Option Bool × Unit → Sem (ForInStep (Option Bool × Unit)),
      (∀ (i : Nat) (va vc : Value) (b : Bool) (r : Option Bool × Unit), (part e xa (i * z)).run P w = .ok va w → (part e ya (i * z)).run P w = .ok vc w → (Op.equalIn d e va vc).run P w = .ok b w → (f i r).run P w = .ok (if b then .yield (none, ()) else .done (some false, ())) w) →
      (forIn (List.range' 0 n) (none, ()) f).run P w = .ok (if b then (none, ()) else (some false, ())) w) :
    (Op.equalIn (d + 1) t (.agg xa) (.agg ya)).run P w = .ok b w := by
  simp only [Op.equalIn, Sem.run_bind, run_und hu, Result.andThen_ok, run_sizeOf' hz]
  rw [Std.Legacy.Range.forIn_eq_forIn_range']
  have hr : List.range' ([:n] : Std.Legacy.Range).start ([:n] : Std.Legacy.Range).size ([:n] : Std.Legacy.Range).step = List.range' 0 n := by simp [Std.Legacy.Range.size]
  rw [hr, hk]
  · cases b <;> simp
  · intro i va vc b r h1 h2 h3
    cases b <;> simp [h1, h2, h3]

theorem eqT_ok : ∀ (d : Nat) (t : TypeId) (x y : CV) (b : Bool) (xv yv : Value), eqT P d t x y = some b → VR w R h μ x xv → VR w R h μ y yv →
    (Op.equalIn d t xv yv).run P w = .ok b w := by
  intro d
  induction d with
  | zero => intro t x y b xv yv he; simp [eqT] at he
  | succ d ih =>
    intro t x y b xv yv he hx hy
    unfold eqT at he
    split at he
    · rename_i a b' hu
      simp only [Option.some.injEq] at he; subst he
      cases hx; cases hy
      exact equalIn_bool hu
    · rename_i k0 k a k' b' hu
      split at he
      · rename_i hk; subst hk
        simp only [Option.some.injEq] at he; subst he
        cases hx; cases hy
        exact equalIn_int hu
      · cases he
    · rename_i a b' hu
      simp only [Option.some.injEq] at he; subst he
      cases hx; cases hy
      exact equalIn_str hu
    · rename_i fs xs ys hu
      split at he
      · cases he
      · rename_i hst
        obtain ⟨xa, rfl, hxr⟩ := ag_row hx
        obtain ⟨ya, rfl, hyr⟩ := ag_row hy
        have hst' : P.stoodInHeld t = false := by simpa using hst
        have hfs : P.fieldsOf t = fs := by simp [Program.fieldsOf, hu]
        rw [run_equalIn_struct w d t xa ya (by rw [hfs]; exact hu) hst', hfs]
        exact eqFields_ok ih hxr hyr _ _ he
    · rename_i n e xs ys hu
      cases hz : sizeT P e with
      | none => rw [hz] at he; cases he
      | some z =>
        rw [hz] at he
        simp only at he
        obtain ⟨xa, rfl, hxr⟩ := ag_row hx
        obtain ⟨ya, rfl, hyr⟩ := ag_row hy
        exact run_equalIn_array hu hz (fun f hf => eqElems_ok ih hxr hyr f hf n 0 b he)
    · rename_i e hu
      simp only [Option.some.injEq] at he; subst he
      cases hx; cases hy
      exact equalIn_slice hu
    · rename_i e z b' off len cap sz hu
      simp only [Option.some.injEq] at he; subst he
      cases hx; cases hy <;> exact equalIn_slice hu
    · rename_i e z es hu
      simp only [Option.some.injEq] at he; subst he
      cases hx; cases hy <;> exact equalIn_slice hu
    · rename_i e z b' off len cap sz hu
      simp only [Option.some.injEq] at he; subst he
      cases hy; cases hx <;> exact equalIn_slice' hu
    · rename_i e z es hu
      simp only [Option.some.injEq] at he; subst he
      cases hy; cases hx <;> exact equalIn_slice' hu
    · cases he

end
end Go.CM
