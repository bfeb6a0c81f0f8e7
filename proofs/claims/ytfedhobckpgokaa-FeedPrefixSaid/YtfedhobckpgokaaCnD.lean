/-
  The canonical machine: slices by value, as data.
-/
import Derived.Test.YtfedhobckpgokaaCnC
namespace Go.CM
open Go
set_option linter.unusedVariables false
set_option linter.unusedSimpArgs false

/-- A slice by value: nil, or its elements. -/
abbrev Sv (α : Type) := Option (List α)
def Sv.l {α : Type} (s : Sv α) : List α := s.getD []
@[simp] theorem Sv.l_none {α : Type} : Sv.l (none : Sv α) = [] := rfl
@[simp] theorem Sv.l_some {α : Type} (l : List α) : Sv.l (some l) = l := rfl
def encS {α : Type} (z : Nat) (enc : α → List CV) : Sv α → CV
  | none => .nilS
  | some l => .rsl z (l.map enc)

section
variable {α : Type} {z : Nat} {enc : α → List CV}
@[simp] theorem len_encS (s : Sv α) : lenM (.sl z) (encS z enc s) = some (.int .i64 s.l.length) := by cases s <;> simp [encS, Sv.l]
@[simp] theorem ia_encS (s : Sv α) (k : IntKind) (i : Int) : iaC (.sl z) (encS z enc s) (.int k i) = if 0 ≤ i then (s.l[i.toNat]?).map fun x => .rptr (enc x) 0 else none := by
  cases s with
  | none => by_cases h : 0 ≤ i <;> simp [encS, Sv.l, iaC, h]
  | some l => by_cases h : 0 ≤ i <;> simp [encS, Sv.l, h, Function.comp_def]
@[simp] theorem cells_encS (s : Sv α) : (encS z enc s).cells = some [encS z enc s] := by cases s <;> rfl
theorem closed_encS (h : ∀ x, closedL (enc x) = true) (s : Sv α) : (encS z enc s).closed = true := by
  cases s with
  | none => rfl
  | some l =>
    simp only [encS, CV.closed]
    induction l with
    | nil => rfl
    | cons x l ih => simp only [List.map_cons, closedLL, h, ih, Bool.and_self]
end

theorem wrap_i64 {n : Int} (h1 : -9223372036854775808 ≤ n) (h2 : n < 9223372036854775808) : IntKind.i64.wrap n = n := by
  have e1 : (2 ^ IntKind.i64.bits : Int) = 18446744073709551616 := by decide
  have e2 : (2 ^ (IntKind.i64.bits - 1) : Int) = 9223372036854775808 := by decide
  have e3 : IntKind.i64.signed = true := rfl
  simp only [IntKind.wrap, e1, e2, e3, Bool.true_and, decide_eq_true_eq]
  split <;> omega

/-- Some element of a list by its number. -/
theorem get_of {α : Type} {l : List α} {k : Nat} (h : k < l.length) : ∃ x, l[k]? = some x ∧ x ∈ l := ⟨l[k], List.getElem?_eq_getElem h, List.getElem_mem h⟩

end Go.CM
