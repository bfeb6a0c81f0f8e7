/-
  The canonical machine: what comes in, taken apart by its types.
-/
import Derived.Test.YtfedhobckpgokaaCnE
namespace Go.CM
open Go
set_option linter.unusedVariables false
set_option linter.unusedSimpArgs false

section
variable {P : Program}

def structTs (P : Program) (t : TypeId) : Option (List TypeId) := match P.underlying t with
  | some (.struct fs) => some (fs.toList.map (·.type))
  | _ => none

theorem ty_nil {cs : List CV} (h : Ty P [] cs) : cs = [] := by cases h; rfl
theorem ty_int {t : TypeId} {k : IntKind} {ts : List TypeId} {cs : List CV} (hu : P.underlying t = some (.int k)) (h : Ty P (t :: ts) cs) : ∃ n cs', cs = .int k n :: cs' ∧ k.min ≤ n ∧ n ≤ k.max ∧ Ty P ts cs' := by
  cases h
  case int k' n cs' h1 h2 hu' h =>
    rw [hu] at hu'; cases hu'; exact ⟨_, _, rfl, h1, h2, h⟩
  all_goals (exfalso; simp_all; done)
theorem ty_bool {t : TypeId} {ts : List TypeId} {cs : List CV} (hu : P.underlying t = some .bool) (h : Ty P (t :: ts) cs) : ∃ b cs', cs = .bool b :: cs' ∧ Ty P ts cs' := by
  cases h
  case bool b cs' hu' h => exact ⟨_, _, rfl, h⟩
  all_goals (exfalso; simp_all; done)
theorem ty_struct {t : TypeId} {fs ts : List TypeId} {cs : List CV} (hu : structTs P t = some fs) (h : Ty P (t :: ts) cs) : Ty P (fs ++ ts) cs := by
  unfold structTs at hu
  cases h
  case struct fs' hu' h => rw [hu'] at hu; cases hu; exact h
  all_goals (exfalso; simp_all; done)
theorem ty_array {t e : TypeId} {n : Nat} {ts : List TypeId} {cs : List CV} (hu : P.underlying t = some (.array n e)) (h : Ty P (t :: ts) cs) : Ty P (List.replicate n e ++ ts) cs := by
  cases h
  case array e' n' hu' h => rw [hu] at hu'; cases hu'; exact h
  all_goals (exfalso; simp_all; done)
theorem ty_slice {t e : TypeId} {ts : List TypeId} {cs : List CV} (hu : P.underlying t = some (.slice e)) (h : Ty P (t :: ts) cs) :
    ∃ cs', Ty P ts cs' ∧ (cs = .nilS :: cs' ∨ ∃ es, cs = .rsl (P.cellsOf e) es :: cs' ∧ es.length ≤ maxLen ∧ ∀ r ∈ es, Ty P [e] r) := by
  cases h
  case nilS e' cs' hu' h => exact ⟨_, h, .inl rfl⟩
  case sl e' es cs' hl hz he hu' h => rw [hu] at hu'; cases hu'; exact ⟨_, h, .inr ⟨es, rfl, hl, he⟩⟩
  all_goals (exfalso; simp_all; done)
theorem ty_ints {e : TypeId} {k : IntKind} (hu : P.underlying e = some (.int k)) : ∀ (n : Nat) {ts : List TypeId} {cs : List CV}, Ty P (List.replicate n e ++ ts) cs → ∃ (x : List Int) (cs' : List CV), cs = x.map (.int k) ++ cs' ∧ x.length = n ∧ Ty P ts cs'
  | 0, ts, cs, h => ⟨[], cs, rfl, rfl, h⟩
  | n + 1, ts, cs, h => by
    rw [List.replicate_succ, List.cons_append] at h
    obtain ⟨m, cs1, rfl, _, _, h1⟩ := ty_int hu h
    obtain ⟨x, cs', rfl, hx, h2⟩ := ty_ints hu n h1
    exact ⟨m :: x, cs', rfl, by simp [hx], h2⟩
theorem rows_of {α : Type} {enc : α → List CV} {Q : α → Prop} : ∀ (es : List (List CV)), (∀ r ∈ es, ∃ x, r = enc x ∧ Q x) → ∃ xs : List α, es = xs.map enc ∧ ∀ x ∈ xs, Q x
  | [], _ => ⟨[], rfl, fun x hx => by cases hx⟩
  | r :: es, h => by
    obtain ⟨x, rfl, hx⟩ := h r (by simp)
    obtain ⟨xs, rfl, hxs⟩ := rows_of es (fun r hr => h r (by simp [hr]))
    exact ⟨x :: xs, rfl, fun y hy => by
      rcases List.mem_cons.1 hy with rfl | hy
      · exact hx
      · exact hxs y hy⟩
/-- A slice whose elements are told. -/
theorem ty_sl {α : Type} {t e : TypeId} {z : Nat} {enc : α → List CV} {Q : α → Prop} {ts : List TypeId} {cs : List CV} (hu : P.underlying t = some (.slice e)) (hz : P.cellsOf e = z) (he : ∀ r, Ty P [e] r → ∃ x, r = enc x ∧ Q x) (h : Ty P (t :: ts) cs) :
    ∃ (s : Sv α) (cs' : List CV), cs = encS z enc s :: cs' ∧ s.l.length ≤ maxLen ∧ (∀ x ∈ s.l, Q x) ∧ Ty P ts cs' := by
  obtain ⟨cs', h1, rfl | ⟨es, rfl, hl, hr⟩⟩ := ty_slice hu h
  · exact ⟨none, cs', rfl, Nat.zero_le _, fun x hx => (by cases hx), h1⟩
  · obtain ⟨xs, rfl, hxs⟩ := rows_of (enc := enc) (Q := Q) es (fun r hr' => he r (hr r hr'))
    refine ⟨some xs, cs', ?_, by simpa using hl, hxs, h1⟩
    rw [hz]; rfl
theorem tyV_agg {t : TypeId} {c : CV} (ha : aggT P t = some true) (h : TyV P t c) : ∃ cs, c = .ag cs ∧ Ty P [t] cs := by
  unfold TyV at h; rw [ha] at h; exact h
theorem tyV_one {t : TypeId} {c : CV} (ha : aggT P t = some false) (h : TyV P t c) : Ty P [t] [c] := by
  unfold TyV at h; rw [ha] at h; exact h
theorem tyA_cons {t : TypeId} {ts : List TypeId} {cs : List CV} (h : TyA P (t :: ts) cs) : ∃ c cs', cs = c :: cs' ∧ TyV P t c ∧ TyA P ts cs' := by
  cases h with
  | cons h1 h2 => exact ⟨_, _, rfl, h1, h2⟩
theorem tyA_nil {cs : List CV} (h : TyA P [] cs) : cs = [] := by cases h; rfl
end
end Go.CM
