/-
  The canonical machine, part S: heaps as lists.
-/
import Derived.Test.YtfedhobckpgokaaCmR
namespace Go.CM
open Go
set_option linter.unusedVariables false
set_option linter.unusedSimpArgs false

/-! ### Trees do not tell in which order they were filled -/
section
variable {α : Type}

theorem setF_fuel : ∀ (k k' : Nat) (t : Tr α) (n : Nat) (x : α), n < k → n < k' → t.setF k n x = t.setF k' n x
  | 0, _, _, _, _, h, _ => by omega
  | _ + 1, 0, _, _, _, _, h => by omega
  | k + 1, k' + 1, t, n, x, h, h' => by
    by_cases h0 : n = 0
    · subst h0
      cases t <;> rfl
    · have hb : Nat.beq n 0 = false := nbeq_false h0
      cases t with
      | nil =>
        unfold Tr.setF
        simp only [hb]
        rw [setF_fuel k k' .nil (n / 2) x (by omega) (by omega), setF_fuel k k' .nil (n / 2 - 1) x (by omega) (by omega)]
      | node l v r =>
        unfold Tr.setF
        simp only [hb]
        rw [setF_fuel k k' l (n / 2) x (by omega) (by omega), setF_fuel k k' r (n / 2 - 1) x (by omega) (by omega)]

def Tr.lt : Tr α → Tr α | .nil => .nil | .node l _ _ => l
def Tr.rt : Tr α → Tr α | .nil => .nil | .node _ _ r => r
def Tr.mid : Tr α → Option α | .nil => none | .node _ v _ => v

theorem set_zero (t : Tr α) (x : α) : t.set 0 x = .node t.lt (some x) t.rt := by cases t <;> rfl
theorem set_odd (t : Tr α) (m : Nat) (x : α) : t.set (2 * m + 1) x = .node (t.lt.set m x) t.mid t.rt := by
  have h1 : Nat.beq (2 * m + 1) 0 = false := nbeq_false (by omega)
  have h2 : Nat.beq ((2 * m + 1) % 2) 1 = true := nbeq_true (by omega)
  have h3 : (2 * m + 1) / 2 = m := by omega
  cases t with
  | nil => show Tr.setF (2 * m + 1 + 1) .nil (2 * m + 1) x = _; unfold Tr.setF; simp only [h1, h2, h3]; rw [setF_fuel _ (m + 1) _ _ _ (by omega) (by omega)]; rfl
  | node l v r => show Tr.setF (2 * m + 1 + 1) (.node l v r) (2 * m + 1) x = _; unfold Tr.setF; simp only [h1, h2, h3]; rw [setF_fuel _ (m + 1) _ _ _ (by omega) (by omega)]; rfl
theorem set_even (t : Tr α) (m : Nat) (x : α) : t.set (2 * m + 2) x = .node t.lt t.mid (t.rt.set m x) := by
  have h1 : Nat.beq (2 * m + 2) 0 = false := nbeq_false (by omega)
  have h2 : Nat.beq ((2 * m + 2) % 2) 1 = false := nbeq_false (by omega)
  have h3 : (2 * m + 2) / 2 - 1 = m := by omega
  cases t with
  | nil => show Tr.setF (2 * m + 2 + 1) .nil (2 * m + 2) x = _; unfold Tr.setF; simp only [h1, h2, h3]; rw [setF_fuel _ (m + 1) _ _ _ (by omega) (by omega)]; rfl
  | node l v r => show Tr.setF (2 * m + 2 + 1) (.node l v r) (2 * m + 2) x = _; unfold Tr.setF; simp only [h1, h2, h3]; rw [setF_fuel _ (m + 1) _ _ _ (by omega) (by omega)]; rfl

theorem nat3 (n : Nat) : n = 0 ∨ (∃ m, m < n ∧ n = 2 * m + 1) ∨ ∃ m, m < n ∧ n = 2 * m + 2 := by
  rcases Nat.eq_zero_or_pos n with h | h
  · exact .inl h
  · rcases Nat.mod_two_eq_zero_or_one n with h2 | h2
    · exact .inr (.inr ⟨n / 2 - 1, by omega, by omega⟩)
    · exact .inr (.inl ⟨n / 2, by omega, by omega⟩)

theorem set_same (n : Nat) : ∀ (t : Tr α) (x y : α), (t.set n x).set n y = t.set n y := by
  induction n using Nat.strongRecOn with
  | _ n ih =>
    intro t x y
    rcases nat3 n with rfl | ⟨m, hm, rfl⟩ | ⟨m, hm, rfl⟩
    · rw [set_zero t x, set_zero t y, set_zero]; rfl
    · rw [set_odd t, set_odd t, set_odd]; simp only [Tr.lt, Tr.mid, Tr.rt, ih m hm]
    · rw [set_even t, set_even t, set_even]; simp only [Tr.lt, Tr.mid, Tr.rt, ih m hm]

theorem set_comm (n : Nat) : ∀ (t : Tr α) (k : Nat) (x y : α), n ≠ k → (t.set n x).set k y = (t.set k y).set n x := by
  induction n using Nat.strongRecOn with
  | _ n ih =>
    intro t k x y hne
    rcases nat3 n with rfl | ⟨m, hm, rfl⟩ | ⟨m, hm, rfl⟩ <;> rcases nat3 k with rfl | ⟨j, hj, rfl⟩ | ⟨j, hj, rfl⟩
    · exact absurd rfl hne
    · rw [set_zero t, set_odd, set_odd t, set_zero]; rfl
    · rw [set_zero t, set_even, set_even t, set_zero]; rfl
    · rw [set_odd t, set_zero, set_zero t, set_odd]; rfl
    · rw [set_odd t, set_odd, set_odd t, set_odd]; simp only [Tr.lt, Tr.mid, Tr.rt]; rw [ih m hm _ j _ _ (by omega)]
    · rw [set_odd t, set_even, set_even t, set_odd]; rfl
    · rw [set_even t, set_zero, set_zero t, set_even]; rfl
    · rw [set_even t, set_odd, set_odd t, set_even]; rfl
    · rw [set_even t, set_even, set_even t, set_even]; simp only [Tr.lt, Tr.mid, Tr.rt]; rw [ih m hm _ j _ _ (by omega)]
end

/-! ### Heaps as lists -/
abbrev Hl := List CB
def hlT : Nat → Tr CB → Hl → Tr CB
  | _, t, [] => t
  | i, t, c :: cs => hlT (i + 1) (t.set i c) cs
def HL (l : Hl) : Hp := ⟨l.length, hlT 0 .nil l⟩

theorem HL_nil : HL [] = Hp.empty := rfl
@[simp] theorem HL_n (l : Hl) : (HL l).n = l.length := rfl
theorem hlT_app : ∀ (l : Hl) (i : Nat) (t : Tr CB) (c : CB), hlT i t (l ++ [c]) = (hlT i t l).set (i + l.length) c
  | [], i, t, c => rfl
  | x :: l, i, t, c => by
    simp only [List.cons_append, hlT, List.length_cons]
    rw [hlT_app l, show i + 1 + l.length = i + (l.length + 1) by omega]
theorem HL_push (l : Hl) (c : CB) : (HL l).push c = HL (l ++ [c]) := by
  unfold HL Hp.push
  rw [hlT_app]
  simp
theorem hlT_set : ∀ (l : Hl) (i j : Nat) (t : Tr CB) (c : CB), i < j → (hlT j t l).set i c = hlT j (t.set i c) l
  | [], _, _, _, _, _ => rfl
  | x :: l, i, j, t, c, h => by
    simp only [hlT]
    rw [hlT_set l i (j + 1) _ c (by omega), set_comm j t i x c (by omega)]
theorem hlT_mid : ∀ (l : Hl) (i b : Nat) (t : Tr CB) (c : CB), b < l.length → (hlT i t l).set (i + b) c = hlT i t (l.set b c)
  | [], _, _, _, _, h => by simp at h
  | x :: l, i, 0, t, c, _ => by
    simp only [hlT, List.set_cons_zero, Nat.add_zero]
    rw [hlT_set l i (i + 1) _ c (by omega), set_same]
  | x :: l, i, b + 1, t, c, h => by
    simp only [hlT, List.set_cons_succ]
    rw [← hlT_mid l (i + 1) b _ c (by simpa using h), show i + (b + 1) = i + 1 + b by omega]
theorem HL_set {l : Hl} {b : Nat} (c : CB) (h : b < l.length) : (HL l).set b c = HL (l.set b c) := by
  unfold HL Hp.set
  have := hlT_mid l 0 b .nil c h
  rw [Nat.zero_add] at this
  simp only [this, List.length_set]
theorem hlT_get : ∀ (l : Hl) (i : Nat) (t : Tr CB) (b : Nat), (hlT i t l).get b = if i ≤ b ∧ b < i + l.length then l[b - i]? else t.get b
  | [], i, t, b => by simp only [hlT, List.length_nil]; rw [if_neg (by omega)]
  | x :: l, i, t, b => by
    simp only [hlT, List.length_cons]
    rw [hlT_get l, Tr.get_set]
    by_cases h1 : i + 1 ≤ b ∧ b < i + 1 + l.length
    · rw [if_pos h1, if_pos (by omega), show b - i = (b - (i + 1)) + 1 by omega, List.getElem?_cons_succ]
    · rw [if_neg h1]
      by_cases h2 : b = i
      · subst h2; rw [if_pos rfl, if_pos (by omega)]; simp
      · rw [if_neg h2, if_neg (by omega)]
theorem HL_f (l : Hl) (b : Nat) : (HL l).f b = match l[b]? with | some c => c | none => .none := by
  unfold HL Hp.f
  simp only [hlT_get, Nat.zero_le, true_and, Nat.zero_add, Nat.sub_zero]
  by_cases h : b < l.length
  · rw [if_pos h]; cases l[b]? <;> rfl
  · rw [if_neg h, List.getElem?_eq_none (by omega)]; rfl
theorem HL_cells {l : Hl} {b n : Nat} {cs : List CV} : (HL l).f b = .cells n cs ↔ l[b]? = some (.cells n cs) := by
  rw [HL_f]
  cases h : l[b]? with
  | none => simp
  | some c => simp
theorem get_lt {l : Hl} {b : Nat} {c : CB} (h : l[b]? = some c) : b < l.length := (List.getElem?_eq_some_iff.1 h).1

end Go.CM
