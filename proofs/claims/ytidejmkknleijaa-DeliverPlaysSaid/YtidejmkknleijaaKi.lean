/-
  What comes in: a list of moves.
-/
import Derived.Test.YtidejmkknleijaaKh
namespace Go.CM
open Go Go.Proofs
set_option linter.unusedVariables false
set_option linter.unusedSimpArgs false
set_option maxRecDepth 100000
namespace Fd
theorem ty_move (r : List CV) (h : Ty Try.prog [4] r) : ∃ b : Bool, r = [.bool b] ∧ True := by
  obtain ⟨b, _, rfl, h1⟩ := ty_bool (by kernel_rfl) h
  rw [ty_nil h1]
  exact ⟨b, rfl, trivial⟩
theorem tyA_moves {ts : List TypeId} {cs : List CV} (h : TyA Try.prog (23 :: ts) cs) : ∃ (s : Sv Bool) (cs' : List CV), cs = encMoves s :: cs' ∧ s.l.length ≤ maxLen ∧ TyA Try.prog ts cs' := by
  obtain ⟨c, cs', rfl, h1, h2⟩ := tyA_cons h
  obtain ⟨s, cs1, hs, hl, hi, h3⟩ := ty_sl (enc := fun b : Bool => [.bool b]) (e := 4) (z := 1) (by kernel_rfl) (by kernel_rfl) ty_move (tyV_one (by kernel_rfl) h1)
  cases hs
  exact ⟨s, cs', rfl, hl, h2⟩
end Fd
end Go.CM
