/-
  Proved: 'DeliverPlays' returns true for all arguments, whatever the tape, the memory and the order that is drawn; the arguments read as they did.
-/
import Derived.Test.YtidejmkknleijaaKi
import Derived.Test.YtidejmkknleijaaRows
import Derived.ProofKit
namespace Go.Proofs.Ytidejmkknleijaa
open Go.ChangeShapes Go.WideShapes Go.ChangeAt Go.RowKit
set_option linter.unusedVariables false

theorem ownD : ownKnob Try.prog.godebug = none := by kernel_rfl
theorem laidOutD : laidOutB Try.prog = true := by kernel_rfl

theorem deliverPlays_law (cs : List CM.CV) (h : CM.TyA Try.prog [3, 3, 22, 23] cs) : CM.CallP Try.prog CM.G0 3 cs [] (c := ⟨fun r _ => r = .bool true⟩) := by
  obtain ⟨a, _, rfl, _, _, h1⟩ := CM.Fd.tyA_int h
  obtain ⟨b, _, rfl, _, _, h2⟩ := CM.Fd.tyA_int h1
  obtain ⟨ids, _, rfl, _, hi, h3⟩ := CM.Fd.tyA_ids h2
  obtain ⟨m, _, rfl, _, h4⟩ := CM.Fd.tyA_moves h3
  rw [CM.tyA_nil h4]
  exact CM.Fd.plays_call a b ids m hi

set_option maxRecDepth 100000 in
theorem deliverPlays_lifted (os : Os) (started : os.Started) (H : Type) (enc : TypeId × Value → H) :
    ReturnsInHanded {} Try.checked os 3 .any (Rows.deliverPlaysSpec.pre6 enc Try.prog Try.f3 Rows.deliverPlaysRow.domain false) (Rows.deliverPlaysSpec.post enc Try.prog Try.f3 false true false false) := by
  refine returnsInHanded_of_change (C := Try.checked) ownD started (by kernel_rfl) Try.func3
    (ChangeSpec.witness6 (enc := enc) (C := Try.checked) false ⟨#[], #[.int .i64 0, .int .i64 0, .slice none 0 0, .slice none 0 0], []⟩ 8 (by kernel_rfl) (by kernel_rfl) (by kernel_rfl) (by kernel_rfl)) ?_
  intro W base args ds gs before hval0 hW hcnd _
  have hval : ∀ (j : Nat) t v, Try.f3.params[j]? = some t → args[j]? = some v → Value.okWide Try.prog W .any base t v := hval0
  have hW' := hW
  obtain ⟨p, q, hA0, hV, rfl, hfz, hnd⟩ := hW
  have hA : DataW.TrodAll enc Try.prog W 0 (fun _ => true) true Try.f3.params.toList args.toList ds p := hA0
  have hpar : Try.f3.params.toList = [3, 3, 22, 23] := by kernel_rfl
  have hA4 := hA
  rw [hpar] at hA4
  obtain ⟨_, _, _, _, d1, d2, d3, d4, _, _, _, _, _, rfl, _, _⟩ := trodAll_four hA4
  obtain ⟨rfl, rfl⟩ := trodVars_none hV
  refine (CM.law_walk Try.checked.mixed CM.G0_closed 8 (ts := Try.f3.params.toList) (by rw [hpar]; decide +kernel) laidOutD (by rw [hpar]; decide +kernel) (by rw [hpar]; exact deliverPlays_law) (fun g => CM.G0_ok W _ g)
    (fun j t v ht hv => hval j t v (by simpa using ht) hv) hA).mono fun e W' ⟨he, bel, left⟩ => ?_
  subst he
  exact ⟨_, rfl, _, _, _, [], _, [], hW', trodAll_mk1 (shut_bool Try.underlying4 _), left, rfl, bel.frame _, fun h => by cases h⟩

theorem deliverPlays_holds : Rows.DeliverPlaysSaid :=
  OpenClaim.holds_of_wide 3 Try.f3 rfl rfl rfl rfl rfl rfl rfl ⟨rfl, rfl, rfl, rfl, rfl⟩ rfl rfl rfl rfl rfl (by kernel_rfl) Try.func3 (by kernel_rfl)
    (of_decide_eq_true (by kernel_rfl)) (by unfold Func.isWrapper; first | (rw [if_pos (by decide +kernel)]; kernel_rfl) | (rw [if_neg (by decide +kernel)]; exact ⟨rfl, rfl⟩))
    (fun os started H enc _ => deliverPlays_lifted os started H enc)
#print axioms deliverPlays_holds
end Go.Proofs.Ytidejmkknleijaa
