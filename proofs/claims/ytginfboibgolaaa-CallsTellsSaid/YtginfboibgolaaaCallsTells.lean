/-
  Proved: 'CallsTells' returns true for all arguments, whatever the tape, the memory and the order that is drawn; the arguments read as they did.
-/
import Derived.Test.YtginfboibgolaaaKi
import Derived.Test.YtginfboibgolaaaRows
import Derived.ProofKit
namespace Go.Proofs.Ytginfboibgolaaa
open Go.ChangeShapes Go.WideShapes Go.ChangeAt Go.RowKit
set_option linter.unusedVariables false

theorem ownCallsTells : ownKnob Try.prog.godebug = none := by kernel_rfl
theorem laidOutCallsTells : laidOutB Try.prog = true := by kernel_rfl

theorem callsTells_law (cs : List CM.CV) (h : CM.TyA Try.prog [29, 36, 5, 31, 3, 3] cs) : CM.CallP Try.prog CM.G0 3 cs [] (c := ⟨fun r _ => r = .bool true⟩) := by
  obtain ⟨x, _, rfl, h1⟩ := CM.Ca.tyA_call h
  obtain ⟨o, _, rfl, ho, h2⟩ := CM.Ca.tyA_open h1
  obtain ⟨v, _, rfl, h3⟩ := CM.Ca.tyA_u8 h2
  obtain ⟨id, _, rfl, hid, h4⟩ := CM.tyA_id h3
  obtain ⟨n, _, rfl, _, _, h5⟩ := CM.tyA_int h4
  obtain ⟨ver, _, rfl, _, _, h6⟩ := CM.tyA_int h5
  rw [CM.tyA_nil h6]
  exact CM.Ca.tells_call x o v id n ver ho hid

set_option maxRecDepth 100000 in
theorem callsTells_lifted (os : Os) (started : os.Started) (H : Type) (enc : TypeId × Value → H) :
    ReturnsInHanded {} Try.checked os 3 .any (Rows.callsTellsSpec.pre6 enc Try.prog Try.f3 Rows.callsTellsRow.domain false) (Rows.callsTellsSpec.post enc Try.prog Try.f3 false true false false) := by
  refine returnsInHanded_of_change (C := Try.checked) ownCallsTells started (by kernel_rfl) Try.func3
    (ChangeSpec.witness6 (enc := enc) (C := Try.checked) false ⟨#[], #[.agg #[.int .u8 0, .slice none 0 0, .int .u8 0, .string ⟨#[]⟩, .int .u8 0, .int .i64 0, .int .u64 0, .string ⟨#[]⟩, .int .u64 0, .string ⟨#[]⟩], .agg (#[.int .u8 0, .slice none 0 0, .int .u8 0, .string ⟨#[]⟩, .int .u8 0, .int .i64 0, .int .u64 0, .string ⟨#[]⟩, .int .u64 0, .string ⟨#[]⟩, .int .u8 0, .int .i64 0, .slice none 0 0, .int .i64 0] ++ Array.replicate 33 (.int .u8 0) ++ #[.int .i64 0, .bool false, .int .u8 0, .int .i64 0, .int .u64 0, .string ⟨#[]⟩, .slice none 0 0, .int .i64 0]), .int .u8 0, .agg (Array.replicate 32 (.int .u8 0)), .int .i64 0, .int .i64 0], []⟩ 8 (by kernel_rfl) (by kernel_rfl) (by kernel_rfl) (by kernel_rfl)) ?_
  intro W base args ds gs before hval0 hW hcnd _
  have hval : ∀ (j : Nat) t v, Try.f3.params[j]? = some t → args[j]? = some v → Value.okWide Try.prog W .any base t v := hval0
  have hW' := hW
  obtain ⟨p, q, hA0, hV, rfl, hfz, hnd⟩ := hW
  have hA : DataW.TrodAll enc Try.prog W 0 (fun _ => true) true Try.f3.params.toList args.toList ds p := hA0
  have hpar : Try.f3.params.toList = [29, 36, 5, 31, 3, 3] := by kernel_rfl
  have hds : ds.length = 6 := by have := CM.trodAll_len hA; rw [hpar] at this; simpa using this
  obtain ⟨d1, d2, d3, d4, d5, d6, rfl⟩ : ∃ d1 d2 d3 d4 d5 d6, ds = [d1, d2, d3, d4, d5, d6] := by
    match ds, hds with
    | [d1, d2, d3, d4, d5, d6], _ => exact ⟨d1, d2, d3, d4, d5, d6, rfl⟩
  obtain ⟨rfl, rfl⟩ := trodVars_none hV
  refine (CM.law_walk Try.checked.mixed CM.G0_closed 8 (ts := Try.f3.params.toList) (by rw [hpar]; decide +kernel) laidOutCallsTells (by rw [hpar]; decide +kernel) (by rw [hpar]; exact callsTells_law) (fun g => CM.G0_ok W _ g)
    (fun j t v ht hv => hval j t v (by simpa using ht) hv) hA).mono fun e W' ⟨he, bel, left⟩ => ?_
  subst he
  exact ⟨_, rfl, _, _, _, [], _, [], hW', trodAll_mk1 (shut_bool Try.underlying4 _), left, rfl, bel.frame _, fun h => by cases h⟩

theorem callsTells_holds : Rows.CallsTellsSaid :=
  OpenClaim.holds_of_wide 3 Try.f3 rfl rfl rfl rfl rfl rfl rfl ⟨rfl, rfl, rfl, rfl, rfl⟩ rfl rfl rfl rfl rfl (by kernel_rfl) Try.func3 (by kernel_rfl)
    (of_decide_eq_true (by kernel_rfl)) (by unfold Func.isWrapper; first | (rw [if_pos (by decide +kernel)]; kernel_rfl) | (rw [if_neg (by decide +kernel)]; exact ⟨rfl, rfl⟩))
    (fun os started H enc _ => callsTells_lifted os started H enc)
#print axioms callsTells_holds
end Go.Proofs.Ytginfboibgolaaa
