/-
  Proved: 'DeliverTakes' returns true for all arguments, where the table that the program lays reads as laid, whatever the tape, the memory and the order that is drawn; the arguments read as they did; the card ties the table to the program's text.
-/
import Derived.Test.YtidejmkknleijaaGreatDoorEn
import Derived.Test.YtidejmkknleijaaGreatDoorRows
import Derived.Test.YtidejmkknleijaaGreatDoorTie
import Derived.Test.YtidejmkknleijaaGreatDoorCards
import Derived.ProofKit
import Derived.LaidMore
import Derived.OpenShut
import Derived.Stop.Joined
import Derived.SevenTiedAt
namespace Go.Proofs.YtidejmkknleijaaGreatDoor
open Go.ChangeShapes Go.WideShapes Go.ChangeAt Go.RowKit
set_option linter.unusedVariables false
set_option linter.unnecessarySimpa false

theorem ownDeliverTakes : ownKnob Tryz.prog.godebug = none := by kernel_rfl
theorem laidOutDeliverTakes : laidOutB Tryz.prog = true := by kernel_rfl
abbrev laidDeliverTakes : List (String × DataW Unit) := [("braid/digest.constants", Rows.laid_braid_digest_constants)]
theorem doorDeliverTakes (os : Os) (args : Array Value) : laidMetH Tryz.prog laidDeliverTakes ((World.doorLaid Tryz.prog 4000 os).forCall (fun _ _ => 0) ⟨#[], args, []⟩).memory :=
  laidMetH_of_parts3 (fuel := 8) (laidMet_of_run' 8 (by kernel_rfl) (by kernel_rfl)) (by kernel_rfl) (by kernel_rfl)

theorem deliverTakes_law (cs : List CM.CV) (h : CM.TyA Tryz.prog [3, 3, 23, 64] cs) : CM.CallP Tryz.prog CM.GS 7 cs [] (c := ⟨fun r _ => r = .bool true⟩) := by
  obtain ⟨a, _, rfl, _, _, h1⟩ := CM.Fd.tyA_int h
  obtain ⟨b, _, rfl, _, _, h2⟩ := CM.Fd.tyA_int h1
  obtain ⟨ids, _, rfl, _, hi, h3⟩ := CM.Fd.tyA_ids h2
  obtain ⟨m, _, rfl, _, h4⟩ := CM.Fd.tyA_moves h3
  rw [CM.tyA_nil h4]
  exact CM.Fd.takes_call CM.exs_ok a b ids m hi

set_option maxRecDepth 100000 in
theorem deliverTakes_lifted (os : Os) (started : os.Started) (H : Type) (enc : TypeId × Value → H) :
    ReturnsInHanded {} Tryz.checked os 7 .any (fun w args => (Rows.deliverTakesSpec.pre enc Tryz.prog Tryz.f7 [] false w args ∧ laidMetH Tryz.prog laidDeliverTakes w) ∧ sizedMet enc Tryz.prog Tryz.f7 (OpenSpec.ofChange Rows.deliverTakesSpec) false w args)
      (Rows.deliverTakesSpec.post enc Tryz.prog Tryz.f7 false true false false) := by
  refine returnsInHanded_of_change_and (C := Tryz.checked) (X := fun w _ => laidMetH Tryz.prog laidDeliverTakes w) (fun _ _ _ hh h => h.of_heap hh) ownDeliverTakes started (by kernel_rfl) Tryz.func7
    (ChangeSpec.witness_shaped (enc := enc) (C := Tryz.checked) (os := os) (X := fun w _ => laidMetH Tryz.prog laidDeliverTakes w) false (World.doorLaid Tryz.prog 4000 os) #[.int .i64 0, .int .i64 0, .slice none 0 0, .slice none 0 0] 8 rfl (World.shaped_of_RefB (by kernel_rfl) (by kernel_rfl)) (by kernel_rfl) (by kernel_rfl) (by kernel_rfl) (doorDeliverTakes os _)) ?_
  intro W base args ds gs before hval0 hW _ _ hL _
  have hval : ∀ (j : Nat) t v, Tryz.f7.params[j]? = some t → args[j]? = some v → Value.okWide Tryz.prog W .any base t v := hval0
  have hW' := hW
  obtain ⟨p, q, hA0, hV, rfl, hfz, hnd⟩ := hW
  have hA : DataW.TrodAll enc Tryz.prog W 0 (fun _ => true) true Tryz.f7.params.toList args.toList ds p := hA0
  have hpar : Tryz.f7.params.toList = [3, 3, 23, 64] := by kernel_rfl
  have hds : ds.length = 4 := by have := CM.trodAll_len hA; rw [hpar] at this; simpa using this
  obtain ⟨d1, d2, d3, d4, rfl⟩ : ∃ d1 d2 d3 d4, ds = [d1, d2, d3, d4] := by
    match ds, hds with
    | [d1, d2, d3, d4], _ => exact ⟨d1, d2, d3, d4, rfl⟩
  obtain ⟨rfl, rfl⟩ := trodVars_none hV
  refine (CM.law_walk Tryz.checked.mixed CM.GS_closed 8 (ts := Tryz.f7.params.toList) (by rw [hpar]; decide +kernel) laidOutDeliverTakes (by rw [hpar]; decide +kernel) (by rw [hpar]; exact deliverTakes_law) (CM.laid_glo hL)
    (fun j t v ht hv => hval j t v (by simpa using ht) hv) hA).mono fun e W' ⟨he, bel, left⟩ => ?_
  subst he
  exact ⟨_, rfl, _, _, _, [], _, [], hW', trodAll_mk1 (shut_bool Tryz.underlying4 _), left, rfl, bel.frame _, fun h => by cases h⟩

theorem deliverTakes_row : Rows.DeliverTakesSaid :=
  OpenClaim.holds_of_wide 7 Tryz.f7 rfl rfl rfl rfl rfl rfl rfl ⟨rfl, rfl, rfl, rfl, rfl⟩ rfl rfl rfl rfl rfl (by kernel_rfl) Tryz.func7 (by kernel_rfl)
    (of_decide_eq_true (by kernel_rfl)) (by unfold Func.isWrapper; first | (rw [if_pos (by decide +kernel)]; kernel_rfl) | (rw [if_neg (by decide +kernel)]; exact ⟨rfl, rfl⟩))
    (fun os started H enc _ => deliverTakes_lifted os started H enc)

theorem deliverTakes_holds : Rows.DeliverTakesCardSaid :=
  Claim7.holds_tied_plain_at .later [] [.data] true (true, "7896e778c9d2aaf5d167c68fa59bcd97685e87fd210a3b12aaf2ef5c599bd276") false
    deliverTakes_row (fun _ h => by cases h) (by kernel_rfl) (fun _ h => by cases h) deliverTakes_row_tie rfl ⟨rfl, rfl⟩ (by kernel_rfl) rfl
    (fun f fn hf hfn => by
      obtain rfl : f = 7 := Option.some.inj ((show Tryz.prog.funcNamed "braid/braidlaw37.DeliverTakes" = some 7 by kernel_rfl).symm.trans hf) |>.symm
      obtain rfl : fn = Tryz.f7 := (Option.some.inj (Tryz.func7.symm.trans hfn)).symm
      exact ⟨by kernel_rfl, fun j t ht => by
        have hpar : Tryz.f7.params = #[3, 3, 23, 64] := by kernel_rfl
        rw [hpar] at ht
        have hm : t ∈ [3, 3, 23, 64] := by simpa using Array.mem_of_getElem? ht
        have hall : ([3, 3, 23, 64].all fun u => !Tryz.prog.wantsStandIn u) = true := by kernel_rfl
        exact (show Tryz.prog.wantsStandIn t = false by simpa using List.all_eq_true.1 hall t hm)⟩)
    (by kernel_rfl)
#print axioms deliverTakes_holds
end Go.Proofs.YtidejmkknleijaaGreatDoor
