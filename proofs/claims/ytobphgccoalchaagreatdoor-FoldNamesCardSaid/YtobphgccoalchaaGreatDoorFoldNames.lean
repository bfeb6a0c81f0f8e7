/-
  Proved: 'FoldNames' returns true for all arguments, where the table that the program lays reads as laid, whatever the tape, the memory and the order that is drawn; the arguments read as they did; the card ties the table to the program's text.
-/
import Derived.Test.YtobphgccoalchaaGreatDoorKr
import Derived.Test.YtobphgccoalchaaGreatDoorRows
import Derived.Test.YtobphgccoalchaaGreatDoorTie
import Derived.Test.YtobphgccoalchaaGreatDoorCards
import Derived.ProofKit
import Derived.LaidMore
import Derived.OpenShut
import Derived.Stop.Joined
import Derived.SevenTiedAt
namespace Go.Proofs.YtobphgccoalchaaGreatDoor
open Go.ChangeShapes Go.WideShapes Go.ChangeAt Go.RowKit
set_option linter.unusedVariables false
set_option linter.unnecessarySimpa false

theorem ownFoldNames : ownKnob Tryz.prog.godebug = none := by kernel_rfl
theorem laidOutFoldNames : laidOutB Tryz.prog = true := by kernel_rfl
abbrev laidFoldNames : List (String × DataW Unit) := [("braid/digest.constants", Rows.laid_braid_digest_constants)]
theorem doorFoldNames (os : Os) (args : Array Value) : laidMetH Tryz.prog laidFoldNames ((World.doorLaid Tryz.prog 4000 os).forCall (fun _ _ => 0) ⟨#[], args, []⟩).memory :=
  laidMetH_of_parts3 (fuel := 8) (laidMet_of_run' 8 (by kernel_rfl) (by kernel_rfl)) (by kernel_rfl) (by kernel_rfl)

theorem foldNames_law (cs : List CM.CV) (h : CM.TyA Tryz.prog [] cs) : CM.CallP Tryz.prog CM.GS 6 cs [] (c := ⟨fun r _ => r = .bool true⟩) := by
  rw [CM.tyA_nil h]
  exact CM.kFoldNames_run

set_option maxRecDepth 100000 in
theorem foldNames_lifted (os : Os) (started : os.Started) (H : Type) (enc : TypeId × Value → H) :
    ReturnsInHanded {} Tryz.checked os 6 .any (fun w args => (Rows.foldNamesSpec.pre enc Tryz.prog Tryz.f6 [] false w args ∧ laidMetH Tryz.prog laidFoldNames w) ∧ sizedMet enc Tryz.prog Tryz.f6 (OpenSpec.ofChange Rows.foldNamesSpec) false w args)
      (Rows.foldNamesSpec.post enc Tryz.prog Tryz.f6 false true false false) := by
  refine returnsInHanded_of_change_and (C := Tryz.checked) (X := fun w _ => laidMetH Tryz.prog laidFoldNames w) (fun _ _ _ hh h => h.of_heap hh) ownFoldNames started (by kernel_rfl) Tryz.func6
    (ChangeSpec.witness_shaped (enc := enc) (C := Tryz.checked) (os := os) (X := fun w _ => laidMetH Tryz.prog laidFoldNames w) false (World.doorLaid Tryz.prog 4000 os) #[] 8 rfl (World.shaped_of_RefB (by kernel_rfl) (by kernel_rfl)) (by kernel_rfl) (by kernel_rfl) (by kernel_rfl) (doorFoldNames os _)) ?_
  intro W base args ds gs before hval0 hW _ _ hL _
  have hval : ∀ (j : Nat) t v, Tryz.f6.params[j]? = some t → args[j]? = some v → Value.okWide Tryz.prog W .any base t v := hval0
  have hW' := hW
  obtain ⟨p, q, hA0, hV, rfl, hfz, hnd⟩ := hW
  have hA : DataW.TrodAll enc Tryz.prog W 0 (fun _ => true) true Tryz.f6.params.toList args.toList ds p := hA0
  have hpar : Tryz.f6.params.toList = [] := by kernel_rfl
  have hds : ds.length = 0 := by have := CM.trodAll_len hA; rw [hpar] at this; simpa using this
  obtain rfl : ds = [] := List.eq_nil_of_length_eq_zero hds
  obtain ⟨rfl, rfl⟩ := trodVars_none hV
  refine (CM.law_walk Tryz.checked.mixed CM.GS_closed 8 (ts := Tryz.f6.params.toList) (by rw [hpar]; decide +kernel) laidOutFoldNames (by rw [hpar]; decide +kernel) (by rw [hpar]; exact foldNames_law) (CM.laid_glo hL)
    (fun j t v ht hv => hval j t v (by simpa using ht) hv) hA).mono fun e W' ⟨he, bel, left⟩ => ?_
  subst he
  exact ⟨_, rfl, _, _, _, [], _, [], hW', trodAll_mk1 (shut_bool Tryz.underlying4 _), left, rfl, bel.frame _, fun h => by cases h⟩

theorem foldNames_row : Rows.FoldNamesSaid :=
  OpenClaim.holds_of_wide 6 Tryz.f6 rfl rfl rfl rfl rfl rfl rfl ⟨rfl, rfl, rfl, rfl, rfl⟩ rfl rfl rfl rfl rfl (by kernel_rfl) Tryz.func6 (by kernel_rfl)
    (of_decide_eq_true (by kernel_rfl)) (by unfold Func.isWrapper; first | (rw [if_pos (by decide +kernel)]; kernel_rfl) | (rw [if_neg (by decide +kernel)]; exact ⟨rfl, rfl⟩))
    (fun os started H enc _ => foldNames_lifted os started H enc)

theorem foldNames_holds : Rows.FoldNamesCardSaid :=
  Claim7.holds_tied_plain_at .later [] [.data] true (true, "7b3df127d049ebee9736ca6335ce2eecfb335e020b6bfbc2c24b080bd2ae72ee") false
    foldNames_row (fun _ h => by cases h) (by kernel_rfl) (fun _ h => by cases h) foldNames_row_tie rfl ⟨rfl, rfl⟩ (by kernel_rfl) rfl
    (fun f fn hf hfn => by
      obtain rfl : f = 6 := Option.some.inj ((show Tryz.prog.funcNamed "braid/braidlaw23.FoldNames" = some 6 by kernel_rfl).symm.trans hf) |>.symm
      obtain rfl : fn = Tryz.f6 := (Option.some.inj (Tryz.func6.symm.trans hfn)).symm
      exact ⟨by kernel_rfl, fun j t ht => by
        have hpar : Tryz.f6.params = #[] := by kernel_rfl
        rw [hpar] at ht
        have hm : t ∈ [] := by simpa using Array.mem_of_getElem? ht
        have hall : ([].all fun u => !Tryz.prog.wantsStandIn u) = true := by kernel_rfl
        exact (show Tryz.prog.wantsStandIn t = false by simpa using List.all_eq_true.1 hall t hm)⟩)
    (by kernel_rfl)
#print axioms foldNames_holds
end Go.Proofs.YtobphgccoalchaaGreatDoor
