/-
  Proved: 'CommitNames' returns true for all arguments, where the table that the program lays reads as laid, whatever the tape, the memory and the order that is drawn; the arguments read as they did; the card ties the table to the program's text.
-/
import Derived.Test.YtdjbnhgdhambnaaGreatDoorDo
import Derived.Test.YtdjbnhgdhambnaaGreatDoorRows
import Derived.Test.YtdjbnhgdhambnaaGreatDoorTie
import Derived.Test.YtdjbnhgdhambnaaGreatDoorCards
import Derived.ProofKit
import Derived.LaidMore
import Derived.OpenShut
import Derived.Stop.Joined
import Derived.SevenTiedAt
namespace Go.Proofs.YtdjbnhgdhambnaaGreatDoor
open Go.ChangeShapes Go.WideShapes Go.ChangeAt Go.RowKit
set_option linter.unusedVariables false
set_option linter.unnecessarySimpa false

theorem ownCommitNames : ownKnob Tryz.prog.godebug = none := by kernel_rfl
theorem laidOutCommitNames : laidOutB Tryz.prog = true := by kernel_rfl
abbrev laidCommitNames : List (String × DataW Unit) := [("braid/digest.constants", Rows.laid_braid_digest_constants)]
theorem doorCommitNames (os : Os) (args : Array Value) : laidMetH Tryz.prog laidCommitNames ((World.doorLaid Tryz.prog 4000 os).forCall (fun _ _ => 0) ⟨#[], args, []⟩).memory :=
  laidMetH_of_parts3 (fuel := 8) (laidMet_of_run' 8 (by kernel_rfl) (by kernel_rfl)) (by kernel_rfl) (by kernel_rfl)

theorem commitNames_law (cs : List CM.CV) (h : CM.TyA Tryz.prog [] cs) : CM.CallP Tryz.prog CM.GS 8 cs [] (c := ⟨fun r _ => r = .bool true⟩) := by
  rw [CM.tyA_nil h]
  exact CM.kCommitNames_run

set_option maxRecDepth 100000 in
theorem commitNames_lifted (os : Os) (started : os.Started) (H : Type) (enc : TypeId × Value → H) :
    ReturnsInHanded {} Tryz.checked os 8 .any (fun w args => (Rows.commitNamesSpec.pre enc Tryz.prog Tryz.f8 [] false w args ∧ laidMetH Tryz.prog laidCommitNames w) ∧ sizedMet enc Tryz.prog Tryz.f8 (OpenSpec.ofChange Rows.commitNamesSpec) false w args)
      (Rows.commitNamesSpec.post enc Tryz.prog Tryz.f8 false true false false) := by
  refine returnsInHanded_of_change_and (C := Tryz.checked) (X := fun w _ => laidMetH Tryz.prog laidCommitNames w) (fun _ _ _ hh h => h.of_heap hh) ownCommitNames started (by kernel_rfl) Tryz.func8
    (ChangeSpec.witness_shaped (enc := enc) (C := Tryz.checked) (os := os) (X := fun w _ => laidMetH Tryz.prog laidCommitNames w) false (World.doorLaid Tryz.prog 4000 os) #[] 8 rfl (World.shaped_of_RefB (by kernel_rfl) (by kernel_rfl)) (by kernel_rfl) (by kernel_rfl) (by kernel_rfl) (doorCommitNames os _)) ?_
  intro W base args ds gs before hval0 hW _ _ hL _
  have hval : ∀ (j : Nat) t v, Tryz.f8.params[j]? = some t → args[j]? = some v → Value.okWide Tryz.prog W .any base t v := hval0
  have hW' := hW
  obtain ⟨p, q, hA0, hV, rfl, hfz, hnd⟩ := hW
  have hA : DataW.TrodAll enc Tryz.prog W 0 (fun _ => true) true Tryz.f8.params.toList args.toList ds p := hA0
  have hpar : Tryz.f8.params.toList = [] := by kernel_rfl
  have hds : ds.length = 0 := by have := CM.trodAll_len hA; rw [hpar] at this; simpa using this
  obtain rfl : ds = [] := List.eq_nil_of_length_eq_zero hds
  obtain ⟨rfl, rfl⟩ := trodVars_none hV
  refine (CM.law_walk Tryz.checked.mixed CM.GS_closed 8 (ts := Tryz.f8.params.toList) (by rw [hpar]; decide +kernel) laidOutCommitNames (by rw [hpar]; decide +kernel) (by rw [hpar]; exact commitNames_law) (CM.laid_glo hL)
    (fun j t v ht hv => hval j t v (by simpa using ht) hv) hA).mono fun e W' ⟨he, bel, left⟩ => ?_
  subst he
  exact ⟨_, rfl, _, _, _, [], _, [], hW', trodAll_mk1 (shut_bool Tryz.underlying4 _), left, rfl, bel.frame _, fun h => by cases h⟩

theorem commitNames_row : Rows.CommitNamesSaid :=
  OpenClaim.holds_of_wide 8 Tryz.f8 rfl rfl rfl rfl rfl rfl rfl ⟨rfl, rfl, rfl, rfl, rfl⟩ rfl rfl rfl rfl rfl (by kernel_rfl) Tryz.func8 (by kernel_rfl)
    (of_decide_eq_true (by kernel_rfl)) (by unfold Func.isWrapper; first | (rw [if_pos (by decide +kernel)]; kernel_rfl) | (rw [if_neg (by decide +kernel)]; exact ⟨rfl, rfl⟩))
    (fun os started H enc _ => commitNames_lifted os started H enc)

theorem commitNames_holds : Rows.CommitNamesCardSaid :=
  Claim7.holds_tied_plain_at .later [] [.data] true (true, "460a1bf21ab365d8b34b59d9a489baedc9787b42bd0061ed2cfb25e1dc925766") false
    commitNames_row (fun _ h => by cases h) (by kernel_rfl) (fun _ h => by cases h) commitNames_row_tie rfl ⟨rfl, rfl⟩ (by kernel_rfl) rfl
    (fun f fn hf hfn => by
      obtain rfl : f = 8 := Option.some.inj ((show Tryz.prog.funcNamed "braid/braidlaw19.CommitNames" = some 8 by kernel_rfl).symm.trans hf) |>.symm
      obtain rfl : fn = Tryz.f8 := (Option.some.inj (Tryz.func8.symm.trans hfn)).symm
      exact ⟨by kernel_rfl, fun j t ht => by
        have hpar : Tryz.f8.params = #[] := by kernel_rfl
        rw [hpar] at ht
        have hm : t ∈ [] := by simpa using Array.mem_of_getElem? ht
        have hall : ([].all fun u => !Tryz.prog.wantsStandIn u) = true := by kernel_rfl
        exact (show Tryz.prog.wantsStandIn t = false by simpa using List.all_eq_true.1 hall t hm)⟩)
    (by kernel_rfl)
#print axioms commitNames_holds
end Go.Proofs.YtdjbnhgdhambnaaGreatDoor
