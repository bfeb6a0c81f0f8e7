/-
  Proved: 'SketchBack' returns true for all arguments, where the table that the program lays reads as laid, whatever the tape, the memory and the order that is drawn; the arguments read as they did; the card ties the table to the program's text.
-/
import Derived.Test.YtacddnkgkogabaaDoorKj
import Derived.Test.YtacddnkgkogabaaDoorRows
import Derived.Test.YtacddnkgkogabaaDoorTie
import Derived.Test.YtacddnkgkogabaaDoorCards
import Derived.ProofKit
import Derived.LaidMore
import Derived.OpenShut
import Derived.Stop.Joined
import Derived.SevenTiedAt
namespace Go.Proofs.YtacddnkgkogabaaDoor
open Go.ChangeShapes Go.WideShapes Go.ChangeAt Go.RowKit
set_option linter.unusedVariables false
set_option linter.unnecessarySimpa false

theorem ownSketchBack : ownKnob Tryd.prog.godebug = none := by kernel_rfl
theorem laidOutSketchBack : laidOutB Tryd.prog = true := by kernel_rfl
abbrev laidSketchBack : List (String × DataW Unit) := [("braid/digest.constants", Rows.laid_braid_digest_constants)]
theorem doorSketchBack (os : Os) (args : Array Value) : laidMetH Tryd.prog laidSketchBack ((World.doorLaid Tryd.prog 4000 os).forCall (fun _ _ => 0) ⟨#[], args, []⟩).memory :=
  laidMetH_of_parts3 (fuel := 8) (laidMet_of_run' 8 (by kernel_rfl) (by kernel_rfl)) (by kernel_rfl) (by kernel_rfl)

theorem sketchBack_law (cs : List CM.CV) (h : CM.TyA Tryd.prog [22] cs) : CM.CallP Tryd.prog CM.GS 8 cs [] (c := ⟨fun r _ => r = .bool true⟩) := by
  obtain ⟨s, _, rfl, hs, hl, h1⟩ := CM.Sk.tyA_skl h
  rw [CM.tyA_nil h1]
  exact CM.Sk.back_call s hs hl

set_option maxRecDepth 100000 in
theorem sketchBack_lifted (os : Os) (started : os.Started) (H : Type) (enc : TypeId × Value → H) :
    ReturnsInHanded {} Tryd.checked os 8 .any (fun w args => (Rows.sketchBackSpec.pre enc Tryd.prog Tryd.f8 [] false w args ∧ laidMetH Tryd.prog laidSketchBack w) ∧ sizedMet enc Tryd.prog Tryd.f8 (OpenSpec.ofChange Rows.sketchBackSpec) false w args)
      (Rows.sketchBackSpec.post enc Tryd.prog Tryd.f8 false true false false) := by
  refine returnsInHanded_of_change_and (C := Tryd.checked) (X := fun w _ => laidMetH Tryd.prog laidSketchBack w) (fun _ _ _ hh h => h.of_heap hh) ownSketchBack started (by kernel_rfl) Tryd.func8
    (ChangeSpec.witness_shaped (enc := enc) (C := Tryd.checked) (os := os) (X := fun w _ => laidMetH Tryd.prog laidSketchBack w) false (World.doorLaid Tryd.prog 4000 os) #[.slice none 0 0] 8 rfl (World.shaped_of_RefB (by kernel_rfl) (by kernel_rfl)) (by kernel_rfl) (by kernel_rfl) (by kernel_rfl) (doorSketchBack os _)) ?_
  intro W base args ds gs before hval0 hW _ _ hL _
  have hval : ∀ (j : Nat) t v, Tryd.f8.params[j]? = some t → args[j]? = some v → Value.okWide Tryd.prog W .any base t v := hval0
  have hW' := hW
  obtain ⟨p, q, hA0, hV, rfl, hfz, hnd⟩ := hW
  have hA : DataW.TrodAll enc Tryd.prog W 0 (fun _ => true) true Tryd.f8.params.toList args.toList ds p := hA0
  have hpar : Tryd.f8.params.toList = [22] := by kernel_rfl
  have hds : ds.length = 1 := by have := CM.trodAll_len hA; rw [hpar] at this; simpa using this
  obtain ⟨d1, rfl⟩ : ∃ d1, ds = [d1] := by
    match ds, hds with
    | [d1], _ => exact ⟨d1, rfl⟩
  obtain ⟨rfl, rfl⟩ := trodVars_none hV
  refine (CM.law_walk Tryd.checked.mixed CM.GS_closed 8 (ts := Tryd.f8.params.toList) (by rw [hpar]; decide +kernel) laidOutSketchBack (by rw [hpar]; decide +kernel) (by rw [hpar]; exact sketchBack_law) (CM.laid_glo hL)
    (fun j t v ht hv => hval j t v (by simpa using ht) hv) hA).mono fun e W' ⟨he, bel, left⟩ => ?_
  subst he
  exact ⟨_, rfl, _, _, _, [], _, [], hW', trodAll_mk1 (shut_bool Tryd.underlying4 _), left, rfl, bel.frame _, fun h => by cases h⟩

theorem sketchBack_row : Rows.SketchBackSaid :=
  OpenClaim.holds_of_wide 8 Tryd.f8 rfl rfl rfl rfl rfl rfl rfl ⟨rfl, rfl, rfl, rfl, rfl⟩ rfl rfl rfl rfl rfl (by kernel_rfl) Tryd.func8 (by kernel_rfl)
    (of_decide_eq_true (by kernel_rfl)) (by unfold Func.isWrapper; first | (rw [if_pos (by decide +kernel)]; kernel_rfl) | (rw [if_neg (by decide +kernel)]; exact ⟨rfl, rfl⟩))
    (fun os started H enc _ => sketchBack_lifted os started H enc)

theorem sketchBack_holds : Rows.SketchBackCardSaid :=
  Claim7.holds_tied_plain_at .later [] [.data] true (true, "ef8b0c586be6090a19455217804c7f640ae01d94847e53ebd39f8eecba276a29") false
    sketchBack_row (fun _ h => by cases h) (by kernel_rfl) (fun _ h => by cases h) sketchBack_row_tie rfl ⟨rfl, rfl⟩ (by kernel_rfl) rfl
    (fun f fn hf hfn => by
      obtain rfl : f = 8 := Option.some.inj ((show Tryd.prog.funcNamed "braid/braidlaw39.SketchBack" = some 8 by kernel_rfl).symm.trans hf) |>.symm
      obtain rfl : fn = Tryd.f8 := (Option.some.inj (Tryd.func8.symm.trans hfn)).symm
      exact ⟨by kernel_rfl, fun j t ht => by
        have hpar : Tryd.f8.params = #[22] := by kernel_rfl
        rw [hpar] at ht
        have hm : t ∈ [22] := by simpa using Array.mem_of_getElem? ht
        have hall : ([22].all fun u => !Tryd.prog.wantsStandIn u) = true := by kernel_rfl
        exact (show Tryd.prog.wantsStandIn t = false by simpa using List.all_eq_true.1 hall t hm)⟩)
    (by kernel_rfl)
#print axioms sketchBack_holds
end Go.Proofs.YtacddnkgkogabaaDoor
