/-
  Proved: 'SketchDiffers' returns true for all arguments, where the table that the program lays reads as laid, whatever the tape, the memory and the order that is drawn; the arguments read as they did; the card ties the table to the program's text.
-/
import Derived.Test.YtacddnkgkogabaaDoorKk
import Derived.Test.YtacddnkgkogabaaDoorRows
import Derived.Test.YtacddnkgkogabaaDoorTie
import Derived.Test.YtacddnkgkogabaaDoorCards
import Derived.ProofKit
import Derived.LaidMore
import Derived.OpenShut
import Derived.Stop.Joined
import Derived.SevenTiedAt
namespace Go.Proofs.YtacddnkgkogabaaDoor
open Go.ChangeShapes Go.WideShapes Go.ChangeAt Go.RowKit
set_option linter.unusedVariables false
set_option linter.unnecessarySimpa false

theorem ownSketchDiffers : ownKnob Tryd.prog.godebug = none := by kernel_rfl
theorem laidOutSketchDiffers : laidOutB Tryd.prog = true := by kernel_rfl
abbrev laidSketchDiffers : List (String × DataW Unit) := [("braid/digest.constants", Rows.laid_braid_digest_constants)]
theorem doorSketchDiffers (os : Os) (args : Array Value) : laidMetH Tryd.prog laidSketchDiffers ((World.doorLaid Tryd.prog 4000 os).forCall (fun _ _ => 0) ⟨#[], args, []⟩).memory :=
  laidMetH_of_parts3 (fuel := 8) (laidMet_of_run' 8 (by kernel_rfl) (by kernel_rfl)) (by kernel_rfl) (by kernel_rfl)

theorem sketchDiffers_law (cs : List CM.CV) (h : CM.TyA Tryd.prog [3, 50, 50] cs) : CM.CallP Tryd.prog CM.GS 5 cs [] (c := ⟨fun r _ => r = .bool true⟩) := by
  obtain ⟨n, _, rfl, _, _, h1⟩ := CM.tyA_int h
  obtain ⟨a, _, rfl, ha, h2⟩ := CM.Sk.tyA_ids h1
  obtain ⟨b, _, rfl, hb, h3⟩ := CM.Sk.tyA_ids h2
  rw [CM.tyA_nil h3]
  exact CM.Sk.differs_call n a b ha hb

set_option maxRecDepth 100000 in
theorem sketchDiffers_lifted (os : Os) (started : os.Started) (H : Type) (enc : TypeId × Value → H) :
    ReturnsInHanded {} Tryd.checked os 5 .any (fun w args => (Rows.sketchDiffersSpec.pre enc Tryd.prog Tryd.f5 [] false w args ∧ laidMetH Tryd.prog laidSketchDiffers w) ∧ sizedMet enc Tryd.prog Tryd.f5 (OpenSpec.ofChange Rows.sketchDiffersSpec) false w args)
      (Rows.sketchDiffersSpec.post enc Tryd.prog Tryd.f5 false true false false) := by
  refine returnsInHanded_of_change_and (C := Tryd.checked) (X := fun w _ => laidMetH Tryd.prog laidSketchDiffers w) (fun _ _ _ hh h => h.of_heap hh) ownSketchDiffers started (by kernel_rfl) Tryd.func5
    (ChangeSpec.witness_shaped (enc := enc) (C := Tryd.checked) (os := os) (X := fun w _ => laidMetH Tryd.prog laidSketchDiffers w) false (World.doorLaid Tryd.prog 4000 os) #[.int .i64 0, .slice none 0 0, .slice none 0 0] 8 rfl (World.shaped_of_RefB (by kernel_rfl) (by kernel_rfl)) (by kernel_rfl) (by kernel_rfl) (by kernel_rfl) (doorSketchDiffers os _)) ?_
  intro W base args ds gs before hval0 hW _ _ hL _
  have hval : ∀ (j : Nat) t v, Tryd.f5.params[j]? = some t → args[j]? = some v → Value.okWide Tryd.prog W .any base t v := hval0
  have hW' := hW
  obtain ⟨p, q, hA0, hV, rfl, hfz, hnd⟩ := hW
  have hA : DataW.TrodAll enc Tryd.prog W 0 (fun _ => true) true Tryd.f5.params.toList args.toList ds p := hA0
  have hpar : Tryd.f5.params.toList = [3, 50, 50] := by kernel_rfl
  have hds : ds.length = 3 := by have := CM.trodAll_len hA; rw [hpar] at this; simpa using this
  obtain ⟨d1, d2, d3, rfl⟩ : ∃ d1 d2 d3, ds = [d1, d2, d3] := by
    match ds, hds with
    | [d1, d2, d3], _ => exact ⟨d1, d2, d3, rfl⟩
  obtain ⟨rfl, rfl⟩ := trodVars_none hV
  refine (CM.law_walk Tryd.checked.mixed CM.GS_closed 8 (ts := Tryd.f5.params.toList) (by rw [hpar]; decide +kernel) laidOutSketchDiffers (by rw [hpar]; decide +kernel) (by rw [hpar]; exact sketchDiffers_law) (CM.laid_glo hL)
    (fun j t v ht hv => hval j t v (by simpa using ht) hv) hA).mono fun e W' ⟨he, bel, left⟩ => ?_
  subst he
  exact ⟨_, rfl, _, _, _, [], _, [], hW', trodAll_mk1 (shut_bool Tryd.underlying4 _), left, rfl, bel.frame _, fun h => by cases h⟩

theorem sketchDiffers_row : Rows.SketchDiffersSaid :=
  OpenClaim.holds_of_wide 5 Tryd.f5 rfl rfl rfl rfl rfl rfl rfl ⟨rfl, rfl, rfl, rfl, rfl⟩ rfl rfl rfl rfl rfl (by kernel_rfl) Tryd.func5 (by kernel_rfl)
    (of_decide_eq_true (by kernel_rfl)) (by unfold Func.isWrapper; first | (rw [if_pos (by decide +kernel)]; kernel_rfl) | (rw [if_neg (by decide +kernel)]; exact ⟨rfl, rfl⟩))
    (fun os started H enc _ => sketchDiffers_lifted os started H enc)

theorem sketchDiffers_holds : Rows.SketchDiffersCardSaid :=
  Claim7.holds_tied_plain_at .later [] [.data] true (true, "ef8b0c586be6090a19455217804c7f640ae01d94847e53ebd39f8eecba276a29") false
    sketchDiffers_row (fun _ h => by cases h) (by kernel_rfl) (fun _ h => by cases h) sketchDiffers_row_tie rfl ⟨rfl, rfl⟩ (by kernel_rfl) rfl
    (fun f fn hf hfn => by
      obtain rfl : f = 5 := Option.some.inj ((show Tryd.prog.funcNamed "braid/braidlaw39.SketchDiffers" = some 5 by kernel_rfl).symm.trans hf) |>.symm
      obtain rfl : fn = Tryd.f5 := (Option.some.inj (Tryd.func5.symm.trans hfn)).symm
      exact ⟨by kernel_rfl, fun j t ht => by
        have hpar : Tryd.f5.params = #[3, 50, 50] := by kernel_rfl
        rw [hpar] at ht
        have hm : t ∈ [3, 50, 50] := by simpa using Array.mem_of_getElem? ht
        have hall : ([3, 50, 50].all fun u => !Tryd.prog.wantsStandIn u) = true := by kernel_rfl
        exact (show Tryd.prog.wantsStandIn t = false by simpa using List.all_eq_true.1 hall t hm)⟩)
    (by kernel_rfl)
#print axioms sketchDiffers_holds
end Go.Proofs.YtacddnkgkogabaaDoor
