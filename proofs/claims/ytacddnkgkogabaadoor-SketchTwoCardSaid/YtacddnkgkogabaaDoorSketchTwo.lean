/-
  Proved: 'SketchTwo' returns true for all arguments, where the table that the program lays reads as laid, whatever the tape, the memory and the order that is drawn; the arguments read as they did; the card ties the table to the program's text.
-/
import Derived.Test.YtacddnkgkogabaaDoorKj
import Derived.Test.YtacddnkgkogabaaDoorRows
import Derived.Test.YtacddnkgkogabaaDoorTie
import Derived.Test.YtacddnkgkogabaaDoorCards
import Derived.ProofKit
import Derived.LaidMore
import Derived.OpenShut
import Derived.Stop.Joined
import Derived.SevenTiedAt
namespace Go.Proofs.YtacddnkgkogabaaDoor
open Go.ChangeShapes Go.WideShapes Go.ChangeAt Go.RowKit
set_option linter.unusedVariables false
set_option linter.unnecessarySimpa false

theorem ownSketchTwo : ownKnob Tryd.prog.godebug = none := by kernel_rfl
theorem laidOutSketchTwo : laidOutB Tryd.prog = true := by kernel_rfl
abbrev laidSketchTwo : List (String × DataW Unit) := [("braid/digest.constants", Rows.laid_braid_digest_constants)]
theorem doorSketchTwo (os : Os) (args : Array Value) : laidMetH Tryd.prog laidSketchTwo ((World.doorLaid Tryd.prog 4000 os).forCall (fun _ _ => 0) ⟨#[], args, []⟩).memory :=
  laidMetH_of_parts3 (fuel := 8) (laidMet_of_run' 8 (by kernel_rfl) (by kernel_rfl)) (by kernel_rfl) (by kernel_rfl)

theorem sketchTwo_law (cs : List CM.CV) (h : CM.TyA Tryd.prog [3, 50, 24, 24, 4] cs) : CM.CallP Tryd.prog CM.GS 6 cs [] (c := ⟨fun r _ => r = .bool true⟩) := by
  obtain ⟨n, _, rfl, _, _, h1⟩ := CM.tyA_int h
  obtain ⟨a, _, rfl, ha, h2⟩ := CM.Sk.tyA_ids h1
  obtain ⟨x, _, rfl, hx, h3⟩ := CM.tyA_id h2
  obtain ⟨y, _, rfl, hy, h4⟩ := CM.tyA_id h3
  obtain ⟨b, _, rfl, h5⟩ := CM.tyA_bool h4
  rw [CM.tyA_nil h5]
  exact CM.Sk.two_call n a x y b ha hx hy

set_option maxRecDepth 100000 in
theorem sketchTwo_lifted (os : Os) (started : os.Started) (H : Type) (enc : TypeId × Value → H) :
    ReturnsInHanded {} Tryd.checked os 6 .any (fun w args => (Rows.sketchTwoSpec.pre enc Tryd.prog Tryd.f6 [] false w args ∧ laidMetH Tryd.prog laidSketchTwo w) ∧ sizedMet enc Tryd.prog Tryd.f6 (OpenSpec.ofChange Rows.sketchTwoSpec) false w args)
      (Rows.sketchTwoSpec.post enc Tryd.prog Tryd.f6 false true false false) := by
  refine returnsInHanded_of_change_and (C := Tryd.checked) (X := fun w _ => laidMetH Tryd.prog laidSketchTwo w) (fun _ _ _ hh h => h.of_heap hh) ownSketchTwo started (by kernel_rfl) Tryd.func6
    (ChangeSpec.witness_shaped (enc := enc) (C := Tryd.checked) (os := os) (X := fun w _ => laidMetH Tryd.prog laidSketchTwo w) false (World.doorLaid Tryd.prog 4000 os) #[.int .i64 0, .slice none 0 0, .agg (Array.replicate 32 (.int .u8 0)), .agg (Array.replicate 32 (.int .u8 0)), .bool false] 8 rfl (World.shaped_of_RefB (by kernel_rfl) (by kernel_rfl)) (by kernel_rfl) (by kernel_rfl) (by kernel_rfl) (doorSketchTwo os _)) ?_
  intro W base args ds gs before hval0 hW _ _ hL _
  have hval : ∀ (j : Nat) t v, Tryd.f6.params[j]? = some t → args[j]? = some v → Value.okWide Tryd.prog W .any base t v := hval0
  have hW' := hW
  obtain ⟨p, q, hA0, hV, rfl, hfz, hnd⟩ := hW
  have hA : DataW.TrodAll enc Tryd.prog W 0 (fun _ => true) true Tryd.f6.params.toList args.toList ds p := hA0
  have hpar : Tryd.f6.params.toList = [3, 50, 24, 24, 4] := by kernel_rfl
  have hds : ds.length = 5 := by have := CM.trodAll_len hA; rw [hpar] at this; simpa using this
  obtain ⟨d1, d2, d3, d4, d5, rfl⟩ : ∃ d1 d2 d3 d4 d5, ds = [d1, d2, d3, d4, d5] := by
    match ds, hds with
    | [d1, d2, d3, d4, d5], _ => exact ⟨d1, d2, d3, d4, d5, rfl⟩
  obtain ⟨rfl, rfl⟩ := trodVars_none hV
  refine (CM.law_walk Tryd.checked.mixed CM.GS_closed 8 (ts := Tryd.f6.params.toList) (by rw [hpar]; decide +kernel) laidOutSketchTwo (by rw [hpar]; decide +kernel) (by rw [hpar]; exact sketchTwo_law) (CM.laid_glo hL)
    (fun j t v ht hv => hval j t v (by simpa using ht) hv) hA).mono fun e W' ⟨he, bel, left⟩ => ?_
  subst he
  exact ⟨_, rfl, _, _, _, [], _, [], hW', trodAll_mk1 (shut_bool Tryd.underlying4 _), left, rfl, bel.frame _, fun h => by cases h⟩

theorem sketchTwo_row : Rows.SketchTwoSaid :=
  OpenClaim.holds_of_wide 6 Tryd.f6 rfl rfl rfl rfl rfl rfl rfl ⟨rfl, rfl, rfl, rfl, rfl⟩ rfl rfl rfl rfl rfl (by kernel_rfl) Tryd.func6 (by kernel_rfl)
    (of_decide_eq_true (by kernel_rfl)) (by unfold Func.isWrapper; first | (rw [if_pos (by decide +kernel)]; kernel_rfl) | (rw [if_neg (by decide +kernel)]; exact ⟨rfl, rfl⟩))
    (fun os started H enc _ => sketchTwo_lifted os started H enc)

theorem sketchTwo_holds : Rows.SketchTwoCardSaid :=
  Claim7.holds_tied_plain_at .later [] [.data] true (true, "ef8b0c586be6090a19455217804c7f640ae01d94847e53ebd39f8eecba276a29") false
    sketchTwo_row (fun _ h => by cases h) (by kernel_rfl) (fun _ h => by cases h) sketchTwo_row_tie rfl ⟨rfl, rfl⟩ (by kernel_rfl) rfl
    (fun f fn hf hfn => by
      obtain rfl : f = 6 := Option.some.inj ((show Tryd.prog.funcNamed "braid/braidlaw39.SketchTwo" = some 6 by kernel_rfl).symm.trans hf) |>.symm
      obtain rfl : fn = Tryd.f6 := (Option.some.inj (Tryd.func6.symm.trans hfn)).symm
      exact ⟨by kernel_rfl, fun j t ht => by
        have hpar : Tryd.f6.params = #[3, 50, 24, 24, 4] := by kernel_rfl
        rw [hpar] at ht
        have hm : t ∈ [3, 50, 24, 24, 4] := by simpa using Array.mem_of_getElem? ht
        have hall : ([3, 50, 24, 24, 4].all fun u => !Tryd.prog.wantsStandIn u) = true := by kernel_rfl
        exact (show Tryd.prog.wantsStandIn t = false by simpa using List.all_eq_true.1 hall t hm)⟩)
    (by kernel_rfl)
#print axioms sketchTwo_holds
end Go.Proofs.YtacddnkgkogabaaDoor
