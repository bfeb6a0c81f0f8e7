/-
  Proved: 'SketchOrder' returns true for all arguments, where the table that the program lays reads as laid, whatever the tape, the memory and the order that is drawn; the arguments read as they did; the card ties the table to the program's text.
-/
import Derived.Test.YtacddnkgkogabaaDoorKk
import Derived.Test.YtacddnkgkogabaaDoorRows
import Derived.Test.YtacddnkgkogabaaDoorTie
import Derived.Test.YtacddnkgkogabaaDoorCards
import Derived.ProofKit
import Derived.LaidMore
import Derived.OpenShut
import Derived.Stop.Joined
import Derived.SevenTiedAt
namespace Go.Proofs.YtacddnkgkogabaaDoor
open Go.ChangeShapes Go.WideShapes Go.ChangeAt Go.RowKit
set_option linter.unusedVariables false
set_option linter.unnecessarySimpa false

theorem ownSketchOrder : ownKnob Tryd.prog.godebug = none := by kernel_rfl
theorem laidOutSketchOrder : laidOutB Tryd.prog = true := by kernel_rfl
abbrev laidSketchOrder : List (String × DataW Unit) := [("braid/digest.constants", Rows.laid_braid_digest_constants)]
theorem doorSketchOrder (os : Os) (args : Array Value) : laidMetH Tryd.prog laidSketchOrder ((World.doorLaid Tryd.prog 4000 os).forCall (fun _ _ => 0) ⟨#[], args, []⟩).memory :=
  laidMetH_of_parts3 (fuel := 8) (laidMet_of_run' 8 (by kernel_rfl) (by kernel_rfl)) (by kernel_rfl) (by kernel_rfl)

theorem sketchOrder_law (cs : List CM.CV) (h : CM.TyA Tryd.prog [22, 24, 24, 50, 3] cs) : CM.CallP Tryd.prog CM.GS 9 cs [] (c := ⟨fun r _ => r = .bool true⟩) := by
  obtain ⟨s, _, rfl, hs, hl, h1⟩ := CM.Sk.tyA_skl h
  obtain ⟨x, _, rfl, hx, h2⟩ := CM.tyA_id h1
  obtain ⟨y, _, rfl, hy, h3⟩ := CM.tyA_id h2
  obtain ⟨ids, _, rfl, hi, h4⟩ := CM.Sk.tyA_ids h3
  obtain ⟨n, _, rfl, _, _, h5⟩ := CM.tyA_int h4
  rw [CM.tyA_nil h5]
  exact CM.Sk.order_call s x y ids n hs hl hx hy hi

set_option maxRecDepth 100000 in
theorem sketchOrder_lifted (os : Os) (started : os.Started) (H : Type) (enc : TypeId × Value → H) :
    ReturnsInHanded {} Tryd.checked os 9 .any (fun w args => (Rows.sketchOrderSpec.pre enc Tryd.prog Tryd.f9 [] false w args ∧ laidMetH Tryd.prog laidSketchOrder w) ∧ sizedMet enc Tryd.prog Tryd.f9 (OpenSpec.ofChange Rows.sketchOrderSpec) false w args)
      (Rows.sketchOrderSpec.post enc Tryd.prog Tryd.f9 false true false false) := by
  refine returnsInHanded_of_change_and (C := Tryd.checked) (X := fun w _ => laidMetH Tryd.prog laidSketchOrder w) (fun _ _ _ hh h => h.of_heap hh) ownSketchOrder started (by kernel_rfl) Tryd.func9
    (ChangeSpec.witness_shaped (enc := enc) (C := Tryd.checked) (os := os) (X := fun w _ => laidMetH Tryd.prog laidSketchOrder w) false (World.doorLaid Tryd.prog 4000 os) #[.slice none 0 0, .agg (Array.replicate 32 (.int .u8 0)), .agg (Array.replicate 32 (.int .u8 0)), .slice none 0 0, .int .i64 0] 8 rfl (World.shaped_of_RefB (by kernel_rfl) (by kernel_rfl)) (by kernel_rfl) (by kernel_rfl) (by kernel_rfl) (doorSketchOrder os _)) ?_
  intro W base args ds gs before hval0 hW _ _ hL _
  have hval : ∀ (j : Nat) t v, Tryd.f9.params[j]? = some t → args[j]? = some v → Value.okWide Tryd.prog W .any base t v := hval0
  have hW' := hW
  obtain ⟨p, q, hA0, hV, rfl, hfz, hnd⟩ := hW
  have hA : DataW.TrodAll enc Tryd.prog W 0 (fun _ => true) true Tryd.f9.params.toList args.toList ds p := hA0
  have hpar : Tryd.f9.params.toList = [22, 24, 24, 50, 3] := by kernel_rfl
  have hds : ds.length = 5 := by have := CM.trodAll_len hA; rw [hpar] at this; simpa using this
  obtain ⟨d1, d2, d3, d4, d5, rfl⟩ : ∃ d1 d2 d3 d4 d5, ds = [d1, d2, d3, d4, d5] := by
    match ds, hds with
    | [d1, d2, d3, d4, d5], _ => exact ⟨d1, d2, d3, d4, d5, rfl⟩
  obtain ⟨rfl, rfl⟩ := trodVars_none hV
  refine (CM.law_walk Tryd.checked.mixed CM.GS_closed 8 (ts := Tryd.f9.params.toList) (by rw [hpar]; decide +kernel) laidOutSketchOrder (by rw [hpar]; decide +kernel) (by rw [hpar]; exact sketchOrder_law) (CM.laid_glo hL)
    (fun j t v ht hv => hval j t v (by simpa using ht) hv) hA).mono fun e W' ⟨he, bel, left⟩ => ?_
  subst he
  exact ⟨_, rfl, _, _, _, [], _, [], hW', trodAll_mk1 (shut_bool Tryd.underlying4 _), left, rfl, bel.frame _, fun h => by cases h⟩

theorem sketchOrder_row : Rows.SketchOrderSaid :=
  OpenClaim.holds_of_wide 9 Tryd.f9 rfl rfl rfl rfl rfl rfl rfl ⟨rfl, rfl, rfl, rfl, rfl⟩ rfl rfl rfl rfl rfl (by kernel_rfl) Tryd.func9 (by kernel_rfl)
    (of_decide_eq_true (by kernel_rfl)) (by unfold Func.isWrapper; first | (rw [if_pos (by decide +kernel)]; kernel_rfl) | (rw [if_neg (by decide +kernel)]; exact ⟨rfl, rfl⟩))
    (fun os started H enc _ => sketchOrder_lifted os started H enc)

theorem sketchOrder_holds : Rows.SketchOrderCardSaid :=
  Claim7.holds_tied_plain_at .later [] [.data] true (true, "ef8b0c586be6090a19455217804c7f640ae01d94847e53ebd39f8eecba276a29") false
    sketchOrder_row (fun _ h => by cases h) (by kernel_rfl) (fun _ h => by cases h) sketchOrder_row_tie rfl ⟨rfl, rfl⟩ (by kernel_rfl) rfl
    (fun f fn hf hfn => by
      obtain rfl : f = 9 := Option.some.inj ((show Tryd.prog.funcNamed "braid/braidlaw39.SketchOrder" = some 9 by kernel_rfl).symm.trans hf) |>.symm
      obtain rfl : fn = Tryd.f9 := (Option.some.inj (Tryd.func9.symm.trans hfn)).symm
      exact ⟨by kernel_rfl, fun j t ht => by
        have hpar : Tryd.f9.params = #[22, 24, 24, 50, 3] := by kernel_rfl
        rw [hpar] at ht
        have hm : t ∈ [22, 24, 24, 50, 3] := by simpa using Array.mem_of_getElem? ht
        have hall : ([22, 24, 24, 50, 3].all fun u => !Tryd.prog.wantsStandIn u) = true := by kernel_rfl
        exact (show Tryd.prog.wantsStandIn t = false by simpa using List.all_eq_true.1 hall t hm)⟩)
    (by kernel_rfl)
#print axioms sketchOrder_holds
end Go.Proofs.YtacddnkgkogabaaDoor
