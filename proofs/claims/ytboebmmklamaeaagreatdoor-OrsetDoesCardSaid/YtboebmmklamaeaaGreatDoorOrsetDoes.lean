/-
  Proved: 'OrsetDoes' returns true for all arguments, where the table that the program lays reads as laid, whatever the tape, the memory and the order that is drawn; the arguments read as they did; the card ties the table to the program's text.
-/
import Derived.Test.YtboebmmklamaeaaGreatDoorDl
import Derived.Test.YtboebmmklamaeaaGreatDoorRows
import Derived.Test.YtboebmmklamaeaaGreatDoorTie
import Derived.Test.YtboebmmklamaeaaGreatDoorCards
import Derived.ProofKit
import Derived.LaidMore
import Derived.OpenShut
import Derived.Stop.Joined
import Derived.SevenTiedAt
namespace Go.Proofs.YtboebmmklamaeaaGreatDoor
open Go.ChangeShapes Go.WideShapes Go.ChangeAt Go.RowKit
set_option linter.unusedVariables false
set_option linter.unnecessarySimpa false

theorem ownOrsetDoes : ownKnob Tryz.prog.godebug = none := by kernel_rfl
theorem laidOutOrsetDoes : laidOutB Tryz.prog = true := by kernel_rfl
abbrev laidOrsetDoes : List (String × DataW Unit) := [("braid/digest.constants", Rows.laid_braid_digest_constants)]
theorem doorOrsetDoes (os : Os) (args : Array Value) : laidMetH Tryz.prog laidOrsetDoes ((World.doorLaid Tryz.prog 4000 os).forCall (fun _ _ => 0) ⟨#[], args, []⟩).memory :=
  laidMetH_of_parts3 (fuel := 8) (laidMet_of_run' 8 (by kernel_rfl) (by kernel_rfl)) (by kernel_rfl) (by kernel_rfl)

theorem orsetDoes_law (cs : List CM.CV) (h : CM.TyA Tryz.prog [24, 35, 26, 9] cs) : CM.CallP Tryz.prog CM.GS 3 cs [] (c := ⟨fun r _ => r = .bool true⟩) := by
  obtain ⟨s, _, rfl, hs, h1⟩ := CM.Op.tyA_tags h
  obtain ⟨o, _, rfl, ho, h2⟩ := CM.Op.tyA_op h1
  obtain ⟨b, _, rfl, hb, h3⟩ := CM.Op.tyA_ids h2
  obtain ⟨k, _, rfl, h4⟩ := CM.Op.tyA_str h3
  rw [CM.tyA_nil h4]
  exact CM.Op.orsetDoes_call s o b k hs ho hb

set_option maxRecDepth 100000 in
theorem orsetDoes_lifted (os : Os) (started : os.Started) (H : Type) (enc : TypeId × Value → H) :
    ReturnsInHanded {} Tryz.checked os 3 .any (fun w args => (Rows.orsetDoesSpec.pre enc Tryz.prog Tryz.f3 [] false w args ∧ laidMetH Tryz.prog laidOrsetDoes w) ∧ sizedMet enc Tryz.prog Tryz.f3 (OpenSpec.ofChange Rows.orsetDoesSpec) false w args)
      (Rows.orsetDoesSpec.post enc Tryz.prog Tryz.f3 false true false false) := by
  refine returnsInHanded_of_change_and (C := Tryz.checked) (X := fun w _ => laidMetH Tryz.prog laidOrsetDoes w) (fun _ _ _ hh h => h.of_heap hh) ownOrsetDoes started (by kernel_rfl) Tryz.func3
    (ChangeSpec.witness_shaped (enc := enc) (C := Tryz.checked) (os := os) (X := fun w _ => laidMetH Tryz.prog laidOrsetDoes w) false (World.doorLaid Tryz.prog 4000 os) #[.agg #[.slice none 0 0], .agg #[.int .u32 0, .slice none 0 0, .int .u64 0, .int .u8 0, .string ⟨#[]⟩, .int .u8 0, .int .i64 0, .int .u64 0, .string ⟨#[]⟩, .int .u32 0, .int .u32 0], .slice none 0 0, .string ⟨#[]⟩] 8 rfl (World.shaped_of_RefB (by kernel_rfl) (by kernel_rfl)) (by kernel_rfl) (by kernel_rfl) (by kernel_rfl) (doorOrsetDoes os _)) ?_
  intro W base args ds gs before hval0 hW _ _ hL _
  have hval : ∀ (j : Nat) t v, Tryz.f3.params[j]? = some t → args[j]? = some v → Value.okWide Tryz.prog W .any base t v := hval0
  have hW' := hW
  obtain ⟨p, q, hA0, hV, rfl, hfz, hnd⟩ := hW
  have hA : DataW.TrodAll enc Tryz.prog W 0 (fun _ => true) true Tryz.f3.params.toList args.toList ds p := hA0
  have hpar : Tryz.f3.params.toList = [24, 35, 26, 9] := by kernel_rfl
  have hds : ds.length = 4 := by have := CM.trodAll_len hA; rw [hpar] at this; simpa using this
  obtain ⟨d1, d2, d3, d4, rfl⟩ : ∃ d1 d2 d3 d4, ds = [d1, d2, d3, d4] := by
    match ds, hds with
    | [d1, d2, d3, d4], _ => exact ⟨d1, d2, d3, d4, rfl⟩
  obtain ⟨rfl, rfl⟩ := trodVars_none hV
  refine (CM.law_walk Tryz.checked.mixed CM.GS_closed 8 (ts := Tryz.f3.params.toList) (by rw [hpar]; decide +kernel) laidOutOrsetDoes (by rw [hpar]; decide +kernel) (by rw [hpar]; exact orsetDoes_law) (CM.laid_glo hL)
    (fun j t v ht hv => hval j t v (by simpa using ht) hv) hA).mono fun e W' ⟨he, bel, left⟩ => ?_
  subst he
  exact ⟨_, rfl, _, _, _, [], _, [], hW', trodAll_mk1 (shut_bool Tryz.underlying4 _), left, rfl, bel.frame _, fun h => by cases h⟩

theorem orsetDoes_row : Rows.OrsetDoesSaid :=
  OpenClaim.holds_of_wide 3 Tryz.f3 rfl rfl rfl rfl rfl rfl rfl ⟨rfl, rfl, rfl, rfl, rfl⟩ rfl rfl rfl rfl rfl (by kernel_rfl) Tryz.func3 (by kernel_rfl)
    (of_decide_eq_true (by kernel_rfl)) (by unfold Func.isWrapper; first | (rw [if_pos (by decide +kernel)]; kernel_rfl) | (rw [if_neg (by decide +kernel)]; exact ⟨rfl, rfl⟩))
    (fun os started H enc _ => orsetDoes_lifted os started H enc)

theorem orsetDoes_holds : Rows.OrsetDoesCardSaid :=
  Claim7.holds_tied_plain_at .later [] [.data] true (true, "927703b239a74285a4305d2ddad899c84b7d01194e9898cc9ea6d138865bfcda") false
    orsetDoes_row (fun _ h => by cases h) (by kernel_rfl) (fun _ h => by cases h) orsetDoes_row_tie rfl ⟨rfl, rfl⟩ (by kernel_rfl) rfl
    (fun f fn hf hfn => by
      obtain rfl : f = 3 := Option.some.inj ((show Tryz.prog.funcNamed "braid/braidlaw21.OrsetDoes" = some 3 by kernel_rfl).symm.trans hf) |>.symm
      obtain rfl : fn = Tryz.f3 := (Option.some.inj (Tryz.func3.symm.trans hfn)).symm
      exact ⟨by kernel_rfl, fun j t ht => by
        have hpar : Tryz.f3.params = #[24, 35, 26, 9] := by kernel_rfl
        rw [hpar] at ht
        have hm : t ∈ [24, 35, 26, 9] := by simpa using Array.mem_of_getElem? ht
        have hall : ([24, 35, 26, 9].all fun u => !Tryz.prog.wantsStandIn u) = true := by kernel_rfl
        exact (show Tryz.prog.wantsStandIn t = false by simpa using List.all_eq_true.1 hall t hm)⟩)
    (by kernel_rfl)
#print axioms orsetDoes_holds
end Go.Proofs.YtboebmmklamaeaaGreatDoor
