/-
  Proved: 'OrsetApplies' returns true for all arguments, where the table that the program lays reads as laid, whatever the tape, the memory and the order that is drawn; the arguments read as they did; the card ties the table to the program's text.
-/
import Derived.Test.YtboebmmklamaeaaGreatDoorEm
import Derived.Test.YtboebmmklamaeaaGreatDoorRows
import Derived.Test.YtboebmmklamaeaaGreatDoorTie
import Derived.Test.YtboebmmklamaeaaGreatDoorCards
import Derived.ProofKit
import Derived.LaidMore
import Derived.OpenShut
import Derived.Stop.Joined
import Derived.SevenTiedAt
namespace Go.Proofs.YtboebmmklamaeaaGreatDoor
open Go.ChangeShapes Go.WideShapes Go.ChangeAt Go.RowKit
set_option linter.unusedVariables false
set_option linter.unnecessarySimpa false

theorem ownOrsetApplies : ownKnob Tryz.prog.godebug = none := by kernel_rfl
theorem laidOutOrsetApplies : laidOutB Tryz.prog = true := by kernel_rfl
abbrev laidOrsetApplies : List (String × DataW Unit) := [("braid/digest.constants", Rows.laid_braid_digest_constants)]
theorem doorOrsetApplies (os : Os) (args : Array Value) : laidMetH Tryz.prog laidOrsetApplies ((World.doorLaid Tryz.prog 4000 os).forCall (fun _ _ => 0) ⟨#[], args, []⟩).memory :=
  laidMetH_of_parts3 (fuel := 8) (laidMet_of_run' 8 (by kernel_rfl) (by kernel_rfl)) (by kernel_rfl) (by kernel_rfl)

theorem orsetApplies_law (cs : List CM.CV) (h : CM.TyA Tryz.prog [24, 35, 26] cs) : CM.CallP Tryz.prog CM.GS 6 cs [] (c := ⟨fun r _ => r = .bool true⟩) := by
  obtain ⟨s, _, rfl, hs, h1⟩ := CM.Op.tyA_tags h
  obtain ⟨o, _, rfl, ho, h2⟩ := CM.Op.tyA_op h1
  obtain ⟨b, _, rfl, hb, h3⟩ := CM.Op.tyA_ids h2
  rw [CM.tyA_nil h3]
  exact CM.Op.orsetApplies_call CM.alive_ok s o b hs ho hb

set_option maxRecDepth 100000 in
theorem orsetApplies_lifted (os : Os) (started : os.Started) (H : Type) (enc : TypeId × Value → H) :
    ReturnsInHanded {} Tryz.checked os 6 .any (fun w args => (Rows.orsetAppliesSpec.pre enc Tryz.prog Tryz.f6 [] false w args ∧ laidMetH Tryz.prog laidOrsetApplies w) ∧ sizedMet enc Tryz.prog Tryz.f6 (OpenSpec.ofChange Rows.orsetAppliesSpec) false w args)
      (Rows.orsetAppliesSpec.post enc Tryz.prog Tryz.f6 false true false false) := by
  refine returnsInHanded_of_change_and (C := Tryz.checked) (X := fun w _ => laidMetH Tryz.prog laidOrsetApplies w) (fun _ _ _ hh h => h.of_heap hh) ownOrsetApplies started (by kernel_rfl) Tryz.func6
    (ChangeSpec.witness_shaped (enc := enc) (C := Tryz.checked) (os := os) (X := fun w _ => laidMetH Tryz.prog laidOrsetApplies w) false (World.doorLaid Tryz.prog 4000 os) #[.agg #[.slice none 0 0], .agg #[.int .u32 0, .slice none 0 0, .int .u64 0, .int .u8 0, .string ⟨#[]⟩, .int .u8 0, .int .i64 0, .int .u64 0, .string ⟨#[]⟩, .int .u32 0, .int .u32 0], .slice none 0 0] 8 rfl (World.shaped_of_RefB (by kernel_rfl) (by kernel_rfl)) (by kernel_rfl) (by kernel_rfl) (by kernel_rfl) (doorOrsetApplies os _)) ?_
  intro W base args ds gs before hval0 hW _ _ hL _
  have hval : ∀ (j : Nat) t v, Tryz.f6.params[j]? = some t → args[j]? = some v → Value.okWide Tryz.prog W .any base t v := hval0
  have hW' := hW
  obtain ⟨p, q, hA0, hV, rfl, hfz, hnd⟩ := hW
  have hA : DataW.TrodAll enc Tryz.prog W 0 (fun _ => true) true Tryz.f6.params.toList args.toList ds p := hA0
  have hpar : Tryz.f6.params.toList = [24, 35, 26] := by kernel_rfl
  have hds : ds.length = 3 := by have := CM.trodAll_len hA; rw [hpar] at this; simpa using this
  obtain ⟨d1, d2, d3, rfl⟩ : ∃ d1 d2 d3, ds = [d1, d2, d3] := by
    match ds, hds with
    | [d1, d2, d3], _ => exact ⟨d1, d2, d3, rfl⟩
  obtain ⟨rfl, rfl⟩ := trodVars_none hV
  refine (CM.law_walk Tryz.checked.mixed CM.GS_closed 8 (ts := Tryz.f6.params.toList) (by rw [hpar]; decide +kernel) laidOutOrsetApplies (by rw [hpar]; decide +kernel) (by rw [hpar]; exact orsetApplies_law) (CM.laid_glo hL)
    (fun j t v ht hv => hval j t v (by simpa using ht) hv) hA).mono fun e W' ⟨he, bel, left⟩ => ?_
  subst he
  exact ⟨_, rfl, _, _, _, [], _, [], hW', trodAll_mk1 (shut_bool Tryz.underlying4 _), left, rfl, bel.frame _, fun h => by cases h⟩

theorem orsetApplies_row : Rows.OrsetAppliesSaid :=
  OpenClaim.holds_of_wide 6 Tryz.f6 rfl rfl rfl rfl rfl rfl rfl ⟨rfl, rfl, rfl, rfl, rfl⟩ rfl rfl rfl rfl rfl (by kernel_rfl) Tryz.func6 (by kernel_rfl)
    (of_decide_eq_true (by kernel_rfl)) (by unfold Func.isWrapper; first | (rw [if_pos (by decide +kernel)]; kernel_rfl) | (rw [if_neg (by decide +kernel)]; exact ⟨rfl, rfl⟩))
    (fun os started H enc _ => orsetApplies_lifted os started H enc)

theorem orsetApplies_holds : Rows.OrsetAppliesCardSaid :=
  Claim7.holds_tied_plain_at .later [] [.data] true (true, "927703b239a74285a4305d2ddad899c84b7d01194e9898cc9ea6d138865bfcda") false
    orsetApplies_row (fun _ h => by cases h) (by kernel_rfl) (fun _ h => by cases h) orsetApplies_row_tie rfl ⟨rfl, rfl⟩ (by kernel_rfl) rfl
    (fun f fn hf hfn => by
      obtain rfl : f = 6 := Option.some.inj ((show Tryz.prog.funcNamed "braid/braidlaw21.OrsetApplies" = some 6 by kernel_rfl).symm.trans hf) |>.symm
      obtain rfl : fn = Tryz.f6 := (Option.some.inj (Tryz.func6.symm.trans hfn)).symm
      exact ⟨by kernel_rfl, fun j t ht => by
        have hpar : Tryz.f6.params = #[24, 35, 26] := by kernel_rfl
        rw [hpar] at ht
        have hm : t ∈ [24, 35, 26] := by simpa using Array.mem_of_getElem? ht
        have hall : ([24, 35, 26].all fun u => !Tryz.prog.wantsStandIn u) = true := by kernel_rfl
        exact (show Tryz.prog.wantsStandIn t = false by simpa using List.all_eq_true.1 hall t hm)⟩)
    (by kernel_rfl)
#print axioms orsetApplies_holds
end Go.Proofs.YtboebmmklamaeaaGreatDoor
