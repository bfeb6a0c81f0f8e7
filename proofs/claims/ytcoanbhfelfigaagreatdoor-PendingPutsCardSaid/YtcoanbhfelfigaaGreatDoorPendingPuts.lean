/-
  Proved: 'PendingPuts' returns true for all arguments, where the table that the program lays reads as laid, whatever the tape, the memory and the order that is drawn; the arguments read as they did; the card ties the table to the program's text.
-/
import Derived.Test.YtcoanbhfelfigaaGreatDoorPk
import Derived.Test.YtcoanbhfelfigaaGreatDoorRows
import Derived.Test.YtcoanbhfelfigaaGreatDoorTie
import Derived.Test.YtcoanbhfelfigaaGreatDoorCards
import Derived.ProofKit
import Derived.LaidMore
import Derived.OpenShut
import Derived.Stop.Joined
import Derived.SevenTiedAt
namespace Go.Proofs.YtcoanbhfelfigaaGreatDoor
open Go.ChangeShapes Go.WideShapes Go.ChangeAt Go.RowKit
set_option linter.unusedVariables false
set_option linter.unnecessarySimpa false

theorem ownPendingPuts : ownKnob Tryz.prog.godebug = none := by kernel_rfl
theorem laidOutPendingPuts : laidOutB Tryz.prog = true := by kernel_rfl
abbrev laidPendingPuts : List (String × DataW Unit) := [("braid/digest.constants", Rows.laid_braid_digest_constants)]
theorem doorPendingPuts (os : Os) (args : Array Value) : laidMetH Tryz.prog laidPendingPuts ((World.doorLaid Tryz.prog 4000 os).forCall (fun _ _ => 0) ⟨#[], args, []⟩).memory :=
  laidMetH_of_parts3 (fuel := 8) (laidMet_of_run' 8 (by kernel_rfl) (by kernel_rfl)) (by kernel_rfl) (by kernel_rfl)

theorem pendingPuts_law (cs : List CM.CV) (h : CM.TyA Tryz.prog [24, 3, 44, 25] cs) : CM.CallP Tryz.prog CM.GS 7 cs [] (c := ⟨fun r _ => r = .bool true⟩) := by
  obtain ⟨c, s, _, rfl, hs, h2⟩ := CM.Op.tyA_pend h
  obtain ⟨t, _, rfl, _, _, h3⟩ := CM.tyA_int h2
  obtain ⟨o, _, rfl, ho, h4⟩ := CM.Op.tyA_op h3
  obtain ⟨m, _, rfl, hm, h5⟩ := CM.Op.tyA_ids h4
  rw [CM.tyA_nil h5]
  have k1 := CM.Op.closed_Sls s
  have k3 := CM.Op.closed_op o
  have k4 := CM.Op.closed_ids m
  exact CM.pure_call (CM.Op.puts_ok CM.alive_ok c s hs t o ho m hm) (show CM.closedL [.ag (CM.Op.encP c s), .int .i64 t, .ag (CM.Op.encOp o), CM.Op.encIds m] = true by simp [CM.Op.encP, CM.closedL, CM.CV.closed, k1, k3, k4]) rfl

set_option maxRecDepth 100000 in
theorem pendingPuts_lifted (os : Os) (started : os.Started) (H : Type) (enc : TypeId × Value → H) :
    ReturnsInHanded {} Tryz.checked os 7 .any (fun w args => (Rows.pendingPutsSpec.pre enc Tryz.prog Tryz.f7 [] false w args ∧ laidMetH Tryz.prog laidPendingPuts w) ∧ sizedMet enc Tryz.prog Tryz.f7 (OpenSpec.ofChange Rows.pendingPutsSpec) false w args)
      (Rows.pendingPutsSpec.post enc Tryz.prog Tryz.f7 false true false false) := by
  refine returnsInHanded_of_change_and (C := Tryz.checked) (X := fun w _ => laidMetH Tryz.prog laidPendingPuts w) (fun _ _ _ hh h => h.of_heap hh) ownPendingPuts started (by kernel_rfl) Tryz.func7
    (ChangeSpec.witness_shaped (enc := enc) (C := Tryz.checked) (os := os) (X := fun w _ => laidMetH Tryz.prog laidPendingPuts w) false (World.doorLaid Tryz.prog 4000 os) #[.agg #[.int .i64 0, .slice none 0 0], .int .i64 0, .agg #[.int .u32 0, .slice none 0 0, .int .u64 0, .int .u8 0, .string ⟨#[]⟩, .int .u8 0, .int .i64 0, .int .u64 0, .string ⟨#[]⟩, .int .u32 0, .int .u32 0], .slice none 0 0] 8 rfl (World.shaped_of_RefB (by kernel_rfl) (by kernel_rfl)) (by kernel_rfl) (by kernel_rfl) (by kernel_rfl) (doorPendingPuts os _)) ?_
  intro W base args ds gs before hval0 hW _ _ hL _
  have hval : ∀ (j : Nat) t v, Tryz.f7.params[j]? = some t → args[j]? = some v → Value.okWide Tryz.prog W .any base t v := hval0
  have hW' := hW
  obtain ⟨p, q, hA0, hV, rfl, hfz, hnd⟩ := hW
  have hA : DataW.TrodAll enc Tryz.prog W 0 (fun _ => true) true Tryz.f7.params.toList args.toList ds p := hA0
  have hpar : Tryz.f7.params.toList = [24, 3, 44, 25] := by kernel_rfl
  have hds : ds.length = 4 := by have := CM.trodAll_len hA; rw [hpar] at this; simpa using this
  obtain ⟨d1, d2, d3, d4, rfl⟩ : ∃ d1 d2 d3 d4, ds = [d1, d2, d3, d4] := by
    match ds, hds with
    | [d1, d2, d3, d4], _ => exact ⟨d1, d2, d3, d4, rfl⟩
  obtain ⟨rfl, rfl⟩ := trodVars_none hV
  refine (CM.law_walk Tryz.checked.mixed CM.GS_closed 8 (ts := Tryz.f7.params.toList) (by rw [hpar]; decide +kernel) laidOutPendingPuts (by rw [hpar]; decide +kernel) (by rw [hpar]; exact pendingPuts_law) (CM.laid_glo hL)
    (fun j t v ht hv => hval j t v (by simpa using ht) hv) hA).mono fun e W' ⟨he, bel, left⟩ => ?_
  subst he
  exact ⟨_, rfl, _, _, _, [], _, [], hW', trodAll_mk1 (shut_bool Tryz.underlying4 _), left, rfl, bel.frame _, fun h => by cases h⟩

theorem pendingPuts_row : Rows.PendingPutsSaid :=
  OpenClaim.holds_of_wide 7 Tryz.f7 rfl rfl rfl rfl rfl rfl rfl ⟨rfl, rfl, rfl, rfl, rfl⟩ rfl rfl rfl rfl rfl (by kernel_rfl) Tryz.func7 (by kernel_rfl)
    (of_decide_eq_true (by kernel_rfl)) (by unfold Func.isWrapper; first | (rw [if_pos (by decide +kernel)]; kernel_rfl) | (rw [if_neg (by decide +kernel)]; exact ⟨rfl, rfl⟩))
    (fun os started H enc _ => pendingPuts_lifted os started H enc)

theorem pendingPuts_holds : Rows.PendingPutsCardSaid :=
  Claim7.holds_tied_plain_at .later [] [.data] true (true, "73a54e38398f461606521637f1978f5ba5aef78db7ecc7e39a1d3189e1aeccc1") false
    pendingPuts_row (fun _ h => by cases h) (by kernel_rfl) (fun _ h => by cases h) pendingPuts_row_tie rfl ⟨rfl, rfl⟩ (by kernel_rfl) rfl
    (fun f fn hf hfn => by
      obtain rfl : f = 7 := Option.some.inj ((show Tryz.prog.funcNamed "braid/braidlaw17.PendingPuts" = some 7 by kernel_rfl).symm.trans hf) |>.symm
      obtain rfl : fn = Tryz.f7 := (Option.some.inj (Tryz.func7.symm.trans hfn)).symm
      exact ⟨by kernel_rfl, fun j t ht => by
        have hpar : Tryz.f7.params = #[24, 3, 44, 25] := by kernel_rfl
        rw [hpar] at ht
        have hm : t ∈ [24, 3, 44, 25] := by simpa using Array.mem_of_getElem? ht
        have hall : ([24, 3, 44, 25].all fun u => !Tryz.prog.wantsStandIn u) = true := by kernel_rfl
        exact (show Tryz.prog.wantsStandIn t = false by simpa using List.all_eq_true.1 hall t hm)⟩)
    (by kernel_rfl)
#print axioms pendingPuts_holds
end Go.Proofs.YtcoanbhfelfigaaGreatDoor
