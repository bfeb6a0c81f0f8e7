/-
  Proved: 'PendingDoes' returns true for all arguments, where the table that the program lays reads as laid, whatever the tape, the memory and the order that is drawn; the arguments read as they did; the card ties the table to the program's text.
-/
import Derived.Test.YtcoanbhfelfigaaGreatDoorDl
import Derived.Test.YtcoanbhfelfigaaGreatDoorRows
import Derived.Test.YtcoanbhfelfigaaGreatDoorTie
import Derived.Test.YtcoanbhfelfigaaGreatDoorCards
import Derived.ProofKit
import Derived.LaidMore
import Derived.OpenShut
import Derived.Stop.Joined
import Derived.SevenTiedAt
namespace Go.Proofs.YtcoanbhfelfigaaGreatDoor
open Go.ChangeShapes Go.WideShapes Go.ChangeAt Go.RowKit
set_option linter.unusedVariables false
set_option linter.unnecessarySimpa false

theorem ownPendingDoes : ownKnob Tryz.prog.godebug = none := by kernel_rfl
theorem laidOutPendingDoes : laidOutB Tryz.prog = true := by kernel_rfl
abbrev laidPendingDoes : List (String × DataW Unit) := [("braid/digest.constants", Rows.laid_braid_digest_constants)]
theorem doorPendingDoes (os : Os) (args : Array Value) : laidMetH Tryz.prog laidPendingDoes ((World.doorLaid Tryz.prog 4000 os).forCall (fun _ _ => 0) ⟨#[], args, []⟩).memory :=
  laidMetH_of_parts3 (fuel := 8) (laidMet_of_run' 8 (by kernel_rfl) (by kernel_rfl)) (by kernel_rfl) (by kernel_rfl)

theorem pendingDoes_law (cs : List CM.CV) (h : CM.TyA Tryz.prog [3, 24, 3, 44, 25, 32] cs) : CM.CallP Tryz.prog CM.GS 5 cs [] (c := ⟨fun r _ => r = .bool true⟩) := by
  obtain ⟨n, _, rfl, _, _, h1⟩ := CM.tyA_int h
  obtain ⟨c, s, _, rfl, hs, h2⟩ := CM.Op.tyA_pend h1
  obtain ⟨t, _, rfl, _, _, h3⟩ := CM.tyA_int h2
  obtain ⟨o, _, rfl, ho, h4⟩ := CM.Op.tyA_op h3
  obtain ⟨m, _, rfl, hm, h5⟩ := CM.Op.tyA_ids h4
  obtain ⟨x, _, rfl, hx, h6⟩ := CM.tyA_id h5
  rw [CM.tyA_nil h6]
  have k1 := CM.Op.closed_Sls s
  have k2 := CM.Op.closed_eId x
  have k3 := CM.Op.closed_op o
  have k4 := CM.Op.closed_ids m
  exact CM.pure_call (CM.Op.does_ok n c s hs t o ho m hm x hx) (show CM.closedL [.int .i64 n, .ag (CM.Op.encP c s), .int .i64 t, .ag (CM.Op.encOp o), CM.Op.encIds m, .ag (CM.Op.eId x)] = true by simp [CM.Op.encP, CM.closedL, CM.CV.closed, k1, k2, k3, k4]) rfl

set_option maxRecDepth 100000 in
theorem pendingDoes_lifted (os : Os) (started : os.Started) (H : Type) (enc : TypeId × Value → H) :
    ReturnsInHanded {} Tryz.checked os 5 .any (fun w args => (Rows.pendingDoesSpec.pre enc Tryz.prog Tryz.f5 [] false w args ∧ laidMetH Tryz.prog laidPendingDoes w) ∧ sizedMet enc Tryz.prog Tryz.f5 (OpenSpec.ofChange Rows.pendingDoesSpec) false w args)
      (Rows.pendingDoesSpec.post enc Tryz.prog Tryz.f5 false true false false) := by
  refine returnsInHanded_of_change_and (C := Tryz.checked) (X := fun w _ => laidMetH Tryz.prog laidPendingDoes w) (fun _ _ _ hh h => h.of_heap hh) ownPendingDoes started (by kernel_rfl) Tryz.func5
    (ChangeSpec.witness_shaped (enc := enc) (C := Tryz.checked) (os := os) (X := fun w _ => laidMetH Tryz.prog laidPendingDoes w) false (World.doorLaid Tryz.prog 4000 os) #[.int .i64 0, .agg #[.int .i64 0, .slice none 0 0], .int .i64 0, .agg #[.int .u32 0, .slice none 0 0, .int .u64 0, .int .u8 0, .string ⟨#[]⟩, .int .u8 0, .int .i64 0, .int .u64 0, .string ⟨#[]⟩, .int .u32 0, .int .u32 0], .slice none 0 0, .agg (Array.replicate 32 (.int .u8 0))] 8 rfl (World.shaped_of_RefB (by kernel_rfl) (by kernel_rfl)) (by kernel_rfl) (by kernel_rfl) (by kernel_rfl) (doorPendingDoes os _)) ?_
  intro W base args ds gs before hval0 hW _ _ hL _
  have hval : ∀ (j : Nat) t v, Tryz.f5.params[j]? = some t → args[j]? = some v → Value.okWide Tryz.prog W .any base t v := hval0
  have hW' := hW
  obtain ⟨p, q, hA0, hV, rfl, hfz, hnd⟩ := hW
  have hA : DataW.TrodAll enc Tryz.prog W 0 (fun _ => true) true Tryz.f5.params.toList args.toList ds p := hA0
  have hpar : Tryz.f5.params.toList = [3, 24, 3, 44, 25, 32] := by kernel_rfl
  have hds : ds.length = 6 := by have := CM.trodAll_len hA; rw [hpar] at this; simpa using this
  obtain ⟨d1, d2, d3, d4, d5, d6, rfl⟩ : ∃ d1 d2 d3 d4 d5 d6, ds = [d1, d2, d3, d4, d5, d6] := by
    match ds, hds with
    | [d1, d2, d3, d4, d5, d6], _ => exact ⟨d1, d2, d3, d4, d5, d6, rfl⟩
  obtain ⟨rfl, rfl⟩ := trodVars_none hV
  refine (CM.law_walk Tryz.checked.mixed CM.GS_closed 8 (ts := Tryz.f5.params.toList) (by rw [hpar]; decide +kernel) laidOutPendingDoes (by rw [hpar]; decide +kernel) (by rw [hpar]; exact pendingDoes_law) (CM.laid_glo hL)
    (fun j t v ht hv => hval j t v (by simpa using ht) hv) hA).mono fun e W' ⟨he, bel, left⟩ => ?_
  subst he
  exact ⟨_, rfl, _, _, _, [], _, [], hW', trodAll_mk1 (shut_bool Tryz.underlying4 _), left, rfl, bel.frame _, fun h => by cases h⟩

theorem pendingDoes_row : Rows.PendingDoesSaid :=
  OpenClaim.holds_of_wide 5 Tryz.f5 rfl rfl rfl rfl rfl rfl rfl ⟨rfl, rfl, rfl, rfl, rfl⟩ rfl rfl rfl rfl rfl (by kernel_rfl) Tryz.func5 (by kernel_rfl)
    (of_decide_eq_true (by kernel_rfl)) (by unfold Func.isWrapper; first | (rw [if_pos (by decide +kernel)]; kernel_rfl) | (rw [if_neg (by decide +kernel)]; exact ⟨rfl, rfl⟩))
    (fun os started H enc _ => pendingDoes_lifted os started H enc)

theorem pendingDoes_holds : Rows.PendingDoesCardSaid :=
  Claim7.holds_tied_plain_at .later [] [.data] true (true, "73a54e38398f461606521637f1978f5ba5aef78db7ecc7e39a1d3189e1aeccc1") false
    pendingDoes_row (fun _ h => by cases h) (by kernel_rfl) (fun _ h => by cases h) pendingDoes_row_tie rfl ⟨rfl, rfl⟩ (by kernel_rfl) rfl
    (fun f fn hf hfn => by
      obtain rfl : f = 5 := Option.some.inj ((show Tryz.prog.funcNamed "braid/braidlaw17.PendingDoes" = some 5 by kernel_rfl).symm.trans hf) |>.symm
      obtain rfl : fn = Tryz.f5 := (Option.some.inj (Tryz.func5.symm.trans hfn)).symm
      exact ⟨by kernel_rfl, fun j t ht => by
        have hpar : Tryz.f5.params = #[3, 24, 3, 44, 25, 32] := by kernel_rfl
        rw [hpar] at ht
        have hm : t ∈ [3, 24, 3, 44, 25, 32] := by simpa using Array.mem_of_getElem? ht
        have hall : ([3, 24, 3, 44, 25, 32].all fun u => !Tryz.prog.wantsStandIn u) = true := by kernel_rfl
        exact (show Tryz.prog.wantsStandIn t = false by simpa using List.all_eq_true.1 hall t hm)⟩)
    (by kernel_rfl)
#print axioms pendingDoes_holds
end Go.Proofs.YtcoanbhfelfigaaGreatDoor
