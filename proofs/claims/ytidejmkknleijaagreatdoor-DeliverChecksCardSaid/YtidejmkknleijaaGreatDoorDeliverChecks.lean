/-
  Proved: 'DeliverChecks' returns true for all arguments, where the table that the program lays reads as laid, whatever the tape, the memory and the order that is drawn; the arguments read as they did; the card ties the table to the program's text.
-/
import Derived.Test.YtidejmkknleijaaGreatDoorKl
import Derived.Test.YtidejmkknleijaaGreatDoorRows
import Derived.Test.YtidejmkknleijaaGreatDoorTie
import Derived.Test.YtidejmkknleijaaGreatDoorCards
import Derived.ProofKit
import Derived.LaidMore
import Derived.OpenShut
import Derived.Stop.Joined
import Derived.SevenTiedAt
namespace Go.Proofs.YtidejmkknleijaaGreatDoor
open Go.ChangeShapes Go.WideShapes Go.ChangeAt Go.RowKit
set_option linter.unusedVariables false
set_option linter.unnecessarySimpa false

theorem aae:ownKnob Tryz.prog.godebug=none:=by kernel_rfl
theorem YW:laidOutB Tryz.prog=true:=by kernel_rfl
abbrev DG:List (String × DataW Unit) :=[("braid/digest.constants",Rows.laid_braid_digest_constants)]
theorem T2 (os:Os) (args:Array Value) :laidMetH Tryz.prog DG ((World.doorLaid Tryz.prog 4000 os).forCall (fun _ _=>0) ⟨#[],args,[]⟩).memory:=
  laidMetH_of_parts3 (fuel:=8) (laidMet_of_run' 8 (by kernel_rfl) (by kernel_rfl)) (by kernel_rfl) (by kernel_rfl)

theorem TW (cs:List ca.U) (h:ca.lh Tryz.prog [27,29] cs) :ca.dg Tryz.prog ca.GS 3 cs [] (c:=⟨fun r _=>r=.bool true⟩) :=by
  obtain⟨s,_,rfl,ak,ad⟩:=ca.Op.ada h;obtain⟨d,_,rfl,bh,af⟩:=ca.Op.ac8 ad;rw[ca.ac9 af];exact ca.Op.TV s ak d bh

set_option maxRecDepth 100000 in
theorem TX (os:Os) (Jm:os.Started) (H:Type) (enc:TypeId × Value->H) :
    ReturnsInHanded {} Tryz.checked os 3 .any (fun w args=>(Rows.deliverChecksSpec.pre enc Tryz.prog Tryz.f3 [] false w args/\laidMetH Tryz.prog DG w)/\sizedMet enc Tryz.prog Tryz.f3 (OpenSpec.ofChange Rows.deliverChecksSpec) false w args)
      (Rows.deliverChecksSpec.post enc Tryz.prog Tryz.f3 false true false false) :=by
  refine returnsInHanded_of_change_and (C:=Tryz.checked) (X:=fun w _=>laidMetH Tryz.prog DG w) (fun _ _ _ aR h=>h.of_heap aR) aae Jm (by kernel_rfl) Tryz.func3
    (ChangeSpec.witness_shaped (enc:=enc) (C:=Tryz.checked) (os:=os) (X:=fun w _=>laidMetH Tryz.prog DG w) false (World.doorLaid Tryz.prog 4000 os) #[.agg #[.int .i64 0,.slice none 0 0,.slice none 0 0,.int .i64 0,.slice none 0 0],.agg #[.int .i64 0,.slice none 0 0,.bool false]] 8 rfl (World.shaped_of_RefB (by kernel_rfl) (by kernel_rfl)) (by kernel_rfl) (by kernel_rfl) (by kernel_rfl) (T2 os _)) ?_
  intro W base args hE gs aeq X4 eu _ _ dO _;have xO:∀ (j:Nat) t v,Tryz.f3.params[j]? = some t->args[j]? = some v->Value.okWide Tryz.prog W .any base t v:=X4;have VB:=eu;obtain⟨p,q,zA,VA,rfl,oB,z5⟩:=eu;have dQ:DataW.TrodAll enc Tryz.prog W 0 (fun _=>true) true Tryz.f3.params.toList args.toList hE p:=zA;have xI:Tryz.f3.params.toList=[27,29] :=by kernel_rfl
  have V7:hE.length=2:=by have:=ca.Rd dQ; rw[xI] at this; simpa using this
  obtain⟨d1,d2,rfl⟩:∃ d1 d2,hE=[d1,d2] :=by
    match hE,V7 with
    | [d1,d2],_=>exact⟨d1,d2,rfl⟩
  obtain⟨rfl,rfl⟩:=trodVars_none VA;refine (ca.Y0 Tryz.checked.mixed ca.bx 16 (ts:=Tryz.f3.params.toList) (by rw[xI]; decide +kernel) YW (by rw[xI]; decide +kernel) (by rw[xI]; exact TW) (ca.YX dO)
    (fun j t v a3 aq=>xO j t v (by simpa using a3) aq) dQ).mono fun e rl ⟨ao,SI,left⟩=>?_
  subst ao;exact⟨_,rfl,_,_,_,[],_,[],VB,trodAll_mk1 (shut_bool Tryz.underlying4 _),left,rfl,SI.frame _,fun h=>by cases h⟩

theorem TY:Rows.DeliverChecksSaid:=
  OpenClaim.holds_of_wide 3 Tryz.f3 rfl rfl rfl rfl rfl rfl rfl ⟨rfl,rfl,rfl,rfl,rfl⟩ rfl rfl rfl rfl rfl (by kernel_rfl) Tryz.func3 (by kernel_rfl)
    (of_decide_eq_true (by kernel_rfl)) (by unfold Func.isWrapper; first | (rw[if_pos (by decide +kernel)]; kernel_rfl) | (rw[if_neg (by decide +kernel)]; exact⟨rfl,rfl⟩))
    (fun os Jm H enc _=>TX os Jm H enc)

theorem deliverChecks_holds:Rows.DeliverChecksCardSaid:=
  Claim7.holds_tied_plain_at .later [] [.data] true (true,"7896e778c9d2aaf5d167c68fa59bcd97685e87fd210a3b12aaf2ef5c599bd276") false
    TY (fun _ h=>by cases h) (by kernel_rfl) (fun _ h=>by cases h) deliverChecks_row_tie rfl ⟨rfl,rfl⟩ (by kernel_rfl) rfl
    (fun f fn aI jw=>by
      obtain rfl:f=3:=Option.some.inj ((show Tryz.prog.funcNamed "braid/braidlaw37.DeliverChecks"=some 3 by kernel_rfl).symm.trans aI) |>.symm;obtain rfl:fn=Tryz.f3:=(Option.some.inj (Tryz.func3.symm.trans jw)).symm;exact⟨by kernel_rfl,fun j t a3=>by
        have xI:Tryz.f3.params=#[27,29] :=by kernel_rfl
        rw[xI] at a3;have hm:t∈[27,29] :=by simpa using Array.mem_of_getElem? a3
        have eA:([27,29].all fun u=>!Tryz.prog.wantsStandIn u)=true:=by kernel_rfl
        exact (show Tryz.prog.wantsStandIn t=false by simpa using List.all_eq_true.1 eA t hm)⟩)
    (by kernel_rfl)
#print axioms deliverChecks_holds
end Go.Proofs.YtidejmkknleijaaGreatDoor
