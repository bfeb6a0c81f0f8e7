/-
  Proved: 'OrsetSees' returns true for all arguments, where the table that the program lays reads as laid, whatever the tape, the memory and the order that is drawn; the arguments read as they did; the card ties the table to the program's text.
-/
import Derived.Test.YtboebmmklamaeaaGreatDoorSm
import Derived.Test.YtboebmmklamaeaaGreatDoorRows
import Derived.Test.YtboebmmklamaeaaGreatDoorTie
import Derived.Test.YtboebmmklamaeaaGreatDoorCards
import Derived.ProofKit
import Derived.LaidMore
import Derived.OpenShut
import Derived.Stop.Joined
import Derived.SevenTiedAt
namespace Go.Proofs.YtboebmmklamaeaaGreatDoor
open Go.ChangeShapes Go.WideShapes Go.ChangeAt Go.RowKit
set_option linter.unusedVariables false
set_option linter.unnecessarySimpa false

theorem ajL:ownKnob Tryz.prog.godebug=none:=by kernel_rfl
theorem aiF:laidOutB Tryz.prog=true:=by kernel_rfl
abbrev CQ:List (String × DataW Unit) :=[("braid/digest.constants",Rows.laid_braid_digest_constants)]
theorem adD (os:Os) (args:Array Value) :laidMetH Tryz.prog CQ ((World.doorLaid Tryz.prog 4000 os).forCall (fun _ _=>0) ⟨#[],args,[]⟩).memory:=
  laidMetH_of_parts3 (fuel:=8) (laidMet_of_run' 8 (by kernel_rfl) (by kernel_rfl)) (by kernel_rfl) (by kernel_rfl)

theorem ajD (cs:List cl.ae) (h:cl.lU Tryz.prog [60] cs) :cl.dB Tryz.prog cl.GS 4 cs [] (c:=⟨fun r _=>r=.bool true⟩) :=by
  obtain⟨g,_,rfl,az,h1⟩:=cl.Op.amH h;rw[cl.amI h1];exact cl.Op.ajC g az

set_option maxRecDepth 100000 in
theorem ajE (os:Os) (M4:os.Started) (H:Type) (enc:TypeId × Value->H) :
    ReturnsInHanded {} Tryz.checked os 4 .any (fun w args=>(Rows.orsetSeesSpec.pre enc Tryz.prog Tryz.f4 [] false w args/\laidMetH Tryz.prog CQ w)/\sizedMet enc Tryz.prog Tryz.f4 (OpenSpec.ofChange Rows.orsetSeesSpec) false w args)
      (Rows.orsetSeesSpec.post enc Tryz.prog Tryz.f4 false true false false) :=by
  refine returnsInHanded_of_change_and (C:=Tryz.checked) (X:=fun w _=>laidMetH Tryz.prog CQ w) (fun _ _ _ aR h=>h.of_heap aR) ajL M4 (by kernel_rfl) Tryz.func4
    (ChangeSpec.witness_shaped (enc:=enc) (C:=Tryz.checked) (os:=os) (X:=fun w _=>laidMetH Tryz.prog CQ w) false (World.doorLaid Tryz.prog 4000 os) #[.agg #[.slice none 0 0,.slice none 0 0]] 8 rfl (World.shaped_of_RefB (by kernel_rfl) (by kernel_rfl)) (by kernel_rfl) (by kernel_rfl) (by kernel_rfl) (adD os _)) ?_
  intro W base args g2 gs an9 ahx eO _ _ f5 _;have xa:∀ (j:Nat) t v,Tryz.f4.params[j]? = some t->args[j]? = some v->Value.okWide Tryz.prog W .any base t v:=ahx;have ae9:=eO;obtain⟨p,q,oE,sT,rfl,kn,y5⟩:=eO;have cA:DataW.TrodAll enc Tryz.prog W 0 (fun _=>true) true Tryz.f4.params.toList args.toList g2 p:=oE;have w0:Tryz.f4.params.toList=[60] :=by kernel_rfl
  have afJ:g2.length=1:=by have:=cl.aaM cA; rw[w0] at this; simpa using this
  obtain⟨pI,rfl⟩:∃ pI,g2=[pI] :=by
    match g2,afJ with
    | [pI],_=>exact⟨pI,rfl⟩
  obtain⟨rfl,rfl⟩:=trodVars_none sT;refine (cl.aiJ Tryz.checked.mixed cl.b3 8 (ts:=Tryz.f4.params.toList) (by rw[w0]; decide +kernel) aiF (by rw[w0]; decide +kernel) (by rw[w0]; exact ajD) (cl.aiG f5)
    (fun j t v aU ax=>xa j t v (by simpa using aU) ax) cA).mono fun e qT ⟨aw,ach,left⟩=>?_
  subst aw;exact⟨_,rfl,_,_,_,[],_,[],ae9,trodAll_mk1 (shut_bool Tryz.underlying4 _),left,rfl,ach.frame _,fun h=>by cases h⟩

theorem ajF:Rows.OrsetSeesSaid:=
  OpenClaim.holds_of_wide 4 Tryz.f4 rfl rfl rfl rfl rfl rfl rfl ⟨rfl,rfl,rfl,rfl,rfl⟩ rfl rfl rfl rfl rfl (by kernel_rfl) Tryz.func4 (by kernel_rfl)
    (of_decide_eq_true (by kernel_rfl)) (by unfold Func.isWrapper; first | (rw[if_pos (by decide +kernel)]; kernel_rfl) | (rw[if_neg (by decide +kernel)]; exact⟨rfl,rfl⟩))
    (fun os M4 H enc _=>ajE os M4 H enc)

theorem orsetSees_holds:Rows.OrsetSeesCardSaid:=
  Claim7.holds_tied_plain_at .later [] [.data] true (true,"927703b239a74285a4305d2ddad899c84b7d01194e9898cc9ea6d138865bfcda") false
    ajF (fun _ h=>by cases h) (by kernel_rfl) (fun _ h=>by cases h) orsetSees_row_tie rfl ⟨rfl,rfl⟩ (by kernel_rfl) rfl
    (fun f fn aJ iW=>by
      obtain rfl:f=4:=Option.some.inj ((show Tryz.prog.funcNamed "braid/braidlaw21.OrsetSees"=some 4 by kernel_rfl).symm.trans aJ) |>.symm;obtain rfl:fn=Tryz.f4:=(Option.some.inj (Tryz.func4.symm.trans iW)).symm;exact⟨by kernel_rfl,fun j t aU=>by
        have w0:Tryz.f4.params=#[60] :=by kernel_rfl
        rw[w0] at aU;have hm:t∈[60] :=by simpa using Array.mem_of_getElem? aU
        have eP:([60].all fun u=>!Tryz.prog.wantsStandIn u)=true:=by kernel_rfl
        exact (show Tryz.prog.wantsStandIn t=false by simpa using List.all_eq_true.1 eP t hm)⟩)
    (by kernel_rfl)
#print axioms orsetSees_holds
end Go.Proofs.YtboebmmklamaeaaGreatDoor
