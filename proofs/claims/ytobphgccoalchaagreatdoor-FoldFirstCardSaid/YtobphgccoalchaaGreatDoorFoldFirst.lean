/-
  Proved: 'FoldFirst' returns true for all arguments, where the table that the program lays reads as laid, whatever the tape, the memory and the order that is drawn; the arguments read as they did; the card ties the table to the program's text.
-/
import Derived.Test.YtobphgccoalchaaGreatDoorUn
import Derived.Test.YtobphgccoalchaaGreatDoorRows
import Derived.Test.YtobphgccoalchaaGreatDoorTie
import Derived.Test.YtobphgccoalchaaGreatDoorCards
import Derived.ProofKit
import Derived.LaidMore
import Derived.OpenShut
import Derived.Stop.Joined
import Derived.SevenTiedAt
namespace Go.Proofs.YtobphgccoalchaaGreatDoor
open Go.ChangeShapes Go.WideShapes Go.ChangeAt Go.RowKit
set_option linter.unusedVariables false
set_option linter.unnecessarySimpa false

theorem akS:ownKnob Tryz.prog.godebug=none:=by kernel_rfl
theorem ajE:laidOutB Tryz.prog=true:=by kernel_rfl
abbrev H3:List (String × DataW Unit) :=[("braid/digest.constants",Rows.laid_braid_digest_constants)]
theorem ado (os:Os) (args:Array Value) :laidMetH Tryz.prog H3 ((World.doorLaid Tryz.prog 4000 os).forCall (fun _ _=>0) ⟨#[],args,[]⟩).memory:=
  laidMetH_of_parts3 (fuel:=8) (laidMet_of_run' 8 (by kernel_rfl) (by kernel_rfl)) (by kernel_rfl) (by kernel_rfl)

theorem aen (cs:List cb.U) (h:cb.lR Tryz.prog [25,84,3] cs) :cb.c7 Tryz.prog cb.GS 7 cs [] (c:=⟨fun r _=>r=.bool true⟩) :=by
  obtain⟨g,_,rfl,aq,h1⟩:=cb.Op.an7 h;obtain⟨p,_,rfl,ad⟩:=cb.Op.an9 h1;obtain⟨n,_,rfl,_,_,aj⟩:=cb.an8 ad;rw[cb.aoa aj];exact cb.Op.aem cb.abE g aq p n

set_option maxRecDepth 100000 in
theorem aeo (os:Os) (O3:os.Started) (H:Type) (enc:TypeId × Value->H) :
    ReturnsInHanded {} Tryz.checked os 7 .any (fun w args=>(Rows.foldFirstSpec.pre enc Tryz.prog Tryz.f7 [] false w args/\laidMetH Tryz.prog H3 w)/\sizedMet enc Tryz.prog Tryz.f7 (OpenSpec.ofChange Rows.foldFirstSpec) false w args)
      (Rows.foldFirstSpec.post enc Tryz.prog Tryz.f7 false true false false) :=by
  refine returnsInHanded_of_change_and (C:=Tryz.checked) (X:=fun w _=>laidMetH Tryz.prog H3 w) (fun _ _ _ aG h=>h.of_heap aG) akS O3 (by kernel_rfl) Tryz.func7
    (ChangeSpec.witness_shaped (enc:=enc) (C:=Tryz.checked) (os:=os) (X:=fun w _=>laidMetH Tryz.prog H3 w) false (World.doorLaid Tryz.prog 4000 os) #[.agg #[.slice none 0 0,.slice none 0 0],.slice none 0 0,.int .i64 0] 8 rfl (World.shaped_of_RefB (by kernel_rfl) (by kernel_rfl)) (by kernel_rfl) (by kernel_rfl) (by kernel_rfl) (ado os _)) ?_
  intro W base args io gs apS ain dT _ _ eT _;have Bk:∀ (j:Nat) t v,Tryz.f7.params[j]? = some t->args[j]? = some v->Value.okWide Tryz.prog W .any base t v:=ain
  have afF:=dT;obtain⟨p,q,yv,wR,rfl,mM,qJ⟩:=dT;have cN:DataW.TrodAll enc Tryz.prog W 0 (fun _=>true) true Tryz.f7.params.toList args.toList io p:=yv;have Ba:Tryz.f7.params.toList=[25,84,3] :=by kernel_rfl
  have ago:io.length=3:=by have:=cb.aad cN; rw[Ba] at this; simpa using this
  obtain⟨d1,d2,d3,rfl⟩:∃ d1 d2 d3,io=[d1,d2,d3] :=by
    match io,ago with
    | [d1,d2,d3],_=>exact⟨d1,d2,d3,rfl⟩
  obtain⟨rfl,rfl⟩:=trodVars_none wR;refine (cb.ajK Tryz.checked.mixed cb.bE 8 (ts:=Tryz.f7.params.toList) (by rw[Ba]; decide +kernel) ajE (by rw[Ba]; decide +kernel) (by rw[Ba]; exact aen) (cb.ajF eT)
    (fun j t v aI au=>Bk j t v (by simpa using aI) au) cN).mono fun e uv ⟨ao,ab3,left⟩=>?_
  subst ao;exact⟨_,rfl,_,_,_,[],_,[],afF,trodAll_mk1 (shut_bool Tryz.underlying4 _),left,rfl,ab3.frame _,fun h=>by cases h⟩

theorem aep:Rows.FoldFirstSaid:=
  OpenClaim.holds_of_wide 7 Tryz.f7 rfl rfl rfl rfl rfl rfl rfl ⟨rfl,rfl,rfl,rfl,rfl⟩ rfl rfl rfl rfl rfl (by kernel_rfl) Tryz.func7 (by kernel_rfl)
    (of_decide_eq_true (by kernel_rfl)) (by unfold Func.isWrapper; first | (rw[if_pos (by decide +kernel)]; kernel_rfl) | (rw[if_neg (by decide +kernel)]; exact⟨rfl,rfl⟩))
    (fun os O3 H enc _=>aeo os O3 H enc)

theorem foldFirst_holds:Rows.FoldFirstCardSaid:=
  Claim7.holds_tied_plain_at .later [] [.data] true (true,"7b3df127d049ebee9736ca6335ce2eecfb335e020b6bfbc2c24b080bd2ae72ee") false
    aep (fun _ h=>by cases h) (by kernel_rfl) (fun _ h=>by cases h) foldFirst_row_tie rfl ⟨rfl,rfl⟩ (by kernel_rfl) rfl
    (fun f fn aF kV=>by
      obtain rfl:f=7:=Option.some.inj ((show Tryz.prog.funcNamed "braid/braidlaw23.FoldFirst"=some 7 by kernel_rfl).symm.trans aF) |>.symm;obtain rfl:fn=Tryz.f7:=(Option.some.inj (Tryz.func7.symm.trans kV)).symm;exact⟨by kernel_rfl,fun j t aI=>by
        have Ba:Tryz.f7.params=#[25,84,3] :=by kernel_rfl
        rw[Ba] at aI;have hm:t∈[25,84,3] :=by simpa using Array.mem_of_getElem? aI
        have eQ:([25,84,3].all fun u=>!Tryz.prog.wantsStandIn u)=true:=by kernel_rfl
        exact (show Tryz.prog.wantsStandIn t=false by simpa using List.all_eq_true.1 eQ t hm)⟩)
    (by kernel_rfl)
#print axioms foldFirst_holds
end Go.Proofs.YtobphgccoalchaaGreatDoor
