/-
  Proved: 'FoldRuns' returns true for all arguments, where the table that the program lays reads as laid, whatever the tape, the memory and the order that is drawn; the arguments read as they did; the card ties the table to the program's text.
-/
import Derived.Test.YtobphgccoalchaaGreatDoorRn
import Derived.Test.YtobphgccoalchaaGreatDoorRows
import Derived.Test.YtobphgccoalchaaGreatDoorTie
import Derived.Test.YtobphgccoalchaaGreatDoorCards
import Derived.ProofKit
import Derived.LaidMore
import Derived.OpenShut
import Derived.Stop.Joined
import Derived.SevenTiedAt
namespace Go.Proofs.YtobphgccoalchaaGreatDoor
open Go.ChangeShapes Go.WideShapes Go.ChangeAt Go.RowKit
set_option linter.unusedVariables false
set_option linter.unnecessarySimpa false

theorem ag0:ownKnob Tryz.prog.godebug=none:=by kernel_rfl
theorem afP:laidOutB Tryz.prog=true:=by kernel_rfl
abbrev HG:List (String × DataW Unit) :=[("braid/digest.constants",Rows.laid_braid_digest_constants)]
theorem Z5 (os:Os) (args:Array Value) :laidMetH Tryz.prog HG ((World.doorLaid Tryz.prog 4000 os).forCall (fun _ _=>0) ⟨#[],args,[]⟩).memory:=
  laidMetH_of_parts3 (fuel:=8) (laidMet_of_run' 8 (by kernel_rfl) (by kernel_rfl)) (by kernel_rfl) (by kernel_rfl)

theorem abb (cs:List cf.ad) (h:cf.nh Tryz.prog [25,22] cs) :cf.dr Tryz.prog cf.GS 5 cs [] (c:=⟨fun r _=>r=.bool true⟩) :=by
  obtain⟨g,_,rfl,ar,h1⟩:=cf.Op.ake h;obtain⟨s,_,rfl,ak,ae⟩:=cf.Op.akf h1;rw[cf.akg ae];exact cf.Op.aa9 g ar s ak

set_option maxRecDepth 100000 in
theorem abd (os:Os) (Oe:os.Started) (H:Type) (enc:TypeId × Value->H) :
    ReturnsInHanded {} Tryz.checked os 5 .any (fun w args=>(Rows.foldRunsSpec.pre enc Tryz.prog Tryz.f5 [] false w args/\laidMetH Tryz.prog HG w)/\sizedMet enc Tryz.prog Tryz.f5 (OpenSpec.ofChange Rows.foldRunsSpec) false w args)
      (Rows.foldRunsSpec.post enc Tryz.prog Tryz.f5 false true false false) :=by
  refine returnsInHanded_of_change_and (C:=Tryz.checked) (X:=fun w _=>laidMetH Tryz.prog HG w) (fun _ _ _ aH h=>h.of_heap aH) ag0 Oe (by kernel_rfl) Tryz.func5
    (ChangeSpec.witness_shaped (enc:=enc) (C:=Tryz.checked) (os:=os) (X:=fun w _=>laidMetH Tryz.prog HG w) false (World.doorLaid Tryz.prog 4000 os) #[.agg #[.slice none 0 0,.slice none 0 0],.slice none 0 0] 8 rfl (World.shaped_of_RefB (by kernel_rfl) (by kernel_rfl)) (by kernel_rfl) (by kernel_rfl) (by kernel_rfl) (Z5 os _)) ?_
  intro W base args ir gs alS aeH dN _ _ dS _;have A3:∀ (j:Nat) t v,Tryz.f5.params[j]? = some t->args[j]? = some v->Value.okWide Tryz.prog W .any base t v:=aeH;have ab8:=dN;obtain⟨p,q,rC,wn,rfl,mW,yI⟩:=dN;have cv:DataW.TrodAll enc Tryz.prog W 0 (fun _=>true) true Tryz.f5.params.toList args.toList ir p:=rC;have AV:Tryz.f5.params.toList=[25,22] :=by kernel_rfl
  have acR:ir.length=2:=by have:=cf.WZ cv; rw[AV] at this; simpa using this
  obtain⟨d1,d2,rfl⟩:∃ d1 d2,ir=[d1,d2] :=by
    match ir,acR with
    | [d1,d2],_=>exact⟨d1,d2,rfl⟩
  obtain⟨rfl,rfl⟩:=trodVars_none wn;refine (cf.afW Tryz.checked.mixed cf.bD 8 (ts:=Tryz.f5.params.toList) (by rw[AV]; decide +kernel) afP (by rw[AV]; decide +kernel) (by rw[AV]; exact abb) (cf.afQ dS)
    (fun j t v aJ aw=>A3 j t v (by simpa using aJ) aw) cv).mono fun e ud ⟨ao,YM,left⟩=>?_
  subst ao;exact⟨_,rfl,_,_,_,[],_,[],ab8,trodAll_mk1 (shut_bool Tryz.underlying4 _),left,rfl,YM.frame _,fun h=>by cases h⟩

theorem abe:Rows.FoldRunsSaid:=
  OpenClaim.holds_of_wide 5 Tryz.f5 rfl rfl rfl rfl rfl rfl rfl ⟨rfl,rfl,rfl,rfl,rfl⟩ rfl rfl rfl rfl rfl (by kernel_rfl) Tryz.func5 (by kernel_rfl)
    (of_decide_eq_true (by kernel_rfl)) (by unfold Func.isWrapper; first | (rw[if_pos (by decide +kernel)]; kernel_rfl) | (rw[if_neg (by decide +kernel)]; exact⟨rfl,rfl⟩))
    (fun os Oe H enc _=>abd os Oe H enc)

theorem foldRuns_holds:Rows.FoldRunsCardSaid:=
  Claim7.holds_tied_plain_at .later [] [.data] true (true,"7b3df127d049ebee9736ca6335ce2eecfb335e020b6bfbc2c24b080bd2ae72ee") false
    abe (fun _ h=>by cases h) (by kernel_rfl) (fun _ h=>by cases h) foldRuns_row_tie rfl ⟨rfl,rfl⟩ (by kernel_rfl) rfl
    (fun f fn aD nr=>by
      obtain rfl:f=5:=Option.some.inj ((show Tryz.prog.funcNamed "braid/braidlaw23.FoldRuns"=some 5 by kernel_rfl).symm.trans aD) |>.symm;obtain rfl:fn=Tryz.f5:=(Option.some.inj (Tryz.func5.symm.trans nr)).symm;exact⟨by kernel_rfl,fun j t aJ=>by
        have AV:Tryz.f5.params=#[25,22] :=by kernel_rfl
        rw[AV] at aJ;have hm:t∈[25,22] :=by simpa using Array.mem_of_getElem? aJ
        have fg:([25,22].all fun u=>!Tryz.prog.wantsStandIn u)=true:=by kernel_rfl
        exact (show Tryz.prog.wantsStandIn t=false by simpa using List.all_eq_true.1 fg t hm)⟩)
    (by kernel_rfl)
#print axioms foldRuns_holds
end Go.Proofs.YtobphgccoalchaaGreatDoor
