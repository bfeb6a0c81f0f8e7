/-
  Proved: 'FoldReads' returns true for all arguments, where the table that the program lays reads as laid, whatever the tape, the memory and the order that is drawn; the arguments read as they did; the card ties the table to the program's text.
-/
import Derived.Test.YtobphgccoalchaaGreatDoorQm
import Derived.Test.YtobphgccoalchaaGreatDoorRows
import Derived.Test.YtobphgccoalchaaGreatDoorTie
import Derived.Test.YtobphgccoalchaaGreatDoorCards
import Derived.ProofKit
import Derived.LaidMore
import Derived.OpenShut
import Derived.Stop.Joined
import Derived.SevenTiedAt
namespace Go.Proofs.YtobphgccoalchaaGreatDoor
open Go.ChangeShapes Go.WideShapes Go.ChangeAt Go.RowKit
set_option linter.unusedVariables false
set_option linter.unnecessarySimpa false

theorem aim:ownKnob Tryz.prog.godebug=none:=by kernel_rfl
theorem ahc:laidOutB Tryz.prog=true:=by kernel_rfl
abbrev Gz:List (String × DataW Unit) :=[("braid/digest.constants",Rows.laid_braid_digest_constants)]
theorem aa4 (os:Os) (args:Array Value) :laidMetH Tryz.prog Gz ((World.doorLaid Tryz.prog 4000 os).forCall (fun _ _=>0) ⟨#[],args,[]⟩).memory:=
  laidMetH_of_parts3 (fuel:=8) (laidMet_of_run' 8 (by kernel_rfl) (by kernel_rfl)) (by kernel_rfl) (by kernel_rfl)

theorem ab5 (cs:List b2.U) (h:b2.l0 Tryz.prog [25,9] cs) :b2.c7 Tryz.prog b2.GS 3 cs [] (c:=⟨fun r _=>r=.bool true⟩) :=by
  obtain⟨g,_,rfl,ar,h1⟩:=b2.Op.alv h;obtain⟨k,_,rfl,ad⟩:=b2.Op.alx h1;rw[b2.alw ad];exact b2.Op.ab4 b2.Zp g ar k

set_option maxRecDepth 100000 in
theorem ab6 (os:Os) (Nc:os.Started) (H:Type) (enc:TypeId × Value->H) :
    ReturnsInHanded {} Tryz.checked os 3 .any (fun w args=>(Rows.foldReadsSpec.pre enc Tryz.prog Tryz.f3 [] false w args/\laidMetH Tryz.prog Gz w)/\sizedMet enc Tryz.prog Tryz.f3 (OpenSpec.ofChange Rows.foldReadsSpec) false w args)
      (Rows.foldReadsSpec.post enc Tryz.prog Tryz.f3 false true false false) :=by
  refine returnsInHanded_of_change_and (C:=Tryz.checked) (X:=fun w _=>laidMetH Tryz.prog Gz w) (fun _ _ _ aG h=>h.of_heap aG) aim Nc (by kernel_rfl) Tryz.func3
    (ChangeSpec.witness_shaped (enc:=enc) (C:=Tryz.checked) (os:=os) (X:=fun w _=>laidMetH Tryz.prog Gz w) false (World.doorLaid Tryz.prog 4000 os) #[.agg #[.slice none 0 0,.slice none 0 0],.string ⟨#[]⟩] 8 rfl (World.shaped_of_RefB (by kernel_rfl) (by kernel_rfl)) (by kernel_rfl) (by kernel_rfl) (by kernel_rfl) (aa4 os _)) ?_
  intro W base args hN gs anm afP dt _ _ fJ _;have Ad:∀ (j:Nat) t v,Tryz.f3.params[j]? = some t->args[j]? = some v->Value.okWide Tryz.prog W .any base t v:=afP;have adj:=dt;obtain⟨p,q,xu,m4,rfl,lG,pV⟩:=dt;have cz:DataW.TrodAll enc Tryz.prog W 0 (fun _=>true) true Tryz.f3.params.toList args.toList hN p:=xu;have z6:Tryz.f3.params.toList=[25,9] :=by kernel_rfl
  have ad0:hN.length=2:=by have:=b2.X4 cz; rw[z6] at this; simpa using this
  obtain⟨d1,d2,rfl⟩:∃ d1 d2,hN=[d1,d2] :=by
    match hN,ad0 with
    | [d1,d2],_=>exact⟨d1,d2,rfl⟩
  obtain⟨rfl,rfl⟩:=trodVars_none m4;refine (b2.ahh Tryz.checked.mixed b2.bC 8 (ts:=Tryz.f3.params.toList) (by rw[z6]; decide +kernel) ahc (by rw[z6]; decide +kernel) (by rw[z6]; exact ab5) (b2.ahd fJ)
    (fun j t v aI aq=>Ad j t v (by simpa using aI) aq) cz).mono fun e tt ⟨ao,ZN,left⟩=>?_
  subst ao;exact⟨_,rfl,_,_,_,[],_,[],adj,trodAll_mk1 (shut_bool Tryz.underlying4 _),left,rfl,ZN.frame _,fun h=>by cases h⟩

theorem ab7:Rows.FoldReadsSaid:=
  OpenClaim.holds_of_wide 3 Tryz.f3 rfl rfl rfl rfl rfl rfl rfl ⟨rfl,rfl,rfl,rfl,rfl⟩ rfl rfl rfl rfl rfl (by kernel_rfl) Tryz.func3 (by kernel_rfl)
    (of_decide_eq_true (by kernel_rfl)) (by unfold Func.isWrapper; first | (rw[if_pos (by decide +kernel)]; kernel_rfl) | (rw[if_neg (by decide +kernel)]; exact⟨rfl,rfl⟩))
    (fun os Nc H enc _=>ab6 os Nc H enc)

theorem foldReads_holds:Rows.FoldReadsCardSaid:=
  Claim7.holds_tied_plain_at .later [] [.data] true (true,"7b3df127d049ebee9736ca6335ce2eecfb335e020b6bfbc2c24b080bd2ae72ee") false
    ab7 (fun _ h=>by cases h) (by kernel_rfl) (fun _ h=>by cases h) foldReads_row_tie rfl ⟨rfl,rfl⟩ (by kernel_rfl) rfl
    (fun f fn aD j5=>by
      obtain rfl:f=3:=Option.some.inj ((show Tryz.prog.funcNamed "braid/braidlaw23.FoldReads"=some 3 by kernel_rfl).symm.trans aD) |>.symm;obtain rfl:fn=Tryz.f3:=(Option.some.inj (Tryz.func3.symm.trans j5)).symm;exact⟨by kernel_rfl,fun j t aI=>by
        have z6:Tryz.f3.params=#[25,9] :=by kernel_rfl
        rw[z6] at aI;have hm:t∈[25,9] :=by simpa using Array.mem_of_getElem? aI
        have eC:([25,9].all fun u=>!Tryz.prog.wantsStandIn u)=true:=by kernel_rfl
        exact (show Tryz.prog.wantsStandIn t=false by simpa using List.all_eq_true.1 eC t hm)⟩)
    (by kernel_rfl)
#print axioms foldReads_holds
end Go.Proofs.YtobphgccoalchaaGreatDoor
