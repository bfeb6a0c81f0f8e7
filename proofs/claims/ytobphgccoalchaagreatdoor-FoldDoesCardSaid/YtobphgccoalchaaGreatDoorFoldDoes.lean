/-
  Proved: 'FoldDoes' returns true for all arguments, where the table that the program lays reads as laid, whatever the tape, the memory and the order that is drawn; the arguments read as they did; the card ties the table to the program's text.
-/
import Derived.Test.YtobphgccoalchaaGreatDoorDn
import Derived.Test.YtobphgccoalchaaGreatDoorRows
import Derived.Test.YtobphgccoalchaaGreatDoorTie
import Derived.Test.YtobphgccoalchaaGreatDoorCards
import Derived.ProofKit
import Derived.LaidMore
import Derived.OpenShut
import Derived.Stop.Joined
import Derived.SevenTiedAt
namespace Go.Proofs.YtobphgccoalchaaGreatDoor
open Go.ChangeShapes Go.WideShapes Go.ChangeAt Go.RowKit
set_option linter.unusedVariables false
set_option linter.unnecessarySimpa false

theorem ape:ownKnob Tryz.prog.godebug=none:=by kernel_rfl
theorem aoc:laidOutB Tryz.prog=true:=by kernel_rfl
abbrev Gu:List (String × DataW Unit) :=[("braid/digest.constants",Rows.laid_braid_digest_constants)]
theorem aiS (os:Os) (args:Array Value) :laidMetH Tryz.prog Gu ((World.doorLaid Tryz.prog 4000 os).forCall (fun _ _=>0) ⟨#[],args,[]⟩).memory:=
  laidMetH_of_parts3 (fuel:=8) (laidMet_of_run' 8 (by kernel_rfl) (by kernel_rfl)) (by kernel_rfl) (by kernel_rfl)

theorem ajM (cs:List ct.ad) (h:ct.kO Tryz.prog [36,36,25,48,9] cs) :ct.dS Tryz.prog ct.GS 4 cs [] (c:=⟨fun r _=>r=.bool true⟩) :=by
  obtain⟨s,_,rfl,ap,h1⟩:=ct.Op.acX h;obtain⟨t,_,rfl,aQ,ag⟩:=ct.Op.acX h1;obtain⟨g,_,rfl,aA,aq⟩:=ct.Op.avk ag;obtain⟨x,_,rfl,al,aH⟩:=ct.avl aq;obtain⟨k,_,rfl,bd⟩:=ct.Op.avn aH;rw[ct.avm bd];exact ct.Op.ajL s t ap aQ g aA x al k

set_option maxRecDepth 100000 in
theorem ajN (os:Os) (MN:os.Started) (H:Type) (enc:TypeId × Value->H) :
    ReturnsInHanded {} Tryz.checked os 4 .any (fun w args=>(Rows.foldDoesSpec.pre enc Tryz.prog Tryz.f4 [] false w args/\laidMetH Tryz.prog Gu w)/\sizedMet enc Tryz.prog Tryz.f4 (OpenSpec.ofChange Rows.foldDoesSpec) false w args)
      (Rows.foldDoesSpec.post enc Tryz.prog Tryz.f4 false true false false) :=by
  refine returnsInHanded_of_change_and (C:=Tryz.checked) (X:=fun w _=>laidMetH Tryz.prog Gu w) (fun _ _ _ aR h=>h.of_heap aR) ape MN (by kernel_rfl) Tryz.func4
    (ChangeSpec.witness_shaped (enc:=enc) (C:=Tryz.checked) (os:=os) (X:=fun w _=>laidMetH Tryz.prog Gu w) false (World.doorLaid Tryz.prog 4000 os) #[.agg #[.int .i64 0,.slice none 0 0,.slice none 0 0,.slice none 0 0],.agg #[.int .i64 0,.slice none 0 0,.slice none 0 0,.slice none 0 0],.agg #[.slice none 0 0,.slice none 0 0],.agg (Array.replicate 32 (.int .u8 0)),.string ⟨#[]⟩] 8 rfl (World.shaped_of_RefB (by kernel_rfl) (by kernel_rfl)) (by kernel_rfl) (by kernel_rfl) (by kernel_rfl) (aiS os _)) ?_
  intro W base args iH gs awN amX gv _ _ e0 _;have Af:∀ (j:Nat) t v,Tryz.f4.params[j]? = some t->args[j]? = some v->Value.okWide Tryz.prog W .any base t v:=amX;have akC:=gv;obtain⟨p,q,xn,ke,rfl,mz,xY⟩:=gv;have c9:DataW.TrodAll enc Tryz.prog W 0 (fun _=>true) true Tryz.f4.params.toList args.toList iH p:=xn;have z2:Tryz.f4.params.toList=[36,36,25,48,9] :=by kernel_rfl
  have alf:iH.length=5:=by have:=ct.acU c9; rw[z2] at this; simpa using this
  obtain⟨d1,d2,d3,d4,d5,rfl⟩:∃ d1 d2 d3 d4 d5,iH=[d1,d2,d3,d4,d5] :=by
    match iH,alf with
    | [d1,d2,d3,d4,d5],_=>exact⟨d1,d2,d3,d4,d5,rfl⟩
  obtain⟨rfl,rfl⟩:=trodVars_none ke;refine (ct.aoh Tryz.checked.mixed ct.bP 8 (ts:=Tryz.f4.params.toList) (by rw[z2]; decide +kernel) aoc (by rw[z2]; decide +kernel) (by rw[z2]; exact ajM) (ct.aod e0)
    (fun j t v aQ ay=>Af j t v (by simpa using aQ) ay) c9).mono fun e tm ⟨au,aey,left⟩=>?_
  subst au;exact⟨_,rfl,_,_,_,[],_,[],akC,trodAll_mk1 (shut_bool Tryz.underlying4 _),left,rfl,aey.frame _,fun h=>by cases h⟩

theorem ajO:Rows.FoldDoesSaid:=
  OpenClaim.holds_of_wide 4 Tryz.f4 rfl rfl rfl rfl rfl rfl rfl ⟨rfl,rfl,rfl,rfl,rfl⟩ rfl rfl rfl rfl rfl (by kernel_rfl) Tryz.func4 (by kernel_rfl)
    (of_decide_eq_true (by kernel_rfl)) (by unfold Func.isWrapper; first | (rw[if_pos (by decide +kernel)]; kernel_rfl) | (rw[if_neg (by decide +kernel)]; exact⟨rfl,rfl⟩))
    (fun os MN H enc _=>ajN os MN H enc)

theorem foldDoes_holds:Rows.FoldDoesCardSaid:=
  Claim7.holds_tied_plain_at .later [] [.data] true (true,"7b3df127d049ebee9736ca6335ce2eecfb335e020b6bfbc2c24b080bd2ae72ee") false
    ajO (fun _ h=>by cases h) (by kernel_rfl) (fun _ h=>by cases h) foldDoes_row_tie rfl ⟨rfl,rfl⟩ (by kernel_rfl) rfl
    (fun f fn aL m6=>by
      obtain rfl:f=4:=Option.some.inj ((show Tryz.prog.funcNamed "braid/braidlaw23.FoldDoes"=some 4 by kernel_rfl).symm.trans aL) |>.symm;obtain rfl:fn=Tryz.f4:=(Option.some.inj (Tryz.func4.symm.trans m6)).symm;exact⟨by kernel_rfl,fun j t aQ=>by
        have z2:Tryz.f4.params=#[36,36,25,48,9] :=by kernel_rfl
        rw[z2] at aQ;have hm:t∈[36,36,25,48,9] :=by simpa using Array.mem_of_getElem? aQ
        have fS:([36,36,25,48,9].all fun u=>!Tryz.prog.wantsStandIn u)=true:=by kernel_rfl
        exact (show Tryz.prog.wantsStandIn t=false by simpa using List.all_eq_true.1 fS t hm)⟩)
    (by kernel_rfl)
#print axioms foldDoes_holds
end Go.Proofs.YtobphgccoalchaaGreatDoor
