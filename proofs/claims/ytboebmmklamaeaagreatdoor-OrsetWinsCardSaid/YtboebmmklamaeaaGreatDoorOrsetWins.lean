/-
  Proved: 'OrsetWins' returns true for all arguments, where the table that the program lays reads as laid, whatever the tape, the memory and the order that is drawn; the arguments read as they did; the card ties the table to the program's text.
-/
import Derived.Test.YtboebmmklamaeaaGreatDoorWm
import Derived.Test.YtboebmmklamaeaaGreatDoorRows
import Derived.Test.YtboebmmklamaeaaGreatDoorTie
import Derived.Test.YtboebmmklamaeaaGreatDoorCards
import Derived.ProofKit
import Derived.LaidMore
import Derived.OpenShut
import Derived.Stop.Joined
import Derived.SevenTiedAt
namespace Go.Proofs.YtboebmmklamaeaaGreatDoor
open Go.ChangeShapes Go.WideShapes Go.ChangeAt Go.RowKit
set_option linter.unusedVariables false
set_option linter.unnecessarySimpa false

theorem al7:ownKnob Tryz.prog.godebug=none:=by kernel_rfl
theorem ak1:laidOutB Tryz.prog=true:=by kernel_rfl
abbrev C6:List (String × DataW Unit) :=[("braid/digest.constants",Rows.laid_braid_digest_constants)]
theorem afB (os:Os) (args:Array Value) :laidMetH Tryz.prog C6 ((World.doorLaid Tryz.prog 4000 os).forCall (fun _ _=>0) ⟨#[],args,[]⟩).memory:=
  laidMetH_of_parts3 (fuel:=8) (laidMet_of_run' 8 (by kernel_rfl) (by kernel_rfl)) (by kernel_rfl) (by kernel_rfl)

theorem alY (cs:List cj.ae) (h:cj.kF Tryz.prog [60,9] cs) :cj.dp Tryz.prog cj.GS 5 cs [] (c:=⟨fun r _=>r=.bool true⟩) :=by
  obtain⟨g,_,rfl,ay,h1⟩:=cj.Op.apf h;obtain⟨k,_,rfl,ag⟩:=cj.Op.aph h1;rw[cj.apg ag];exact cj.Op.alX cj.adt g ay k

set_option maxRecDepth 100000 in
theorem alZ (os:Os) (No:os.Started) (H:Type) (enc:TypeId × Value->H) :
    ReturnsInHanded {} Tryz.checked os 5 .any (fun w args=>(Rows.orsetWinsSpec.pre enc Tryz.prog Tryz.f5 [] false w args/\laidMetH Tryz.prog C6 w)/\sizedMet enc Tryz.prog Tryz.f5 (OpenSpec.ofChange Rows.orsetWinsSpec) false w args)
      (Rows.orsetWinsSpec.post enc Tryz.prog Tryz.f5 false true false false) :=by
  refine returnsInHanded_of_change_and (C:=Tryz.checked) (X:=fun w _=>laidMetH Tryz.prog C6 w) (fun _ _ _ aQ h=>h.of_heap aQ) al7 No (by kernel_rfl) Tryz.func5
    (ChangeSpec.witness_shaped (enc:=enc) (C:=Tryz.checked) (os:=os) (X:=fun w _=>laidMetH Tryz.prog C6 w) false (World.doorLaid Tryz.prog 4000 os) #[.agg #[.slice none 0 0,.slice none 0 0],.string ⟨#[]⟩] 8 rfl (World.shaped_of_RefB (by kernel_rfl) (by kernel_rfl)) (by kernel_rfl) (by kernel_rfl) (by kernel_rfl) (afB os _)) ?_
  intro W base args gY gs aqP ajw eR _ _ fY _;have xg:∀ (j:Nat) t v,Tryz.f5.params[j]? = some t->args[j]? = some v->Value.okWide Tryz.prog W .any base t v:=ajw;have aha:=eR;obtain⟨p,q,uU,te,rfl,ko,zt⟩:=eR;have cR:DataW.TrodAll enc Tryz.prog W 0 (fun _=>true) true Tryz.f5.params.toList args.toList gY p:=uU;have w7:Tryz.f5.params.toList=[60,9] :=by kernel_rfl
  have ahL:gY.length=2:=by have:=cj.aca cR; rw[w7] at this; simpa using this
  obtain⟨uL,uM,rfl⟩:∃ uL uM,gY=[uL,uM] :=by
    match gY,ahL with
    | [uL,uM],_=>exact⟨uL,uM,rfl⟩
  obtain⟨rfl,rfl⟩:=trodVars_none te;refine (cj.ak5 Tryz.checked.mixed cj.b2 8 (ts:=Tryz.f5.params.toList) (by rw[w7]; decide +kernel) ak1 (by rw[w7]; decide +kernel) (by rw[w7]; exact alY) (cj.ak2 fY)
    (fun j t v aW ax=>xg j t v (by simpa using aW) ax) cR).mono fun e ri ⟨aw,adN,left⟩=>?_
  subst aw;exact⟨_,rfl,_,_,_,[],_,[],aha,trodAll_mk1 (shut_bool Tryz.underlying4 _),left,rfl,adN.frame _,fun h=>by cases h⟩

theorem al0:Rows.OrsetWinsSaid:=
  OpenClaim.holds_of_wide 5 Tryz.f5 rfl rfl rfl rfl rfl rfl rfl ⟨rfl,rfl,rfl,rfl,rfl⟩ rfl rfl rfl rfl rfl (by kernel_rfl) Tryz.func5 (by kernel_rfl)
    (of_decide_eq_true (by kernel_rfl)) (by unfold Func.isWrapper; first | (rw[if_pos (by decide +kernel)]; kernel_rfl) | (rw[if_neg (by decide +kernel)]; exact⟨rfl,rfl⟩))
    (fun os No H enc _=>alZ os No H enc)

theorem orsetWins_holds:Rows.OrsetWinsCardSaid:=
  Claim7.holds_tied_plain_at .later [] [.data] true (true,"927703b239a74285a4305d2ddad899c84b7d01194e9898cc9ea6d138865bfcda") false
    al0 (fun _ h=>by cases h) (by kernel_rfl) (fun _ h=>by cases h) orsetWins_row_tie rfl ⟨rfl,rfl⟩ (by kernel_rfl) rfl
    (fun f fn aJ iX=>by
      obtain rfl:f=5:=Option.some.inj ((show Tryz.prog.funcNamed "braid/braidlaw21.OrsetWins"=some 5 by kernel_rfl).symm.trans aJ) |>.symm;obtain rfl:fn=Tryz.f5:=(Option.some.inj (Tryz.func5.symm.trans iX)).symm;exact⟨by kernel_rfl,fun j t aW=>by
        have w7:Tryz.f5.params=#[60,9] :=by kernel_rfl
        rw[w7] at aW;have hm:t∈[60,9] :=by simpa using Array.mem_of_getElem? aW
        have eS:([60,9].all fun u=>!Tryz.prog.wantsStandIn u)=true:=by kernel_rfl
        exact (show Tryz.prog.wantsStandIn t=false by simpa using List.all_eq_true.1 eS t hm)⟩)
    (by kernel_rfl)
#print axioms orsetWins_holds
end Go.Proofs.YtboebmmklamaeaaGreatDoor
