/-
  Proved: 'OrsetOrder' returns true for all arguments, where the table that the program lays reads as laid, whatever the tape, the memory and the order that is drawn; the arguments read as they did; the card ties the table to the program's text.
-/
import Derived.Test.YtboebmmklamaeaaGreatDoorVm
import Derived.Test.YtboebmmklamaeaaGreatDoorRows
import Derived.Test.YtboebmmklamaeaaGreatDoorTie
import Derived.Test.YtboebmmklamaeaaGreatDoorCards
import Derived.ProofKit
import Derived.LaidMore
import Derived.OpenShut
import Derived.Stop.Joined
import Derived.SevenTiedAt
namespace Go.Proofs.YtboebmmklamaeaaGreatDoor
open Go.ChangeShapes Go.WideShapes Go.ChangeAt Go.RowKit
set_option linter.unusedVariables false
set_option linter.unnecessarySimpa false

theorem amK:ownKnob Tryz.prog.godebug=none:=by kernel_rfl
theorem alD:laidOutB Tryz.prog=true:=by kernel_rfl
abbrev DM:List (String × DataW Unit) :=[("braid/digest.constants",Rows.laid_braid_digest_constants)]
theorem agh (os:Os) (args:Array Value) :laidMetH Tryz.prog DM ((World.doorLaid Tryz.prog 4000 os).forCall (fun _ _=>0) ⟨#[],args,[]⟩).memory:=
  laidMetH_of_parts3 (fuel:=8) (laidMet_of_run' 8 (by kernel_rfl) (by kernel_rfl)) (by kernel_rfl) (by kernel_rfl)

theorem amA (cs:List cn.ae) (h:cn.lf Tryz.prog [60,80] cs) :cn.dh Tryz.prog cn.GS 7 cs [] (c:=⟨fun r _=>r=.bool true⟩) :=by
  obtain⟨g,_,rfl,az,h1⟩:=cn.Op.apU h;obtain⟨k,_,rfl,ag⟩:=cn.Op.apV h1;rw[cn.apW ag];exact cn.Op.amz cn.aeg g az k

set_option maxRecDepth 100000 in
theorem amB (os:Os) (OD:os.Started) (H:Type) (enc:TypeId × Value->H) :
    ReturnsInHanded {} Tryz.checked os 7 .any (fun w args=>(Rows.orsetOrderSpec.pre enc Tryz.prog Tryz.f7 [] false w args/\laidMetH Tryz.prog DM w)/\sizedMet enc Tryz.prog Tryz.f7 (OpenSpec.ofChange Rows.orsetOrderSpec) false w args)
      (Rows.orsetOrderSpec.post enc Tryz.prog Tryz.f7 false true false false) :=by
  refine returnsInHanded_of_change_and (C:=Tryz.checked) (X:=fun w _=>laidMetH Tryz.prog DM w) (fun _ _ _ aN h=>h.of_heap aN) amK OD (by kernel_rfl) Tryz.func7
    (ChangeSpec.witness_shaped (enc:=enc) (C:=Tryz.checked) (os:=os) (X:=fun w _=>laidMetH Tryz.prog DM w) false (World.doorLaid Tryz.prog 4000 os) #[.agg #[.slice none 0 0,.slice none 0 0],.slice none 0 0] 8 rfl (World.shaped_of_RefB (by kernel_rfl) (by kernel_rfl)) (by kernel_rfl) (by kernel_rfl) (by kernel_rfl) (agh os _)) ?_
  intro W base args hq gs aru ake fa _ _ gx _;have xW:∀ (j:Nat) t v,Tryz.f7.params[j]? = some t->args[j]? = some v->Value.okWide Tryz.prog W .any base t v:=ake;have ahR:=fa;obtain⟨p,q,vm,tJ,rfl,kU,vN⟩:=fa;have c2:DataW.TrodAll enc Tryz.prog W 0 (fun _=>true) true Tryz.f7.params.toList args.toList hq p:=vm;have xJ:Tryz.f7.params.toList=[60,80] :=by kernel_rfl
  have aiv:hq.length=2:=by have:=cn.ac0 c2; rw[xJ] at this; simpa using this
  obtain⟨d1,d2,rfl⟩:∃ d1 d2,hq=[d1,d2] :=by
    match hq,aiv with
    | [d1,d2],_=>exact⟨d1,d2,rfl⟩
  obtain⟨rfl,rfl⟩:=trodVars_none tJ;refine (cn.alH Tryz.checked.mixed cn.b2 8 (ts:=Tryz.f7.params.toList) (by rw[xJ]; decide +kernel) alD (by rw[xJ]; decide +kernel) (by rw[xJ]; exact amA) (cn.alE gx)
    (fun j t v aU ax=>xW j t v (by simpa using aU) ax) c2).mono fun e rJ ⟨aw,aeA,left⟩=>?_
  subst aw;exact⟨_,rfl,_,_,_,[],_,[],ahR,trodAll_mk1 (shut_bool Tryz.underlying4 _),left,rfl,aeA.frame _,fun h=>by cases h⟩

theorem amC:Rows.OrsetOrderSaid:=
  OpenClaim.holds_of_wide 7 Tryz.f7 rfl rfl rfl rfl rfl rfl rfl ⟨rfl,rfl,rfl,rfl,rfl⟩ rfl rfl rfl rfl rfl (by kernel_rfl) Tryz.func7 (by kernel_rfl)
    (of_decide_eq_true (by kernel_rfl)) (by unfold Func.isWrapper; first | (rw[if_pos (by decide +kernel)]; kernel_rfl) | (rw[if_neg (by decide +kernel)]; exact⟨rfl,rfl⟩))
    (fun os OD H enc _=>amB os OD H enc)

theorem orsetOrder_holds:Rows.OrsetOrderCardSaid:=
  Claim7.holds_tied_plain_at .later [] [.data] true (true,"927703b239a74285a4305d2ddad899c84b7d01194e9898cc9ea6d138865bfcda") false
    amC (fun _ h=>by cases h) (by kernel_rfl) (fun _ h=>by cases h) orsetOrder_row_tie rfl ⟨rfl,rfl⟩ (by kernel_rfl) rfl
    (fun f fn aI jo=>by
      obtain rfl:f=7:=Option.some.inj ((show Tryz.prog.funcNamed "braid/braidlaw21.OrsetOrder"=some 7 by kernel_rfl).symm.trans aI) |>.symm;obtain rfl:fn=Tryz.f7:=(Option.some.inj (Tryz.func7.symm.trans jo)).symm;exact⟨by kernel_rfl,fun j t aU=>by
        have xJ:Tryz.f7.params=#[60,80] :=by kernel_rfl
        rw[xJ] at aU;have hm:t∈[60,80] :=by simpa using Array.mem_of_getElem? aU
        have eG:([60,80].all fun u=>!Tryz.prog.wantsStandIn u)=true:=by kernel_rfl
        exact (show Tryz.prog.wantsStandIn t=false by simpa using List.all_eq_true.1 eG t hm)⟩)
    (by kernel_rfl)
#print axioms orsetOrder_holds
end Go.Proofs.YtboebmmklamaeaaGreatDoor
