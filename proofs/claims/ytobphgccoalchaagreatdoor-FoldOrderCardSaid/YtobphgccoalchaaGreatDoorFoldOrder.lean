/-
  Proved: 'FoldOrder' returns true for all arguments, where the table that the program lays reads as laid, whatever the tape, the memory and the order that is drawn; the arguments read as they did; the card ties the table to the program's text.
-/
import Derived.Test.YtobphgccoalchaaGreatDoorOm
import Derived.Test.YtobphgccoalchaaGreatDoorRows
import Derived.Test.YtobphgccoalchaaGreatDoorTie
import Derived.Test.YtobphgccoalchaaGreatDoorCards
import Derived.ProofKit
import Derived.LaidMore
import Derived.OpenShut
import Derived.Stop.Joined
import Derived.SevenTiedAt
namespace Go.Proofs.YtobphgccoalchaaGreatDoor
open Go.ChangeShapes Go.WideShapes Go.ChangeAt Go.RowKit
set_option linter.unusedVariables false
set_option linter.unnecessarySimpa false

theorem ai4:ownKnob Tryz.prog.godebug=none:=by kernel_rfl
theorem ahW:laidOutB Tryz.prog=true:=by kernel_rfl
abbrev Hb:List (String × DataW Unit) :=[("braid/digest.constants",Rows.laid_braid_digest_constants)]
theorem abR (os:Os) (args:Array Value) :laidMetH Tryz.prog Hb ((World.doorLaid Tryz.prog 4000 os).forCall (fun _ _=>0) ⟨#[],args,[]⟩).memory:=
  laidMetH_of_parts3 (fuel:=8) (laidMet_of_run' 8 (by kernel_rfl) (by kernel_rfl)) (by kernel_rfl) (by kernel_rfl)

theorem acY (cs:List cb.U) (h:cb.mE Tryz.prog [25,84,84] cs) :cb.cY Tryz.prog cb.GS 8 cs [] (c:=⟨fun r _=>r=.bool true⟩) :=by
  obtain⟨g,_,rfl,ar,h1⟩:=cb.Op.amb h;obtain⟨p,_,rfl,ad⟩:=cb.Op.YS h1;obtain⟨q,_,rfl,aj⟩:=cb.Op.YS ad;rw[cb.amc aj];exact cb.Op.acX cb.Z9 g ar p q

set_option maxRecDepth 100000 in
theorem acZ (os:Os) (NV:os.Started) (H:Type) (enc:TypeId × Value->H) :
    ReturnsInHanded {} Tryz.checked os 8 .any (fun w args=>(Rows.foldOrderSpec.pre enc Tryz.prog Tryz.f8 [] false w args/\laidMetH Tryz.prog Hb w)/\sizedMet enc Tryz.prog Tryz.f8 (OpenSpec.ofChange Rows.foldOrderSpec) false w args)
      (Rows.foldOrderSpec.post enc Tryz.prog Tryz.f8 false true false false) :=by
  refine returnsInHanded_of_change_and (C:=Tryz.checked) (X:=fun w _=>laidMetH Tryz.prog Hb w) (fun _ _ _ aG h=>h.of_heap aG) ai4 NV (by kernel_rfl) Tryz.func8
    (ChangeSpec.witness_shaped (enc:=enc) (C:=Tryz.checked) (os:=os) (X:=fun w _=>laidMetH Tryz.prog Hb w) false (World.doorLaid Tryz.prog 4000 os) #[.agg #[.slice none 0 0,.slice none 0 0],.slice none 0 0,.slice none 0 0] 8 rfl (World.shaped_of_RefB (by kernel_rfl) (by kernel_rfl)) (by kernel_rfl) (by kernel_rfl) (by kernel_rfl) (abR os _)) ?_
  intro W base args h0 gs anY agG dG _ _ e6 _;have AF:∀ (j:Nat) t v,Tryz.f8.params[j]? = some t->args[j]? = some v->Value.okWide Tryz.prog W .any base t v:=agG;have ad0:=dG;obtain⟨p,q,xX,we,rfl,mg,qm⟩:=dG;have cL:DataW.TrodAll enc Tryz.prog W 0 (fun _=>true) true Tryz.f8.params.toList args.toList h0 p:=xX;have Aw:Tryz.f8.params.toList=[25,84,84] :=by kernel_rfl
  have aeK:h0.length=3:=by have:=cb.YO cL; rw[Aw] at this; simpa using this
  obtain⟨d1,d2,d3,rfl⟩:∃ d1 d2 d3,h0=[d1,d2,d3] :=by
    match h0,aeK with
    | [d1,d2,d3],_=>exact⟨d1,d2,d3,rfl⟩
  obtain⟨rfl,rfl⟩:=trodVars_none we;refine (cb.ah2 Tryz.checked.mixed cb.bB 8 (ts:=Tryz.f8.params.toList) (by rw[Aw]; decide +kernel) ahW (by rw[Aw]; decide +kernel) (by rw[Aw]; exact acY) (cb.ahX e6)
    (fun j t v aH aq=>AF j t v (by simpa using aH) aq) cL).mono fun e tP ⟨am,aay,left⟩=>?_
  subst am;exact⟨_,rfl,_,_,_,[],_,[],ad0,trodAll_mk1 (shut_bool Tryz.underlying4 _),left,rfl,aay.frame _,fun h=>by cases h⟩

theorem ac0:Rows.FoldOrderSaid:=
  OpenClaim.holds_of_wide 8 Tryz.f8 rfl rfl rfl rfl rfl rfl rfl ⟨rfl,rfl,rfl,rfl,rfl⟩ rfl rfl rfl rfl rfl (by kernel_rfl) Tryz.func8 (by kernel_rfl)
    (of_decide_eq_true (by kernel_rfl)) (by unfold Func.isWrapper; first | (rw[if_pos (by decide +kernel)]; kernel_rfl) | (rw[if_neg (by decide +kernel)]; exact⟨rfl,rfl⟩))
    (fun os NV H enc _=>acZ os NV H enc)

theorem foldOrder_holds:Rows.FoldOrderCardSaid:=
  Claim7.holds_tied_plain_at .later [] [.data] true (true,"7b3df127d049ebee9736ca6335ce2eecfb335e020b6bfbc2c24b080bd2ae72ee") false
    ac0 (fun _ h=>by cases h) (by kernel_rfl) (fun _ h=>by cases h) foldOrder_row_tie rfl ⟨rfl,rfl⟩ (by kernel_rfl) rfl
    (fun f fn aD ky=>by
      obtain rfl:f=8:=Option.some.inj ((show Tryz.prog.funcNamed "braid/braidlaw23.FoldOrder"=some 8 by kernel_rfl).symm.trans aD) |>.symm;obtain rfl:fn=Tryz.f8:=(Option.some.inj (Tryz.func8.symm.trans ky)).symm;exact⟨by kernel_rfl,fun j t aH=>by
        have Aw:Tryz.f8.params=#[25,84,84] :=by kernel_rfl
        rw[Aw] at aH;have hm:t∈[25,84,84] :=by simpa using Array.mem_of_getElem? aH
        have eH:([25,84,84].all fun u=>!Tryz.prog.wantsStandIn u)=true:=by kernel_rfl
        exact (show Tryz.prog.wantsStandIn t=false by simpa using List.all_eq_true.1 eH t hm)⟩)
    (by kernel_rfl)
#print axioms foldOrder_holds
end Go.Proofs.YtobphgccoalchaaGreatDoor
