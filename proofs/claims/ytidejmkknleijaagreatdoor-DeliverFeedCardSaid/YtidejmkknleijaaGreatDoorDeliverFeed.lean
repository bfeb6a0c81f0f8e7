/-
  Proved: 'DeliverFeed' returns true for all arguments, where the table that the program lays reads as laid, whatever the tape, the memory and the order that is drawn; the arguments read as they did; the card ties the table to the program's text.
-/
import Derived.Test.YtidejmkknleijaaGreatDoorHn
import Derived.Test.YtidejmkknleijaaGreatDoorRows
import Derived.Test.YtidejmkknleijaaGreatDoorTie
import Derived.Test.YtidejmkknleijaaGreatDoorCards
import Derived.ProofKit
import Derived.LaidMore
import Derived.OpenShut
import Derived.Stop.Joined
import Derived.SevenTiedAt
namespace Go.Proofs.YtidejmkknleijaaGreatDoor
open Go.ChangeShapes Go.WideShapes Go.ChangeAt Go.RowKit
set_option linter.unusedVariables false
set_option linter.unnecessarySimpa false

theorem al2:ownKnob Tryz.prog.godebug=none:=by kernel_rfl
theorem aj8:laidOutB Tryz.prog=true:=by kernel_rfl
abbrev Ju:List (String × DataW Unit) :=[("braid/digest.constants",Rows.laid_braid_digest_constants)]
theorem ad9 (os:Os) (args:Array Value) :laidMetH Tryz.prog Ju ((World.doorLaid Tryz.prog 4000 os).forCall (fun _ _=>0) ⟨#[],args,[]⟩).memory:=
  laidMetH_of_parts3 (fuel:=8) (laidMet_of_run' 8 (by kernel_rfl) (by kernel_rfl)) (by kernel_rfl) (by kernel_rfl)

theorem ad0 (cs:List bV.U) (h:bV.js Tryz.prog [27,3,3,64] cs) :bV.c5 Tryz.prog bV.GS 5 cs [] (c:=⟨fun r _=>r=.bool true⟩) :=by
  obtain⟨s,_,rfl,ak,ad⟩:=bV.Op.apn h;obtain⟨a,_,rfl,_,_,ae⟩:=bV.Ql ad;obtain⟨n,_,rfl,_,_,aj⟩:=bV.Ql ae;obtain⟨m,_,rfl,_,aD⟩:=bV.Fd.apl aj;rw[bV.apm aD];exact bV.Op.adZ bV.aci s ak a n m

set_option maxRecDepth 100000 in
theorem ad1 (os:Os) (P6:os.Started) (H:Type) (enc:TypeId × Value->H) :
    ReturnsInHanded {} Tryz.checked os 5 .any (fun w args=>(Rows.deliverFeedSpec.pre enc Tryz.prog Tryz.f5 [] false w args/\laidMetH Tryz.prog Ju w)/\sizedMet enc Tryz.prog Tryz.f5 (OpenSpec.ofChange Rows.deliverFeedSpec) false w args)
      (Rows.deliverFeedSpec.post enc Tryz.prog Tryz.f5 false true false false) :=by
  refine returnsInHanded_of_change_and (C:=Tryz.checked) (X:=fun w _=>laidMetH Tryz.prog Ju w) (fun _ _ _ aT h=>h.of_heap aT) al2 P6 (by kernel_rfl) Tryz.func5
    (ChangeSpec.witness_shaped (enc:=enc) (C:=Tryz.checked) (os:=os) (X:=fun w _=>laidMetH Tryz.prog Ju w) false (World.doorLaid Tryz.prog 4000 os) #[.agg #[.int .i64 0,.slice none 0 0,.slice none 0 0,.int .i64 0,.slice none 0 0],.int .i64 0,.int .i64 0,.slice none 0 0] 8 rfl (World.shaped_of_RefB (by kernel_rfl) (by kernel_rfl)) (by kernel_rfl) (by kernel_rfl) (by kernel_rfl) (ad9 os _)) ?_
  intro W base args iH gs aqU aiD eY _ _ eN _;have B5:∀ (j:Nat) t v,Tryz.f5.params[j]? = some t->args[j]? = some v->Value.okWide Tryz.prog W .any base t v:=aiD;have H2:=eY;obtain⟨p,q,D9,af0,rfl,o7,EW⟩:=eY;have dA:DataW.TrodAll enc Tryz.prog W 0 (fun _=>true) true Tryz.f5.params.toList args.toList iH p:=D9;have BV:Tryz.f5.params.toList=[27,3,3,64] :=by kernel_rfl
  have agI:iH.length=4:=by have:=bV.aaT dA; rw[BV] at this; simpa using this
  obtain⟨d1,d2,d3,d4,rfl⟩:∃ d1 d2 d3 d4,iH=[d1,d2,d3,d4] :=by
    match iH,agI with
    | [d1,d2,d3,d4],_=>exact⟨d1,d2,d3,d4,rfl⟩
  obtain⟨rfl,rfl⟩:=trodVars_none af0;refine (bV.akc Tryz.checked.mixed bV.bj 16 (ts:=Tryz.f5.params.toList) (by rw[BV]; decide +kernel) aj8 (by rw[BV]; decide +kernel) (by rw[BV]; exact ad0) (bV.aj9 eN)
    (fun j t v aX ao=>B5 j t v (by simpa using aX) ao) dA).mono fun e eV ⟨am,acE,left⟩=>?_
  subst am;exact⟨_,rfl,_,_,_,[],_,[],H2,trodAll_mk1 (shut_bool Tryz.underlying4 _),left,rfl,acE.frame _,fun h=>by cases h⟩

theorem ad2:Rows.DeliverFeedSaid:=
  OpenClaim.holds_of_wide 5 Tryz.f5 rfl rfl rfl rfl rfl rfl rfl ⟨rfl,rfl,rfl,rfl,rfl⟩ rfl rfl rfl rfl rfl (by kernel_rfl) Tryz.func5 (by kernel_rfl)
    (of_decide_eq_true (by kernel_rfl)) (by unfold Func.isWrapper; first | (rw[if_pos (by decide +kernel)]; kernel_rfl) | (rw[if_neg (by decide +kernel)]; exact⟨rfl,rfl⟩))
    (fun os P6 H enc _=>ad1 os P6 H enc)

theorem deliverFeed_holds:Rows.DeliverFeedCardSaid:=
  Claim7.holds_tied_plain_at .later [] [.data] true (true,"7896e778c9d2aaf5d167c68fa59bcd97685e87fd210a3b12aaf2ef5c599bd276") false
    ad2 (fun _ h=>by cases h) (by kernel_rfl) (fun _ h=>by cases h) deliverFeed_row_tie rfl ⟨rfl,rfl⟩ (by kernel_rfl) rfl
    (fun f fn aF iR=>by
      obtain rfl:f=5:=Option.some.inj ((show Tryz.prog.funcNamed "braid/braidlaw37.DeliverFeed"=some 5 by kernel_rfl).symm.trans aF) |>.symm;obtain rfl:fn=Tryz.f5:=(Option.some.inj (Tryz.func5.symm.trans iR)).symm;exact⟨by kernel_rfl,fun j t aX=>by
        have BV:Tryz.f5.params=#[27,3,3,64] :=by kernel_rfl
        rw[BV] at aX;have hm:t∈[27,3,3,64] :=by simpa using Array.mem_of_getElem? aX
        have dE:([27,3,3,64].all fun u=>!Tryz.prog.wantsStandIn u)=true:=by kernel_rfl
        exact (show Tryz.prog.wantsStandIn t=false by simpa using List.all_eq_true.1 dE t hm)⟩)
    (by kernel_rfl)
#print axioms deliverFeed_holds
end Go.Proofs.YtidejmkknleijaaGreatDoor
