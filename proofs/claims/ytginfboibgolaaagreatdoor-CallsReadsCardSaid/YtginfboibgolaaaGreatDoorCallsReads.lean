/-
  Proved: 'CallsReads' returns true for all arguments, where the table that the program lays reads as laid, whatever the tape, the memory and the order that is drawn; the arguments read as they did; the card ties the table to the program's text.
-/
import Derived.Test.YtginfboibgolaaaGreatDoorRl
import Derived.Test.YtginfboibgolaaaGreatDoorRows
import Derived.Test.YtginfboibgolaaaGreatDoorTie
import Derived.Test.YtginfboibgolaaaGreatDoorCards
import Derived.ProofKit
import Derived.LaidMore
import Derived.OpenShut
import Derived.Stop.Joined
import Derived.SevenTiedAt
namespace Go.Proofs.YtginfboibgolaaaGreatDoor
open Go.ChangeShapes Go.WideShapes Go.ChangeAt Go.RowKit
set_option linter.unusedVariables false
set_option linter.unnecessarySimpa false

theorem afG:ownKnob Tryz.prog.godebug=none:=by kernel_rfl
theorem ael:laidOutB Tryz.prog=true:=by kernel_rfl
abbrev FL:List (String × DataW Unit) :=[("braid/digest.constants",Rows.laid_braid_digest_constants)]
theorem YD (os:Os) (args:Array Value) :laidMetH Tryz.prog FL ((World.doorLaid Tryz.prog 4000 os).forCall (fun _ _=>0) ⟨#[],args,[]⟩).memory:=
  laidMetH_of_parts3 (fuel:=8) (laidMet_of_run' 8 (by kernel_rfl) (by kernel_rfl)) (by kernel_rfl) (by kernel_rfl)

theorem XL (cs:List bJ.U) (h:bJ.lI Tryz.prog [95,9] cs) :bJ.c2 Tryz.prog bJ.GS 7 cs [] (c:=⟨fun r _=>r=.bool true⟩) :=by
  obtain⟨g,_,rfl,au,h1⟩:=bJ.Op.aiH h;obtain⟨k,_,rfl,ad⟩:=bJ.Op.aiJ h1;rw[bJ.aiI ad];exact bJ.tR.XK bJ.WO g au k

set_option maxRecDepth 100000 in
theorem XM (os:Os) (L8:os.Started) (H:Type) (enc:TypeId × Value->H) :
    ReturnsInHanded {} Tryz.checked os 7 .any (fun w args=>(Rows.callsReadsSpec.pre enc Tryz.prog Tryz.f7 [] false w args/\laidMetH Tryz.prog FL w)/\sizedMet enc Tryz.prog Tryz.f7 (OpenSpec.ofChange Rows.callsReadsSpec) false w args)
      (Rows.callsReadsSpec.post enc Tryz.prog Tryz.f7 false true false false) :=by
  refine returnsInHanded_of_change_and (C:=Tryz.checked) (X:=fun w _=>laidMetH Tryz.prog FL w) (fun _ _ _ aM h=>h.of_heap aM) afG L8 (by kernel_rfl) Tryz.func7
    (ChangeSpec.witness_shaped (enc:=enc) (C:=Tryz.checked) (os:=os) (X:=fun w _=>laidMetH Tryz.prog FL w) false (World.doorLaid Tryz.prog 4000 os) #[.agg #[.slice none 0 0,.slice none 0 0],.string ⟨#[]⟩] 8 rfl (World.shaped_of_RefB (by kernel_rfl) (by kernel_rfl)) (by kernel_rfl) (by kernel_rfl) (by kernel_rfl) (YD os _)) ?_
  intro W base args hs gs akp adc dr _ _ ec _;have zm:∀ (j:Nat) t v,Tryz.f7.params[j]? = some t->args[j]? = some v->Value.okWide Tryz.prog W .any base t v:=adc;have aaD:=dr;obtain⟨p,q,Bk,j9,rfl,lc,BT⟩:=dr;have cT:DataW.TrodAll enc Tryz.prog W 0 (fun _=>true) true Tryz.f7.params.toList args.toList hs p:=Bk;have zd:Tryz.f7.params.toList=[95,9] :=by kernel_rfl
  have abh:hs.length=2:=by have:=bJ.Vv cT; rw[zd] at this; simpa using this
  obtain⟨d1,d2,rfl⟩:∃ d1 d2,hs=[d1,d2] :=by
    match hs,abh with
    | [d1,d2],_=>exact⟨d1,d2,rfl⟩
  obtain⟨rfl,rfl⟩:=trodVars_none j9;refine (bJ.aeq Tryz.checked.mixed bJ.bp 16 (ts:=Tryz.f7.params.toList) (by rw[zd]; decide +kernel) ael (by rw[zd]; decide +kernel) (by rw[zd]; exact XL) (bJ.aem ec)
    (fun j t v aP ao=>zm j t v (by simpa using aP) ao) cT).mono fun e sl ⟨ap,Xa,left⟩=>?_
  subst ap;exact⟨_,rfl,_,_,_,[],_,[],aaD,trodAll_mk1 (shut_bool Tryz.underlying4 _),left,rfl,Xa.frame _,fun h=>by cases h⟩

theorem XN:Rows.CallsReadsSaid:=
  OpenClaim.holds_of_wide 7 Tryz.f7 rfl rfl rfl rfl rfl rfl rfl ⟨rfl,rfl,rfl,rfl,rfl⟩ rfl rfl rfl rfl rfl (by kernel_rfl) Tryz.func7 (by kernel_rfl)
    (of_decide_eq_true (by kernel_rfl)) (by unfold Func.isWrapper; first | (rw[if_pos (by decide +kernel)]; kernel_rfl) | (rw[if_neg (by decide +kernel)]; exact⟨rfl,rfl⟩))
    (fun os L8 H enc _=>XM os L8 H enc)

theorem callsReads_holds:Rows.CallsReadsCardSaid:=
  Claim7.holds_tied_plain_at .later [] [.data] true (true,"672df3c46ae3632db6bb183a190b0bde5263f788e5407b1d59227ec7b0f4c5bc") true
    XN (fun _ h=>by cases h) (by kernel_rfl) (fun _ h=>by cases h) callsReads_row_tie rfl ⟨rfl,rfl⟩ (by kernel_rfl) rfl
    (fun f fn aA jE=>by
      obtain rfl:f=7:=Option.some.inj ((show Tryz.prog.funcNamed "braid/braidlaw28.CallsReads"=some 7 by kernel_rfl).symm.trans aA) |>.symm;obtain rfl:fn=Tryz.f7:=(Option.some.inj (Tryz.func7.symm.trans jE)).symm;exact⟨by kernel_rfl,fun j t aP=>by
        have zd:Tryz.f7.params=#[95,9] :=by kernel_rfl
        rw[zd] at aP;have hm:t∈[95,9] :=by simpa using Array.mem_of_getElem? aP
        have eT:([95,9].all fun u=>!Tryz.prog.wantsStandIn u)=true:=by kernel_rfl
        exact (show Tryz.prog.wantsStandIn t=false by simpa using List.all_eq_true.1 eT t hm)⟩)
    (by kernel_rfl)
#print axioms callsReads_holds
end Go.Proofs.YtginfboibgolaaaGreatDoor
