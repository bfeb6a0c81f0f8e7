/-
  Proved: 'DeliverFirst' returns true for all arguments, where the table that the program lays reads as laid, whatever the tape, the memory and the order that is drawn; the arguments read as they did; the card ties the table to the program's text.
-/
import Derived.Test.YtidejmkknleijaaGreatDoorFm
import Derived.Test.YtidejmkknleijaaGreatDoorRows
import Derived.Test.YtidejmkknleijaaGreatDoorTie
import Derived.Test.YtidejmkknleijaaGreatDoorCards
import Derived.ProofKit
import Derived.LaidMore
import Derived.OpenShut
import Derived.Stop.Joined
import Derived.SevenTiedAt
namespace Go.Proofs.YtidejmkknleijaaGreatDoor
open Go.ChangeShapes Go.WideShapes Go.ChangeAt Go.RowKit
set_option linter.unusedVariables false
set_option linter.unnecessarySimpa false

theorem aiI:ownKnob Tryz.prog.godebug=none:=by kernel_rfl
theorem ag6:laidOutB Tryz.prog=true:=by kernel_rfl
abbrev Ho:List (String × DataW Unit) :=[("braid/digest.constants",Rows.laid_braid_digest_constants)]
theorem aa6 (os:Os) (args:Array Value) :laidMetH Tryz.prog Ho ((World.doorLaid Tryz.prog 4000 os).forCall (fun _ _=>0) ⟨#[],args,[]⟩).memory:=
  laidMetH_of_parts3 (fuel:=8) (laidMet_of_run' 8 (by kernel_rfl) (by kernel_rfl)) (by kernel_rfl) (by kernel_rfl)

theorem aaY (cs:List bY.U) (h:bY.lu Tryz.prog [27,29,29,3] cs) :bY.dh Tryz.prog bY.GS 6 cs [] (c:=⟨fun r _=>r=.bool true⟩) :=by
  obtain⟨s,_,rfl,ak,ad⟩:=bY.Op.aly h;obtain⟨d,_,rfl,bb,ae⟩:=bY.Op.X9 ad;obtain⟨f,_,rfl,aE,aj⟩:=bY.Op.X9 ae;obtain⟨n,_,rfl,_,_,aF⟩:=bY.alw aj;rw[bY.alx aF];exact bY.Op.aaX bY.Zq s ak d bb f aE n

set_option maxRecDepth 100000 in
theorem aaZ (os:Os) (NF:os.Started) (H:Type) (enc:TypeId × Value->H) :
    ReturnsInHanded {} Tryz.checked os 6 .any (fun w args=>(Rows.deliverFirstSpec.pre enc Tryz.prog Tryz.f6 [] false w args/\laidMetH Tryz.prog Ho w)/\sizedMet enc Tryz.prog Tryz.f6 (OpenSpec.ofChange Rows.deliverFirstSpec) false w args)
      (Rows.deliverFirstSpec.post enc Tryz.prog Tryz.f6 false true false false) :=by
  refine returnsInHanded_of_change_and (C:=Tryz.checked) (X:=fun w _=>laidMetH Tryz.prog Ho w) (fun _ _ _ aR h=>h.of_heap aR) aiI NF (by kernel_rfl) Tryz.func6
    (ChangeSpec.witness_shaped (enc:=enc) (C:=Tryz.checked) (os:=os) (X:=fun w _=>laidMetH Tryz.prog Ho w) false (World.doorLaid Tryz.prog 4000 os) #[.agg #[.int .i64 0,.slice none 0 0,.slice none 0 0,.int .i64 0,.slice none 0 0],.agg #[.int .i64 0,.slice none 0 0,.bool false],.agg #[.int .i64 0,.slice none 0 0,.bool false],.int .i64 0] 8 rfl (World.shaped_of_RefB (by kernel_rfl) (by kernel_rfl)) (by kernel_rfl) (by kernel_rfl) (by kernel_rfl) (aa6 os _)) ?_
  intro W base args im gs am4 afE eN _ _ eV _;have Al:∀ (j:Nat) t v,Tryz.f6.params[j]? = some t->args[j]? = some v->Value.okWide Tryz.prog W .any base t v:=afE;have FX:=eN;obtain⟨p,q,Cq,acX,rfl,oa,C8⟩:=eN;have dm:DataW.TrodAll enc Tryz.prog W 0 (fun _=>true) true Tryz.f6.params.toList args.toList im p:=Cq;have Ae:Tryz.f6.params.toList=[27,29,29,3] :=by kernel_rfl
  have adF:im.length=4:=by have:=bY.X5 dm; rw[Ae] at this; simpa using this
  obtain⟨d1,d2,d3,d4,rfl⟩:∃ d1 d2 d3 d4,im=[d1,d2,d3,d4] :=by
    match im,adF with
    | [d1,d2,d3,d4],_=>exact⟨d1,d2,d3,d4,rfl⟩
  obtain⟨rfl,rfl⟩:=trodVars_none acX;refine (bY.aha Tryz.checked.mixed bY.bl 16 (ts:=Tryz.f6.params.toList) (by rw[Ae]; decide +kernel) ag6 (by rw[Ae]; decide +kernel) (by rw[Ae]; exact aaY) (bY.ag7 eV)
    (fun j t v aV ap=>Al j t v (by simpa using aV) ap) dm).mono fun e eK ⟨am,ZK,left⟩=>?_
  subst am;exact⟨_,rfl,_,_,_,[],_,[],FX,trodAll_mk1 (shut_bool Tryz.underlying4 _),left,rfl,ZK.frame _,fun h=>by cases h⟩

theorem aa0:Rows.DeliverFirstSaid:=
  OpenClaim.holds_of_wide 6 Tryz.f6 rfl rfl rfl rfl rfl rfl rfl ⟨rfl,rfl,rfl,rfl,rfl⟩ rfl rfl rfl rfl rfl (by kernel_rfl) Tryz.func6 (by kernel_rfl)
    (of_decide_eq_true (by kernel_rfl)) (by unfold Func.isWrapper; first | (rw[if_pos (by decide +kernel)]; kernel_rfl) | (rw[if_neg (by decide +kernel)]; exact⟨rfl,rfl⟩))
    (fun os NF H enc _=>aaZ os NF H enc)

theorem deliverFirst_holds:Rows.DeliverFirstCardSaid:=
  Claim7.holds_tied_plain_at .later [] [.data] true (true,"7896e778c9d2aaf5d167c68fa59bcd97685e87fd210a3b12aaf2ef5c599bd276") false
    aa0 (fun _ h=>by cases h) (by kernel_rfl) (fun _ h=>by cases h) deliverFirst_row_tie rfl ⟨rfl,rfl⟩ (by kernel_rfl) rfl
    (fun f fn aE iB=>by
      obtain rfl:f=6:=Option.some.inj ((show Tryz.prog.funcNamed "braid/braidlaw37.DeliverFirst"=some 6 by kernel_rfl).symm.trans aE) |>.symm;obtain rfl:fn=Tryz.f6:=(Option.some.inj (Tryz.func6.symm.trans iB)).symm;exact⟨by kernel_rfl,fun j t aV=>by
        have Ae:Tryz.f6.params=#[27,29,29,3] :=by kernel_rfl
        rw[Ae] at aV;have hm:t∈[27,29,29,3] :=by simpa using Array.mem_of_getElem? aV
        have dL:([27,29,29,3].all fun u=>!Tryz.prog.wantsStandIn u)=true:=by kernel_rfl
        exact (show Tryz.prog.wantsStandIn t=false by simpa using List.all_eq_true.1 dL t hm)⟩)
    (by kernel_rfl)
#print axioms deliverFirst_holds
end Go.Proofs.YtidejmkknleijaaGreatDoor
