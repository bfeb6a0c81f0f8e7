/-
  Proved: 'DeliverBehind' returns true for all arguments, where the table that the program lays reads as laid, whatever the tape, the memory and the order that is drawn; the arguments read as they did; the card ties the table to the program's text.
-/
import Derived.Test.YtidejmkknleijaaGreatDoorBm
import Derived.Test.YtidejmkknleijaaGreatDoorRows
import Derived.Test.YtidejmkknleijaaGreatDoorTie
import Derived.Test.YtidejmkknleijaaGreatDoorCards
import Derived.ProofKit
import Derived.LaidMore
import Derived.OpenShut
import Derived.Stop.Joined
import Derived.SevenTiedAt
namespace Go.Proofs.YtidejmkknleijaaGreatDoor
open Go.ChangeShapes Go.WideShapes Go.ChangeAt Go.RowKit
set_option linter.unusedVariables false
set_option linter.unnecessarySimpa false

theorem aj3:ownKnob Tryz.prog.godebug=none:=by kernel_rfl
theorem aio:laidOutB Tryz.prog=true:=by kernel_rfl
abbrev HX:List (String × DataW Unit) :=[("braid/digest.constants",Rows.laid_braid_digest_constants)]
theorem ab5 (os:Os) (args:Array Value) :laidMetH Tryz.prog HX ((World.doorLaid Tryz.prog 4000 os).forCall (fun _ _=>0) ⟨#[],args,[]⟩).memory:=
  laidMetH_of_parts3 (fuel:=8) (laidMet_of_run' 8 (by kernel_rfl) (by kernel_rfl)) (by kernel_rfl) (by kernel_rfl)

theorem abW (cs:List b0.U) (h:b0.mL Tryz.prog [27,3,3] cs) :b0.c0 Tryz.prog b0.GS 8 cs [] (c:=⟨fun r _=>r=.bool true⟩) :=by
  obtain⟨s,_,rfl,ak,ad⟩:=b0.Op.amQ h;obtain⟨a,_,rfl,_,_,ae⟩:=b0.Y1 ad;obtain⟨n,_,rfl,_,_,aj⟩:=b0.Y1 ae;rw[b0.amP aj];exact b0.Op.abV b0.aao s ak a n

set_option maxRecDepth 100000 in
theorem abX (os:Os) (Oj:os.Started) (H:Type) (enc:TypeId × Value->H) :
    ReturnsInHanded {} Tryz.checked os 8 .any (fun w args=>(Rows.deliverBehindSpec.pre enc Tryz.prog Tryz.f8 [] false w args/\laidMetH Tryz.prog HX w)/\sizedMet enc Tryz.prog Tryz.f8 (OpenSpec.ofChange Rows.deliverBehindSpec) false w args)
      (Rows.deliverBehindSpec.post enc Tryz.prog Tryz.f8 false true false false) :=by
  refine returnsInHanded_of_change_and (C:=Tryz.checked) (X:=fun w _=>laidMetH Tryz.prog HX w) (fun _ _ _ aS h=>h.of_heap aS) aj3 Oj (by kernel_rfl) Tryz.func8
    (ChangeSpec.witness_shaped (enc:=enc) (C:=Tryz.checked) (os:=os) (X:=fun w _=>laidMetH Tryz.prog HX w) false (World.doorLaid Tryz.prog 4000 os) #[.agg #[.int .i64 0,.slice none 0 0,.slice none 0 0,.int .i64 0,.slice none 0 0],.int .i64 0,.int .i64 0] 8 rfl (World.shaped_of_RefB (by kernel_rfl) (by kernel_rfl)) (by kernel_rfl) (by kernel_rfl) (by kernel_rfl) (ab5 os _)) ?_
  intro W base args ix gs aol agT e5 _ _ dA _;have AR:∀ (j:Nat) t v,Tryz.f8.params[j]? = some t->args[j]? = some v->Value.okWide Tryz.prog W .any base t v:=agT;have Gv:=e5;obtain⟨p,q,C0,ad4,rfl,oA,yA⟩:=e5;have du:DataW.TrodAll enc Tryz.prog W 0 (fun _=>true) true Tryz.f8.params.toList args.toList ix p:=C0;have AM:Tryz.f8.params.toList=[27,3,3] :=by kernel_rfl
  have aeL:ix.length=3:=by have:=b0.YW du; rw[AM] at this; simpa using this
  obtain⟨d1,d2,d3,rfl⟩:∃ d1 d2 d3,ix=[d1,d2,d3] :=by
    match ix,aeL with
    | [d1,d2,d3],_=>exact⟨d1,d2,d3,rfl⟩
  obtain⟨rfl,rfl⟩:=trodVars_none ad4;refine (b0.ais Tryz.checked.mixed b0.bn 16 (ts:=Tryz.f8.params.toList) (by rw[AM]; decide +kernel) aio (by rw[AM]; decide +kernel) (by rw[AM]; exact abW) (b0.aip dA)
    (fun j t v aW ap=>AR j t v (by simpa using aW) ap) du).mono fun e e2 ⟨am,aaH,left⟩=>?_
  subst am;exact⟨_,rfl,_,_,_,[],_,[],Gv,trodAll_mk1 (shut_bool Tryz.underlying4 _),left,rfl,aaH.frame _,fun h=>by cases h⟩

theorem abY:Rows.DeliverBehindSaid:=
  OpenClaim.holds_of_wide 8 Tryz.f8 rfl rfl rfl rfl rfl rfl rfl ⟨rfl,rfl,rfl,rfl,rfl⟩ rfl rfl rfl rfl rfl (by kernel_rfl) Tryz.func8 (by kernel_rfl)
    (of_decide_eq_true (by kernel_rfl)) (by unfold Func.isWrapper; first | (rw[if_pos (by decide +kernel)]; kernel_rfl) | (rw[if_neg (by decide +kernel)]; exact⟨rfl,rfl⟩))
    (fun os Oj H enc _=>abX os Oj H enc)

theorem deliverBehind_holds:Rows.DeliverBehindCardSaid:=
  Claim7.holds_tied_plain_at .later [] [.data] true (true,"7896e778c9d2aaf5d167c68fa59bcd97685e87fd210a3b12aaf2ef5c599bd276") false
    abY (fun _ h=>by cases h) (by kernel_rfl) (fun _ h=>by cases h) deliverBehind_row_tie rfl ⟨rfl,rfl⟩ (by kernel_rfl) rfl
    (fun f fn aE il=>by
      obtain rfl:f=8:=Option.some.inj ((show Tryz.prog.funcNamed "braid/braidlaw37.DeliverBehind"=some 8 by kernel_rfl).symm.trans aE) |>.symm;obtain rfl:fn=Tryz.f8:=(Option.some.inj (Tryz.func8.symm.trans il)).symm;exact⟨by kernel_rfl,fun j t aW=>by
        have AM:Tryz.f8.params=#[27,3,3] :=by kernel_rfl
        rw[AM] at aW;have hm:t∈[27,3,3] :=by simpa using Array.mem_of_getElem? aW
        have dV:([27,3,3].all fun u=>!Tryz.prog.wantsStandIn u)=true:=by kernel_rfl
        exact (show Tryz.prog.wantsStandIn t=false by simpa using List.all_eq_true.1 dV t hm)⟩)
    (by kernel_rfl)
#print axioms deliverBehind_holds
end Go.Proofs.YtidejmkknleijaaGreatDoor
