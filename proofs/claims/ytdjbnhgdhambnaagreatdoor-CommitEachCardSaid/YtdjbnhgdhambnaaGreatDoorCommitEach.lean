/-
  Proved: 'CommitEach' returns true for all arguments, where the table that the program lays reads as laid, whatever the tape, the memory and the order that is drawn; the arguments read as they did; the card ties the table to the program's text.
-/
import Derived.Test.YtdjbnhgdhambnaaGreatDoorXo
import Derived.Test.YtdjbnhgdhambnaaGreatDoorRows
import Derived.Test.YtdjbnhgdhambnaaGreatDoorTie
import Derived.Test.YtdjbnhgdhambnaaGreatDoorCards
import Derived.ProofKit
import Derived.LaidMore
import Derived.OpenShut
import Derived.Stop.Joined
import Derived.SevenTiedAt
namespace Go.Proofs.YtdjbnhgdhambnaaGreatDoor
open Go.ChangeShapes Go.WideShapes Go.ChangeAt Go.RowKit
set_option linter.unusedVariables false
set_option linter.unnecessarySimpa false
theorem TF:ownKnob Tryz.prog.godebug=none:=by kernel_rfl
theorem RJ:laidOutB Tryz.prog=true:=by kernel_rfl
abbrev yE:List (String × DataW Unit):=[("braid/digest.constants",Rows.laid_braid_digest_constants)]
theorem Ps (os:Os) (args:Array Value) :laidMetH Tryz.prog yE ((World.doorLaid Tryz.prog 4000 os).forCall (fun _ _=>0) ⟨#[],args,[]⟩).memory:=
  laidMetH_of_parts3 (fuel:=8) (laidMet_of_run' 8 (by kernel_rfl) (by kernel_rfl)) (by kernel_rfl) (by kernel_rfl)
theorem OX (cs:List bf.U) (h:bf.jt Tryz.prog [32,33] cs) :bf.fP Tryz.prog bf.GS 6 cs [] (c:=⟨fun r _=>r=.bool true⟩):=by
  obtain⟨s,_,rfl,m,h1⟩:=bf.Op.W8 h;obtain⟨l,_,rfl,j,g⟩:=bf.Op.W6 h1;rw[bf.W7 g];exact bf.Op.OW s m l j
set_option maxRecDepth 100000 in
theorem OY (os:Os) (DN:os.Started) (z:Type) (enc:TypeId × Value->z) :
    ReturnsInHanded {} Tryz.checked os 6 .any (fun w args=>(Rows.commitEachSpec.pre enc Tryz.prog Tryz.f6 [] false w args/\laidMetH Tryz.prog yE w)/\sizedMet enc Tryz.prog Tryz.f6 (OpenSpec.ofChange Rows.commitEachSpec) false w args)
      (Rows.commitEachSpec.post enc Tryz.prog Tryz.f6 false true false false):=by
  refine returnsInHanded_of_change_and (C:=Tryz.checked) (X:=fun w _=>laidMetH Tryz.prog yE w) (fun _ _ _ K h=>h.of_heap K) TF DN (by kernel_rfl) Tryz.func6
    (ChangeSpec.witness_shaped (enc:=enc) (C:=Tryz.checked) (os:=os) (X:=fun w _=>laidMetH Tryz.prog yE w) false (World.doorLaid Tryz.prog 4000 os) #[.agg #[.int .i64 0,.slice none 0 0,.slice none 0 0,.int .i64 0,.slice none 0 0,.int .i64 0,.slice none 0 0,.int .i64 0,.bool false],.slice none 0 0] 8 rfl (World.shaped_of_RefB (by kernel_rfl) (by kernel_rfl)) (by kernel_rfl) (by kernel_rfl) (by kernel_rfl) (Ps os _)) ?_
  intro W base args g gs T R u _ _ F _;have Q:∀ (m:Nat) o v,Tryz.f6.params[m]?=some o->args[m]?=some v->Value.okWide Tryz.prog W .any base o v:=R;have H:=u;obtain⟨p,q,D,G,rfl,U,V⟩:=u;have t:DataW.TrodAll enc Tryz.prog W 0 (fun _=>true) true Tryz.f6.params.toList args.toList g p:=D;have j:Tryz.f6.params.toList=[32,33]:=by kernel_rfl
  have I:g.length=2:=by have:=bf.Ln t;rw[j] at this;simpa using this
  obtain⟨d1,d2,rfl⟩:∃ d1 d2,g=[d1,d2]:=by
    match g,I with
    | [d1,d2],_=>exact⟨d1,d2,rfl⟩
  obtain⟨rfl,rfl⟩:=trodVars_none G;refine (bf.RM Tryz.checked.mixed bf.ed 24 (ts:=Tryz.f6.params.toList) (by rw[j];decide +kernel) RJ (by rw[j];decide +kernel) (by rw[j];exact OX) (bf.RK F)
    (fun m o v O P=>Q m o v (by simpa using O) P) t).mono fun e S ⟨J,B,left⟩=>?_
  subst J;exact⟨_,rfl,_,_,_,[],_,[],H,trodAll_mk1 (shut_bool Tryz.underlying4 _),left,rfl,B.frame _,fun h=>by cases h⟩
set_option maxHeartbeats 64000000 in
theorem OZ:Rows.CommitEachSaid:=
  OpenClaim.holds_of_wide 6 Tryz.f6 rfl rfl rfl rfl rfl rfl rfl ⟨rfl,rfl,rfl,rfl,rfl⟩ rfl rfl rfl rfl rfl (by kernel_rfl) Tryz.func6 (by unfold joinedFacts;(repeat' with_reducible refine Bool.and_eq_true_iff.2 ⟨?_,?_⟩);all_goals decide +kernel)
    (of_decide_eq_true (by kernel_rfl)) (by unfold Func.isWrapper;first | (rw[if_pos (by decide +kernel)];kernel_rfl) | (rw[if_neg (by decide +kernel)];exact⟨rfl,rfl⟩))
    (fun j DN g h _=>OY j DN g h)
theorem commitEach_holds:Rows.CommitEachCardSaid:=
  Claim7.holds_tied_plain_at .later [] [.data] true (true,"460a1bf21ab365d8b34b59d9a489baedc9787b42bd0061ed2cfb25e1dc925766") false
    OZ (fun _ h=>by cases h) (by kernel_rfl) (fun _ h=>by cases h) commitEach_row_tie rfl ⟨rfl,rfl⟩ (by kernel_rfl) rfl
    (fun f fn o p=>by
      obtain rfl:f=6:=Option.some.inj ((show Tryz.prog.funcNamed "braid/braidlaw19.CommitEach"=some 6 by kernel_rfl).symm.trans o) |>.symm;obtain rfl:fn=Tryz.f6:=(Option.some.inj (Tryz.func6.symm.trans p)).symm;exact⟨by kernel_rfl,fun v g j=>by
        have t:Tryz.f6.params=#[32,33]:=by kernel_rfl
        rw[t] at j;have q:g∈[32,33]:=by simpa using Array.mem_of_getElem? j
        have m:([32,33].all fun u=>!Tryz.prog.wantsStandIn u)=true:=by kernel_rfl
        exact (show Tryz.prog.wantsStandIn g=false by simpa using List.all_eq_true.1 m g q)⟩)
    (by kernel_rfl)
#print axioms commitEach_holds
end Go.Proofs.YtdjbnhgdhambnaaGreatDoor
