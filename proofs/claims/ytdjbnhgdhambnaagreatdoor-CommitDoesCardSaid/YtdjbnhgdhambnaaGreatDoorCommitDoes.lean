/-
  Proved: 'CommitDoes' returns true for all arguments, where the table that the program lays reads as laid, whatever the tape, the memory and the order that is drawn; the arguments read as they did; the card ties the table to the program's text.
-/
import Derived.Test.YtdjbnhgdhambnaaGreatDoorVp
import Derived.Test.YtdjbnhgdhambnaaGreatDoorRows
import Derived.Test.YtdjbnhgdhambnaaGreatDoorTie
import Derived.Test.YtdjbnhgdhambnaaGreatDoorCards
import Derived.ProofKit
import Derived.LaidMore
import Derived.OpenShut
import Derived.Stop.Joined
import Derived.SevenTiedAt
namespace Go.Proofs.YtdjbnhgdhambnaaGreatDoor
open Go.ChangeShapes Go.WideShapes Go.ChangeAt Go.RowKit
set_option linter.unusedVariables false
set_option linter.unnecessarySimpa false
theorem UP:ownKnob Tryz.prog.godebug=none:=by kernel_rfl
theorem SG:laidOutB Tryz.prog=true:=by kernel_rfl
abbrev zg:List (String × DataW Unit):=[("braid/digest.constants",Rows.laid_braid_digest_constants)]
theorem Qq (os:Os) (args:Array Value) :laidMetH Tryz.prog zg ((World.doorLaid Tryz.prog 4000 os).forCall (fun _ _=>0) ⟨#[],args,[]⟩).memory:=
  laidMetH_of_parts3 (fuel:=8) (laidMet_of_run' 8 (by kernel_rfl) (by kernel_rfl)) (by kernel_rfl) (by kernel_rfl)
theorem PN (cs:List bh.U) (h:bh.jb Tryz.prog [3,3,3,32,59] cs) :bh.fR Tryz.prog bh.GS 4 cs [] (c:=⟨fun r _=>r=.bool true⟩):=by
  obtain⟨n,_,rfl,_,_,h1⟩:=bh.E1 h;obtain⟨u,_,rfl,_,_,g⟩:=bh.E1 h1;obtain⟨w,_,rfl,_,_,j⟩:=bh.E1 g;obtain⟨s,_,rfl,q,m⟩:=bh.Op.Yr j;obtain⟨t,_,rfl,p,o⟩:=bh.Op.Yp m;rw[bh.Yq o];exact bh.Op.PM n u w s q t p
set_option maxRecDepth 100000 in
theorem PO (os:Os) (EG:os.Started) (z:Type) (enc:TypeId × Value->z) :
    ReturnsInHanded {} Tryz.checked os 4 .any (fun w args=>(Rows.commitDoesSpec.pre enc Tryz.prog Tryz.f4 [] false w args/\laidMetH Tryz.prog zg w)/\sizedMet enc Tryz.prog Tryz.f4 (OpenSpec.ofChange Rows.commitDoesSpec) false w args)
      (Rows.commitDoesSpec.post enc Tryz.prog Tryz.f4 false true false false):=by
  refine returnsInHanded_of_change_and (C:=Tryz.checked) (X:=fun w _=>laidMetH Tryz.prog zg w) (fun _ _ _ K h=>h.of_heap K) UP EG (by kernel_rfl) Tryz.func4
    (ChangeSpec.witness_shaped (enc:=enc) (C:=Tryz.checked) (os:=os) (X:=fun w _=>laidMetH Tryz.prog zg w) false (World.doorLaid Tryz.prog 4000 os) #[.int .i64 0,.int .i64 0,.int .i64 0,.agg #[.int .i64 0,.slice none 0 0,.slice none 0 0,.int .i64 0,.slice none 0 0,.int .i64 0,.slice none 0 0,.int .i64 0,.bool false],.agg (#[.int .i64 0,.int .u8 0,.int .u32 0,.slice none 0 0,.int .u64 0,.int .u8 0,.string ⟨#[]⟩,.int .u8 0,.int .i64 0,.int .u64 0,.string ⟨#[]⟩,.int .u32 0,.int .u32 0]++Array.replicate 32 (.int .u8 0))] 8 rfl (World.shaped_of_RefB (by kernel_rfl) (by kernel_rfl)) (by kernel_rfl) (by kernel_rfl) (by kernel_rfl) (Qq os _)) ?_
  intro W base args g gs T R u _ _ F _;have Q:∀ (m:Nat) o v,Tryz.f4.params[m]?=some o->args[m]?=some v->Value.okWide Tryz.prog W .any base o v:=R;have H:=u;obtain⟨p,q,D,G,rfl,U,V⟩:=u;have t:DataW.TrodAll enc Tryz.prog W 0 (fun _=>true) true Tryz.f4.params.toList args.toList g p:=D;have j:Tryz.f4.params.toList=[3,3,3,32,59]:=by kernel_rfl
  have I:g.length=5:=by have:=bh.Me t;rw[j] at this;simpa using this
  obtain⟨d1,d2,d3,d4,d5,rfl⟩:∃ d1 d2 d3 d4 d5,g=[d1,d2,d3,d4,d5]:=by
    match g,I with
    | [d1,d2,d3,d4,d5],_=>exact⟨d1,d2,d3,d4,d5,rfl⟩
  obtain⟨rfl,rfl⟩:=trodVars_none G;refine (bh.SJ Tryz.checked.mixed bh.eD 24 (ts:=Tryz.f4.params.toList) (by rw[j];decide +kernel) SG (by rw[j];decide +kernel) (by rw[j];exact PN) (bh.SH F)
    (fun m o v O P=>Q m o v (by simpa using O) P) t).mono fun e S ⟨J,B,left⟩=>?_
  subst J;exact⟨_,rfl,_,_,_,[],_,[],H,trodAll_mk1 (shut_bool Tryz.underlying4 _),left,rfl,B.frame _,fun h=>by cases h⟩
set_option maxHeartbeats 64000000 in
theorem PP:Rows.CommitDoesSaid:=
  OpenClaim.holds_of_wide 4 Tryz.f4 rfl rfl rfl rfl rfl rfl rfl ⟨rfl,rfl,rfl,rfl,rfl⟩ rfl rfl rfl rfl rfl (by kernel_rfl) Tryz.func4 (by unfold joinedFacts;(repeat' with_reducible refine Bool.and_eq_true_iff.2 ⟨?_,?_⟩);all_goals decide +kernel)
    (of_decide_eq_true (by kernel_rfl)) (by unfold Func.isWrapper;first | (rw[if_pos (by decide +kernel)];kernel_rfl) | (rw[if_neg (by decide +kernel)];exact⟨rfl,rfl⟩))
    (fun j EG g h _=>PO j EG g h)
theorem commitDoes_holds:Rows.CommitDoesCardSaid:=
  Claim7.holds_tied_plain_at .later [] [.data] true (true,"460a1bf21ab365d8b34b59d9a489baedc9787b42bd0061ed2cfb25e1dc925766") false
    PP (fun _ h=>by cases h) (by kernel_rfl) (fun _ h=>by cases h) commitDoes_row_tie rfl ⟨rfl,rfl⟩ (by kernel_rfl) rfl
    (fun f fn o p=>by
      obtain rfl:f=4:=Option.some.inj ((show Tryz.prog.funcNamed "braid/braidlaw19.CommitDoes"=some 4 by kernel_rfl).symm.trans o) |>.symm;obtain rfl:fn=Tryz.f4:=(Option.some.inj (Tryz.func4.symm.trans p)).symm;exact⟨by kernel_rfl,fun v g j=>by
        have t:Tryz.f4.params=#[3,3,3,32,59]:=by kernel_rfl
        rw[t] at j;have q:g∈[3,3,3,32,59]:=by simpa using Array.mem_of_getElem? j
        have m:([3,3,3,32,59].all fun u=>!Tryz.prog.wantsStandIn u)=true:=by kernel_rfl
        exact (show Tryz.prog.wantsStandIn g=false by simpa using List.all_eq_true.1 m g q)⟩)
    (by kernel_rfl)
#print axioms commitDoes_holds
end Go.Proofs.YtdjbnhgdhambnaaGreatDoor
