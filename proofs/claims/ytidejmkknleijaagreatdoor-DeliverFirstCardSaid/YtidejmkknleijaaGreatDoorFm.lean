/-
  The graph of a store, in the program, walked.
-/
import Derived.Test.YtidejmkknleijaaGreatDoorFl
set_option linter.unusedVariables false
set_option linter.unusedSimpArgs false
set_option linter.unnecessarySimpa false
namespace Go.bY
open Go Go.Proofs
set_option maxRecDepth 100000
namespace Op
open hl
set_option maxHeartbeats 16000000 in
theorem akq (s:fk) (ak:uJ s) :bA Tryz.prog GS 66 [.aG (dJ s)] (uw s) :=by
 refine bW Tryz.checked.mixed bl ?_;apply bq Tryz.func66 [];have bS:(dJ s).length=5:=rfl;have ng:(List.drop 1 (dJ s)).take 3=dD s.dR:=rfl;have FU:(dJ s).tail.take 3=dD s.dR:=rfl;have fH:∀ h,(dJ s)[0]'h=.int .i64 s.cap:=fun _=>rfl
 have CA:∀ h,(dJ s)[3]'h=.int .i64 s.dR.dW:=fun _=>rfl
 have n2:∀ h,(dJ s)[4]'h=aD s.order:=fun _=>rfl
 have zS:(dJ s)[0]? = some (.int .i64 s.cap) :=rfl;have n3:(dJ s)[3]? = some (.int .i64 s.dR.dW) :=rfl;have xC:(dJ s)[4]? = some (aD s.order) :=rfl;have cV:cv (.aq 32) (aD s.order)=some (.int .i64 s.order.l.length) :=by simp[aD]
 have ha:=BQ s.dR;have aW:=ama s.dR ak.dR;by_cases vK:mo s.dR
 ·rw[YB vK] at aW;have iC:g8 (eL (e8 s.dR)) :=EN ak.dR;have V:=AL vK.fb;have tG:=FN (e8 s.dR);obtain⟨g,aw⟩:∃ g,g=eL (e8 s.dR) :=⟨_,rfl⟩
  rw[<-aw] at aW iC V tG;have eQ:=nU g.ids;have eG:=u6 g.ops;have cT:cv (.aq 32) (aD g.ids)=some (.int .i64 g.ids.l.length) :=by simp[aD]
  unfold c4 bX at aW;simp[bS,ng,FU];refine a4 aW (by simp[a5,U.closed,ha]) ?_;have oh:=vK.EK;rw[<-tG] at oh;by_cases ad:s.cap<1
  ·have cU:¬ rS s:=fun h=>by have:=h.b0; omega
   rw[A6 cU];simp[eQ,eG,bg,bS,fH,ad];exact aP rfl rfl
  ·by_cases ae:40<s.cap
   ·have cU:¬ rS s:=fun h=>by have:=h.aae; omega
    rw[A6 cU];simp[eQ,eG,bg,bS,fH,ad,ae];exact aP rfl rfl
   ·by_cases aj:s.cap<s.dR.dW
    ·have cU:¬ rS s:=fun h=>by have:=h.EK; omega
     rw[A6 cU];simp[eQ,eG,bg,bS,fH,CA,ad,ae,aj];exact aP rfl rfl
    ·by_cases aF:s.order.l.length=g.ids.l.length
     ·have c6:∀ b:Bool,(ru g s.order.l=b)->uw s=if b=true then .bv [.aG [aD g.ids,bC g.ops],.int .i64 0] else .bv [.aG [.aH,.aH],.int .i64 8] :=fun b af=>by
       cases b with
       | true=>
        have LM:rS s:=⟨by omega,by omega,vK,by omega,by rw[oh]; congr 1,by rw[<-aw]; exact af⟩
        rw[akE LM,aw]; rfl
       | false=>
        have cU:¬ rS s:=fun h=>by have:=h.ord; rw[<-aw,af] at this; cases this
        rw[A6 cU]; rfl
      have h5:∀ i,i<s.order.l.length->o3 g s.order.l i=false->uw s=.bv [.aG [.aH,.aH],.int .i64 8] :=fun i az aE=>by
       refine c6 false ?_;unfold ru;exact decide_eq_false fun h=>by have:=h i az; rw[aE] at this; cases this
      have dL:(∀ j,j<s.order.l.length->o3 g s.order.l j=true)->uw s=.bv [.aG [aD g.ids,bC g.ops],.int .i64 0] :=fun h=>c6 true (decide_eq_true h)
      simp[eQ,eG,bg,bS,fH,CA,n2,ad,ae,aj,cV,cT,aF];refine cB s.order.l.length (fun i σ l=>σ 1=.ptr 0 0 5/\σ 2=.ptr 1 0 2/\σ 4=.ptr 2 0 2/\σ 48=aD s.order/\σ 49=.int .i64 s.order.l.length/\σ 50=.int .i64 i/\l[0]? = some (.cells 5 (dJ s))/\l[1]? = some (.cells 2 [.aH,.aH])/\l[2]? = some (.cells 2 [aD g.ids,bC g.ops])/\∀ j,j<i->o3 g s.order.l j=true) ?_ ⟨by simp,by simp,by simp,by simp,by simp[aF],by simp,rfl,rfl,rfl,fun j ai=>by omega⟩;rintro i σ l az ⟨aO,aT,bi,Sb,zH,zI,cE,q1,db,jL⟩;obtain⟨σ,rfl⟩:=wL aO aT bi Sb zH zI;clear aO aT bi Sb zH zI;have cU:=ak.no;have aQ:IntKind.i64.wrap ((i:Int)+1)=((i+1:Nat) :Int) :=by rw[IntKind.wrap_i64]; omega
      by_cases dS:i<s.order.l.length
      ·obtain⟨x,ag,dp⟩:=bP dS;have fY:=ak.order x dp;have bn:=de fY;have fK:=gK x;have dP:=yb ag;have afq:fF (.aq 32) (aD s.order) none (some (.int .i64 (i:Int))) (some (.int .i64 (i:Int)))=some (aD (gw s.order i)) :=alc (by omega);have GM:eu (gw s.order i) :=fun z ax=>ak.order z (by rw[ll] at ax; exact atw ax)
       have SK:(gw s.order i).l.length<=1000000:=by rw[ll,ati]; omega
       have lL:=Xp g.ids iC.ids iC.li x fY V.dA;have cZ:=It (gw s.order i) GM SK x fY;rw[ll] at cZ;have fW:=dw g.ids;have CN:=dw (gw s.order i);have mt:=nU (gw s.order i);have c0:o3 g s.order.l i=(decide (x∈g.ids.l)&&(!decide (x∈s.order.l.take i)&&mr (s.order.l.take i) (eR g.ops.l (he x g.ids.l 0).toNat))) :=by unfold o3; rw[fB ag]
       obtain⟨X,cM⟩:∃ X,X=a1 x:=⟨_,rfl⟩
       rw[<-cM] at bn fK dP lL cZ;have hp:X.take 32=X:=as1 (by omega);have iE:bg (rep 32 (.int .u8 0)) 0 X=X:=hu (by rw[bn]; rfl);have lZ:∀ m:ao,(l++m)[0]? = some (.cells 5 (dJ s)) :=fun m=>by rw[as2 (cp cE)]; exact cE
       have gA:∀ m:ao,(l++m)[1]? = some (.cells 2 [.aH,.aH]) :=fun m=>by rw[as2 (cp q1)]; exact q1
       have fU:∀ m:ao,(l++m)[2]? = some (.cells 2 [aD g.ids,bC g.ops]) :=fun m=>by rw[as2 (cp db)]; exact db
       have ES:∀ (m:ao) (h:0<(l++m).length),(l++m)[0]'h=.cells 5 (dJ s) :=fun m h=>(as0.1 (lZ m)).2
       have YN:∀ (m:ao) (h:1<(l++m).length),(l++m)[1]'h=.cells 2 [.aH,.aH] :=fun m h=>(as0.1 (gA m)).2
       have iP:∀ (m:ao) (c:aY),((l++m).set 1 c)[1]? = some c:=fun m c=>atj (cp (gA m))
       simp[dS,dP,bn,hp,iE,lZ,ES,bS,xC,n2,afq,mt,fU];refine a4 lL (by simp[a5,U.closed,fW,fK]) ?_;by_cases hm:x∈g.ids.l
       ·obtain⟨a,aB⟩:=atc.1 hm;have qR:=Js V.dA aB;have hT:=(as0.1 aB).1;obtain⟨o,au,eF⟩:=bP (l:=g.ops.l) (k:=a) (by rw[<-V.len]; exact (as0.1 aB).1);have mL:=iC.ops o eF;have ob:=Uu au;have Kp:=Hh (vS V.dA) aB;rw[decide_eq_true hm,Kp,atD,AQ au,aus] at c0;simp[hm,qR,bn,hp];refine a4 cZ (by simp[a5,U.closed,CN,fK]) ?_;by_cases bu:x∈s.order.l.take i
        ·rw[decide_eq_true bu] at c0;rw[h5 i dS (by rw[c0]; rfl)];simp[bu,gA,YN,iP,bg];exact aP rfl rfl
        ·rw[decide_eq_false bu] at c0;have n1:(a9 o)[1]? = some (aD o.bh) :=rfl;have ju:∀ h,(a9 o)[1]'h=aD o.bh:=fun _=>rfl
         have oO:(a9 o).length=11:=rfl;obtain⟨L,eV⟩:∃ L,L=l++[aY.cells 32 X,aY.cells 1 [aD (gw s.order i)]] :=⟨_,rfl⟩
         have amr:L[l.length+1]? = some (.cells 1 [aD (gw s.order i)]) :=by rw[eV]; simp
         have iB:=abm (gw s.order i) GM SK amr o.bh.l mL.ids;have w2:L[2]? = some (.cells 2 [aD g.ids,bC g.ops]) :=by rw[eV]; exact fU _
         have bL:L[1]? = some (.cells 2 [.aH,.aH]) :=by rw[eV]; exact gA _
         have gQ:L[0]? = some (.cells 5 (dJ s)) :=by rw[eV]; exact lZ _
         simp[bu,fU,w2,ob,n1,ju,oO,<-eV];refine Rl o.bh mL.ids mL.len (by kernel_rfl) iB fun bo am=>?_
         have qa:bo[0]? = some (.cells 5 (dJ s)) :=by rw[am.2 0 (cp gQ)]; exact gQ
         have c7:bo[1]? = some (.cells 2 [.aH,.aH]) :=by rw[am.2 1 (cp bL)]; exact bL
         have dU:bo[2]? = some (.cells 2 [aD g.ids,bC g.ops]) :=by rw[am.2 2 (cp w2)]; exact w2
         have gY:(o.bh.l.any fun p=>!decide (p∈(gw s.order i).l))=!mr (s.order.l.take i) o.bh.l:=by
          rw[ll,avx,auM,auE];unfold mr;rw[decide_eq_false_iff_not];constructor
          ·rintro⟨p,av,aC⟩ h; have:=h p av; simp[this] at aC
          ·intro h;refine Classical.byContradiction fun cU=>h fun p av=>Classical.byContradiction fun aC=>cU ⟨p,av,by simp[aC]⟩
         rw[gY];cases cL:mr (s.order.l.take i) o.bh.l with
         | true=>
          rw[cL] at c0;simp[aQ];refine⟨dS,qa,c7,dU,fun j ai=>?_⟩;by_cases jw:j=i
          ·rw[jw,c0]; rfl
          ·exact jL j (by omega)
         | false=>
          rw[cL] at c0;rw[h5 i dS (by rw[c0]; rfl)];have qb:∀ c:aY,(bo.set 1 c)[1]? = some c:=fun c=>atj (cp c7)
          simp[c7,qb,bg];exact aP rfl rfl
       ·rw[decide_eq_false hm,avl] at c0;rw[h5 i dS c0];simp[hm,gA,YN,iP,bg];exact aP rfl rfl
      ·have cZ:i=s.order.l.length:=by omega
       subst cZ;rw[dL fun j ai=>jL j ai];have iP:∀ c:aY,(l.set 1 c)[1]? = some c:=fun c=>atj (cp q1)
       simp[db,q1,iP,eQ,eG,bg];exact aP rfl (by have ad:=dw g.ids; have ae:=lz g.ops; simp[U.closed,a5,ad,ae])
     ·have cU:¬ rS s:=fun h=>by have:=h.le; rw[oh] at this; exact aF (by omega)
      have vo:¬ (s.order.l.length:Int)=g.ids.l.length:=by omega
      rw[A6 cU];simp[eQ,eG,bg,bS,fH,CA,n2,ad,ae,aj,cV,cT,aF,vo];exact aP rfl rfl
 ·have cU:¬ rS s:=fun h=>vK h.dR
  rw[wW vK] at aW;rw[A6 cU];simp[bS,ng,FU];refine a4 aW (by simp[a5,U.closed,ha]) ?_;simp[bg];exact aP rfl rfl
theorem akp (s:fk) (ak:uJ s) :bA Tryz.prog GS 60 [.aG (dJ s)] (.int .i64 (hI s)) :=by
 refine bW Tryz.checked.mixed bl ?_;apply bq Tryz.func60 [];have bS:(dJ s).length=5:=rfl;have hb:(dJ s).take 5=dJ s:=rfl;have ha:=xh s;have aW:=akq s ak;have LK:uw s=.bv [.aG [aD (yG s).ids,bC (yG s).ops],.int .i64 (hI s)] :=rfl;rw[LK] at aW;have eQ:=nU (yG s).ids;have eG:=u6 (yG s).ops;simp[bS,hb];refine a4 aW (by simp[a5,U.closed,ha]) ?_;simp[eQ,eG,bg];exact aP rfl rfl
structure gS where
 ep:Int
 ids:dr
 AB:Bool
def dO (d:gS) :List U:=[.int .i64 d.ep,aD d.ids,.bool d.AB]
structure w5 (d:gS) :Prop where
 ids:eu d.ids
 ah3:d.ids.l.length<=1000
theorem zi (d:gS) :a5 (dO d)=true:=by simp[dO,a5,U.closed,dw]
def pA (d:gS) :Int:=if d.ep<0\/60<d.ep then 2 else if 60<d.ids.l.length then 4 else 0
noncomputable def i6 (s:fk) (d:gS) :Int:=if hI s=0 then pA d else hI s
def oF (o ids:List (List B)) (n i:Nat) :Bool:=!decide (o[n+i]? = some (bT ids i))
def nZ (o ids:List (List B)) (n:Nat) :Option Nat:=(List.range ids.length).find? (oF o ids n)
theorem R0 {o ids:List (List B)} {n i:Nat} (az:i<ids.length) (h:oF o ids n i=true) (af:∀ j,j<i->oF o ids n j=false) :nZ o ids n=some i:=by
 unfold nZ;rw[avi];exact⟨h,atA.2 az,fun j ai=>by rw[af j ai]; rfl⟩
theorem R1 {o ids:List (List B)} {n:Nat} (af:∀ j,j<ids.length->oF o ids n j=false) :nZ o ids n=none:=by
 unfold nZ;rw[avW];exact fun j ai=>by rw[af j ai]; rfl
def wX (s:fk) (d:gS) :Int:=if (s.order.l.length:Int)<d.ep+d.ids.l.length\/(d.AB=true/\d.ep+d.ids.l.length=(s.order.l.length:Int)) then d.ids.l.length else -1
def ij (s:fk) (d:gS) :Int:=match nZ s.order.l d.ids.l d.ep.toNat with | some i=>i | none=>wX s d
theorem Iz {s:fk} {d:gS} {i:Nat} (h:nZ s.order.l d.ids.l d.ep.toNat=some i) :ij s d=i:=by unfold ij; rw[h]
theorem IA {s:fk} {d:gS} (h:nZ s.order.l d.ids.l d.ep.toNat=none) :ij s d=wX s d:=by unfold ij; rw[h]
theorem JB {d:gS} (h:pA d=0) :0<=d.ep/\d.ep<=60/\d.ids.l.length<=60:=by
 unfold pA at h;split at h
 ·cases h
 ·split at h
  ·cases h
  ·rename_i ad ae;omega
theorem aaT (d:gS) :bA Tryz.prog GS 19 [.aG (dO d)] (.int .i64 (pA d)) :=by
 refine bW Tryz.checked.mixed bl ?_;apply bq Tryz.func19 [];have cT:cv (.aq 32) (aD d.ids)=some (.int .i64 d.ids.l.length) :=by simp[aD]
 unfold pA;by_cases ad:d.ep<0
 ·simp[dO,ad]; exact aP rfl rfl
 ·by_cases ae:60<d.ep
  ·simp[dO,ad,ae]; exact aP rfl rfl
  ·by_cases aj:60<d.ids.l.length
   ·have mC:(60:Int)<d.ids.l.length:=by omega
    simp[dO,ad,ae,cT,aj,mC]; exact aP rfl rfl
   ·have mC:¬ (60:Int)<d.ids.l.length:=by omega
    simp[dO,ad,ae,cT,aj,mC]; exact aP rfl rfl
theorem WJ (d:gS) :bA Tryz.prog GS 20 [.aG (dO d)] (.int .i64 (pA d)) :=by
 refine bW Tryz.checked.mixed bl ?_;apply bq Tryz.func20 [];have cT:cv (.aq 32) (aD d.ids)=some (.int .i64 d.ids.l.length) :=by simp[aD]
 unfold pA;by_cases ad:d.ep<0
 ·simp[dO,ad]; exact aP rfl rfl
 ·by_cases ae:60<d.ep
  ·simp[dO,ad,ae]; exact aP rfl rfl
  ·by_cases aj:60<d.ids.l.length
   ·have mC:(60:Int)<d.ids.l.length:=by omega
    simp[dO,ad,ae,cT,aj,mC]; exact aP rfl rfl
   ·have mC:¬ (60:Int)<d.ids.l.length:=by omega
    simp[dO,ad,ae,cT,aj,mC]; exact aP rfl rfl
theorem ZI {o ids:List (List B)} {n i:Nat} {x y:List B} (ag:ids[i]? = some x) (aJ:o[n+i]? = some y) :oF o ids n i=!decide (y=x) :=by
 unfold oF;rw[fB ag,aJ,avx,auE,auE,decide_eq_false_iff_not,decide_eq_false_iff_not,Option.some.injEq]
theorem O4 {o ids:List (List B)} {n i:Nat} (h:o.length<=n+i) :oF o ids n i=true:=by
 unfold oF;rw[atd h]; rfl
noncomputable def xc (s:fk) (d:gS) :U:=if i6 s d=0 then .bv [.int .i64 (if 0<=ij s d then ij s d else 0),.bool (decide (0<=ij s d)),.int .i64 0] else .bv [.int .i64 0,.bool false,.int .i64 (i6 s d)]
theorem E5 {s:fk} {d:gS} {e:Int} (h:i6 s d=e) (aI:e≠0) :xc s d=.bv [.int .i64 0,.bool false,.int .i64 e] :=by unfold xc; rw[h,if_neg aI]
theorem y3 {s:fk} {d:gS} {n:Nat} (h:i6 s d=0) (aI:ij s d=n) :xc s d=.bv [.int .i64 n,.bool true,.int .i64 0] :=by
 unfold xc; rw[if_pos h,aI,if_pos (by omega),decide_eq_true (by omega)]
theorem E6 {s:fk} {d:gS} (h:i6 s d=0) (aI:ij s d=-1) :xc s d=.bv [.int .i64 0,.bool false,.int .i64 0] :=by
 unfold xc; rw[if_pos h,aI]; rfl
set_option maxHeartbeats 16000000 in
theorem OB (s:fk) (ak:uJ s) (d:gS) (bb:w5 d) :bA Tryz.prog GS 43 [.aG (dJ s),.aG (dO d)] (xc s d) :=by
 refine bW Tryz.checked.mixed bl ?_;apply bq Tryz.func43 [];have cU:=ak.no;have xZ:=bb.ah3;have cV:cv (.aq 32) (aD s.order)=some (.int .i64 s.order.l.length) :=by simp[aD]
 have cT:cv (.aq 32) (aD d.ids)=some (.int .i64 d.ids.l.length) :=by simp[aD]
 have bS:(dJ s).length=5:=rfl;have hb:(dJ s).take 5=dJ s:=rfl;have ha:=xh s;have e3:(dO d).length=3:=rfl;have lD:(dO d).take 3=dO d:=rfl;have n0:=zi d;have xC:(dJ s)[4]? = some (aD s.order) :=rfl;have n2:∀ h,(dJ s)[4]'h=aD s.order:=fun _=>rfl
 have oM:∀ h,(dO d)[0]'h=.int .i64 d.ep:=fun _=>rfl
 have nd:∀ h,(dO d)[1]'h=aD d.ids:=fun _=>rfl
 have Cr:∀ h,(dO d)[2]'h=.bool d.AB:=fun _=>rfl
 have oN:(dO d)[0]? = some (.int .i64 d.ep) :=rfl;have ju:(dO d)[1]? = some (aD d.ids) :=rfl;have zO:(dO d)[2]? = some (.bool d.AB) :=rfl;have aW:=akp s ak;have ar:=aaT d;by_cases aI:hI s=0
 ·by_cases ax:pA d=0
  ·have aB:i6 s d=0:=by unfold i6; rw[if_pos aI]; exact ax
   obtain⟨gA,fU,uG⟩:=JB ax;obtain⟨n,aC⟩:∃ n:Nat,d.ep=(n:Int) :=⟨d.ep.toNat,by omega⟩
   have Uj:∀ i,nZ s.order.l d.ids.l n=some i->ij s d=i:=fun i h=>Iz (by rw[aC,atD]; exact h)
   have LJ:nZ s.order.l d.ids.l n=none->ij s d=wX s d:=fun h=>IA (by rw[aC,atD]; exact h)
   have afJ:wX s d=if (s.order.l.length:Int)<(n:Int)+d.ids.l.length\/(d.AB=true/\(n:Int)+d.ids.l.length=(s.order.l.length:Int)) then (d.ids.l.length:Int) else -1:=by unfold wX; rw[aC]
   obtain⟨m,hm⟩:∃ m,m=min n s.order.l.length:=⟨_,rfl⟩
   have K1:min (n:Int) (s.order.l.length:Int)=(m:Int) :=by omega
   have k6:sA (.int .i64 (n:Int)) (.int .i64 (s.order.l.length:Int))=some (.int .i64 (m:Int)) :=by
    unfold sA;simp[K1];omega
   have jK:fF (.aq 32) (aD s.order) (some (.int .i64 (m:Int))) none none=some (aD (qg s.order m)) :=XV (by omega);have Cz:(qg s.order m).l.length=s.order.l.length - m:=by rw[EB,at7]
   have SG:∀ i,(qg s.order m).l[i]? = s.order.l[n+i]?:=fun i=>by
    rw[EB,atH];by_cases h:n<=s.order.l.length
    ·rw[hm,auy h]
    ·rw[atd (by omega),atd (by omega)]
   obtain⟨R,iW⟩:∃ R,R=qg s.order m:=⟨_,rfl⟩
   rw[<-iW] at jK Cz SG;have acV:eu R:=fun x ag=>by rw[iW,EB] at ag; exact ak.order x (au1 ag)
   have GG:cv (.aq 32) (aD R)=some (.int .i64 R.l.length) :=by simp[aD]
   simp[bS,hb];refine a4 aW (by simp[a5,U.closed,ha]) ?_;simp[aI,e3,lD];refine a4 ar (by simp[a5,U.closed,n0]) ?_;simp[ax,bS,xC,n2,e3,oM,nd,oN,ju,aC,cV,cT,k6,jK];refine cB d.ids.l.length (fun i σ l=>σ 2=.ptr 0 0 5/\σ 3=.ptr 1 0 3/\σ 9=aD R/\σ 32=aD d.ids/\σ 33=.int .i64 d.ids.l.length/\σ 34=.int .i64 i/\l[0]? = some (.cells 5 (dJ s))/\l[1]? = some (.cells 3 (dO d))/\∀ j,j<i->oF s.order.l d.ids.l n j=false) ?_ ⟨by simp,by simp,by simp,by simp,by simp,by simp,rfl,rfl,fun j ai=>by omega⟩;rintro i σ l az ⟨aT,aZ,h3,R9,qL,qM,cE,q1,jL⟩;obtain⟨σ,rfl⟩:=wL aT aZ h3 R9 qL qM;clear aT aZ h3 R9 qL qM;have aQ:IntKind.i64.wrap ((i:Int)+1)=((i+1:Nat) :Int) :=by rw[IntKind.wrap_i64]; omega
   by_cases dS:i<d.ids.l.length
   ·obtain⟨x,ag,dp⟩:=bP dS;have fY:=bb.ids x dp;have bn:=de fY;have dP:=yb ag;obtain⟨X,cM⟩:∃ X,X=a1 x:=⟨_,rfl⟩
    rw[<-cM] at bn dP;have hp:X.take 32=X:=as1 (by omega);have iE:bg (rep 32 (.int .u8 0)) 0 X=X:=hu (by rw[bn]; rfl);have gQ:∀ c:aY,(l++[c])[0]? = some (.cells 5 (dJ s)) :=fun c=>by rw[as2 (cp cE)]; exact cE
    have bL:∀ c:aY,(l++[c])[1]? = some (.cells 3 (dO d)) :=fun c=>by rw[as2 (cp q1)]; exact q1
    by_cases au:i<R.l.length
    ·obtain⟨y,aJ,er⟩:=bP au;have afO:s.order.l[n+i]? = some y:=by rw[<-SG]; exact aJ
     have vM:=acV y er;have fA:=de vM;have nm:=yb aJ;have bV:=yc vM fY;have tw:=ZI ag afO;have dE:¬ R.l.length<=i:=by omega
     obtain⟨Y,gX⟩:∃ Y,Y=a1 y:=⟨_,rfl⟩
     rw[<-gX] at fA nm bV;rw[<-cM] at bV;have F0:Y.take 32=Y:=as1 (by omega);simp[dS,dP,bn,hp,iE,GG,dE,nm,fA,F0,bV];by_cases lO:y=x
     ·rw[decide_eq_true lO] at tw;simp[lO,aQ];refine⟨dS,(as0.1 (gQ _)).2,bL _,fun j ai=>?_⟩;by_cases jw:j=i
      ·rw[jw,tw]; rfl
      ·exact jL j (by omega)
     ·rw[decide_eq_false lO] at tw;rw[y3 aB (Uj i (R0 dS (by rw[tw]; rfl) jL))];simp[lO];exact aP rfl rfl
    ·have dE:R.l.length<=i:=by omega
     rw[y3 aB (Uj i (R0 dS (O4 (by omega)) jL))];simp[dS,dP,bn,hp,iE,GG,dE];exact aP rfl rfl
   ·have cZ:i=d.ids.l.length:=by omega
    subst cZ;have jc:=LJ (R1 jL);rw[afJ] at jc;have dL:n+d.ids.l.length<=s.order.l.length\/d.ids.l.length=0:=by
     by_cases h:d.ids.l.length=0
     ·exact .inr h
     ·left;have:=jL (d.ids.l.length - 1) (by omega);refine Classical.byContradiction fun aR=>?_
      rw[O4 (by omega)] at this; cases this
    by_cases ad:s.order.l.length<n
    ·rw[if_pos (.inl (by omega))] at jc;rw[y3 aB jc];simp[cE,q1,bS,xC,n2,e3,oM,nd,oN,ju,aC,cV,cT,ad];exact aP rfl rfl
    ·have aj:¬ (s.order.l.length:Int)<(n:Int)+d.ids.l.length:=by omega
     cases C2:d.AB with
     | true=>
      by_cases ae:R.l.length=d.ids.l.length
      ·rw[if_pos (.inr ⟨C2,by omega⟩)] at jc;rw[y3 aB jc];simp[cE,q1,bS,xC,n2,e3,oM,nd,Cr,oN,ju,zO,aC,cV,cT,ad,C2,GG,ae];exact aP rfl rfl
      ·have go:¬ (R.l.length:Int)=d.ids.l.length:=by omega
       rw[if_neg (fun h=>h.elim aj fun h=>ae (by omega))] at jc;rw[E6 aB jc];simp[cE,q1,bS,xC,n2,e3,oM,nd,Cr,oN,ju,zO,aC,cV,cT,ad,C2,GG,ae,go];exact aP rfl rfl
     | false=>
      rw[if_neg (fun h=>h.elim aj fun h=>by rw[C2] at h; cases h.1)] at jc;rw[E6 aB jc];simp[cE,q1,bS,xC,n2,e3,oM,nd,Cr,oN,ju,zO,aC,cV,cT,ad,C2];exact aP rfl rfl
  ·have aB:i6 s d=pA d:=by unfold i6; rw[if_pos aI]
   rw[E5 aB ax];simp[bS,hb];refine a4 aW (by simp[a5,U.closed,ha]) ?_;simp[aI,e3,lD];refine a4 ar (by simp[a5,U.closed,n0]) ?_;simp[ax];exact aP rfl rfl
 ·have aB:i6 s d=hI s:=by unfold i6; rw[if_neg aI]
  rw[E5 aB aI];simp[bS,hb];refine a4 aW (by simp[a5,U.closed,ha]) ?_;simp[aI];exact aP rfl rfl
theorem IB (s:fk) (d:gS) :(0<=ij s d)\/(ij s d=-1/\d.ep+d.ids.l.length<=(s.order.l.length:Int)) :=by
 cases h:nZ s.order.l d.ids.l d.ep.toNat with
 | some i=>rw[Iz h]; left; omega
 | none=>
  rw[IA h];unfold wX;split
  ·left; omega
  ·rename_i ad; right; exact⟨rfl,by omega⟩
noncomputable def H4 (s:fk) (d:gS) :U:=if i6 s d=0 then .bv [.bool (decide (ij s d<0)),.int .i64 0] else .bv [.bool false,.int .i64 (i6 s d)]
noncomputable def Iy (s:fk) (d:gS) :U:=if i6 s d=0 then (if ij s d<0 then .bv [.int .i64 0,.int .i64 6] else .bv [.int .i64 (ij s d),.int .i64 0]) else .bv [.int .i64 0,.int .i64 (i6 s d)]
section
variable (s:fk) (ak:uJ s) (d:gS) (bb:w5 d)
include ak bb
theorem Nd:bA Tryz.prog GS 11 [.aG (dJ s),.aG (dO d)] (H4 s d) :=by
 refine bW Tryz.checked.mixed bl ?_;apply bq Tryz.func11 [];have bS:(dJ s).length=5:=rfl;have hb:(dJ s).take 5=dJ s:=rfl;have ha:=xh s;have e3:(dO d).length=3:=rfl;have lD:(dO d).take 3=dO d:=rfl;have n0:=zi d;have aB:=OB s ak d bb;unfold H4;simp[bS,hb,e3,lD];refine a4 aB (by simp[a5,U.closed,ha,n0]) ?_;by_cases aI:i6 s d=0
 ·rw[if_pos aI];rcases IB s d with ad | ⟨ad,_⟩
  ·obtain⟨n,aC⟩:=at4 ad;have:¬ (n:Int)<0:=by omega
   rw[y3 aI aC,aC];simp[this];exact aP rfl rfl
  ·rw[E6 aI ad,ad];simp;exact aP rfl rfl
 ·rw[if_neg aI,E5 rfl aI];simp[aI];exact aP rfl rfl
theorem YJ:bA Tryz.prog GS 13 [.aG (dJ s),.aG (dO d)] (Iy s d) :=by
 refine bW Tryz.checked.mixed bl ?_;apply bq Tryz.func13 [];have bS:(dJ s).length=5:=rfl;have hb:(dJ s).take 5=dJ s:=rfl;have ha:=xh s;have e3:(dO d).length=3:=rfl;have lD:(dO d).take 3=dO d:=rfl;have n0:=zi d;have aB:=OB s ak d bb;unfold Iy;simp[bS,hb,e3,lD];refine a4 aB (by simp[a5,U.closed,ha,n0]) ?_;by_cases aI:i6 s d=0
 ·rw[if_pos aI];rcases IB s d with ad | ⟨ad,_⟩
  ·obtain⟨n,aC⟩:=at4 ad;have:¬ (n:Int)<0:=by omega
   rw[y3 aI aC,aC,if_neg this];simp;exact aP rfl rfl
  ·rw[E6 aI ad,ad];simp;exact aP rfl rfl
 ·rw[if_neg aI,E5 rfl aI];simp[aI];exact aP rfl rfl
end
structure amR (s:fk) (d:gS) (g:bt) (P:dr) (k:Nat) (σ:a8) (l:ao) :Prop where
 bi:σ 4=.ptr 2 0 2
 fe:σ 7=.ptr 3 0 2
 h3:σ 9=aD P
 j9:σ 10=.ptr 4 0 2
 aoD:σ 39=aD g.ids
 JY:σ 40=.int .i64 g.ids.l.length
 JZ:σ 41=.int .i64 k
 db:l[2]? = some (.cells 2 [.aH,.aH])
 gh:l[3]? = some (.cells 2 [aD g.ids,bC g.ops])
 ex:∃ cj b2 eX eY,l[4]? = some (.cells 2 [cj,b2])/\hL l cj b2 eX eY 5 ((lj g P.l k).map (·.1)) ((lj g P.l k).map (·.2))
section
variable (s:fk) (ak:uJ s) (d:gS) (bb:w5 d)
include ak bb
end

end Op

end Go.bY

namespace Go.bY
open Go Go.Proofs Go.RowKit
set_option maxRecDepth 100000
namespace Op
open hl
def Cm (s:fk) (d:gS) :Bool:=zL s||decide (80<d.ids.l.length)
theorem WK (s:fk) (d:gS) :bA Tryz.prog GS 9 [.aG (dJ s),.aG (dO d)] (.bool (Cm s d)) :=by
 refine bW Tryz.checked.mixed bl ?_;apply bq Tryz.func9 [];have bS:(dJ s).length=5:=rfl;have hb:(dJ s).take 5=dJ s:=rfl;have ha:=xh s;have e3:(dO d).length=3:=rfl;have nd:∀ h,(dO d)[1]'h=aD d.ids:=fun _=>rfl
 have ju:(dO d)[1]? = some (aD d.ids) :=rfl;have cT:cv (.aq 32) (aD d.ids)=some (.int .i64 d.ids.l.length) :=by simp[aD]
 have aB:=ajo s;unfold Cm;simp[bS,hb];refine a4 aB (by simp[a5,U.closed,ha]) ?_;cases aI:zL s with
 | true=>
  simp;exact aP rfl rfl
 | false=>
  by_cases ad:80<d.ids.l.length
  ·have dH:(80:Int)<d.ids.l.length:=by omega
   simp[e3,nd,ju,cT,ad,dH];exact aP rfl rfl
  ·have dH:¬ (80:Int)<d.ids.l.length:=by omega
   simp[e3,nd,ju,cT,ad,dH];exact aP rfl rfl
structure E1 (g:bt) :Prop where
 ids:eu g.ids
 ops:∀ o∈g.ops.l,IU o
theorem aiw {g:bt} (h:E1 g) (aw:tm g=false) :g8 g:=by
 unfold tm at aw;simp only[avz,decide_eq_false_iff_not] at aw;obtain⟨ad,ae,aj,aF⟩:=aw;refine⟨h.ids,fun o au=>?_,by omega,by omega⟩;have a6:¬ tn o=true:=fun aR=>ad ⟨o,by rw[as1 (by omega)]; exact au,aR⟩
 unfold tn at a6;simp only[auQ,decide_eq_true_eq,not_or] at a6;have aV:=h.ops o au;exact⟨aV.ids,by omega,⟨aV.kh,aV.p5,by omega⟩,by omega⟩
theorem alD {ts:List TypeId} {cs:List U} (h:dB Tryz.prog (47::ts) cs) :∃ (g:bt) (cs' : List U),cs=bX g++cs'/\E1 g/\dB Tryz.prog ts cs':=by
 have aF:=wI (fs:=[23,45]) (by kernel_rfl) h;obtain⟨i,_,rfl,az,a6⟩:=EE aF;obtain⟨s,_,rfl,_,au,bu⟩:=NW (e:=94) (z:=11) (enc:=a9) (Q:=IU) (by kernel_rfl) (by kernel_rfl) (fun r ay=>by
  obtain⟨x,_,rfl,ag,aj⟩:=alF ay;rw[EF aj,atB];exact⟨x,rfl,ag⟩) a6
 exact⟨⟨i,s⟩,_,rfl,⟨az,au⟩,bu⟩
structure IV (s:fk) :Prop where
 parts:∀ p∈s.dR.parts.l,E1 p
 dq:eu s.dR.dq
 order:eu s.order
theorem aly {ts:List TypeId} {cs:List U} (h:lu Tryz.prog (27::ts) cs) :∃ (s:fk) (cs' : List U),cs=.aG (dJ s) ::cs'/\IV s/\lu Tryz.prog ts cs':=by
 obtain⟨c,cs',rfl,ad,ae⟩:=NV h;obtain⟨cs,rfl,aj⟩:=Ya (by kernel_rfl) ad;have aF:=wI (fs:=[3,25,23]) (by kernel_rfl) aj;obtain⟨n,_,rfl,_,_,a6⟩:=uB (k:=.i64) (by kernel_rfl) aF;have bu:=wI (fs:=[22,23,3]) (by kernel_rfl) a6;obtain⟨p,_,rfl,_,av,cL⟩:=NW (e:=47) (z:=2) (enc:=bX) (Q:=E1) (by kernel_rfl) (by kernel_rfl) (fun r ay=>by
  obtain⟨x,_,rfl,ag,aj⟩:=alD ay;rw[EF aj,atB];exact⟨x,rfl,ag⟩) bu
 obtain⟨i,_,rfl,az,gM⟩:=EE cL;obtain⟨v,_,rfl,_,_,gE⟩:=uB (k:=.i64) (by kernel_rfl) gM;obtain⟨o,_,rfl,au,kZ⟩:=EE gE;rw[EF kZ];exact⟨⟨n,⟨p,i,v⟩,o⟩,cs',rfl,⟨av,az,au⟩,ae⟩
theorem X9 {ts:List TypeId} {cs:List U} (h:lu Tryz.prog (29::ts) cs) :∃ (d:gS) (cs' : List U),cs=.aG (dO d) ::cs'/\eu d.ids/\lu Tryz.prog ts cs':=by
 obtain⟨c,cs',rfl,ad,ae⟩:=NV h;obtain⟨cs,rfl,aj⟩:=Ya (by kernel_rfl) ad;have aF:=wI (fs:=[3,23,4]) (by kernel_rfl) aj;obtain⟨n,_,rfl,_,_,a6⟩:=uB (k:=.i64) (by kernel_rfl) aF;obtain⟨i,_,rfl,az,bu⟩:=EE a6;obtain⟨b,_,rfl,cL⟩:=alC (by kernel_rfl) bu;rw[EF cL];exact⟨⟨n,i,b⟩,cs',rfl,az,ae⟩
theorem aiy {s:fk} (h:IV s) (aw:zL s=false) :uJ s:=by
 unfold zL pJ at aw;simp only[avz,decide_eq_false_iff_not] at aw;obtain⟨⟨ad,ae,aj⟩,aF⟩:=aw;refine⟨⟨fun p av=>?_,by omega,h.dq,by omega⟩,h.order,by omega⟩;have a6:=List.any_eq_false.1 ad p (by rw[as1 (by omega)]; exact av);unfold s9 at a6;simp only[auQ,decide_eq_true_eq,not_or] at a6;obtain⟨bu,cL,gM⟩:=a6;exact⟨aiw (h.parts p av) (by simpa using gM),by omega,by omega⟩
theorem Oa {s:fk} {d:gS} (h:ij s d<0) :(∀ j,j<d.ids.l.length->oF s.order.l d.ids.l d.ep.toNat j=false)/\d.ep+d.ids.l.length<=(s.order.l.length:Int) :=by
 have ae:=(IB s d).resolve_left (by omega);refine⟨fun j ai=>?_,ae.2⟩;cases aE:nZ s.order.l d.ids.l d.ep.toNat with
 | some i=>rw[Iz aE] at h; omega
 | none=>
  unfold nZ at aE;rw[avW] at aE;simpa using aE j ai
theorem Jd {o ids:List (List B)} {n j:Nat} (h:oF o ids n j=false) :o[n+j]? = some (bT ids j) :=by
 unfold oF at h;rw[Bool.not_eq_false'] at h;exact of_decide_eq_true h
theorem amG {s:fk} {d:gS} (h:ij s d<0) {n:Nat} (aC:n<=d.ids.l.length) :ij s ⟨d.ep,gw d.ids n,false⟩=-1:=by
 obtain⟨ad,ae⟩:=Oa h;have al:(gw d.ids n).l.length=n:=by rw[ll,ati]; omega
 rw[IA (R1 fun j ai=>?_)]
 ·unfold wX;rw[if_neg];rintro (q | ⟨q,_⟩)
  ·simp only[al] at q; omega
  ·cases q
 ·rw[al] at ai;have aj:=Jd (ad j (by omega));unfold oF;have:bT (gw d.ids n).l j=bT d.ids.l j:=by
   rw[ll];obtain⟨x,ag,_⟩:=bP (l:=d.ids.l) (k:=j) (by omega);rw[fB ag,fB (show (d.ids.l.take n)[j]? = some x by rw[atp ai]; exact ag)]
  rw[this,aj]; simp
theorem Ob {s:fk} {d f:gS} (h:ij s d<0) (ae:ij s f<0) (aE:d.ep=f.ep) {n:Nat} (aC:n<=d.ids.l.length) (hm:n<=f.ids.l.length) :d.ids.l.take n=f.ids.l.take n:=by
 obtain⟨a2,_⟩:=Oa h;obtain⟨cX,_⟩:=Oa ae;apply atO;intro j;by_cases ai:j<n
 ·rw[atp ai,atp ai];have b0:=Jd (a2 j (by omega));have b5:=Jd (cX j (by omega));rw[aE,b5] at b0;obtain⟨x,ag,_⟩:=bP (l:=d.ids.l) (k:=j) (by omega);obtain⟨y,aJ,_⟩:=bP (l:=f.ids.l) (k:=j) (by omega);rw[fB ag,fB aJ] at b0;rw[ag,aJ]; exact b0.symm
 ·rw[atd (by rw[ati]; omega),atd (by rw[ati]; omega)]
theorem amF (s:fk) (d:gS) :ij s d<=d.ids.l.length:=by
 cases aE:nZ s.order.l d.ids.l d.ep.toNat with
 | some i=>
  rw[Iz aE];unfold nZ at aE;rw[avi] at aE;have:=atA.1 aE.2.1;omega
 | none=>
  rw[IA aE];unfold wX;split<;>omega
theorem agy (s:fk) (ak:uJ s) (d:gS) (bb:w5 d) (h:i6 s d=0) (aW:ij s d=-1) :bA Tryz.prog GS 26 [.aG (dJ s),.aG (dO d)] (.bool true) :=by
 refine bW Tryz.checked.mixed bl ?_;apply bq Tryz.func26 [];have bS:(dJ s).length=5:=rfl;have hb:(dJ s).take 5=dJ s:=rfl;have ha:=xh s;have e3:(dO d).length=3:=rfl;have lD:(dO d).take 3=dO d:=rfl;have n0:=zi d;have x5:=Nd s ak d bb;have jc:=YJ s ak d bb;unfold H4 at x5;unfold Iy at jc;rw[if_pos h,aW] at x5 jc;simp[bS,hb,e3,lD];refine a4 x5 (by simp[a5,U.closed,ha,n0]) ?_;simp[bS,hb,e3,lD];refine a4 jc (by simp[a5,U.closed,ha,n0]) ?_;simp;exact aP rfl rfl
set_option maxHeartbeats 16000000 in
theorem aaX (hT:bA Tryz.prog GS 29 [] (.bool true)) (s:fk) (ts:IV s) (d:gS) (vx:eu d.ids) (f:gS) (tE:eu f.ids) (n:Int) :dh Tryz.prog GS 6 [.aG (dJ s),.aG (dO d),.aG (dO f),.int .i64 n] [] (c:=⟨fun r _=>r=.bool true⟩) :=by
 apply bq Tryz.func6 [];have bS:(dJ s).length=5:=rfl;have hb:(dJ s).take 5=dJ s:=rfl;have ha:=xh s;have e3:(dO d).length=3:=rfl;have lD:(dO d).take 3=dO d:=rfl;have n0:=zi d;have eW:(dO f).length=3:=rfl;have vq:(dO f).take 3=dO f:=rfl;have Kc:=zi f;have oM:∀ h,(dO d)[0]'h=.int .i64 d.ep:=fun _=>rfl
 have nd:∀ h,(dO d)[1]'h=aD d.ids:=fun _=>rfl
 have oN:(dO d)[0]? = some (.int .i64 d.ep) :=rfl;have ju:(dO d)[1]? = some (aD d.ids) :=rfl;have zP:∀ h,(dO f)[0]'h=.int .i64 f.ep:=fun _=>rfl
 have Cs:∀ h,(dO f)[1]'h=aD f.ids:=fun _=>rfl
 have iz:(dO f)[0]? = some (.int .i64 f.ep) :=rfl;have l6:(dO f)[1]? = some (aD f.ids) :=rfl;have cT:cv (.aq 32) (aD d.ids)=some (.int .i64 d.ids.l.length) :=by simp[aD]
 have KX:cv (.aq 32) (aD f.ids)=some (.int .i64 f.ids.l.length) :=by simp[aD]
 have z2:=WK s d;have ad0:=WK s f;simp;refine a4 hT rfl ?_;simp[bS,hb,e3,lD,eW,vq];refine a4 z2 (by simp[a5,U.closed,ha,n0]) ?_;cases aI:Cm s d with
 | true=>simp
 | false=>
  simp[bS,hb,e3,lD,eW,vq];refine a4 ad0 (by simp[a5,U.closed,ha,Kc]) ?_;cases ad:Cm s f with
  | true=>simp
  | false=>
   unfold Cm at aI ad;rw[avz,decide_eq_false_iff_not] at aI ad;have ak:=aiy ts aI.1;have bb:w5 d:=⟨vx,by omega⟩
   have aE:w5 f:=⟨tE,by omega⟩
   have b3:=ajH s ak;have oS:=WJ d;have adp:=WJ f;simp[bS,hb,e3,lD,eW,vq];refine a4 b3 (by simp[a5,U.closed,ha]) ?_;by_cases ae:hI s=0
   ·simp[ae,bS,hb,e3,lD,eW,vq];refine a4 oS (by simp[a5,U.closed,n0]) ?_;by_cases aj:pA d=0
    ·simp[aj,bS,hb,e3,lD,eW,vq];refine a4 adp (by simp[a5,U.closed,Kc]) ?_;by_cases aF:pA f=0
     ·have E7:i6 s d=0:=by unfold i6; rw[if_pos ae]; exact aj
      have Zp:i6 s f=0:=by unfold i6; rw[if_pos ae]; exact aF
      have x5:=Nd s ak d bb;have Lo:=Nd s ak f aE;have jc:=YJ s ak d bb;have nu:=IB s d;have la:=amF s d;unfold H4 at x5 Lo;unfold Iy at jc;rw[if_pos E7] at x5 jc;rw[if_pos Zp] at Lo;obtain⟨gA,fU,uG⟩:=JB aj;obtain⟨iP,pi,Oh⟩:=JB aF;simp[aF,bS,hb,e3,lD,eW,vq];refine a4 x5 (by simp[a5,U.closed,ha,n0]) ?_;simp[bS,hb,e3,lD,eW,vq];refine a4 Lo (by simp[a5,U.closed,ha,Kc]) ?_;by_cases a6:ij s d<0
      ·have hm:∀ k:Nat,k<=d.ids.l.length->w5 ⟨d.ep,gw d.ids k,false⟩/\i6 s ⟨d.ep,gw d.ids k,false⟩=0:=fun k ar=>by
        have al:(gw d.ids k).l.length=k:=by rw[ll,ati]; omega
        refine⟨⟨fun x ag=>vx x (by rw[ll] at ag; exact atw ag),by show (gw d.ids k).l.length<=_; rw[al]; omega⟩,?_⟩;unfold i6;rw[if_pos ae];unfold pA;rw[if_neg (by show ¬ (d.ep<0\/60<d.ep); omega),if_neg (by show ¬ 60<(gw d.ids k).l.length; rw[al]; omega)]
       obtain⟨k,ar⟩:∃ k:Nat,k=min d.ids.l.length f.ids.l.length:=⟨_,rfl⟩
       have K1:min (d.ids.l.length:Int) (f.ids.l.length:Int)=(k:Int) :=by omega
       have k6:sA (.int .i64 (d.ids.l.length:Int)) (.int .i64 (f.ids.l.length:Int))=some (.int .i64 (k:Int)) :=by
        unfold sA;simp[K1];omega
       have t1:=Hf d.ids (k:=k) (by omega);have t2:=Hf f.ids (k:=k) (by omega);have Jy:=dw (gw d.ids k);have Jz:=dw (gw f.ids k);have hV:=Ia (gw d.ids k) (gw f.ids k) (fun x ag=>vx x (by rw[ll] at ag; exact atw ag)) (fun x ag=>tE x (by rw[ll] at ag; exact atw ag)) (by rw[ll,ati]; omega);rw[ll,ll] at hV;by_cases b0:0<=n
       ·obtain⟨m,rfl⟩:=at4 b0;by_cases b5:m<=d.ids.l.length
        ·have xg:(m:Int)<=d.ids.l.length:=by omega
         obtain⟨iv,gP⟩:=hm m b5;have KM:=agy s ak _ iv gP (amG a6 b5);have t3:=Hf d.ids (k:=m) b5;have mt:=nU (gw d.ids m);have aaR:=dw (gw d.ids m);unfold dO at KM;simp only at KM;simp[a6,b5,xg,bS,hb,e3,oM,nd,oN,ju,cT,t3,mt,bg];refine a4 KM (by simp[a5,U.closed,ha,aaR]) ?_;simp;by_cases bu:ij s f<0
         ·by_cases cL:f.ep=d.ep
          ·have iZ:=Ob a6 bu cL.symm (n:=k) (by omega) (by omega);rw[decide_eq_true iZ] at hV;simp[bu,cL,bS,e3,eW,oM,oN,zP,iz,nd,ju,Cs,l6,cT,KX,k6,t1,t2];refine a4 hV (by simp[a5,Jy,Jz]) ?_;simp
          ·simp[bu,cL,e3,eW,oM,oN,zP,iz]
         ·simp[bu]
        ·have xg:¬ (m:Int)<=d.ids.l.length:=by omega
         simp[a6,b5,xg,e3,nd,ju,cT];by_cases bu:ij s f<0
         ·by_cases cL:f.ep=d.ep
          ·have iZ:=Ob a6 bu cL.symm (n:=k) (by omega) (by omega);rw[decide_eq_true iZ] at hV;simp[bu,cL,bS,e3,eW,oM,oN,zP,iz,nd,ju,Cs,l6,cT,KX,k6,t1,t2];refine a4 hV (by simp[a5,Jy,Jz]) ?_;simp
          ·simp[bu,cL,e3,eW,oM,oN,zP,iz]
         ·simp[bu]
       ·simp[a6,b0];by_cases bu:ij s f<0
        ·by_cases cL:f.ep=d.ep
         ·have iZ:=Ob a6 bu cL.symm (n:=k) (by omega) (by omega);rw[decide_eq_true iZ] at hV;simp[bu,cL,bS,e3,eW,oM,oN,zP,iz,nd,ju,Cs,l6,cT,KX,k6,t1,t2];refine a4 hV (by simp[a5,Jy,Jz]) ?_;simp
         ·simp[bu,cL,e3,eW,oM,oN,zP,iz]
        ·simp[bu]
      ·have acp:0<=ij s d:=by omega
       rw[if_neg a6] at jc;simp[a6,bS,hb,e3,lD,eW,vq];refine a4 jc (by simp[a5,U.closed,ha,n0]) ?_;simp[acp,la,e3,nd,ju,cT]
     ·simp[aF]
    ·simp[aj]
   ·simp[ae]
end Op

end Go.bY

namespace Go.bY
open Go Go.Proofs
set_option maxRecDepth 1000000
set_option maxHeartbeats 8000000
abbrev UO:List U:=[.int .u32 (1)]++[.aG ([.int .u32 (0)]++[.aH]++[.int .u64 (0)]++[.int .u8 1]++[.str []]++[.int .u8 0]++[cf (0)]++[.int .u64 (0)]++[.str []]++[.int .u32 (0)]++[.int .u32 (0)])]
abbrev U2:U:=.bv ([.aG ([.int .u32 (4)]++[.aH]++[.int .u64 (0)]++[.int .u8 1]++[.str []]++[.int .u8 0]++[cf (0)]++[.int .u64 (0)]++[.str []]++[.int .u32 (375582489)]++[.int .u32 (77644329)])]++[cf (0)])
theorem agE:gl Tryz.prog GS 54 UO U2:=
 kQ (P:=Tryz.prog) Tryz.checked.mixed bl (jW (h0.mem (ev AO (ev o5 (j3))))) kq (orc:=jg [yx,ov]) (fuel:=100000) (k:=60) (by kernel_rfl)
abbrev Aw:List U:=[.aG ([.int .u32 (4)]++[.aH]++[.int .u64 (0)]++[.int .u8 1]++[.str []]++[.int .u8 0]++[cf (0)]++[.int .u64 (0)]++[.str []]++[.int .u32 (375582489)]++[.int .u32 (77644329)])]
abbrev Ay:U:=cf (0)
theorem DM:gl Tryz.prog GS 67 Aw Ay:=
 kQ (P:=Tryz.prog) Tryz.checked.mixed bl (jW (h0.mem (ev AO (ev o5 (j3))))) kq (orc:=jg [yx,ov]) (fuel:=100000) (k:=60) (by kernel_rfl)
abbrev UX:List U:=[.aG ([.aX 2 [[.aH]++[.aH],[.aH]++[.aH]]]++[.aH]++[cf (0)])]++[.aG ([.int .u32 (4)]++[.aH]++[.int .u64 (0)]++[.int .u8 1]++[.str []]++[.int .u8 0]++[cf (0)]++[.int .u64 (0)]++[.str []]++[.int .u32 (375582489)]++[.int .u32 (77644329)])]
abbrev Vb:U:=.bv ([.aG ([.aX 2 [[.aH]++[.aH],[.aX 32 [bf [33,138,136,249,119,7,166,174,108,156,48,173,162,158,214,252,180,176,246,238,229,50,220,163,240,190,222,60,6,183,72,215]]]++[.aX 11 [[.int .u32 (4)]++[.aH]++[.int .u64 (0)]++[.int .u8 1]++[.str []]++[.int .u8 0]++[cf (0)]++[.int .u64 (0)]++[.str []]++[.int .u32 (375582489)]++[.int .u32 (77644329)]]]]]++[.aX 32 [bf [33,138,136,249,119,7,166,174,108,156,48,173,162,158,214,252,180,176,246,238,229,50,220,163,240,190,222,60,6,183,72,215]]]++[cf (1)])]++[.aG (bf [33,138,136,249,119,7,166,174,108,156,48,173,162,158,214,252,180,176,246,238,229,50,220,163,240,190,222,60,6,183,72,215])]++[cf (0)])
theorem agN:gl Tryz.prog GS 89 UX Vb:=
 kQ (P:=Tryz.prog) Tryz.checked.mixed bl (jW (h0.mem (ev yJ (ev o5 (ev (ji (gC DM (jp))) (j3)))))) kq (orc:=jg [jl,ov,(67,true,iL [(Aw,Ay)])]) (fuel:=100000) (k:=60) (by kernel_rfl)
abbrev UY:List U:=[.int .u32 (1)]++[.aG ([.int .u32 (0)]++[.aX 32 [bf [33,138,136,249,119,7,166,174,108,156,48,173,162,158,214,252,180,176,246,238,229,50,220,163,240,190,222,60,6,183,72,215]]]++[.int .u64 (1)]++[.int .u8 1]++[.str []]++[.int .u8 0]++[cf (0)]++[.int .u64 (0)]++[.str []]++[.int .u32 (0)]++[.int .u32 (0)])]
abbrev Vc:U:=.bv ([.aG ([.int .u32 (4)]++[.aX 32 [bf [33,138,136,249,119,7,166,174,108,156,48,173,162,158,214,252,180,176,246,238,229,50,220,163,240,190,222,60,6,183,72,215]]]++[.int .u64 (1)]++[.int .u8 1]++[.str []]++[.int .u8 0]++[cf (0)]++[.int .u64 (0)]++[.str []]++[.int .u32 (369156142)]++[.int .u32 (98181620)])]++[cf (0)])
theorem agO:gl Tryz.prog GS 54 UY Vc:=
 kQ (P:=Tryz.prog) Tryz.checked.mixed bl (jW (h0.mem (ev AO (ev o5 (j3))))) kq (orc:=jg [yx,ov]) (fuel:=100000) (k:=60) (by kernel_rfl)
abbrev Md:List U:=[.aG ([.aX 32 [bf [33,138,136,249,119,7,166,174,108,156,48,173,162,158,214,252,180,176,246,238,229,50,220,163,240,190,222,60,6,183,72,215]]]++[.aX 11 [[.int .u32 (4)]++[.aH]++[.int .u64 (0)]++[.int .u8 1]++[.str []]++[.int .u8 0]++[cf (0)]++[.int .u64 (0)]++[.str []]++[.int .u32 (375582489)]++[.int .u32 (77644329)]]])]
abbrev Mf:U:=cf (0)
theorem UM:gl Tryz.prog GS 38 Md Mf:=
 kQ (P:=Tryz.prog) Tryz.checked.mixed bl (jW (h0.mem (ev yJ (ev o5 (ev (ji (gC DM (jp))) (j3)))))) kq (orc:=jg [jl,ov,(67,true,iL [(Aw,Ay)])]) (fuel:=100000) (k:=60) (by kernel_rfl)
abbrev DO:List U:=[.aG ([.int .u32 (4)]++[.aX 32 [bf [33,138,136,249,119,7,166,174,108,156,48,173,162,158,214,252,180,176,246,238,229,50,220,163,240,190,222,60,6,183,72,215]]]++[.int .u64 (1)]++[.int .u8 1]++[.str []]++[.int .u8 0]++[cf (0)]++[.int .u64 (0)]++[.str []]++[.int .u32 (369156142)]++[.int .u32 (98181620)])]
abbrev DP:U:=cf (0)
theorem Hj:gl Tryz.prog GS 67 DO DP:=
 kQ (P:=Tryz.prog) Tryz.checked.mixed bl (jW (h0.mem (ev AO (ev o5 (j3))))) kq (orc:=jg [yx,ov]) (fuel:=100000) (k:=60) (by kernel_rfl)
abbrev UZ:List U:=[.aG ([.aX 2 [[.aH]++[.aH],[.aX 32 [bf [33,138,136,249,119,7,166,174,108,156,48,173,162,158,214,252,180,176,246,238,229,50,220,163,240,190,222,60,6,183,72,215]]]++[.aX 11 [[.int .u32 (4)]++[.aH]++[.int .u64 (0)]++[.int .u8 1]++[.str []]++[.int .u8 0]++[cf (0)]++[.int .u64 (0)]++[.str []]++[.int .u32 (375582489)]++[.int .u32 (77644329)]]]]]++[.aX 32 [bf [33,138,136,249,119,7,166,174,108,156,48,173,162,158,214,252,180,176,246,238,229,50,220,163,240,190,222,60,6,183,72,215]]]++[cf (1)])]++[.aG ([.int .u32 (4)]++[.aX 32 [bf [33,138,136,249,119,7,166,174,108,156,48,173,162,158,214,252,180,176,246,238,229,50,220,163,240,190,222,60,6,183,72,215]]]++[.int .u64 (1)]++[.int .u8 1]++[.str []]++[.int .u8 0]++[cf (0)]++[.int .u64 (0)]++[.str []]++[.int .u32 (369156142)]++[.int .u32 (98181620)])]
abbrev Vd:U:=.bv ([.aG ([.aX 2 [[.aH]++[.aH],[.aX 32 [bf [33,138,136,249,119,7,166,174,108,156,48,173,162,158,214,252,180,176,246,238,229,50,220,163,240,190,222,60,6,183,72,215],bf [159,159,144,10,126,197,229,161,56,119,100,163,139,39,106,165,103,68,156,120,35,140,96,174,41,101,13,25,73,98,29,181]]]++[.aX 11 [[.int .u32 (4)]++[.aH]++[.int .u64 (0)]++[.int .u8 1]++[.str []]++[.int .u8 0]++[cf (0)]++[.int .u64 (0)]++[.str []]++[.int .u32 (375582489)]++[.int .u32 (77644329)],[.int .u32 (4)]++[.aX 32 [bf [33,138,136,249,119,7,166,174,108,156,48,173,162,158,214,252,180,176,246,238,229,50,220,163,240,190,222,60,6,183,72,215]]]++[.int .u64 (1)]++[.int .u8 1]++[.str []]++[.int .u8 0]++[cf (0)]++[.int .u64 (0)]++[.str []]++[.int .u32 (369156142)]++[.int .u32 (98181620)]]]]]++[.aX 32 [bf [159,159,144,10,126,197,229,161,56,119,100,163,139,39,106,165,103,68,156,120,35,140,96,174,41,101,13,25,73,98,29,181]]]++[cf (2)])]++[.aG (bf [159,159,144,10,126,197,229,161,56,119,100,163,139,39,106,165,103,68,156,120,35,140,96,174,41,101,13,25,73,98,29,181])]++[cf (0)])
theorem agP:gl Tryz.prog GS 89 UZ Vd:=
 kQ (P:=Tryz.prog) Tryz.checked.mixed bl (jW (h0.mem (ev yJ (ev o5 (ev (ji (gC Hj (jp))) (ev (ji (gC UM (jp))) (j3))))))) kq (orc:=jg [jl,ov,(67,true,iL [(DO,DP)]),(38,true,iL [(Md,Mf)])]) (fuel:=100000) (k:=60) (by kernel_rfl)
abbrev U0:List U:=[.int .u32 (1)]++[.aG ([.int .u32 (0)]++[.aX 32 [bf [159,159,144,10,126,197,229,161,56,119,100,163,139,39,106,165,103,68,156,120,35,140,96,174,41,101,13,25,73,98,29,181]]]++[.int .u64 (2)]++[.int .u8 1]++[.str []]++[.int .u8 0]++[cf (0)]++[.int .u64 (0)]++[.str []]++[.int .u32 (0)]++[.int .u32 (0)])]
abbrev Ve:U:=.bv ([.aG ([.int .u32 (4)]++[.aX 32 [bf [159,159,144,10,126,197,229,161,56,119,100,163,139,39,106,165,103,68,156,120,35,140,96,174,41,101,13,25,73,98,29,181]]]++[.int .u64 (2)]++[.int .u8 1]++[.str []]++[.int .u8 0]++[cf (0)]++[.int .u64 (0)]++[.str []]++[.int .u32 (399518125)]++[.int .u32 (73226087)])]++[cf (0)])
theorem agQ:gl Tryz.prog GS 54 U0 Ve:=
 kQ (P:=Tryz.prog) Tryz.checked.mixed bl (jW (h0.mem (ev AO (ev o5 (j3))))) kq (orc:=jg [yx,ov]) (fuel:=100000) (k:=60) (by kernel_rfl)
abbrev Me:List U:=[.aG ([.aX 32 [bf [33,138,136,249,119,7,166,174,108,156,48,173,162,158,214,252,180,176,246,238,229,50,220,163,240,190,222,60,6,183,72,215],bf [159,159,144,10,126,197,229,161,56,119,100,163,139,39,106,165,103,68,156,120,35,140,96,174,41,101,13,25,73,98,29,181]]]++[.aX 11 [[.int .u32 (4)]++[.aH]++[.int .u64 (0)]++[.int .u8 1]++[.str []]++[.int .u8 0]++[cf (0)]++[.int .u64 (0)]++[.str []]++[.int .u32 (375582489)]++[.int .u32 (77644329)],[.int .u32 (4)]++[.aX 32 [bf [33,138,136,249,119,7,166,174,108,156,48,173,162,158,214,252,180,176,246,238,229,50,220,163,240,190,222,60,6,183,72,215]]]++[.int .u64 (1)]++[.int .u8 1]++[.str []]++[.int .u8 0]++[cf (0)]++[.int .u64 (0)]++[.str []]++[.int .u32 (369156142)]++[.int .u32 (98181620)]]])]
abbrev Mg:U:=cf (0)
theorem UN:gl Tryz.prog GS 38 Me Mg:=
 kQ (P:=Tryz.prog) Tryz.checked.mixed bl (jW (h0.mem (ev yJ (ev o5 (ev (ji (gC DM (gC Hj (jp)))) (j3)))))) kq (orc:=jg [jl,ov,(67,true,iL [(Aw,Ay),(DO,DP)])]) (fuel:=100000) (k:=60) (by kernel_rfl)
abbrev U1:List U:=[.aG ([cf (5)]++[.aX 2 [[.aH]++[.aH],[.aX 32 [bf [33,138,136,249,119,7,166,174,108,156,48,173,162,158,214,252,180,176,246,238,229,50,220,163,240,190,222,60,6,183,72,215],bf [159,159,144,10,126,197,229,161,56,119,100,163,139,39,106,165,103,68,156,120,35,140,96,174,41,101,13,25,73,98,29,181]]]++[.aX 11 [[.int .u32 (4)]++[.aH]++[.int .u64 (0)]++[.int .u8 1]++[.str []]++[.int .u8 0]++[cf (0)]++[.int .u64 (0)]++[.str []]++[.int .u32 (375582489)]++[.int .u32 (77644329)],[.int .u32 (4)]++[.aX 32 [bf [33,138,136,249,119,7,166,174,108,156,48,173,162,158,214,252,180,176,246,238,229,50,220,163,240,190,222,60,6,183,72,215]]]++[.int .u64 (1)]++[.int .u8 1]++[.str []]++[.int .u8 0]++[cf (0)]++[.int .u64 (0)]++[.str []]++[.int .u32 (369156142)]++[.int .u32 (98181620)]]]]]++[.aX 32 [bf [159,159,144,10,126,197,229,161,56,119,100,163,139,39,106,165,103,68,156,120,35,140,96,174,41,101,13,25,73,98,29,181]]]++[cf (2)]++[.aX 32 [bf [33,138,136,249,119,7,166,174,108,156,48,173,162,158,214,252,180,176,246,238,229,50,220,163,240,190,222,60,6,183,72,215],bf [159,159,144,10,126,197,229,161,56,119,100,163,139,39,106,165,103,68,156,120,35,140,96,174,41,101,13,25,73,98,29,181]]])]
abbrev Vf:U:=.bv ([.aG ([.aX 32 [bf [33,138,136,249,119,7,166,174,108,156,48,173,162,158,214,252,180,176,246,238,229,50,220,163,240,190,222,60,6,183,72,215],bf [159,159,144,10,126,197,229,161,56,119,100,163,139,39,106,165,103,68,156,120,35,140,96,174,41,101,13,25,73,98,29,181]]]++[.aX 11 [[.int .u32 (4)]++[.aH]++[.int .u64 (0)]++[.int .u8 1]++[.str []]++[.int .u8 0]++[cf (0)]++[.int .u64 (0)]++[.str []]++[.int .u32 (375582489)]++[.int .u32 (77644329)],[.int .u32 (4)]++[.aX 32 [bf [33,138,136,249,119,7,166,174,108,156,48,173,162,158,214,252,180,176,246,238,229,50,220,163,240,190,222,60,6,183,72,215]]]++[.int .u64 (1)]++[.int .u8 1]++[.str []]++[.int .u8 0]++[cf (0)]++[.int .u64 (0)]++[.str []]++[.int .u32 (369156142)]++[.int .u32 (98181620)]]])]++[cf (0)])
theorem agR:gl Tryz.prog GS 66 U1 Vf:=
 kQ (P:=Tryz.prog) Tryz.checked.mixed bl (jW (h0.mem (ev (ji (gC UN (jp))) (j3)))) kq (orc:=jg [(38,true,iL [(Me,Mg)])]) (fuel:=100000) (k:=60) (by kernel_rfl)
abbrev Hk:List U:=[.aG ([.int .u32 (4)]++[.aX 32 [bf [159,159,144,10,126,197,229,161,56,119,100,163,139,39,106,165,103,68,156,120,35,140,96,174,41,101,13,25,73,98,29,181]]]++[.int .u64 (2)]++[.int .u8 1]++[.str []]++[.int .u8 0]++[cf (0)]++[.int .u64 (0)]++[.str []]++[.int .u32 (399518125)]++[.int .u32 (73226087)])]
abbrev Hl:U:=cf (0)
theorem Mc:gl Tryz.prog GS 67 Hk Hl:=
 kQ (P:=Tryz.prog) Tryz.checked.mixed bl (jW (h0.mem (ev AO (ev o5 (j3))))) kq (orc:=jg [yx,ov]) (fuel:=100000) (k:=60) (by kernel_rfl)
abbrev UP:List U:=[.aG ([.aX 2 [[.aH]++[.aH],[.aX 32 [bf [33,138,136,249,119,7,166,174,108,156,48,173,162,158,214,252,180,176,246,238,229,50,220,163,240,190,222,60,6,183,72,215],bf [159,159,144,10,126,197,229,161,56,119,100,163,139,39,106,165,103,68,156,120,35,140,96,174,41,101,13,25,73,98,29,181]]]++[.aX 11 [[.int .u32 (4)]++[.aH]++[.int .u64 (0)]++[.int .u8 1]++[.str []]++[.int .u8 0]++[cf (0)]++[.int .u64 (0)]++[.str []]++[.int .u32 (375582489)]++[.int .u32 (77644329)],[.int .u32 (4)]++[.aX 32 [bf [33,138,136,249,119,7,166,174,108,156,48,173,162,158,214,252,180,176,246,238,229,50,220,163,240,190,222,60,6,183,72,215]]]++[.int .u64 (1)]++[.int .u8 1]++[.str []]++[.int .u8 0]++[cf (0)]++[.int .u64 (0)]++[.str []]++[.int .u32 (369156142)]++[.int .u32 (98181620)]]]]]++[.aX 32 [bf [159,159,144,10,126,197,229,161,56,119,100,163,139,39,106,165,103,68,156,120,35,140,96,174,41,101,13,25,73,98,29,181]]]++[cf (2)])]++[.aG ([.int .u32 (4)]++[.aX 32 [bf [159,159,144,10,126,197,229,161,56,119,100,163,139,39,106,165,103,68,156,120,35,140,96,174,41,101,13,25,73,98,29,181]]]++[.int .u64 (2)]++[.int .u8 1]++[.str []]++[.int .u8 0]++[cf (0)]++[.int .u64 (0)]++[.str []]++[.int .u32 (399518125)]++[.int .u32 (73226087)])]
abbrev U3:U:=.bv ([.aG ([.aX 2 [[.aX 32 [bf [188,32,255,92,50,181,29,72,207,227,24,208,108,216,1,205,251,81,111,92,73,125,144,207,236,242,11,184,192,246,10,73]]]++[.aX 11 [[.int .u32 (4)]++[.aX 32 [bf [159,159,144,10,126,197,229,161,56,119,100,163,139,39,106,165,103,68,156,120,35,140,96,174,41,101,13,25,73,98,29,181]]]++[.int .u64 (2)]++[.int .u8 1]++[.str []]++[.int .u8 0]++[cf (0)]++[.int .u64 (0)]++[.str []]++[.int .u32 (399518125)]++[.int .u32 (73226087)]]],[.aX 32 [bf [33,138,136,249,119,7,166,174,108,156,48,173,162,158,214,252,180,176,246,238,229,50,220,163,240,190,222,60,6,183,72,215],bf [159,159,144,10,126,197,229,161,56,119,100,163,139,39,106,165,103,68,156,120,35,140,96,174,41,101,13,25,73,98,29,181]]]++[.aX 11 [[.int .u32 (4)]++[.aH]++[.int .u64 (0)]++[.int .u8 1]++[.str []]++[.int .u8 0]++[cf (0)]++[.int .u64 (0)]++[.str []]++[.int .u32 (375582489)]++[.int .u32 (77644329)],[.int .u32 (4)]++[.aX 32 [bf [33,138,136,249,119,7,166,174,108,156,48,173,162,158,214,252,180,176,246,238,229,50,220,163,240,190,222,60,6,183,72,215]]]++[.int .u64 (1)]++[.int .u8 1]++[.str []]++[.int .u8 0]++[cf (0)]++[.int .u64 (0)]++[.str []]++[.int .u32 (369156142)]++[.int .u32 (98181620)]]]]]++[.aX 32 [bf [188,32,255,92,50,181,29,72,207,227,24,208,108,216,1,205,251,81,111,92,73,125,144,207,236,242,11,184,192,246,10,73]]]++[cf (3)])]++[.aG (bf [188,32,255,92,50,181,29,72,207,227,24,208,108,216,1,205,251,81,111,92,73,125,144,207,236,242,11,184,192,246,10,73])]++[cf (0)])
theorem agF:gl Tryz.prog GS 89 UP U3:=
 kQ (P:=Tryz.prog) Tryz.checked.mixed bl (jW (h0.mem (ev yJ (ev o5 (ev (ji (gC Mc (jp))) (ev (ji (gC UN (jp))) (j3))))))) kq (orc:=jg [jl,ov,(67,true,iL [(Hk,Hl)]),(38,true,iL [(Me,Mg)])]) (fuel:=100000) (k:=60) (by kernel_rfl)
abbrev UQ:List U:=[cf (1)]++[cf (0)]++[.aX 32 [bf [33,138,136,249,119,7,166,174,108,156,48,173,162,158,214,252,180,176,246,238,229,50,220,163,240,190,222,60,6,183,72,215],bf [159,159,144,10,126,197,229,161,56,119,100,163,139,39,106,165,103,68,156,120,35,140,96,174,41,101,13,25,73,98,29,181],bf [188,32,255,92,50,181,29,72,207,227,24,208,108,216,1,205,251,81,111,92,73,125,144,207,236,242,11,184,192,246,10,73]]]++[.aX 1 (hr ([.bool false]++[.bool false]++[.bool true]++[.bool true]))]
abbrev U4:U:=.bv ([.aG ([cf (0)]++[.aX 32 [bf [33,138,136,249,119,7,166,174,108,156,48,173,162,158,214,252,180,176,246,238,229,50,220,163,240,190,222,60,6,183,72,215]]]++[.bool true])]++[cf (0)])
theorem agG:gl Tryz.prog GS 27 UQ U4:=
 kQ (P:=Tryz.prog) Tryz.checked.mixed bl (jW (h0.mem (j3))) kq (orc:=jg []) (fuel:=100000) (k:=60) (by kernel_rfl)
abbrev UR:List U:=[.aG ([.aX 32 [bf [33,138,136,249,119,7,166,174,108,156,48,173,162,158,214,252,180,176,246,238,229,50,220,163,240,190,222,60,6,183,72,215],bf [159,159,144,10,126,197,229,161,56,119,100,163,139,39,106,165,103,68,156,120,35,140,96,174,41,101,13,25,73,98,29,181],bf [188,32,255,92,50,181,29,72,207,227,24,208,108,216,1,205,251,81,111,92,73,125,144,207,236,242,11,184,192,246,10,73]]]++[.aX 11 [[.int .u32 (4)]++[.aH]++[.int .u64 (0)]++[.int .u8 1]++[.str []]++[.int .u8 0]++[cf (0)]++[.int .u64 (0)]++[.str []]++[.int .u32 (375582489)]++[.int .u32 (77644329)],[.int .u32 (4)]++[.aX 32 [bf [33,138,136,249,119,7,166,174,108,156,48,173,162,158,214,252,180,176,246,238,229,50,220,163,240,190,222,60,6,183,72,215]]]++[.int .u64 (1)]++[.int .u8 1]++[.str []]++[.int .u8 0]++[cf (0)]++[.int .u64 (0)]++[.str []]++[.int .u32 (369156142)]++[.int .u32 (98181620)],[.int .u32 (4)]++[.aX 32 [bf [159,159,144,10,126,197,229,161,56,119,100,163,139,39,106,165,103,68,156,120,35,140,96,174,41,101,13,25,73,98,29,181]]]++[.int .u64 (2)]++[.int .u8 1]++[.str []]++[.int .u8 0]++[cf (0)]++[.int .u64 (0)]++[.str []]++[.int .u32 (399518125)]++[.int .u32 (73226087)]]])]
abbrev U5:U:=cf (0)
theorem agH:gl Tryz.prog GS 38 UR U5:=
 kQ (P:=Tryz.prog) Tryz.checked.mixed bl (jW (h0.mem (ev yJ (ev o5 (ev (ji (gC DM (gC Hj (gC Mc (jp))))) (j3)))))) kq (orc:=jg [jl,ov,(67,true,iL [(Aw,Ay),(DO,DP),(Hk,Hl)])]) (fuel:=100000) (k:=60) (by kernel_rfl)
abbrev Ax:List U:=[.aG ([.aX 2 [[.aX 32 [bf [188,32,255,92,50,181,29,72,207,227,24,208,108,216,1,205,251,81,111,92,73,125,144,207,236,242,11,184,192,246,10,73]]]++[.aX 11 [[.int .u32 (4)]++[.aX 32 [bf [159,159,144,10,126,197,229,161,56,119,100,163,139,39,106,165,103,68,156,120,35,140,96,174,41,101,13,25,73,98,29,181]]]++[.int .u64 (2)]++[.int .u8 1]++[.str []]++[.int .u8 0]++[cf (0)]++[.int .u64 (0)]++[.str []]++[.int .u32 (399518125)]++[.int .u32 (73226087)]]],[.aX 32 [bf [33,138,136,249,119,7,166,174,108,156,48,173,162,158,214,252,180,176,246,238,229,50,220,163,240,190,222,60,6,183,72,215],bf [159,159,144,10,126,197,229,161,56,119,100,163,139,39,106,165,103,68,156,120,35,140,96,174,41,101,13,25,73,98,29,181]]]++[.aX 11 [[.int .u32 (4)]++[.aH]++[.int .u64 (0)]++[.int .u8 1]++[.str []]++[.int .u8 0]++[cf (0)]++[.int .u64 (0)]++[.str []]++[.int .u32 (375582489)]++[.int .u32 (77644329)],[.int .u32 (4)]++[.aX 32 [bf [33,138,136,249,119,7,166,174,108,156,48,173,162,158,214,252,180,176,246,238,229,50,220,163,240,190,222,60,6,183,72,215]]]++[.int .u64 (1)]++[.int .u8 1]++[.str []]++[.int .u8 0]++[cf (0)]++[.int .u64 (0)]++[.str []]++[.int .u32 (369156142)]++[.int .u32 (98181620)]]]]]++[.aX 32 [bf [188,32,255,92,50,181,29,72,207,227,24,208,108,216,1,205,251,81,111,92,73,125,144,207,236,242,11,184,192,246,10,73]]]++[cf (3)])]
abbrev Az:U:=.bv ([.aG ([.aX 32 [bf [33,138,136,249,119,7,166,174,108,156,48,173,162,158,214,252,180,176,246,238,229,50,220,163,240,190,222,60,6,183,72,215],bf [159,159,144,10,126,197,229,161,56,119,100,163,139,39,106,165,103,68,156,120,35,140,96,174,41,101,13,25,73,98,29,181],bf [188,32,255,92,50,181,29,72,207,227,24,208,108,216,1,205,251,81,111,92,73,125,144,207,236,242,11,184,192,246,10,73]]]++[.aX 11 [[.int .u32 (4)]++[.aH]++[.int .u64 (0)]++[.int .u8 1]++[.str []]++[.int .u8 0]++[cf (0)]++[.int .u64 (0)]++[.str []]++[.int .u32 (375582489)]++[.int .u32 (77644329)],[.int .u32 (4)]++[.aX 32 [bf [33,138,136,249,119,7,166,174,108,156,48,173,162,158,214,252,180,176,246,238,229,50,220,163,240,190,222,60,6,183,72,215]]]++[.int .u64 (1)]++[.int .u8 1]++[.str []]++[.int .u8 0]++[cf (0)]++[.int .u64 (0)]++[.str []]++[.int .u32 (369156142)]++[.int .u32 (98181620)],[.int .u32 (4)]++[.aX 32 [bf [159,159,144,10,126,197,229,161,56,119,100,163,139,39,106,165,103,68,156,120,35,140,96,174,41,101,13,25,73,98,29,181]]]++[.int .u64 (2)]++[.int .u8 1]++[.str []]++[.int .u8 0]++[cf (0)]++[.int .u64 (0)]++[.str []]++[.int .u32 (399518125)]++[.int .u32 (73226087)]]])]++[cf (0)])
theorem DN:gl Tryz.prog GS 134 Ax Az:=
 kQ (P:=Tryz.prog) Tryz.checked.mixed bl (jW (h0.mem (ev (ji (gC agH (jp))) (j3)))) kq (orc:=jg [(38,true,iL [(UR,U5)])]) (fuel:=100000) (k:=60) (by kernel_rfl)
abbrev US:List U:=[.aG ([cf (5)]++[.aX 2 [[.aX 32 [bf [188,32,255,92,50,181,29,72,207,227,24,208,108,216,1,205,251,81,111,92,73,125,144,207,236,242,11,184,192,246,10,73]]]++[.aX 11 [[.int .u32 (4)]++[.aX 32 [bf [159,159,144,10,126,197,229,161,56,119,100,163,139,39,106,165,103,68,156,120,35,140,96,174,41,101,13,25,73,98,29,181]]]++[.int .u64 (2)]++[.int .u8 1]++[.str []]++[.int .u8 0]++[cf (0)]++[.int .u64 (0)]++[.str []]++[.int .u32 (399518125)]++[.int .u32 (73226087)]]],[.aX 32 [bf [33,138,136,249,119,7,166,174,108,156,48,173,162,158,214,252,180,176,246,238,229,50,220,163,240,190,222,60,6,183,72,215],bf [159,159,144,10,126,197,229,161,56,119,100,163,139,39,106,165,103,68,156,120,35,140,96,174,41,101,13,25,73,98,29,181]]]++[.aX 11 [[.int .u32 (4)]++[.aH]++[.int .u64 (0)]++[.int .u8 1]++[.str []]++[.int .u8 0]++[cf (0)]++[.int .u64 (0)]++[.str []]++[.int .u32 (375582489)]++[.int .u32 (77644329)],[.int .u32 (4)]++[.aX 32 [bf [33,138,136,249,119,7,166,174,108,156,48,173,162,158,214,252,180,176,246,238,229,50,220,163,240,190,222,60,6,183,72,215]]]++[.int .u64 (1)]++[.int .u8 1]++[.str []]++[.int .u8 0]++[cf (0)]++[.int .u64 (0)]++[.str []]++[.int .u32 (369156142)]++[.int .u32 (98181620)]]]]]++[.aX 32 [bf [188,32,255,92,50,181,29,72,207,227,24,208,108,216,1,205,251,81,111,92,73,125,144,207,236,242,11,184,192,246,10,73]]]++[cf (3)]++[.aX 32 [bf [33,138,136,249,119,7,166,174,108,156,48,173,162,158,214,252,180,176,246,238,229,50,220,163,240,190,222,60,6,183,72,215],bf [159,159,144,10,126,197,229,161,56,119,100,163,139,39,106,165,103,68,156,120,35,140,96,174,41,101,13,25,73,98,29,181],bf [188,32,255,92,50,181,29,72,207,227,24,208,108,216,1,205,251,81,111,92,73,125,144,207,236,242,11,184,192,246,10,73]]])]++[.aG ([cf (1)]++[.aX 32 [bf [159,159,144,10,126,197,229,161,56,119,100,163,139,39,106,165,103,68,156,120,35,140,96,174,41,101,13,25,73,98,29,181]]]++[.bool false])]
abbrev U6:U:=.bool true
theorem agI:gl Tryz.prog GS 26 US U6:=
 kQ (P:=Tryz.prog) Tryz.checked.mixed bl (jW (h0.mem (ev (ji (gC DN (jp))) (j3)))) kq (orc:=jg [(134,true,iL [(Ax,Az)])]) (fuel:=100000) (k:=60) (by kernel_rfl)
abbrev UT:List U:=[.aG ([cf (5)]++[.aX 2 [[.aX 32 [bf [188,32,255,92,50,181,29,72,207,227,24,208,108,216,1,205,251,81,111,92,73,125,144,207,236,242,11,184,192,246,10,73]]]++[.aX 11 [[.int .u32 (4)]++[.aX 32 [bf [159,159,144,10,126,197,229,161,56,119,100,163,139,39,106,165,103,68,156,120,35,140,96,174,41,101,13,25,73,98,29,181]]]++[.int .u64 (2)]++[.int .u8 1]++[.str []]++[.int .u8 0]++[cf (0)]++[.int .u64 (0)]++[.str []]++[.int .u32 (399518125)]++[.int .u32 (73226087)]]],[.aX 32 [bf [33,138,136,249,119,7,166,174,108,156,48,173,162,158,214,252,180,176,246,238,229,50,220,163,240,190,222,60,6,183,72,215],bf [159,159,144,10,126,197,229,161,56,119,100,163,139,39,106,165,103,68,156,120,35,140,96,174,41,101,13,25,73,98,29,181]]]++[.aX 11 [[.int .u32 (4)]++[.aH]++[.int .u64 (0)]++[.int .u8 1]++[.str []]++[.int .u8 0]++[cf (0)]++[.int .u64 (0)]++[.str []]++[.int .u32 (375582489)]++[.int .u32 (77644329)],[.int .u32 (4)]++[.aX 32 [bf [33,138,136,249,119,7,166,174,108,156,48,173,162,158,214,252,180,176,246,238,229,50,220,163,240,190,222,60,6,183,72,215]]]++[.int .u64 (1)]++[.int .u8 1]++[.str []]++[.int .u8 0]++[cf (0)]++[.int .u64 (0)]++[.str []]++[.int .u32 (369156142)]++[.int .u32 (98181620)]]]]]++[.aX 32 [bf [188,32,255,92,50,181,29,72,207,227,24,208,108,216,1,205,251,81,111,92,73,125,144,207,236,242,11,184,192,246,10,73]]]++[cf (3)]++[.aX 32 [bf [33,138,136,249,119,7,166,174,108,156,48,173,162,158,214,252,180,176,246,238,229,50,220,163,240,190,222,60,6,183,72,215],bf [159,159,144,10,126,197,229,161,56,119,100,163,139,39,106,165,103,68,156,120,35,140,96,174,41,101,13,25,73,98,29,181],bf [188,32,255,92,50,181,29,72,207,227,24,208,108,216,1,205,251,81,111,92,73,125,144,207,236,242,11,184,192,246,10,73]]])]++[.aG ([cf (1)]++[.aX 32 [bf [159,159,144,10,126,197,229,161,56,119,100,163,139,39,106,165,103,68,156,120,35,140,96,174,41,101,13,25,73,98,29,181],bf [188,32,255,92,50,181,29,72,207,227,24,208,108,216,1,205,251,81,111,92,73,125,144,207,236,242,11,184,192,246,10,73]]]++[.bool false])]
abbrev U7:U:=.bool true
theorem agJ:gl Tryz.prog GS 26 UT U7:=
 kQ (P:=Tryz.prog) Tryz.checked.mixed bl (jW (h0.mem (ev (ji (gC DN (jp))) (j3)))) kq (orc:=jg [(134,true,iL [(Ax,Az)])]) (fuel:=100000) (k:=60) (by kernel_rfl)
abbrev UU:List U:=[.aG ([cf (5)]++[.aX 2 [[.aX 32 [bf [188,32,255,92,50,181,29,72,207,227,24,208,108,216,1,205,251,81,111,92,73,125,144,207,236,242,11,184,192,246,10,73]]]++[.aX 11 [[.int .u32 (4)]++[.aX 32 [bf [159,159,144,10,126,197,229,161,56,119,100,163,139,39,106,165,103,68,156,120,35,140,96,174,41,101,13,25,73,98,29,181]]]++[.int .u64 (2)]++[.int .u8 1]++[.str []]++[.int .u8 0]++[cf (0)]++[.int .u64 (0)]++[.str []]++[.int .u32 (399518125)]++[.int .u32 (73226087)]]],[.aX 32 [bf [33,138,136,249,119,7,166,174,108,156,48,173,162,158,214,252,180,176,246,238,229,50,220,163,240,190,222,60,6,183,72,215],bf [159,159,144,10,126,197,229,161,56,119,100,163,139,39,106,165,103,68,156,120,35,140,96,174,41,101,13,25,73,98,29,181]]]++[.aX 11 [[.int .u32 (4)]++[.aH]++[.int .u64 (0)]++[.int .u8 1]++[.str []]++[.int .u8 0]++[cf (0)]++[.int .u64 (0)]++[.str []]++[.int .u32 (375582489)]++[.int .u32 (77644329)],[.int .u32 (4)]++[.aX 32 [bf [33,138,136,249,119,7,166,174,108,156,48,173,162,158,214,252,180,176,246,238,229,50,220,163,240,190,222,60,6,183,72,215]]]++[.int .u64 (1)]++[.int .u8 1]++[.str []]++[.int .u8 0]++[cf (0)]++[.int .u64 (0)]++[.str []]++[.int .u32 (369156142)]++[.int .u32 (98181620)]]]]]++[.aX 32 [bf [188,32,255,92,50,181,29,72,207,227,24,208,108,216,1,205,251,81,111,92,73,125,144,207,236,242,11,184,192,246,10,73]]]++[cf (3)]++[.aX 32 [bf [33,138,136,249,119,7,166,174,108,156,48,173,162,158,214,252,180,176,246,238,229,50,220,163,240,190,222,60,6,183,72,215],bf [159,159,144,10,126,197,229,161,56,119,100,163,139,39,106,165,103,68,156,120,35,140,96,174,41,101,13,25,73,98,29,181],bf [188,32,255,92,50,181,29,72,207,227,24,208,108,216,1,205,251,81,111,92,73,125,144,207,236,242,11,184,192,246,10,73]]])]++[.aG ([cf (3)]++[.aH]++[.bool false])]
abbrev U8:U:=.bool true
theorem agK:gl Tryz.prog GS 26 UU U8:=
 kQ (P:=Tryz.prog) Tryz.checked.mixed bl (jW (h0.mem (ev (ji (gC DN (jp))) (j3)))) kq (orc:=jg [(134,true,iL [(Ax,Az)])]) (fuel:=100000) (k:=60) (by kernel_rfl)
abbrev UV:List U:=[.aG ([cf (5)]++[.aX 2 [[.aX 32 [bf [188,32,255,92,50,181,29,72,207,227,24,208,108,216,1,205,251,81,111,92,73,125,144,207,236,242,11,184,192,246,10,73]]]++[.aX 11 [[.int .u32 (4)]++[.aX 32 [bf [159,159,144,10,126,197,229,161,56,119,100,163,139,39,106,165,103,68,156,120,35,140,96,174,41,101,13,25,73,98,29,181]]]++[.int .u64 (2)]++[.int .u8 1]++[.str []]++[.int .u8 0]++[cf (0)]++[.int .u64 (0)]++[.str []]++[.int .u32 (399518125)]++[.int .u32 (73226087)]]],[.aX 32 [bf [33,138,136,249,119,7,166,174,108,156,48,173,162,158,214,252,180,176,246,238,229,50,220,163,240,190,222,60,6,183,72,215],bf [159,159,144,10,126,197,229,161,56,119,100,163,139,39,106,165,103,68,156,120,35,140,96,174,41,101,13,25,73,98,29,181]]]++[.aX 11 [[.int .u32 (4)]++[.aH]++[.int .u64 (0)]++[.int .u8 1]++[.str []]++[.int .u8 0]++[cf (0)]++[.int .u64 (0)]++[.str []]++[.int .u32 (375582489)]++[.int .u32 (77644329)],[.int .u32 (4)]++[.aX 32 [bf [33,138,136,249,119,7,166,174,108,156,48,173,162,158,214,252,180,176,246,238,229,50,220,163,240,190,222,60,6,183,72,215]]]++[.int .u64 (1)]++[.int .u8 1]++[.str []]++[.int .u8 0]++[cf (0)]++[.int .u64 (0)]++[.str []]++[.int .u32 (369156142)]++[.int .u32 (98181620)]]]]]++[.aX 32 [bf [188,32,255,92,50,181,29,72,207,227,24,208,108,216,1,205,251,81,111,92,73,125,144,207,236,242,11,184,192,246,10,73]]]++[cf (3)]++[.aX 32 [bf [33,138,136,249,119,7,166,174,108,156,48,173,162,158,214,252,180,176,246,238,229,50,220,163,240,190,222,60,6,183,72,215],bf [159,159,144,10,126,197,229,161,56,119,100,163,139,39,106,165,103,68,156,120,35,140,96,174,41,101,13,25,73,98,29,181],bf [188,32,255,92,50,181,29,72,207,227,24,208,108,216,1,205,251,81,111,92,73,125,144,207,236,242,11,184,192,246,10,73]]])]++[.aG ([cf (1)]++[.aX 32 [bf [188,32,255,92,50,181,29,72,207,227,24,208,108,216,1,205,251,81,111,92,73,125,144,207,236,242,11,184,192,246,10,73]]]++[.bool false])]++[cf (0)]
abbrev U9:U:=.bool true
theorem agL:gl Tryz.prog GS 25 UV U9:=
 kQ (P:=Tryz.prog) Tryz.checked.mixed bl (jW (h0.mem (ev (ji (gC DN (jp))) (j3)))) kq (orc:=jg [(134,true,iL [(Ax,Az)])]) (fuel:=100000) (k:=60) (by kernel_rfl)
abbrev UW:List U:=[.aG ([cf (5)]++[.aX 2 [[.aX 32 [bf [188,32,255,92,50,181,29,72,207,227,24,208,108,216,1,205,251,81,111,92,73,125,144,207,236,242,11,184,192,246,10,73]]]++[.aX 11 [[.int .u32 (4)]++[.aX 32 [bf [159,159,144,10,126,197,229,161,56,119,100,163,139,39,106,165,103,68,156,120,35,140,96,174,41,101,13,25,73,98,29,181]]]++[.int .u64 (2)]++[.int .u8 1]++[.str []]++[.int .u8 0]++[cf (0)]++[.int .u64 (0)]++[.str []]++[.int .u32 (399518125)]++[.int .u32 (73226087)]]],[.aX 32 [bf [33,138,136,249,119,7,166,174,108,156,48,173,162,158,214,252,180,176,246,238,229,50,220,163,240,190,222,60,6,183,72,215],bf [159,159,144,10,126,197,229,161,56,119,100,163,139,39,106,165,103,68,156,120,35,140,96,174,41,101,13,25,73,98,29,181]]]++[.aX 11 [[.int .u32 (4)]++[.aH]++[.int .u64 (0)]++[.int .u8 1]++[.str []]++[.int .u8 0]++[cf (0)]++[.int .u64 (0)]++[.str []]++[.int .u32 (375582489)]++[.int .u32 (77644329)],[.int .u32 (4)]++[.aX 32 [bf [33,138,136,249,119,7,166,174,108,156,48,173,162,158,214,252,180,176,246,238,229,50,220,163,240,190,222,60,6,183,72,215]]]++[.int .u64 (1)]++[.int .u8 1]++[.str []]++[.int .u8 0]++[cf (0)]++[.int .u64 (0)]++[.str []]++[.int .u32 (369156142)]++[.int .u32 (98181620)]]]]]++[.aX 32 [bf [188,32,255,92,50,181,29,72,207,227,24,208,108,216,1,205,251,81,111,92,73,125,144,207,236,242,11,184,192,246,10,73]]]++[cf (3)]++[.aX 32 [bf [33,138,136,249,119,7,166,174,108,156,48,173,162,158,214,252,180,176,246,238,229,50,220,163,240,190,222,60,6,183,72,215],bf [159,159,144,10,126,197,229,161,56,119,100,163,139,39,106,165,103,68,156,120,35,140,96,174,41,101,13,25,73,98,29,181],bf [188,32,255,92,50,181,29,72,207,227,24,208,108,216,1,205,251,81,111,92,73,125,144,207,236,242,11,184,192,246,10,73]]])]++[.aG ([cf (2)]++[.aX 32 [bf [188,32,255,92,50,181,29,72,207,227,24,208,108,216,1,205,251,81,111,92,73,125,144,207,236,242,11,184,192,246,10,73]]]++[.bool true])]++[cf (1)]
abbrev Va:U:=.bool true
theorem agM:gl Tryz.prog GS 25 UW Va:=
 kQ (P:=Tryz.prog) Tryz.checked.mixed bl (jW (h0.mem (ev (ji (gC DN (jp))) (j3)))) kq (orc:=jg [(134,true,iL [(Ax,Az)])]) (fuel:=100000) (k:=60) (by kernel_rfl)
theorem agS:dh Tryz.prog GS 29 [] [] (c:=⟨fun r _=>r=.bool true⟩) :=
 aag (jW (h0.mem (ev al3 (ev yJ (ev o5 (ev (ji (gC agL (gC agM (jp)))) (ev (ji (gC agI (gC agJ (gC agK (jp))))) (ev (ji (gC agG (jp))) (ev (ji (gC agN (gC agP (gC agF (jp))))) (ev (ji (gC DM (gC Hj (gC Mc (jp))))) (ev (ji (gC agR (jp))) (ev (ji (gC agE (gC agO (gC agQ (jp))))) (ev (ji (gC UM (jp))) (j3)))))))))))))) kq (orc:=jg [Yp,jl,ov,(25,true,iL [(UV,U9),(UW,Va)]),(26,true,iL [(US,U6),(UT,U7),(UU,U8)]),(27,true,iL [(UQ,U4)]),(89,true,iL [(UX,Vb),(UZ,Vd),(UP,U3)]),(67,true,iL [(Aw,Ay),(DO,DP),(Hk,Hl)]),(66,true,iL [(U1,Vf)]),(54,true,iL [(UO,U2),(UY,Vc),(U0,Ve)]),(38,true,iL [(Md,Mf)])]) (fuel:=100000) (k:=60) (by kernel_rfl)
theorem Zq:bA Tryz.prog GS 29 [] (.bool true) :=
 bW Tryz.checked.mixed bl (by
  obtain⟨r,l,ad,ae,aj⟩:=agS;exact⟨r,l,ad,ae,aP aj rfl⟩)
end Go.bY
