/-
  The graph of a store, in the program, walked.
-/
import Derived.Test.YtidejmkknleijaaGreatDoorHl
set_option linter.unusedVariables false
set_option linter.unusedSimpArgs false
set_option linter.unnecessarySimpa false
namespace Go.bV
open Go Go.Proofs
set_option maxRecDepth 100000
namespace Op
open hp
set_option maxHeartbeats 16000000 in
theorem an5 (s:gd) (ak:uF s) :bw Tryz.prog GS 66 [.aH (dL s)] (v8 s) :=by
 refine bQ Tryz.checked.mixed bj ?_;apply bn Tryz.func66 [];have bW:(dL s).length=5:=rfl;have n2:(List.drop 1 (dL s)).take 3=dS s.ef:=rfl;have HZ:(dL s).tail.take 3=dS s.ef:=rfl;have fU:∀ h,(dL s)[0]'h=.int .i64 s.cap:=fun _=>rfl
 have Ek:∀ h,(dL s)[3]'h=.int .i64 s.ef.a3:=fun _=>rfl
 have la:∀ h,(dL s)[4]'h=aA s.order:=fun _=>rfl
 have Bx:(dL s)[0]? = some (.int .i64 s.cap) :=rfl;have o4:(dL s)[3]? = some (.int .i64 s.ef.a3) :=rfl;have pN:(dL s)[4]? = some (aA s.order) :=rfl;have cG:cp (.aq 32) (aA s.order)=some (.int .i64 s.order.l.length) :=by simp[aA]
 have ib:=DB s.ef;have aP:=ap0 s.ef ak.ef;by_cases xo:m8 s.ef
 ·rw[abq xo] at aP;have ig:ho (eX (fi s.ef)) :=GL ak.ef;have V:=Ct xo.fq;have vl:=HS (fi s.ef);obtain⟨g,ax⟩:∃ g,g=eX (fi s.ef) :=⟨_,rfl⟩
  rw[<-ax] at aP ig V vl;have e0:=nf g.ids;have eR:=wL g.ops;have dO:cp (.aq 32) (aA g.ids)=some (.int .i64 g.ids.l.length) :=by simp[aA]
  unfold df b3 at aP;simp[bW,n2,HZ];refine a7 aP (by simp[a4,U.closed,ib]) ?_;have nB:=xo.GI;rw[<-vl] at nB;by_cases ad:s.cap<1
  ·have cR:¬ tc s:=fun h=>by have:=h.bS; omega
   rw[CN cR];simp[e0,eR,bf,bW,fU,ad];exact aU rfl rfl
  ·by_cases ae:40<s.cap
   ·have cR:¬ tc s:=fun h=>by have:=h.ac9; omega
    rw[CN cR];simp[e0,eR,bf,bW,fU,ad,ae];exact aU rfl rfl
   ·by_cases aj:s.cap<s.ef.a3
    ·have cR:¬ tc s:=fun h=>by have:=h.GI; omega
     rw[CN cR];simp[e0,eR,bf,bW,fU,Ek,ad,ae,aj];exact aU rfl rfl
    ·by_cases aD:s.order.l.length=g.ids.l.length
     ·have dh:∀ b:Bool,(sJ g s.order.l=b)->v8 s=if b=true then .bq [.aH [aA g.ids,bF g.ops],.int .i64 0] else .bq [.aH [.aG,.aG],.int .i64 8] :=fun b af=>by
       cases b with
       | true=>
        have NV:tc s:=⟨by omega,by omega,xo,by omega,by rw[nB]; congr 1,by rw[<-ax]; exact af⟩
        rw[aoo NV,ax]; rfl
       | false=>
        have cR:¬ tc s:=fun h=>by have:=h.ord; rw[<-ax,af] at this; cases this
        rw[CN cR]; rfl
      have hK:∀ i,i<s.order.l.length->p8 g s.order.l i=false->v8 s=.bq [.aH [.aG,.aG],.int .i64 8] :=fun i ay aF=>by
       refine dh false ?_;unfold sJ;exact decide_eq_false fun h=>by have:=h i ay; rw[aF] at this; cases this
      have dE:(∀ j,j<s.order.l.length->p8 g s.order.l j=true)->v8 s=.bq [.aH [aA g.ids,bF g.ops],.int .i64 0] :=fun h=>dh true (decide_eq_true h)
      simp[e0,eR,bf,bW,fU,Ek,la,ad,ae,aj,cG,dO,aD];refine cl s.order.l.length (fun i σ l=>σ 1=.ptr 0 0 5/\σ 2=.ptr 1 0 2/\σ 4=.ptr 2 0 2/\σ 48=aA s.order/\σ 49=.int .i64 s.order.l.length/\σ 50=.int .i64 i/\l[0]? = some (.cells 5 (dL s))/\l[1]? = some (.cells 2 [.aG,.aG])/\l[2]? = some (.cells 2 [aA g.ids,bF g.ops])/\∀ j,j<i->p8 g s.order.l j=true) ?_ ⟨by simp,by simp,by simp,by simp,by simp[aD],by simp,rfl,rfl,rfl,fun j ai=>by omega⟩;rintro i σ l ay ⟨aK,aW,bi,UD,Bn,Bo,cI,q1,dn,jj⟩;obtain⟨σ,rfl⟩:=we aK aW bi UD Bn Bo;clear aK aW bi UD Bn Bo;have cR:=ak.no;have aS:IntKind.i64.wrap ((i:Int)+1)=((i+1:Nat) :Int) :=by rw[IntKind.wrap_i64]; omega
      by_cases ec:i<s.order.l.length
      ·obtain⟨x,ag,c3⟩:=bJ ec;have e7:=ak.order x c3;have bp:=dq e7;have fW:=g2 x;have ed:=zL ag;have aip:fm (.aq 32) (aA s.order) none (some (.int .i64 (i:Int))) (some (.int .i64 (i:Int)))=some (aA (kz s.order i)) :=aoZ (by omega);have IY:ds (kz s.order i) :=fun z aw=>ak.order z (by rw[us] at aw; exact axp aw)
       have Vf:(kz s.order i).l.length<=1000000:=by rw[us,axd]; omega
       have mo:=Z6 g.ids ig.ids ig.li x e7 V.dR;have c7:=KG (kz s.order i) IY Vf x e7;rw[us] at c7;have fF:=dd g.ids;have Ez:=dd (kz s.order i);have mt:=nf (kz s.order i);have cM:p8 g s.order.l i=(decide (x∈g.ids.l)&&(!decide (x∈s.order.l.take i)&&na (s.order.l.take i) (e1 g.ops.l (hy x g.ids.l 0).toNat))) :=by unfold p8; rw[gu ag]
       obtain⟨X,cW⟩:∃ X,X=a5 x:=⟨_,rfl⟩
       rw[<-cW] at bp fW ed mo c7;have hJ:X.take 32=X:=awR (by omega);have iU:bf (rep 32 (.int .u8 0)) 0 X=X:=gw (by rw[bp]; rfl);have mH:∀ m:ap,(l++m)[0]? = some (.cells 5 (dL s)) :=fun m=>by rw[awS (cd cI)]; exact cI
       have g1:∀ m:ap,(l++m)[1]? = some (.cells 2 [.aG,.aG]) :=fun m=>by rw[awS (cd q1)]; exact q1
       have gy:∀ m:ap,(l++m)[2]? = some (.cells 2 [aA g.ids,bF g.ops]) :=fun m=>by rw[awS (cd dn)]; exact dn
       have GU:∀ (m:ap) (h:0<(l++m).length),(l++m)[0]'h=.cells 5 (dL s) :=fun m h=>(awQ.1 (mH m)).2
       have abE:∀ (m:ap) (h:1<(l++m).length),(l++m)[1]'h=.cells 2 [.aG,.aG] :=fun m h=>(awQ.1 (g1 m)).2
       have jq:∀ (m:ap) (c:aV),((l++m).set 1 c)[1]? = some c:=fun m c=>axb (cd (g1 m))
       simp[ec,ed,bp,hJ,iU,mH,GU,bW,pN,la,aip,mt,gy];refine a7 mo (by simp[a4,U.closed,fF,fW]) ?_;by_cases hm:x∈g.ids.l
       ·obtain⟨a,aE⟩:=aw3.1 hm;have r8:=LD V.dR aE;have ic:=(awQ.1 aE).1;obtain⟨o,av,eQ⟩:=bJ (l:=g.ops.l) (k:=a) (by rw[<-V.len]; exact (awQ.1 aE).1);have nx:=ig.ops o eQ;have o8:=W1 av;have Mz:=Jn (xx V.dR) aE;rw[decide_eq_true hm,Mz,axq,Cy av,ayn] at cM;simp[hm,r8,bp,hJ];refine a7 c7 (by simp[a4,U.closed,Ez,fW]) ?_;by_cases bv:x∈s.order.l.take i
        ·rw[decide_eq_true bv] at cM;rw[hK i ec (by rw[cM]; rfl)];simp[bv,g1,abE,jq,bf];exact aU rfl rfl
        ·rw[decide_eq_false bv] at cM;have o3:(bd o)[1]? = some (aA o.bo) :=rfl;have pK:∀ h,(bd o)[1]'h=aA o.bo:=fun _=>rfl
         have pM:(bd o).length=11:=rfl;obtain⟨L,eN⟩:∃ L,L=l++[aV.cells 32 X,aV.cells 1 [aA (kz s.order i)]] :=⟨_,rfl⟩
         have aqh:L[l.length+1]? = some (.cells 1 [aA (kz s.order i)]) :=by rw[eN]; simp
         have iR:=aen (kz s.order i) IY Vf aqh o.bo.l nx.ids;have w2:L[2]? = some (.cells 2 [aA g.ids,bF g.ops]) :=by rw[eN]; exact gy _
         have bO:L[1]? = some (.cells 2 [.aG,.aG]) :=by rw[eN]; exact g1 _
         have g9:L[0]? = some (.cells 5 (dL s)) :=by rw[eN]; exact mH _
         simp[bv,gy,w2,o8,o3,pK,pM,<-eN];refine TM o.bo nx.ids nx.len (by kernel_rfl) iR fun br am=>?_
         have ox:br[0]? = some (.cells 5 (dL s)) :=by rw[am.2 0 (cd g9)]; exact g9
         have da:br[1]? = some (.cells 2 [.aG,.aG]) :=by rw[am.2 1 (cd bO)]; exact bO
         have dj:br[2]? = some (.cells 2 [aA g.ids,bF g.ops]) :=by rw[am.2 2 (cd w2)]; exact w2
         have gA:(o.bo.l.any fun p=>!decide (p∈(kz s.order i).l))=!na (s.order.l.take i) o.bo.l:=by
          rw[us,azp,ayJ,ayD];unfold na;rw[decide_eq_false_iff_not];constructor
          ·rintro⟨p,au,aC⟩ h; have:=h p au; simp[this] at aC
          ·intro h;refine Classical.byContradiction fun cR=>h fun p au=>Classical.byContradiction fun aC=>cR ⟨p,au,by simp[aC]⟩
         rw[gA];cases dr:na (s.order.l.take i) o.bo.l with
         | true=>
          rw[dr] at cM;simp[aS];refine⟨ec,ox,da,dj,fun j ai=>?_⟩;by_cases jW:j=i
          ·rw[jW,cM]; rfl
          ·exact jj j (by omega)
         | false=>
          rw[dr] at cM;rw[hK i ec (by rw[cM]; rfl)];have rs:∀ c:aV,(br.set 1 c)[1]? = some c:=fun c=>axb (cd da)
          simp[da,rs,bf];exact aU rfl rfl
       ·rw[decide_eq_false hm,azf] at cM;rw[hK i ec cM];simp[hm,g1,abE,jq,bf];exact aU rfl rfl
      ·have c7:i=s.order.l.length:=by omega
       subst c7;rw[dE fun j ai=>jj j ai];have jq:∀ c:aV,(l.set 1 c)[1]? = some c:=fun c=>axb (cd q1)
       simp[dn,q1,jq,e0,eR,bf];exact aU rfl (by have ad:=dd g.ids; have ae:=mc g.ops; simp[U.closed,a4,ad,ae])
     ·have cR:¬ tc s:=fun h=>by have:=h.le; rw[nB] at this; exact aD (by omega)
      have pI:¬ (s.order.l.length:Int)=g.ids.l.length:=by omega
      rw[CN cR];simp[e0,eR,bf,bW,fU,Ek,la,ad,ae,aj,cG,dO,aD,pI];exact aU rfl rfl
 ·have cR:¬ tc s:=fun h=>xo h.ef
  rw[yz xo] at aP;rw[CN cR];simp[bW,n2,HZ];refine a7 aP (by simp[a4,U.closed,ib]) ?_;simp[bf];exact aU rfl rfl
theorem Z4 (s:gd) (ak:uF s) :bw Tryz.prog GS 60 [.aH (dL s)] (.int .i64 (g8 s)) :=by
 refine bQ Tryz.checked.mixed bj ?_;apply bn Tryz.func60 [];have bW:(dL s).length=5:=rfl;have iI:(dL s).take 5=dL s:=rfl;have ib:=yS s;have aP:=an5 s ak;have zI:v8 s=.bq [.aH [aA (Ak s).ids,bF (Ak s).ops],.int .i64 (g8 s)] :=rfl;rw[zI] at aP;have e0:=nf (Ak s).ids;have eR:=wL (Ak s).ops;simp[bW,iI];refine a7 aP (by simp[a4,U.closed,ib]) ?_;simp[e0,eR,bf];exact aU rfl rfl
theorem an8 (s:gd) (ak:uF s) (aJ:g8 s=0) (n:Nat) (aC:n<=s.order.l.length) :bw Tryz.prog GS 32 [.aH (dL s),.int .i64 n] (.bq [aA (m3 s.order n),.int .i64 0]) :=by
 refine bQ Tryz.checked.mixed bj ?_;apply bn Tryz.func32 [];have bW:(dL s).length=5:=rfl;have iI:(dL s).take 5=dL s:=rfl;have pN:(dL s)[4]? = some (aA s.order) :=rfl;have la:∀ h,(dL s)[4]'h=aA s.order:=fun _=>rfl
 have ib:=yS s;have cR:=ak.no;have aP:=Z4 s ak;have cG:cp (.aq 32) (aA s.order)=some (.int .i64 s.order.l.length) :=by simp[aA]
 have jy:fm (.aq 32) (aA s.order) (some (.int .i64 (n:Int))) none none=some (aA (m3 s.order n)) :=Qd aC;have eb:=N3 (m3 s.order n) (fun x ag=>ak.order x (by rw[yj] at ag; exact ayu ag)) (by rw[yj,axP]; omega);have c8:=dd (m3 s.order n);have cX:¬ (n:Int)<0:=by omega
 have dY:¬ (s.order.l.length:Int)<(n:Int) :=by omega
 have gY:¬ s.order.l.length<n:=by omega
 simp[bW,iI];refine a7 aP (by simp[a4,U.closed,ib]) ?_;simp[aJ,bW,pN,la,cG,cX,dY,gY,jy];refine a7 eb (by simp[a4,c8]) ?_;simp;exact aU rfl (by simp[U.closed,a4,c8])
structure i6 where
 iq:Int
 ids:dk
 dy:Bool
def hs (d:i6) :List U:=[.int .i64 d.iq,aA d.ids,.bool d.dy]
structure G2 (d:i6) :Prop where
 ids:ds d.ids
 ali:d.ids.l.length<=1000
theorem Hz (d:i6) :a4 (hs d)=true:=by simp[hs,a4,U.closed,dd]
def wZ (d:i6) :Int:=if d.iq<0\/60<d.iq then 2 else if 60<d.ids.l.length then 4 else 0
noncomputable def k5 (s:gd) (d:i6) :Int:=if g8 s=0 then wZ d else g8 s
def ti (o ids:List (List B)) (n i:Nat) :Bool:=!decide (o[n+i]? = some (b2 ids i))
def tu (o ids:List (List B)) (n:Nat) :Option Nat:=(List.range ids.length).find? (ti o ids n)
theorem Ut {o ids:List (List B)} {n i:Nat} (ay:i<ids.length) (h:ti o ids n i=true) (af:∀ j,j<i->ti o ids n j=false) :tu o ids n=some i:=by
 unfold tu;rw[azL];exact⟨h,axz.2 ay,fun j ai=>by rw[af j ai]; rfl⟩
theorem Uu {o ids:List (List B)} {n:Nat} (af:∀ j,j<ids.length->ti o ids n j=false) :tu o ids n=none:=by
 unfold tu;rw[List.find?_range_eq_none];exact fun j ai=>by rw[af j ai]; rfl
def Az (s:gd) (d:i6) :Int:=if (s.order.l.length:Int)<d.iq+d.ids.l.length\/(d.dy=true/\d.iq+d.ids.l.length=(s.order.l.length:Int)) then d.ids.l.length else -1
def mG (s:gd) (d:i6) :Int:=match tu s.order.l d.ids.l d.iq.toNat with | some i=>i | none=>Az s d
theorem abw {s:gd} {d:i6} {i:Nat} (h:tu s.order.l d.ids.l d.iq.toNat=some i) :mG s d=i:=by unfold mG; rw[h]
theorem QC {s:gd} {d:i6} (h:tu s.order.l d.ids.l d.iq.toNat=none) :mG s d=Az s d:=by unfold mG; rw[h]
theorem ad6 {d:i6} (h:wZ d=0) :0<=d.iq/\d.iq<=60/\d.ids.l.length<=60:=by
 unfold wZ at h;split at h
 ·cases h
 ·split at h
  ·cases h
  ·rename_i ad ae;omega
theorem adV (d:i6) :bw Tryz.prog GS 19 [.aH (hs d)] (.int .i64 (wZ d)) :=by
 refine bQ Tryz.checked.mixed bj ?_;apply bn Tryz.func19 [];have dO:cp (.aq 32) (aA d.ids)=some (.int .i64 d.ids.l.length) :=by simp[aA]
 unfold wZ;by_cases ad:d.iq<0
 ·simp[hs,ad]; exact aU rfl rfl
 ·by_cases ae:60<d.iq
  ·simp[hs,ad,ae]; exact aU rfl rfl
  ·by_cases aj:60<d.ids.l.length
   ·have k9:(60:Int)<d.ids.l.length:=by omega
    simp[hs,ad,ae,dO,aj,k9]; exact aU rfl rfl
   ·have k9:¬ (60:Int)<d.ids.l.length:=by omega
    simp[hs,ad,ae,dO,aj,k9]; exact aU rfl rfl
theorem acC {o ids:List (List B)} {n i:Nat} {x y:List B} (ag:ids[i]? = some x) (aI:o[n+i]? = some y) :ti o ids n i=!decide (y=x) :=by
 unfold ti;rw[gu ag,aI,azp,ayD,ayD,decide_eq_false_iff_not,decide_eq_false_iff_not,Option.some.injEq]
theorem Rq {o ids:List (List B)} {n i:Nat} (h:o.length<=n+i) :ti o ids n i=true:=by
 unfold ti;rw[aw5 h]; rfl
noncomputable def yN (s:gd) (d:i6) :U:=if k5 s d=0 then .bq [.int .i64 (if 0<=mG s d then mG s d else 0),.bool (decide (0<=mG s d)),.int .i64 0] else .bq [.int .i64 0,.bool false,.int .i64 (k5 s d)]
theorem Ha {s:gd} {d:i6} {e:Int} (h:k5 s d=e) (aJ:e≠0) :yN s d=.bq [.int .i64 0,.bool false,.int .i64 e] :=by unfold yN; rw[h,if_neg aJ]
theorem AM {s:gd} {d:i6} {n:Nat} (h:k5 s d=0) (aJ:mG s d=n) :yN s d=.bq [.int .i64 n,.bool true,.int .i64 0] :=by
 unfold yN; rw[if_pos h,aJ,if_pos (by omega),decide_eq_true (by omega)]
theorem Hb {s:gd} {d:i6} (h:k5 s d=0) (aJ:mG s d=-1) :yN s d=.bq [.int .i64 0,.bool false,.int .i64 0] :=by
 unfold yN; rw[if_pos h,aJ]; rfl
set_option maxHeartbeats 16000000 in
theorem QZ (s:gd) (ak:uF s) (d:i6) (bg:G2 d) :bw Tryz.prog GS 43 [.aH (dL s),.aH (hs d)] (yN s d) :=by
 refine bQ Tryz.checked.mixed bj ?_;apply bn Tryz.func43 [];have cR:=ak.no;have zu:=bg.ali;have cG:cp (.aq 32) (aA s.order)=some (.int .i64 s.order.l.length) :=by simp[aA]
 have dO:cp (.aq 32) (aA d.ids)=some (.int .i64 d.ids.l.length) :=by simp[aA]
 have bW:(dL s).length=5:=rfl;have iI:(dL s).take 5=dL s:=rfl;have ib:=yS s;have ji:(hs d).length=3:=rfl;have va:(hs d).take 3=hs d:=rfl;have u9:=Hz d;have pN:(dL s)[4]? = some (aA s.order) :=rfl;have la:∀ h,(dL s)[4]'h=aA s.order:=fun _=>rfl
 have Ea:∀ h,(hs d)[0]'h=.int .i64 d.iq:=fun _=>rfl
 have Eb:∀ h,(hs d)[1]'h=aA d.ids:=fun _=>rfl
 have Ec:∀ h,(hs d)[2]'h=.bool d.dy:=fun _=>rfl
 have Ed:(hs d)[0]? = some (.int .i64 d.iq) :=rfl;have pK:(hs d)[1]? = some (aA d.ids) :=rfl;have Bt:(hs d)[2]? = some (.bool d.dy) :=rfl;have aP:=Z4 s ak;have ar:=adV d;by_cases aJ:g8 s=0
 ·by_cases aw:wZ d=0
  ·have aE:k5 s d=0:=by unfold k5; rw[if_pos aJ]; exact aw
   obtain⟨g1,gy,yA⟩:=ad6 aw;obtain⟨n,aC⟩:∃ n:Nat,d.iq=(n:Int) :=⟨d.iq.toNat,by omega⟩
   have WR:∀ i,tu s.order.l d.ids.l n=some i->mG s d=i:=fun i h=>abw (by rw[aC,axq]; exact h)
   have NT:tu s.order.l d.ids.l n=none->mG s d=Az s d:=fun h=>QC (by rw[aC,axq]; exact h)
   have aiK:Az s d=if (s.order.l.length:Int)<(n:Int)+d.ids.l.length\/(d.dy=true/\(n:Int)+d.ids.l.length=(s.order.l.length:Int)) then (d.ids.l.length:Int) else -1:=by unfold Az; rw[aC]
   obtain⟨m,hm⟩:∃ m,m=min n s.order.l.length:=⟨_,rfl⟩
   have ET:min (n:Int) (s.order.l.length:Int)=(m:Int) :=by omega
   have oi:xO (.int .i64 (n:Int)) (.int .i64 (s.order.l.length:Int))=some (.int .i64 (m:Int)) :=by
    unfold xO;simp[ET];omega
   have jy:fm (.aq 32) (aA s.order) (some (.int .i64 (m:Int))) none none=some (aA (m3 s.order m)) :=Qd (by omega);have Ej:(m3 s.order m).l.length=s.order.l.length - m:=by rw[yj,axP]
   have Vb:∀ i,(m3 s.order m).l[i]? = s.order.l[n+i]?:=fun i=>by
    rw[yj,axv];by_cases h:n<=s.order.l.length
    ·rw[hm,ayh h]
    ·rw[aw5 (by omega),aw5 (by omega)]
   obtain⟨R,jg⟩:∃ R,R=m3 s.order m:=⟨_,rfl⟩
   rw[<-jg] at jy Ej Vb;have afY:ds R:=fun x ag=>by rw[jg,yj] at ag; exact ak.order x (ayu ag)
   have IP:cp (.aq 32) (aA R)=some (.int .i64 R.l.length) :=by simp[aA]
   simp[bW,iI];refine a7 aP (by simp[a4,U.closed,ib]) ?_;simp[aJ,ji,va];refine a7 ar (by simp[a4,U.closed,u9]) ?_;simp[aw,bW,pN,la,ji,Ea,Eb,Ed,pK,aC,cG,dO,oi,jy];refine cl d.ids.l.length (fun i σ l=>σ 2=.ptr 0 0 5/\σ 3=.ptr 1 0 3/\σ 9=aA R/\σ 32=aA d.ids/\σ 33=.int .i64 d.ids.l.length/\σ 34=.int .i64 i/\l[0]? = some (.cells 5 (dL s))/\l[1]? = some (.cells 3 (hs d))/\∀ j,j<i->ti s.order.l d.ids.l n j=false) ?_ ⟨by simp,by simp,by simp,by simp,by simp,by simp,rfl,rfl,fun j ai=>by omega⟩;rintro i σ l ay ⟨aW,a6,g4,o0,jT,jU,cI,q1,jj⟩;obtain⟨σ,rfl⟩:=we aW a6 g4 o0 jT jU;clear aW a6 g4 o0 jT jU;have aS:IntKind.i64.wrap ((i:Int)+1)=((i+1:Nat) :Int) :=by rw[IntKind.wrap_i64]; omega
   by_cases ec:i<d.ids.l.length
   ·obtain⟨x,ag,c3⟩:=bJ ec;have e7:=bg.ids x c3;have bp:=dq e7;have ed:=zL ag;obtain⟨X,cW⟩:∃ X,X=a5 x:=⟨_,rfl⟩
    rw[<-cW] at bp ed;have hJ:X.take 32=X:=awR (by omega);have iU:bf (rep 32 (.int .u8 0)) 0 X=X:=gw (by rw[bp]; rfl);have g9:∀ c:aV,(l++[c])[0]? = some (.cells 5 (dL s)) :=fun c=>by rw[awS (cd cI)]; exact cI
    have bO:∀ c:aV,(l++[c])[1]? = some (.cells 3 (hs d)) :=fun c=>by rw[awS (cd q1)]; exact q1
    by_cases av:i<R.l.length
    ·obtain⟨y,aI,en⟩:=bJ av;have aiO:s.order.l[n+i]? = some y:=by rw[<-Vb]; exact aI
     have xq:=afY y en;have fI:=dq xq;have oc:=zL aI;have bY:=zM xq e7;have ve:=acC ag aiO;have dT:¬ R.l.length<=i:=by omega
     obtain⟨Y,he⟩:∃ Y,Y=a5 y:=⟨_,rfl⟩
     rw[<-he] at fI oc bY;rw[<-cW] at bY;have H5:Y.take 32=Y:=awR (by omega);simp[ec,ed,bp,hJ,iU,IP,dT,oc,fI,H5,bY];by_cases mr:y=x
     ·rw[decide_eq_true mr] at ve;simp[mr,aS];refine⟨ec,(awQ.1 (g9 _)).2,bO _,fun j ai=>?_⟩;by_cases jW:j=i
      ·rw[jW,ve]; rfl
      ·exact jj j (by omega)
     ·rw[decide_eq_false mr] at ve;rw[AM aE (WR i (Ut ec (by rw[ve]; rfl) jj))];simp[mr];exact aU rfl rfl
    ·have dT:R.l.length<=i:=by omega
     rw[AM aE (WR i (Ut ec (Rq (by omega)) jj))];simp[ec,ed,bp,hJ,iU,IP,dT];exact aU rfl rfl
   ·have c7:i=d.ids.l.length:=by omega
    subst c7;have lT:=NT (Uu jj);rw[aiK] at lT;have dE:n+d.ids.l.length<=s.order.l.length\/d.ids.l.length=0:=by
     by_cases h:d.ids.l.length=0
     ·exact .inr h
     ·left;have:=jj (d.ids.l.length - 1) (by omega);refine Classical.byContradiction fun aT=>?_
      rw[Rq (by omega)] at this; cases this
    by_cases ad:s.order.l.length<n
    ·rw[if_pos (.inl (by omega))] at lT;rw[AM aE lT];simp[cI,q1,bW,pN,la,ji,Ea,Eb,Ed,pK,aC,cG,dO,ad];exact aU rfl rfl
    ·have aj:¬ (s.order.l.length:Int)<(n:Int)+d.ids.l.length:=by omega
     cases zp:d.dy with
     | true=>
      by_cases ae:R.l.length=d.ids.l.length
      ·rw[if_pos (.inr ⟨zp,by omega⟩)] at lT;rw[AM aE lT];simp[cI,q1,bW,pN,la,ji,Ea,Eb,Ec,Ed,pK,Bt,aC,cG,dO,ad,zp,IP,ae];exact aU rfl rfl
      ·have e5:¬ (R.l.length:Int)=d.ids.l.length:=by omega
       rw[if_neg (fun h=>h.elim aj fun h=>ae (by omega))] at lT;rw[Hb aE lT];simp[cI,q1,bW,pN,la,ji,Ea,Eb,Ec,Ed,pK,Bt,aC,cG,dO,ad,zp,IP,ae,e5];exact aU rfl rfl
     | false=>
      rw[if_neg (fun h=>h.elim aj fun h=>by rw[zp] at h; cases h.1)] at lT;rw[Hb aE lT];simp[cI,q1,bW,pN,la,ji,Ea,Eb,Ec,Ed,pK,Bt,aC,cG,dO,ad,zp];exact aU rfl rfl
  ·have aE:k5 s d=wZ d:=by unfold k5; rw[if_pos aJ]
   rw[Ha aE aw];simp[bW,iI];refine a7 aP (by simp[a4,U.closed,ib]) ?_;simp[aJ,ji,va];refine a7 ar (by simp[a4,U.closed,u9]) ?_;simp[aw];exact aU rfl rfl
 ·have aE:k5 s d=g8 s:=by unfold k5; rw[if_neg aJ]
  rw[Ha aE aJ];simp[bW,iI];refine a7 aP (by simp[a4,U.closed,ib]) ?_;simp[aJ];exact aU rfl rfl
theorem abx (s:gd) (d:i6) :(0<=mG s d)\/(mG s d=-1/\d.iq+d.ids.l.length<=(s.order.l.length:Int)) :=by
 cases h:tu s.order.l d.ids.l d.iq.toNat with
 | some i=>rw[abw h]; left; omega
 | none=>
  rw[QC h];unfold Az;split
  ·left; omega
  ·rename_i ad; right; exact⟨rfl,by omega⟩
noncomputable def PD (s:gd) (d:i6) :U:=if k5 s d=0 then .bq [.bool (decide (mG s d<0)),.int .i64 0] else .bq [.bool false,.int .i64 (k5 s d)]
noncomputable def QB (s:gd) (d:i6) :U:=if k5 s d=0 then (if mG s d<0 then .bq [.int .i64 0,.int .i64 6] else .bq [.int .i64 (mG s d),.int .i64 0]) else .bq [.int .i64 0,.int .i64 (k5 s d)]
section
variable (s:gd) (ak:uF s) (d:i6) (bg:G2 d)
include ak bg
theorem anK:bw Tryz.prog GS 11 [.aH (dL s),.aH (hs d)] (PD s d) :=by
 refine bQ Tryz.checked.mixed bj ?_;apply bn Tryz.func11 [];have bW:(dL s).length=5:=rfl;have iI:(dL s).take 5=dL s:=rfl;have ib:=yS s;have ji:(hs d).length=3:=rfl;have va:(hs d).take 3=hs d:=rfl;have u9:=Hz d;have aE:=QZ s ak d bg;unfold PD;simp[bW,iI,ji,va];refine a7 aE (by simp[a4,U.closed,ib,u9]) ?_;by_cases aJ:k5 s d=0
 ·rw[if_pos aJ];rcases abx s d with ad | ⟨ad,_⟩
  ·obtain⟨n,aC⟩:=axY ad;have:¬ (n:Int)<0:=by omega
   rw[AM aJ aC,aC];simp[this];exact aU rfl rfl
  ·rw[Hb aJ ad,ad];simp;exact aU rfl rfl
 ·rw[if_neg aJ,Ha rfl aJ];simp[aJ];exact aU rfl rfl
theorem aqw:bw Tryz.prog GS 13 [.aH (dL s),.aH (hs d)] (QB s d) :=by
 refine bQ Tryz.checked.mixed bj ?_;apply bn Tryz.func13 [];have bW:(dL s).length=5:=rfl;have iI:(dL s).take 5=dL s:=rfl;have ib:=yS s;have ji:(hs d).length=3:=rfl;have va:(hs d).take 3=hs d:=rfl;have u9:=Hz d;have aE:=QZ s ak d bg;unfold QB;simp[bW,iI,ji,va];refine a7 aE (by simp[a4,U.closed,ib,u9]) ?_;by_cases aJ:k5 s d=0
 ·rw[if_pos aJ];rcases abx s d with ad | ⟨ad,_⟩
  ·obtain⟨n,aC⟩:=axY ad;have:¬ (n:Int)<0:=by omega
   rw[AM aJ aC,aC,if_neg this];simp;exact aU rfl rfl
  ·rw[Hb aJ ad,ad];simp;exact aU rfl rfl
 ·rw[if_neg aJ,Ha rfl aJ];simp[aJ];exact aU rfl rfl
end
structure aqH (s:gd) (d:i6) (g:bz) (P:dk) (k:Nat) (σ:bc) (l:ap) :Prop where
 bi:σ 4=.ptr 2 0 2
 ei:σ 7=.ptr 3 0 2
 g4:σ 9=aA P
 gg:σ 10=.ptr 4 0 2
 asu:σ 39=aA g.ids
 u2:σ 40=.int .i64 g.ids.l.length
 u3:σ 41=.int .i64 k
 dn:l[2]? = some (.cells 2 [.aG,.aG])
 gF:l[3]? = some (.cells 2 [aA g.ids,bF g.ops])
 ex:∃ cu b4 e8 e9,l[4]? = some (.cells 2 [cu,b4])/\h6 l cu b4 e8 e9 5 ((l0 g P.l k).map (·.1)) ((l0 g P.l k).map (·.2))
section
variable (s:gd) (ak:uF s) (d:i6) (bg:G2 d)
include ak bg
end

end Op

end Go.bV

namespace Go.bV
open Go Go.Proofs Go.RowKit
set_option maxRecDepth 100000
namespace Op
open hp
structure G6 (g:bz) :Prop where
 ids:ds g.ids
 ops:∀ o∈g.ops.l,KZ o
theorem alP {g:bz} (h:G6 g) (ax:u5 g=false) :ho g:=by
 unfold u5 at ax;simp only[Bool.or_eq_false_iff,decide_eq_false_iff_not] at ax;obtain⟨ad,ae,aj,aD⟩:=ax;refine⟨h.ids,fun o av=>?_,by omega,by omega⟩;have a2:¬ u6 o=true:=fun aT=>ad ⟨o,by rw[awR (by omega)]; exact av,aT⟩
 unfold u6 at a2;simp only[ayN,decide_eq_true_eq,not_or] at a2;have aX:=h.ops o av;exact⟨aX.ids,by omega,⟨aX.jn,aX.rj,by omega⟩,by omega⟩
theorem aps {ts:List TypeId} {cs:List U} (h:dv Tryz.prog (47::ts) cs) :∃ (g:bz) (cs' : List U),cs=b3 g++cs'/\G6 g/\dv Tryz.prog ts cs':=by
 have aD:=At (fs:=[23,45]) (by kernel_rfl) h;obtain⟨i,_,rfl,ay,a2⟩:=Ar aD;obtain⟨s,_,rfl,_,av,bv⟩:=Gy (e:=94) (z:=11) (enc:=bd) (Q:=KZ) (by kernel_rfl) (by kernel_rfl) (fun r az=>by
  obtain⟨x,_,rfl,ag,aj⟩:=apv az;rw[As aj,axr];exact⟨x,rfl,ag⟩) a2
 exact⟨⟨i,s⟩,_,rfl,⟨ay,av⟩,bv⟩
structure K0 (s:gd) :Prop where
 parts:∀ p∈s.ef.parts.l,G6 p
 dF:ds s.ef.dF
 order:ds s.order
theorem apn {ts:List TypeId} {cs:List U} (h:js Tryz.prog (27::ts) cs) :∃ (s:gd) (cs' : List U),cs=.aH (dL s) ::cs'/\K0 s/\js Tryz.prog ts cs':=by
 obtain⟨c,cs',rfl,ad,ae⟩:=CX h;obtain⟨cs,rfl,aj⟩:=apo (by kernel_rfl) ad;have aD:=At (fs:=[3,25,23]) (by kernel_rfl) aj;obtain⟨n,_,rfl,_,_,a2⟩:=uw (k:=.i64) (by kernel_rfl) aD;have bv:=At (fs:=[22,23,3]) (by kernel_rfl) a2;obtain⟨p,_,rfl,_,au,dr⟩:=Gy (e:=47) (z:=2) (enc:=b3) (Q:=G6) (by kernel_rfl) (by kernel_rfl) (fun r az=>by
  obtain⟨x,_,rfl,ag,aj⟩:=aps az;rw[As aj,axr];exact⟨x,rfl,ag⟩) bv
 obtain⟨i,_,rfl,ay,gp⟩:=Ar dr;obtain⟨v,_,rfl,_,_,gh⟩:=uw (k:=.i64) (by kernel_rfl) gp;obtain⟨o,_,rfl,av,lK⟩:=Ar gh;rw[As lK];exact⟨⟨n,⟨p,i,v⟩,o⟩,cs',rfl,⟨au,ay,av⟩,ae⟩
theorem alS {s:gd} (h:K0 s) (ax:D5 s=false) :uF s:=by
 unfold D5 qU at ax;simp only[Bool.or_eq_false_iff,decide_eq_false_iff_not] at ax;obtain⟨⟨ad,ae,aj⟩,aD⟩:=ax;refine⟨⟨fun p au=>?_,by omega,h.dF,by omega⟩,h.order,by omega⟩;have a2:=List.any_eq_false.1 ad p (by rw[awR (by omega)]; exact au);unfold uM at a2;simp only[ayN,decide_eq_true_eq,not_or] at a2;obtain⟨bv,dr,gp⟩:=a2;exact⟨alP (h.parts p au) (by simpa using gp),by omega,by omega⟩
theorem ajA (s:gd) (ak:uF s) (d:i6) (bg:G2 d) (h:k5 s d=0) (aP:mG s d=-1) :bw Tryz.prog GS 26 [.aH (dL s),.aH (hs d)] (.bool true) :=by
 refine bQ Tryz.checked.mixed bj ?_;apply bn Tryz.func26 [];have bW:(dL s).length=5:=rfl;have iI:(dL s).take 5=dL s:=rfl;have ib:=yS s;have ji:(hs d).length=3:=rfl;have va:(hs d).take 3=hs d:=rfl;have u9:=Hz d;have NA:=anK s ak d bg;have lT:=aqw s ak d bg;unfold PD at NA;unfold QB at lT;rw[if_pos h,aP] at NA lT;simp[bW,iI,ji,va];refine a7 NA (by simp[a4,U.closed,ib,u9]) ?_;simp[bW,iI,ji,va];refine a7 lT (by simp[a4,U.closed,ib,u9]) ?_;simp;exact aU rfl rfl
end Op

end Go.bV

namespace Go.bV
open Go Go.Proofs
set_option maxRecDepth 1000000
set_option maxHeartbeats 8000000
abbrev Xm:List U:=[.int .u32 (1)]++[.aH ([.int .u32 (0)]++[.aG]++[.int .u64 (0)]++[.int .u8 1]++[.str []]++[.int .u8 0]++[cq (0)]++[.int .u64 (0)]++[.str []]++[.int .u32 (0)]++[.int .u32 (0)])]
abbrev XA:U:=.bq ([.aH ([.int .u32 (4)]++[.aG]++[.int .u64 (0)]++[.int .u8 1]++[.str []]++[.int .u8 0]++[cq (0)]++[.int .u64 (0)]++[.str []]++[.int .u32 (375582489)]++[.int .u32 (77644329)])]++[cq (0)])
theorem ajG:gI Tryz.prog GS 54 Xm XA:=
 lA (P:=Tryz.prog) Tryz.checked.mixed bj (kw (im.mem (eG Cw (eG qb (kE))))) k0 (orc:=jE [z8,pp]) (fuel:=100000) (k:=60) (by kernel_rfl)
abbrev Cg:List U:=[.aH ([.int .u32 (4)]++[.aG]++[.int .u64 (0)]++[.int .u8 1]++[.str []]++[.int .u8 0]++[cq (0)]++[.int .u64 (0)]++[.str []]++[.int .u32 (375582489)]++[.int .u32 (77644329)])]
abbrev Ci:U:=cq (0)
theorem FB:gI Tryz.prog GS 67 Cg Ci:=
 lA (P:=Tryz.prog) Tryz.checked.mixed bj (kw (im.mem (eG Cw (eG qb (kE))))) k0 (orc:=jE [z8,pp]) (fuel:=100000) (k:=60) (by kernel_rfl)
abbrev Xv:List U:=[.aH ([.a1 2 [[.aG]++[.aG],[.aG]++[.aG]]]++[.aG]++[cq (0)])]++[.aH ([.int .u32 (4)]++[.aG]++[.int .u64 (0)]++[.int .u8 1]++[.str []]++[.int .u8 0]++[cq (0)]++[.int .u64 (0)]++[.str []]++[.int .u32 (375582489)]++[.int .u32 (77644329)])]
abbrev XJ:U:=.bq ([.aH ([.a1 2 [[.aG]++[.aG],[.a1 32 [bl [33,138,136,249,119,7,166,174,108,156,48,173,162,158,214,252,180,176,246,238,229,50,220,163,240,190,222,60,6,183,72,215]]]++[.a1 11 [[.int .u32 (4)]++[.aG]++[.int .u64 (0)]++[.int .u8 1]++[.str []]++[.int .u8 0]++[cq (0)]++[.int .u64 (0)]++[.str []]++[.int .u32 (375582489)]++[.int .u32 (77644329)]]]]]++[.a1 32 [bl [33,138,136,249,119,7,166,174,108,156,48,173,162,158,214,252,180,176,246,238,229,50,220,163,240,190,222,60,6,183,72,215]]]++[cq (1)])]++[.aH (bl [33,138,136,249,119,7,166,174,108,156,48,173,162,158,214,252,180,176,246,238,229,50,220,163,240,190,222,60,6,183,72,215])]++[cq (0)])
theorem ajP:gI Tryz.prog GS 89 Xv XJ:=
 lA (P:=Tryz.prog) Tryz.checked.mixed bj (kw (im.mem (eG An (eG qb (eG (jG (gW FB (jO))) (kE)))))) k0 (orc:=jE [jJ,pp,(67,true,i1 [(Cg,Ci)])]) (fuel:=100000) (k:=60) (by kernel_rfl)
abbrev Xw:List U:=[.int .u32 (1)]++[.aH ([.int .u32 (0)]++[.a1 32 [bl [33,138,136,249,119,7,166,174,108,156,48,173,162,158,214,252,180,176,246,238,229,50,220,163,240,190,222,60,6,183,72,215]]]++[.int .u64 (1)]++[.int .u8 1]++[.str []]++[.int .u8 0]++[cq (0)]++[.int .u64 (0)]++[.str []]++[.int .u32 (0)]++[.int .u32 (0)])]
abbrev XK:U:=.bq ([.aH ([.int .u32 (4)]++[.a1 32 [bl [33,138,136,249,119,7,166,174,108,156,48,173,162,158,214,252,180,176,246,238,229,50,220,163,240,190,222,60,6,183,72,215]]]++[.int .u64 (1)]++[.int .u8 1]++[.str []]++[.int .u8 0]++[cq (0)]++[.int .u64 (0)]++[.str []]++[.int .u32 (369156142)]++[.int .u32 (98181620)])]++[cq (0)])
theorem ajQ:gI Tryz.prog GS 54 Xw XK:=
 lA (P:=Tryz.prog) Tryz.checked.mixed bj (kw (im.mem (eG Cw (eG qb (kE))))) k0 (orc:=jE [z8,pp]) (fuel:=100000) (k:=60) (by kernel_rfl)
abbrev Om:List U:=[.aH ([.a1 32 [bl [33,138,136,249,119,7,166,174,108,156,48,173,162,158,214,252,180,176,246,238,229,50,220,163,240,190,222,60,6,183,72,215]]]++[.a1 11 [[.int .u32 (4)]++[.aG]++[.int .u64 (0)]++[.int .u8 1]++[.str []]++[.int .u8 0]++[cq (0)]++[.int .u64 (0)]++[.str []]++[.int .u32 (375582489)]++[.int .u32 (77644329)]]])]
abbrev Oo:U:=cq (0)
theorem Xk:gI Tryz.prog GS 38 Om Oo:=
 lA (P:=Tryz.prog) Tryz.checked.mixed bj (kw (im.mem (eG An (eG qb (eG (jG (gW FB (jO))) (kE)))))) k0 (orc:=jE [jJ,pp,(67,true,i1 [(Cg,Ci)])]) (fuel:=100000) (k:=60) (by kernel_rfl)
abbrev FD:List U:=[.aH ([.int .u32 (4)]++[.a1 32 [bl [33,138,136,249,119,7,166,174,108,156,48,173,162,158,214,252,180,176,246,238,229,50,220,163,240,190,222,60,6,183,72,215]]]++[.int .u64 (1)]++[.int .u8 1]++[.str []]++[.int .u8 0]++[cq (0)]++[.int .u64 (0)]++[.str []]++[.int .u32 (369156142)]++[.int .u32 (98181620)])]
abbrev FE:U:=cq (0)
theorem Jp:gI Tryz.prog GS 67 FD FE:=
 lA (P:=Tryz.prog) Tryz.checked.mixed bj (kw (im.mem (eG Cw (eG qb (kE))))) k0 (orc:=jE [z8,pp]) (fuel:=100000) (k:=60) (by kernel_rfl)
abbrev Xx:List U:=[.aH ([.a1 2 [[.aG]++[.aG],[.a1 32 [bl [33,138,136,249,119,7,166,174,108,156,48,173,162,158,214,252,180,176,246,238,229,50,220,163,240,190,222,60,6,183,72,215]]]++[.a1 11 [[.int .u32 (4)]++[.aG]++[.int .u64 (0)]++[.int .u8 1]++[.str []]++[.int .u8 0]++[cq (0)]++[.int .u64 (0)]++[.str []]++[.int .u32 (375582489)]++[.int .u32 (77644329)]]]]]++[.a1 32 [bl [33,138,136,249,119,7,166,174,108,156,48,173,162,158,214,252,180,176,246,238,229,50,220,163,240,190,222,60,6,183,72,215]]]++[cq (1)])]++[.aH ([.int .u32 (4)]++[.a1 32 [bl [33,138,136,249,119,7,166,174,108,156,48,173,162,158,214,252,180,176,246,238,229,50,220,163,240,190,222,60,6,183,72,215]]]++[.int .u64 (1)]++[.int .u8 1]++[.str []]++[.int .u8 0]++[cq (0)]++[.int .u64 (0)]++[.str []]++[.int .u32 (369156142)]++[.int .u32 (98181620)])]
abbrev XL:U:=.bq ([.aH ([.a1 2 [[.aG]++[.aG],[.a1 32 [bl [33,138,136,249,119,7,166,174,108,156,48,173,162,158,214,252,180,176,246,238,229,50,220,163,240,190,222,60,6,183,72,215],bl [159,159,144,10,126,197,229,161,56,119,100,163,139,39,106,165,103,68,156,120,35,140,96,174,41,101,13,25,73,98,29,181]]]++[.a1 11 [[.int .u32 (4)]++[.aG]++[.int .u64 (0)]++[.int .u8 1]++[.str []]++[.int .u8 0]++[cq (0)]++[.int .u64 (0)]++[.str []]++[.int .u32 (375582489)]++[.int .u32 (77644329)],[.int .u32 (4)]++[.a1 32 [bl [33,138,136,249,119,7,166,174,108,156,48,173,162,158,214,252,180,176,246,238,229,50,220,163,240,190,222,60,6,183,72,215]]]++[.int .u64 (1)]++[.int .u8 1]++[.str []]++[.int .u8 0]++[cq (0)]++[.int .u64 (0)]++[.str []]++[.int .u32 (369156142)]++[.int .u32 (98181620)]]]]]++[.a1 32 [bl [159,159,144,10,126,197,229,161,56,119,100,163,139,39,106,165,103,68,156,120,35,140,96,174,41,101,13,25,73,98,29,181]]]++[cq (2)])]++[.aH (bl [159,159,144,10,126,197,229,161,56,119,100,163,139,39,106,165,103,68,156,120,35,140,96,174,41,101,13,25,73,98,29,181])]++[cq (0)])
theorem ajR:gI Tryz.prog GS 89 Xx XL:=
 lA (P:=Tryz.prog) Tryz.checked.mixed bj (kw (im.mem (eG An (eG qb (eG (jG (gW Jp (jO))) (eG (jG (gW Xk (jO))) (kE))))))) k0 (orc:=jE [jJ,pp,(67,true,i1 [(FD,FE)]),(38,true,i1 [(Om,Oo)])]) (fuel:=100000) (k:=60) (by kernel_rfl)
abbrev Xy:List U:=[.int .u32 (1)]++[.aH ([.int .u32 (0)]++[.a1 32 [bl [159,159,144,10,126,197,229,161,56,119,100,163,139,39,106,165,103,68,156,120,35,140,96,174,41,101,13,25,73,98,29,181]]]++[.int .u64 (2)]++[.int .u8 1]++[.str []]++[.int .u8 0]++[cq (0)]++[.int .u64 (0)]++[.str []]++[.int .u32 (0)]++[.int .u32 (0)])]
abbrev XM:U:=.bq ([.aH ([.int .u32 (4)]++[.a1 32 [bl [159,159,144,10,126,197,229,161,56,119,100,163,139,39,106,165,103,68,156,120,35,140,96,174,41,101,13,25,73,98,29,181]]]++[.int .u64 (2)]++[.int .u8 1]++[.str []]++[.int .u8 0]++[cq (0)]++[.int .u64 (0)]++[.str []]++[.int .u32 (399518125)]++[.int .u32 (73226087)])]++[cq (0)])
theorem ajS:gI Tryz.prog GS 54 Xy XM:=
 lA (P:=Tryz.prog) Tryz.checked.mixed bj (kw (im.mem (eG Cw (eG qb (kE))))) k0 (orc:=jE [z8,pp]) (fuel:=100000) (k:=60) (by kernel_rfl)
abbrev On:List U:=[.aH ([.a1 32 [bl [33,138,136,249,119,7,166,174,108,156,48,173,162,158,214,252,180,176,246,238,229,50,220,163,240,190,222,60,6,183,72,215],bl [159,159,144,10,126,197,229,161,56,119,100,163,139,39,106,165,103,68,156,120,35,140,96,174,41,101,13,25,73,98,29,181]]]++[.a1 11 [[.int .u32 (4)]++[.aG]++[.int .u64 (0)]++[.int .u8 1]++[.str []]++[.int .u8 0]++[cq (0)]++[.int .u64 (0)]++[.str []]++[.int .u32 (375582489)]++[.int .u32 (77644329)],[.int .u32 (4)]++[.a1 32 [bl [33,138,136,249,119,7,166,174,108,156,48,173,162,158,214,252,180,176,246,238,229,50,220,163,240,190,222,60,6,183,72,215]]]++[.int .u64 (1)]++[.int .u8 1]++[.str []]++[.int .u8 0]++[cq (0)]++[.int .u64 (0)]++[.str []]++[.int .u32 (369156142)]++[.int .u32 (98181620)]]])]
abbrev Oq:U:=cq (0)
theorem Xl:gI Tryz.prog GS 38 On Oq:=
 lA (P:=Tryz.prog) Tryz.checked.mixed bj (kw (im.mem (eG An (eG qb (eG (jG (gW FB (gW Jp (jO)))) (kE)))))) k0 (orc:=jE [jJ,pp,(67,true,i1 [(Cg,Ci),(FD,FE)])]) (fuel:=100000) (k:=60) (by kernel_rfl)
abbrev Xz:List U:=[.aH ([cq (5)]++[.a1 2 [[.aG]++[.aG],[.a1 32 [bl [33,138,136,249,119,7,166,174,108,156,48,173,162,158,214,252,180,176,246,238,229,50,220,163,240,190,222,60,6,183,72,215],bl [159,159,144,10,126,197,229,161,56,119,100,163,139,39,106,165,103,68,156,120,35,140,96,174,41,101,13,25,73,98,29,181]]]++[.a1 11 [[.int .u32 (4)]++[.aG]++[.int .u64 (0)]++[.int .u8 1]++[.str []]++[.int .u8 0]++[cq (0)]++[.int .u64 (0)]++[.str []]++[.int .u32 (375582489)]++[.int .u32 (77644329)],[.int .u32 (4)]++[.a1 32 [bl [33,138,136,249,119,7,166,174,108,156,48,173,162,158,214,252,180,176,246,238,229,50,220,163,240,190,222,60,6,183,72,215]]]++[.int .u64 (1)]++[.int .u8 1]++[.str []]++[.int .u8 0]++[cq (0)]++[.int .u64 (0)]++[.str []]++[.int .u32 (369156142)]++[.int .u32 (98181620)]]]]]++[.a1 32 [bl [159,159,144,10,126,197,229,161,56,119,100,163,139,39,106,165,103,68,156,120,35,140,96,174,41,101,13,25,73,98,29,181]]]++[cq (2)]++[.a1 32 [bl [33,138,136,249,119,7,166,174,108,156,48,173,162,158,214,252,180,176,246,238,229,50,220,163,240,190,222,60,6,183,72,215],bl [159,159,144,10,126,197,229,161,56,119,100,163,139,39,106,165,103,68,156,120,35,140,96,174,41,101,13,25,73,98,29,181]]])]
abbrev XN:U:=.bq ([.aH ([.a1 32 [bl [33,138,136,249,119,7,166,174,108,156,48,173,162,158,214,252,180,176,246,238,229,50,220,163,240,190,222,60,6,183,72,215],bl [159,159,144,10,126,197,229,161,56,119,100,163,139,39,106,165,103,68,156,120,35,140,96,174,41,101,13,25,73,98,29,181]]]++[.a1 11 [[.int .u32 (4)]++[.aG]++[.int .u64 (0)]++[.int .u8 1]++[.str []]++[.int .u8 0]++[cq (0)]++[.int .u64 (0)]++[.str []]++[.int .u32 (375582489)]++[.int .u32 (77644329)],[.int .u32 (4)]++[.a1 32 [bl [33,138,136,249,119,7,166,174,108,156,48,173,162,158,214,252,180,176,246,238,229,50,220,163,240,190,222,60,6,183,72,215]]]++[.int .u64 (1)]++[.int .u8 1]++[.str []]++[.int .u8 0]++[cq (0)]++[.int .u64 (0)]++[.str []]++[.int .u32 (369156142)]++[.int .u32 (98181620)]]])]++[cq (0)])
theorem ajT:gI Tryz.prog GS 66 Xz XN:=
 lA (P:=Tryz.prog) Tryz.checked.mixed bj (kw (im.mem (eG (jG (gW Xl (jO))) (kE)))) k0 (orc:=jE [(38,true,i1 [(On,Oq)])]) (fuel:=100000) (k:=60) (by kernel_rfl)
abbrev Jq:List U:=[.aH ([.int .u32 (4)]++[.a1 32 [bl [159,159,144,10,126,197,229,161,56,119,100,163,139,39,106,165,103,68,156,120,35,140,96,174,41,101,13,25,73,98,29,181]]]++[.int .u64 (2)]++[.int .u8 1]++[.str []]++[.int .u8 0]++[cq (0)]++[.int .u64 (0)]++[.str []]++[.int .u32 (399518125)]++[.int .u32 (73226087)])]
abbrev Jr:U:=cq (0)
theorem Ol:gI Tryz.prog GS 67 Jq Jr:=
 lA (P:=Tryz.prog) Tryz.checked.mixed bj (kw (im.mem (eG Cw (eG qb (kE))))) k0 (orc:=jE [z8,pp]) (fuel:=100000) (k:=60) (by kernel_rfl)
abbrev Xn:List U:=[.aH ([.a1 2 [[.aG]++[.aG],[.a1 32 [bl [33,138,136,249,119,7,166,174,108,156,48,173,162,158,214,252,180,176,246,238,229,50,220,163,240,190,222,60,6,183,72,215],bl [159,159,144,10,126,197,229,161,56,119,100,163,139,39,106,165,103,68,156,120,35,140,96,174,41,101,13,25,73,98,29,181]]]++[.a1 11 [[.int .u32 (4)]++[.aG]++[.int .u64 (0)]++[.int .u8 1]++[.str []]++[.int .u8 0]++[cq (0)]++[.int .u64 (0)]++[.str []]++[.int .u32 (375582489)]++[.int .u32 (77644329)],[.int .u32 (4)]++[.a1 32 [bl [33,138,136,249,119,7,166,174,108,156,48,173,162,158,214,252,180,176,246,238,229,50,220,163,240,190,222,60,6,183,72,215]]]++[.int .u64 (1)]++[.int .u8 1]++[.str []]++[.int .u8 0]++[cq (0)]++[.int .u64 (0)]++[.str []]++[.int .u32 (369156142)]++[.int .u32 (98181620)]]]]]++[.a1 32 [bl [159,159,144,10,126,197,229,161,56,119,100,163,139,39,106,165,103,68,156,120,35,140,96,174,41,101,13,25,73,98,29,181]]]++[cq (2)])]++[.aH ([.int .u32 (4)]++[.a1 32 [bl [159,159,144,10,126,197,229,161,56,119,100,163,139,39,106,165,103,68,156,120,35,140,96,174,41,101,13,25,73,98,29,181]]]++[.int .u64 (2)]++[.int .u8 1]++[.str []]++[.int .u8 0]++[cq (0)]++[.int .u64 (0)]++[.str []]++[.int .u32 (399518125)]++[.int .u32 (73226087)])]
abbrev XB:U:=.bq ([.aH ([.a1 2 [[.a1 32 [bl [188,32,255,92,50,181,29,72,207,227,24,208,108,216,1,205,251,81,111,92,73,125,144,207,236,242,11,184,192,246,10,73]]]++[.a1 11 [[.int .u32 (4)]++[.a1 32 [bl [159,159,144,10,126,197,229,161,56,119,100,163,139,39,106,165,103,68,156,120,35,140,96,174,41,101,13,25,73,98,29,181]]]++[.int .u64 (2)]++[.int .u8 1]++[.str []]++[.int .u8 0]++[cq (0)]++[.int .u64 (0)]++[.str []]++[.int .u32 (399518125)]++[.int .u32 (73226087)]]],[.a1 32 [bl [33,138,136,249,119,7,166,174,108,156,48,173,162,158,214,252,180,176,246,238,229,50,220,163,240,190,222,60,6,183,72,215],bl [159,159,144,10,126,197,229,161,56,119,100,163,139,39,106,165,103,68,156,120,35,140,96,174,41,101,13,25,73,98,29,181]]]++[.a1 11 [[.int .u32 (4)]++[.aG]++[.int .u64 (0)]++[.int .u8 1]++[.str []]++[.int .u8 0]++[cq (0)]++[.int .u64 (0)]++[.str []]++[.int .u32 (375582489)]++[.int .u32 (77644329)],[.int .u32 (4)]++[.a1 32 [bl [33,138,136,249,119,7,166,174,108,156,48,173,162,158,214,252,180,176,246,238,229,50,220,163,240,190,222,60,6,183,72,215]]]++[.int .u64 (1)]++[.int .u8 1]++[.str []]++[.int .u8 0]++[cq (0)]++[.int .u64 (0)]++[.str []]++[.int .u32 (369156142)]++[.int .u32 (98181620)]]]]]++[.a1 32 [bl [188,32,255,92,50,181,29,72,207,227,24,208,108,216,1,205,251,81,111,92,73,125,144,207,236,242,11,184,192,246,10,73]]]++[cq (3)])]++[.aH (bl [188,32,255,92,50,181,29,72,207,227,24,208,108,216,1,205,251,81,111,92,73,125,144,207,236,242,11,184,192,246,10,73])]++[cq (0)])
theorem ajH:gI Tryz.prog GS 89 Xn XB:=
 lA (P:=Tryz.prog) Tryz.checked.mixed bj (kw (im.mem (eG An (eG qb (eG (jG (gW Ol (jO))) (eG (jG (gW Xl (jO))) (kE))))))) k0 (orc:=jE [jJ,pp,(67,true,i1 [(Jq,Jr)]),(38,true,i1 [(On,Oq)])]) (fuel:=100000) (k:=60) (by kernel_rfl)
abbrev Xo:List U:=[cq (1)]++[cq (0)]++[.a1 32 [bl [33,138,136,249,119,7,166,174,108,156,48,173,162,158,214,252,180,176,246,238,229,50,220,163,240,190,222,60,6,183,72,215],bl [159,159,144,10,126,197,229,161,56,119,100,163,139,39,106,165,103,68,156,120,35,140,96,174,41,101,13,25,73,98,29,181],bl [188,32,255,92,50,181,29,72,207,227,24,208,108,216,1,205,251,81,111,92,73,125,144,207,236,242,11,184,192,246,10,73]]]++[.a1 1 (hN ([.bool false]++[.bool false]++[.bool true]++[.bool true]))]
abbrev XC:U:=.bq ([.aH ([cq (0)]++[.a1 32 [bl [33,138,136,249,119,7,166,174,108,156,48,173,162,158,214,252,180,176,246,238,229,50,220,163,240,190,222,60,6,183,72,215]]]++[.bool true])]++[cq (0)])
theorem ajI:gI Tryz.prog GS 27 Xo XC:=
 lA (P:=Tryz.prog) Tryz.checked.mixed bj (kw (im.mem (kE))) k0 (orc:=jE []) (fuel:=100000) (k:=60) (by kernel_rfl)
abbrev Xp:List U:=[.aH ([.a1 32 [bl [33,138,136,249,119,7,166,174,108,156,48,173,162,158,214,252,180,176,246,238,229,50,220,163,240,190,222,60,6,183,72,215],bl [159,159,144,10,126,197,229,161,56,119,100,163,139,39,106,165,103,68,156,120,35,140,96,174,41,101,13,25,73,98,29,181],bl [188,32,255,92,50,181,29,72,207,227,24,208,108,216,1,205,251,81,111,92,73,125,144,207,236,242,11,184,192,246,10,73]]]++[.a1 11 [[.int .u32 (4)]++[.aG]++[.int .u64 (0)]++[.int .u8 1]++[.str []]++[.int .u8 0]++[cq (0)]++[.int .u64 (0)]++[.str []]++[.int .u32 (375582489)]++[.int .u32 (77644329)],[.int .u32 (4)]++[.a1 32 [bl [33,138,136,249,119,7,166,174,108,156,48,173,162,158,214,252,180,176,246,238,229,50,220,163,240,190,222,60,6,183,72,215]]]++[.int .u64 (1)]++[.int .u8 1]++[.str []]++[.int .u8 0]++[cq (0)]++[.int .u64 (0)]++[.str []]++[.int .u32 (369156142)]++[.int .u32 (98181620)],[.int .u32 (4)]++[.a1 32 [bl [159,159,144,10,126,197,229,161,56,119,100,163,139,39,106,165,103,68,156,120,35,140,96,174,41,101,13,25,73,98,29,181]]]++[.int .u64 (2)]++[.int .u8 1]++[.str []]++[.int .u8 0]++[cq (0)]++[.int .u64 (0)]++[.str []]++[.int .u32 (399518125)]++[.int .u32 (73226087)]]])]
abbrev XD:U:=cq (0)
theorem ajJ:gI Tryz.prog GS 38 Xp XD:=
 lA (P:=Tryz.prog) Tryz.checked.mixed bj (kw (im.mem (eG An (eG qb (eG (jG (gW FB (gW Jp (gW Ol (jO))))) (kE)))))) k0 (orc:=jE [jJ,pp,(67,true,i1 [(Cg,Ci),(FD,FE),(Jq,Jr)])]) (fuel:=100000) (k:=60) (by kernel_rfl)
abbrev Ch:List U:=[.aH ([.a1 2 [[.a1 32 [bl [188,32,255,92,50,181,29,72,207,227,24,208,108,216,1,205,251,81,111,92,73,125,144,207,236,242,11,184,192,246,10,73]]]++[.a1 11 [[.int .u32 (4)]++[.a1 32 [bl [159,159,144,10,126,197,229,161,56,119,100,163,139,39,106,165,103,68,156,120,35,140,96,174,41,101,13,25,73,98,29,181]]]++[.int .u64 (2)]++[.int .u8 1]++[.str []]++[.int .u8 0]++[cq (0)]++[.int .u64 (0)]++[.str []]++[.int .u32 (399518125)]++[.int .u32 (73226087)]]],[.a1 32 [bl [33,138,136,249,119,7,166,174,108,156,48,173,162,158,214,252,180,176,246,238,229,50,220,163,240,190,222,60,6,183,72,215],bl [159,159,144,10,126,197,229,161,56,119,100,163,139,39,106,165,103,68,156,120,35,140,96,174,41,101,13,25,73,98,29,181]]]++[.a1 11 [[.int .u32 (4)]++[.aG]++[.int .u64 (0)]++[.int .u8 1]++[.str []]++[.int .u8 0]++[cq (0)]++[.int .u64 (0)]++[.str []]++[.int .u32 (375582489)]++[.int .u32 (77644329)],[.int .u32 (4)]++[.a1 32 [bl [33,138,136,249,119,7,166,174,108,156,48,173,162,158,214,252,180,176,246,238,229,50,220,163,240,190,222,60,6,183,72,215]]]++[.int .u64 (1)]++[.int .u8 1]++[.str []]++[.int .u8 0]++[cq (0)]++[.int .u64 (0)]++[.str []]++[.int .u32 (369156142)]++[.int .u32 (98181620)]]]]]++[.a1 32 [bl [188,32,255,92,50,181,29,72,207,227,24,208,108,216,1,205,251,81,111,92,73,125,144,207,236,242,11,184,192,246,10,73]]]++[cq (3)])]
abbrev Cj:U:=.bq ([.aH ([.a1 32 [bl [33,138,136,249,119,7,166,174,108,156,48,173,162,158,214,252,180,176,246,238,229,50,220,163,240,190,222,60,6,183,72,215],bl [159,159,144,10,126,197,229,161,56,119,100,163,139,39,106,165,103,68,156,120,35,140,96,174,41,101,13,25,73,98,29,181],bl [188,32,255,92,50,181,29,72,207,227,24,208,108,216,1,205,251,81,111,92,73,125,144,207,236,242,11,184,192,246,10,73]]]++[.a1 11 [[.int .u32 (4)]++[.aG]++[.int .u64 (0)]++[.int .u8 1]++[.str []]++[.int .u8 0]++[cq (0)]++[.int .u64 (0)]++[.str []]++[.int .u32 (375582489)]++[.int .u32 (77644329)],[.int .u32 (4)]++[.a1 32 [bl [33,138,136,249,119,7,166,174,108,156,48,173,162,158,214,252,180,176,246,238,229,50,220,163,240,190,222,60,6,183,72,215]]]++[.int .u64 (1)]++[.int .u8 1]++[.str []]++[.int .u8 0]++[cq (0)]++[.int .u64 (0)]++[.str []]++[.int .u32 (369156142)]++[.int .u32 (98181620)],[.int .u32 (4)]++[.a1 32 [bl [159,159,144,10,126,197,229,161,56,119,100,163,139,39,106,165,103,68,156,120,35,140,96,174,41,101,13,25,73,98,29,181]]]++[.int .u64 (2)]++[.int .u8 1]++[.str []]++[.int .u8 0]++[cq (0)]++[.int .u64 (0)]++[.str []]++[.int .u32 (399518125)]++[.int .u32 (73226087)]]])]++[cq (0)])
theorem FC:gI Tryz.prog GS 134 Ch Cj:=
 lA (P:=Tryz.prog) Tryz.checked.mixed bj (kw (im.mem (eG (jG (gW ajJ (jO))) (kE)))) k0 (orc:=jE [(38,true,i1 [(Xp,XD)])]) (fuel:=100000) (k:=60) (by kernel_rfl)
abbrev Xq:List U:=[.aH ([cq (5)]++[.a1 2 [[.a1 32 [bl [188,32,255,92,50,181,29,72,207,227,24,208,108,216,1,205,251,81,111,92,73,125,144,207,236,242,11,184,192,246,10,73]]]++[.a1 11 [[.int .u32 (4)]++[.a1 32 [bl [159,159,144,10,126,197,229,161,56,119,100,163,139,39,106,165,103,68,156,120,35,140,96,174,41,101,13,25,73,98,29,181]]]++[.int .u64 (2)]++[.int .u8 1]++[.str []]++[.int .u8 0]++[cq (0)]++[.int .u64 (0)]++[.str []]++[.int .u32 (399518125)]++[.int .u32 (73226087)]]],[.a1 32 [bl [33,138,136,249,119,7,166,174,108,156,48,173,162,158,214,252,180,176,246,238,229,50,220,163,240,190,222,60,6,183,72,215],bl [159,159,144,10,126,197,229,161,56,119,100,163,139,39,106,165,103,68,156,120,35,140,96,174,41,101,13,25,73,98,29,181]]]++[.a1 11 [[.int .u32 (4)]++[.aG]++[.int .u64 (0)]++[.int .u8 1]++[.str []]++[.int .u8 0]++[cq (0)]++[.int .u64 (0)]++[.str []]++[.int .u32 (375582489)]++[.int .u32 (77644329)],[.int .u32 (4)]++[.a1 32 [bl [33,138,136,249,119,7,166,174,108,156,48,173,162,158,214,252,180,176,246,238,229,50,220,163,240,190,222,60,6,183,72,215]]]++[.int .u64 (1)]++[.int .u8 1]++[.str []]++[.int .u8 0]++[cq (0)]++[.int .u64 (0)]++[.str []]++[.int .u32 (369156142)]++[.int .u32 (98181620)]]]]]++[.a1 32 [bl [188,32,255,92,50,181,29,72,207,227,24,208,108,216,1,205,251,81,111,92,73,125,144,207,236,242,11,184,192,246,10,73]]]++[cq (3)]++[.a1 32 [bl [33,138,136,249,119,7,166,174,108,156,48,173,162,158,214,252,180,176,246,238,229,50,220,163,240,190,222,60,6,183,72,215],bl [159,159,144,10,126,197,229,161,56,119,100,163,139,39,106,165,103,68,156,120,35,140,96,174,41,101,13,25,73,98,29,181],bl [188,32,255,92,50,181,29,72,207,227,24,208,108,216,1,205,251,81,111,92,73,125,144,207,236,242,11,184,192,246,10,73]]])]++[.aH ([cq (1)]++[.a1 32 [bl [159,159,144,10,126,197,229,161,56,119,100,163,139,39,106,165,103,68,156,120,35,140,96,174,41,101,13,25,73,98,29,181]]]++[.bool false])]
abbrev XE:U:=.bool true
theorem ajK:gI Tryz.prog GS 26 Xq XE:=
 lA (P:=Tryz.prog) Tryz.checked.mixed bj (kw (im.mem (eG (jG (gW FC (jO))) (kE)))) k0 (orc:=jE [(134,true,i1 [(Ch,Cj)])]) (fuel:=100000) (k:=60) (by kernel_rfl)
abbrev Xr:List U:=[.aH ([cq (5)]++[.a1 2 [[.a1 32 [bl [188,32,255,92,50,181,29,72,207,227,24,208,108,216,1,205,251,81,111,92,73,125,144,207,236,242,11,184,192,246,10,73]]]++[.a1 11 [[.int .u32 (4)]++[.a1 32 [bl [159,159,144,10,126,197,229,161,56,119,100,163,139,39,106,165,103,68,156,120,35,140,96,174,41,101,13,25,73,98,29,181]]]++[.int .u64 (2)]++[.int .u8 1]++[.str []]++[.int .u8 0]++[cq (0)]++[.int .u64 (0)]++[.str []]++[.int .u32 (399518125)]++[.int .u32 (73226087)]]],[.a1 32 [bl [33,138,136,249,119,7,166,174,108,156,48,173,162,158,214,252,180,176,246,238,229,50,220,163,240,190,222,60,6,183,72,215],bl [159,159,144,10,126,197,229,161,56,119,100,163,139,39,106,165,103,68,156,120,35,140,96,174,41,101,13,25,73,98,29,181]]]++[.a1 11 [[.int .u32 (4)]++[.aG]++[.int .u64 (0)]++[.int .u8 1]++[.str []]++[.int .u8 0]++[cq (0)]++[.int .u64 (0)]++[.str []]++[.int .u32 (375582489)]++[.int .u32 (77644329)],[.int .u32 (4)]++[.a1 32 [bl [33,138,136,249,119,7,166,174,108,156,48,173,162,158,214,252,180,176,246,238,229,50,220,163,240,190,222,60,6,183,72,215]]]++[.int .u64 (1)]++[.int .u8 1]++[.str []]++[.int .u8 0]++[cq (0)]++[.int .u64 (0)]++[.str []]++[.int .u32 (369156142)]++[.int .u32 (98181620)]]]]]++[.a1 32 [bl [188,32,255,92,50,181,29,72,207,227,24,208,108,216,1,205,251,81,111,92,73,125,144,207,236,242,11,184,192,246,10,73]]]++[cq (3)]++[.a1 32 [bl [33,138,136,249,119,7,166,174,108,156,48,173,162,158,214,252,180,176,246,238,229,50,220,163,240,190,222,60,6,183,72,215],bl [159,159,144,10,126,197,229,161,56,119,100,163,139,39,106,165,103,68,156,120,35,140,96,174,41,101,13,25,73,98,29,181],bl [188,32,255,92,50,181,29,72,207,227,24,208,108,216,1,205,251,81,111,92,73,125,144,207,236,242,11,184,192,246,10,73]]])]++[.aH ([cq (1)]++[.a1 32 [bl [159,159,144,10,126,197,229,161,56,119,100,163,139,39,106,165,103,68,156,120,35,140,96,174,41,101,13,25,73,98,29,181],bl [188,32,255,92,50,181,29,72,207,227,24,208,108,216,1,205,251,81,111,92,73,125,144,207,236,242,11,184,192,246,10,73]]]++[.bool false])]
abbrev XF:U:=.bool true
theorem ajL:gI Tryz.prog GS 26 Xr XF:=
 lA (P:=Tryz.prog) Tryz.checked.mixed bj (kw (im.mem (eG (jG (gW FC (jO))) (kE)))) k0 (orc:=jE [(134,true,i1 [(Ch,Cj)])]) (fuel:=100000) (k:=60) (by kernel_rfl)
abbrev Xs:List U:=[.aH ([cq (5)]++[.a1 2 [[.a1 32 [bl [188,32,255,92,50,181,29,72,207,227,24,208,108,216,1,205,251,81,111,92,73,125,144,207,236,242,11,184,192,246,10,73]]]++[.a1 11 [[.int .u32 (4)]++[.a1 32 [bl [159,159,144,10,126,197,229,161,56,119,100,163,139,39,106,165,103,68,156,120,35,140,96,174,41,101,13,25,73,98,29,181]]]++[.int .u64 (2)]++[.int .u8 1]++[.str []]++[.int .u8 0]++[cq (0)]++[.int .u64 (0)]++[.str []]++[.int .u32 (399518125)]++[.int .u32 (73226087)]]],[.a1 32 [bl [33,138,136,249,119,7,166,174,108,156,48,173,162,158,214,252,180,176,246,238,229,50,220,163,240,190,222,60,6,183,72,215],bl [159,159,144,10,126,197,229,161,56,119,100,163,139,39,106,165,103,68,156,120,35,140,96,174,41,101,13,25,73,98,29,181]]]++[.a1 11 [[.int .u32 (4)]++[.aG]++[.int .u64 (0)]++[.int .u8 1]++[.str []]++[.int .u8 0]++[cq (0)]++[.int .u64 (0)]++[.str []]++[.int .u32 (375582489)]++[.int .u32 (77644329)],[.int .u32 (4)]++[.a1 32 [bl [33,138,136,249,119,7,166,174,108,156,48,173,162,158,214,252,180,176,246,238,229,50,220,163,240,190,222,60,6,183,72,215]]]++[.int .u64 (1)]++[.int .u8 1]++[.str []]++[.int .u8 0]++[cq (0)]++[.int .u64 (0)]++[.str []]++[.int .u32 (369156142)]++[.int .u32 (98181620)]]]]]++[.a1 32 [bl [188,32,255,92,50,181,29,72,207,227,24,208,108,216,1,205,251,81,111,92,73,125,144,207,236,242,11,184,192,246,10,73]]]++[cq (3)]++[.a1 32 [bl [33,138,136,249,119,7,166,174,108,156,48,173,162,158,214,252,180,176,246,238,229,50,220,163,240,190,222,60,6,183,72,215],bl [159,159,144,10,126,197,229,161,56,119,100,163,139,39,106,165,103,68,156,120,35,140,96,174,41,101,13,25,73,98,29,181],bl [188,32,255,92,50,181,29,72,207,227,24,208,108,216,1,205,251,81,111,92,73,125,144,207,236,242,11,184,192,246,10,73]]])]++[.aH ([cq (3)]++[.aG]++[.bool false])]
abbrev XG:U:=.bool true
theorem ajM:gI Tryz.prog GS 26 Xs XG:=
 lA (P:=Tryz.prog) Tryz.checked.mixed bj (kw (im.mem (eG (jG (gW FC (jO))) (kE)))) k0 (orc:=jE [(134,true,i1 [(Ch,Cj)])]) (fuel:=100000) (k:=60) (by kernel_rfl)
abbrev Xt:List U:=[.aH ([cq (5)]++[.a1 2 [[.a1 32 [bl [188,32,255,92,50,181,29,72,207,227,24,208,108,216,1,205,251,81,111,92,73,125,144,207,236,242,11,184,192,246,10,73]]]++[.a1 11 [[.int .u32 (4)]++[.a1 32 [bl [159,159,144,10,126,197,229,161,56,119,100,163,139,39,106,165,103,68,156,120,35,140,96,174,41,101,13,25,73,98,29,181]]]++[.int .u64 (2)]++[.int .u8 1]++[.str []]++[.int .u8 0]++[cq (0)]++[.int .u64 (0)]++[.str []]++[.int .u32 (399518125)]++[.int .u32 (73226087)]]],[.a1 32 [bl [33,138,136,249,119,7,166,174,108,156,48,173,162,158,214,252,180,176,246,238,229,50,220,163,240,190,222,60,6,183,72,215],bl [159,159,144,10,126,197,229,161,56,119,100,163,139,39,106,165,103,68,156,120,35,140,96,174,41,101,13,25,73,98,29,181]]]++[.a1 11 [[.int .u32 (4)]++[.aG]++[.int .u64 (0)]++[.int .u8 1]++[.str []]++[.int .u8 0]++[cq (0)]++[.int .u64 (0)]++[.str []]++[.int .u32 (375582489)]++[.int .u32 (77644329)],[.int .u32 (4)]++[.a1 32 [bl [33,138,136,249,119,7,166,174,108,156,48,173,162,158,214,252,180,176,246,238,229,50,220,163,240,190,222,60,6,183,72,215]]]++[.int .u64 (1)]++[.int .u8 1]++[.str []]++[.int .u8 0]++[cq (0)]++[.int .u64 (0)]++[.str []]++[.int .u32 (369156142)]++[.int .u32 (98181620)]]]]]++[.a1 32 [bl [188,32,255,92,50,181,29,72,207,227,24,208,108,216,1,205,251,81,111,92,73,125,144,207,236,242,11,184,192,246,10,73]]]++[cq (3)]++[.a1 32 [bl [33,138,136,249,119,7,166,174,108,156,48,173,162,158,214,252,180,176,246,238,229,50,220,163,240,190,222,60,6,183,72,215],bl [159,159,144,10,126,197,229,161,56,119,100,163,139,39,106,165,103,68,156,120,35,140,96,174,41,101,13,25,73,98,29,181],bl [188,32,255,92,50,181,29,72,207,227,24,208,108,216,1,205,251,81,111,92,73,125,144,207,236,242,11,184,192,246,10,73]]])]++[.aH ([cq (1)]++[.a1 32 [bl [188,32,255,92,50,181,29,72,207,227,24,208,108,216,1,205,251,81,111,92,73,125,144,207,236,242,11,184,192,246,10,73]]]++[.bool false])]++[cq (0)]
abbrev XH:U:=.bool true
theorem ajN:gI Tryz.prog GS 25 Xt XH:=
 lA (P:=Tryz.prog) Tryz.checked.mixed bj (kw (im.mem (eG (jG (gW FC (jO))) (kE)))) k0 (orc:=jE [(134,true,i1 [(Ch,Cj)])]) (fuel:=100000) (k:=60) (by kernel_rfl)
abbrev Xu:List U:=[.aH ([cq (5)]++[.a1 2 [[.a1 32 [bl [188,32,255,92,50,181,29,72,207,227,24,208,108,216,1,205,251,81,111,92,73,125,144,207,236,242,11,184,192,246,10,73]]]++[.a1 11 [[.int .u32 (4)]++[.a1 32 [bl [159,159,144,10,126,197,229,161,56,119,100,163,139,39,106,165,103,68,156,120,35,140,96,174,41,101,13,25,73,98,29,181]]]++[.int .u64 (2)]++[.int .u8 1]++[.str []]++[.int .u8 0]++[cq (0)]++[.int .u64 (0)]++[.str []]++[.int .u32 (399518125)]++[.int .u32 (73226087)]]],[.a1 32 [bl [33,138,136,249,119,7,166,174,108,156,48,173,162,158,214,252,180,176,246,238,229,50,220,163,240,190,222,60,6,183,72,215],bl [159,159,144,10,126,197,229,161,56,119,100,163,139,39,106,165,103,68,156,120,35,140,96,174,41,101,13,25,73,98,29,181]]]++[.a1 11 [[.int .u32 (4)]++[.aG]++[.int .u64 (0)]++[.int .u8 1]++[.str []]++[.int .u8 0]++[cq (0)]++[.int .u64 (0)]++[.str []]++[.int .u32 (375582489)]++[.int .u32 (77644329)],[.int .u32 (4)]++[.a1 32 [bl [33,138,136,249,119,7,166,174,108,156,48,173,162,158,214,252,180,176,246,238,229,50,220,163,240,190,222,60,6,183,72,215]]]++[.int .u64 (1)]++[.int .u8 1]++[.str []]++[.int .u8 0]++[cq (0)]++[.int .u64 (0)]++[.str []]++[.int .u32 (369156142)]++[.int .u32 (98181620)]]]]]++[.a1 32 [bl [188,32,255,92,50,181,29,72,207,227,24,208,108,216,1,205,251,81,111,92,73,125,144,207,236,242,11,184,192,246,10,73]]]++[cq (3)]++[.a1 32 [bl [33,138,136,249,119,7,166,174,108,156,48,173,162,158,214,252,180,176,246,238,229,50,220,163,240,190,222,60,6,183,72,215],bl [159,159,144,10,126,197,229,161,56,119,100,163,139,39,106,165,103,68,156,120,35,140,96,174,41,101,13,25,73,98,29,181],bl [188,32,255,92,50,181,29,72,207,227,24,208,108,216,1,205,251,81,111,92,73,125,144,207,236,242,11,184,192,246,10,73]]])]++[.aH ([cq (2)]++[.a1 32 [bl [188,32,255,92,50,181,29,72,207,227,24,208,108,216,1,205,251,81,111,92,73,125,144,207,236,242,11,184,192,246,10,73]]]++[.bool true])]++[cq (1)]
abbrev XI:U:=.bool true
theorem ajO:gI Tryz.prog GS 25 Xu XI:=
 lA (P:=Tryz.prog) Tryz.checked.mixed bj (kw (im.mem (eG (jG (gW FC (jO))) (kE)))) k0 (orc:=jE [(134,true,i1 [(Ch,Cj)])]) (fuel:=100000) (k:=60) (by kernel_rfl)
theorem ajU:c5 Tryz.prog GS 29 [] [] (c:=⟨fun r _=>r=.bool true⟩) :=
 adc (kw (im.mem (eG apV (eG An (eG qb (eG (jG (gW ajN (gW ajO (jO)))) (eG (jG (gW ajK (gW ajL (gW ajM (jO))))) (eG (jG (gW ajI (jO))) (eG (jG (gW ajP (gW ajR (gW ajH (jO))))) (eG (jG (gW FB (gW Jp (gW Ol (jO))))) (eG (jG (gW ajT (jO))) (eG (jG (gW ajG (gW ajQ (gW ajS (jO))))) (eG (jG (gW Xk (jO))) (kE)))))))))))))) k0 (orc:=jE [abe,jJ,pp,(25,true,i1 [(Xt,XH),(Xu,XI)]),(26,true,i1 [(Xq,XE),(Xr,XF),(Xs,XG)]),(27,true,i1 [(Xo,XC)]),(89,true,i1 [(Xv,XJ),(Xx,XL),(Xn,XB)]),(67,true,i1 [(Cg,Ci),(FD,FE),(Jq,Jr)]),(66,true,i1 [(Xz,XN)]),(54,true,i1 [(Xm,XA),(Xw,XK),(Xy,XM)]),(38,true,i1 [(Om,Oo)])]) (fuel:=100000) (k:=60) (by kernel_rfl)
theorem aci:bw Tryz.prog GS 29 [] (.bool true) :=
 bQ Tryz.checked.mixed bj (by
  obtain⟨r,l,ad,ae,aj⟩:=ajU;exact⟨r,l,ad,ae,aU aj rfl⟩)
end Go.bV

namespace Go.bV
open Go Go.Proofs
set_option maxRecDepth 100000
namespace Fd
abbrev Id:=List Int
def dV (x:Id) :List U:=x.map (.int .u8)
theorem qg:rep 32 (U.int .u8 0)=[U.int .u8 0,.int .u8 0,.int .u8 0,.int .u8 0,.int .u8 0,.int .u8 0,.int .u8 0,.int .u8 0,.int .u8 0,.int .u8 0,.int .u8 0,.int .u8 0,.int .u8 0,.int .u8 0,.int .u8 0,.int .u8 0,.int .u8 0,.int .u8 0,.int .u8 0,.int .u8 0,.int .u8 0,.int .u8 0,.int .u8 0,.int .u8 0,.int .u8 0,.int .u8 0,.int .u8 0,.int .u8 0,.int .u8 0,.int .u8 0,.int .u8 0,.int .u8 0] :=rfl
structure b9 where
 next:Int
 ids:b8 Id
 dy:Bool
 cO:Bool
structure dB where
 cap:Int
 a3:Int
 cf:b8 b9
def aA (s:b8 Id) :U:=cc 32 dV s
def eg (q:b9) :List U:=[.int .i64 q.next,aA q.ids,.bool q.dy,.bool q.cO]
def k8 (s:b8 b9) :U:=cc 4 eg s
def fj (f:dB) :U:=.aH [.int .i64 f.cap,.int .i64 f.a3,k8 f.cf]
theorem LC (k:IntKind) (l:List Int) :a4 (l.map (.int k))=true:=by
 induction l with
 | nil=>rfl
 | cons x l aR=>simp[a4,U.closed,aR]
theorem dd (s:b8 Id) :(aA s).closed=true:=uT (fun x=>LC _ x) s
theorem Tx (q:b9) :a4 (eg q)=true:=by simp[eg,a4,U.closed,dd]
theorem TB (s:b8 b9) :(k8 s).closed=true:=uT Tx s
theorem pD (f:dB) :(fj f).closed=true:=by simp[fj,U.closed,a4,TB]
def ks (l:List b9) :Nat:=(l.filter fun q=>!q.cO).length
def dB.live (f:dB) :Nat:=ks f.cf.l
theorem akk (l:List b9) :ks l<=l.length:=ax7 _ _
theorem akn (l:List b9) (k:Nat) (q:b9) (h:l[k]? = some q) :ks (l.take (k+1))=ks (l.take k)+if q.cO then 0 else 1:=by
 rw[axe,h];simp only[ks,ax9,awW,Option.toList_some];cases aN:q.cO<;>simp[List.filter,aN]
set_option maxHeartbeats 1000000 in
theorem XU (f:dB) (al:f.cf.l.length<=1000000) :bw Tryz.prog GS 63 [fj f] (.int .i64 f.live) :=by
 refine bQ Tryz.checked.mixed bj ?_;apply bn Tryz.func63 [];simp[fj,k8];refine cl f.cf.l.length (fun k σ l=>σ 7=cc 4 eg f.cf/\σ 8=.int .i64 f.cf.l.length/\σ 9=.int .i64 k/\σ 3=.int .i64 (ks (f.cf.l.take k))) ?_ (by simp[ks]);rintro k σ l ar ⟨dr,gp,gh,aj⟩;simp[dr,gp,gh,aj];refine nE (fun h=>?_) (fun h=>?_)
 ·simp only[decide_eq_true_eq] at h;obtain⟨q,aN,_⟩:=bJ h;have aL:=akn f.cf.l k q aN;have dN:ks (f.cf.l.take k)<=k:=axy (akk _) (List.length_take_le _ _);simp[aN,eg,dr,gp,gh,aj];cases tJ:q.cO<;>simp (disch:=omega) [dr,gp,gh,aj,h,aL,tJ,wrap_i64]
  trace_state
 ·simp[h,aj];have:k=f.cf.l.length:=by simp at h; omega
  subst this;rw[axo];exact .same _ rfl
def lx (f:dB) (q:b9) :Bool:=
 if q.next<0 then false else if 1000000000<q.next then false else if f.cap<(q.ids.l.length:Int) then false
 else if q.cO then decide (q.ids.l=[])&&!q.dy
 else if q.dy then decide (q.next+q.ids.l.length<=f.a3)
 else decide (q.next+q.ids.l.length=f.a3)||(decide (q.ids.l=[])&&decide (f.a3<q.next))
theorem oz {l:ap} {b aZ:Bool} (h:b=aZ) :eK l (.bool b) (.bool aZ) :=by subst h; exact .same _ rfl
theorem oA {l:ap} {k:IntKind} {n fY:Int} (h:n=fY) :eK l (.int k n) (.int k fY) :=by subst h; exact .same _ rfl
set_option maxHeartbeats 1000000 in
theorem amO (f:dB) (q:b9) (ah:f.cap<=8) :bw Tryz.prog GS 93 [fj f,.aH (eg q)] (.bool (lx f q)) :=by
 refine bQ Tryz.checked.mixed bj ?_;apply bn Tryz.func93 [];simp[fj,aA,k8,eg];by_cases ad:q.next<0
 ·simp[ad]; exact oz (by simp[lx,ad])
 by_cases ae:1000000000<q.next
 ·simp[ad,ae]; exact oz (by simp[lx,ad,ae])
 by_cases aj:f.cap<(q.ids.l.length:Int)
 ·simp[ad,ae,aj]; exact oz (by simp[lx,ad,ae,aj])
 have aP:IntKind.i64.wrap (q.next+q.ids.l.length)=q.next+q.ids.l.length:=wrap_i64 (by omega) (by omega)
 have vF:IntKind.i64.wrap q.next=q.next:=wrap_i64 (by omega) (by omega)
 cases am:q.cO
 ·cases al:q.dy
  ·by_cases aD:q.next+q.ids.l.length=f.a3
   ·have aiJ:IntKind.i64.wrap f.a3=f.a3:=by rw[<-aD]; exact aP
    simp[ad,ae,aj,aiJ,am,al,aD]; exact oz (by simp[lx,ad,ae,aj,am,al,aD])
   ·by_cases a2:q.ids.l=[]
    ·have pI:¬ q.next=f.a3:=by simpa [a2] using aD
     have k9:¬ f.cap<0:=by simpa [a2] using aj
     simp[ad,ae,k9,vF,am,al,pI,a2]; exact oz (by simp[lx,ad,ae,k9,am,al,pI,a2])
    ·simp[ad,ae,aj,aP,am,al,aD,a2]; exact oz (by simp[lx,ad,ae,aj,am,al,aD,a2])
  ·simp[ad,ae,aj,aP,am,al]; exact oz (by simp[lx,ad,ae,aj,am,al])
 ·by_cases a2:q.ids.l=[]
  ·have k9:¬ f.cap<0:=by simpa [a2] using aj
   simp[ad,ae,k9,am,a2]; exact oz (by simp[lx,ad,ae,k9,am,a2])
  ·simp[ad,ae,aj,aP,am,a2]; exact oz (by simp[lx,ad,ae,aj,am,a2])
def rp (f:dB) :Bool:=f.cf.l.all (lx f)
def dK (f:dB) :Int:=
 if f.cap<1 then 8 else if 8<f.cap then 8 else if f.a3<0 then 8 else if 1000000000<f.a3 then 8 else if 60<(f.cf.l.length:Int) then 8 else if 4<(f.live:Int) then 8
 else if rp f then 0 else 8
theorem alO {f:dB} {k:Nat} {q:b9} (aN:f.cf.l[k]? = some q) (af:lx f q=false) :rp f=false:=by
 unfold rp;rw[List.all_eq_false];exact⟨q,awY aN,by simp[af]⟩
theorem alN {f:dB} (h:∀ k q,k<f.cf.l.length->f.cf.l[k]? = some q->lx f q=true) :rp f=true:=by
 unfold rp;rw[axx];intro q aN;obtain⟨k,ar⟩:=aya aN;exact h k q (awQ.1 ar).1 ar
set_option maxHeartbeats 1000000 in
theorem LB (f:dB) (al:f.cf.l.length<=1000000) :bw Tryz.prog GS 62 [fj f] (.int .i64 (dK f)) :=by
 refine bQ Tryz.checked.mixed bj ?_;apply bn Tryz.func62 [];simp[fj,k8];by_cases ad:f.cap<1
 ·simp[ad]; exact oA (by simp[dK,ad])
 by_cases ae:8<f.cap
 ·simp[ad,ae]; exact oA (by simp[dK,ad,ae])
 by_cases aj:f.a3<0
 ·simp[ad,ae,aj]; exact oA (by simp[dK,ad,ae,aj])
 by_cases aD:1000000000<f.a3
 ·simp[ad,ae,aj,aD]; exact oA (by simp[dK,ad,ae,aj,aD])
 by_cases a2:60<(f.cf.l.length:Int)
 ·simp[ad,ae,aj,aD,a2]; exact oA (by simp[dK,ad,ae,aj,aD,a2])
 simp[ad,ae,aj,aD,a2];refine a7 (XU f al) (show a4 [fj f]=true by simp[a4,pD]) ?_;simp;by_cases bv:4<(f.live:Int)
 ·simp[bv]; exact oA (by simp[dK,ad,ae,aj,aD,a2,bv])
 simp[bv];have n5:dK f=if rp f then 0 else 8:=by simp[dK,ad,ae,aj,aD,a2,bv]
 refine cl f.cf.l.length (fun k σ l=>σ 1=.ptr 0 0 3/\σ 35=cc 4 eg f.cf/\σ 36=.int .i64 f.cf.l.length/\σ 37=.int .i64 k/\(∃ rest,l=.cells 3 [.int .i64 f.cap,.int .i64 f.a3,cc 4 eg f.cf] ::rest) ∧
  ∀ j q,j<k->f.cf.l[j]? = some q->lx f q=true) ?_ (by simp[fj])
 rintro k σ l ar ⟨aK,u1,L7,L8,⟨rest,rfl⟩,cM⟩;simp[aK,u1,L7,L8];refine nE (fun h=>?_) (fun h=>?_)
 ·simp only[decide_eq_true_eq] at h;obtain⟨q,aN,_⟩:=bJ h;simp[aN,eg,aK,u1,L7,L8];refine a7 (amO f q (by omega)) (show a4 [fj f,.aH (eg q)]=true by simp[a4,pD,U.closed,Tx]) ?_;cases E4:lx f q
  ·simp;exact oA (by rw[n5,alO aN E4]; rfl)
  ·simp (disch:=omega) [aK,u1,L7,L8,wrap_i64,h];intro j q' ai gN;by_cases fu:j=k
   ·subst fu; rw[aN] at gN; cases gN; exact E4
   ·exact cM j q' (by omega) gN
 ·simp[h];have:k=f.cf.l.length:=by simp at h; omega
  subst this;exact oA (by rw[n5,alN cM]; rfl)
theorem aiX {x y:Id} (ag:x.length=32) (aI:y.length=32) :fz Tryz.prog .neq 61 (.aH (dV x)) (.aH (dV y))=some (.bool (!decide (x=y))) :=
 acL (e:=5) (by kernel_rfl) (by kernel_rfl) (by kernel_rfl) (by kernel_rfl) (by kernel_rfl) ag aI
theorem acS (a b:Bool) :fz Tryz.prog .eql 4 (.bool a) (.bool b)=some (.bool (a == b)) :=acJ (by kernel_rfl) a b
theorem jB {x:Id} (ag:x.length=32) :(dV x).length=32:=by simp[dV,ag]
def ds (s:b8 Id) :Prop:=∀ x∈s.l,x.length=32
def Ys (q:b9) :Prop:=ds q.ids/\q.ids.l.length<=1000000
def okF (f:dB) :Prop:=(∀ q∈f.cf.l,Ys q)/\f.cf.l.length<=1000000
def asv (f:dB) :Bool:=decide (100<f.cf.l.length)||(f.cf.l.take 101).any fun q=>decide (100<q.ids.l.length)
def num (f:dB) (n:Int) :Int:=
 if dK f≠0 then dK f else if n<0 then 2 else if (f.cf.l.length:Int)<=n then 2 else match f.cf.l[n.toNat]? with | some q=>if q.cO then 34 else 0 | none=>2
set_option maxHeartbeats 1000000 in
theorem adq (f:dB) (n:Int) (al:f.cf.l.length<=1000000) :bw Tryz.prog GS 65 [fj f,.int .i64 n] (.int .i64 (num f n)) :=by
 refine bQ Tryz.checked.mixed bj ?_;apply bn Tryz.func65 [];simp[fj,k8];refine a7 (LB f al) (show a4 [fj f]=true by simp[a4,pD]) ?_;simp;by_cases ad:dK f=0
 ·by_cases ae:n<0
  ·simp[ad,ae]; exact oA (by simp[num,ad,ae])
  ·by_cases aj:(f.cf.l.length:Int)<=n
   ·simp[ad,ae,aj]; exact oA (by simp[num,ad,ae,aj])
   ·obtain⟨q,aN,_⟩:=bJ (l:=f.cf.l) (k:=n.toNat) (by omega);have e5:0<=n:=by omega
    cases am:q.cO<;>(simp[ad,ae,aj,e5,aN,am,eg]; exact oA (by simp[num,ad,ae,aj,aN,am]))
 ·simp[ad]; exact oA (by simp[num,ad])
def jN:dB:=⟨0,0,none⟩
def rk (n:Int) :dB × Int:=if n<1 then (jN,2) else if 8<n then (jN,2) else (⟨n,0,none⟩,0)
theorem Pv {l:ap} {cs:List U} {f:dB} (h:cs=[.int .i64 f.cap,.int .i64 f.a3,k8 f.cf]) :eK l (.aH cs) (fj f) :=by subst h; exact .same _ (pD f)
theorem v5 {l:ap} {a b cV aZ:U} (ad:eK l a cV) (ae:eK l b aZ) :eK l (.bq [a,b]) (.bq [cV,aZ]) :=by
 refine .bq _ _ rfl fun j c c' ah cP=>?_
 rcases j with _ | _ | j
 ·simp at ah cP; subst ah cP; exact ad
 ·simp at ah cP; subst ah cP; exact ae
 ·simp at ah
theorem Ad {l:ap} {a b d cV aZ A8:U} (ad:eK l a cV) (ae:eK l b aZ) (aj:eK l d A8) :eK l (.bq [a,b,d]) (.bq [cV,aZ,A8]) :=by
 refine .bq _ _ rfl fun j c c' ah cP=>?_
 rcases j with _ | _ | _ | j
 ·simp at ah cP; subst ah cP; exact ad
 ·simp at ah cP; subst ah cP; exact ae
 ·simp at ah cP; subst ah cP; exact aj
 ·simp at ah
set_option maxHeartbeats 1000000 in
theorem OT (n:Int) :bw Tryz.prog GS 33 [.int .i64 n] (.bq [fj (rk n).1,.int .i64 (rk n).2]) :=by
 refine bQ Tryz.checked.mixed bj ?_;apply bn Tryz.func33 [];simp;by_cases ad:n<1
 ·simp[ad];exact v5 (Pv (by simp[rk,ad,jN,k8,cc])) (oA (by simp[rk,ad]))
 ·by_cases ae:8<n
  ·simp[ad,ae];exact v5 (Pv (by simp[rk,ad,ae,jN,k8,cc])) (oA (by simp[rk,ad,ae]))
  ·simp[ad,ae];exact v5 (Pv (by simp[rk,ad,ae,k8,cc])) (oA (by simp[rk,ad,ae]))
theorem W8 (s:b8 Id) :fz Tryz.prog .eql 23 (aA s) .aG=some (.bool s.isNone) :=Do (e:=61) (by kernel_rfl) 32 dV s
theorem aoV (s:b8 b9) :fz Tryz.prog .eql 72 (k8 s) .aG=some (.bool s.isNone) :=Do (e:=125) (by kernel_rfl) 4 eg s
set_option maxHeartbeats 1000000 in
theorem adB (s:b8 Id) (ak:ds s) (al:s.l.length<=1000000) :bw Tryz.prog GS 61 [aA s] (aA s) :=by
 refine bQ Tryz.checked.mixed bj ?_;apply bn Tryz.func61 [];simp[W8];cases s with
 | none=>simp; exact .same _ rfl
 | some xs=>
  have p1:xs.length<=1000000:=al;simp;rw[Lc (m:=xs.length) (xs:=xs.map dV) (by simp) (by simp[aA]) (by simp) (by omega) (by omega) (by simp[ci]; omega)];simp;refine cU.b1 ?_;simp;refine Pw (rest:=[]) (by simp) (by simp) (fun e am=>?_) ?_
  ·obtain⟨x,ag,rfl⟩:=axi.1 am;exact jB (ak x ag)
  ·have:=dd (some xs);simpa [aA,cc,U.closed] using this
set_option maxHeartbeats 1000000 in
theorem Tv (s:b8 b9) (al:s.l.length<=1000000) {l:ap} {K:U->ap->Prop} (aJ:s=none->K .aG l)
  (ad:∀ qs,s=some qs->K (.aq 4 l.length 0 qs.length qs.length (qs.length*4)) (l++[.cells (qs.length*4) (qs.map eg).flatten])) :c5 Tryz.prog GS 94 [k8 s] l (c:=⟨K⟩) :=by
 apply bn Tryz.func94 [];simp[aoV];cases s with
 | none=>simp; exact aJ rfl
 | some xs=>
  have p1:xs.length<=1000000:=al;simp;rw[Lc (m:=xs.length) (xs:=xs.map eg) (by simp) (by simp[k8]) (by simp) (by omega) (by omega) (by simp[ci]; omega)];simp;refine cU.b1 ?_;simp;exact ad xs rfl
theorem sR (qs:List b9) :∀ e∈qs.map eg,e.length=4:=fun e am=>by
 obtain⟨q,_,rfl⟩:=axi.1 am; rfl
theorem Tp {qs:List b9} {k:Nat} {q:b9} (aN:qs[k]? = some q) :(qs.map eg).flatten[k*4]? = some (.int .i64 q.next)/\(qs.map eg).flatten[k*4+1]? = some (aA q.ids) ∧
  (qs.map eg).flatten[k*4+2]? = some (.bool q.dy)/\(qs.map eg).flatten[k*4+3]? = some (.bool q.cO)/\((qs.map eg).flatten.drop (k*4)).take 4=eg q:=by
 have b0:(qs.map eg)[k]? = some (eg q) :=by rw[awV,aN]; rfl
 exact⟨nm (sR qs) b0 (j:=0) (by omega),nm (sR qs) b0 (j:=1) (by omega),nm (sR qs) b0 (j:=2) (by omega),nm (sR qs) b0 (j:=3) (by omega),Um (sR qs) b0⟩
theorem Kr {qs:List b9} {k:Nat} {q:b9} (aN:qs[k]? = some q) (j:Nat) (vs:List U) (q' : b9) (ai:j+vs.length<=4) (h:bf (eg q) j vs=eg q') :bf (qs.map eg).flatten (k*4+j) vs=((qs.set k q').map eg).flatten:=by
 have b0:(qs.map eg)[k]? = some (eg q) :=by rw[awV,aN]; rfl
 rw[HN (sR qs) b0 (by omega),h,List.map_set]
theorem w6 {α:Type} {l:List α} {k:Nat} {x y:α} (h:l[k]? = some x) :(l.set k y)[k]? = some y:=by
 rw[aw4,if_pos rfl,if_pos (awQ.1 h).1]
set_option maxHeartbeats 2000000 in
theorem aaX (f:dB) (aF:okF f) {l:ap} {K:U->ap->Prop} (aJ:f.cf=none->∀ x y,K (.aH [.int .i64 f.cap,.int .i64 f.a3,.aG]) (l++[x,y]))
  (ad:∀ qs,f.cf=some qs->∀ x y,K (.aH [.int .i64 f.cap,.int .i64 f.a3,.aq 4 (l.length+2) 0 qs.length qs.length (qs.length*4)]) (l++[x,y,.cells (qs.length*4) (qs.map eg).flatten])) :
  c5 Tryz.prog GS 64 [fj f] l (c:=⟨K⟩) :=by
 apply bn Tryz.func64 [[[0],[1],[2],[3],[4],[5],[6],[7],[8],[9,1]]];simp[fj];refine Tv f.cf aF.2 (fun aC=>?_) (fun qs ak=>?_)
 ·simp;refine cl 0 (fun k σ l'=>σ 1=.ptr l.length 0 3/\σ 2=.ptr (l.length+1) 0 3/\σ 10=.int .i64 0/\σ 11=.int .i64 k ∧
   l'=l++[.cells 3 [.int .i64 f.cap,.int .i64 f.a3,.aG],.cells 3 [.int .i64 0,.int .i64 0,.aG]]) ?_ (by simp)
  rintro k σ l' ar ⟨aK,aW,gg,ht,rfl⟩;obtain rfl:k=0:=by omega
  obtain⟨s,rfl⟩:=ij aK aW gg ht;clear aK aW gg ht;simp;exact aJ aC _ _
 ·simp;have E3:qs.length<=1000000:=by have:=aF.2; rw[ak] at this; exact this
  refine cl qs.length (fun k σ l'=>σ 1=.ptr l.length 0 3/\σ 2=.ptr (l.length+1) 0 3/\σ 10=.int .i64 qs.length/\σ 11=.int .i64 k ∧
   l'=l++[.cells 3 [.int .i64 f.cap,.int .i64 f.a3,.aq 4 (l.length+2) 0 qs.length qs.length (qs.length*4)],.cells 3 [.int .i64 0,.int .i64 0,.aG],.cells (qs.length*4) (qs.map eg).flatten]) ?_ (by simp)
  rintro k σ l' ar ⟨aK,aW,gg,ht,rfl⟩;obtain⟨s,rfl⟩:=ij aK aW gg ht;clear aK aW gg ht;simp;by_cases h:k<qs.length
  ·obtain⟨q,aN,sj⟩:=bJ h;have b0:(qs.map eg)[k]? = some (eg q) :=by rw[awV,aN]; rfl
   have ax:=nm (sR qs) b0 (j:=1) (by omega);have ll:=HN (sR qs) b0 (j:=1) (vs:=[aA q.ids]) (by simp);have pd:(qs.map eg).set k (bf (eg q) 1 [aA q.ids])=qs.map eg:=by
    apply axE;intro j;rw[aw4];by_cases ai:k=j
    ·subst ai; rw[if_pos rfl,if_pos (by simpa using h),b0]; simp[eg]
    ·rw[if_neg ai]
   rw[pd] at ll;have vy:=aF.1 q (by rw[ak]; exact sj);have dD:IntKind.i64.wrap ((k:Int)+1)=k+1:=wrap_i64 (by omega) (by omega);simp[h,ax,eg];refine a7 (adB q.ids vy.1 vy.2) (show a4 [aA q.ids]=true by simp[a4,dd]) ?_;have fF:(aA q.ids).cells=some [aA q.ids] :=Tq _;have dN:k*4+1+1<=qs.length*4:=by omega
   simp[h,ax,eg,fF,dN,dD,ll]
  ·simp[h];exact ad qs ak _ _
def pn (n:Int) :b9:=⟨n,none,false,false⟩
def sub (f:dB) (from_:Int) :dB × Int × Int:=
 if dK f≠0 then (jN,0,dK f) else if from_<f.a3 then (jN,0,2) else if 1000000000<from_ then (jN,0,2)
 else if (f.cf.l.length:Int)=60 then (jN,0,18) else if (f.live:Int)=4 then (jN,0,18)
 else ({ f with cf:=some (f.cf.l++[pn from_]) },f.cf.l.length,0)
theorem adE (qs:List b9) :uR (qs.map eg)=true:=by
 have:=TB (some qs);simpa [k8,cc,U.closed] using this
theorem J8 {l:ap} {b n cap sz:Nat} {qs:List b9} (af:l[b]? = some (.cells sz (qs.map eg).flatten)) (aC:qs.length=n) :eK l (.aq 4 b 0 n cap sz) (k8 (some qs)) :=
 Pw (rest:=[]) (by simpa using af) (by simp[aC]) (sR qs) (adE qs)
theorem CF {l:ap} {f:dB} {v:U} (h:eK l v (k8 f.cf)) :eK l (.aH [.int .i64 f.cap,.int .i64 f.a3,v]) (fj f) :=by
 refine .aH _ _ rfl fun j c c' ah cP=>?_
 rcases j with _ | _ | _ | j
 ·simp at ah cP; subst ah cP; exact .same _ rfl
 ·simp at ah cP; subst ah cP; exact .same _ rfl
 ·simp at ah cP; subst ah cP; exact h
 ·simp at ah
set_option maxHeartbeats 2000000 in
theorem aoW (f:dB) (n:Int) (aF:okF f) :bw Tryz.prog GS 34 [fj f,.int .i64 n] (.bq [fj (sub f n).1,.int .i64 (sub f n).2.1,.int .i64 (sub f n).2.2]) :=by
 refine bQ Tryz.checked.mixed bj ?_;apply bn Tryz.func34 [[[0],[1],[2],[3],[4,2]]];simp[fj];refine a7 (LB f aF.2) (show a4 [fj f]=true by simp[a4,pD]) ?_;have aw:∀ l,eK l (.aH [.int .i64 0,.int .i64 0,.aG]) (fj jN) :=fun l=>.same _ (pD jN)
 simp;by_cases ad:dK f=0
 ·by_cases ae:n<f.a3
  ·simp[ad,ae];simp only[sub,ad,ae,ne_eq,not_true_eq_false,if_false,if_true];exact Ad (aw _) (.same _ rfl) (.same _ rfl)
  ·by_cases aj:1000000000<n
   ·simp[ad,ae,aj];simp only[sub,ad,ae,aj,ne_eq,not_true_eq_false,if_false,if_true];exact Ad (aw _) (.same _ rfl) (.same _ rfl)
   ·have bW:cp (.aq 4) (k8 f.cf)=some (.int .i64 f.cf.l.length) :=lV _;by_cases aD:(f.cf.l.length:Int)=60
    ·simp[ad,ae,aj,bW,aD];simp only[sub,ad,ae,aj,aD,ne_eq,not_true_eq_false,if_false,if_true];exact Ad (aw _) (.same _ rfl) (.same _ rfl)
    ·simp[ad,ae,aj,bW,aD];refine a7 (XU f aF.2) (show a4 [fj f]=true by simp[a4,pD]) ?_;simp;by_cases a2:(f.live:Int)=4
     ·simp[a2];simp only[sub,ad,ae,aj,aD,a2,ne_eq,not_true_eq_false,if_false,if_true];exact Ad (aw _) (.same _ rfl) (.same _ rfl)
     ·have zG:sub f n=({ f with cf:=some (f.cf.l++[pn n]) },(f.cf.l.length:Int),(0:Int)) :=by
       simp only[sub,ad,ae,aj,aD,a2,ne_eq,not_true_eq_false,if_false]
      simp[a2];refine aaX f aF (fun aC x y=>?_) (fun qs ak x y=>?_)
      ·simp;rw[Re (xs:=[eg (pn n)]) (by simp[de,eg,pn,aA,cc]) (by omega) (by omega) (by simp) (by simp[ci])];simp;refine cU.b1 ?_;simp[bW,zG];exact Ad (CF (f:={ f with cf:=_ }) (J8 (qs:=f.cf.l++[pn n]) (by simp[aC]) (by simp[aC]))) (.same _ rfl) (.same _ rfl)
      ·have E3:qs.length<=1000000:=by have:=aF.2; rw[ak] at this; exact this
       simp;rw[Dk (es:=qs.map eg) (xs:=[eg (pn n)]) (m:=1) (by simp) (by simp[de,eg,pn,aA,cc]) (by simp) (by simp) rfl (sR qs) (by omega) (by omega) (by simp[ci]; omega)];simp;refine cU.b1 ?_;simp[bW,zG];exact Ad (CF (f:={ f with cf:=_ }) (J8 (qs:=f.cf.l++[pn n]) (by simp[ak]) (by simp[ak]))) (.same _ rfl) (.same _ rfl)
 ·simp[ad];simp only[sub,ad,ne_eq,not_false_eq_true,if_true];exact Ad (aw _) (.same _ rfl) (.same _ rfl)
def s3:Id:=List.replicate 32 0
structure De where
 f:dB
 kind:Int
 number:Int
 id:Id
 e:Int
def De.enc (t:De) :U:=.bq [fj t.f,.int .u8 t.kind,.int .i64 t.number,.aH (dV t.id),.int .i64 t.e]
def Aj (f:dB) (k:Nat) (q:b9) :dB:={ f with cf:=some (f.cf.l.set k q) }
def take (f:dB) (n:Int) :De:=
 if num f n≠0 then ⟨jN,0,0,s3,num f n⟩ else
 match f.cf.l[n.toNat]? with
 | none=>⟨jN,0,0,s3,38⟩
 | some q=>match q.ids.l with
  | x::r=>⟨Aj f n.toNat { q with next:=q.next+1,ids:=some r },1,q.next,x,0⟩
  | []=>if q.dy then ⟨Aj f n.toNat { q with dy:=false,cO:=true },2,q.next,s3,0⟩ else ⟨jN,0,0,s3,38⟩
theorem J9 {l:ap} {f:U} {k n e:Int} {i:U} {t:De} (ad:eK l f (fj t.f)) (ae:k=t.kind) (aj:n=t.number) (aD:i=.aH (dV t.id)) (a2:e=t.e) :eK l (.bq [f,.int .u8 k,.int .i64 n,i,.int .i64 e]) t.enc:=by
 subst ae aj aD a2;refine .bq _ _ rfl fun j c c' ah cP=>?_
 rcases j with _ | _ | _ | _ | _ | j
 ·simp at ah cP; subst ah cP; exact ad
 ·simp at ah cP; subst ah cP; exact .same _ rfl
 ·simp at ah cP; subst ah cP; exact .same _ rfl
 ·simp at ah cP; subst ah cP; exact .same _ (by simp[U.closed,dV,LC])
 ·simp at ah cP; subst ah cP; exact .same _ rfl
 ·simp at ah
theorem QJ:dV s3=[.int .u8 0,.int .u8 0,.int .u8 0,.int .u8 0,.int .u8 0,.int .u8 0,.int .u8 0,.int .u8 0,.int .u8 0,.int .u8 0,.int .u8 0,.int .u8 0,.int .u8 0,.int .u8 0,.int .u8 0,.int .u8 0,.int .u8 0,.int .u8 0,.int .u8 0,.int .u8 0,.int .u8 0,.int .u8 0,.int .u8 0,.int .u8 0,.int .u8 0,.int .u8 0,.int .u8 0,.int .u8 0,.int .u8 0,.int .u8 0,.int .u8 0,.int .u8 0] :=rfl
theorem adu {f:dB} (h:dK f=0) {q:b9} (aN:q∈f.cf.l) :lx f q=true/\0<=q.next/\q.next<=1000000000:=by
 have ad:rp f=true:=by
  unfold dK at h
  repeat' split at h
  all_goals first | assumption | (exfalso; omega)
 have ae:lx f q=true:=by
  unfold rp at ad;rw[axx] at ad;exact ad q aN
 refine⟨ae,?_⟩;unfold lx at ae
 repeat' split at ae
 all_goals first | cases ae; done | omega
theorem alr {f:dB} {n:Int} (h:num f n=0) :dK f=0/\0<=n/\∃ q,f.cf.l[n.toNat]? = some q/\q.cO=false:=by
 unfold num at h;split at h
 ·rename_i ad; exact absurd h ad
 rename_i ad;split at h
 ·cases h
 split at h
 ·cases h
 split at h
 ·rename_i q aN;split at h
  ·cases h
  ·rename_i am; exact⟨by omega,by omega,q,aN,by simpa using am⟩
 ·cases h
theorem aaJ {f:dB} {n:Int} (h:num f n≠0) :take f n=⟨jN,0,0,s3,num f n⟩:=by unfold take; rw[if_pos h]
theorem aaK {f:dB} {k:Nat} {q:b9} (h:num f k=0) (aN:f.cf.l[k]? = some q) (ay:q.ids.l=[]) (al:q.dy=false) :take f k=⟨jN,0,0,s3,38⟩:=by
 unfold take; rw[if_neg (by simpa using h),axq,aN]; simp only[ay,al]; rfl
theorem aaN {f:dB} {k:Nat} {q:b9} (h:num f k=0) (aN:f.cf.l[k]? = some q) (ay:q.ids.l=[]) (al:q.dy=true) :take f k=⟨Aj f k { q with dy:=false,cO:=true },2,q.next,s3,0⟩:=by
 unfold take; rw[if_neg (by simpa using h),axq,aN]; simp only[ay,al]; rfl
theorem aaL {f:dB} {k:Nat} {q:b9} {x:Id} {r:List Id} (h:num f k=0) (aN:f.cf.l[k]? = some q) (ay:q.ids.l=x::r) :take f k=⟨Aj f k { q with next:=q.next+1,ids:=some r },1,q.next,x,0⟩:=by
 unfold take; rw[if_neg (by simpa using h),axq,aN]; simp only[ay]
set_option maxHeartbeats 4000000 in
theorem ao2 (f:dB) (n:Int) (aF:okF f) :bw Tryz.prog GS 36 [fj f,.int .i64 n] (take f n).enc:=by
 refine bQ Tryz.checked.mixed bj ?_;apply bn Tryz.func36 [[[0],[1],[2],[3,2]],[[0],[1],[2],[3,2]]]
 try simp only[qg]
 simp[fj];refine a7 (adq f n aF.2) (show a4 [fj f,.int .i64 n]=true by simp[a4,pD,U.closed]) ?_;have aw:∀ l,eK l (.aH [.int .i64 0,.int .i64 0,.aG]) (fj jN) :=fun l=>.same _ (pD jN)
 simp;by_cases ad:num f n=0
 ·obtain⟨ah,aC,q,aN,am⟩:=alr ad;have ar:n.toNat<f.cf.l.length:=(awQ.1 aN).1;have sj:=awY aN;obtain⟨_,E3,E4⟩:=adu ah sj;simp[ad];refine aaX f aF (fun ak x y=>?_) (fun qs ak x y=>?_)
  ·rw[ak] at ar; simp at ar
  ·have zD:f.cf.l=qs:=by rw[ak]; rfl
   rw[zD] at aN ar sj;have km:n<qs.length:=by omega
   obtain⟨k,rfl⟩:∃ k:Nat,n=k:=⟨n.toNat,by omega⟩
   simp only[axq] at aN ar;obtain⟨rY,bS,b7,hR,_⟩:=Tp aN;have dN:k*4+4<=qs.length*4:=by omega
   have aP:IntKind.i64.wrap (q.next+1)=q.next+1:=wrap_i64 (by omega) (by omega)
   have hr:k*4+1<=qs.length*4:=by omega
   have cT:k*4+1+1<=qs.length*4:=by omega
   have dw:k*4+2+1<=qs.length*4:=by omega
   have ke:k*4+3+1<=qs.length*4:=by omega
   have bA:cp (.aq 32) (aA q.ids)=some (.int .i64 q.ids.l.length) :=lV _;have gN:f.cf.l[k]? = some q:=by rw[zD]; exact aN
   simp[km,rY,bS];cases kO:q.ids.l with
   | nil=>
    cases al:q.dy
    ·simp[bA,kO,al,b7];rw[aaK ad gN kO al];exact J9 (aw _) rfl rfl rfl rfl
    ·simp[bA,kO,al,b7];refine⟨dw,ke,?_⟩;rw[Kr aN 2 [.bool false] { q with dy:=false } (by simp) (by simp[eg]),Kr (w6 aN) 3 [.bool true] { q with dy:=false,cO:=true } (by simp) (by simp[eg]),azN];rw[aaN ad gN kO al];exact J9 (CF (f:=Aj f k { q with dy:=false,cO:=true }) (J8 (qs:=f.cf.l.set k { q with dy:=false,cO:=true }) (by simp[zD]) (by simp[zD]))) rfl rfl rfl rfl
   | cons i5 r=>
    obtain⟨xs,p1⟩:∃ xs,q.ids=some xs:=by cases h:q.ids with | none=>rw[h] at kO; cases kO | some xs=>exact⟨xs,rfl⟩
    have zJ:xs=i5::r:=by rw[p1] at kO; exact kO
    subst zJ;have B8:i5.length=32:=(aF.1 q (by rw[zD]; exact sj)).1 i5 (by rw[kO]; simp);have bT:cN (.aq 32) (aA (some (i5::r))) (.int .i64 0)=some (.bM (dV i5) 0) :=by simp[aA,p2]
    have bW:fm (.aq 32) (aA (some (i5::r))) (some (.int .i64 1)) none none=some (aA (some r)) :=by
     unfold aA; rw[Kp (by omega) (by simp; omega)]; rfl
    have fF:∀ s,(aA s).cells=some [aA s] :=fun s=>Tq _
    rw[p1] at bA bS;simp at bA;have ny:(0:Int)<(r.length:Int)+1:=by omega
    simp[bA,kO,p1,bT,bW,fF,bS,cT,ny,jB B8,awR];rw[Kr aN 1 [aA (some r)] { q with ids:=some r } (by simp) (by simp[eg])];obtain⟨d0,d1,d2,d3,_⟩:=Tp (w6 (y:={ q with ids:=some r }) aN);have sm:=gw (cs:=dV s3) (vs:=dV i5) (by rw[jB B8]; rfl);rw[QJ] at sm;have ain:=gw (cs:=dV i5) (vs:=dV i5) rfl;have BX:=Kr (w6 (y:={ q with ids:=some r }) aN) 0 [.int .i64 (q.next+1)] { q with next:=q.next+1,ids:=some r } (by simp) (by simp[eg]);rw[azN,ayW] at BX;simp[d0,aP,hr,jB B8,sm,ain,BX,awR,-List.map_set];rw[aaL ad gN kO];exact J9 (CF (f:=Aj f k { q with next:=q.next+1,ids:=some r }) (J8 (qs:=f.cf.l.set k { q with next:=q.next+1,ids:=some r }) (by simp[zD]) (by simp[zD]))) rfl rfl rfl rfl
 ·simp[ad];rw[aaJ ad];exact J9 (aw _) rfl rfl rfl rfl
def aeq (q:b9) :b9:={ q with ids:=none,dy:=false,cO:=true }
def qa (c:Nat) (r:ap) (v:U) (s:b8 Id) :Prop:=match s with
 | none=>v=.aG
 | some xs=>v=aA (some xs)\/∃ b,v=.aq 32 (b+c) 0 xs.length xs.length (xs.length*32)/\r[b]? = some (.cells (xs.length*32) (xs.map dV).flatten)
def vK:U->Prop
 | .aG=>True
 | .aq ..=>True
 | _=>False
def qD:U->Option Nat
 | .aq _ b _ _ _ _=>some b
 | _=>none
def nK (v:U) (q:b9) :List U:=[.int .i64 q.next,v,.bool q.dy,.bool q.cO]
def h3 (vs:List U) (qs:List b9) :List (List U) :=List.zipWith nK vs qs
theorem anV (vs:List U) (qs:List b9) (h:vs.length=qs.length) :(h3 vs qs).length=qs.length:=by simp[h3,h]
theorem Kh (vs:List U) (qs:List b9) :∀ e∈h3 vs qs,e.length=4:=fun e am=>by
 obtain⟨i,ay⟩:=aya am;simp only[h3,ayX] at ay;split at ay
 ·cases ay; rfl
 ·cases ay
theorem PG {vs:List U} {qs:List b9} {i:Nat} {v:U} {q:b9} (ao:vs[i]? = some v) (aN:qs[i]? = some q) :(h3 vs qs)[i]? = some (nK v q) :=by
 simp[h3,ayX,ao,aN]
theorem anW {vs:List U} {qs:List b9} {i:Nat} (v:U) (q:b9) :(h3 vs qs).set i (nK v q)=h3 (vs.set i v) (qs.set i q) :=by
 apply axE;intro j;simp only[h3,aw4,ayX,List.length_zipWith];by_cases hf:i=j
 ·subst hf;simp only[if_true];by_cases ad:i<vs.length<;>by_cases ae:i<qs.length<;>simp[ad,ae]<;>omega
 ·simp[hf]
theorem ZQ {vs:List U} {qs:List b9} {i:Nat} {v:U} {q:b9} (ao:vs[i]? = some v) (aN:qs[i]? = some q) :
  (h3 vs qs).flatten[i*4]? = some (.int .i64 q.next)/\(h3 vs qs).flatten[i*4+1]? = some v/\(h3 vs qs).flatten[i*4+2]? = some (.bool q.dy)/\(h3 vs qs).flatten[i*4+3]? = some (.bool q.cO) ∧
  ((h3 vs qs).flatten.drop (i*4)).take 4=nK v q:=by
 have b0:=PG ao aN;have aD:=Kh vs qs;exact⟨nm aD b0 (j:=0) (by omega),nm aD b0 (j:=1) (by omega),nm aD b0 (j:=2) (by omega),nm aD b0 (j:=3) (by omega),Um aD b0⟩
theorem Gg {vs:List U} {qs:List b9} {i:Nat} {v:U} {q:b9} (ao:vs[i]? = some v) (aN:qs[i]? = some q) (j:Nat) (g0:List U) (v' : U) (q' : b9) (ai:j+g0.length<=4) (h:bf (nK v q) j g0=nK v' q') :
  bf (h3 vs qs).flatten (i*4+j) g0=(h3 (vs.set i v') (qs.set i q')).flatten:=by
 rw[HN (Kh vs qs) (PG ao aN) (by omega),h,anW]
theorem anU {vs:List U} {qs:List b9} (h:vs.length=qs.length) :(h3 vs qs).flatten.length=qs.length*4:=by
 rw[w4 (Kh vs qs),anV vs qs h]
structure i7 (c:Nat) (r:ap) (T:List Nat) (s:Nat) (vs:List U) (qs:List b9) :Prop where
 len:vs.length=qs.length
 row:r[s]? = some (.cells (qs.length*4) (h3 vs qs).flatten)
 own:∀ (i:Nat) (v:U) (q:b9),vs[i]? = some v->qs[i]? = some q->qa c r v q.ids
 pG:∀ (i:Nat) (v:U) (b:Nat),vs[i]? = some v->qD v=some b->b≠s+c/\∀ t∈T,b≠t+c
 apart:∀ (i j:Nat) (v v' : U) (b:Nat),i≠j->vs[i]? = some v->vs[j]? = some v'->qD v=some b->qD v'≠some b
 ts:s∉T
theorem qa.b1 {c:Nat} {r r' : ap} {v:U} {x:b8 Id} (h:qa c r v x) (ar:∀ b,qD v=some (b+c)->r'[b]? = r[b]?) :qa c r' v x:=by
 cases x with
 | none=>exact h
 | some xs=>
  rcases h with h | ⟨b,rfl,af⟩
  ·exact .inl h
  ·exact .inr ⟨b,rfl,by rw[ar b rfl]; exact af⟩
theorem qa.blk {c:Nat} {r:ap} {v:U} {x:b8 Id} (h:qa c r v x) {b:Nat} (af:qD v=some b) :∃ aZ,b=aZ+c/\aZ<r.length:=by
 cases x with
 | none=>rw[h] at af; cases af
 | some xs=>
  rcases h with h | ⟨aZ,rfl,ae⟩
  ·rw[h] at af; cases af
  ·cases af;exact⟨aZ,rfl,cd ae⟩
theorem i7.b1 {c:Nat} {r r' : ap} {T:List Nat} {s:Nat} {vs:List U} {qs:List b9} (N:i7 c r T s vs qs) (ar:∀ b,b<r.length->b∉T->r'[b]? = r[b]?) :i7 c r' T s vs qs:=by
 refine⟨N.len,?_,fun i v q ao aN=>(N.own i v q ao aN).b1 fun b af=>?_,N.pG,N.apart,N.ts⟩
 ·rw[ar s (cd N.row) N.ts]; exact N.row
 ·obtain⟨aZ,ad,ae⟩:=(N.own i v q ao aN).blk af;obtain rfl:aZ=b:=by omega
  exact ar aZ ae (fun h=>(N.pG i v _ ao af).2 aZ h rfl)
theorem i7.to {c:Nat} {r:ap} {T T' : List Nat} {s:Nat} {vs:List U} {qs:List b9} (N:i7 c r T s vs qs) (h:∀ t∈T',t∈T\/r.length<=t) :i7 c r T' s vs qs:=by
 refine⟨N.len,N.row,N.own,fun i v b ao af=>⟨(N.pG i v b ao af).1,fun t aX=>?_⟩,N.apart,fun aX=>?_⟩
 ·rcases h t aX with ad | ad
  ·exact (N.pG i v b ao af).2 t ad
  ·obtain⟨q,aN⟩:∃ q,qs[i]? = some q:=⟨qs[i]'(by rw[<-N.len]; exact (awQ.1 ao).1),awT _⟩
   obtain⟨aZ,ae,aj⟩:=(N.own i v q ao aN).blk af;omega
 ·rcases h s aX with ad | ad
  ·exact N.ts ad
  ·have:=cd N.row; omega
theorem i7.oL {c:Nat} {r r' : ap} {T:List Nat} {s:Nat} {vs:List U} {qs:List b9} (N:i7 c r T s vs qs) {i:Nat} {v:U} {q:b9} (ao:vs[i]? = some v) (aN:qs[i]? = some q) {v' : U} {q' : b9}
  (b0:r'[s]? = some (.cells (qs.length*4) (h3 (vs.set i v') (qs.set i q')).flatten))
  (ar:∀ b,b<r.length->b≠s->qD v≠some (b+c)->r'[b]? = r[b]?)
  (gC:qa c r' v' q'.ids) (af:∀ b,qD v'=some b->qD v=some b\/(r.length+c<=b/\b≠s+c/\∀ t∈T,b≠t+c)) :i7 c r' T s (vs.set i v') (qs.set i q') :=by
 have ay:i<vs.length:=(awQ.1 ao).1;have ahg:i<qs.length:=(awQ.1 aN).1;have ae8:∀ b,qD v'=some b->b≠s+c/\∀ t∈T,b≠t+c:=fun b h=>by
  rcases af b h with ad | ad
  ·exact N.pG i v b ao ad
  ·exact ad.2
 refine⟨by simp[N.len],by simpa using b0,fun j w p aP au=>?_,fun j w b aP jh=>?_,fun j k w w' b fu aP rc jh=>?_,N.ts⟩
 ·by_cases hf:i=j
  ·subst hf;rw[aw4,if_pos rfl,if_pos ay] at aP;rw[aw4,if_pos rfl,if_pos ahg] at au;cases aP; cases au; exact gC
  ·rw[aw4,if_neg hf] at aP au;have av:=N.own j w p aP au;refine av.b1 fun b jh=>?_
   obtain⟨aZ,ad,ae⟩:=av.blk jh;obtain rfl:aZ=b:=by omega
   exact ar aZ ae (fun h=>(N.pG j w _ aP jh).1 (by rw[h])) (fun h=>N.apart i j v w _ hf ao aP h jh)
 ·by_cases hf:i=j
  ·subst hf;rw[aw4,if_pos rfl,if_pos ay] at aP;cases aP; exact ae8 b jh
  ·rw[aw4,if_neg hf] at aP;exact N.pG j w b aP jh
 ·by_cases hf:i=j
  ·subst hf;rw[aw4,if_pos rfl,if_pos ay] at aP;rw[aw4,if_neg fu] at rc;cases aP;intro Ij;rcases af b jh with ad | ⟨ad,_⟩
   ·exact N.apart i k v w' b fu ao rc ad Ij
   ·obtain⟨p,au⟩:∃ p,qs[k]? = some p:=⟨qs[k]'(by rw[<-N.len]; exact (awQ.1 rc).1),awT _⟩
    obtain⟨aZ,ae,aj⟩:=(N.own k w' p rc au).blk Ij;omega
  ·rw[aw4,if_neg hf] at aP;by_cases ob:i=k
   ·subst ob;rw[aw4,if_pos rfl,if_pos ay] at rc;cases rc;intro Ij;rcases af b Ij with ad | ⟨ad,_⟩
    ·exact N.apart j i w v b fu aP ao jh ad
    ·obtain⟨p,au⟩:∃ p,qs[j]? = some p:=⟨qs[j]'(by rw[<-N.len]; exact (awQ.1 aP).1),awT _⟩
     obtain⟨aZ,ae,aj⟩:=(N.own j w p aP au).blk jh;omega
   ·rw[aw4,if_neg ob] at rc;exact N.apart j k w w' b fu aP rc jh
theorem qa.rd {c:Nat} {L r:ap} (ah:L.length=c) {v:U} {x:b8 Id} (h:qa c r v x) (ag:ds x) :eK (L++r) v (aA x) :=by
 cases x with
 | none=>rw[h]; exact .same _ rfl
 | some xs=>
  rcases h with h | ⟨b,rfl,af⟩
  ·rw[h]; exact .same _ (dd _)
  refine Pw (rest:=[]) ?_ (by simp) (fun e am=>?_) ?_
  ·rw[axr,aw6 (by omega),show b+c - L.length=b by omega]; exact af
  ·obtain⟨y,aI,rfl⟩:=axi.1 am; exact jB (ag y aI)
  ·have:=dd (some xs); simpa [aA,cc,U.closed] using this
theorem i7.rd {c:Nat} {L r:ap} (ah:L.length=c) {T:List Nat} {s:Nat} {vs:List U} {qs:List b9} (N:i7 c r T s vs qs) (ag:∀ q∈qs,ds q.ids) (cap sz:Nat) (hL:sz=qs.length*4) :eK (L++r) (.aq 4 (s+c) 0 qs.length cap sz) (k8 (some qs)) :=by
 subst hL;refine .aq 4 (s+c) 0 qs.length cap _ (h3 vs qs).flatten _ ?_ (by simp) (sR qs) (by rw[anU N.len]; omega) (fun i j e x GO am ai sr=>?_)
 ·rw[aw6 (by omega),show s+c - L.length=s by omega]; exact N.row
 ·rw[awV] at am;cases aN:qs[i]? with
  | none=>rw[aN] at am; cases am
  | some q=>
   rw[aN] at am;cases am;have ay:i<vs.length:=by rw[N.len]; exact (awQ.1 aN).1
   obtain⟨v,ao⟩:∃ v,vs[i]? = some v:=⟨vs[i],awT ay⟩
   have MX:j<4:=(awQ.1 ai).1;rw[axV,nm (Kh vs qs) (PG ao aN) MX] at sr;rcases j with _ | _ | _ | _ | j
   ·simp[nK,eg] at sr ai; subst sr ai; exact .same _ rfl
   ·simp[nK,eg] at sr ai; subst sr ai; exact (N.own i v q ao aN).rd ah (ag q (awY aN))
   ·simp[nK,eg] at sr ai; subst sr ai; exact .same _ rfl
   ·simp[nK,eg] at sr ai; subst sr ai; exact .same _ rfl
   ·omega
set_option maxHeartbeats 1000000 in
theorem adC (s:b8 Id) (al:s.l.length<=1000000) {l:ap} {K:U->ap->Prop} (aJ:s=none->K .aG l)
  (ad:∀ xs,s=some xs->K (.aq 32 l.length 0 xs.length xs.length (xs.length*32)) (l++[.cells (xs.length*32) (xs.map dV).flatten])) :c5 Tryz.prog GS 61 [aA s] l (c:=⟨K⟩) :=by
 apply bn Tryz.func61 [];simp[W8];cases s with
 | none=>simp; exact aJ rfl
 | some xs=>
  have p1:xs.length<=1000000:=al;simp;rw[Lc (m:=xs.length) (xs:=xs.map dV) (by simp) (by simp[aA]) (by simp) (by omega) (by omega) (by simp[ci]; omega)];simp;refine cU.b1 ?_;simp;exact ad xs rfl
theorem Ma {α:Type} (l r:List α) (i:Nat) :(l++r)[l.length+i]? = r[i]?:=by
 rw[aw6 (by omega)]; congr 1; omega
theorem Z3 {α:Type} (l r:List α) (i:Nat) (x:α) :(l++r).set (l.length+i) x=l++r.set i x:=by
 rw[axS _ _ (by omega)]; congr 2; omega
theorem sB {α:Type} {l:List α} {i:Nat} {x:α} (h:l[i]? = some x) :i<l.length:=(awQ.1 h).1
theorem Z8 {α:Type} {l:List α} {i:Nat} {x:α} (h:l[i]? = some x) :l.set i x=l:=by
 apply axE;intro j;rw[aw4];by_cases ai:i=j
 ·subst ai; rw[if_pos rfl,if_pos (sB h),h]
 ·rw[if_neg ai]
theorem i7.adM {c:Nat} {r:ap} {s:Nat} {vs:List U} {qs:List b9} (N:i7 (c+2) r [] s vs qs) (a b:aV) :i7 c (a::b::r) [] (s+2) vs qs:=by
 refine⟨N.len,N.row,fun i v q ao aN=>?_,fun i v b ao af=>⟨?_,fun t aX=>by cases aX⟩,N.apart,by simp⟩
 ·have h:=N.own i v q ao aN;revert h;cases q.ids with
  | none=>exact id
  | some xs=>
   rintro (h | ⟨aZ,rfl,af⟩)
   ·exact .inl h
   ·exact .inr ⟨aZ+2,by rw[show aZ+2+c=aZ+(c+2) by omega],af⟩
 ·have:=(N.pG i v b ao af).1;omega
theorem alb {c:Nat} (qs:List b9) :i7 c [.cells (qs.length*4) (qs.map eg).flatten] [] 0 (qs.map fun q=>aA q.ids) qs:=by
 refine⟨by simp,?_,fun i v q ao aN=>?_,fun i v b ao af=>?_,fun i j v v' b hf ao fD af=>?_,by simp⟩
 ·have:h3 (qs.map fun q=>aA q.ids) qs=qs.map eg:=by
   unfold h3;rw[List.zipWith_map_left,List.zipWith_self];rfl
  rw[this]; rfl
 ·rw[awV,aN] at ao;cases ao
  dsimp only
  unfold qa;split
  ·rename_i h; rw[h]; rfl
  ·rename_i h; rw[h]; exact .inl rfl
 ·rw[awV] at ao;cases aN:qs[i]? with
  | none=>rw[aN] at ao; cases ao
  | some q=>
   rw[aN] at ao; cases ao
   dsimp only at af
   cases h:q.ids<;>rw[h] at af<;>cases af
 ·rw[awV] at ao;cases aN:qs[i]? with
  | none=>rw[aN] at ao; cases ao
  | some q=>
   rw[aN] at ao; cases ao
   dsimp only at af
   cases h:q.ids<;>rw[h] at af<;>cases af
set_option maxHeartbeats 4000000 in
theorem api (f:dB) (aF:okF f) {l:ap} {K:U->ap->Prop} (aJ:f.cf=none->∀ x y,K (.aH [.int .i64 f.cap,.int .i64 f.a3,.aG]) (l++[x,y]))
  (ad:∀ qs,f.cf=some qs->∀ (rest:ap) (s:Nat) (vs:List U),i7 l.length rest [] s vs qs->(∀ v∈vs,vK v)->K (.aH [.int .i64 f.cap,.int .i64 f.a3,.aq 4 (s+l.length) 0 qs.length qs.length (qs.length*4)]) (l++rest)) :
  c5 Tryz.prog GS 64 [fj f] l (c:=⟨K⟩) :=by
 apply bn Tryz.func64 [[[0],[1],[2],[3],[4],[5],[6],[7],[8],[9,1]]];simp[fj];refine Tv f.cf aF.2 (fun aC=>?_) (fun qs ak=>?_)
 ·simp;refine cl 0 (fun k σ l'=>σ 1=.ptr l.length 0 3/\σ 2=.ptr (l.length+1) 0 3/\σ 10=.int .i64 0/\σ 11=.int .i64 k ∧
   l'=l++[.cells 3 [.int .i64 f.cap,.int .i64 f.a3,.aG],.cells 3 [.int .i64 0,.int .i64 0,.aG]]) ?_ (by simp)
  rintro k σ l' ar ⟨aK,aW,gg,ht,rfl⟩;obtain rfl:k=0:=by omega
  obtain⟨s,rfl⟩:=ij aK aW gg ht;clear aK aW gg ht;simp;exact aJ aC _ _
 ·simp;have E3:qs.length<=1000000:=by have:=aF.2; rw[ak] at this; exact this
  refine cl qs.length (fun k σ l'=>σ 1=.ptr l.length 0 3/\σ 2=.ptr (l.length+1) 0 3/\σ 10=.int .i64 qs.length/\σ 11=.int .i64 k ∧
   ∃ r vs,l'=l++(.cells 3 [.int .i64 f.cap,.int .i64 f.a3,.aq 4 (l.length+2) 0 qs.length qs.length (qs.length*4)] ::.cells 3 [.int .i64 0,.int .i64 0,.aG] ::r) ∧
    i7 (l.length+2) r [] 0 vs qs/\∀ i v q,vs[i]? = some v->qs[i]? = some q->if i<k then vK v else v=aA q.ids) ?_ ?_
  ·rintro k σ l' ar ⟨aK,aW,gg,ht,r,vs,rfl,N,ix⟩;obtain⟨s,rfl⟩:=ij aK aW gg ht;clear aK aW gg ht;simp;by_cases h:k<qs.length
   ·obtain⟨q,aN,sj⟩:=bJ h;obtain⟨v,ao⟩:∃ v,vs[k]? = some v:=⟨vs[k]'(by rw[N.len]; exact h),awT _⟩
    have nB:v=aA q.ids:=by simpa using ix k v q ao aN
    subst nB;obtain⟨_,d1,_,_,_⟩:=ZQ ao aN;have b0:=N.row;have vy:=aF.1 q (by rw[ak]; exact sj);have dD:IntKind.i64.wrap ((k:Int)+1)=k+1:=wrap_i64 (by omega) (by omega);have dN:k*4+1+1<=qs.length*4:=by omega
    have jZ:=cd b0;have BW:∀ X:aV,(r++[X])[0]? = some (.cells (qs.length*4) (h3 vs qs).flatten) :=fun X=>by rw[awS jZ]; exact b0
    have aih:∀ (X:aV) (h:0<(r++[X]).length),(r++[X])[0]=.cells (qs.length*4) (h3 vs qs).flatten:=fun X h=>by
     have:=BW X; rw[awT h] at this; exact Option.some.inj this
    simp[h,b0,d1,Ma];have YG:∀ (v' : U) (i:Nat) (w:U) (p:b9),vK v'->(vs.set k v')[i]? = some w->qs[i]? = some p->if i<k+1 then vK w else w=aA p.ids:=by
     intro v' i w p av aP au;by_cases ob:k=i
     ·subst ob;rw[aw4,if_pos rfl,if_pos (sB ao)] at aP;cases aP;rw[if_pos (by omega)]; exact av
     ·rw[aw4,if_neg ob] at aP;have:=ix i w p aP au;by_cases ae:i<k
      ·rw[if_pos ae] at this; rw[if_pos (by omega)]; exact this
      ·rw[if_neg ae] at this; rw[if_neg (by omega)]; exact this
    have BZ:qs.set k q=qs:=Z8 aN;refine adC q.ids vy.2 (fun aC=>?_) (fun xs ag=>?_)
    ·have ll:=Gg ao aN 1 [.aG] .aG q (by simp) (by simp[nK]);rw[BZ] at ll;simp[h,b0,d1,Ma,Z3,U.cells,dN,dD,ll];refine⟨vs.set k .aG,?_,fun i w p=>YG .aG i w p trivial⟩;have:=N.oL ao aN (v':=.aG) (q':=q) (r':=r.set 0 (aV.cells (qs.length*4) (h3 (vs.set k U.aG) qs).flatten)) (by rw[BZ,aw4,if_pos rfl,if_pos jZ]) (fun b af me _=>by rw[aw4,if_neg (fun h=>me h.symm)]) (by rw[aC]; rfl) (fun b af=>by cases af)
     rwa [BZ] at this
    ·have ll:=Gg ao aN 1 [.aq 32 (l.length+(r.length+1+1)) 0 xs.length xs.length (xs.length*32)] (.aq 32 (l.length+(r.length+1+1)) 0 xs.length xs.length (xs.length*32)) q (by simp) (by simp[nK]);rw[BZ] at ll;simp[h,b0,d1,Ma,Z3,U.cells,dN,dD,ll,BW,aih];refine⟨_,?_,fun i w p=>YG (.aq 32 (l.length+(r.length+1+1)) 0 xs.length xs.length (xs.length*32)) i w p trivial⟩;have:=N.oL ao aN (v':=.aq 32 (l.length+(r.length+1+1)) 0 xs.length xs.length (xs.length*32)) (q':=q) (r':=(r++[aV.cells (xs.length*32) (List.map dV xs).flatten]).set 0
      (aV.cells (qs.length*4) (h3 (vs.set k (U.aq 32 (l.length+(r.length+1+1)) 0 xs.length xs.length (xs.length*32))) qs).flatten)) (by rw[BZ,aw4,if_pos rfl,if_pos (by simp)])
      (fun b af me _=>by rw[aw4,if_neg (fun h=>me h.symm),awS af])
      (by rw[ag]; refine .inr ⟨r.length,by congr 1; omega,?_⟩; rw[aw4,if_neg (by omega)]; simp)
      (fun b af=>.inr (by cases af; refine⟨by omega,by omega,fun t aX=>by cases aX⟩))
     rwa [BZ] at this
   ·simp[h];have:=ad qs ak _ _ vs (N.adM (.cells 3 [.int .i64 f.cap,.int .i64 f.a3,.aq 4 (l.length+2) 0 qs.length qs.length (qs.length*4)]) (.cells 3 [.int .i64 f.cap,.int .i64 f.a3,.aq 4 (l.length+2) 0 qs.length qs.length (qs.length*4)])) (fun v ao=>by
     obtain⟨i,ay⟩:=aya ao;obtain⟨q,aN,_⟩:=bJ (show i<qs.length by rw[<-N.len]; exact sB ay);have:=ix i v q ay aN
     rwa [if_pos (by have:=sB aN; omega)] at this)
    rw[axV,ay6 2] at this;exact this
  ·simp;refine⟨_,alb qs,fun i v q ao aN=>?_⟩;rw[awV,aN] at ao;cases ao; rfl
end Fd

end Go.bV
