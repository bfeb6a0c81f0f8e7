/-
  The graph of a store, in the program, walked.
-/
import Derived.Test.YtidejmkknleijaaGreatDoorBl
set_option linter.unusedVariables false
set_option linter.unusedSimpArgs false
set_option linter.unnecessarySimpa false
namespace Go.b0
open Go Go.Proofs
set_option maxRecDepth 100000
namespace Op
open hl
set_option maxHeartbeats 16000000 in
theorem Yc (s:ew) (ak:qU s) :bz Tryz.prog GS 66 [.aF (c8 s)] (pC s) :=by
 refine bX Tryz.checked.mixed bn ?_;apply bq Tryz.func66 [];have bS:(c8 s).length=5:=rfl;have lN:(List.drop 1 (c8 s)).take 3=dN s.cX:=rfl;have v7:(c8 s).tail.take 3=dN s.cX:=rfl;have fO:∀ h,(c8 s)[0]'h=.int .i64 s.cap:=fun _=>rfl
 have C8:∀ h,(c8 s)[3]'h=.int .i64 s.cX.eg:=fun _=>rfl
 have ji:∀ h,(c8 s)[4]'h=aB s.order:=fun _=>rfl
 have Ar:(c8 s)[0]? = some (.int .i64 s.cap) :=rfl;have ov:(c8 s)[3]? = some (.int .i64 s.cX.eg) :=rfl;have mi:(c8 s)[4]? = some (aB s.order) :=rfl;have cM:ce (.aq 32) (aB s.order)=some (.int .i64 s.order.l.length) :=by simp[aB]
 have g1:=Cn s.cX;have aX:=ant s.cX ak.cX;by_cases wo:mM s.cX
 ·rw[Zs wo] at aX;have hq:gn (dy (et s.cX)) :=xy ak.cX;have V:=nW wo.eh;have uu:=Gi (et s.cX);obtain⟨g,aw⟩:∃ g,g=dy (et s.cX) :=⟨_,rfl⟩
  rw[<-aw] at aX hq V uu;have eo:=kp g.ids;have ej:=o3 g.ops;have dp:ce (.aq 32) (aB g.ids)=some (.int .i64 g.ids.l.length) :=by simp[aB]
  unfold cH bR at aX;simp[bS,lN,v7];refine a4 aX (by simp[a5,U.closed,g1]) ?_;have oF:=wo.BN;rw[<-uu] at oF;by_cases ad:s.cap<1
  ·have cR:¬ oX s:=fun h=>by have:=h.b3; omega
   rw[BB cR];simp[eo,ej,a8,bS,fO,ad];exact aQ rfl rfl
  ·by_cases ae:40<s.cap
   ·have cR:¬ oX s:=fun h=>by have:=h.Q3; omega
    rw[BB cR];simp[eo,ej,a8,bS,fO,ad,ae];exact aQ rfl rfl
   ·by_cases aj:s.cap<s.cX.eg
    ·have cR:¬ oX s:=fun h=>by have:=h.BN; omega
     rw[BB cR];simp[eo,ej,a8,bS,fO,C8,ad,ae,aj];exact aQ rfl rfl
    ·by_cases aG:s.order.l.length=g.ids.l.length
     ·have c5:∀ b:Bool,(pu g s.order.l=b)->pC s=if b=true then .bt [.aF [aB g.ids,bx g.ops],.int .i64 0] else .bt [.aF [.aH,.aH],.int .i64 8] :=fun b ag=>by
       cases b with
       | true=>
        have Mj:oX s:=⟨by omega,by omega,wo,by omega,by rw[oF]; congr 1,by rw[<-aw]; exact ag⟩
        rw[Ob Mj,aw]; rfl
       | false=>
        have cR:¬ oX s:=fun h=>by have:=h.ord; rw[<-aw,ag] at this; cases this
        rw[BB cR]; rfl
      have ik:∀ i,i<s.order.l.length->oP g s.order.l i=false->pC s=.bt [.aF [.aH,.aH],.int .i64 8] :=fun i ay aE=>by
       refine c5 false ?_;unfold pu;exact decide_eq_false fun h=>by have:=h i ay; rw[aE] at this; cases this
      have dV:(∀ j,j<s.order.l.length->oP g s.order.l j=true)->pC s=.bt [.aF [aB g.ids,bx g.ops],.int .i64 0] :=fun h=>c5 true (decide_eq_true h)
      simp[eo,ej,a8,bS,fO,C8,ji,ad,ae,aj,cM,dp,aG];refine cl s.order.l.length (fun i σ l=>σ 1=.ptr 0 0 5/\σ 2=.ptr 1 0 2/\σ 4=.ptr 2 0 2/\σ 48=aB s.order/\σ 49=.int .i64 s.order.l.length/\σ 50=.int .i64 i/\l[0]? = some (.cells 5 (c8 s))/\l[1]? = some (.cells 2 [.aH,.aH])/\l[2]? = some (.cells 2 [aB g.ids,bx g.ops])/\∀ j,j<i->oP g s.order.l j=true) ?_ ⟨by simp,by simp,by simp,by simp,by simp[aG],by simp,rfl,rfl,rfl,fun j ai=>by omega⟩;rintro i σ l ay ⟨aK,aU,bl,SW,Ah,Ai,cy,q1,cV,j3⟩;obtain⟨σ,rfl⟩:=xm aK aU bl SW Ah Ai;clear aK aU bl SW Ah Ai;have cR:=ak.no;have aP:IntKind.i64.wrap ((i:Int)+1)=((i+1:Nat) :Int) :=by rw[IntKind.wrap_i64]; omega
      by_cases dH:i<s.order.l.length
      ·obtain⟨x,af,cT⟩:=bI dH;have eW:=ak.order x cT;have bd:=c2 eW;have eX:=fE x;have ds:=rL af;have agF:fl (.aq 32) (aB s.order) none (some (.int .i64 (i:Int))) (some (.int .i64 (i:Int)))=some (aB (gV s.order i)) :=amu (by omega);have Hp:eQ (gV s.order i) :=fun z ax=>ak.order z (by rw[mG] at ax; exact auG ax)
       have As:(gV s.order i).l.length<=1000000:=by rw[mG,auA]; omega
       have lX:=Yd g.ids hq.ids hq.li x eW V.di;have cQ:=Fj (gV s.order i) Hp As x eW;rw[mG] at cQ;have fj:=dd g.ids;have Dm:=dd (gV s.order i);have mt:=kp (gV s.order i);have c4:oP g s.order.l i=(decide (x∈g.ids.l)&&(!decide (x∈s.order.l.take i)&&k9 (s.order.l.take i) (eO g.ops.l (g3 x g.ids.l 0).toNat))) :=by unfold oP; rw[gi af]
       obtain⟨X,cn⟩:∃ X,X=aY x:=⟨_,rfl⟩
       rw[<-cn] at bd eX ds lX cQ;have fG:X.take 32=X:=aul (by omega);have hE:a8 (rep 32 (.int .u8 0)) 0 X=X:=gq (by rw[bd]; rfl);have mb:∀ m:ao,(l++m)[0]? = some (.cells 5 (c8 s)) :=fun m=>by rw[aum (b6 cy)]; exact cy
       have gw:∀ m:ao,(l++m)[1]? = some (.cells 2 [.aH,.aH]) :=fun m=>by rw[aum (b6 q1)]; exact q1
       have fV:∀ m:ao,(l++m)[2]? = some (.cells 2 [aB g.ids,bx g.ops]) :=fun m=>by rw[aum (b6 cV)]; exact cV
       have Fq:∀ (m:ao) (h:0<(l++m).length),(l++m)[0]'h=.cells 5 (c8 s) :=fun m h=>(auk.1 (mb m)).2
       have ZI:∀ (m:ao) (h:1<(l++m).length),(l++m)[1]'h=.cells 2 [.aH,.aH] :=fun m h=>(auk.1 (gw m)).2
       have ja:∀ (m:ao) (c:aV),((l++m).set 1 c)[1]? = some c:=fun m c=>auz (b6 (gw m))
       simp[dH,ds,bd,fG,hE,mb,Fq,bS,mi,ji,agF,mt,fV];refine a4 lX (by simp[a5,U.closed,fj,eX]) ?_;by_cases hm:x∈g.ids.l
       ·obtain⟨a,aC⟩:=aur.1 hm;have rk:=Cr V.di aC;have hb:=(auk.1 aC).1;obtain⟨o,au,en⟩:=bI (l:=g.ops.l) (k:=a) (by rw[<-V.len]; exact (auk.1 aC).1);have lV:=hq.ops o en;have mq:=Mn au;have KW:=Ef (qs V.di) aC;rw[decide_eq_true hm,KW,auS,tf au,avR] at c4;simp[hm,rk,bd,fG];refine a4 cQ (by simp[a5,U.closed,Dm,eX]) ?_;by_cases bF:x∈s.order.l.take i
        ·rw[decide_eq_true bF] at c4;rw[ik i dH (by rw[c4]; rfl)];simp[bF,gw,ZI,ja,a8];exact aQ rfl rfl
        ·rw[decide_eq_false bF] at c4;have kO:(a3 o)[1]? = some (aB o.bi) :=rfl;have kN:∀ h,(a3 o)[1]'h=aB o.bi:=fun _=>rfl
         have mY:(a3 o).length=11:=rfl;obtain⟨L,dA⟩:∃ L,L=l++[aV.cells 32 X,aV.cells 1 [aB (gV s.order i)]] :=⟨_,rfl⟩
         have anK:L[l.length+1]? = some (.cells 1 [aB (gV s.order i)]) :=by rw[dA]; simp
         have il:=acl (gV s.order i) Hp As anK o.bi.l lV.ids;have w2:L[2]? = some (.cells 2 [aB g.ids,bx g.ops]) :=by rw[dA]; exact fV _
         have bL:L[1]? = some (.cells 2 [.aH,.aH]) :=by rw[dA]; exact gw _
         have fU:L[0]? = some (.cells 5 (c8 s)) :=by rw[dA]; exact mb _
         simp[bF,fV,w2,mq,kO,kN,mY,<-dA];refine R6 o.bi lV.ids lV.len (by kernel_rfl) il fun bj am=>?_
         have qC:bj[0]? = some (.cells 5 (c8 s)) :=by rw[am.2 0 (b6 fU)]; exact fU
         have dh:bj[1]? = some (.cells 2 [.aH,.aH]) :=by rw[am.2 1 (b6 bL)]; exact bL
         have dY:bj[2]? = some (.cells 2 [aB g.ids,bx g.ops]) :=by rw[am.2 2 (b6 w2)]; exact w2
         have ha:(o.bi.l.any fun p=>!decide (p∈(gV s.order i).l))=!k9 (s.order.l.take i) o.bi.l:=by
          rw[mG,awS,awc,av4];unfold k9;rw[decide_eq_false_iff_not];constructor
          ·rintro⟨p,av,aD⟩ h; have:=h p av; simp[this] at aD
          ·intro h;refine Classical.byContradiction fun cR=>h fun p av=>Classical.byContradiction fun aD=>cR ⟨p,av,by simp[aD]⟩
         rw[ha];cases dz:k9 (s.order.l.take i) o.bi.l with
         | true=>
          rw[dz] at c4;simp[aP];refine⟨dH,qC,dh,dY,fun j ai=>?_⟩;by_cases jL:j=i
          ·rw[jL,c4]; rfl
          ·exact j3 j (by omega)
         | false=>
          rw[dz] at c4;rw[ik i dH (by rw[c4]; rfl)];have nX:∀ c:aV,(bj.set 1 c)[1]? = some c:=fun c=>auz (b6 dh)
          simp[dh,nX,a8];exact aQ rfl rfl
       ·rw[decide_eq_false hm,awF] at c4;rw[ik i dH c4];simp[hm,gw,ZI,ja,a8];exact aQ rfl rfl
      ·have cQ:i=s.order.l.length:=by omega
       subst cQ;rw[dV fun j ai=>j3 j ai];have ja:∀ c:aV,(l.set 1 c)[1]? = some c:=fun c=>auz (b6 q1)
       simp[cV,q1,ja,eo,ej,a8];exact aQ rfl (by have ad:=dd g.ids; have ae:=jE g.ops; simp[U.closed,a5,ad,ae])
     ·have cR:¬ oX s:=fun h=>by have:=h.le; rw[oF] at this; exact aG (by omega)
      have v1:¬ (s.order.l.length:Int)=g.ids.l.length:=by omega
      rw[BB cR];simp[eo,ej,a8,bS,fO,C8,ji,ad,ae,aj,cM,dp,aG,v1];exact aQ rfl rfl
 ·have cR:¬ oX s:=fun h=>wo h.cX
  rw[xA wo] at aX;rw[BB cR];simp[bS,lN,v7];refine a4 aX (by simp[a5,U.closed,g1]) ?_;simp[a8];exact aQ rfl rfl
theorem abz (s:ew) :(pC s).closed=true:=by
 unfold pC;have:=su (qF s);simp[U.closed,a5,this]
theorem Ya (s:ew) (ak:qU s) :bz Tryz.prog GS 60 [.aF (c8 s)] (.int .i64 (g4 s)) :=by
 refine bX Tryz.checked.mixed bn ?_;apply bq Tryz.func60 [];have bS:(c8 s).length=5:=rfl;have g9:(c8 s).take 5=c8 s:=rfl;have g1:=vL s;have aX:=Yc s ak;have DY:pC s=.bt [.aF [aB (qF s).ids,bx (qF s).ops],.int .i64 (g4 s)] :=rfl;rw[DY] at aX;have eo:=kp (qF s).ids;have ej:=o3 (qF s).ops;simp[bS,g9];refine a4 aX (by simp[a5,U.closed,g1]) ?_;simp[eo,ej,a8];exact aQ rfl rfl
theorem Yb (s:ew) (ak:qU s) :bz Tryz.prog GS 37 [.aF (c8 s)] (pC s) :=by
 refine bX Tryz.checked.mixed bn ?_;apply bq Tryz.func37 [];have bS:(c8 s).length=5:=rfl;have g9:(c8 s).take 5=c8 s:=rfl;have g1:=vL s;have aX:=Yc s ak;have jK:=abz s;have DY:pC s=.bt [.aF [aB (qF s).ids,bx (qF s).ops],.int .i64 (g4 s)] :=rfl;rw[DY] at aX jK ⊢;have eo:=kp (qF s).ids;have ej:=o3 (qF s).ops;simp[bS,g9];refine a4 aX (by simp[a5,U.closed,g1]) ?_;simp[eo,ej,a8];exact aQ rfl jK
theorem alK (s:ew) (ak:qU s) (aI:g4 s=0) (n:Nat) (aD:n<=s.order.l.length) :bz Tryz.prog GS 32 [.aF (c8 s),.int .i64 n] (.bt [aB (jv s.order n),.int .i64 0]) :=by
 refine bX Tryz.checked.mixed bn ?_;apply bq Tryz.func32 [];have bS:(c8 s).length=5:=rfl;have g9:(c8 s).take 5=c8 s:=rfl;have mi:(c8 s)[4]? = some (aB s.order) :=rfl;have ji:∀ h,(c8 s)[4]'h=aB s.order:=fun _=>rfl
 have g1:=vL s;have cR:=ak.no;have aX:=Ya s ak;have cM:ce (.aq 32) (aB s.order)=some (.int .i64 s.order.l.length) :=by simp[aB]
 have iy:fl (.aq 32) (aB s.order) (some (.int .i64 (n:Int))) none none=some (aB (jv s.order n)) :=Ot aD;have ea:=HM (jv s.order n) (fun x af=>ak.order x (by rw[tn] at af; exact avL af)) (by rw[tn,avh]; omega);have de:=dd (jv s.order n);have cU:¬ (n:Int)<0:=by omega
 have dX:¬ (s.order.l.length:Int)<(n:Int) :=by omega
 have gT:¬ s.order.l.length<n:=by omega
 simp[bS,g9];refine a4 aX (by simp[a5,U.closed,g1]) ?_;simp[aI,bS,mi,ji,cM,cU,dX,gT,iy];refine a4 ea (by simp[a5,de]) ?_;simp;exact aQ rfl (by simp[U.closed,a5,de])
structure iX where
 fo:Int
 ids:dv
 Ba:Bool
def fN (d:iX) :List U:=[.int .i64 d.fo,aB d.ids,.bool d.Ba]
structure Fw (d:iX) :Prop where
 ids:eQ d.ids
 ajo:d.ids.l.length<=1000
theorem FY (d:iX) :a5 (fN d)=true:=by simp[fN,a5,U.closed,dd]
def sx (d:iX) :Int:=if d.fo<0\/60<d.fo then 2 else if 60<d.ids.l.length then 4 else 0
noncomputable def lJ (s:ew) (d:iX) :Int:=if g4 s=0 then sx d else g4 s
def tO (o ids:List (List B)) (n i:Nat) :Bool:=!decide (o[n+i]? = some (b1 ids i))
def sB (o ids:List (List B)) (n:Nat) :Option Nat:=(List.range ids.length).find? (tO o ids n)
theorem SL {o ids:List (List B)} {n i:Nat} (ay:i<ids.length) (h:tO o ids n i=true) (ag:∀ j,j<i->tO o ids n j=false) :sB o ids n=some i:=by
 unfold sB;rw[axh];exact⟨h,auZ.2 ay,fun j ai=>by rw[ag j ai]; rfl⟩
theorem SM {o ids:List (List B)} {n:Nat} (ag:∀ j,j<ids.length->tO o ids n j=false) :sB o ids n=none:=by
 unfold sB;rw[List.find?_range_eq_none];exact fun j ai=>by rw[ag j ai]; rfl
def zs (s:ew) (d:iX) :Int:=if (s.order.l.length:Int)<d.fo+d.ids.l.length\/(d.Ba=true/\d.fo+d.ids.l.length=(s.order.l.length:Int)) then d.ids.l.length else -1
def oc (s:ew) (d:iX) :Int:=match sB s.order.l d.ids.l d.fo.toNat with | some i=>i | none=>zs s d
theorem Zy {s:ew} {d:iX} {i:Nat} (h:sB s.order.l d.ids.l d.fo.toNat=some i) :oc s d=i:=by unfold oc; rw[h]
theorem OQ {s:ew} {d:iX} (h:sB s.order.l d.ids.l d.fo.toNat=none) :oc s d=zs s d:=by unfold oc; rw[h]
theorem J9 {d:iX} (h:sx d=0) :0<=d.fo/\d.fo<=60/\d.ids.l.length<=60:=by
 unfold sx at h;split at h
 ·cases h
 ·split at h
  ·cases h
  ·rename_i ad ae;omega
theorem abP (d:iX) :bz Tryz.prog GS 19 [.aF (fN d)] (.int .i64 (sx d)) :=by
 refine bX Tryz.checked.mixed bn ?_;apply bq Tryz.func19 [];have dp:ce (.aq 32) (aB d.ids)=some (.int .i64 d.ids.l.length) :=by simp[aB]
 unfold sx;by_cases ad:d.fo<0
 ·simp[fN,ad]; exact aQ rfl rfl
 ·by_cases ae:60<d.fo
  ·simp[fN,ad,ae]; exact aQ rfl rfl
  ·by_cases aj:60<d.ids.l.length
   ·have p8:(60:Int)<d.ids.l.length:=by omega
    simp[fN,ad,ae,dp,aj,p8]; exact aQ rfl rfl
   ·have p8:¬ (60:Int)<d.ids.l.length:=by omega
    simp[fN,ad,ae,dp,aj,p8]; exact aQ rfl rfl
theorem PK {o ids:List (List B)} {n i:Nat} {x y:List B} (af:ids[i]? = some x) (aJ:o[n+i]? = some y) :tO o ids n i=!decide (y=x) :=by
 unfold tO;rw[gi af,aJ,awS,av4,av4,decide_eq_false_iff_not,decide_eq_false_iff_not,Option.some.injEq]
theorem PL {o ids:List (List B)} {n i:Nat} (h:o.length<=n+i) :tO o ids n i=true:=by
 unfold tO;rw[auC h]; rfl
noncomputable def xN (s:ew) (d:iX) :U:=if lJ s d=0 then .bt [.int .i64 (if 0<=oc s d then oc s d else 0),.bool (decide (0<=oc s d)),.int .i64 0] else .bt [.int .i64 0,.bool false,.int .i64 (lJ s d)]
theorem Jy {s:ew} {d:iX} {e:Int} (h:lJ s d=e) (aI:e≠0) :xN s d=.bt [.int .i64 0,.bool false,.int .i64 e] :=by unfold xN; rw[h,if_neg aI]
theorem B5 {s:ew} {d:iX} {n:Nat} (h:lJ s d=0) (aI:oc s d=n) :xN s d=.bt [.int .i64 n,.bool true,.int .i64 0] :=by
 unfold xN; rw[if_pos h,aI,if_pos (by omega),decide_eq_true (by omega)]
theorem Jz {s:ew} {d:iX} (h:lJ s d=0) (aI:oc s d=-1) :xN s d=.bt [.int .i64 0,.bool false,.int .i64 0] :=by
 unfold xN; rw[if_pos h,aI]; rfl
set_option maxHeartbeats 16000000 in
theorem aam (s:ew) (ak:qU s) (d:iX) (bf:Fw d) :bz Tryz.prog GS 43 [.aF (c8 s),.aF (fN d)] (xN s d) :=by
 refine bX Tryz.checked.mixed bn ?_;apply bq Tryz.func43 [];have cR:=ak.no;have yC:=bf.ajo;have cM:ce (.aq 32) (aB s.order)=some (.int .i64 s.order.l.length) :=by simp[aB]
 have dp:ce (.aq 32) (aB d.ids)=some (.int .i64 d.ids.l.length) :=by simp[aB]
 have bS:(c8 s).length=5:=rfl;have g9:(c8 s).take 5=c8 s:=rfl;have g1:=vL s;have iJ:(fN d).length=3:=rfl;have v4:(fN d).take 3=fN d:=rfl;have v3:=FY d;have mi:(c8 s)[4]? = some (aB s.order) :=rfl;have ji:∀ h,(c8 s)[4]'h=aB s.order:=fun _=>rfl
 have ug:∀ h,(fN d)[0]'h=.int .i64 d.fo:=fun _=>rfl
 have uh:∀ h,(fN d)[1]'h=aB d.ids:=fun _=>rfl
 have C1:∀ h,(fN d)[2]'h=.bool d.Ba:=fun _=>rfl
 have x9:(fN d)[0]? = some (.int .i64 d.fo) :=rfl;have kN:(fN d)[1]? = some (aB d.ids) :=rfl;have An:(fN d)[2]? = some (.bool d.Ba) :=rfl;have aX:=Ya s ak;have ar:=abP d;by_cases aI:g4 s=0
 ·by_cases ax:sx d=0
  ·have aC:lJ s d=0:=by unfold lJ; rw[if_pos aI]; exact ax
   obtain⟨gw,fV,tw⟩:=J9 ax;obtain⟨n,aD⟩:∃ n:Nat,d.fo=(n:Int) :=⟨d.fo.toNat,by omega⟩
   have U2:∀ i,sB s.order.l d.ids.l n=some i->oc s d=i:=fun i h=>Zy (by rw[aD,auS]; exact h)
   have Mg:sB s.order.l d.ids.l n=none->oc s d=zs s d:=fun h=>OQ (by rw[aD,auS]; exact h)
   have agY:zs s d=if (s.order.l.length:Int)<(n:Int)+d.ids.l.length\/(d.Ba=true/\(n:Int)+d.ids.l.length=(s.order.l.length:Int)) then (d.ids.l.length:Int) else -1:=by unfold zs; rw[aD]
   obtain⟨m,hm⟩:∃ m,m=min n s.order.l.length:=⟨_,rfl⟩
   have Hl:min (n:Int) (s.order.l.length:Int)=(m:Int) :=by omega
   have nL:wL (.int .i64 (n:Int)) (.int .i64 (s.order.l.length:Int))=some (.int .i64 (m:Int)) :=by
    unfold wL;simp[Hl];omega
   have iy:fl (.aq 32) (aB s.order) (some (.int .i64 (m:Int))) none none=some (aB (jv s.order m)) :=Ot (by omega);have C7:(jv s.order m).l.length=s.order.l.length - m:=by rw[tn,avh]
   have Tr:∀ i,(jv s.order m).l[i]? = s.order.l[n+i]?:=fun i=>by
    rw[tn,auY];by_cases h:n<=s.order.l.length
    ·rw[hm,avA h]
    ·rw[auC (by omega),auC (by omega)]
   obtain⟨R,i5⟩:∃ R,R=jv s.order m:=⟨_,rfl⟩
   rw[<-i5] at iy C7 Tr;have ad2:eQ R:=fun x af=>by rw[i5,tn] at af; exact ak.order x (avL af)
   have Hh:ce (.aq 32) (aB R)=some (.int .i64 R.l.length) :=by simp[aB]
   simp[bS,g9];refine a4 aX (by simp[a5,U.closed,g1]) ?_;simp[aI,iJ,v4];refine a4 ar (by simp[a5,U.closed,v3]) ?_;simp[ax,bS,mi,ji,iJ,ug,uh,x9,kN,aD,cM,dp,nL,iy];refine cl d.ids.l.length (fun i σ l=>σ 2=.ptr 0 0 5/\σ 3=.ptr 1 0 3/\σ 9=aB R/\σ 32=aB d.ids/\σ 33=.int .i64 d.ids.l.length/\σ 34=.int .i64 i/\l[0]? = some (.cells 5 (c8 s))/\l[1]? = some (.cells 3 (fN d))/\∀ j,j<i->tO s.order.l d.ids.l n j=false) ?_ ⟨by simp,by simp,by simp,by simp,by simp,by simp,rfl,rfl,fun j ai=>by omega⟩;rintro i σ l ay ⟨aU,a1,gZ,SU,re,rf,cy,q1,j3⟩;obtain⟨σ,rfl⟩:=xm aU a1 gZ SU re rf;clear aU a1 gZ SU re rf;have aP:IntKind.i64.wrap ((i:Int)+1)=((i+1:Nat) :Int) :=by rw[IntKind.wrap_i64]; omega
   by_cases dH:i<d.ids.l.length
   ·obtain⟨x,af,cT⟩:=bI dH;have eW:=bf.ids x cT;have bd:=c2 eW;have ds:=rL af;obtain⟨X,cn⟩:∃ X,X=aY x:=⟨_,rfl⟩
    rw[<-cn] at bd ds;have fG:X.take 32=X:=aul (by omega);have hE:a8 (rep 32 (.int .u8 0)) 0 X=X:=gq (by rw[bd]; rfl);have fU:∀ c:aV,(l++[c])[0]? = some (.cells 5 (c8 s)) :=fun c=>by rw[aum (b6 cy)]; exact cy
    have bL:∀ c:aV,(l++[c])[1]? = some (.cells 3 (fN d)) :=fun c=>by rw[aum (b6 q1)]; exact q1
    by_cases au:i<R.l.length
    ·obtain⟨y,aJ,eL⟩:=bI au;have ag3:s.order.l[n+i]? = some y:=by rw[<-Tr]; exact aJ
     have wr:=ad2 y eL;have fI:=c2 wr;have lp:=rL aJ;have bP:=wy wr eW;have ul:=PK af ag3;have dE:¬ R.l.length<=i:=by omega
     obtain⟨Y,fY⟩:∃ Y,Y=aY y:=⟨_,rfl⟩
     rw[<-fY] at fI lp bP;rw[<-cn] at bP;have Au:Y.take 32=Y:=aul (by omega);simp[dH,ds,bd,fG,hE,Hh,dE,lp,fI,Au,bP];by_cases l0:y=x
     ·rw[decide_eq_true l0] at ul;simp[l0,aP];refine⟨dH,(auk.1 (fU _)).2,bL _,fun j ai=>?_⟩;by_cases jL:j=i
      ·rw[jL,ul]; rfl
      ·exact j3 j (by omega)
     ·rw[decide_eq_false l0] at ul;rw[B5 aC (U2 i (SL dH (by rw[ul]; rfl) j3))];simp[l0];exact aQ rfl rfl
    ·have dE:R.l.length<=i:=by omega
     rw[B5 aC (U2 i (SL dH (PL (by omega)) j3))];simp[dH,ds,bd,fG,hE,Hh,dE];exact aQ rfl rfl
   ·have cQ:i=d.ids.l.length:=by omega
    subst cQ;have nO:=Mg (SM j3);rw[agY] at nO;have dV:n+d.ids.l.length<=s.order.l.length\/d.ids.l.length=0:=by
     by_cases h:d.ids.l.length=0
     ·exact .inr h
     ·left;have:=j3 (d.ids.l.length - 1) (by omega);refine Classical.byContradiction fun aS=>?_
      rw[PL (by omega)] at this; cases this
    by_cases ad:s.order.l.length<n
    ·rw[if_pos (.inl (by omega))] at nO;rw[B5 aC nO];simp[cy,q1,bS,mi,ji,iJ,ug,uh,x9,kN,aD,cM,dp,ad];exact aQ rfl rfl
    ·have aj:¬ (s.order.l.length:Int)<(n:Int)+d.ids.l.length:=by omega
     cases DC:d.Ba with
     | true=>
      by_cases ae:R.l.length=d.ids.l.length
      ·rw[if_pos (.inr ⟨DC,by omega⟩)] at nO;rw[B5 aC nO];simp[cy,q1,bS,mi,ji,iJ,ug,uh,C1,x9,kN,An,aD,cM,dp,ad,DC,Hh,ae];exact aQ rfl rfl
      ·have gC:¬ (R.l.length:Int)=d.ids.l.length:=by omega
       rw[if_neg (fun h=>h.elim aj fun h=>ae (by omega))] at nO;rw[Jz aC nO];simp[cy,q1,bS,mi,ji,iJ,ug,uh,C1,x9,kN,An,aD,cM,dp,ad,DC,Hh,ae,gC];exact aQ rfl rfl
     | false=>
      rw[if_neg (fun h=>h.elim aj fun h=>by rw[DC] at h; cases h.1)] at nO;rw[Jz aC nO];simp[cy,q1,bS,mi,ji,iJ,ug,uh,C1,x9,kN,An,aD,cM,dp,ad,DC];exact aQ rfl rfl
  ·have aC:lJ s d=sx d:=by unfold lJ; rw[if_pos aI]
   rw[Jy aC ax];simp[bS,g9];refine a4 aX (by simp[a5,U.closed,g1]) ?_;simp[aI,iJ,v4];refine a4 ar (by simp[a5,U.closed,v3]) ?_;simp[ax];exact aQ rfl rfl
 ·have aC:lJ s d=g4 s:=by unfold lJ; rw[if_neg aI]
  rw[Jy aC aI];simp[bS,g9];refine a4 aX (by simp[a5,U.closed,g1]) ?_;simp[aI];exact aQ rfl rfl
theorem Zz (s:ew) (d:iX) :(0<=oc s d)\/(oc s d=-1/\d.fo+d.ids.l.length<=(s.order.l.length:Int)) :=by
 cases h:sB s.order.l d.ids.l d.fo.toNat with
 | some i=>rw[Zy h]; left; omega
 | none=>
  rw[OQ h];unfold zs;split
  ·left; omega
  ·rename_i ad; right; exact⟨rfl,by omega⟩
theorem aaz {s:ew} {d:iX} (h:lJ s d=0) :g4 s=0/\sx d=0:=by
 unfold lJ at h;split at h
 ·rename_i ad; exact⟨ad,h⟩
 ·rename_i ad; exact absurd h ad
noncomputable def qx (s:ew) (d:iX) :Int:=if lJ s d=0 then (if oc s d<0 then 0 else 22) else lJ s d
theorem Wr {s:ew} {d:iX} (h:qx s d=0) :g4 s=0/\sx d=0/\d.fo+d.ids.l.length<=(s.order.l.length:Int) :=by
 unfold qx at h;split at h
 ·rename_i ad;split at h
  ·rename_i ae;obtain⟨a,b⟩:=aaz ad;exact⟨a,b,((Zz s d).resolve_left (by omega)).2⟩
  ·cases h
 ·rename_i ad; exact absurd h ad
section
variable (s:ew) (ak:qU s) (d:iX) (bf:Fw d)
include ak bf
theorem Ws:bz Tryz.prog GS 46 [.aF (c8 s),.aF (fN d)] (.int .i64 (qx s d)) :=by
 refine bX Tryz.checked.mixed bn ?_;apply bq Tryz.func46 [];have bS:(c8 s).length=5:=rfl;have g9:(c8 s).take 5=c8 s:=rfl;have g1:=vL s;have iJ:(fN d).length=3:=rfl;have v4:(fN d).take 3=fN d:=rfl;have v3:=FY d;have aC:=aam s ak d bf;unfold qx;simp[bS,g9,iJ,v4];refine a4 aC (by simp[a5,U.closed,g1,v3]) ?_;by_cases aI:lJ s d=0
 ·rcases Zz s d with ad | ⟨ad,_⟩
  ·obtain⟨n,aD⟩:=avr ad;have:¬ (n:Int)<0:=by omega
   rw[B5 aI aD];simp[aI,aD,this];exact aQ rfl rfl
  ·rw[Jz aI ad];simp[aI,ad];exact aQ rfl rfl
 ·rw[Jy rfl aI];simp[aI];exact aQ rfl rfl
theorem ajb:bz Tryz.prog GS 15 [.aF (c8 s),.aF (fN d)] (if qx s d=0 then .bt [aB (jv s.order (d.fo+d.ids.l.length).toNat),.int .i64 0] else .bt [.aH,.int .i64 (qx s d)]) :=by
 refine bX Tryz.checked.mixed bn ?_;apply bq Tryz.func15 [];have bS:(c8 s).length=5:=rfl;have g9:(c8 s).take 5=c8 s:=rfl;have g1:=vL s;have iJ:(fN d).length=3:=rfl;have v4:(fN d).take 3=fN d:=rfl;have v3:=FY d;have ug:∀ h,(fN d)[0]'h=.int .i64 d.fo:=fun _=>rfl
 have uh:∀ h,(fN d)[1]'h=aB d.ids:=fun _=>rfl
 have kN:(fN d)[1]? = some (aB d.ids) :=rfl;have dp:ce (.aq 32) (aB d.ids)=some (.int .i64 d.ids.l.length) :=by simp[aB]
 have aC:=Ws s ak d bf;simp[bS,g9,iJ,v4];refine a4 aC (by simp[a5,U.closed,g1,v3]) ?_;by_cases aI:qx s d=0
 ·obtain⟨ad,ae,aj⟩:=Wr aI;obtain⟨gw,fV,tw⟩:=J9 ae;obtain⟨n,aD⟩:∃ n:Nat,d.fo+d.ids.l.length=(n:Int) :=⟨(d.fo+d.ids.l.length).toNat,by omega⟩
  have sP:IntKind.i64.wrap (d.fo+(d.ids.l.length:Int))=(n:Int) :=by rw[IntKind.wrap_i64]; omega
  have agD:=alK s ak ad n (by omega);have de:=dd (jv s.order n);rw[if_pos aI,aD,auS];simp[aI,bS,g9,iJ,ug,uh,kN,dp,sP];refine a4 agD (by simp[a5,U.closed,g1]) ?_;simp;exact aQ rfl (by simp[U.closed,a5,de])
 ·rw[if_neg aI];simp[aI];exact aQ rfl rfl
end
def pn (s:ew) (N:Nat) :bp:=dy (hx (dy (et s.cX)) (s.order.l.take N) (gj (dy (et s.cX))).length)
structure Z0 (s:ew) (d:iX) (g:bp) (P:dv) (k:Nat) (σ:bc) (l:ao) :Prop where
 bl:σ 4=.ptr 2 0 2
 dU:σ 7=.ptr 3 0 2
 gZ:σ 9=aB P
 jg:σ 10=.ptr 4 0 2
 Kx:σ 39=aB g.ids
 Af:σ 40=.int .i64 g.ids.l.length
 Ag:σ 41=.int .i64 k
 cV:l[2]? = some (.cells 2 [.aH,.aH])
 fy:l[3]? = some (.cells 2 [aB g.ids,bx g.ops])
 ex:∃ ch bU eN eE,l[4]? = some (.cells 2 [ch,bU])/\hk l ch bU eN eE 5 ((hx g P.l k).map (·.1)) ((hx g P.l k).map (·.2))
section
variable (s:ew) (ak:qU s) (d:iX) (bf:Fw d)
include ak bf
set_option maxHeartbeats 16000000 in
theorem V0:bz Tryz.prog GS 17 [.aF (c8 s),.aF (fN d)] (if qx s d=0 then .bt [cH (pn s (d.fo+d.ids.l.length).toNat),.int .i64 0] else .bt [cH ⟨none,none⟩,.int .i64 (qx s d)]) :=by
 refine bX Tryz.checked.mixed bn ?_;apply bq Tryz.func17 [];have cR:=ak.no;have bS:(c8 s).length=5:=rfl;have g9:(c8 s).take 5=c8 s:=rfl;have g1:=vL s;have iJ:(fN d).length=3:=rfl;have v4:(fN d).take 3=fN d:=rfl;have v3:=FY d;have ji:∀ h,(c8 s)[4]'h=aB s.order:=fun _=>rfl
 have mi:(c8 s)[4]? = some (aB s.order) :=rfl;have ug:∀ h,(fN d)[0]'h=.int .i64 d.fo:=fun _=>rfl
 have uh:∀ h,(fN d)[1]'h=aB d.ids:=fun _=>rfl
 have kN:(fN d)[1]? = some (aB d.ids) :=rfl;have x9:(fN d)[0]? = some (.int .i64 d.fo) :=rfl;have dp:ce (.aq 32) (aB d.ids)=some (.int .i64 d.ids.l.length) :=by simp[aB]
 have aC:=Ws s ak d bf;simp[bS,g9,iJ,v4];refine a4 aC (by simp[a5,U.closed,g1,v3]) ?_;by_cases aI:qx s d=0
 ·obtain⟨ad,ae,aj⟩:=Wr aI;obtain⟨gw,fV,tw⟩:=J9 ae;obtain⟨n,aD⟩:∃ n:Nat,d.fo+d.ids.l.length=(n:Int) :=⟨(d.fo+d.ids.l.length).toNat,by omega⟩
  have sP:IntKind.i64.wrap (d.fo+(d.ids.l.length:Int))=(n:Int) :=by rw[IntKind.wrap_i64]; omega
  have HG:=Mt s.order (k:=n) (by omega);have c4:=(E7 s).1 ad;have V:=nW c4.cX.eh;have hq:gn (dy (et s.cX)) :=xy ak.cX;have h8:=Yb s ak;rw[Ob c4] at h8;rw[if_pos aI,aD,auS];obtain⟨g,aw⟩:∃ g,g=dy (et s.cX) :=⟨_,rfl⟩
  obtain⟨P,Gr⟩:∃ P,P=gV s.order n:=⟨_,rfl⟩
  have dK:pn s n=dy (hx g P.l (gj g).length) :=by unfold pn; rw[aw,Gr,mG]
  rw[<-aw] at h8 hq V;rw[<-Gr] at HG;have adW:eQ P:=fun x af=>ak.order x (by rw[Gr,mG] at af; exact auG af)
  have adV:P.l.length<=1000000:=by rw[Gr,mG,auA]; omega
  rw[dK];have eo:=kp g.ids;have ej:=o3 g.ops;have afA:ce (.aq 32) (aB g.ids)=some (.int .i64 g.ids.l.length) :=by simp[aB]
  have DH:=V.n60;have iL:=V.len;unfold cH bR at h8;simp[aI,bS,g9];refine a4 h8 (by simp[a5,U.closed,g1]) ?_;simp[eo,ej,a8,bS,iJ,ji,mi,ug,uh,x9,kN,dp,sP,HG,afA];refine cl g.ids.l.length (Z0 s d g P) ?_ ⟨by simp,by simp,by simp,by simp,by simp,by simp,by simp,rfl,rfl,.aH,.aH,0,0,rfl,by simpa [hx] using Ii _ 5⟩;rintro k σ l ar ⟨bl,dU,gZ,jg,Kx,Af,Ag,cV,fy,ch,bU,eN,eE,pz,hs⟩;obtain⟨σ,rfl⟩:=Fc bl dU gZ jg Kx Af Ag;clear bl dU gZ jg Kx Af Ag;have aP:IntKind.i64.wrap ((k:Int)+1)=((k+1:Nat) :Int) :=by rw[IntKind.wrap_i64]; omega
  have gE:=NB (g:=g) (L:=P.l) (k:=k);have aqu:=b6 pz;by_cases bv:k<g.ids.l.length
  ·obtain⟨x,af,cT⟩:=bI bv;obtain⟨o,au,en⟩:=bI (l:=g.ops.l) (k:=k) (by omega);have eW:=hq.ids x cT;have bd:=c2 eW;have eX:=fE x;have ds:=rL af;have mq:=Mn au;have cS:(a3 o).length=11:=rfl;have cQ:=Fj P adW adV x eW;have uo:=dd P;have jk:=Xe (L:=P.l) af au;obtain⟨X,cn⟩:∃ X,X=aY x:=⟨_,rfl⟩
   obtain⟨Y,fY⟩:∃ Y,Y=a3 o:=⟨_,rfl⟩
   rw[<-cn] at bd eX ds cQ;rw[<-fY] at cS mq;have fG:X.take 32=X:=aul (by omega);have Au:Y.take 11=Y:=aul (by omega);have hE:a8 (rep 32 (.int .u8 0)) 0 X=X:=gq (by rw[bd]; rfl);have kU:a8 [U.int .u32 0,.aH,.int .u64 0,.int .u8 0,.str [],.int .u8 0,.int .i64 0,.int .u64 0,.str [],.int .u32 0,.int .u32 0] 0 Y=Y:=gq (by rw[cS]; rfl);obtain⟨L,dA⟩:∃ L,L=l++[aV.cells 32 X] :=⟨_,rfl⟩
   have ri:L.length=l.length+1:=by rw[dA]; simp
   have jC:∀ (i:Nat) (c:aV),l[i]? = some c->L[i]? = some c:=fun i c h=>by rw[dA,aum (b6 h)]; exact h
   have ZD:L[l.length]? = some (.cells 32 X) :=by rw[dA]; exact avo
   have mu:hk L ch bU eN eE 5 ((hx g P.l k).map (·.1)) ((hx g P.l k).map (·.2)) :=by rw[dA]; exact hs.frame fun b _ ag=>aum ag
   have w2:=jC 2 _ cV;have cO:=jC 3 _ fy;have pJ:=jC 4 _ pz;simp[bv,ds,bd,fG,hE,<-dA,ZD];refine a4 cQ (by simp[a5,U.closed,uo,eX]) ?_;by_cases hm:x∈P.l
   ·rw[if_pos hm] at jk;obtain⟨jx,rM,l1,a2,a9,bV,ey⟩:=mu.ids cn bd (by omega) (by rw[auw]; omega);have f2:l1[2]? = _:=(ey 2 (by omega)).trans w2;have f3:l1[3]? = _:=(ey 3 (by omega)).trans cO;have f4:l1[4]? = _:=(ey 4 (by omega)).trans pJ;have iP:=r0 a9.hS;obtain⟨M,gD⟩:∃ M,M=l1.set 4 (.cells 2 [jx,bU]) :=⟨_,rfl⟩
    have Tm:M.length=l1.length:=by rw[gD]; simp
    have dY:M[2]? = some (.cells 2 [.aH,.aH]) :=by rw[gD,auy (by omega)]; exact f2
    have nX:M[3]? = some (.cells 2 [aB g.ids,bx g.ops]) :=by rw[gD,auy (by omega)]; exact f3
    have wX:M[4]? = some (.cells 2 [jx,bU]) :=by rw[gD]; exact auz (b6 f4)
    have af3:hk M jx bU rM eE 5 ((hx g P.l k).map (·.1)++[x]) ((hx g P.l k).map (·.2)) :=a9.frame fun b ag _=>by rw[gD,auy (by omega)]
    obtain⟨ob,uM,bj,b3,b9,ho,fD⟩:=af3.ops fY (by omega) (by rw[auw]; omega);have mz:=r0 b9.gI;have t2:bj[2]? = _:=(fD 2 (by omega)).trans dY;have t3:bj[3]? = _:=(fD 3 (by omega)).trans nX;have t4:bj[4]? = _:=(fD 4 (by omega)).trans wX;have Zl:∀ c:aV,(L++[c])[4]? = some (.cells 2 [ch,bU]) :=fun c=>by rw[aum (b6 pJ)]; exact pJ
    have auf:∀ c:aV,(M++[c])[4]? = some (.cells 2 [jx,bU]) :=fun c=>by rw[aum (b6 wX)]; exact wX
    simp[hm,pJ,ZD,bd,fG,hE,a2];refine c7.cd ?_;have Of:a8 [ch,bU] 0 [jx]=[jx,bU] :=by simp
    have Og:a8 [jx,bU] 1 [ob]=[jx,ob] :=by simp
    simp[f4,iP,Of,<-gD,nX,wX,mq,cS,Au,kU,b3];refine c7.cd ?_;have alI:∀ c:aV,(bj.set 4 c)[4]? = some c:=fun c=>auz (b6 t4)
    simp[t4,mz,Og,aP];refine⟨bv,by simp,by simp,by simp,by simp,by simp,by simp,by simp,?_,?_,jx,ob,rM,uM,alI _,?_⟩
    ·rw[auy (by omega)]; exact t2
    ·rw[auy (by omega)]; exact t3
    ·rw[jk,auH,auH];exact b9.frame fun b ag _=>by rw[auy (by omega)]
   ·rw[if_neg hm,auV] at jk;simp[hm,aP];exact⟨bv,by simp,by simp,by simp,by simp,by simp,by simp,by simp,w2,cO,ch,bU,eN,eE,pJ,by rw[jk]; exact mu⟩
  ·have dK:k=g.ids.l.length:=by omega
   subst dK;have yI:(gj g).length=g.ids.l.length:=by unfold gj; rw[axo]; omega
   rw[yI];have hX:∀ c:aV,(l.set 2 c)[2]? = some c:=fun c=>auz (b6 cV)
   have iP:=r0 hs.hS;have mz:=r0 hs.gI;have aE:∀ c:aV,hk (l.set 2 c) ch bU eN eE 5 ((hx g P.l g.ids.l.length).map (·.1)) ((hx g P.l g.ids.l.length).map (·.2)) :=fun c=>hs.frame fun b ag _=>by rw[auy (by omega)]
   simp[pz,cV,hX,iP,mz,a8];exact IA (XB ((aE _).hS.q.u5 fE (dm ((hx g P.l g.ids.l.length).map (·.1))) (by rw[qI]; exact hs.iP) (ec _)) ((aE _).gI.q.u5 kM (dm ((hx g P.l g.ids.l.length).map (·.2))) (by rw[qI]; exact hs.mz) (ec _))) (.same _ rfl)
 ·rw[if_neg aI];simp[aI,a8];exact aQ rfl rfl
end

end Op

end Go.b0

namespace Go.b0
open Go Go.Proofs Go.RowKit
set_option maxRecDepth 100000
namespace Op
open hl
theorem akp (l:List (List B × br)) :gj (dy l)=l:=by
 unfold gj dy;simp only[ec]
 induction l with
 | nil=>rfl
 | cons a l aR=>simp only[auL,List.zip_cons_cons,aR]
theorem VZ {s:ew} (ak:qU s) (n:Nat) :gn (pn s n) :=by
 have aw:=xy ak.cX;have al:=Zq ak.cX;unfold pn;refine Gj (fun p av=>?_) (fun p av=>?_) ?_
 ·exact aw.ids _ (Bo (auG (ave.1 av).1)).1
 ·exact aw.ops _ (Bo (auG (ave.1 av).1)).2
 ·unfold hx;refine au7 (avE _ _) ?_;rw[auU,akp]; omega
structure Fz (g:bp) :Prop where
 ids:eQ g.ids
 ops:∀ o∈g.ops.l,Jt o
theorem ajR {g:bp} (h:Fz g) (aw:uc g=false) :gn g:=by
 unfold uc at aw;simp only[Bool.or_eq_false_iff,decide_eq_false_iff_not] at aw;obtain⟨ad,ae,aj,aG⟩:=aw;refine⟨h.ids,fun o au=>?_,by omega,by omega⟩;have bh:¬ ud o=true:=fun aS=>ad ⟨o,by rw[aul (by omega)]; exact au,aS⟩
 unfold ud at bh;simp only[awh,decide_eq_true_eq,not_or] at bh;have aW:=h.ops o au;exact⟨aW.ids,by omega,⟨aW.iP,aW.mz,by omega⟩,by omega⟩
theorem amV {ts:List TypeId} {cs:List U} (h:dR Tryz.prog (47::ts) cs) :∃ (g:bp) (cs' : List U),cs=bR g++cs'/\Fz g/\dR Tryz.prog ts cs':=by
 have aG:=zn (fs:=[23,45]) (by kernel_rfl) h;obtain⟨i,_,rfl,ay,bh⟩:=I2 aG;obtain⟨s,_,rfl,_,au,bF⟩:=OC (e:=94) (z:=11) (enc:=a3) (Q:=Jt) (by kernel_rfl) (by kernel_rfl) (fun r az=>by
  obtain⟨x,_,rfl,af,aj⟩:=amX az;rw[I3 aj,auV];exact⟨x,rfl,af⟩) bh
 exact⟨⟨i,s⟩,_,rfl,⟨ay,au⟩,bF⟩
structure Ju (s:ew) :Prop where
 parts:∀ p∈s.cX.parts.l,Fz p
 dB:eQ s.cX.dB
 order:eQ s.order
theorem amQ {ts:List TypeId} {cs:List U} (h:mL Tryz.prog (27::ts) cs) :∃ (s:ew) (cs' : List U),cs=.aF (c8 s) ::cs'/\Ju s/\mL Tryz.prog ts cs':=by
 obtain⟨c,cs',rfl,ad,ae⟩:=Y0 h;obtain⟨cs,rfl,aj⟩:=amR (by kernel_rfl) ad;have aG:=zn (fs:=[3,25,23]) (by kernel_rfl) aj;obtain⟨n,_,rfl,_,_,bh⟩:=xj (k:=.i64) (by kernel_rfl) aG;have bF:=zn (fs:=[22,23,3]) (by kernel_rfl) bh;obtain⟨p,_,rfl,_,av,dz⟩:=OC (e:=47) (z:=2) (enc:=bR) (Q:=Fz) (by kernel_rfl) (by kernel_rfl) (fun r az=>by
  obtain⟨x,_,rfl,af,aj⟩:=amV az;rw[I3 aj,auV];exact⟨x,rfl,af⟩) bF
 obtain⟨i,_,rfl,ay,g0⟩:=I2 dz;obtain⟨v,_,rfl,_,_,gP⟩:=xj (k:=.i64) (by kernel_rfl) g0;obtain⟨o,_,rfl,au,lh⟩:=I2 gP;rw[I3 lh];exact⟨⟨n,⟨p,i,v⟩,o⟩,cs',rfl,⟨av,ay,au⟩,ae⟩
theorem ajT {s:ew} (h:Ju s) (aw:CW s=false) :qU s:=by
 unfold CW p7 at aw;simp only[Bool.or_eq_false_iff,decide_eq_false_iff_not] at aw;obtain⟨⟨ad,ae,aj⟩,aG⟩:=aw;refine⟨⟨fun p av=>?_,by omega,h.dB,by omega⟩,h.order,by omega⟩;have bh:=List.any_eq_false.1 ad p (by rw[aul (by omega)]; exact av);unfold tP at bh;simp only[awh,decide_eq_true_eq,not_or] at bh;obtain⟨bF,dz,g0⟩:=bh;exact⟨ajR (h.parts p av) (by simpa using g0),by omega,by omega⟩
end Op

end Go.b0

namespace Go.b0
open Go Go.Proofs
set_option maxRecDepth 100000
namespace Op
open hl
theorem kI.aiB {l:ao} {j:Nat} {b8:List (List B)} (h:kI l j b8) (ai:mJ b8) {x:List B} (af:x.length=32) (ay:x∈b8) :∃ i:Nat,wI Tryz.prog l 61 (.int .i64 0) true (.mp j) (.aF (aY x))=some (.bt [.int .i64 (i:Int),.bool true]) :=by
 obtain⟨i,ay⟩:=aur.1 ay;obtain⟨es,eh,ad,ae⟩:=h.e;have aj:s7 l (.mp j)=some es:=by simp[s7,ad]
 refine⟨i,?_⟩;unfold wI;rw[aj];simp only[Gd af];rw[(Ks af ae 0).1 i ay (fun t aW aS=>by have:=ai t i x aS ay; omega)];simp
theorem ahk (v f:U) (l:ao) {K:U->ao->Prop} (aT:K (.bt []) l) :c0 Tryz.prog GS 140 [v,.int .i64 0,.int .i64 0,f] l (c:=⟨K⟩) :=by
 apply bq Tryz.func140 [];have bL:IntKind.i64.wrap 1=1:=by decide
 simp;refine cl 0 (fun _ σ l1=>l1=l/\σ 2=.int .i64 0/\σ 8=.int .i64 1) ?_ ⟨rfl,by simp,by simp[bL]⟩;rintro k σ l1 ar ⟨rfl,aU,e4⟩;simp[aU,e4];exact aT
theorem akf (v f:U) (n:Int) (l:ao) {K:U->ao->Prop} (aT:K (.bt []) l) :c0 Tryz.prog GS 102 [v,.int .i64 0,.int .i64 0,.int .i64 n,f] l (c:=⟨K⟩) :=by
 apply bq Tryz.func102 [];have fU:IntKind.i64.wrap 0=0:=by decide
 simp;refine cl 0 (fun _ σ l1=>l1=l/\σ 0=v/\σ 1=.int .i64 0/\σ 2=.int .i64 0/\σ 4=f) ?_ ⟨rfl,by simp,by simp,by simp,by simp⟩;rintro k σ l1 ar ⟨rfl,cb,aK,aU,bl⟩;simp[cb,aK,aU,bl,fU];refine ahk v f l1 ?_;simp;exact aT
theorem WQ {z:Nat} {l:ao} {v:U} {j:Nat} {es:List (List U)} (h:bK z l v j es) {i:Nat} {e:List U} (am:es[i]? = some e) :
  ∃ n cap sz cs,v=.aq z j 0 n cap sz/\l[j]? = some (.cells sz cs)/\es.length=n/\cs.length=sz/\i<n/\i*z+z<=sz/\(cs.drop (i*z)).take z=e:=by
 cases h with
 | nil j=>cases am
 | aq j n cap sz cs es ag al aD ax ah dg cW=>
  have ay:i<es.length:=(auk.1 am).1;have ad:(i+1)*z<=n*z:=aup _ (by omega);have ae:n*z<=cap*z:=aup _ ah;rw[au2] at ad;refine⟨n,cap,sz,cs,rfl,ag,aD,al,by omega,by omega,?_⟩;have aj:=acU ax am;rw[<-cW,awp,avH,avA (by omega)] at aj;exact aj
theorem Yo (v f:U) (ap:ce (.aq 32) v=some (.int .i64 0)) (l:ao) {K:U->ao->Prop} (aT:K (.bt []) l) :c0 Tryz.prog GS 74 [v,f] l (c:=⟨K⟩) :=by
 apply bq Tryz.func74 [];have h:bz Tryz.prog GS 103 [dS 0] (.int .i64 (kz (0:Q).toNat)) :=by
  refine bX Tryz.checked.mixed bn ?_;apply bq Tryz.func103 [];have h:=V2 0;simp;refine a4 h rfl ?_;simp;exact aQ rfl rfl
 simp[ap];refine a4 h rfl ?_;simp;refine akf v f _ l ?_;simp;exact aT
theorem WR {z:Nat} {l l1:ao} {v:U} {j:Nat} {es:List (List U)} (h:bK z l v j es) (am:mc l l1) :bK z l1 v j es:=by
 refine h.lg ?_;rcases h.lt with e | e
 ·exact .inl e
 ·exact .inr (am.2 j e)
set_option maxHeartbeats 4000000 in
theorem ahe {l:ao} {v:U} {j:Nat} {xs:List (List B)} (h:bK 32 l v j (xs.map aY)) (bP:xs≠[]) {f:FuncId} {mR:List U} (aE:jH Tryz.prog f=true) (ot:xD f mR l xs fun _=>true) {K:U->ao->Prop}
  (aT:∀ l',mc l l'->K (.int .i64 0) l') :c0 Tryz.prog GS 101 [v,.fn f [] mR] l (c:=⟨K⟩) :=by
 apply bq Tryz.func101 [];obtain⟨x,r,rfl⟩:=List.exists_cons_of_ne_nil bP;obtain⟨n,cap,sz,cs,ap,ag,aD,ea,ay,dO,cA⟩:=WQ h (i:=0) (e:=aY x) rfl;rw[av7,avz] at dO;rw[av7,avx] at cA;have ox:=ot x (by simp) l (mc.refl l);obtain⟨X,cn⟩:∃ X,X=aY x:=⟨_,rfl⟩
 rw[<-cn] at cA ox;have sK:(0:Int)<(n:Int) :=by omega
 subst ap;simp;refine cl 0 (fun k σ l1=>l1=l/\σ 0=.aq 32 j 0 n cap sz/\σ 1=.fn f [] mR/\σ 7=.int .i64 n/\σ 8=.int .i64 0) ?_ ⟨rfl,by simp,by simp,by simp,by simp⟩;rintro k σ l1 ar ⟨rfl,cb,aK,dU,e4⟩;obtain⟨σ,rfl⟩:=iE cb aK dU e4;clear cb aK dU e4;simp[sK,ay,ag,ea,dO,cA];refine⟨aE,ox _ fun bj mm=>?_⟩;simp;exact aT _ mm
set_option maxHeartbeats 8000000 in
theorem abT {l:ao} {v:U} {j:Nat} {xs:List (List B)} (h:bK 32 l v j (xs.map aY)) (al:xs.length<=1000000) (af:∀ x∈xs,x.length=32) (bP:xs≠[]) {f:FuncId} {mR:List U} (aE:jH Tryz.prog f=true) (ot:xD f mR l xs fun _=>true) {K:U->ao->Prop}
  (aT:∀ r l',bK 32 l' r j []->cF r=false->l.length<=l'.length->(∀ b,b<l.length->b≠j->l'[b]? = l[b]?)->K r l') :c0 Tryz.prog GS 72 [v,.fn f [] mR] l (c:=⟨K⟩) :=by
 apply bq Tryz.func72 [];simp;refine ahe h bP aE ot fun l1 La=>?_
 have iL:ce (.aq 32) v=some (.int .i64 xs.length) :=by have:=h.len; simpa using this
 have eK:j<l.length:=by
  rcases h.lt with e | e
  ·exfalso; subst e; have:=h.q.Ia; exact bP (by simpa using this)
  ·exact e
 have bL:IntKind.i64.wrap 1=1:=by decide
 have pg:0<xs.length:=List.length_pos_iff.2 bP;simp;refine cl xs.length (fun m σ bj=>σ 0=v/\σ 1=.fn f [] mR/\σ 5=.int .i64 0/\σ 6=.int .i64 (m+1:Nat)/\mc l bj) ?_ ⟨by simp,by simp,by simp,by simp[bL],La⟩;rintro m σ bj hm ⟨cb,aK,bo,cu,mm⟩;obtain⟨σ,rfl⟩:=iE cb aK bo cu;clear cb aK bo cu;have aP:IntKind.i64.wrap (((m+1:Nat) :Int)+1)=((m+1+1:Nat) :Int) :=by rw[IntKind.wrap_i64]; omega
 by_cases j6:m+1<xs.length
 ·obtain⟨x,Mh,cT⟩:=bI j6;have rv:((m+1:Nat) :Int)<(xs.length:Int) :=by omega
  obtain⟨n,cap,sz,cs,ap,ag,aD,ea,ay,dO,cA⟩:=WQ (WR h mm) (i:=m+1) (e:=aY x) (by rw[auq,Mh]; rfl);have bd:=c2 (af x cT);have K2:mc l (bj++[aV.cells 32 (aY x)]) :=mm.trans ⟨by simp,fun b ag=>aum ag⟩;have ox:=ot x cT _ K2;obtain⟨X,cn⟩:∃ X,X=aY x:=⟨_,rfl⟩
  rw[<-cn] at cA ox bd K2;have fG:X.take 32=X:=aul (by omega);have hE:a8 (rep 32 (.int .u8 0)) 0 X=X:=gq (by rw[bd]; rfl);have rx:n=xs.length:=by rw[<-aD,auw]
  subst rx;subst ap;have bY:cL (.aq 32) (.aq 32 j 0 xs.length cap sz) (.int .i64 ((m+1:Nat) :Int))=some (.ptr j ((m+1)*32) sz) :=by
   have:((m+1:Nat) :Int).toNat=m+1:=by omega
   simp[cL];omega
  obtain⟨M,gD⟩:∃ M:Int,M=((m+1:Nat) :Int) :=⟨_,rfl⟩
  rw[<-gD] at rv aP bY ⊢;simp[rv,bY,ag,ea,dO,cA,bd,fG,hE];refine⟨aE,ox _ fun eY G0=>?_⟩;simp[aP];exact⟨by omega,K2.trans G0⟩
 ·have rv:¬ ((m+1:Nat) :Int)<(xs.length:Int) :=by omega
  have qr:(rep 32 (U.int .u8 0)).length=32:=rfl;obtain⟨e8,eY,r,a2,a9,bV,ey,go,g6,zG⟩:=aj2 (enc:=aY) qr (WR h mm) pg;obtain⟨M,gD⟩:∃ M:Int,M=((m+1:Nat) :Int) :=⟨_,rfl⟩
  rw[<-gD] at rv ⊢;simp at a2 bV;simp[iL,rv,a2,a9,bV];refine aT r eY (by simpa using ey) go (by rw[g6]; exact mm.1) fun b ag pd=>?_
  rw[zG b pd]; exact mm.2 b ag
theorem ahf (v f:U) (ap:ce (.aq 32) v=some (.int .i64 0)) (l:ao) {K:U->ao->Prop} (aT:K (.int .i64 (-1)) l) :c0 Tryz.prog GS 101 [v,f] l (c:=⟨K⟩) :=by
 apply bq Tryz.func101 [];simp[ap];refine cl 0 (fun k σ l1=>l1=l/\σ 7=.int .i64 0/\σ 8=.int .i64 0) ?_ ⟨rfl,by simp,by simp⟩;rintro k σ l1 ar ⟨rfl,dU,e4⟩;obtain⟨σ,rfl⟩:=pG dU e4;clear dU e4;simp;exact aT
theorem abU (v f:U) (ap:ce (.aq 32) v=some (.int .i64 0)) (l:ao) {K:U->ao->Prop} (aT:K v l) :c0 Tryz.prog GS 72 [v,f] l (c:=⟨K⟩) :=by
 apply bq Tryz.func72 [];simp;refine ahf v f ap l ?_;simp;exact aT
theorem R3 (v:U) (ap:ce (.aq 32) v=some (.int .i64 0)) (l:ao) {K:U->ao->Prop} (aT:K v l) :c0 Tryz.prog GS 76 [v] l (c:=⟨K⟩) :=by
 apply bq Tryz.func76 [];simp[ap];exact aT
theorem amD {l:ao} {b hd:Nat} {b8:List (List B)} (ag:l[b]? = some (.cells 1 [.mp hd])) (av:kI l hd b8) (ai:mJ b8) (xs:List (List B)) (af:∀ p∈xs,p.length=32/\p∈b8) :
  xD 73 [.ptr b 0 1] l xs (fun _=>true) :=by
 intro p gS l1 c5 K aT;apply bq Tryz.func73 [];obtain⟨hD,agj⟩:=af p gS;have gE:=c2 hD;have q1:l1[b]? = some (.cells 1 [.mp hd]) :=by rw[c5.2 _ (b6 ag)]; exact ag
 have aK:∀ c:aV,(l1++[c])[b]? = some (.cells 1 [.mp hd]) :=fun c=>by rw[aum (b6 q1)]; exact q1
 have oD:kI (l1++[aV.cells 32 (aY p)]) hd b8:=av.frame (by rw[aum (avU av.lt c5.1),c5.2 _ av.lt]);obtain⟨i,ru⟩:=oD.aiB ai hD agj;simp[aK,gE,aul,ru];exact aT _ ⟨by simp,fun b ag=>aum ag⟩
set_option maxHeartbeats 8000000 in
theorem ajc (g:bp) (aw:gn g) (aI:gp g=0) (i:dv) (ay:eQ i) (dH:i.l.length<=60) (cQ:∀ x∈i.l,x∈g.ids.l) :∃ R:dv,R.l=[]/\bz Tryz.prog GS 40 [cH g,aB i] (.bt [aB R,.int .i64 0]) :=by
 refine⟨if i.l=[] then i else some [],by split; assumption; rfl,?_⟩;refine bX Tryz.checked.mixed bn ?_;apply bq Tryz.func40 [];have V:=nW aI;have nH:=qs V.di;have ei:=Fi g aw;have fj:=dd g.ids;have dJ:=jE g.ops;have dp:ce (.aq 32) (aB i)=some (.int .i64 i.l.length) :=by simp[aB]
 have o9:¬ (60:Int)<i.l.length:=by omega
 have adp:¬ 60<i.l.length:=by omega
 unfold cH bR at ei;simp[cH,bR];refine a4 ei (by simp[a5,U.closed,fj,dJ]) ?_;simp[aI,dp,o9,adp];refine W0 g aw nH ?_;intro hd l1 lN yq iy yw;obtain⟨b,ag⟩:∃ b,b=l1.length:=⟨_,rfl⟩
 have v7:kI (l1++[aV.cells 1 [.mp hd]]) hd g.ids.l:=lN.frame (aum lN.lt);have b4:(l1++[aV.cells 1 [.mp hd]])[b]? = some (.cells 1 [.mp hd]) :=by rw[ag]; exact avo
 simp;obtain⟨L,dA⟩:∃ L,L=l1++[aV.cells 1 [.mp hd]] :=⟨_,rfl⟩
 rw[<-dA] at v7 b4 ⊢;rw[<-ag];refine Mr i ay (by omega) fun v bj eV=>?_
 have fP:=b6 b4;have dW:bj[b]? = some (.cells 1 [.mp hd]) :=by rw[eV.same b fP]; exact b4
 have adU:kI bj hd g.ids.l:=v7.frame (eV.same hd v7.lt);have il:=amD dW adU nH i.l fun p av=>⟨ay p av,cQ p av⟩
 simp;by_cases am:i.l=[]
 ·rw[if_pos am];have ia:ce (.aq 32) v=some (.int .i64 0) :=by rw[eV.len,am]; rfl
  refine abU v _ ia bj ?_;simp;refine Yo v _ ia bj ?_;simp;refine R3 v ia bj ?_;simp;exact IA (eV.rd fE i rfl rfl) (.same _ rfl)
 ·rw[if_neg am];obtain⟨j,hS,gI,oO,ke,uX⟩:=eV;refine abT hS (by omega) ay am (by kernel_rfl) il fun r eY az aD dO j7=>?_
  have ia:ce (.aq 32) r=some (.int .i64 0) :=by have:=az.len; simpa using this
  simp;refine Yo r _ ia eY ?_;simp;refine R3 r ia eY ?_;simp;exact IA ((show bK 32 eY r j (([] :List (List B)).map aY) from az).q.u5 fE (some []) (by rw[aD]; rfl) rfl) (.same _ rfl)
theorem ach (o:br) (au:iY o) :bz Tryz.prog GS 70 [.aF (a3 o)] (.aF (a3 o)) :=by
 refine bX Tryz.checked.mixed bn ?_;apply bq Tryz.func70 [];have dJ:=kM o;have cS:(a3 o).length=11:=rfl;have kO:∀ h,(a3 o)[1]'h=aB o.bi:=fun _=>rfl
 have i6:=dd o.bi;have ea:=HM o.bi au.ids au.len;have uD:=WG o;have hm:=kp o.bi;obtain⟨O,eu⟩:∃ O,O=a3 o:=⟨_,rfl⟩
 rw[<-eu] at dJ cS kO uD ⊢;have kU:a8 [U.int .u32 0,.aH,.int .u64 0,.int .u8 0,.str [],.int .u8 0,.int .i64 0,.int .u64 0,.str [],.int .u32 0,.int .u32 0] 0 O=O:=gq (by rw[cS]; rfl);simp[cS,kO,aul];refine a4 ea (by simp[a5,U.closed,i6]) ?_;simp[cS,hm,uD,kU,aul];exact aQ rfl (by simpa [U.closed] using dJ)
def ZH:br:=⟨0,none,0,⟨0,[],vi⟩,0,0⟩
def Aj (g:bp) (x:List B) :br × Int:=if x∈g.ids.l then (jS g.ops.l (i2 g.ids.l x),0) else (ZH,6)
theorem S2 {g:bp} (V:tG g) {i:Nat} {x:List B} {o:br} (ay:g.ids.l[i]? = some x) (au:g.ops.l[i]? = some o) :Aj g x=(o,0) :=by
 unfold Aj;rw[if_pos (aut ay),Cr V.di ay,ta au]
theorem ab1 (g:bp) (aw:gn g) (aI:gp g=0) (x:List B) (af:x.length=32) :bz Tryz.prog GS 39 [cH g,.aF (aY x)] (.bt [.aF (a3 (Aj g x).1),.int .i64 (Aj g x).2]) :=by
 refine bX Tryz.checked.mixed bn ?_;apply bq Tryz.func39 [];have V:=nW aI;have fj:=dd g.ids;have dJ:=jE g.ops;have lP:=fE x;have bd:=c2 af;have ei:=Fi g aw;have aE:=SA g aw V.di x af;rw[aI] at ei;obtain⟨X,cn⟩:∃ X,X=aY x:=⟨_,rfl⟩
 rw[<-cn] at lP bd aE ⊢;unfold cH bR at ei aE;simp[cH,bR,bd,aul];refine a4 ei (by simp[a5,U.closed,fj,dJ]) ?_;simp[bd,aul];refine a4 aE (by simp[a5,U.closed,fj,dJ,lP]) ?_;by_cases hm:x∈g.ids.l
 ·obtain⟨i,ay⟩:=aur.1 hm;obtain⟨o,au,en⟩:=bI (l:=g.ops.l) (k:=i) (by rw[<-V.len]; exact (auk.1 ay).1);rw[S2 V ay au,Cr V.di ay];have bY:cL (.aq 11) (bx g.ops) (.int .i64 (i:Int))=some (.bM (a3 o) 0) :=by simp[bx,au]
  have cS:(a3 o).length=11:=rfl;have i6:=kM o;have pk:=ach o (aw.ops o en);obtain⟨O,eu⟩:∃ O,O=a3 o:=⟨_,rfl⟩
  rw[<-eu] at bY cS i6 pk ⊢;have kU:a8 [U.int .u32 0,.aH,.int .u64 0,.int .u8 0,.str [],.int .u8 0,.int .i64 0,.int .u64 0,.str [],.int .u32 0,.int .u32 0] 0 O=O:=gq (by rw[cS]; rfl);simp[hm,bY,cS,aul];refine a4 pk (by simpa [a5,U.closed] using i6) ?_;simp[cS,kU,aul];exact aQ rfl (by simpa [U.closed,a5] using i6)
 ·have m2:Aj g x=(ZH,6) :=by unfold Aj; rw[if_neg hm]
  rw[m2];simp[hm];exact aQ rfl rfl
structure B3 (g:bp) (D:List (List B)) :Prop where
 nU:D.Nodup
 sub:∀ x∈D,x∈g.ids.l
 pre:∀ (i:Nat) (x:List B) (j:Nat),D[i]? = some x->g.ids.l[j]? = some x->∀ q∈eO g.ops.l j,q∈D.take i
theorem I1 {g:bp} (V:tG g) {l:List (List B)} (h:pu g l=true) :B3 g l:=by
 unfold pu at h;rw[decide_eq_true_eq] at h;have key:∀ (i:Nat) (x:List B),l[i]? = some x->x∈g.ids.l/\x∉l.take i/\k9 (l.take i) (eO g.ops.l (g3 x g.ids.l 0).toNat)=true:=fun i x ay=>by
  have:=h i (auk.1 ay).1;unfold oP at this;rw[gi ay] at this;simpa [aus] using this
 refine⟨?_,fun x af=>?_,fun i x j ay ai q a7=>?_⟩
 ·refine avW.2 fun i j ay ai mo e=>?_
  have ad:=(key j l[j] (auo ai)).2.1;exact ad (aur.2 ⟨i,by rw[auI mo,auo ay,e]⟩)
 ·obtain⟨i,ay⟩:=aur.1 af;exact (key i x ay).1
 ·have aj:=(key i x ay).2.2;rw[Ef (qs V.di) ai,auS] at aj;unfold k9 at aj;exact of_decide_eq_true aj q a7
theorem amG {g:bp} {D:List (List B)} (h:B3 g D) (k:Nat) :B3 g (D.take k) :=by
 refine⟨h.nU.sublist (awH _ _),fun x af=>h.sub x (auG af),fun i x j ay ai q a7=>?_⟩;have rn:=(auk.1 ay).1;rw[auA] at rn;rw[auI (by omega)] at ay;have:=h.pre i x j ay ai q a7;rw[avH,avA (by omega)]; exact this
def nh (g:bp) (D:List (List B)) :bp:=dy ((gj g).filter fun p=>decide (p.1∈D))
theorem aif (s:ew) (N:Nat) :pn s N=nh (dy (et s.cX)) (s.order.l.take N) :=by
 unfold pn nh hx;rw[auU]
theorem YF {g:bp} {D:List (List B)} {k:Nat} {x:List B} (h:(nh g D).ids.l[k]? = some x) :x∈D/\∃ (j:Nat) (o:br),g.ids.l[j]? = some x/\g.ops.l[j]? = some o/\(nh g D).ops.l[k]? = some o:=by
 unfold nh dy at h ⊢;simp only[ec] at h ⊢;rw[auq] at h;cases a7:((gj g).filter fun p=>decide (p.1∈D))[k]? with
 | none=>rw[a7] at h; cases h
 | some q=>
  rw[a7] at h;obtain rfl:=Option.some.inj h;have hm:=ave.1 (aut a7);obtain⟨j,ai⟩:=aur.1 hm.1;unfold gj at ai;rw[avB] at ai;exact⟨of_decide_eq_true hm.2,j,q.2,ai.1,ai.2,by rw[auq,a7]; rfl⟩
theorem IW {g:bp} (V:tG g) {D:List (List B)} (ak:∀ x∈D,x∈g.ids.l) (x:List B) :x∈(nh g D).ids.l<->x∈D:=by
 constructor
 ·intro h;obtain⟨k,ar⟩:=aur.1 h;exact (YF ar).1
 ·intro h;obtain⟨j,ai⟩:=aur.1 (ak x h);obtain⟨o,au,_⟩:=bI (l:=g.ops.l) (k:=j) (by rw[<-V.len]; exact (auk.1 ai).1);unfold nh dy;simp only[ec];refine auR.2 ⟨(x,o),ave.2 ⟨?_,decide_eq_true h⟩,rfl⟩;exact aut (show (gj g)[j]? = some (x,o) by unfold gj; rw[avB]; exact⟨ai,au⟩)
theorem amq (g:bp) (D:List (List B)) :(nh g D).ids.l.length=(nh g D).ops.l.length:=by
 unfold nh dy; simp only[ec,auw]
theorem YG {g:bp} (V:tG g) (D:List (List B)) :di (nh g D).ids.l=true:=by
 refine Nr ?_;have h:=EW V.di;have ae:(nh g D).ids.l=((gj g).filter fun p=>decide (p.1∈D)).map (·.1) :=by unfold nh dy; simp only[ec]
 have aj:(gj g).map (·.1)=g.ids.l:=by unfold gj; exact axj (by rw[V.len]; exact aun _)
 rw[ae,av0];rw[<-aj,av0] at h;exact h.sublist awW
theorem IX {α:Type} [DecidableEq α] :∀ {a b:List α},a.Nodup->(∀ x∈a,x∈b)->a.length<=b.length
 | [],_,_,_=>avu _
 | x::a,b,aD,h=>by
  obtain⟨ad,ae⟩:=awR.1 aD;have aj:∀ y∈a,y∈b.erase x:=fun y aJ=>(List.mem_erase_of_ne (fun e=>ad (by rw[<-e]; exact aJ))).2 (h y (awr _ aJ))
  have aG:=IX ae aj;have bh:=axg (h x (by simp));have bF:=List.length_pos_of_mem (h x (by simp));simp only[auF]; omega
theorem YE {g:bp} (V:tG g) {D:List (List B)} (dI:B3 g D) :(nh g D).ids.l.length=D.length:=
 Nat.le_antisymm (IX (aiK (EW (YG V D))) fun x af=>(IW V dI.sub x).1 af) (IX dI.nU fun x af=>(IW V dI.sub x).2 af)
theorem amp {g:bp} (aI:gp g=0) {D:List (List B)} (dI:B3 g D) :gp (nh g D)=0:=by
 have V:=nW aI;have nH:=qs V.di;obtain⟨p,av⟩:∃ p,p=nh g D:=⟨_,rfl⟩
 have hc:∀ x,x∈p.ids.l<->x∈D:=fun x=>by rw[av]; exact IW V dI.sub x
 have yJ:di p.ids.l=true:=by rw[av]; exact YG V D
 have cS:p.ops.l.length=p.ids.l.length:=by rw[av]; exact (amq g D).symm
 have KJ:p.ids.l.length=D.length:=by rw[av]; exact YE V dI
 have fv:∀ (k:Nat) (x:List B),p.ids.l[k]? = some x->∃ (j:Nat) (o:br),g.ids.l[j]? = some x/\g.ops.l[j]? = some o/\p.ops.l[k]? = some o:=fun k x af=>by
  rw[av] at af ⊢; exact (YF af).2
 rw[<-av];have DH:=V.n60;have iL:=V.len;have ap1:D.length<=g.ids.l.length:=IX dI.nU dI.sub;have LP:∀ (i:Nat) (x:List B) (b7:Nat),D[i]? = some x->p.ids.l[b7]? = some x->∀ q∈eO p.ops.l b7,q∈D.take i:=fun i x b7 ay eD q a7=>by
  obtain⟨j,o,a2,a9,bV⟩:=fv b7 x eD;rw[tf bV] at a7;exact dI.pre i x j ay a2 q (by rw[tf a9]; exact a7)
 have wb:∀ i,i<D.length->∀ x b7,D[i]? = some x->p.ids.l[b7]? = some x->pN p.ids.l p.ops.l b7:=by
  intro i
  induction i using Nat.strongRecOn with
  | _ i aR=>
   intro ay x b7 af eD;refine .mk b7 (auk.1 eD).1 (fun q a7=>(hc q).2 (auG (LP i x b7 af eD q a7))) fun q a7 t aW=>?_
   obtain⟨a,aC⟩:=aur.1 (LP i x b7 af eD q a7);have hb:=(auk.1 aC).1;rw[auA] at hb;rw[auI (by omega)] at aC;exact aR a (by omega) (by omega) q t aC aW
 have agC:mF p.ids.l p.ops.l=0:=by
  unfold mF;rw[if_pos yJ,if_pos,if_pos]
  ·refine (Np cS.symm (qs yJ)).2 fun i ay=>?_
   obtain⟨x,af,cT⟩:=bI (l:=p.ids.l) (k:=i) (by omega);obtain⟨a,aC⟩:=aur.1 ((hc x).1 cT);exact wb a (auk.1 aC).1 x i aC af
  ·unfold uZ k9;rw[decide_eq_true_eq];intro o au;rw[decide_eq_true_eq];intro q a7;obtain⟨b7,eD⟩:=aur.1 au;obtain⟨x,af,cT⟩:=bI (l:=p.ids.l) (k:=b7) (by rw[<-cS]; exact (auk.1 eD).1);obtain⟨a,aC⟩:=aur.1 ((hc x).1 cT);exact (hc q).2 (auG (LP a x b7 aC af q (by rw[tf eD]; exact a7)))
 unfold gp;rw[if_neg (by omega),if_pos cS.symm,if_pos,agC];rw[x6];intro k ar;obtain⟨dw,dE,_⟩:=bI ar;obtain⟨x,af,_⟩:=bI (l:=p.ids.l) (k:=k) (by omega);obtain⟨j,o,a2,a9,bV⟩:=fv k x af;rw[dE] at bV;obtain rfl:=Option.some.inj bV;obtain⟨ad,ae⟩:=V.S4 j dw x a9 a2;rw[CV dE af,decide_eq_true ad,decide_eq_true ae]; rfl
theorem MT {s:ew} (h:oX s) {N:Nat} (fe:N<=s.order.l.length) :gp (pn s N)=0/\(pn s N).ids.l.length=N/\(∀ x,x∈(pn s N).ids.l<->x∈s.order.l.take N) :=by
 have V:=nW h.cX.eh;have dI:=amG (I1 V h.ord) N;rw[aif];exact⟨amp h.cX.eh dI,by rw[YE V dI,auA]; omega,IW V dI.sub⟩
theorem aig {s:ew} (h:oX s) {N:Nat} {x:List B} (af:s.order.l[N]? = some x) {j:Nat} {o:br} (ad:(dy (et s.cX)).ids.l[j]? = some x) (ae:(dy (et s.cX)).ops.l[j]? = some o) :∀ q∈o.bi.l,q∈(pn s N).ids.l:=fun q a7=>by
 have V:=nW h.cX.eh;have fe:=(auk.1 af).1;refine ((MT h (avY fe)).2.2 q).2 ?_;exact (I1 V h.ord).pre N x j af ad q (by rw[tf ae]; exact a7)
def hN (s:ew) (F M:Nat) :List (List B) :=(s.order.l.drop F).take M
theorem PS (s:ew) {F M j:Nat} (ai:j<M) :(hN s F M)[j]? = s.order.l[F+j]?:=by
 unfold hN;rw[auI ai,auY]
theorem FH (s:ew) {F M:Nat} (h:F+M<=s.order.l.length) :(hN s F M).length=M:=by
 unfold hN;rw[auA,avh]; omega
def mO (s:ew) (F M k:Nat) :iX:=⟨F,gV (some (hN s F M)) k,false⟩
theorem FG (s:ew) {F M k:Nat} (h:F+M<=s.order.l.length) (ar:k<=M) :(mO s F M k).ids.l.length=k:=by
 show (gV (some (hN s F M)) k).l.length=k;rw[mG,auA];show min k (hN s F M).length=k;rw[FH s h]; omega
theorem PR {s:ew} (ak:qU s) {F M k:Nat} (h:F+M<=s.order.l.length) (ar:k<=M) :Fw (mO s F M k) :=by
 refine⟨fun x af=>?_,by rw[FG s h ar]; have:=ak.no; omega⟩;have pl:x∈(gV (some (hN s F M)) k).l:=af;rw[mG] at pl;have ae:x∈hN s F M:=auG pl;unfold hN at ae;exact ak.order x (avL (auG ae))
theorem PQ {s:ew} (jM:oX s) {F M k:Nat} (h:F+M<=s.order.l.length) (ar:k<=M) :qx s (mO s F M k)=0:=by
 have al:=FG s h ar;have apX:s.order.l.length<=40:=by have:=jM.le; have:=jM.BN; have:=jM.Q3; omega
 have aC:lJ s (mO s F M k)=0:=by
  unfold lJ;rw[if_pos ((E7 s).2 jM)];unfold sx;rw[if_neg (by show ¬ ((F:Int)<0\/60<(F:Int)); omega),if_neg (by rw[al]; omega)]
 have aX:oc s (mO s F M k)=-1:=by
  rw[OQ (SM fun j ai=>?_)]
  ·unfold zs;rw[if_neg];rintro (q | ⟨q,_⟩)
   ·rw[al] at q;have:(mO s F M k).fo=(F:Int) :=rfl;omega
   ·cases q
  ·rw[al] at ai;obtain⟨x,af,_⟩:=bI (l:=s.order.l) (k:=F+j) (by omega);have yO:(mO s F M k).ids.l[j]? = some x:=by
    show (gV (some (hN s F M)) k).l[j]? = some x;rw[mG,auI ai];show (hN s F M)[j]? = some x;rw[PS s (by omega)]; exact af
   have iy:(mO s F M k).fo.toNat=F:=by show ((F:Int)).toNat=F; omega
   rw[iy,PK yO af]; simp
 unfold qx;rw[if_pos aC,aX]; rfl
end Op

end Go.b0

namespace Go.b0
open Go Go.Proofs Go.RowKit
set_option maxRecDepth 100000
namespace Op
open hl
set_option maxHeartbeats 16000000 in
theorem abV (hb:bz Tryz.prog GS 29 [] (.bool true)) (s:ew) (ts:Ju s) (Kw n:Int) :c0 Tryz.prog GS 8 [.aF (c8 s),.int .i64 Kw,.int .i64 n] [] (c:=⟨fun r _=>r=.bool true⟩) :=by
 apply bq Tryz.func8 [[[0],[1],[2],[3],[4],[5],[6],[11],[7,11],[8],[9],[10]],[[0],[1],[2],[3],[4],[5],[10],[6,10],[7],[8],[9]]];have az:cw=140737488355328:=rfl;have bS:(c8 s).length=5:=rfl;have g9:(c8 s).take 5=c8 s:=rfl;have g1:=vL s;have ji:∀ h,(c8 s)[4]'h=aB s.order:=fun _=>rfl
 have mi:(c8 s)[4]? = some (aB s.order) :=rfl;have cM:ce (.aq 32) (aB s.order)=some (.int .i64 s.order.l.length) :=by simp[aB]
 have wb:=akJ s;simp;refine a4 hb rfl ?_;simp[bS,g9];refine a4 wb (by simp[a5,U.closed,g1]) ?_;cases aI:CW s with
 | true=>simp
 | false=>
  have ak:=ajT ts aI;have cR:=ak.no;have b5:=ak2 s ak;simp[bS,g9];refine a4 b5 (by simp[a5,U.closed,g1]) ?_;by_cases ae:g4 s=0
  ·have jM:=(E7 s).1 ae;by_cases b3:Kw<0
   ·simp[ae,b3]
   ·by_cases b9:n<0
    ·simp[ae,b3,b9]
    ·obtain⟨F,rfl⟩:=avr (show 0<=Kw by omega);obtain⟨M,rfl⟩:=avr (show 0<=n by omega);have vE:¬ (F:Int)<0:=by omega
     have xR:¬ (M:Int)<0:=by omega
     by_cases ho:s.order.l.length<F
     ·simp[ae,bS,mi,ji,cM,vE,xR,ho]
     ·have aP:IntKind.i64.wrap ((s.order.l.length:Int) - (F:Int))=(s.order.l.length:Int) - (F:Int) :=by rw[IntKind.wrap_i64]; omega
      by_cases fD:(s.order.l.length:Int) - (F:Int)<(M:Int)
      ·simp[ae,bS,mi,ji,cM,vE,xR,ho,aP,fD]
      ·have ou:F+M<=s.order.l.length:=by omega
       have bw:IntKind.i64.wrap ((F:Int)+(M:Int))=((F+M:Nat) :Int) :=by rw[IntKind.wrap_i64]; omega
       have h8:=Yb s ak;rw[Ob jM] at h8;have Uq:fl (.aq 32) (aB s.order) (some (.int .i64 (F:Int))) (some (.int .i64 ((F+M:Nat) :Int))) none=some (aB (gV (jv s.order F) M)) :=by
        cases au:s.order with
        | none=>
         rw[au] at ou;have:F=0/\M=0:=by simpa using ou
         obtain⟨rfl,rfl⟩:=this;rfl
        | some a=>
         rw[au] at ou;have ap2:F+M<=a.length:=ou;have:=Yj (z:=32) (enc:=aY) (l:=a) (k:=.i64) (k':=.i64) (i:=(F:Int)) (j:=((F+M:Nat) :Int)) (by omega) (by omega) (by omega);rw[auS,auS,show F+M - F=M by omega] at this;exact this
       have As:(gV (jv s.order F) M).l=hN s F M:=by rw[mG,tn]; rfl
       have ax:∀ x∈(gV (jv s.order F) M).l,(aY x).length=32:=fun x af=>c2 (ak.order x (by rw[As] at af; unfold hN at af; exact avL (auG af)))
       have j1:=Pw (enc:=aY) (z:=32) (by_:=32) [aV.cells 5 (c8 s),aV.cells 0 []] 1 rfl (gV (jv s.order F) M) ax (by omega) (by omega) (by rw[As,FH s ou,az]; omega);change gX _ _ _ _ (aB _)=_ at j1;obtain⟨O6,adG⟩:∃ O6:Int,O6=((F+M:Nat) :Int) :=⟨_,rfl⟩
       rw[<-adG] at bw Uq;simp at j1;simp[ae,bS,g9,mi,ji,cM,vE,xR,ho,aP,fD,bw,Uq,j1];refine c7.CI (by exact Bl (enc:=aY) (z:=32) (b:=1) ax rfl (by rfl)) rfl ?_;have Gp:U.aZ 32 ((gV (jv s.order F) M).l.map aY)=aB (some (hN s F M)) :=by rw[As]; rfl
       rw[Gp];have aiT:=kp (some (hN s F M));obtain⟨g,aw⟩:∃ g,g=dy (et s.cX) :=⟨_,rfl⟩
       have hq:gn g:=by rw[aw]; exact xy ak.cX
       have V:tG g:=by rw[aw]; exact nW jM.cX.eh
       have Ds:gp g=0:=by rw[aw]; exact jM.cX.eh
       rw[<-aw] at h8;have eo:=kp g.ids;have ej:=o3 g.ops;unfold cH bR at h8;simp[aiT,bS,g9,a8];refine a4 h8 (by simp[a5,U.closed,g1]) ?_;simp[eo,ej,a8];refine cl (M+1) (fun k σ l=>σ 1=.int .i64 F/\σ 2=.int .i64 M/\σ 3=.ptr 0 0 5/\σ 7=.bool true/\σ 8=.ptr 2 0 3/\σ 9=.ptr 3 0 2/\σ 11=.int .i64 k/\l[0]? = some (.cells 5 (c8 s))/\l[2]? = some (.cells 3 [.int .i64 F,aB (some (hN s F M)),.bool false])/\l[3]? = some (.cells 2 [aB g.ids,bx g.ops])) ?_ ⟨by simp,by simp,by simp[bS],by simp,by simp,by simp,by simp,rfl,rfl,rfl⟩;rintro k σ l ar ⟨aK,aU,a1,dU,e4,gZ,jI,cy,cV,fy⟩;obtain⟨σ,rfl⟩:=Fc aK aU a1 dU e4 gZ jI;clear aK aU a1 dU e4 gZ jI;have e3:IntKind.i64.wrap ((k:Int)+1)=((k+1:Nat) :Int) :=by rw[IntKind.wrap_i64]; omega
       have nz:IntKind.i64.wrap ((F:Int)+(k:Int))=((F+k:Nat) :Int) :=by rw[IntKind.wrap_i64]; omega
       have fk:=b6 fy;by_cases Dz:k<=M
       ·have HG:=Mt (some (hN s F M)) (k:=k) (by show k<=(hN s F M).length; rw[FH s ou]; exact Dz);have bf:=PR ak ou Dz;have dK:=V0 s ak (mO s F M k) bf;rw[if_pos (PQ jM ou Dz),FG s ou Dz,show ((mO s F M k).fo+(k:Int)).toNat=F+k by show ((F:Int)+(k:Int)).toNat=F+k; omega] at dK;obtain⟨a2,a9,bV⟩:=MT jM (N:=F+k) (by omega);have sG:=VZ ak (F+k);obtain⟨p,av⟩:∃ p,p=pn s (F+k) :=⟨_,rfl⟩
        rw[<-av] at dK a2 a9 sG;have mk:=kp (gV (some (hN s F M)) k);have eh:=dd (gV (some (hN s F M)) k);have qv:=kp p.ids;have yW:=o3 p.ops;have K7:(.aF (fN (mO s F M k)) :U)=.aF [.int .i64 F,aB (gV (some (hN s F M)) k),.bool false] :=rfl;rw[K7] at dK;have i6:=Fi p sG;have F0:=dd p.ids;have J7:=jE p.ops;have gb:ce (.aq 32) (aB p.ids)=some (.int .i64 p.ids.l.length) :=by simp[aB]
        unfold cH bR at dK i6;simp[Dz,cy,cV,bS,g9,HG,mk,a8];obtain⟨L,dA⟩:∃ L,L=l++[aV.cells 2 [.aH,.aH]] :=⟨_,rfl⟩
        rw[<-dA];refine a4 dK (by simp[a5,U.closed,g1,eh]) ?_;have asl:L.length=l.length+1:=by rw[dA]; simp
        have jC:∀ (i:Nat) (c:aV),l[i]? = some c->L[i]? = some c:=fun i c h=>by rw[dA,aum (b6 h)]; exact h
        have wl:L[l.length]? = some (.cells 2 [.aH,.aH]) :=by rw[dA]; exact avo
        obtain⟨X,cn⟩:∃ X,X=L.set l.length (.cells 2 [aB p.ids,bx p.ops]) :=⟨_,rfl⟩
        have vh:X[0]? = some (.cells 5 (c8 s)) :=by rw[cn,auy (by omega)]; exact jC 0 _ cy
        have jX:X[2]? = some (.cells 3 [.int .i64 F,aB (some (hN s F M)),.bool false]) :=by rw[cn,auy (by omega)]; exact jC 2 _ cV
        have tv:X[3]? = some (.cells 2 [aB g.ids,bx g.ops]) :=by rw[cn,auy (by omega)]; exact jC 3 _ fy
        have Jg:X[l.length]? = some (.cells 2 [aB p.ids,bx p.ops]) :=by rw[cn]; exact auz (by omega)
        have vv:(p.ids.l.length:Int)=((F+k:Nat) :Int) :=by rw[a9]
        obtain⟨O5,adF⟩:∃ O5:Int,O5=((F+k:Nat) :Int) :=⟨_,rfl⟩
        rw[<-adF] at nz vv;simp[wl,qv,yW,a8,<-cn,Jg];refine a4 i6 (by simp[a5,U.closed,F0,J7]) ?_;by_cases bv:k<M
        ·obtain⟨x,af,cT⟩:=bI (l:=s.order.l) (k:=F+k) (by omega);have eW:=ak.order x cT;have bd:=c2 eW;have eX:=fE x;have agZ:(hN s F M)[k]? = some x:=by rw[PS s bv]; exact af
         have ds:cL (.aq 32) (aB (some (hN s F M))) (.int .i64 (k:Int))=some (.bM (aY x) 0) :=rL agZ;have UU:=(I1 (nW jM.cX.eh) jM.ord).sub x cT;rw[<-aw] at UU;obtain⟨j,ai⟩:=aur.1 UU;obtain⟨o,au,en⟩:=bI (l:=g.ops.l) (k:=j) (by rw[<-V.len]; exact (auk.1 ai).1);have lV:=hq.ops o en;have m2:=ab1 g hq Ds x eW;rw[S2 V ai au] at m2;have wh:∀ q∈o.bi.l,q∈p.ids.l:=fun q a7=>by
          rw[av]; exact aig jM af (by rw[<-aw]; exact ai) (by rw[<-aw]; exact au) q a7
         have aG:=NA V au;obtain⟨R,yc,Hl⟩:=ajc p sG a2 o.bi lV.ids (by omega) wh;have afx:ce (.aq 32) (aB R)=some (.int .i64 0) :=by simp[aB,yc]
         have aez:=dd o.bi;have fj:=dd g.ids;have dJ:=jE g.ops;have mY:(a3 o).length=11:=rfl;have kO:(a3 o)[1]? = some (aB o.bi) :=rfl;have kN:∀ h,(a3 o)[1]'h=aB o.bi:=fun _=>rfl
         have Ap:(a3 o).take 11=a3 o:=rfl;have kU:a8 [U.int .u32 0,.aH,.int .u64 0,.int .u8 0,.str [],.int .u8 0,.int .i64 0,.int .u64 0,.str [],.int .u32 0,.int .u32 0] 0 (a3 o)=a3 o:=gq rfl;obtain⟨tM,KR⟩:∃ tM,tM=aY x:=⟨_,rfl⟩
         obtain⟨Y,fY⟩:∃ Y,Y=a3 o:=⟨_,rfl⟩
         rw[<-KR] at bd eX ds m2;rw[<-fY] at mY kO Ap kU m2;simp only[<-fY] at kN;have fG:tM.take 32=tM:=aul (by omega);unfold cH bR at m2 Hl;simp[a2,Jg,gb,vv,nz,bv,jX,tv,ds,bd,fG];refine a4 m2 (by simp[a5,U.closed,fj,dJ,eX]) ?_;obtain⟨Z,Db⟩:∃ Z,Z=X++[aV.cells 11 Y] :=⟨_,rfl⟩
         have FM:∀ (i:Nat) (c:aV),X[i]? = some c->Z[i]? = some c:=fun i c h=>by rw[Db,aum (b6 h)]; exact h
         have an7:=FM l.length _ Jg;have an4:Z[X.length]? = some (.cells 11 Y) :=by rw[Db]; exact avo
         simp[kU,<-Db,an7,an4,mY,kO,kN];refine a4 Hl (by simp[a5,U.closed,F0,J7,aez]) ?_;simp[afx,e3];exact⟨by omega,FM 0 _ vh,FM 2 _ jX,FM 3 _ tv⟩
        ·simp[a2,Jg,gb,vv,nz,bv,e3];exact⟨by omega,vh,jX,tv⟩
       ·have lU:k=M+1:=by omega
        subst lU;have adP:¬ (M:Int)+1<=(M:Int) :=by omega
        have adA:mO s F M M=⟨F,some (hN s F M),false⟩:=by
         show (⟨F,some ((hN s F M).take M),false⟩:iX)=_;rw[aul (by rw[FH s ou]; exact aun _)]
        have bf:=PR ak ou (aun M);have dK:=V0 s ak (mO s F M M) bf;have Hk:=ajb s ak (mO s F M M) bf;have aeU:((mO s F M M).fo+(M:Int)).toNat=F+M:=by show ((F:Int)+(M:Int)).toNat=F+M; omega
        rw[if_pos (PQ jM ou (aun M)),FG s ou (aun M),aeU] at dK Hk;obtain⟨a2,a9,bV⟩:=MT jM (N:=F+M) ou;have sG:=VZ ak (F+M);obtain⟨p,av⟩:∃ p,p=pn s (F+M) :=⟨_,rfl⟩
        rw[<-av] at dK a2 a9 bV sG;have qv:=kp p.ids;have yW:=o3 p.ops;have K7:(.aF (fN (mO s F M M)) :U)=.aF [.int .i64 F,aB (some (hN s F M)),.bool false] :=by rw[adA]; rfl
        rw[K7] at dK Hk;have RI:=dd (some (hN s F M));have F0:=dd p.ids;have J7:=jE p.ops;have gb:ce (.aq 32) (aB p.ids)=some (.int .i64 p.ids.l.length) :=by simp[aB]
        obtain⟨Q,jh⟩:∃ Q,Q=jv s.order (F+M) :=⟨_,rfl⟩
        rw[<-jh] at Hk;have Gs:Q.l.length=s.order.l.length - (F+M) :=by rw[jh,tn,avh]
        have adX:∀ i,Q.l[i]? = s.order.l[F+M+i]?:=fun i=>by rw[jh,tn,auY]
        have Lv:ce (.aq 32) (aB Q)=some (.int .i64 Q.l.length) :=by simp[aB]
        have vW:IntKind.i64.wrap ((p.ids.l.length:Int)+(Q.l.length:Int))=(s.order.l.length:Int) :=by rw[IntKind.wrap_i64]; omega
        unfold cH bR at dK;simp[adP,cy,cV,bS,g9];refine a4 dK (by simp[a5,U.closed,g1,RI]) ?_;have jC:∀ (m:ao) (i:Nat) (c:aV),l[i]? = some c->(l++m)[i]? = some c:=fun m i c h=>by rw[aum (b6 h)]; exact h
        obtain⟨L,dA⟩:∃ L,L=l++[aV.cells 2 [aB p.ids,bx p.ops]] :=⟨_,rfl⟩
        have fU:L[0]? = some (.cells 5 (c8 s)) :=by rw[dA]; exact jC _ 0 _ cy
        have w2:L[2]? = some (.cells 3 [.int .i64 F,aB (some (hN s F M)),.bool false]) :=by rw[dA]; exact jC _ 2 _ cV
        have wl:L[l.length]? = some (.cells 2 [aB p.ids,bx p.ops]) :=by rw[dA]; exact avo
        simp[qv,yW,a8,<-dA,fU,w2,bS,g9];refine a4 Hk (by simp[a5,U.closed,g1,RI]) ?_;simp[wl,gb,Lv,fU,bS,ji,mi,cM,vW];have aqv:=b6 wl;refine cl Q.l.length (fun i σ l1=>l1=L/\σ 1=.int .i64 F/\σ 2=.int .i64 M/\σ 3=.ptr 0 0 5/\σ 7=.bool true/\σ 18=.ptr l.length 0 2/\σ 20=aB Q/\σ 22=.int .i64 i) ?_ ⟨rfl,by simp,by simp,by simp,by simp,by simp,by simp,by simp⟩;rintro i σ l1 ay ⟨rfl,aK,aU,a1,dU,nD,CM,tY⟩;obtain⟨σ,rfl⟩:=Fc aK aU a1 dU nD CM tY;clear aK aU a1 dU nD CM tY;have F4:IntKind.i64.wrap ((i:Int)+1)=((i+1:Nat) :Int) :=by rw[IntKind.wrap_i64]; omega
        by_cases dH:i<Q.l.length
        ·obtain⟨x,af,cT⟩:=bI dH;have AX:s.order.l[F+M+i]? = some x:=by rw[<-adX]; exact af
         have eW:=ak.order x (aut AX);have bd:=c2 eW;have eX:=fE x;have ds:=rL af;have lp:=rL AX;have ez:=zc p.ids sG.ids sG.li x eW;have jj:=uL x p.ids.l 0;have afW:x∉p.ids.l:=fun h=>by
          obtain⟨a,aC⟩:=aur.1 ((bV x).1 h);have hb:=(auk.1 aC).1;rw[auA] at hb;rw[auI (by omega)] at aC;have yA:=(I1 (nW jM.cX.eh) jM.ord).nU;obtain⟨c1,dx⟩:=auk.1 aC;obtain⟨d1,d2⟩:=auk.1 AX;exact avW.1 yA a (F+M+i) c1 d1 (by omega) (by rw[dx,d2])
         have afj:¬ 0<=g3 x p.ids.l 0:=fun h=>afW (jj.1 h)
         have bP:=wy eW eW;have vX:IntKind.i64.wrap ((F:Int)+(M:Int))=(F:Int)+(M:Int) :=by rw[IntKind.wrap_i64]; omega
         have bA:IntKind.i64.wrap ((F:Int)+(M:Int)+(i:Int))=((F+M+i:Nat) :Int) :=by rw[IntKind.wrap_i64]; omega
         obtain⟨tM,KR⟩:∃ tM,tM=aY x:=⟨_,rfl⟩
         rw[<-KR] at bd eX ds lp ez bP;have fG:tM.take 32=tM:=aul (by omega);obtain⟨Pe,ad5⟩:∃ Pe:Int,Pe=((F+M+i:Nat) :Int) :=⟨_,rfl⟩
         rw[<-ad5] at bA lp;simp[Lv,dH,wl,ds,bd,fG];refine a4 ez (by simp[a5,U.closed,F0,eX]) ?_;simp[afj,ds,bd,fG,fU,bS,ji,mi,vX,bA,lp,bP,F4];exact dH
        ·simp[Lv,dH]
  ·simp[ae]
end Op

end Go.b0

namespace Go.b0
open Go Go.Proofs
set_option maxRecDepth 1000000
set_option maxHeartbeats 8000000
abbrev Vt:List U:=[.int .u32 (1)]++[.aF ([.int .u32 (0)]++[.aH]++[.int .u64 (0)]++[.int .u8 1]++[.str []]++[.int .u8 0]++[cj (0)]++[.int .u64 (0)]++[.str []]++[.int .u32 (0)]++[.int .u32 (0)])]
abbrev VH:U:=.bt ([.aF ([.int .u32 (4)]++[.aH]++[.int .u64 (0)]++[.int .u8 1]++[.str []]++[.int .u8 0]++[cj (0)]++[.int .u64 (0)]++[.str []]++[.int .u32 (375582489)]++[.int .u32 (77644329)])]++[cj (0)])
theorem ahU:gy Tryz.prog GS 54 Vt VH:=
 k4 (P:=Tryz.prog) Tryz.checked.mixed bn (kf (ig.mem (eP Bm (eP pv (kn))))) kG (orc:=jq [y8,oR]) (fuel:=100000) (k:=60) (by kernel_rfl)
abbrev A5:List U:=[.aF ([.int .u32 (4)]++[.aH]++[.int .u64 (0)]++[.int .u8 1]++[.str []]++[.int .u8 0]++[cj (0)]++[.int .u64 (0)]++[.str []]++[.int .u32 (375582489)]++[.int .u32 (77644329)])]
abbrev A7:U:=cj (0)
theorem El:gy Tryz.prog GS 67 A5 A7:=
 k4 (P:=Tryz.prog) Tryz.checked.mixed bn (kf (ig.mem (eP Bm (eP pv (kn))))) kG (orc:=jq [y8,oR]) (fuel:=100000) (k:=60) (by kernel_rfl)
abbrev VC:List U:=[.aF ([.aZ 2 [[.aH]++[.aH],[.aH]++[.aH]]]++[.aH]++[cj (0)])]++[.aF ([.int .u32 (4)]++[.aH]++[.int .u64 (0)]++[.int .u8 1]++[.str []]++[.int .u8 0]++[cj (0)]++[.int .u64 (0)]++[.str []]++[.int .u32 (375582489)]++[.int .u32 (77644329)])]
abbrev VQ:U:=.bt ([.aF ([.aZ 2 [[.aH]++[.aH],[.aZ 32 [bm [33,138,136,249,119,7,166,174,108,156,48,173,162,158,214,252,180,176,246,238,229,50,220,163,240,190,222,60,6,183,72,215]]]++[.aZ 11 [[.int .u32 (4)]++[.aH]++[.int .u64 (0)]++[.int .u8 1]++[.str []]++[.int .u8 0]++[cj (0)]++[.int .u64 (0)]++[.str []]++[.int .u32 (375582489)]++[.int .u32 (77644329)]]]]]++[.aZ 32 [bm [33,138,136,249,119,7,166,174,108,156,48,173,162,158,214,252,180,176,246,238,229,50,220,163,240,190,222,60,6,183,72,215]]]++[cj (1)])]++[.aF (bm [33,138,136,249,119,7,166,174,108,156,48,173,162,158,214,252,180,176,246,238,229,50,220,163,240,190,222,60,6,183,72,215])]++[cj (0)])
theorem ah3:gy Tryz.prog GS 89 VC VQ:=
 k4 (P:=Tryz.prog) Tryz.checked.mixed bn (kf (ig.mem (eP zk (eP pv (eP (js (gM El (jA))) (kn)))))) kG (orc:=jq [ju,oR,(67,true,iT [(A5,A7)])]) (fuel:=100000) (k:=60) (by kernel_rfl)
abbrev VD:List U:=[.int .u32 (1)]++[.aF ([.int .u32 (0)]++[.aZ 32 [bm [33,138,136,249,119,7,166,174,108,156,48,173,162,158,214,252,180,176,246,238,229,50,220,163,240,190,222,60,6,183,72,215]]]++[.int .u64 (1)]++[.int .u8 1]++[.str []]++[.int .u8 0]++[cj (0)]++[.int .u64 (0)]++[.str []]++[.int .u32 (0)]++[.int .u32 (0)])]
abbrev VR:U:=.bt ([.aF ([.int .u32 (4)]++[.aZ 32 [bm [33,138,136,249,119,7,166,174,108,156,48,173,162,158,214,252,180,176,246,238,229,50,220,163,240,190,222,60,6,183,72,215]]]++[.int .u64 (1)]++[.int .u8 1]++[.str []]++[.int .u8 0]++[cj (0)]++[.int .u64 (0)]++[.str []]++[.int .u32 (369156142)]++[.int .u32 (98181620)])]++[cj (0)])
theorem ah4:gy Tryz.prog GS 54 VD VR:=
 k4 (P:=Tryz.prog) Tryz.checked.mixed bn (kf (ig.mem (eP Bm (eP pv (kn))))) kG (orc:=jq [y8,oR]) (fuel:=100000) (k:=60) (by kernel_rfl)
abbrev MM:List U:=[.aF ([.aZ 32 [bm [33,138,136,249,119,7,166,174,108,156,48,173,162,158,214,252,180,176,246,238,229,50,220,163,240,190,222,60,6,183,72,215]]]++[.aZ 11 [[.int .u32 (4)]++[.aH]++[.int .u64 (0)]++[.int .u8 1]++[.str []]++[.int .u8 0]++[cj (0)]++[.int .u64 (0)]++[.str []]++[.int .u32 (375582489)]++[.int .u32 (77644329)]]])]
abbrev MO:U:=cj (0)
theorem Vr:gy Tryz.prog GS 38 MM MO:=
 k4 (P:=Tryz.prog) Tryz.checked.mixed bn (kf (ig.mem (eP zk (eP pv (eP (js (gM El (jA))) (kn)))))) kG (orc:=jq [ju,oR,(67,true,iT [(A5,A7)])]) (fuel:=100000) (k:=60) (by kernel_rfl)
abbrev En:List U:=[.aF ([.int .u32 (4)]++[.aZ 32 [bm [33,138,136,249,119,7,166,174,108,156,48,173,162,158,214,252,180,176,246,238,229,50,220,163,240,190,222,60,6,183,72,215]]]++[.int .u64 (1)]++[.int .u8 1]++[.str []]++[.int .u8 0]++[cj (0)]++[.int .u64 (0)]++[.str []]++[.int .u32 (369156142)]++[.int .u32 (98181620)])]
abbrev Eo:U:=cj (0)
theorem HS:gy Tryz.prog GS 67 En Eo:=
 k4 (P:=Tryz.prog) Tryz.checked.mixed bn (kf (ig.mem (eP Bm (eP pv (kn))))) kG (orc:=jq [y8,oR]) (fuel:=100000) (k:=60) (by kernel_rfl)
abbrev VE:List U:=[.aF ([.aZ 2 [[.aH]++[.aH],[.aZ 32 [bm [33,138,136,249,119,7,166,174,108,156,48,173,162,158,214,252,180,176,246,238,229,50,220,163,240,190,222,60,6,183,72,215]]]++[.aZ 11 [[.int .u32 (4)]++[.aH]++[.int .u64 (0)]++[.int .u8 1]++[.str []]++[.int .u8 0]++[cj (0)]++[.int .u64 (0)]++[.str []]++[.int .u32 (375582489)]++[.int .u32 (77644329)]]]]]++[.aZ 32 [bm [33,138,136,249,119,7,166,174,108,156,48,173,162,158,214,252,180,176,246,238,229,50,220,163,240,190,222,60,6,183,72,215]]]++[cj (1)])]++[.aF ([.int .u32 (4)]++[.aZ 32 [bm [33,138,136,249,119,7,166,174,108,156,48,173,162,158,214,252,180,176,246,238,229,50,220,163,240,190,222,60,6,183,72,215]]]++[.int .u64 (1)]++[.int .u8 1]++[.str []]++[.int .u8 0]++[cj (0)]++[.int .u64 (0)]++[.str []]++[.int .u32 (369156142)]++[.int .u32 (98181620)])]
abbrev VS:U:=.bt ([.aF ([.aZ 2 [[.aH]++[.aH],[.aZ 32 [bm [33,138,136,249,119,7,166,174,108,156,48,173,162,158,214,252,180,176,246,238,229,50,220,163,240,190,222,60,6,183,72,215],bm [159,159,144,10,126,197,229,161,56,119,100,163,139,39,106,165,103,68,156,120,35,140,96,174,41,101,13,25,73,98,29,181]]]++[.aZ 11 [[.int .u32 (4)]++[.aH]++[.int .u64 (0)]++[.int .u8 1]++[.str []]++[.int .u8 0]++[cj (0)]++[.int .u64 (0)]++[.str []]++[.int .u32 (375582489)]++[.int .u32 (77644329)],[.int .u32 (4)]++[.aZ 32 [bm [33,138,136,249,119,7,166,174,108,156,48,173,162,158,214,252,180,176,246,238,229,50,220,163,240,190,222,60,6,183,72,215]]]++[.int .u64 (1)]++[.int .u8 1]++[.str []]++[.int .u8 0]++[cj (0)]++[.int .u64 (0)]++[.str []]++[.int .u32 (369156142)]++[.int .u32 (98181620)]]]]]++[.aZ 32 [bm [159,159,144,10,126,197,229,161,56,119,100,163,139,39,106,165,103,68,156,120,35,140,96,174,41,101,13,25,73,98,29,181]]]++[cj (2)])]++[.aF (bm [159,159,144,10,126,197,229,161,56,119,100,163,139,39,106,165,103,68,156,120,35,140,96,174,41,101,13,25,73,98,29,181])]++[cj (0)])
theorem ah5:gy Tryz.prog GS 89 VE VS:=
 k4 (P:=Tryz.prog) Tryz.checked.mixed bn (kf (ig.mem (eP zk (eP pv (eP (js (gM HS (jA))) (eP (js (gM Vr (jA))) (kn))))))) kG (orc:=jq [ju,oR,(67,true,iT [(En,Eo)]),(38,true,iT [(MM,MO)])]) (fuel:=100000) (k:=60) (by kernel_rfl)
abbrev VF:List U:=[.int .u32 (1)]++[.aF ([.int .u32 (0)]++[.aZ 32 [bm [159,159,144,10,126,197,229,161,56,119,100,163,139,39,106,165,103,68,156,120,35,140,96,174,41,101,13,25,73,98,29,181]]]++[.int .u64 (2)]++[.int .u8 1]++[.str []]++[.int .u8 0]++[cj (0)]++[.int .u64 (0)]++[.str []]++[.int .u32 (0)]++[.int .u32 (0)])]
abbrev VT:U:=.bt ([.aF ([.int .u32 (4)]++[.aZ 32 [bm [159,159,144,10,126,197,229,161,56,119,100,163,139,39,106,165,103,68,156,120,35,140,96,174,41,101,13,25,73,98,29,181]]]++[.int .u64 (2)]++[.int .u8 1]++[.str []]++[.int .u8 0]++[cj (0)]++[.int .u64 (0)]++[.str []]++[.int .u32 (399518125)]++[.int .u32 (73226087)])]++[cj (0)])
theorem ah6:gy Tryz.prog GS 54 VF VT:=
 k4 (P:=Tryz.prog) Tryz.checked.mixed bn (kf (ig.mem (eP Bm (eP pv (kn))))) kG (orc:=jq [y8,oR]) (fuel:=100000) (k:=60) (by kernel_rfl)
abbrev MN:List U:=[.aF ([.aZ 32 [bm [33,138,136,249,119,7,166,174,108,156,48,173,162,158,214,252,180,176,246,238,229,50,220,163,240,190,222,60,6,183,72,215],bm [159,159,144,10,126,197,229,161,56,119,100,163,139,39,106,165,103,68,156,120,35,140,96,174,41,101,13,25,73,98,29,181]]]++[.aZ 11 [[.int .u32 (4)]++[.aH]++[.int .u64 (0)]++[.int .u8 1]++[.str []]++[.int .u8 0]++[cj (0)]++[.int .u64 (0)]++[.str []]++[.int .u32 (375582489)]++[.int .u32 (77644329)],[.int .u32 (4)]++[.aZ 32 [bm [33,138,136,249,119,7,166,174,108,156,48,173,162,158,214,252,180,176,246,238,229,50,220,163,240,190,222,60,6,183,72,215]]]++[.int .u64 (1)]++[.int .u8 1]++[.str []]++[.int .u8 0]++[cj (0)]++[.int .u64 (0)]++[.str []]++[.int .u32 (369156142)]++[.int .u32 (98181620)]]])]
abbrev MP:U:=cj (0)
theorem Vs:gy Tryz.prog GS 38 MN MP:=
 k4 (P:=Tryz.prog) Tryz.checked.mixed bn (kf (ig.mem (eP zk (eP pv (eP (js (gM El (gM HS (jA)))) (kn)))))) kG (orc:=jq [ju,oR,(67,true,iT [(A5,A7),(En,Eo)])]) (fuel:=100000) (k:=60) (by kernel_rfl)
abbrev VG:List U:=[.aF ([cj (5)]++[.aZ 2 [[.aH]++[.aH],[.aZ 32 [bm [33,138,136,249,119,7,166,174,108,156,48,173,162,158,214,252,180,176,246,238,229,50,220,163,240,190,222,60,6,183,72,215],bm [159,159,144,10,126,197,229,161,56,119,100,163,139,39,106,165,103,68,156,120,35,140,96,174,41,101,13,25,73,98,29,181]]]++[.aZ 11 [[.int .u32 (4)]++[.aH]++[.int .u64 (0)]++[.int .u8 1]++[.str []]++[.int .u8 0]++[cj (0)]++[.int .u64 (0)]++[.str []]++[.int .u32 (375582489)]++[.int .u32 (77644329)],[.int .u32 (4)]++[.aZ 32 [bm [33,138,136,249,119,7,166,174,108,156,48,173,162,158,214,252,180,176,246,238,229,50,220,163,240,190,222,60,6,183,72,215]]]++[.int .u64 (1)]++[.int .u8 1]++[.str []]++[.int .u8 0]++[cj (0)]++[.int .u64 (0)]++[.str []]++[.int .u32 (369156142)]++[.int .u32 (98181620)]]]]]++[.aZ 32 [bm [159,159,144,10,126,197,229,161,56,119,100,163,139,39,106,165,103,68,156,120,35,140,96,174,41,101,13,25,73,98,29,181]]]++[cj (2)]++[.aZ 32 [bm [33,138,136,249,119,7,166,174,108,156,48,173,162,158,214,252,180,176,246,238,229,50,220,163,240,190,222,60,6,183,72,215],bm [159,159,144,10,126,197,229,161,56,119,100,163,139,39,106,165,103,68,156,120,35,140,96,174,41,101,13,25,73,98,29,181]]])]
abbrev VU:U:=.bt ([.aF ([.aZ 32 [bm [33,138,136,249,119,7,166,174,108,156,48,173,162,158,214,252,180,176,246,238,229,50,220,163,240,190,222,60,6,183,72,215],bm [159,159,144,10,126,197,229,161,56,119,100,163,139,39,106,165,103,68,156,120,35,140,96,174,41,101,13,25,73,98,29,181]]]++[.aZ 11 [[.int .u32 (4)]++[.aH]++[.int .u64 (0)]++[.int .u8 1]++[.str []]++[.int .u8 0]++[cj (0)]++[.int .u64 (0)]++[.str []]++[.int .u32 (375582489)]++[.int .u32 (77644329)],[.int .u32 (4)]++[.aZ 32 [bm [33,138,136,249,119,7,166,174,108,156,48,173,162,158,214,252,180,176,246,238,229,50,220,163,240,190,222,60,6,183,72,215]]]++[.int .u64 (1)]++[.int .u8 1]++[.str []]++[.int .u8 0]++[cj (0)]++[.int .u64 (0)]++[.str []]++[.int .u32 (369156142)]++[.int .u32 (98181620)]]])]++[cj (0)])
theorem ah7:gy Tryz.prog GS 66 VG VU:=
 k4 (P:=Tryz.prog) Tryz.checked.mixed bn (kf (ig.mem (eP (js (gM Vs (jA))) (kn)))) kG (orc:=jq [(38,true,iT [(MN,MP)])]) (fuel:=100000) (k:=60) (by kernel_rfl)
abbrev HT:List U:=[.aF ([.int .u32 (4)]++[.aZ 32 [bm [159,159,144,10,126,197,229,161,56,119,100,163,139,39,106,165,103,68,156,120,35,140,96,174,41,101,13,25,73,98,29,181]]]++[.int .u64 (2)]++[.int .u8 1]++[.str []]++[.int .u8 0]++[cj (0)]++[.int .u64 (0)]++[.str []]++[.int .u32 (399518125)]++[.int .u32 (73226087)])]
abbrev HU:U:=cj (0)
theorem ML:gy Tryz.prog GS 67 HT HU:=
 k4 (P:=Tryz.prog) Tryz.checked.mixed bn (kf (ig.mem (eP Bm (eP pv (kn))))) kG (orc:=jq [y8,oR]) (fuel:=100000) (k:=60) (by kernel_rfl)
abbrev Vu:List U:=[.aF ([.aZ 2 [[.aH]++[.aH],[.aZ 32 [bm [33,138,136,249,119,7,166,174,108,156,48,173,162,158,214,252,180,176,246,238,229,50,220,163,240,190,222,60,6,183,72,215],bm [159,159,144,10,126,197,229,161,56,119,100,163,139,39,106,165,103,68,156,120,35,140,96,174,41,101,13,25,73,98,29,181]]]++[.aZ 11 [[.int .u32 (4)]++[.aH]++[.int .u64 (0)]++[.int .u8 1]++[.str []]++[.int .u8 0]++[cj (0)]++[.int .u64 (0)]++[.str []]++[.int .u32 (375582489)]++[.int .u32 (77644329)],[.int .u32 (4)]++[.aZ 32 [bm [33,138,136,249,119,7,166,174,108,156,48,173,162,158,214,252,180,176,246,238,229,50,220,163,240,190,222,60,6,183,72,215]]]++[.int .u64 (1)]++[.int .u8 1]++[.str []]++[.int .u8 0]++[cj (0)]++[.int .u64 (0)]++[.str []]++[.int .u32 (369156142)]++[.int .u32 (98181620)]]]]]++[.aZ 32 [bm [159,159,144,10,126,197,229,161,56,119,100,163,139,39,106,165,103,68,156,120,35,140,96,174,41,101,13,25,73,98,29,181]]]++[cj (2)])]++[.aF ([.int .u32 (4)]++[.aZ 32 [bm [159,159,144,10,126,197,229,161,56,119,100,163,139,39,106,165,103,68,156,120,35,140,96,174,41,101,13,25,73,98,29,181]]]++[.int .u64 (2)]++[.int .u8 1]++[.str []]++[.int .u8 0]++[cj (0)]++[.int .u64 (0)]++[.str []]++[.int .u32 (399518125)]++[.int .u32 (73226087)])]
abbrev VI:U:=.bt ([.aF ([.aZ 2 [[.aZ 32 [bm [188,32,255,92,50,181,29,72,207,227,24,208,108,216,1,205,251,81,111,92,73,125,144,207,236,242,11,184,192,246,10,73]]]++[.aZ 11 [[.int .u32 (4)]++[.aZ 32 [bm [159,159,144,10,126,197,229,161,56,119,100,163,139,39,106,165,103,68,156,120,35,140,96,174,41,101,13,25,73,98,29,181]]]++[.int .u64 (2)]++[.int .u8 1]++[.str []]++[.int .u8 0]++[cj (0)]++[.int .u64 (0)]++[.str []]++[.int .u32 (399518125)]++[.int .u32 (73226087)]]],[.aZ 32 [bm [33,138,136,249,119,7,166,174,108,156,48,173,162,158,214,252,180,176,246,238,229,50,220,163,240,190,222,60,6,183,72,215],bm [159,159,144,10,126,197,229,161,56,119,100,163,139,39,106,165,103,68,156,120,35,140,96,174,41,101,13,25,73,98,29,181]]]++[.aZ 11 [[.int .u32 (4)]++[.aH]++[.int .u64 (0)]++[.int .u8 1]++[.str []]++[.int .u8 0]++[cj (0)]++[.int .u64 (0)]++[.str []]++[.int .u32 (375582489)]++[.int .u32 (77644329)],[.int .u32 (4)]++[.aZ 32 [bm [33,138,136,249,119,7,166,174,108,156,48,173,162,158,214,252,180,176,246,238,229,50,220,163,240,190,222,60,6,183,72,215]]]++[.int .u64 (1)]++[.int .u8 1]++[.str []]++[.int .u8 0]++[cj (0)]++[.int .u64 (0)]++[.str []]++[.int .u32 (369156142)]++[.int .u32 (98181620)]]]]]++[.aZ 32 [bm [188,32,255,92,50,181,29,72,207,227,24,208,108,216,1,205,251,81,111,92,73,125,144,207,236,242,11,184,192,246,10,73]]]++[cj (3)])]++[.aF (bm [188,32,255,92,50,181,29,72,207,227,24,208,108,216,1,205,251,81,111,92,73,125,144,207,236,242,11,184,192,246,10,73])]++[cj (0)])
theorem ahV:gy Tryz.prog GS 89 Vu VI:=
 k4 (P:=Tryz.prog) Tryz.checked.mixed bn (kf (ig.mem (eP zk (eP pv (eP (js (gM ML (jA))) (eP (js (gM Vs (jA))) (kn))))))) kG (orc:=jq [ju,oR,(67,true,iT [(HT,HU)]),(38,true,iT [(MN,MP)])]) (fuel:=100000) (k:=60) (by kernel_rfl)
abbrev Vv:List U:=[cj (1)]++[cj (0)]++[.aZ 32 [bm [33,138,136,249,119,7,166,174,108,156,48,173,162,158,214,252,180,176,246,238,229,50,220,163,240,190,222,60,6,183,72,215],bm [159,159,144,10,126,197,229,161,56,119,100,163,139,39,106,165,103,68,156,120,35,140,96,174,41,101,13,25,73,98,29,181],bm [188,32,255,92,50,181,29,72,207,227,24,208,108,216,1,205,251,81,111,92,73,125,144,207,236,242,11,184,192,246,10,73]]]++[.aZ 1 (hG ([.bool false]++[.bool false]++[.bool true]++[.bool true]))]
abbrev VJ:U:=.bt ([.aF ([cj (0)]++[.aZ 32 [bm [33,138,136,249,119,7,166,174,108,156,48,173,162,158,214,252,180,176,246,238,229,50,220,163,240,190,222,60,6,183,72,215]]]++[.bool true])]++[cj (0)])
theorem ahW:gy Tryz.prog GS 27 Vv VJ:=
 k4 (P:=Tryz.prog) Tryz.checked.mixed bn (kf (ig.mem (kn))) kG (orc:=jq []) (fuel:=100000) (k:=60) (by kernel_rfl)
abbrev Vw:List U:=[.aF ([.aZ 32 [bm [33,138,136,249,119,7,166,174,108,156,48,173,162,158,214,252,180,176,246,238,229,50,220,163,240,190,222,60,6,183,72,215],bm [159,159,144,10,126,197,229,161,56,119,100,163,139,39,106,165,103,68,156,120,35,140,96,174,41,101,13,25,73,98,29,181],bm [188,32,255,92,50,181,29,72,207,227,24,208,108,216,1,205,251,81,111,92,73,125,144,207,236,242,11,184,192,246,10,73]]]++[.aZ 11 [[.int .u32 (4)]++[.aH]++[.int .u64 (0)]++[.int .u8 1]++[.str []]++[.int .u8 0]++[cj (0)]++[.int .u64 (0)]++[.str []]++[.int .u32 (375582489)]++[.int .u32 (77644329)],[.int .u32 (4)]++[.aZ 32 [bm [33,138,136,249,119,7,166,174,108,156,48,173,162,158,214,252,180,176,246,238,229,50,220,163,240,190,222,60,6,183,72,215]]]++[.int .u64 (1)]++[.int .u8 1]++[.str []]++[.int .u8 0]++[cj (0)]++[.int .u64 (0)]++[.str []]++[.int .u32 (369156142)]++[.int .u32 (98181620)],[.int .u32 (4)]++[.aZ 32 [bm [159,159,144,10,126,197,229,161,56,119,100,163,139,39,106,165,103,68,156,120,35,140,96,174,41,101,13,25,73,98,29,181]]]++[.int .u64 (2)]++[.int .u8 1]++[.str []]++[.int .u8 0]++[cj (0)]++[.int .u64 (0)]++[.str []]++[.int .u32 (399518125)]++[.int .u32 (73226087)]]])]
abbrev VK:U:=cj (0)
theorem ahX:gy Tryz.prog GS 38 Vw VK:=
 k4 (P:=Tryz.prog) Tryz.checked.mixed bn (kf (ig.mem (eP zk (eP pv (eP (js (gM El (gM HS (gM ML (jA))))) (kn)))))) kG (orc:=jq [ju,oR,(67,true,iT [(A5,A7),(En,Eo),(HT,HU)])]) (fuel:=100000) (k:=60) (by kernel_rfl)
abbrev A6:List U:=[.aF ([.aZ 2 [[.aZ 32 [bm [188,32,255,92,50,181,29,72,207,227,24,208,108,216,1,205,251,81,111,92,73,125,144,207,236,242,11,184,192,246,10,73]]]++[.aZ 11 [[.int .u32 (4)]++[.aZ 32 [bm [159,159,144,10,126,197,229,161,56,119,100,163,139,39,106,165,103,68,156,120,35,140,96,174,41,101,13,25,73,98,29,181]]]++[.int .u64 (2)]++[.int .u8 1]++[.str []]++[.int .u8 0]++[cj (0)]++[.int .u64 (0)]++[.str []]++[.int .u32 (399518125)]++[.int .u32 (73226087)]]],[.aZ 32 [bm [33,138,136,249,119,7,166,174,108,156,48,173,162,158,214,252,180,176,246,238,229,50,220,163,240,190,222,60,6,183,72,215],bm [159,159,144,10,126,197,229,161,56,119,100,163,139,39,106,165,103,68,156,120,35,140,96,174,41,101,13,25,73,98,29,181]]]++[.aZ 11 [[.int .u32 (4)]++[.aH]++[.int .u64 (0)]++[.int .u8 1]++[.str []]++[.int .u8 0]++[cj (0)]++[.int .u64 (0)]++[.str []]++[.int .u32 (375582489)]++[.int .u32 (77644329)],[.int .u32 (4)]++[.aZ 32 [bm [33,138,136,249,119,7,166,174,108,156,48,173,162,158,214,252,180,176,246,238,229,50,220,163,240,190,222,60,6,183,72,215]]]++[.int .u64 (1)]++[.int .u8 1]++[.str []]++[.int .u8 0]++[cj (0)]++[.int .u64 (0)]++[.str []]++[.int .u32 (369156142)]++[.int .u32 (98181620)]]]]]++[.aZ 32 [bm [188,32,255,92,50,181,29,72,207,227,24,208,108,216,1,205,251,81,111,92,73,125,144,207,236,242,11,184,192,246,10,73]]]++[cj (3)])]
abbrev A8:U:=.bt ([.aF ([.aZ 32 [bm [33,138,136,249,119,7,166,174,108,156,48,173,162,158,214,252,180,176,246,238,229,50,220,163,240,190,222,60,6,183,72,215],bm [159,159,144,10,126,197,229,161,56,119,100,163,139,39,106,165,103,68,156,120,35,140,96,174,41,101,13,25,73,98,29,181],bm [188,32,255,92,50,181,29,72,207,227,24,208,108,216,1,205,251,81,111,92,73,125,144,207,236,242,11,184,192,246,10,73]]]++[.aZ 11 [[.int .u32 (4)]++[.aH]++[.int .u64 (0)]++[.int .u8 1]++[.str []]++[.int .u8 0]++[cj (0)]++[.int .u64 (0)]++[.str []]++[.int .u32 (375582489)]++[.int .u32 (77644329)],[.int .u32 (4)]++[.aZ 32 [bm [33,138,136,249,119,7,166,174,108,156,48,173,162,158,214,252,180,176,246,238,229,50,220,163,240,190,222,60,6,183,72,215]]]++[.int .u64 (1)]++[.int .u8 1]++[.str []]++[.int .u8 0]++[cj (0)]++[.int .u64 (0)]++[.str []]++[.int .u32 (369156142)]++[.int .u32 (98181620)],[.int .u32 (4)]++[.aZ 32 [bm [159,159,144,10,126,197,229,161,56,119,100,163,139,39,106,165,103,68,156,120,35,140,96,174,41,101,13,25,73,98,29,181]]]++[.int .u64 (2)]++[.int .u8 1]++[.str []]++[.int .u8 0]++[cj (0)]++[.int .u64 (0)]++[.str []]++[.int .u32 (399518125)]++[.int .u32 (73226087)]]])]++[cj (0)])
theorem Em:gy Tryz.prog GS 134 A6 A8:=
 k4 (P:=Tryz.prog) Tryz.checked.mixed bn (kf (ig.mem (eP (js (gM ahX (jA))) (kn)))) kG (orc:=jq [(38,true,iT [(Vw,VK)])]) (fuel:=100000) (k:=60) (by kernel_rfl)
abbrev Vx:List U:=[.aF ([cj (5)]++[.aZ 2 [[.aZ 32 [bm [188,32,255,92,50,181,29,72,207,227,24,208,108,216,1,205,251,81,111,92,73,125,144,207,236,242,11,184,192,246,10,73]]]++[.aZ 11 [[.int .u32 (4)]++[.aZ 32 [bm [159,159,144,10,126,197,229,161,56,119,100,163,139,39,106,165,103,68,156,120,35,140,96,174,41,101,13,25,73,98,29,181]]]++[.int .u64 (2)]++[.int .u8 1]++[.str []]++[.int .u8 0]++[cj (0)]++[.int .u64 (0)]++[.str []]++[.int .u32 (399518125)]++[.int .u32 (73226087)]]],[.aZ 32 [bm [33,138,136,249,119,7,166,174,108,156,48,173,162,158,214,252,180,176,246,238,229,50,220,163,240,190,222,60,6,183,72,215],bm [159,159,144,10,126,197,229,161,56,119,100,163,139,39,106,165,103,68,156,120,35,140,96,174,41,101,13,25,73,98,29,181]]]++[.aZ 11 [[.int .u32 (4)]++[.aH]++[.int .u64 (0)]++[.int .u8 1]++[.str []]++[.int .u8 0]++[cj (0)]++[.int .u64 (0)]++[.str []]++[.int .u32 (375582489)]++[.int .u32 (77644329)],[.int .u32 (4)]++[.aZ 32 [bm [33,138,136,249,119,7,166,174,108,156,48,173,162,158,214,252,180,176,246,238,229,50,220,163,240,190,222,60,6,183,72,215]]]++[.int .u64 (1)]++[.int .u8 1]++[.str []]++[.int .u8 0]++[cj (0)]++[.int .u64 (0)]++[.str []]++[.int .u32 (369156142)]++[.int .u32 (98181620)]]]]]++[.aZ 32 [bm [188,32,255,92,50,181,29,72,207,227,24,208,108,216,1,205,251,81,111,92,73,125,144,207,236,242,11,184,192,246,10,73]]]++[cj (3)]++[.aZ 32 [bm [33,138,136,249,119,7,166,174,108,156,48,173,162,158,214,252,180,176,246,238,229,50,220,163,240,190,222,60,6,183,72,215],bm [159,159,144,10,126,197,229,161,56,119,100,163,139,39,106,165,103,68,156,120,35,140,96,174,41,101,13,25,73,98,29,181],bm [188,32,255,92,50,181,29,72,207,227,24,208,108,216,1,205,251,81,111,92,73,125,144,207,236,242,11,184,192,246,10,73]]])]++[.aF ([cj (1)]++[.aZ 32 [bm [159,159,144,10,126,197,229,161,56,119,100,163,139,39,106,165,103,68,156,120,35,140,96,174,41,101,13,25,73,98,29,181]]]++[.bool false])]
abbrev VL:U:=.bool true
theorem ahY:gy Tryz.prog GS 26 Vx VL:=
 k4 (P:=Tryz.prog) Tryz.checked.mixed bn (kf (ig.mem (eP (js (gM Em (jA))) (kn)))) kG (orc:=jq [(134,true,iT [(A6,A8)])]) (fuel:=100000) (k:=60) (by kernel_rfl)
abbrev Vy:List U:=[.aF ([cj (5)]++[.aZ 2 [[.aZ 32 [bm [188,32,255,92,50,181,29,72,207,227,24,208,108,216,1,205,251,81,111,92,73,125,144,207,236,242,11,184,192,246,10,73]]]++[.aZ 11 [[.int .u32 (4)]++[.aZ 32 [bm [159,159,144,10,126,197,229,161,56,119,100,163,139,39,106,165,103,68,156,120,35,140,96,174,41,101,13,25,73,98,29,181]]]++[.int .u64 (2)]++[.int .u8 1]++[.str []]++[.int .u8 0]++[cj (0)]++[.int .u64 (0)]++[.str []]++[.int .u32 (399518125)]++[.int .u32 (73226087)]]],[.aZ 32 [bm [33,138,136,249,119,7,166,174,108,156,48,173,162,158,214,252,180,176,246,238,229,50,220,163,240,190,222,60,6,183,72,215],bm [159,159,144,10,126,197,229,161,56,119,100,163,139,39,106,165,103,68,156,120,35,140,96,174,41,101,13,25,73,98,29,181]]]++[.aZ 11 [[.int .u32 (4)]++[.aH]++[.int .u64 (0)]++[.int .u8 1]++[.str []]++[.int .u8 0]++[cj (0)]++[.int .u64 (0)]++[.str []]++[.int .u32 (375582489)]++[.int .u32 (77644329)],[.int .u32 (4)]++[.aZ 32 [bm [33,138,136,249,119,7,166,174,108,156,48,173,162,158,214,252,180,176,246,238,229,50,220,163,240,190,222,60,6,183,72,215]]]++[.int .u64 (1)]++[.int .u8 1]++[.str []]++[.int .u8 0]++[cj (0)]++[.int .u64 (0)]++[.str []]++[.int .u32 (369156142)]++[.int .u32 (98181620)]]]]]++[.aZ 32 [bm [188,32,255,92,50,181,29,72,207,227,24,208,108,216,1,205,251,81,111,92,73,125,144,207,236,242,11,184,192,246,10,73]]]++[cj (3)]++[.aZ 32 [bm [33,138,136,249,119,7,166,174,108,156,48,173,162,158,214,252,180,176,246,238,229,50,220,163,240,190,222,60,6,183,72,215],bm [159,159,144,10,126,197,229,161,56,119,100,163,139,39,106,165,103,68,156,120,35,140,96,174,41,101,13,25,73,98,29,181],bm [188,32,255,92,50,181,29,72,207,227,24,208,108,216,1,205,251,81,111,92,73,125,144,207,236,242,11,184,192,246,10,73]]])]++[.aF ([cj (1)]++[.aZ 32 [bm [159,159,144,10,126,197,229,161,56,119,100,163,139,39,106,165,103,68,156,120,35,140,96,174,41,101,13,25,73,98,29,181],bm [188,32,255,92,50,181,29,72,207,227,24,208,108,216,1,205,251,81,111,92,73,125,144,207,236,242,11,184,192,246,10,73]]]++[.bool false])]
abbrev VM:U:=.bool true
theorem ahZ:gy Tryz.prog GS 26 Vy VM:=
 k4 (P:=Tryz.prog) Tryz.checked.mixed bn (kf (ig.mem (eP (js (gM Em (jA))) (kn)))) kG (orc:=jq [(134,true,iT [(A6,A8)])]) (fuel:=100000) (k:=60) (by kernel_rfl)
abbrev Vz:List U:=[.aF ([cj (5)]++[.aZ 2 [[.aZ 32 [bm [188,32,255,92,50,181,29,72,207,227,24,208,108,216,1,205,251,81,111,92,73,125,144,207,236,242,11,184,192,246,10,73]]]++[.aZ 11 [[.int .u32 (4)]++[.aZ 32 [bm [159,159,144,10,126,197,229,161,56,119,100,163,139,39,106,165,103,68,156,120,35,140,96,174,41,101,13,25,73,98,29,181]]]++[.int .u64 (2)]++[.int .u8 1]++[.str []]++[.int .u8 0]++[cj (0)]++[.int .u64 (0)]++[.str []]++[.int .u32 (399518125)]++[.int .u32 (73226087)]]],[.aZ 32 [bm [33,138,136,249,119,7,166,174,108,156,48,173,162,158,214,252,180,176,246,238,229,50,220,163,240,190,222,60,6,183,72,215],bm [159,159,144,10,126,197,229,161,56,119,100,163,139,39,106,165,103,68,156,120,35,140,96,174,41,101,13,25,73,98,29,181]]]++[.aZ 11 [[.int .u32 (4)]++[.aH]++[.int .u64 (0)]++[.int .u8 1]++[.str []]++[.int .u8 0]++[cj (0)]++[.int .u64 (0)]++[.str []]++[.int .u32 (375582489)]++[.int .u32 (77644329)],[.int .u32 (4)]++[.aZ 32 [bm [33,138,136,249,119,7,166,174,108,156,48,173,162,158,214,252,180,176,246,238,229,50,220,163,240,190,222,60,6,183,72,215]]]++[.int .u64 (1)]++[.int .u8 1]++[.str []]++[.int .u8 0]++[cj (0)]++[.int .u64 (0)]++[.str []]++[.int .u32 (369156142)]++[.int .u32 (98181620)]]]]]++[.aZ 32 [bm [188,32,255,92,50,181,29,72,207,227,24,208,108,216,1,205,251,81,111,92,73,125,144,207,236,242,11,184,192,246,10,73]]]++[cj (3)]++[.aZ 32 [bm [33,138,136,249,119,7,166,174,108,156,48,173,162,158,214,252,180,176,246,238,229,50,220,163,240,190,222,60,6,183,72,215],bm [159,159,144,10,126,197,229,161,56,119,100,163,139,39,106,165,103,68,156,120,35,140,96,174,41,101,13,25,73,98,29,181],bm [188,32,255,92,50,181,29,72,207,227,24,208,108,216,1,205,251,81,111,92,73,125,144,207,236,242,11,184,192,246,10,73]]])]++[.aF ([cj (3)]++[.aH]++[.bool false])]
abbrev VN:U:=.bool true
theorem ah0:gy Tryz.prog GS 26 Vz VN:=
 k4 (P:=Tryz.prog) Tryz.checked.mixed bn (kf (ig.mem (eP (js (gM Em (jA))) (kn)))) kG (orc:=jq [(134,true,iT [(A6,A8)])]) (fuel:=100000) (k:=60) (by kernel_rfl)
abbrev VA:List U:=[.aF ([cj (5)]++[.aZ 2 [[.aZ 32 [bm [188,32,255,92,50,181,29,72,207,227,24,208,108,216,1,205,251,81,111,92,73,125,144,207,236,242,11,184,192,246,10,73]]]++[.aZ 11 [[.int .u32 (4)]++[.aZ 32 [bm [159,159,144,10,126,197,229,161,56,119,100,163,139,39,106,165,103,68,156,120,35,140,96,174,41,101,13,25,73,98,29,181]]]++[.int .u64 (2)]++[.int .u8 1]++[.str []]++[.int .u8 0]++[cj (0)]++[.int .u64 (0)]++[.str []]++[.int .u32 (399518125)]++[.int .u32 (73226087)]]],[.aZ 32 [bm [33,138,136,249,119,7,166,174,108,156,48,173,162,158,214,252,180,176,246,238,229,50,220,163,240,190,222,60,6,183,72,215],bm [159,159,144,10,126,197,229,161,56,119,100,163,139,39,106,165,103,68,156,120,35,140,96,174,41,101,13,25,73,98,29,181]]]++[.aZ 11 [[.int .u32 (4)]++[.aH]++[.int .u64 (0)]++[.int .u8 1]++[.str []]++[.int .u8 0]++[cj (0)]++[.int .u64 (0)]++[.str []]++[.int .u32 (375582489)]++[.int .u32 (77644329)],[.int .u32 (4)]++[.aZ 32 [bm [33,138,136,249,119,7,166,174,108,156,48,173,162,158,214,252,180,176,246,238,229,50,220,163,240,190,222,60,6,183,72,215]]]++[.int .u64 (1)]++[.int .u8 1]++[.str []]++[.int .u8 0]++[cj (0)]++[.int .u64 (0)]++[.str []]++[.int .u32 (369156142)]++[.int .u32 (98181620)]]]]]++[.aZ 32 [bm [188,32,255,92,50,181,29,72,207,227,24,208,108,216,1,205,251,81,111,92,73,125,144,207,236,242,11,184,192,246,10,73]]]++[cj (3)]++[.aZ 32 [bm [33,138,136,249,119,7,166,174,108,156,48,173,162,158,214,252,180,176,246,238,229,50,220,163,240,190,222,60,6,183,72,215],bm [159,159,144,10,126,197,229,161,56,119,100,163,139,39,106,165,103,68,156,120,35,140,96,174,41,101,13,25,73,98,29,181],bm [188,32,255,92,50,181,29,72,207,227,24,208,108,216,1,205,251,81,111,92,73,125,144,207,236,242,11,184,192,246,10,73]]])]++[.aF ([cj (1)]++[.aZ 32 [bm [188,32,255,92,50,181,29,72,207,227,24,208,108,216,1,205,251,81,111,92,73,125,144,207,236,242,11,184,192,246,10,73]]]++[.bool false])]++[cj (0)]
abbrev VO:U:=.bool true
theorem ah1:gy Tryz.prog GS 25 VA VO:=
 k4 (P:=Tryz.prog) Tryz.checked.mixed bn (kf (ig.mem (eP (js (gM Em (jA))) (kn)))) kG (orc:=jq [(134,true,iT [(A6,A8)])]) (fuel:=100000) (k:=60) (by kernel_rfl)
abbrev VB:List U:=[.aF ([cj (5)]++[.aZ 2 [[.aZ 32 [bm [188,32,255,92,50,181,29,72,207,227,24,208,108,216,1,205,251,81,111,92,73,125,144,207,236,242,11,184,192,246,10,73]]]++[.aZ 11 [[.int .u32 (4)]++[.aZ 32 [bm [159,159,144,10,126,197,229,161,56,119,100,163,139,39,106,165,103,68,156,120,35,140,96,174,41,101,13,25,73,98,29,181]]]++[.int .u64 (2)]++[.int .u8 1]++[.str []]++[.int .u8 0]++[cj (0)]++[.int .u64 (0)]++[.str []]++[.int .u32 (399518125)]++[.int .u32 (73226087)]]],[.aZ 32 [bm [33,138,136,249,119,7,166,174,108,156,48,173,162,158,214,252,180,176,246,238,229,50,220,163,240,190,222,60,6,183,72,215],bm [159,159,144,10,126,197,229,161,56,119,100,163,139,39,106,165,103,68,156,120,35,140,96,174,41,101,13,25,73,98,29,181]]]++[.aZ 11 [[.int .u32 (4)]++[.aH]++[.int .u64 (0)]++[.int .u8 1]++[.str []]++[.int .u8 0]++[cj (0)]++[.int .u64 (0)]++[.str []]++[.int .u32 (375582489)]++[.int .u32 (77644329)],[.int .u32 (4)]++[.aZ 32 [bm [33,138,136,249,119,7,166,174,108,156,48,173,162,158,214,252,180,176,246,238,229,50,220,163,240,190,222,60,6,183,72,215]]]++[.int .u64 (1)]++[.int .u8 1]++[.str []]++[.int .u8 0]++[cj (0)]++[.int .u64 (0)]++[.str []]++[.int .u32 (369156142)]++[.int .u32 (98181620)]]]]]++[.aZ 32 [bm [188,32,255,92,50,181,29,72,207,227,24,208,108,216,1,205,251,81,111,92,73,125,144,207,236,242,11,184,192,246,10,73]]]++[cj (3)]++[.aZ 32 [bm [33,138,136,249,119,7,166,174,108,156,48,173,162,158,214,252,180,176,246,238,229,50,220,163,240,190,222,60,6,183,72,215],bm [159,159,144,10,126,197,229,161,56,119,100,163,139,39,106,165,103,68,156,120,35,140,96,174,41,101,13,25,73,98,29,181],bm [188,32,255,92,50,181,29,72,207,227,24,208,108,216,1,205,251,81,111,92,73,125,144,207,236,242,11,184,192,246,10,73]]])]++[.aF ([cj (2)]++[.aZ 32 [bm [188,32,255,92,50,181,29,72,207,227,24,208,108,216,1,205,251,81,111,92,73,125,144,207,236,242,11,184,192,246,10,73]]]++[.bool true])]++[cj (1)]
abbrev VP:U:=.bool true
theorem ah2:gy Tryz.prog GS 25 VB VP:=
 k4 (P:=Tryz.prog) Tryz.checked.mixed bn (kf (ig.mem (eP (js (gM Em (jA))) (kn)))) kG (orc:=jq [(134,true,iT [(A6,A8)])]) (fuel:=100000) (k:=60) (by kernel_rfl)
theorem ah8:c0 Tryz.prog GS 29 [] [] (c:=⟨fun r _=>r=.bool true⟩) :=
 abb (kf (ig.mem (eP anm (eP zk (eP pv (eP (js (gM ah1 (gM ah2 (jA)))) (eP (js (gM ahY (gM ahZ (gM ah0 (jA))))) (eP (js (gM ahW (jA))) (eP (js (gM ah3 (gM ah5 (gM ahV (jA))))) (eP (js (gM El (gM HS (gM ML (jA))))) (eP (js (gM ah7 (jA))) (eP (js (gM ahU (gM ah4 (gM ah6 (jA))))) (eP (js (gM Vr (jA))) (kn)))))))))))))) kG (orc:=jq [Zf,ju,oR,(25,true,iT [(VA,VO),(VB,VP)]),(26,true,iT [(Vx,VL),(Vy,VM),(Vz,VN)]),(27,true,iT [(Vv,VJ)]),(89,true,iT [(VC,VQ),(VE,VS),(Vu,VI)]),(67,true,iT [(A5,A7),(En,Eo),(HT,HU)]),(66,true,iT [(VG,VU)]),(54,true,iT [(Vt,VH),(VD,VR),(VF,VT)]),(38,true,iT [(MM,MO)])]) (fuel:=100000) (k:=60) (by kernel_rfl)
theorem aao:bz Tryz.prog GS 29 [] (.bool true) :=
 bX Tryz.checked.mixed bn (by
  obtain⟨r,l,ad,ae,aj⟩:=ah8;exact⟨r,l,ad,ae,aQ aj rfl⟩)
end Go.b0
