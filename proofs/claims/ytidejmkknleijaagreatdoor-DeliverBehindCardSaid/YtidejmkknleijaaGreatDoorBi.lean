/-
  Operations as bytes: walked in both texts.
-/
import Derived.Test.YtidejmkknleijaaGreatDoorBh
import Derived.RangeFuncNested
import Derived.RangeFuncBound
import Derived.RangeFuncCalls
import Derived.RangeFuncLeaves
import Derived.OwnWalkIn
import Derived.LoopNIn
set_option linter.unusedVariables false
set_option linter.unusedSimpArgs false
set_option linter.unnecessarySimpa false
namespace Go.b0
open Go Go.Proofs
set_option maxRecDepth 100000
namespace Op
open hl
def opHead (o:br) :List B:=111#8::eH o.hn.toNat
def k2 (o:br) :List B:=
 opHead o++rR o.bi.l++eH o.ir.toNat++[o.act.kind]++(if o.act.kind=1#8 then [] else jw (fr o.act.key))++(if o.act.kind=4#8 then jy o.act.val else [])
theorem Et {l:List (List B)} (h:∀ x∈l,x.length=32) :(rR l).length<=9+l.length*32:=by
 have:=iD l.length;have ae:=Ms h;unfold rR;rw[auu];omega
theorem BJ (s:List B) :(jw s).length<=9+s.length:=by
 have:=iD s.length;unfold jw;rw[auu];omega
theorem Ff (v:i0) :(jy v).length<=20+v.text.length:=by
 have ad:=iD (nj v.num).toNat
 have ae:=BJ (fr v.text);have aj:=qJ v.text;unfold jy;simp only[auF];split
 ·omega
 ·split
  ·simp[o1]; omega
  ·omega
theorem Xw (o:br) (au:iY o) (rs:o.bi.l.length<=1000) {l:ao} {K:U->ao->Prop} (aT:∀ w l',cI 1 ca l l' w (k2 o) false->K w l') :
  c0 Tryz.prog GS 200 [.aF (a3 o)] l (c:=⟨K⟩) :=by
 apply bq Tryz.func200 [[[0],[1],[2],[5],[6],[3,6],[4,6]]];have az:cw=140737488355328:=rfl;have aI:=uY l (.cells 11 (a3 o)) 111#8;have sM:=iD o.hn.toNat
 have sO:=iD o.ir.toNat
 have gE:=Et au.ids;have L5:(BitVec.setWidth 64 o.hn).toNat=o.hn.toNat:=by rw[auE]; exact aux (by have:=o.hn.isLt; omega)
 have aL:l.length<(l++[aV.cells 11 (a3 o)]).length:=by simp
 have ez:(l++[aV.cells 11 (a3 o)])[l.length]? = some (.cells 11 (a3 o)) :=by simp
 simp[a3];refine wY _ fun bL l1 ad=>?_
 rw[L5] at ad;obtain⟨w2,bj,a9,dx,_⟩:=(aI.frame ad.le ad.same).app (by_:=1) (x:=bL) (xs:=eH o.hn.toNat) ad.contents (by simp[ca]) (by omega) (by omega) (by rw[az]; simp only[auF,au1]; omega);have rA:bj[l.length]? = some (.cells 11 (a3 o)) :=by rw[dx.same _ aL]; exact ez
 have qh:l.length<bj.length:=by have:=dx.le; omega
 have rB:=rA;simp[a3] at rB;simp[a9];refine c7.cd ?_;simp[rB];refine akM o.bi au.ids rs fun cO eY aj=>?_
 obtain⟨pJ,po,ey,q5,_⟩:=(dx.frame aj.le aj.same).app (by_:=1) (x:=cO) (xs:=rR o.bi.l) aj.contents (by simp[ca]) (by omega) (by omega) (by rw[az]; simp only[auu,auF,au1]; omega);have cN:eY[l.length]? = some (.cells 11 (a3 o)) :=by rw[aj.same _ qh]; exact rA
 have Hs:po[l.length]? = some (.cells 11 (a3 o)) :=by rw[q5.same _ aL]; exact ez
 have afG:l.length<po.length:=by have:=q5.le; omega
 have wg:=cN;have AL:=Hs;simp[a3] at wg AL;simp[wg,ey];refine c7.cd ?_;simp[AL];refine wY _ fun BO MU bh=>?_
 obtain⟨aud,Er,g6,PJ,_⟩:=(q5.frame bh.le bh.same).app (by_:=1) (x:=BO) (xs:=eH o.ir.toNat) bh.contents (by simp[ca]) (by omega) (by omega) (by rw[az]; simp only[auu,auF,au1]; omega);have age:Er[l.length]? = some (.cells 11 (a3 o)) :=by rw[PJ.same _ aL]; exact ez
 have UE:=age;simp[a3] at UE;obtain⟨Fh,V1,zG,tN⟩:=cI.push PJ o.act.kind (by simp only[auu,auF,au1]; omega);have agf:V1[l.length]? = some (.cells 11 (a3 o)) :=by rw[tN.same _ aL]; exact ez
 have aqA:l.length<V1.length:=by have:=tN.le; omega
 have LK:=agf;simp[a3] at LK;simp[g6];refine c7.cd ?_;simp[UE,zG];refine c7.cd ?_;obtain⟨M,gD⟩:∃ M,M=[111#8]++eH o.hn.toNat++rR o.bi.l++eH o.ir.toNat++[o.act.kind] :=⟨_,rfl⟩
 have Tm:M.length<=40000:=by rw[gD]; simp only[auu,auF,au1]; omega
 rw[<-gD] at tN;have dI:k2 o=M++(if o.act.kind=1#8 then [] else jw (fr o.act.key))++(if o.act.kind=4#8 then jy o.act.val else []) :=by rw[gD]; rfl
 have lY:=BJ (fr o.act.key);rw[qJ] at lY;have Ls:=au.key;have iL:=Ff o.act.val;have DW:=au.val.2.2;have ah:vV (.str o.act.key)=some (.aZ 1 ((fr o.act.key).map ca)) :=by
  show some (U.aZ 1 (o.act.key.map fun b=>[jD b]))=_;rw[IY]
 by_cases b3:o.act.kind=1#8
 ·have aP:(u o.act.kind:Int)=1:=(iW o.act.kind).2 b3;have fD:¬ o.act.kind=4#8:=by rw[b3]; decide
  rw[if_pos b3,if_neg fD,auV,auV] at dI;simp[LK,aP];exact aT _ _ (by rw[dI]; exact tN.base (by simp) fun b ag=>aum ag)
 ·have aP:¬ (u o.act.kind:Int)=1:=fun h=>b3 ((iW o.act.kind).1 h)
  rw[if_neg b3] at dI;simp[LK,aP,ah];refine Xx (some (fr o.act.key)) (by simpa [qJ] using Ls) (by simp[dD]) (by simp) (fun l' _ _=>by simp[dD]) fun I9 l5 g0=>?_
  obtain⟨ans,MV,FA,vz,_⟩:=(tN.frame g0.le g0.same).app (by_:=1) (x:=I9) (xs:=jw (fr o.act.key)) g0.contents (by simp[ca]) (by omega) (by omega) (by rw[az]; omega);have LL:MV[l.length]? = some (.cells 11 (a3 o)) :=by rw[vz.same _ aL]; exact ez
  have yG:=LL;simp[a3] at yG;simp[FA];refine c7.cd ?_;simp only[awF] at vz;by_cases fD:o.act.kind=4#8
  ·have nz:(u o.act.kind:Int)=4:=(xk o.act.kind).2 fD;rw[if_pos fD] at dI;simp[yG,nz];refine ak5 o.act.val au.val fun OM aim lh=>?_
   obtain⟨anr,ain,Jx,JL,_⟩:=(vz.frame lh.le lh.same).app (by_:=1) (x:=OM) (xs:=jy o.act.val) lh.contents (by simp[ca]) (by omega) (by omega) (by rw[az]; simp only[auu]; omega);simp[Jx];refine c7.cd ?_;simp;exact aT _ _ (by rw[dI]; exact JL.base (by simp) fun b ag=>aum ag)
  ·have nz:¬ (u o.act.kind:Int)=4:=fun h=>fD ((xk o.act.kind).1 h)
   rw[if_neg fD,auV] at dI;simp[yG,nz];exact aT _ _ (by rw[dI]; exact vz.base (by simp) fun b ag=>aum ag)
def iR (o:br) :List B:=k2 o++eH o.e.toNat++eH o.s.toNat
theorem WF (o:br) (au:iY o) (rs:o.bi.l.length<=1000) :(k2 o).length<=100000:=by
 have ad:=iD o.hn.toNat
 have ae:=iD o.ir.toNat
 have aj:=Et au.ids;have aG:=BJ (fr o.act.key);rw[qJ] at aG;have bh:=au.key;have bF:=Ff o.act.val;have dz:=au.val.2.2;have aK:(if o.act.kind=1#8 then [] else jw (fr o.act.key)).length<=10009:=by split<;>(try simp) ; omega
 have aU:(if o.act.kind=4#8 then jy o.act.val else []).length<=10020:=by split<;>(try simp) ; omega
 unfold k2 opHead;simp only[auu,auF,au1];omega
theorem akD (o:br) (au:iY o) (rs:o.bi.l.length<=1000) {l:ao} {K:U->ao->Prop} (aT:∀ w l',cI 1 ca l l' w (iR o) false->K w l') :
  c0 Tryz.prog GS 172 [.aF (a3 o)] l (c:=⟨K⟩) :=by
 apply bq Tryz.func172 [[[0],[2],[3],[4],[5],[8],[9],[10],[11],[1,11,10,5,4],[6,11,10],[7,11,10]]];have az:cw=140737488355328:=rfl;have bP:=iD o.e.toNat
 have sO:=iD o.s.toNat
 have lY:=WF o au rs;have lX:(BitVec.setWidth 64 o.e).toNat=o.e.toNat:=by rw[auE]; exact aux (by have:=o.e.isLt; omega)
 have rG:(BitVec.setWidth 64 o.s).toNat=o.s.toNat:=by rw[auE]; exact aux (by have:=o.s.isLt; omega)
 have aL:l.length<(l++[aV.cells 11 (a3 o)]).length:=by simp
 have ez:(l++[aV.cells 11 (a3 o)])[l.length]? = some (.cells 11 (a3 o)) :=by simp
 simp[a3];refine Xw o au rs fun bL l1 ad=>?_
 have oD:l1[l.length]? = some (.cells 11 (a3 o)) :=by rw[ad.same _ aL]; exact ez
 have qg:l.length<l1.length:=by have:=ad.le; simp at this; omega
 have yF:=oD;simp[a3] at yF;simp[yF];refine wY _ fun w2 bj ae=>?_
 rw[lX] at ae;obtain⟨cO,eY,bV,lc,_⟩:=(ad.frame ae.le ae.same).app (by_:=1) (x:=w2) (xs:=eH o.e.toNat) ae.contents (by simp[ca]) (by omega) (by omega) (by rw[az]; omega);have rA:bj[l.length]? = some (.cells 11 (a3 o)) :=by rw[ae.same _ qg]; exact oD
 have cN:eY[l.length]? = some (.cells 11 (a3 o)) :=by rw[lc.same _ aL]; exact ez
 have rB:=rA;have wg:=cN;simp[a3] at rB wg;simp[rB,bV];refine c7.cd ?_;simp[wg];refine wY _ fun pJ po aG=>?_
 rw[rG] at aG;obtain⟨BO,MU,go,zH,_⟩:=(lc.frame aG.le aG.same).app (by_:=1) (x:=pJ) (xs:=eH o.s.toNat) aG.contents (by simp[ca]) (by omega) (by omega) (by rw[az]; simp only[auu]; omega);simp[go];refine c7.cd ?_;simp;exact aT _ _ (zH.base (by simp) fun b ag=>aum ag)
theorem akO (o:br) (au:iY o) (rs:o.bi.l.length<=1000) :bz Tryz.prog GS 131 [.aF (a3 o)] (gF (iU (iR o))) :=by
 refine bX Tryz.checked.mixed bn ?_;apply bq Tryz.func131 [];have bP:=iD o.e.toNat
 have sO:=iD o.s.toNat
 have lY:=WF o au rs;have bS:(iU (iR o)).length=32:=xb _;simp[a3];refine akD o au rs fun bL l1 ad=>?_
 have ez:l1[1]? = some (.cells 32 (rep 32 (.int .u8 0))) :=by rw[ad.same 1 (by simp)]; rfl
 simp;refine l7 (XI (some (iR o)) (by simp[iR]; omega)) (.cons (ad.tj (fun _=>rfl) (some (iR o)) rfl rfl) .nil) (by simp[U.flat,mf,gF,z8 bA (fun _=>rfl)]) ?_;have yL:a8 (rep 32 (.int .u8 0)) 0 ((iU (iR o)).map bA)=(iU (iR o)).map bA:=gq (by rw[auw,bS]; rfl);have lr:(l1.set 1 (aV.cells 32 ((iU (iR o)).map bA)))[1]? = some (.cells 32 ((iU (iR o)).map bA)) :=auz (b6 ez);simp[ez,gF,bS,yL,lr,aul];exact aQ rfl (by simp[U.closed,mS bA (fun _=>rfl)])
theorem JP:∀ a b:List B,a.length=b.length->fC (a.map bA) (b.map bA)=decide (a=b)
 | [],[],_=>rfl
 | [],_::_,h=>by simp at h
 | _::_,[],h=>by simp at h
 | x::a,y::b,h=>by
  have aR:=JP a b (by simpa using h);simp only[auL,fC,aR,U.beq,decide_true,avR];by_cases ad:x=y
  ·by_cases ae:a=b<;>simp[ad,ae]
  ·have:¬ u x=u y:=fun h=>ad ((xl x y).1 h)
   simp[ad]
theorem ED:∀ a:List B,jp (List.replicate a.length (.i .u8)) (a.map bA)=true
 | []=>rfl
 | x::a=>by
  rw[auF,avc,auL];simp only[jp,ED a,Oz,decide_true,awf]
theorem VX:s4 Tryz.prog 20 61=some (List.replicate 32 (.i .u8)) :=by kernel_rfl
theorem Mo {a b:List B} (aC:a.length=32) (ag:b.length=32) :gN Tryz.prog .eql 61 (.aF (aY a)) (.aF (aY b))=some (.bool (decide (a=b))) :=by
 unfold aY;rw[FJ VX (by kernel_rfl) (by kernel_rfl) (by have:=ED a; rwa [aC] at this) (by have:=ED b; rwa [ag] at this),JP a b (by omega)]
theorem wy {a b:List B} (aC:a.length=32) (ag:b.length=32) :gN Tryz.prog .neq 61 (.aF (aY a)) (.aF (aY b))=some (.bool (!decide (a=b))) :=by
 unfold aY;rw[PY VX (by kernel_rfl) (by kernel_rfl) (by have:=ED a; rwa [aC] at this) (by have:=ED b; rwa [ag] at this),JP a b (by omega)]
theorem ajp (s:dv) :gN Tryz.prog .eql 23 (cE 32 aY s) .aH=some (.bool s.isNone) :=JR (e:=61) (by kernel_rfl) 32 aY s
theorem ajJ (l:ao) :cI 32 aY l (l++[.cells 0 []]) (.aq 32 l.length 0 0 0 0) ([] :List (List B)) false:=
 ⟨l.length,.aq l.length 0 0 0 [] [] (by simp) rfl rfl (by simp) (aun _) (by omega) rfl,by simp,fun b ag=>aum ag,.inr (aun _),rfl⟩
theorem Mr (s:dv) (au:eQ s) (ak:s.l.length<=1000000) {l:ao} {K:U->ao->Prop} (aT:∀ v l',cI 32 aY l l' v s.l s.isNone->K v l') :
  c0 Tryz.prog GS 61 [aB s] l (c:=⟨K⟩) :=by
 apply bq Tryz.func61 [];have az:cw=140737488355328:=rfl;cases s with
 | none=>
  simp[aB];exact aT _ _ cI.nil
 | some a=>
  simp at ak;obtain⟨a6,l',a2,a9,_⟩:=(ajJ l).app (by_:=32) (x:=cE 32 aY (some a)) (xs:=a) (vS _ 32 aY (some a)) (fun y aJ=>c2 (au y aJ)) (by omega) (by omega) (by rw[az]; simp; omega);simp[aB,ajp,a2];refine c7.cd ?_;simp;exact aT _ _ (by simpa using a9)
def pZ (l:List (List B)) (m:Nat) :List (List B) :=(List.range m).flatMap fun k=>if k=0\/b1 l k≠b1 l (k - 1) then [b1 l k] else []
def sw (l:List (List B)) :List (List B) :=pZ l l.length
theorem Cu (l:List (List B)) (m:Nat) :pZ l (m+1)=pZ l m++(if m=0\/b1 l m≠b1 l (m - 1) then [b1 l m] else []) :=by
 unfold pZ; rw[awk,awV]; simp
theorem R9 (l:List (List B)) :∀ m,(pZ l m).length<=m
 | 0=>by simp[pZ]
 | m+1=>by
  have:=R9 l m;rw[Cu,auu];split<;>simp<;>omega
theorem Ct {l:List (List B)}:∀ {m},m<=l.length->(∀ k,1<=k->k<m->b1 l k≠b1 l (k - 1))->pZ l m=l.take m
 | 0,_,_=>by simp[pZ]
 | m+1,hm,h=>by
  rw[Cu,Ct (by omega) (fun k ad ae=>h k ad (by omega)),auP,if_pos (by
   by_cases aI:m=0
   ·exact .inl aI
   ·exact .inr (h m (by omega) (by omega)))]
  congr 1;unfold b1;rw[auB,auo (by omega)];rfl
theorem Sa {l:List (List B)} {k:Nat} (ad:1<=k) (am:b1 l k=b1 l (k - 1)) :∀ {m},k<m->(pZ l m).length<m
 | 0,h=>by omega
 | m+1,h=>by
  rw[Cu,auu];by_cases ar:k=m
  ·subst ar;have:=R9 l k;rw[if_neg (fun h=>h.elim (fun aI=>by omega) (fun ae=>ae am))];simp; omega
  ·have:=Sa ad am (m:=m) (by omega);split<;>simp<;>omega
theorem abQ {l:List (List B)} (ak:zj l=true) :((sw l).length=l.length)<->di l=true:=by
 unfold zj at ak;rw[decide_eq_true_eq] at ak;unfold di sw;rw[decide_eq_true_eq];constructor
 ·intro h k ar ad;have ae:=ak k ar ad;have aj:b1 l k≠b1 l (k - 1) :=fun am=>by
   have:=Sa ad am ar;omega
  have aG:=Cp (b1 l k) (b1 l (k - 1));have bh:cg (b1 l (k - 1)) (b1 l k)≠0:=fun aI=>aj (zX aI).symm
  omega
 ·intro h;rw[Ct (aun _) (fun k ad ae am=>by
   have:=h k ae ad;rw[<-am,q7] at this;omega),auU]
theorem HP {a:List (List B)} {k:Nat} (h:k<a.length) :(a.map aY)[k]? = some (aY (b1 a k)) :=by
 rw[auq];unfold b1;rw[auB,auo h];rfl
theorem HL {a:List (List B)} {k:Nat} (h:k<a.length) :b1 a k∈a:=by
 unfold b1;rw[auB,auo h];exact List.getElem_mem h
structure ZW (l:ao) (v:U) (xs:List (List B)) (k:Nat) (σ:bc) (l1:ao) :Prop where
 cb:σ 0=v
 a1:σ 3=.int .i64 ((k+1:Nat) :Int)
 al:l1=l
 ak:∀ j,1<=j->j<k+1->b1 xs j≠b1 xs (j - 1)
structure ZV (l:ao) (v bU:U) (j:Nat) (xs:List (List B)) (m i:Nat) (σ:bc) (bj:ao) :Prop where
 cb:σ 0=v
 bl:σ 4=bU
 bo:σ 5=.int .i64 ((i+1:Nat) :Int)
 ex:∃ (k:Nat) (bJ:List (List B)),σ 3=.int .i64 (k:Int)/\bK 32 bj v j (bJ.map aY)/\bJ.length=xs.length/\(∀ y∈bJ,y.length=32)/\bJ.take k=pZ xs (m+i+1)/\k<=m+i/\(∀ t,m+i<=t->b1 bJ t=b1 xs t)/\bj.length=l.length/\∀ b,b≠j->bj[b]? = l[b]?
theorem abO {l:ao} {v:U} {j k:Nat} {bJ:List (List B)} (h:bK 32 l v j (bJ.map aY)) (ar:k<bJ.length) :
  ∃ e8 eY r,fl (.aq 32) v (some (.int .i64 (k:Int))) none none=some e8/\ss (rep 32 (.int .u8 0)) l e8=some eY/\fl (.aq 32) v none (some (.int .i64 (k:Int))) none=some r ∧
   bK 32 eY r j ((bJ.take k).map aY)/\cF r=false/\eY.length=l.length/\∀ b,b≠j->eY[b]? = l[b]?:=by
 generalize am:bJ.map aY=es at h;cases h with
 | nil j=>rw[awe] at am; subst am; simp at ar
 | aq j n cap sz cs es ag al aD ax ah dg cW=>
  subst am;have yz:bJ.length=n:=by simpa using aD
  have fZ:jd (.int .i64 (k:Int)) n=some k:=by
   show (if 0<=(k:Int)/\(k:Int)<=(n:Int) then some (k:Int).toNat else none)=some k;rw[if_pos ⟨by omega,by omega⟩]; simp
  have dW:jd (.int .i64 (k:Int)) cap=some k:=by
   show (if 0<=(k:Int)/\(k:Int)<=(cap:Int) then some (k:Int).toNat else none)=some k;rw[if_pos ⟨by omega,by omega⟩]; simp
  have c1:gO n cap (some (.int .i64 (k:Int))) none none=some (k,n,cap) :=by
   show (match jd (.int .i64 (k:Int)) n with | none=>none | some l=>some (l,n,cap))=_;rw[fZ]
  have dx:gO n cap none (some (.int .i64 (k:Int))) none=some (0,k,cap) :=by
   show (match jd (.int .i64 (k:Int)) cap with | none=>none | some h=>some (0,h,cap))=_;rw[dW]
  have ei:¬ cap=k:=by omega
  have Ay:¬ cap=0:=by omega
  have eK:j<l.length:=b6 ag;have hC:k*32<=n*32:=aup _ (by omega);have ku:n*32<=cap*32:=aup _ ah;have pi:(dC (rep 32 (.int .u8 0)) (n - k)).length=(n - k)*32:=by rw[Bw]; rfl
  have afH:k*32+(n - k)*32=n*32:=by rw[<-au8]; congr 1; omega
  refine⟨.aq 32 j (k*32) (n - k) (cap - k) sz,l.set j (.cells sz (a8 cs (k*32) (dC (rep 32 (.int .u8 0)) (n - k)))),.aq 32 j 0 k cap sz,?_,?_,?_,?_,rfl,by simp,fun b pd=>by rw[auy (fun h=>pd h.symm)]⟩
  ·rw[zi,c1]; simp[ei]
  ·unfold ss;simp only;rw[if_neg (by omega)];simp[ag]
  ·rw[zi,dx]; simp[Ay]
  ·refine .aq j k cap sz _ _ (auz eK) (by rw[xd (by omega),pi]; omega) (by simp; omega) (fun e am=>?_) (by omega) dg ?_
   ·obtain⟨y,aJ,rfl⟩:=auR.1 am;exact ax _ (av2 (auG aJ))
   ·unfold a8;rw[au3,auT (by rw[auA]; omega),avH,Nat.min_self];have aP:cs.take (k*32)=(cs.take (n*32)).take (k*32) :=by rw[avH,avA hC]
    have bw:bJ.map aY=(bJ.take k).map aY++(bJ.drop k).map aY:=by rw[<-auH,avm]
    have e3:((bJ.take k).map aY).flatten.length=k*32:=by
     rw[o6 (z:=32) (fun e am=>by obtain⟨y,aJ,rfl⟩:=auR.1 am; exact ax _ (av2 (auG aJ)))];simp; omega
    rw[aP,cW,bw,avb,auT (by omega),aul (by omega)]
theorem WW {bJ:List (List B)} (ax:∀ y∈bJ,y.length=32) (k:Nat) (ar:k<=bJ.length) {n:Nat} (aD:bJ.length=n) {cs:List U} (cW:cs.take (n*32)=(bJ.map aY).flatten) (al:n*32<=cs.length) :
  cs.take (k*32)=((bJ.take k).map aY).flatten/\(cs.drop (k*32)).take (n*32 - k*32)=((bJ.drop k).map aY).flatten:=by
 have hC:k*32<=n*32:=aup _ (by omega);have bw:bJ.map aY=(bJ.take k).map aY++(bJ.drop k).map aY:=by rw[<-auH,avm]
 have e3:((bJ.take k).map aY).flatten.length=k*32:=by
  rw[o6 (z:=32) (fun e am=>by obtain⟨y,aJ,rfl⟩:=auR.1 am; exact c2 (ax _ (auG aJ)))];simp; omega
 have aP:cs.take (k*32)=(cs.take (n*32)).take (k*32) :=by rw[avH,avA hC]
 constructor
 ·rw[aP,cW,bw,avb,auT (by omega),aul (by omega)]
 ·rw[<-awp,cW,bw,avb,avl (by omega),awn (by omega),avp]
theorem alU {l:ao} {v:U} {j k:Nat} {bJ:List (List B)} {x:List B} (h:bK 32 l v j (bJ.map aY)) (ax:∀ y∈bJ,y.length=32) (ar:k<bJ.length) (af:x.length=32) :
  ∃ p l',cL (.aq 32) v (.int .i64 (k:Int))=some p/\l9 32 l p (.aF (aY x))=some l'/\bK 32 l' v j ((bJ.set k x).map aY)/\l'.length=l.length/\∀ b,b≠j->l'[b]? = l[b]?:=by
 generalize am:bJ.map aY=es at h;cases h with
 | nil j=>rw[awe] at am; subst am; simp at ar
 | aq j n cap sz cs es ag al aD qq ah dg cW=>
  subst am;have yz:bJ.length=n:=by simpa using aD
  have eK:j<l.length:=b6 ag;have bd:=c2 af;have hC:(k+1)*32<=n*32:=aup _ (by omega);have ku:n*32<=cap*32:=aup _ ah;have ak:(k+1)*32=k*32+32:=by rw[au2]
  obtain⟨f1,_⟩:=WW ax k (by omega) yz cW (by omega);obtain⟨_,f2⟩:=WW ax (k+1) (by omega) yz cW (by omega);refine⟨.ptr j (k*32) sz,l.set j (.cells sz (a8 cs (k*32) (aY x))),?_,?_,?_,by simp,fun b pd=>by rw[auy (fun h=>pd h.symm)]⟩
  ·simp[cL]; omega
  ·unfold l9;simp[ag,U.cells,bd];omega
  ·refine .aq j n cap sz _ _ (auz eK) (by rw[xd (by omega),bd]; omega) (by simp; omega) (fun e am=>?_) ah dg ?_
   ·obtain⟨y,aJ,rfl⟩:=auR.1 am;rcases awx aJ with h | h
    ·exact c2 (ax _ h)
    ·rw[h]; exact bd
   ·have lr:bJ.set k x=bJ.take k++(x::bJ.drop (k+1)) :=by rw[avQ,if_pos ar]
    rw[lr,auH,auL,avb,au9,<-f1,<-f2];unfold a8;have t1:(cs.take (k*32)).length=k*32:=by rw[auA]; omega
    have BK:(cs.take (k*32)).take (n*32)=cs.take (k*32) :=aul (by rw[t1]; omega);have BL:(aY x).take (n*32 - k*32)=aY x:=aul (by rw[bd]; omega);rw[au3,bd,<-ak,awa,t1,BK,awa,BL,bd,show n*32 - k*32 - 32=n*32 - (k+1)*32 by omega]
theorem abF {fk l:ao} {v:U} {xs:List (List B)} {nl:Bool} (h:cI 32 aY fk l v xs nl) (af:∀ x∈xs,x.length=32) (aD:xs.length<=1000000) {K:U->ao->Prop} (aT:∀ r l',cI 32 aY fk l' r (sw xs) nl->K r l') :
  c0 Tryz.prog GS 76 [v] l (c:=⟨K⟩) :=by
 apply bq Tryz.func76 [];have bC:=h.len;by_cases ae:xs.length<2
 ·have gC:(xs.length:Int)<2:=by omega
  have AA:sw xs=xs:=by
   unfold sw;rw[Ct (aun _) (fun k ad aj=>by omega),auU]
  simp[bC,gC];exact aT _ _ (by rw[AA]; exact h)
 ·have gC:¬ (xs.length:Int)<2:=by omega
  simp[bC,gC];refine cl (xs.length - 1) (ZW l v xs) ?_ ⟨by simp,by simp,rfl,fun j ad aj=>by omega⟩;rintro k σ l1 ar ⟨cb,a1,rfl,ak⟩;obtain⟨σ,rfl⟩:=pG cb a1;clear cb a1;obtain⟨m,hm⟩:∃ m,m=k+1:=⟨_,rfl⟩
  rw[<-hm] at ak ⊢;by_cases aL:m<xs.length
  ·have aP:IntKind.i64.wrap ((m:Int) - 1)=(k:Int) :=by rw[IntKind.wrap_i64]; omega
   have bw:IntKind.i64.wrap ((m:Int)+1)=((m+1:Nat) :Int) :=by rw[IntKind.wrap_i64]; omega
   have kQ:(m:Int)<(xs.length:Int) :=by omega
   obtain⟨j,au,oC⟩:=h;obtain⟨iS,b3,hS,a2,a9,bV,ey⟩:=au.q.get (k:=.i64) (HP aL);obtain⟨jr,b9,gI,c1,dx,lc,q5⟩:=au.q.get (k:=.i64) (HP (a:=xs) (k:=k) (by omega));have kt:=Mo (af _ (HL aL)) (af _ (HL (a:=xs) (k:=k) (by omega)));obtain⟨X,cn⟩:∃ X,X=b1 xs m:=⟨_,rfl⟩
   obtain⟨Y,fY⟩:∃ Y,Y=b1 xs k:=⟨_,rfl⟩
   rw[<-cn] at ey kt;rw[<-fY] at q5 kt;by_cases am:X=Y
   ·have uv:gN Tryz.prog .eql 61 (.aF (aY X)) (.aF (aY Y))=some (.bool true) :=by rw[kt,decide_eq_true am]
    have ap:cF v=false:=by
     cases afZ:cF v with
     | false=>rfl
     | true=>
      have:=kZ.1 afZ;subst this;have:=au.q.Ia;rw[awe] at this;rw[this] at aL; simp at aL
    obtain⟨bU,cY,hX,_⟩:=au.q.from ap (k:=.i64) (i:=m) (by simp; omega);have aI:pZ xs m=xs.take m:=Ct (by omega) ak;have ad:pZ xs (m+1)=xs.take m:=by rw[Cu,if_neg (fun h=>h.elim (fun aI=>by omega) (fun ae=>ae (by rw[<-cn,show m - 1=k by omega,<-fY]; exact am))),aI,auV]
    simp[bC,kQ,aP,a2,a9,bV,ey,c1,dx,lc,q5,uv,cY];refine cl (xs.length - m - 1) (ZV l1 v bU j xs m) ?_ ⟨by simp,by simp,by simp,m,xs,by simp,au,rfl,af,ad.symm,by omega,fun t _=>rfl,rfl,fun b _=>rfl⟩;rintro i σ bj ay ⟨cb,bl,bo,q,bJ,a1,a7,fI,D0,ls,DO,sQ,DE,iy⟩;obtain⟨σ,rfl⟩:=iE cb a1 bl bo;clear cb a1 bl bo;obtain⟨cU,afb⟩:∃ cU,cU=i+1:=⟨_,rfl⟩
    rw[<-afb];obtain⟨ob,zg,N3,_⟩:=a7.q.from ap (k:=.i64) (i:=m) (by simp; omega);rw[cY] at zg;obtain rfl:=Option.some.inj zg;have i7:=N3.len;rw[avh,auw,fI] at i7;by_cases qh:cU<xs.length - m
    ·have Hi:(cU:Int)<((xs.length - m:Nat) :Int) :=by omega
     have bL:IntKind.i64.wrap ((cU:Int) - 1)=(i:Int) :=by rw[IntKind.wrap_i64]; omega
     have w2:IntKind.i64.wrap ((cU:Int)+1)=((cU+1:Nat) :Int) :=by rw[IntKind.wrap_i64]; omega
     have cO:IntKind.i64.wrap ((q:Int)+1)=((q+1:Nat) :Int) :=by rw[IntKind.wrap_i64]; omega
     obtain⟨y7,ho,oO,jW,jX,tv,qP⟩:=N3.get (k:=.i64) (i:=cU) (e:=aY (b1 bJ (m+cU))) (by rw[auY]; exact HP (by omega));obtain⟨atc,fD,ke,ja,qQ,ZF,OX⟩:=N3.get (k:=.i64) (i:=i) (e:=aY (b1 bJ (m+i))) (by rw[auY]; exact HP (by omega));have qp:=D0 _ (HL (a:=bJ) (k:=m+cU) (by omega));have qq:=D0 _ (HL (a:=bJ) (k:=m+i) (by omega));have bP:=wy qp qq;have uD:=sQ (m+cU) (by omega);have AN:=sQ (m+i) (by omega);have bf:=Cu xs (m+cU);rw[show m+cU - 1=m+i by omega] at bf;obtain⟨xM,ad7⟩:∃ X,X=b1 bJ (m+cU) :=⟨_,rfl⟩
     obtain⟨Jw,KS⟩:∃ Y,Y=b1 bJ (m+i) :=⟨_,rfl⟩
     rw[<-ad7] at qP bP qp uD;rw[<-KS] at OX bP AN;rw[<-uD,<-AN] at bf;rw[show m+i+1=m+cU by omega] at ls;by_cases mm:xM=Jw
     ·have ry:gN Tryz.prog .neq 61 (.aF (aY xM)) (.aF (aY Jw))=some (.bool false) :=by rw[bP]; simp[mm]
      rw[if_neg (fun h=>h.elim (fun aI=>by omega) (fun ae=>ae mm)),auV] at bf;simp[i7,Hi,bL,jW,jX,tv,qP,ja,qQ,ZF,OX,ry,w2];exact⟨by omega,by simp,by simp,by simp,q,bJ,by simp,a7,fI,D0,by rw[bf]; exact ls,by omega,fun t aW=>sQ t (by omega),DE,iy⟩
     ·have ry:gN Tryz.prog .neq 61 (.aF (aY xM)) (.aF (aY Jw))=some (.bool true) :=by rw[bP]; simp[mm]
      rw[if_pos (.inr mm)] at bf;obtain⟨aka,eY,gw,fV,tw,ZG,OY⟩:=alU a7 D0 (k:=q) (x:=xM) (by omega) qp;simp[i7,Hi,bL,jW,jX,tv,qP,ja,qQ,ZF,OX,ry,w2,cO,gw,fV];have amF:(bJ.take q).length=q:=by rw[auA]; omega
      have rH:(bJ.set q xM).take (q+1)=bJ.take q++[xM] :=by
       rw[avQ,if_pos (by omega),awa,amF,aul (by omega),show q+1 - q=1 by omega]; simp
      refine⟨by omega,by simp,by simp,by simp,q+1,bJ.set q xM,by simp,tw,by simp[fI],fun y aJ=>?_,by rw[rH,bf,ls],by omega,fun t aW=>?_,by omega,fun b ag=>(OY b ag).trans (iy b ag)⟩
      ·rcases awx aJ with h | h
       ·exact D0 _ h
       ·rw[h]; exact qp
      ·have:=sQ t (by omega);unfold b1 at this ⊢;rw[auB,auy (by omega),<-auB];exact this
    ·have Hi:¬ (cU:Int)<((xs.length - m:Nat) :Int) :=by omega
     obtain⟨e8,eY,r,gw,fV,tw,ZG,OY,auh,an3⟩:=abO a7 (k:=q) (by omega);simp[i7,Hi,gw,fV,tw];obtain⟨aK,aU,a1,bl⟩:=oC;have yo:fk.length<=j:=a1.resolve_left (fun h=>by rw[h] at ap; cases ap);have Dq:m+i+1=xs.length:=by omega
     rw[Dq] at ls;refine aT _ _ ⟨j,by unfold sw; rw[<-ls]; exact ZG,by omega,fun b ag=>?_,.inr yo,by rw[OY,<-bl,ap]⟩;rw[an3 b (by omega),iy b (by omega)];exact aU b ag
   ·have uv:gN Tryz.prog .eql 61 (.aF (aY X)) (.aF (aY Y))=some (.bool false) :=by rw[kt,decide_eq_false am]
    simp[bC,kQ,aP,a2,a9,bV,ey,c1,dx,lc,q5,uv,bw];refine⟨by omega,by simp,by simp[hm],rfl,fun t ad ae=>?_⟩;by_cases aW:t=m
    ·rw[aW,<-cn,show m - 1=k by omega,<-fY]; exact am
    ·exact ak t ad (by omega)
  ·have kQ:¬ (m:Int)<(xs.length:Int) :=by omega
   have AA:sw xs=xs:=by
    unfold sw;rw[Ct (aun _) (fun k ad aj=>ak k ad (by omega)),auU]
   simp[bC,kQ];exact aT _ _ (by rw[AA]; exact h)
theorem alu {l:List (List B)} (h:di l=true) :zj l=true:=by
 unfold di at h;rw[decide_eq_true_eq] at h;exact Yu fun k ar ad=>by
  have:=h k ar ad;have aG:=Cp (b1 l k) (b1 l (k - 1));omega
theorem Ja (o:br) (au:iY o) :bz Tryz.prog GS 99 [.aF (a3 o)] (.int .i64 (hw o)) :=by
 refine bX Tryz.checked.mixed bn ?_;apply bq Tryz.func99 [[[0],[1],[2],[3],[4],[5],[6],[10],[11],[12],[7,11],[8,11],[9]]];unfold hw;have ea:=dd o.bi;have bC:ce (.aq 32) (aB o.bi)=some (.int .i64 o.bi.l.length) :=by simp[aB]
 have lO:(aB o.bi).cells=some [aB o.bi] :=by cases o.bi<;>rfl
 by_cases ad:4<o.bi.l.length
 ·have ef:(4:Int)<(o.bi.l.length:Int) :=by omega
  rw[if_pos ad];simp[a3,bC,ef];exact aQ rfl rfl
 ·have ef:¬ (4:Int)<(o.bi.l.length:Int) :=by omega
  rw[if_neg ad];simp[a3,bC,ef];refine a4 (ahO o.bi au.ids au.len) (by simp[a5,ea,U.closed]) ?_;cases ae:zj o.bi.l with
  | false=>
   have aj:di o.bi.l=false:=by
    cases aj:di o.bi.l with
    | false=>rfl
    | true=>rw[alu aj] at ae; cases ae
   simp[aj,bC];exact aQ rfl rfl
  | true=>
   simp[bC];refine Mr o.bi au.ids au.len fun ch l1 aK=>?_
   have aec:l1[0]? = some (.cells 11 (a3 o)) :=by rw[aK.same 0 (by simp)]; rfl
   have TA:=aec;simp[a3] at TA;simp[TA];refine abF aK au.ids au.len fun bU bj aU=>?_
   have ez:bj[0]? = some (.cells 11 (a3 o)) :=by rw[aU.same 0 (by simp)]; rfl
   have Aw:=ez;simp[a3] at Aw;have i7:=aU.len;have AA:=abQ ae;cases aj:di o.bi.l with
   | false=>
    have bP:¬ ((sw o.bi.l).length:Int)=(o.bi.l.length:Int) :=fun h=>by
     have:=AA.1 (by omega);rw[aj] at this; cases this
    simp[i7,Aw,bC,bP];exact aQ rfl rfl
   | true=>
    have heq:((sw o.bi.l).length:Int)=(o.bi.l.length:Int) :=by have:=AA.2 aj; omega
    simp[i7,Aw,bC,heq];refine a4 (MC o.hn) rfl ?_;unfold ub;cases bh:gG o.hn with
    | false=>
     simp;exact aQ rfl rfl
    | true=>
     have b5:((1000000000000:Int)<u o.ir)<->¬ o.ir.toNat<=1000000000000:=by unfold u; omega
     by_cases bF:o.ir.toNat<=1000000000000
     ·have o8:¬ ((1000000000000:Int)<u o.ir) :=fun h=>b5.1 h bF
      have yy:((500000003:Int)<=max (u o.e:Int) (u o.s))<->¬ (jF o.e&&jF o.s)=true:=by
       unfold jF u;simp only[aus,decide_eq_true_eq];omega
      have Up:uT (bu o.e) (bu o.s)=some (.int .u32 (max (u o.e:Int) (u o.s))) :=by
       show (if IntKind.u32=IntKind.u32 then some (U.int .u32 (if (u o.e:Int)<u o.s then u o.s else u o.e)) else none)=_;rw[if_pos rfl];congr 2;split<;>omega
      cases dz:(jF o.e&&jF o.s) with
      | false=>
       have rg:(500000003:Int)<=max (u o.e:Int) (u o.s) :=yy.2 (by rw[dz]; simp);simp[Aw,bF,o8,Up,rg];exact aQ rfl rfl
      | true=>
       have rg:¬ (500000003:Int)<=max (u o.e:Int) (u o.s) :=fun h=>(yy.1 h) dz
       simp[Aw,bF,o8,Up,rg];refine a4 (abo o.act) rfl ?_;cases g0:k8 o.act with
       | false=>
        simp[mU];exact aQ rfl rfl
       | true=>
        simp[mU];exact aQ (by rw[if_pos bF]) rfl
     ·have o8:(1000000000000:Int)<u o.ir:=b5.2 bF;simp[Aw,bF,o8];exact aQ rfl rfl
theorem N4 (a b:dv) (aC:eQ a) (ag:eQ b) (al:a.l.length<=1000000) :bz Tryz.prog GS 21 [aB a,aB b] (.bool (decide (a.l=b.l))) :=by
 refine bX Tryz.checked.mixed bn ?_;apply bq Tryz.func21 [];simp[aB];by_cases ad:a.l.length=b.l.length
 ·have ef:((a.l.length:Int)=b.l.length) :=by omega
  simp[ad];refine cl a.l.length (fun k σ l=>σ 0=cE 32 aY a/\σ 1=cE 32 aY b/\σ 5=.int .i64 k/\∀ j,j<k->a.l[j]? = b.l[j]?) ?_ (by simp[aB]);rintro k σ l ar ⟨cb,aK,bo,ak⟩;obtain⟨s,rfl⟩:=lB cb aK bo;clear cb aK bo;simp;refine pm (fun h=>?_) (fun h=>?_)
  ·simp only[decide_eq_true_eq] at h;obtain⟨x,af,cT⟩:=bI h;obtain⟨y,aJ,eL⟩:=bI (l:=b.l) (k:=k) (by omega);have aP:IntKind.i64.wrap ((k:Int)+1)=((k+1:Nat) :Int) :=by rw[IntKind.wrap_i64]; omega
   simp[af,aJ,c2 (aC x cT),c2 (ag y eL),aul,wy (aC x cT) (ag y eL)];by_cases am:x=y
   ·simp[am,aP];refine⟨by omega,fun j ai=>?_⟩;by_cases gR:j=k
    ·subst gR; rw[af,aJ,am]
    ·exact ak j (by omega)
   ·simp[am];refine aQ (congrArg U.bool (decide_eq_false fun ha=>am ?_).symm) rfl;rw[ha,aJ] at af; exact (Option.some.inj af).symm
  ·simp[h];have rq:k=a.l.length:=by simp at h; omega
   refine aQ (congrArg U.bool (decide_eq_true ?_).symm) rfl;apply avf;intro j;by_cases ai:j<a.l.length
   ·exact ak j (by omega)
   ·rw[auC (by omega),auC (by omega)]
 ·have ef:¬ ((a.l.length:Int)=b.l.length) :=by omega
  simp[ad,ef];exact aQ (by rw[decide_eq_false (fun ha=>ad (by rw[ha]))]) rfl
def m8 (o:br) :List B:=if hw o=0 then iU (iR o) else List.replicate 32 0#8
theorem y6 {o:br} (h:hw o=0) :o.bi.l.length<=4:=by
 unfold hw at h;split at h
 ·cases h
 ·omega
theorem XW {l:ao} {b n:Nat} {hJ:List U} {k:Nat} {w:U} {kd:IntKind} (ag:l[b]? = some (.cells n hJ)) (aD:hJ.length=n) (ar:hJ[k]? = some w) :
  ∃ p cs o,cL (.aq 1) (.aq 1 b 0 n n n) (.int kd (k:Int))=some p/\hg l p=some (cs,o)/\cs[o]? = some w:=by
 have aL:k<n:=by rw[<-aD]; exact (auk.1 ar).1
 refine⟨.ptr b (0+k*1) n,hJ,0+k*1,?_,?_,by simpa using ar⟩
 ·simp only[cL,auS];rw[if_pos ⟨trivial,by omega,by omega⟩]
 ·simp only[hg,ag,if_true]
theorem adl {n:Nat} (aD:n<=1000000000) {l:ao} {K:U->ao->Prop} (aT:∀ v l',cI 1 ca l l' v ([] :List B) (decide (n=0))->K v l') :c0 Tryz.prog GS 153 [.aH,.int .i64 n] l (c:=⟨K⟩) :=by
 apply bq Tryz.func153 [];have ad:¬((n:Int)<0) :=by omega
 have aX:IntKind.i64.wrap (n:Int)=n:=wrap_i64 (by omega) (by omega);have Md:IntKind.i64.wrap (0:Int)=0:=rfl;by_cases aI:n=0
 ·subst aI;simp;exact aT _ _ cI.nil
 have ae:(0:Int)<n:=by omega
 have ax:q4 l 1 1 [.int .u8 0] .aH (.int .i64 n)=some (.aq 1 l.length 0 n n (n*1),l++[.cells (n*1) (dC [.int .u8 0] n)]) :=by
  unfold q4 jB;simp only[auS];have az:cw=140737488355328:=rfl;rw[if_pos ⟨by omega,by omega,by rw[az]; omega⟩,if_neg aI,if_neg (by omega),if_pos (by rw[az]; omega)]
 have ak:fl (.aq 1) (.aq 1 l.length 0 n n (n*1)) none (some (.int .i64 0)) none=some (.aq 1 l.length 0 0 n (n*1)) :=by
  rw[zi,JW,if_pos ⟨by omega,by omega⟩];simp[aI]
 rw[avX] at ax ak;have aj:0<n:=by omega
 simp[ad,ae,aj,aX,ax,Md,ak];refine aT _ (l++[.cells n (dC [.int .u8 0] n)]) ⟨l.length,.aq _ 0 n n (dC [.int .u8 0] n) [] (by simp) (by rw[Bw]; simp) rfl (by simp) (by omega) (by omega) rfl,by simp,fun b ag=>aum ag,.inr (aun _),?_⟩;simp[cF,aI]
def jf (bs:List (List B)) :List B:=bs.flatten
theorem SC {bs:List (List B)} {k:Nat} {s:List B} (h:bs[k]? = some s) :jf (bs.take (k+1))=jf (bs.take k)++s:=by
 unfold jf;rw[auP,h]; simp
theorem SB (bs:List (List B)) (k:Nat) :(jf (bs.take k)).length<=(jf bs).length:=by
 conv=>rhs; rw[<-avm k bs]
 unfold jf;rw[avb,auu];omega
structure nn (l:ao) (w:U) (s:List B) :Prop where
 len:ce (.aq 1) w=some (.int .i64 s.length)
 R4:∀ l',l.length<=l'.length->(∀ b,b<l.length->l'[b]? = l[b]?)->dD l' 1 w=some ((s.map ca).flatten,s.length)
theorem Bh {l l1:ao} {w:U} {s:List B} {nl:Bool} (h:cI 1 ca l l1 w s nl) :nn l1 w s:=⟨h.len,fun l' ad ae=>(h.frame ad ae).contents⟩
theorem nn.frame {l l1:ao} {w:U} {s:List B} (h:nn l w s) (al:l.length<=l1.length) (ak:∀ b,b<l.length->l1[b]? = l[b]?) :nn l1 w s:=
 ⟨h.len,fun l' ad ae=>h.R4 l' (by omega) fun b ag=>by rw[ae b (by omega)]; exact ak b ag⟩
theorem WY {l:ao} {b:Nat} {x:B} (h:l[b]? = some (.cells 1 [bA x])) :nn l (.aq 1 b 0 1 1 1) [x] :=by
 have:=b6 h;exact⟨rfl,fun l' ad ae=>by have:=ae b this; rw[h] at this; simp[dD,this,ca]⟩
structure ZU (l:ao) (X:U) (bs:List (List B)) (k:Nat) (σ:bc) (l1:ao) :Prop where
 ua:σ 25=X
 Ad:σ 26=.int .i64 bs.length
 Ae:σ 27=.int .i64 k
 s9:∃ v,σ 6=v/\cI 1 ca l l1 v (jf (bs.take k)) (decide ((jf bs).length=0))
set_option maxHeartbeats 4000000 in
theorem R5 {l:ao} {b n:Nat} {hJ:List U} {bs:List (List B)} (ag:l[b]? = some (.cells n hJ)) (Mg:hJ.length=n) (pe:bs.length=n)
  (av:∀ (k:Nat) (w:U) (s:List B),hJ[k]? = some w->bs[k]? = some s->nn l w s) (al:(jf bs).length<=1000000000) (DE:n<=1000000000)
  {K:U->ao->Prop} (aT:∀ v l',cI 1 ca l l' v (jf bs) (decide ((jf bs).length=0))->K v l') :
  c0 Tryz.prog GS 110 [.aq 1 b 0 n n n] l (c:=⟨K⟩) :=by
 apply bq Tryz.func110 [];have j5:=b6 ag;have cn:∀ l',l.length<=l'.length->(∀ b,b<l.length->l'[b]? = l[b]?)->∀ k,k<n->∃ w s p cs o,hJ[k]? = some w/\bs[k]? = some s/\nn l' w s/\cL (.aq 1) (.aq 1 b 0 n n n) (.int .i64 (k:Int))=some p/\hg l' p=some (cs,o)/\cs[o]? = some w:=by
  intro l' ad ae k ar;obtain⟨w,aX,_⟩:=bI (l:=hJ) (k:=k) (by omega);obtain⟨s,ak,_⟩:=bI (l:=bs) (k:=k) (by omega);obtain⟨p,cs,o,a2,a9,bV⟩:=XW (kd:=.i64) (l:=l') (by rw[ae b j5]; exact ag) Mg aX;exact⟨w,s,p,cs,o,aX,ak,(av k w s aX ak).frame ad ae,a2,a9,bV⟩
 obtain⟨X,Tv⟩:∃ X,X=U.aq 1 b 0 n n n:=⟨_,rfl⟩
 have At:ce (.aq 1) X=some (.int .i64 bs.length) :=by rw[Tv,pe]; rfl
 rw[<-Tv] at cn ⊢;simp[At];refine cl n (fun k σ l1=>σ 0=X/\σ 9=X/\σ 10=.int .i64 bs.length/\σ 11=.int .i64 k/\σ 3=.int .i64 (jf (bs.take k)).length/\l1=l) ?_ ?_
 ·rintro k σ l1 ar ⟨cb,gZ,jg,jI,a1,rfl⟩;obtain⟨σ,rfl⟩:=lC cb a1 gZ jg jI;clear cb a1 gZ jg jI;simp;by_cases h:k<bs.length
  ·obtain⟨w,s,p,cs,o,aX,ak,uB,a2,a9,bV⟩:=cn l1 (aun _) (fun _ _=>rfl) k (by omega);have Dr:=SC ak;have dO:=SB bs (k+1);rw[Dr,auu] at dO;have mv:IntKind.i64.wrap (((jf (bs.take k)).length:Int)+s.length)=((jf (bs.take k)).length:Int)+s.length:=wrap_i64 (by omega) (by omega);have fq:IntKind.i64.wrap ((k:Int)+1)=k+1:=wrap_i64 (by omega) (by omega);have jj:¬(((jf (bs.take k)).length:Int)+s.length<0) :=by omega
   have gE:=uB.len;simp[h,a2,a9,bV,gE,mv,jj,fq,Dr];omega
  ·have bv:k=bs.length:=by omega
   subst bv;rw[auU];simp;refine adl al ?_;intro v l au;simp[At];refine cl bs.length (ZU l1 X bs) ?_ ⟨by simp,by simp,by simp,v,by simp,by simpa [jf] using au⟩;rintro k σ bj ar ⟨ua,Ad,Ae,w,cu,au⟩;obtain⟨σ,rfl⟩:=iE cu ua Ad Ae;clear cu ua Ad Ae;simp;by_cases h:k<bs.length
   ·obtain⟨y,s,p,cs,o,aX,ak,uB,a2,a9,bV⟩:=cn bj au.le au.same k (by omega);have Dr:=SC ak;have dO:=SB bs (k+1);rw[Dr,auu] at dO;have fq:IntKind.i64.wrap ((k:Int)+1)=k+1:=wrap_i64 (by omega) (by omega);have az:cw=140737488355328:=rfl;obtain⟨a6,eY,c1,dx,lc⟩:=au.app (by_:=1) (x:=y) (xs:=s) (uB.R4 bj (aun _) fun _ _=>rfl) (by simp[ca]) (by omega) (by omega) (by rw[az]; omega);simp[h,a2,a9,bV,c1];refine c7.cd ?_;simp[h,fq];refine⟨by simp,by simp,by simp,a6,by simp,?_⟩;rw[Dr];have kR:(decide ((jf bs).length=0)&&s.isEmpty)=decide ((jf bs).length=0) :=by
     by_cases am:(jf bs).length=0
     ·have:s=[] :=au4.1 (by omega);simp[am,this]
     ·simp[am]
    rw[kR] at dx;exact dx
   ·have bv:k=bs.length:=by omega
    subst bv;simp;rw[auU] at au;exact aT _ _ au
 ·simp[jf]
def hM (o:br) :br:={ o with e:=0#32,s:=0#32 }
theorem Zk (o:br) (au:iY o) (ar:hw (hM o)=0) {l:ao} {K:U->ao->Prop} (aT:∀ w l',cI 1 ca l l' w (k2 o) false->K (.bt [w,.int .i64 0]) l') :
  c0 Tryz.prog GS 82 [.aF (a3 o)] l (c:=⟨K⟩) :=by
 apply bq Tryz.func82 [[[0],[1],[2],[3],[5],[6],[7],[9],[10],[11],[12],[4,12,11,7,0],[8,12,11,0]]];have az:cw=140737488355328:=rfl;have sM:=iD o.hn.toNat
 have sO:=iD o.ir.toNat
 have gE:=Et au.ids;have eV:iY (hM o) :=⟨au.ids,au.len,au.val,au.key⟩
 have ei:=Ja (hM o) eV;rw[ar] at ei;have rs:o.bi.l.length<=4:=y6 (o:=hM o) ar;have yJ:di o.bi.l=true:=by
  unfold hw at ar;have aP:(hM o).bi=o.bi:=rfl;rw[aP,if_neg (by omega)] at ar;cases aj:di o.bi.l with
  | true=>rfl
  | false=>rw[aj] at ar; cases ar
 have L5:(BitVec.setWidth 64 o.hn).toNat=o.hn.toNat:=by rw[auE]; exact aux (by have:=o.hn.isLt; omega)
 have aex:=kM (hM o);have aL:l.length<(l++[aV.cells 11 (a3 (hM o))]).length:=by simp
 have ez:(l++[aV.cells 11 (a3 (hM o))])[l.length]? = some (.cells 11 (a3 (hM o))) :=by simp
 simp[a3];refine a4 ei (show a5 [U.aF (a3 (hM o))]=true by simp[a5,U.closed,aex]) ?_;simp;refine anA o.bi au.ids (by omega) yJ fun bL l1 ad=>?_
 have oD:l1[l.length]? = some (.cells 11 (a3 (hM o))) :=by rw[ad.same _ aL]; exact ez
 have qg:l.length<l1.length:=by have:=ad.le; simp at this; omega
 have yF:=oD;simp[a3,hM] at yF;have agm:(l1++[aV.cells 1 [U.int .u8 111]])[l.length]? = some (.cells 11 (a3 (hM o))) :=by rw[aum qg]; exact oD
 have aqB:l.length<(l1++[aV.cells 1 [U.int .u8 111]]).length:=by simp; omega
 have UL:=agm;simp[a3,hM] at UL;simp[UL];have agr:(l1++[aV.cells 1 [U.int .u8 111],aV.cells 1 [U.int .u8 (u o.act.kind)]])[l.length]? = some (.cells 11 (a3 (hM o))) :=by rw[aum qg]; exact oD
 have agn:(l1++[aV.cells 1 [U.int .u8 111],aV.cells 1 [U.int .u8 (u o.act.kind)]])[l1.length]? = some (.cells 1 [.int .u8 111]) :=by simp
 have DO:(l1++[aV.cells 1 [U.int .u8 111],aV.cells 1 [U.int .u8 (u o.act.kind)]])[l1.length+1]? = some (.cells 1 [.int .u8 (u o.act.kind)]) :=by simp
 have ri:(l1++[aV.cells 1 [U.int .u8 111],aV.cells 1 [U.int .u8 (u o.act.kind)]]).length=l1.length+2:=by simp
 refine zq _ fun w2 bj ae=>?_
 rw[L5] at ae;have AI:=ae.le;rw[ri] at AI;have rA:bj[l.length]? = some (.cells 11 (a3 (hM o))) :=by rw[ae.same _ (by rw[ri]; omega)]; exact agr
 have S6:bj[l1.length]? = some (.cells 1 [.int .u8 111]) :=by rw[ae.same _ (by rw[ri]; omega)]; exact agn
 have S7:bj[l1.length+1]? = some (.cells 1 [.int .u8 (u o.act.kind)]) :=by rw[ae.same _ (by rw[ri]; omega)]; exact DO
 have rB:=rA;simp[a3,hM] at rB;simp[rB,S6,S7];refine zq _ fun cO eY aj=>?_
 have Um:=aj.le;have cN:eY[l.length]? = some (.cells 11 (a3 (hM o))) :=by rw[aj.same _ (by omega)]; exact rA
 have S8:eY[l1.length]? = some (.cells 1 [.int .u8 111]) :=by rw[aj.same _ (by omega)]; exact S6
 have S9:eY[l1.length+1]? = some (.cells 1 [.int .u8 (u o.act.kind)]) :=by rw[aj.same _ (by omega)]; exact S7
 have wg:=cN;simp[a3,hM] at wg;simp[wg,S8,S9,ad.cells,ae.cells,aj.cells,a8];obtain⟨L,dA⟩:∃ L,L=eY++[aV.cells 5 [.aq 1 l1.length 0 1 1 1,w2,bL,cO,.aq 1 (l1.length+1) 0 1 1 1]] :=⟨_,rfl⟩
 have ya:eY.length<=L.length:=by rw[dA]; simp
 have p9:∀ b,b<eY.length->L[b]? = eY[b]?:=fun b ag=>by rw[dA,aum ag]
 have KK:L[eY.length]? = some (.cells 5 [.aq 1 l1.length 0 1 1 1,w2,bL,cO,.aq 1 (l1.length+1) 0 1 1 1]) :=by rw[dA]; simp
 rw[<-dA];have Jo:nn L (.aq 1 l1.length 0 1 1 1) [111#8] :=WY (by rw[p9 _ (by omega)]; exact S8);have aae:nn L (.aq 1 (l1.length+1) 0 1 1 1) [o.act.kind] :=WY (by rw[p9 _ (by omega)]; exact S9);have Jp:nn L w2 (eH o.hn.toNat) :=((Bh ae).frame Um aj.same).frame ya p9;have Jq:nn L bL (rR o.bi.l) :=((((Bh ad).frame (l1:=l1++[aV.cells 1 [U.int .u8 111],aV.cells 1 [U.int .u8 (u o.act.kind)]]) (by rw[ri]; omega) (fun b ag=>aum ag)).frame (by rw[ri]; exact AI) ae.same).frame Um aj.same).frame ya p9;have aad:nn L cO (eH o.ir.toNat) :=(Bh aj).frame ya p9;have UF:L[l.length]? = some (.cells 11 (a3 (hM o))) :=by rw[p9 _ (by omega)]; exact cN
 obtain⟨M,gD⟩:∃ M,M=jf [[111#8],eH o.hn.toNat,rR o.bi.l,eH o.ir.toNat,[o.act.kind]] :=⟨_,rfl⟩
 have KM:M=[111#8]++eH o.hn.toNat++rR o.bi.l++eH o.ir.toNat++[o.act.kind] :=by rw[gD]; simp[jf]
 have Tm:M.length<=40000:=by rw[KM]; simp only[auu,auF,au1]; omega
 have KL:M.length≠0:=by rw[KM]; simp
 refine R5 (bs:=[[111#8],eH o.hn.toNat,rR o.bi.l,eH o.ir.toNat,[o.act.kind]]) KK rfl rfl ?_ (by rw[<-gD]; omega) (by omega) fun pJ po aG=>?_
 ·intro k w s aX ak;rcases k with _ | _ | _ | _ | _ | k
  ·obtain rfl:=Option.some.inj aX; obtain rfl:=Option.some.inj ak; exact Jo
  ·obtain rfl:=Option.some.inj aX; obtain rfl:=Option.some.inj ak; exact Jp
  ·obtain rfl:=Option.some.inj aX; obtain rfl:=Option.some.inj ak; exact Jq
  ·obtain rfl:=Option.some.inj aX; obtain rfl:=Option.some.inj ak; exact aad
  ·obtain rfl:=Option.some.inj aX; obtain rfl:=Option.some.inj ak; exact aae
  ·cases aX
 rw[<-gD,decide_eq_false KL] at aG;have adO:l.length<=L.length:=by omega
 have v1:cI 1 ca l po pJ M false:=aG.base adO fun b ag=>by
  have fP:b<l1.length:=by omega
  rw[p9 b (by omega),aj.same b (by omega),ae.same b (by rw[ri]; omega),aum fP,ad.same b (by simp; omega),aum ag]
 have Hs:po[l.length]? = some (.cells 11 (a3 (hM o))) :=by rw[aG.same _ (by omega)]; exact UF
 have afG:l.length<po.length:=b6 Hs;have AL:=Hs;simp[a3,hM] at AL;have dI:k2 o=M++(if o.act.kind=1#8 then [] else jw (fr o.act.key))++(if o.act.kind=4#8 then jy o.act.val else []) :=by rw[KM]; rfl
 have lY:=BJ (fr o.act.key);rw[qJ] at lY;have Ls:=au.key;have iL:=Ff o.act.val;have DW:=au.val.2.2;have ah:vV (.str o.act.key)=some (.aZ 1 ((fr o.act.key).map ca)) :=by
  show some (U.aZ 1 (o.act.key.map fun b=>[jD b]))=_;rw[IY]
 by_cases b3:o.act.kind=1#8
 ·have aP:(u o.act.kind:Int)=1:=(iW o.act.kind).2 b3;have fD:¬ o.act.kind=4#8:=by rw[b3]; decide
  rw[if_pos b3,if_neg fD,auV,auV] at dI;simp[AL,aP];exact aT _ _ (by rw[dI]; exact v1)
 ·have aP:¬ (u o.act.kind:Int)=1:=fun h=>b3 ((iW o.act.kind).1 h)
  rw[if_neg b3] at dI;simp[AL,aP,ah];refine Zj (some (fr o.act.key)) (by simpa [qJ] using Ls) (by simp[dD]) (by simp) (fun l' _ _=>by simp[dD]) fun I9 l5 g0=>?_
  obtain⟨ans,MV,FA,vz,_⟩:=(v1.frame g0.le g0.same).app (by_:=1) (x:=I9) (xs:=jw (fr o.act.key)) g0.contents (by simp[ca]) (by omega) (by omega) (by rw[az]; omega);have aaC:=(aG.frame g0.le g0.same).app (by_:=1) (x:=I9) (xs:=jw (fr o.act.key)) g0.contents (by simp[ca]) (by omega) (by omega) (by rw[az]; omega);obtain⟨aue,asc,Pf,aa9,_⟩:=aaC;rw[FA] at Pf;obtain⟨rfl,rfl⟩:=Prod.mk.inj (Option.some.inj Pf);have LL:MV[l.length]? = some (.cells 11 (a3 (hM o))) :=by rw[aa9.same _ (by omega)]; exact UF
  have yG:=LL;simp[a3,hM] at yG;simp[FA];refine c7.cd ?_;simp only[awF] at vz;by_cases fD:o.act.kind=4#8
  ·have nz:(u o.act.kind:Int)=4:=(xk o.act.kind).2 fD;rw[if_pos fD] at dI;have v8:k8 o.act=true:=by
    cases h:k8 o.act with
    | true=>rfl
    | false=>
     unfold hw at ar;have bw:(hM o).bi=o.bi:=rfl;have e3:(hM o).act=o.act:=rfl;rw[bw,if_neg (by omega),yJ,if_pos rfl] at ar;unfold ub at ar;rw[e3,h] at ar;simp at ar
   rw[B6 fD,aus] at v8;simp[yG,nz];refine anE o.act.val au.val v8.2 fun OM aim lh=>?_
   obtain⟨anr,ain,Jx,JL,_⟩:=(vz.frame lh.le lh.same).app (by_:=1) (x:=OM) (xs:=jy o.act.val) lh.contents (by simp[ca]) (by omega) (by omega) (by rw[az]; simp only[auu]; omega);simp[Jx];refine c7.cd ?_;simp;exact aT _ _ (by rw[dI]; exact JL)
  ·have nz:¬ (u o.act.kind:Int)=4:=fun h=>fD ((xk o.act.kind).1 h)
   rw[if_neg fD,auV] at dI;simp[yG,nz];exact aT _ _ (by rw[dI]; exact vz)
theorem PN {o:br} (h:hw o=0) :hw (hM o)=0:=by
 unfold hw at h ⊢;have aP:(hM o).bi=o.bi:=rfl;rw[aP];have aw:ub o=true->ub (hM o)=true:=by
  unfold ub hM;simp only[aus];rintro⟨a,b,c,d,e⟩;exact⟨a,b,c,by decide,by decide⟩
 split at h
 ·cases h
 ·rename_i ad;rw[if_neg ad];split at h
  ·rename_i ae;rw[if_pos ae];split at h
   ·rename_i aj;rw[if_pos (aw aj)]
   ·cases h
  ·cases h
theorem acD {o:br} (h:hw o=0) :k8 o.act=true:=by
 unfold hw at h;split at h
 ·cases h
 ·split at h
  ·split at h
   ·rename_i aj;unfold ub at aj;simp only[aus] at aj;exact aj.2.2.1
   ·cases h
  ·cases h
theorem MQ {s:List UInt8} (h:jR s=true) :s.length<=20:=by
 unfold jR at h;simp only[aus,decide_eq_true_eq] at h;omega
theorem Ss {o:br} (au:iY o) (h:hw o=0) :(iR o).length<=1000:=by
 have ad:=iD o.hn.toNat
 have ae:=iD o.ir.toNat
 have aj:=Et au.ids;have aG:=BJ (fr o.act.key);rw[qJ] at aG;have bF:=Ff o.act.val;have av:=y6 h;have am:=iD o.e.toNat
 have ak:=iD o.s.toNat
 have aC:=acD h;have aK:(if o.act.kind=1#8 then [] else jw (fr o.act.key)).length<=100:=by
  split
  ·simp
  ·rename_i b3;have:o.act.key.length<=20:=by
    by_cases b9:o.act.kind=2#8
    ·rw[JB b9,aus] at aC; exact MQ aC.1
    ·by_cases ho:o.act.kind=3#8
     ·rw[JC ho,aus] at aC; exact MQ aC.1
     ·by_cases fD:o.act.kind=4#8
      ·rw[B6 fD,aus] at aC; exact MQ aC.1
      ·rw[JD b3 b9 ho fD] at aC; cases aC
   omega
 have aU:(if o.act.kind=4#8 then jy o.act.val else []).length<=100:=by
  split
  ·rename_i fD;rw[B6 fD,aus] at aC;have ap:=aC.2;have:o.act.val.text.length<=30:=by
    by_cases bZ:o.act.val.kind=1#8
    ·rw[OH bZ] at ap;simp only[aus,decide_eq_true_eq] at ap;rw[ap.2]; simp
    ·by_cases cc:o.act.val.kind=2#8
     ·rw[OI cc] at ap;simp only[aus,decide_eq_true_eq] at ap;rw[ap.2.2]; simp
     ·by_cases eF:o.act.val.kind=3#8
      ·by_cases al:o.act.val.text.length<=30
       ·exact al
       ·rw[Zd eF] at ap;unfold tp at ap;rw[if_neg al] at ap;simp only[aus,decide_eq_true_eq,vi] at ap;have:=ap.1;rw[eF] at this;exact absurd this (by decide)
      ·rw[OJ bZ cc eF] at ap; cases ap
   omega
  ·simp
 unfold iR k2 opHead;simp only[auu,auF,au1];omega
theorem anw (o:br) (au:iY o) (ar:hw o=0) {l:ao} {K:U->ao->Prop} (aT:∀ w l',cI 1 ca l l' w (iR o) false->K (.bt [w,.int .i64 0]) l') :
  c0 Tryz.prog GS 84 [.aF (a3 o)] l (c:=⟨K⟩) :=by
 apply bq Tryz.func84 [[[0],[1],[2],[3],[4],[6],[7],[8],[9],[5,9,8]]];have ei:=Ja o au;rw[ar] at ei;have ea:=kM o;have j7:=Ss au ar;have lX:(BitVec.setWidth 64 o.e).toNat=o.e.toNat:=by rw[auE]; exact aux (by have:=o.e.isLt; omega)
 have rG:(BitVec.setWidth 64 o.s).toNat=o.s.toNat:=by rw[auE]; exact aux (by have:=o.s.isLt; omega)
 have aL:l.length<(l++[aV.cells 11 (a3 o)]).length:=by simp
 have ez:(l++[aV.cells 11 (a3 o)])[l.length]? = some (.cells 11 (a3 o)) :=by simp
 simp[a3];refine a4 ei (show a5 [U.aF (a3 o)]=true by simp[a5,U.closed,ea]) ?_;simp;refine Zk o au (PN ar) fun bL l1 ad=>?_
 have oD:l1[l.length]? = some (.cells 11 (a3 o)) :=by rw[ad.same _ aL]; exact ez
 have qg:l.length<l1.length:=b6 oD;have yF:=oD;simp[a3] at yF;simp[yF];refine zq _ fun w2 bj ae=>?_
 rw[lX] at ae;have rA:bj[l.length]? = some (.cells 11 (a3 o)) :=by rw[ae.same _ qg]; exact oD
 have rB:=rA;simp[a3] at rB;simp[rB];refine zq _ fun cO eY aj=>?_
 rw[rG] at aj;simp[ad.cells,ae.cells,aj.cells,a8];obtain⟨L,dA⟩:∃ L,L=eY++[aV.cells 3 [bL,w2,cO]] :=⟨_,rfl⟩
 have ya:eY.length<=L.length:=by rw[dA]; simp
 have p9:∀ b,b<eY.length->L[b]? = eY[b]?:=fun b ag=>by rw[dA,aum ag]
 have KK:L[eY.length]? = some (.cells 3 [bL,w2,cO]) :=by rw[dA]; simp
 rw[<-dA];have Jo:nn L bL (k2 o) :=(((Bh ad).frame ae.le ae.same).frame aj.le aj.same).frame ya p9;have Jp:nn L w2 (eH o.e.toNat) :=((Bh ae).frame aj.le aj.same).frame ya p9;have Jq:nn L cO (eH o.s.toNat) :=(Bh aj).frame ya p9;have gD:jf [k2 o,eH o.e.toNat,eH o.s.toNat]=iR o:=by simp[jf,iR]
 have KL:(iR o).length≠0:=by unfold iR k2 opHead; simp
 refine R5 (bs:=[k2 o,eH o.e.toNat,eH o.s.toNat]) KK rfl rfl ?_ (by rw[gD]; omega) (by omega) fun pJ po aG=>?_
 ·intro k w s aX ak;rcases k with _ | _ | _ | k
  ·obtain rfl:=Option.some.inj aX; obtain rfl:=Option.some.inj ak; exact Jo
  ·obtain rfl:=Option.some.inj aX; obtain rfl:=Option.some.inj ak; exact Jp
  ·obtain rfl:=Option.some.inj aX; obtain rfl:=Option.some.inj ak; exact Jq
  ·cases aX
 rw[gD,decide_eq_false KL] at aG;simp;refine aT _ _ (aG.base ?_ fun b ag=>?_)
 ·have:=ae.le; have:=aj.le; omega
 ·have:=ae.le; have:=aj.le;rw[p9 b (by omega),aj.same b (by omega),ae.same b (by omega),ad.same b (by simp; omega),aum ag]
theorem anv (o:br) (au:iY o) (ar:¬ hw o=0) :bz Tryz.prog GS 84 [.aF (a3 o)] (.bt [.aH,.int .i64 (hw o)]) :=by
 refine bX Tryz.checked.mixed bn ?_;apply bq Tryz.func84 [[[0],[1],[2],[3],[4],[6],[7],[8],[9],[5,9,8]]];have ei:=Ja o au;have ea:=kM o;obtain⟨E,c5⟩:∃ E,E=a3 o:=⟨_,rfl⟩
 have rh:E.length=11:=by rw[c5]; rfl
 rw[<-c5] at ei ea ⊢;simp[rh,aul];refine a4 ei (by simp[a5,U.closed,ea]) ?_;simp[ar];exact aQ rfl rfl
theorem anz (o:br) (au:iY o) :bz Tryz.prog GS 55 [.aF (a3 o)] (.bt [gF (m8 o),.int .i64 (hw o)]) :=by
 refine bX Tryz.checked.mixed bn ?_;apply bq Tryz.func55 [];unfold m8;have ea:=kM o;have ax:(rep 32 (.int .u8 0) :List U)=(List.replicate 32 0#8).map bA:=by simp[rep]
 obtain⟨E,c5⟩:∃ E,E=a3 o:=⟨_,rfl⟩
 have rh:E.length=11:=by rw[c5]; rfl
 by_cases aI:hw o=0
 ·have j7:=Ss au aI;have bS:(iU (iR o)).length=32:=xb _;rw[<-c5];simp[rh,aul];rw[c5];refine anw o au aI fun bL l1 ad=>?_
  rw[<-c5] at ad;have ez:l1[1]? = some (.cells 32 (rep 32 (.int .u8 0))) :=by rw[ad.same 1 (by simp)]; rfl
  simp;refine l7 (YL (some (iR o)) (by simp; omega)) (.cons (ad.tj (fun _=>rfl) (some (iR o)) rfl rfl) .nil) (by simp[U.flat,mf,gF,z8 bA (fun _=>rfl)]) ?_;have yL:a8 (rep 32 (.int .u8 0)) 0 ((iU (iR o)).map bA)=(iU (iR o)).map bA:=gq (by rw[auw,bS]; rfl);have lr:(l1.set 1 (aV.cells 32 ((iU (iR o)).map bA)))[1]? = some (.cells 32 ((iU (iR o)).map bA)) :=auz (b6 ez);simp[ez,gF,bS,yL,lr,aul];exact aQ (by rw[if_pos aI,aI]) (by simp[U.closed,a5,mS bA (fun _=>rfl)])
 ·have TT:=anv o au aI;rw[<-c5] at TT ea ⊢;simp[rh,aul];refine a4 TT (by simp[a5,U.closed,ea]) ?_;simp[aI,gF,ax];exact aQ rfl (by simp only[U.closed,a5,mS bA (fun _=>rfl),awf])
end Op

end Go.b0

namespace Go.b0
open Go Go.Proofs Go.RowKit
set_option maxRecDepth 100000
namespace Op
open hl
theorem Y3 {P:Program} {t:TypeId} {ts:List TypeId} {cs:List U} (aM:P.underlying t=some .string) (h:dR P (t::ts) cs) :∃ s cs',cs=.str s::cs'/\dR P ts cs':=by
 cases h
 case str s cs' ak qo h=>exact⟨_,_,rfl,h⟩
 all_goals (exfalso; simp_all; done)
theorem Y5 {ts:List TypeId} {cs:List U} (h:dR Tryz.prog (5::ts) cs) :∃ (x:B) (cs' : List U),cs=bA x::cs'/\dR Tryz.prog ts cs':=by
 obtain⟨k,xU,rfl,ad,ae,aj⟩:=xj (k:=.u8) (by kernel_rfl) h;have bh:(0:Int)<=k:=ad;have bF:k<=255:=ae;refine⟨BitVec.ofNat 8 k.toNat,xU,?_,aj⟩;have:((BitVec.ofNat 8 k.toNat).toNat:Int)=k:=by
  rw[auK,aux (by omega)]; omega
 simp[bA,u]; omega
theorem amW {ts:List TypeId} {cs:List U} (h:dR Tryz.prog (61::ts) cs) :∃ (x:List B) (cs' : List U),cs=x.map bA++cs'/\x.length=32/\dR Tryz.prog ts cs':=by
 have ad:=amU (e:=5) (n:=32) (by kernel_rfl) h;exact Y2 (by kernel_rfl) 32 ad
theorem I2 {ts:List TypeId} {cs:List U} (h:dR Tryz.prog (23::ts) cs) :∃ (s:dv) (cs' : List U),cs=aB s::cs'/\eQ s/\dR Tryz.prog ts cs':=by
 obtain⟨s,cs',rfl,_,ad,ae⟩:=OC (e:=61) (z:=32) (enc:=aY) (Q:=fun x=>x.length=32) (by kernel_rfl) (by kernel_rfl) (fun r az=>by
  obtain⟨x,cs',rfl,af,aj⟩:=amW az;rw[I3 aj,auV];exact⟨x,rfl,af⟩) h
 exact⟨s,cs',rfl,ad,ae⟩
theorem OD {ts:List TypeId} {cs:List U} (h:dR Tryz.prog (85::ts) cs) :∃ (x:D) (cs' : List U),cs=bu x::cs'/\dR Tryz.prog ts cs':=by
 obtain⟨k,xU,rfl,ad,ae,aj⟩:=xj (k:=.u32) (by kernel_rfl) h;have bh:(0:Int)<=k:=ad;have bF:k<=4294967295:=ae;refine⟨BitVec.ofNat 32 k.toNat,xU,?_,aj⟩;have:((BitVec.ofNat 32 k.toNat).toNat:Int)=k:=by
  rw[auK,aux (by omega)]; omega
 simp[bu,u]; omega
structure Jt (o:br) :Prop where
 ids:eQ o.bi
 iP:-9223372036854775808<=o.act.val.num
 mz:o.act.val.num<9223372036854775808
theorem amZ {ts:List TypeId} {cs:List U} (h:dR Tryz.prog (88::ts) cs) :∃ (v:i0) (cs' : List U),cs=[bA v.kind,.int .i64 v.num,dS v.bits,.str v.text]++cs'/\(-9223372036854775808<=v.num/\v.num<9223372036854775808)/\dR Tryz.prog ts cs':=by
 have ad:=zn (fs:=[5,2,86,9]) (by kernel_rfl) h;obtain⟨k,_,rfl,ae⟩:=Y5 ad;obtain⟨n,_,rfl,sL,rx,aj⟩:=xj (k:=.i64) (by kernel_rfl) ae;obtain⟨b,_,rfl,aG⟩:=Y4 aj;obtain⟨s,_,rfl,bh⟩:=Y3 (by kernel_rfl) aG;have bF:n<=9223372036854775807:=rx;exact⟨⟨k,n,b,s⟩,_,rfl,⟨sL,by show n<9223372036854775808; omega⟩,bh⟩
theorem amT {ts:List TypeId} {cs:List U} (h:dR Tryz.prog (90::ts) cs) :∃ (a:Act) (cs' : List U),cs=[bA a.kind,.str a.key,bA a.val.kind,.int .i64 a.val.num,dS a.val.bits,.str a.val.text]++cs'/\(-9223372036854775808<=a.val.num/\a.val.num<9223372036854775808)/\dR Tryz.prog ts cs':=by
 have ad:=zn (fs:=[5,9,88]) (by kernel_rfl) h;obtain⟨k,_,rfl,ae⟩:=Y5 ad;obtain⟨s,_,rfl,aj⟩:=Y3 (by kernel_rfl) ae;obtain⟨v,_,rfl,ap,aG⟩:=amZ aj;exact⟨⟨k,s,v⟩,_,rfl,ap,aG⟩
theorem amX {ts:List TypeId} {cs:List U} (h:dR Tryz.prog (94::ts) cs) :∃ (o:br) (cs' : List U),cs=a3 o++cs'/\Jt o/\dR Tryz.prog ts cs':=by
 have ad:=zn (fs:=[85,23,86,90,92]) (by kernel_rfl) h;obtain⟨a,_,rfl,ae⟩:=OD ad;obtain⟨p,_,rfl,av,aj⟩:=I2 ae;obtain⟨n,_,rfl,aG⟩:=Y4 aj;obtain⟨c,_,rfl,ah,bh⟩:=amT aG;have bF:=zn (fs:=[85,85]) (by kernel_rfl) bh;obtain⟨x,_,rfl,dz⟩:=OD bF;obtain⟨y,cs',rfl,g0⟩:=OD dz;exact⟨⟨a,p,n,c,x,y⟩,cs',by simp[a3],⟨av,ah.1,ah.2⟩,g0⟩
end Op

end Go.b0

namespace Go.b0
open Go Go.Proofs
set_option maxRecDepth 100000
open hl Op
def Bn (a n:Nat) :Nat->Nat
 | 0=>1
 | k+1=>match Nat.beq (n / 2 ^ (63 - k) % 2) 1 with
  | true=>((Bn a n k) ^ 2 % 1000000007)*a % 1000000007
  | false=>(Bn a n k) ^ 2 % 1000000007
theorem Nz (a n:Nat) (aD:n<2 ^ 64) :∀ k,k<=64->Bn a n k=fT a (n / 2 ^ (64 - k))
 | 0,_=>by
  have:n / 2 ^ (64 - 0)=0:=axe aD;rw[this]; rfl
 | k+1,ar=>by
  have aR:=Nz a n aD k (by omega);have ag:=Tx n k (by omega);have e:64 - (k+1)=63 - k:=by omega
  rw[e];unfold Bn;rw[aR,Nat.pow_two,W7];split
  ·rename_i h;have ad:=auW h;rw[W5,ag,ad]
  ·rename_i h;have ad:n / 2 ^ (63 - k) % 2≠1:=fun aS=>by rw[aS] at h; cases h
   rw[ag];congr 1; omega
def W4:List U->Option U
 | [.int .u32 x,.int .u64 n]=>match decide (0<=x)&&(decide (x<4294967296)&&(decide (0<=n)&&decide (n<18446744073709551616))) with
  | true=>some (.int .u32 ((Bn x.toNat n.toNat 64:Nat) :Int))
  | false=>none
 | _=>none
abbrev oR:FuncId × Bool × (List U->Option U) :=(151,false,W4)
theorem pv:tH Tryz.prog GS oR:=by
 intro args r h;refine⟨?_,fun h=>by cases h⟩;simp only[W4] at h;split at h
 ·rename_i x n;split at h
  ·rename_i ah;cases h;simp only[aus,decide_eq_true_eq] at ah;obtain⟨ad,ae,aj,aG⟩:=ah;have af:(U.int .u32 x)=bu (BitVec.ofNat 32 x.toNat) :=by
    have:((BitVec.ofNat 32 x.toNat).toNat:Int)=x:=by
     rw[auK,aux (by omega)]; omega
    simp[bu,u]; omega
   have aD:(U.int .u64 n)=dS (BitVec.ofNat 64 n.toNat) :=by
    have:((BitVec.ofNat 64 n.toNat).toNat:Int)=n:=by
     rw[auK,aux (by omega)]; omega
    simp[dS,u]; omega
   have av:=Is (BitVec.ofNat 32 x.toNat) (BitVec.ofNat 64 n.toNat);have az:bu (hf (BitVec.ofNat 32 x.toNat) (BitVec.ofNat 64 n.toNat).toNat)=.int .u32 ((Bn x.toNat n.toNat 64:Nat) :Int) :=by
    have aP:(BitVec.ofNat 32 x.toNat).toNat=x.toNat:=by rw[auK,aux (by omega)]
    have bw:(BitVec.ofNat 64 n.toNat).toNat=n.toNat:=by rw[auK,aux (by omega)]
    show U.int .u32 (u _)=_;unfold u;rw[r2,aP,bw,Nz _ _ (by omega) 64 (aun _)];simp
   rw[af,aD,<-az];exact av
  ·cases h
 ·cases h
def H1:List (List U)->Option (List eZ)
 | []=>some []
 | [c] ::r=>match FO c with
  | some s=>match Nat.ble s.l.length 10000 with
   | true=>match H1 r with | some l=>some (s::l) | none=>none
   | false=>none
  | none=>none
 | _=>none
theorem Wa:∀ {es:List (List U)} {l:List eZ},H1 es=some l->(es=l.map fun s=>[cD s])/\∀ s∈l,s.l.length<=10000
 | [],l,h=>by cases h; exact⟨rfl,fun s ak=>by cases ak⟩
 | e::r,l,h=>by
  unfold H1 at h;split at h
  ·rename_i aP; cases aP
  ·rename_i c cB aP;cases aP;split at h
   ·rename_i s ak;split at h
    ·rename_i ag;split at h
     ·rename_i l' al;cases h;obtain⟨ad,ae⟩:=Wa al;refine⟨by rw[P5 ak,ad]; rfl,fun x af=>?_⟩;rcases avn.1 af with aj | aj
      ·rw[aj]; exact avq ag
      ·exact ae x aj
     ·cases h
    ·cases h
   ·cases h
  ·cases h
def WZ:List U->Option U
 | [.aZ 1 es]=>match H1 es with
  | some ci=>match Nat.ble ci.length 20 with
   | true=>some (.bt [gF (iU (bytesOf ci)),.int .i64 0])
   | false=>none
  | none=>none
 | _=>none
abbrev y8:FuncId × Bool × (List U->Option U) :=(118,false,WZ)
theorem Bm:tH Tryz.prog GS y8:=by
 intro args r h;refine⟨?_,fun h=>by cases h⟩;simp only[WZ] at h;split at h
 ·split at h
  ·rename_i es ci ux;split at h
   ·rename_i aD;cases h;obtain⟨ad,ae⟩:=Wa ux;rw[ad];exact Nx ci (avq aD) ae
   ·cases h
  ·cases h
 ·cases h
end Go.b0

namespace Go.b0
open Go Go.Proofs
set_option maxRecDepth 100000
namespace Op
open hl
section
variable {α:Type} {z:Nat} {enc:α->List U}
theorem aj2 {l:ao} {v:U} {j k:Nat} {bJ:List α} {Jh:List U} (qr:Jh.length=z) (h:bK z l v j (bJ.map enc)) (ar:k<bJ.length) :
  ∃ e8 eY r,fl (.aq z) v (some (.int .i64 (k:Int))) none none=some e8/\ss Jh l e8=some eY/\fl (.aq z) v none (some (.int .i64 (k:Int))) none=some r ∧
   bK z eY r j ((bJ.take k).map enc)/\cF r=false/\eY.length=l.length/\∀ b,b≠j->eY[b]? = l[b]?:=by
 generalize am:bJ.map enc=es at h;cases h with
 | nil j=>rw[awe] at am; subst am; simp at ar
 | aq j n cap sz cs es ag al aD ax ah dg cW=>
  subst am;have yz:bJ.length=n:=by simpa using aD
  have fZ:jd (.int .i64 (k:Int)) n=some k:=by
   show (if 0<=(k:Int)/\(k:Int)<=(n:Int) then some (k:Int).toNat else none)=some k;rw[if_pos ⟨by omega,by omega⟩]; simp
  have dW:jd (.int .i64 (k:Int)) cap=some k:=by
   show (if 0<=(k:Int)/\(k:Int)<=(cap:Int) then some (k:Int).toNat else none)=some k;rw[if_pos ⟨by omega,by omega⟩]; simp
  have c1:gO n cap (some (.int .i64 (k:Int))) none none=some (k,n,cap) :=by
   show (match jd (.int .i64 (k:Int)) n with | none=>none | some l=>some (l,n,cap))=_;rw[fZ]
  have dx:gO n cap none (some (.int .i64 (k:Int))) none=some (0,k,cap) :=by
   show (match jd (.int .i64 (k:Int)) cap with | none=>none | some h=>some (0,h,cap))=_;rw[dW]
  have ei:¬ cap=k:=by omega
  have Ay:¬ cap=0:=by omega
  have eK:j<l.length:=b6 ag;have hC:k*z<=n*z:=aup _ (by omega);have ku:n*z<=cap*z:=aup _ ah;have pi:(dC Jh (n - k)).length=(n - k)*z:=by rw[Bw,qr]
  have afH:k*z+(n - k)*z=n*z:=by rw[<-au8]; congr 1; omega
  refine⟨.aq z j (k*z) (n - k) (cap - k) sz,l.set j (.cells sz (a8 cs (k*z) (dC Jh (n - k)))),.aq z j 0 k cap sz,?_,?_,?_,?_,rfl,by simp,fun b pd=>by rw[auy (fun h=>pd h.symm)]⟩
  ·rw[zi,c1]; simp[ei]
  ·unfold ss;simp only;rw[if_neg (by omega)];simp[ag,qr]
  ·rw[zi,dx]; simp[Ay]
  ·refine .aq j k cap sz _ _ (auz eK) (by rw[xd (by omega),pi]; omega) (by simp; omega) (fun e am=>?_) (by omega) dg ?_
   ·obtain⟨y,aJ,rfl⟩:=auR.1 am;exact ax _ (av2 (auG aJ))
   ·unfold a8;rw[au3,auT (by rw[auA]; omega),avH,Nat.min_self];have aP:cs.take (k*z)=(cs.take (n*z)).take (k*z) :=by rw[avH,avA hC]
    have bw:bJ.map enc=(bJ.take k).map enc++(bJ.drop k).map enc:=by rw[<-auH,avm]
    have e3:((bJ.take k).map enc).flatten.length=k*z:=by
     rw[o6 (z:=z) (fun e am=>by obtain⟨y,aJ,rfl⟩:=auR.1 am; exact ax _ (av2 (auG aJ)))];rw[auw,auA,avA (by omega)]
    rw[aP,cW,bw,avb,auT (by omega),aul (by omega)]
theorem WO {bJ:List α} (ax:∀ y∈bJ,(enc y).length=z) (k:Nat) (ar:k<=bJ.length) {n:Nat} (aD:bJ.length=n) {cs:List U} (cW:cs.take (n*z)=(bJ.map enc).flatten) (al:n*z<=cs.length) :
  cs.take (k*z)=((bJ.take k).map enc).flatten/\(cs.drop (k*z)).take (n*z - k*z)=((bJ.drop k).map enc).flatten:=by
 have hC:k*z<=n*z:=aup _ (by omega);have bw:bJ.map enc=(bJ.take k).map enc++(bJ.drop k).map enc:=by rw[<-auH,avm]
 have e3:((bJ.take k).map enc).flatten.length=k*z:=by
  rw[o6 (z:=z) (fun e am=>by obtain⟨y,aJ,rfl⟩:=auR.1 am; exact ax _ (auG aJ))];rw[auw,auA,avA (by omega)]
 have aP:cs.take (k*z)=(cs.take (n*z)).take (k*z) :=by rw[avH,avA hC]
 constructor
 ·rw[aP,cW,bw,avb,auT (by omega),aul (by omega)]
 ·rw[<-awp,cW,bw,avb,avl (by omega),awn (by omega),avp]
theorem WP {l:ao} {v:U} {j k:Nat} {bJ:List α} {x:α} {X:U} (cn:X.cells=some (enc x)) (h:bK z l v j (bJ.map enc)) (ax:∀ y∈bJ,(enc y).length=z) (ar:k<bJ.length) (af:(enc x).length=z) :
  ∃ p l',cL (.aq z) v (.int .i64 (k:Int))=some p/\l9 z l p (X)=some l'/\bK z l' v j ((bJ.set k x).map enc)/\l'.length=l.length/\∀ b,b≠j->l'[b]? = l[b]?:=by
 generalize am:bJ.map enc=es at h;cases h with
 | nil j=>rw[awe] at am; subst am; simp at ar
 | aq j n cap sz cs es ag al aD qq ah dg cW=>
  subst am;have yz:bJ.length=n:=by simpa using aD
  have eK:j<l.length:=b6 ag;have bd:=af;have hC:(k+1)*z<=n*z:=aup _ (by omega);have ku:n*z<=cap*z:=aup _ ah;have ak:(k+1)*z=k*z+z:=by rw[au2]
  obtain⟨f1,_⟩:=WO ax k (by omega) yz cW (by omega);obtain⟨_,f2⟩:=WO ax (k+1) (by omega) yz cW (by omega);refine⟨.ptr j (k*z) sz,l.set j (.cells sz (a8 cs (k*z) (enc x))),?_,?_,?_,by simp,fun b pd=>by rw[auy (fun h=>pd h.symm)]⟩
  ·simp[cL]; omega
  ·unfold l9;simp[ag,cn,bd];omega
  ·refine .aq j n cap sz _ _ (auz eK) (by rw[xd (by omega),bd]; omega) (by simp; omega) (fun e am=>?_) ah dg ?_
   ·obtain⟨y,aJ,rfl⟩:=auR.1 am;rcases awx aJ with h | h
    ·exact ax _ h
    ·rw[h]; exact bd
   ·have lr:bJ.set k x=bJ.take k++(x::bJ.drop (k+1)) :=by rw[avQ,if_pos ar]
    rw[lr,auH,auL,avb,au9,<-f1,<-f2];unfold a8;have t1:(cs.take (k*z)).length=k*z:=by rw[auA]; omega
    have BK:(cs.take (k*z)).take (n*z)=cs.take (k*z) :=aul (by rw[t1]; omega);have BL:(enc x).take (n*z - k*z)=enc x:=aul (by rw[bd]; omega);rw[au3,bd,<-ak,awa,t1,BK,awa,BL,bd,show n*z - k*z - z=n*z - (k+1)*z by omega]
end

end Op

end Go.b0

namespace Go.b0
open Go Go.Proofs
set_option maxRecDepth 100000
theorem aj9 {z:Nat} {l:ao} {v:U} {j:Nat} {es:List (List U)} (h:bK z l v j es) (ap:cF v=false) :nr (bb l) (bb (l.set j .dead))/\np (bb l) (bb (l.set j .dead)) v (.aZ z es) :=by
 cases h with
 | nil j=>cases ap
 | aq j n cap sz cs es ag al aD ax ah dg cW=>
 have aL:=b6 ag;have bf:(bb (l.set j .dead)).f j=.dead:=by rw[kH,avv,if_pos rfl,if_pos aL]
 have dO:n*z<=cap*z:=aup _ ah;refine⟨⟨by simp,fun bg=>?_⟩,.aq z j 0 n cap sz cs es (lD.2 ag) bf aD ax (by omega) (fun i k e c c' am ar mZ=>?_)⟩
 ·by_cases b4:bg=j
  ·subst b4; exact .inr ⟨sz,cs,lD.2 ag,.inl bf⟩
  ·left;rw[kH,kH,avv,if_neg (by omega)]
 ·have yt:k<z:=by rw[<-ax e (aut am)]; exact (auk.1 ar).1
  have ay:=(auk.1 am).1;have hm:i*z+z<=n*z:=by rw[<-au2]; exact aup _ (by omega)
  have ad:=z9 ax am yt;rw[<-cW,auI (by omega),ar] at ad;rw[avz,ad] at mZ;cases mZ;exact .same _
end Go.b0

namespace Go.b0
open Go Go.Proofs
set_option maxRecDepth 100000
namespace Op
theorem x2 {α:Type} {enc:α->List U} {z:Nat} {a:List α} (h:∀ x∈a,(enc x).length=z) :(a.map enc).flatten.length=a.length*z:=by
 rw[o6 (z:=z) (fun e am=>by obtain⟨y,aJ,rfl⟩:=auR.1 am; exact h y aJ),auw]
theorem Pv {α:Type} {enc:α->List U} {z by_:Nat} (l:ao) (s:db α) (h:∀ x∈s.l,(enc x).length=z) (aI:z≠0) (ag:by_≠0) (az:s.l.length*by_<=cw) :
  gX (l++[aV.cells 0 []]) z by_ (.aq z l.length 0 0 0 0) (cE z enc s)=some (.aq z l.length 0 s.l.length s.l.length (s.l.length*z),l++[.cells (s.l.length*z) (s.l.map enc).flatten]) :=by
 have hp:=x2 h;unfold gX;rw[vS];simp only[];unfold jB;by_cases ax:s.l.length=0
 ·have aI:s.l=[] :=au4.1 ax;rw[aI];simp
 ·rw[if_neg ax,if_neg (by omega)];have bP:¬ s.l=[] :=fun h=>ax (by rw[h]; rfl)
  simp[az,aI,ax,bP]
theorem Bl {α:Type} {enc:α->List U} {z:Nat} {l:ao} {b n:Nat} {a:List α} (aC:∀ x∈a,(enc x).length=z) (aD:a.length=n) (ag:l[b]? = some (.cells (n*z) (a.map enc).flatten)) :bK z l (.aq z b 0 n n (n*z)) b (a.map enc) :=by
 have hp:=x2 aC;refine .aq b n n (n*z) _ _ ag (by rw[hp,aD]) (by simp[aD]) (fun e am=>?_) (aun _) (aun _) ?_
 ·obtain⟨y,aJ,rfl⟩:=auR.1 am; exact aC y aJ
 ·rw[aul (by rw[hp,aD]; omega)]
end Op

end Go.b0

namespace Go.b0
open Go Go.Proofs
set_option maxRecDepth 100000
namespace Op
open hl
theorem aar {l:List D} {k:Nat} {x:D} (h:l[k]? = some x) (av:(l.take k).all gG=true) :(l.take (k+1)).all gG=gG x:=by
 rw[auP,h,List.all_append,av]; simp
theorem aap {l:List D} {k:Nat} {x:D} (h:l[k]? = some x) (af:gG x=false) :l.all gG=false:=by
 cases aS:l.all gG with
 | false=>rfl
 | true=>rw[ava.1 aS x (aut h)] at af; cases af
structure ZP (l:List D) (k:Nat) (σ:bc) (h:ao) :Prop where
 bo:σ 5=cE 1 eT (some l)
 cu:σ 6=.int .i64 l.length
 dU:σ 7=.int .i64 k
 av:(l.take k).all gG=true
theorem S0 (l:List D) (al:l.length<=1000) :bz Tryz.prog GS 180 [cE 1 eT (some l)] (.bool (l.all gG)) :=by
 refine bX Tryz.checked.mixed bn ?_;apply bq Tryz.func180 [];have bC:ce (.aq 1) (cE 1 eT (some l))=some (.int .i64 l.length) :=s5 _;simp[bC];refine cl l.length (ZP l) ?_ ⟨by simp,by simp,by simp,by simp⟩;rintro k σ h ar ⟨bo,cu,dU,av⟩;obtain⟨σ,rfl⟩:=lB bo cu dU;clear bo cu dU;by_cases h:k<l.length
 ·obtain⟨x,af,_⟩:=bI h;have bY:cL (.aq 1) (cE 1 eT (some l)) (.int .i64 k)=some (.bM (eT x) 0) :=by rw[uJ]; simp[af]
  have fq:IntKind.i64.wrap ((k:Int)+1)=(k+1:Nat) :=wrap_i64 (by omega) (by omega);simp[h,bY,eT];refine a4 (MC x) rfl ?_;cases aw:gG x with
  | false=>
   have:=aap af aw;simp;exact aQ (by rw[this]) rfl
  | true=>
   simp[fq];exact⟨by omega,by simp,by simp,by simp,by rw[aar af av]; exact aw⟩
 ·have ff:k=l.length:=by omega
  subst ff;rw[auU] at av;simp;exact aQ (by rw[av]) rfl
theorem ala {l:ao} {b:Nat} {x:D} (h:l[b]? = some (.cells 1 [bu x])) :gA (bb l) (.aq 1 b 0 1 1 1) (cE 1 eT (some [x])) :=by
 refine Ix (rest:=[]) (es:=[[bu x]]) (by simpa using h) rfl (by simp) (by simp[a5,U.closed])
def EO (a b:D) :D:=BitVec.ofNat 32 (a.toNat*b.toNat % 1000000007)
theorem ac8 (a b:D) :bz Tryz.prog GS 139 [bu a,bu b] (.bt [bu (if gG a&&gG b then EO a b else 0#32),.int .i64 (if gG a&&gG b then 0 else 2)]) :=by
 refine bX Tryz.checked.mixed bn ?_;apply bq Tryz.func139 [];simp;refine l7 (S0 [a,b] (by simp)) (.cons (ES (by simp)) .nil) rfl ?_;cases aC:gG a with
 | false=>
  simp[aC];exact aQ rfl rfl
 | true=>
  cases ag:gG b with
  | false=>
   simp[aC,ag];exact aQ rfl rfl
  | true=>
   have aL:a.toNat<1000000007:=by unfold gG at aC; simp at aC; exact aC.1.2
   simp[aC,ag];refine l7 (Nb [a,b] (by simp)) (.cons (.same _ rfl) (.cons (ES (by simp)) .nil)) rfl ?_;simp[Na a b aL];exact aQ rfl rfl
theorem ac9 (a:D) (n:Q) :bz Tryz.prog GS 138 [bu a,dS n] (.bt [bu (if gG a then hf a n.toNat else 0#32),.int .i64 (if gG a then 0 else 2)]) :=by
 refine bX Tryz.checked.mixed bn ?_;apply bq Tryz.func138 [];simp;refine l7 (S0 [a] (by simp)) (.cons (ala (by simp)) .nil) rfl ?_;cases aC:gG a with
 | false=>
  simp[aC];exact aQ rfl rfl
 | true=>
  simp[aC];refine a4 (Is a n) rfl ?_;simp;exact aQ rfl rfl
theorem ac7 (n:Q) :bz Tryz.prog GS 108 [dS n] (bu (hf 4#32 n.toNat)) :=by
 refine bX Tryz.checked.mixed bn ?_;apply bq Tryz.func108 [];simp;refine a4 (Is 4#32 n) rfl ?_;simp;exact aQ rfl rfl
theorem NH (a:D) (n:Q) :bz Tryz.prog GS 220 [bu a,dS n] (bu (hf a n.toNat)) :=by
 refine bX Tryz.checked.mixed bn ?_;apply bq Tryz.func220 [];have bh:(a.setWidth 64:Q).toNat=a.toNat:=by rw[auE]; omega
 have bF:=za a.toNat n.toNat
 have dz:(BitVec.ofNat 64 (fT a.toNat n.toNat)).setWidth 32=hf a n.toNat:=by
  apply auD;rw[r2,auE,auK];omega
 have av:=W8 (a.setWidth 64) n (by rw[bh]; exact a.isLt);rw[bh] at av;simp;refine a4 av rfl ?_;simp[dz];exact aQ rfl rfl
theorem akC (n:Q) :bz Tryz.prog GS 235 [dS n] (bu (hf 4#32 n.toNat)) :=by
 refine bX Tryz.checked.mixed bn ?_;apply bq Tryz.func235 [];simp;refine a4 (NH 4#32 n) rfl ?_;simp;exact aQ rfl rfl
theorem akK (a:D) :bz Tryz.prog GS 219 [bu a] (.bt [bu (if gG a then hf a 500000002 else 0#32),.int .i64 (if gG a then 0 else 2)]) :=by
 refine bX Tryz.checked.mixed bn ?_;apply bq Tryz.func219 [];simp;refine a4 (XH a) rfl ?_;cases aC:gG a with
 | false=>
  simp;exact aQ rfl rfl
 | true=>
  simp;refine a4 (NH a 500000002#64) rfl ?_;simp;exact aQ rfl rfl
theorem akS (a b:D) :bz Tryz.prog GS 222 [bu a,bu b] (bu (EO a b)) :=by
 refine bX Tryz.checked.mixed bn ?_;apply bq Tryz.func222 [];have bh:∀ a:D,(a.setWidth 64:Q).toNat=a.toNat:=fun a=>by rw[auE]; omega
 have dz:((a.setWidth 64:Q)*b.setWidth 64 % 1000000007#64).setWidth 32=EO a b:=by
  apply auD;rw[auE,Bd _ _ (by rw[bh]; exact a.isLt) (by rw[bh]; exact b.isLt),bh,bh];unfold EO;rw[auK]
 simp[IC,dz];exact aQ rfl rfl
def vA (l:List B) :Q:=l.foldl (fun n x=>(n <<< 8) ||| x.setWidth 64) 0#64
theorem PX (l:List B) (k:Nat) (x:B) (h:l[k]? = some x) :vA (l.take (k+1))=(vA (l.take k) <<< 8) ||| x.setWidth 64:=by
 rw[auP,h]; simp[vA,awG]
theorem al0 (a:Q) (x:B) :(a <<< 8) ||| x.setWidth 64=256#64*a+x.setWidth 64:=by
 apply auD;have af:x.toNat<256:=x.isLt;have aC:=a.isLt;rw[BitVec.toNat_or,awm,axd,awb,auE];have ad:x.toNat % 2 ^ 64=x.toNat:=aux (by omega);have ae:a.toNat <<< 8 % 2 ^ 64=(a.toNat % 2 ^ 56) <<< 8:=by rw[avS,avS]; omega
 have aj:=awU (b:=x.toNat) (i:=8) (by omega) (a.toNat % 2 ^ 56);rw[ad,ae,<-aj,avS];have aG:(256#64).toNat=256:=rfl;rw[aG];omega
def jG (n:D) :List B:=[(n >>> 24).setWidth 8,(n >>> 16).setWidth 8,(n >>> 8).setWidth 8,n.setWidth 8]
def mg (l:List D) :List B:=l.flatMap jG
theorem ac2 {l:List D} {k:Nat} {x:D} (h:l[k]? = some x) :mg (l.take (k+1))=mg (l.take k)++jG x:=by
 unfold mg; rw[auP,h,awV]; simp
theorem SK (l:List D) :(mg l).length=4*l.length:=by
 induction l with
 | nil=>rfl
 | cons x l aR=>unfold mg at aR ⊢; rw[List.flatMap_cons,auu,aR,auF]; simp[jG]; omega
def De (b:List B) :Q:=vA ((iU b).take 8)
theorem alb {l:ao} {b:Nat} {v m a6 cm:U} (h:l[b]? = some (.cells 2 [v,m])) (ad:gA (bb l) v a6) (ae:gA (bb l) m cm) :gA (bb l) (.aq 1 b 0 2 2 2) (.aZ 1 [[a6],[cm]]) :=by
 refine .aq 1 b 0 2 2 2 [v,m] [[a6],[cm]] (lD.2 h) rfl (by simp) (by simp) (fun i j e c c' am ai ah=>?_);rcases i with _ | _ | i
 ·simp at am; subst am;rcases j with _ | j
  ·simp at ai ah; subst ai ah; exact ad
  ·simp at ai
 ·simp at am; subst am;rcases j with _ | j
  ·simp at ai ah; subst ai ah; exact ae
  ·simp at ai
 ·simp at am
theorem al9 {b:Nat}:fl (.arr 32 1) (.ptr b 0 32) none (some (.int .i64 8)) none=some (.aq 1 b 0 8 32 32) :=by
 have:gO 32 32 none (some (.int .i64 8)) none=some (0,8,32) :=rfl;simp only[fl,this]; rfl
structure ZZ (hu:B) (m:eZ) (fk:List D) (k:Nat) (σ:bc) (l:ao) :Prop where
 aK:σ 1=cD m
 tX:σ 21=cE 1 eT (some fk)
 tY:σ 22=.int .i64 fk.length
 tZ:σ 23=.int .i64 k
 ex:∃ v,σ 8=v/\cI 1 ca [] l v (hu::mg (fk.take k)) false
structure ZQ (d:List B) (e:Int) (k:Nat) (σ:bc) (l:ao) :Prop where
 lL:σ 12=.int .i64 e
 lM:σ 13=dS (vA (d.take k))
 Ah:∃ b n,σ 49=.aq 1 b 0 8 n n/\l[b]? = some (.cells n (d.map bA))/\n=32
 Ai:σ 50=.int .i64 8
 Ky:σ 51=.int .i64 k
set_option maxHeartbeats 1000000 in
theorem aeb (hu:B) (m:eZ) (hm:m.l.length<=9991) (fk:List D) (al:fk.length<=10) :bz Tryz.prog GS 156 [bA hu,cD m,cE 1 eT (some fk)] (.bt [dS (De (hu::(mg fk++m.l))),.int .i64 0]) :=by
 refine bX Tryz.checked.mixed bn ?_;apply bq Tryz.func156 [];have az:cw=140737488355328:=rfl;have bC:ce (.aq 1) (cD m)=some (.int .i64 m.l.length) :=s5 _;have afC:ce (.aq 1) (cE 1 eT (some fk))=some (.int .i64 fk.length) :=s5 _;have gP:¬ (9991:Int)<(m.l.length:Int) :=by omega
 have KC:¬ 9991<m.l.length:=by omega
 have fp:=mT m;simp[bC,afC,gP,KC];refine cl fk.length (ZZ hu m fk) ?_ ⟨by simp,by simp,by simp,by simp,_,rfl,⟨0,rZ (n:=1) (a:=[hu]) rfl rfl,by simp,by simp,.inr (by simp),rfl⟩⟩;rintro k σ l ar ⟨aK,tX,tY,tZ,v,e4,eV⟩;obtain⟨σ,rfl⟩:=lC aK e4 tX tY tZ;clear aK e4 tX tY tZ;by_cases h:k<fk.length
 ·obtain⟨x,af,_⟩:=bI h;have bY:cL (.aq 1) (cE 1 eT (some fk)) (.int .i64 k)=some (.bM (eT x) 0) :=by rw[uJ]; simp[af]
  have fq:IntKind.i64.wrap ((k:Int)+1)=(k+1:Nat) :=wrap_i64 (by omega) (by omega);have ak:=ac2 af;have hp:=SK (fk.take k);rw[auA] at hp;obtain⟨a6,l',a2,a9,bV⟩:=(eV.more [aV.cells 4 ((jG x).map bA)]).app (by_:=1) (x:=.aq 1 l.length 0 4 4 4) (xs:=jG x) (by rw[Cz]; simp[dD,jG]) (fun y _=>rfl) (by omega) (by omega) (by rw[az]; simp[jG]; omega);rw[show (jG x).map bA=[.int .u8 (u (BitVec.setWidth 8 (x >>> 24))),.int .u8 (u (BitVec.setWidth 8 (x >>> 16))),.int .u8 (u (BitVec.setWidth 8 (x >>> 8))),.int .u8 (u (BitVec.setWidth 8 x))] from rfl] at a2;simp[h,bY,eT,fq,a2];refine c7.cd ?_;simp[fq];exact⟨by omega,by simp,by simp,by simp,by simp,a6,by simp,by rw[ak,<-avj]; exact a9⟩
 ·have ff:k=fk.length:=by omega
  subst ff;rw[auU] at eV;have hp:=SK fk;have av:=Nx [some (hu::mg fk),m] (by simp) (fun s ak=>by
   rcases avn.1 ak with h | h
   ·rw[h]; show (hu::mg fk).length<=_; simp; omega
   ·rw[avk.1 h]; omega)
  have dQ:bytesOf [some (hu::mg fk),m]=hu::(mg fk++m.l) :=by simp[bytesOf]
  rw[dQ] at av;have rI:=eV.cells;have AJ:(cD m).cells=some [cD m] :=by cases m<;>rfl
  obtain⟨je,yg⟩:∃ je,je=iU (hu::(mg fk++m.l)) :=⟨_,rfl⟩
  have iJ:je.length=32:=by rw[yg]; exact xb _
  rw[<-yg] at av;have K8:(je.map bA).length=32:=by simp[iJ]
  have Lh:gF je=.aF (je.map bA) :=rfl;rw[Lh] at av;have L2:a8 (rep 32 (.int .u8 0)) 0 (je.map bA)=je.map bA:=gq (by rw[K8]; rfl);have bS:∀ b,fl (.arr 32 1) (.ptr b 0 32) none (some (.int .i64 8)) none=some (.aq 1 b 0 8 32 32) :=fun b=>al9 (b:=b)
  simp[rI,AJ];refine l7 av (.cons (alb (by simp) ((eV.more _).tj (fun _=>rfl) (some (hu::mg fk)) rfl rfl) (.same _ fp)) .nil) (by simp[U.flat,mf,gF,z8 bA (fun _=>rfl)]) ?_;simp[iJ,L2,bS];refine cl 8 (ZQ je 0) ?_ ⟨by simp,by simp[vA],⟨l.length+1,32,by simp,by simp[List.getElem?_append],rfl⟩,by simp,by simp⟩;clear eV;rintro k σ l ar ⟨lL,lM,⟨b,n,Ah,ag,rfl⟩,Ai,Ky⟩;obtain⟨σ,rfl⟩:=lC lL lM Ah Ai Ky;clear lL lM Ah Ai Ky;by_cases h:k<8
  ·obtain⟨x,af,_⟩:=bI (l:=je) (k:=k) (by omega);have fq:IntKind.i64.wrap ((k:Int)+1)=(k+1:Nat) :=wrap_i64 (by omega) (by omega);have ak:=PX je k x af;have ff:(k:Int)<8:=by omega
   have HI:(je.map bA)[k]? = some (bA x) :=by rw[auq,af]; rfl
   simp[h,ff,ag,fq,af];exact⟨by simp,by simp[ak],⟨b,32,by simp,by simpa using ag,rfl⟩,by simp,by simp⟩
  ·have iz:k=8:=by omega
   subst iz;simp;exact aQ (by unfold De; rw[yg]) rfl
def Ck (r y:D) (m:List B) :D:=(De (99#8::(mg [r,y]++m)) % 500000003#64).setWidth 32
theorem XM (x:Q) :ct .rem .u64 (u x) .u64 500000003=some (.int .u64 (u (x % 500000003#64))) :=zM x 500000003#64 (by decide)
theorem anu (r y:D) (m:eZ) (hm:m.l.length<=9991) :bz Tryz.prog GS 115 [bu r,bu y,cD m] (.bt [bu (Ck r y m.l),.int .i64 0]) :=by
 refine bX Tryz.checked.mixed bn ?_;apply bq Tryz.func115 [];have fp:=mT m;simp;refine l7 (aeb 99#8 m hm [r,y] (by simp)) (.cons (.same _ rfl) (.cons (.same _ fp) (.cons (ES (by simp)) .nil))) rfl ?_;simp[XM];exact aQ rfl rfl
theorem NE (a b:D) (ag:b≠0#32) :ct .quo .u32 (u a) .u32 (u b)=some (.int .u32 (u (a / b))) :=by
 have bO:(b.toNat:Int)≠0:=fun e=>ag (auD (by simpa using e))
 show (if IntKind.u32=IntKind.u32/\(b.toNat:Int)≠0 then some (U.int .u32 (IntKind.u32.wrap ((a.toNat:Int).tdiv b.toNat))) else none)=_;rw[if_pos ⟨rfl,bO⟩,BR];congr 2;have:((a.toNat:Int).tdiv b.toNat)=((a.toNat / b.toNat:Nat) :Int) :=rfl;rw[this,avZ];congr 1;apply auD;rw[auK,avM];exact aux (Nat.lt_of_le_of_lt (Nat.div_le_self _ _) a.isLt)
theorem SJ (x:D) {l:ao} {K:U->ao->Prop} (aT:∀ v l',cI 1 ca l l' v (jG x) false->K v l') :c0 Tryz.prog GS 233 [bu x] l (c:=⟨K⟩) :=by
 apply bq Tryz.func233 [];have q1:ct .quo .u32 (u x) .u32 16777216=some (.int .u32 (u (x / 16777216#32))) :=NE x 16777216#32 (by decide);have cV:ct .quo .u32 (u x) .u32 65536=some (.int .u32 (u (x / 65536#32))) :=NE x 65536#32 (by decide);have fy:ct .quo .u32 (u x) .u32 256=some (.int .u32 (u (x / 256#32))) :=NE x 256#32 (by decide);have qC:∀ y:D,ct .rem .u32 (u y) .u32 256=some (.int .u32 (u (y % 256#32))) :=fun y=>aaV y 256#32 (by decide)
 have af:=x.isLt;have aP:BitVec.setWidth 8 (x / 16777216#32)=BitVec.setWidth 8 (x >>> 24) :=by
  apply auD;rw[auE,auE,avM,avd,auQ];rfl
 have bw:BitVec.setWidth 8 (x / 65536#32 % 256#32)=BitVec.setWidth 8 (x >>> 16) :=by
  apply auD;rw[auE,auE,avC,avM,avd,auQ];show x.toNat / 65536 % 256 % 256=x.toNat / 65536 % 256;omega
 have e3:BitVec.setWidth 8 (x / 256#32 % 256#32)=BitVec.setWidth 8 (x >>> 8) :=by
  apply auD;rw[auE,auE,avC,avM,avd,auQ];show x.toNat / 256 % 256 % 256=x.toNat / 256 % 256;omega
 have nz:BitVec.setWidth 8 (x % 256#32)=BitVec.setWidth 8 x:=by
  apply auD;rw[auE,auE,avC];show x.toNat % 256 % 256=x.toNat % 256;omega
 simp[q1,cV,fy,qC,aP,bw,e3,nz];exact aT _ _ ⟨l.length,rZ (n:=4) (a:=jG x) rfl (by simp; rfl),by simp,fun b ag=>aum ag,.inr (by simp),rfl⟩
structure Z7 (d:List B) (k:Nat) (σ:bc) (l:ao) :Prop where
 a1:σ 3=.ptr 0 0 32
 bl:σ 4=dS (vA (d.take k))
 bo:σ 5=.int .i64 k
 kg:l[0]? = some (.cells 32 (d.map bA))
theorem ajw (s:eZ) (ak:s.l.length<=1000000) :bz Tryz.prog GS 234 [cD s] (dS (De s.l)) :=by
 refine bX Tryz.checked.mixed bn ?_;apply bq Tryz.func234 [];have uA:=XI s ak;have cW:=mT s;obtain⟨je,yg⟩:∃ je,je=iU s.l:=⟨_,rfl⟩
 have iJ:je.length=32:=by rw[yg]; exact xb _
 rw[<-yg] at uA;have Lh:gF je=.aF (je.map bA) :=rfl;rw[Lh] at uA;have K8:(je.map bA).length=32:=by simp[iJ]
 have L2:a8 (rep 32 (.int .u8 0)) 0 (je.map bA)=je.map bA:=gq (by rw[K8]; rfl);simp;refine a4 uA (by simp[a5,cW]) ?_;simp[iJ,L2];refine cl 8 (Z7 je) ?_ ⟨by simp,by simp[vA],by simp,rfl⟩;rintro k σ l ar ⟨a1,bl,bo,kg⟩;obtain⟨σ,rfl⟩:=lB a1 bl bo;clear a1 bl bo;by_cases h:k<8
 ·obtain⟨x,af,_⟩:=bI (l:=je) (k:=k) (by omega);have fq:IntKind.i64.wrap ((k:Int)+1)=(k+1:Nat) :=wrap_i64 (by omega) (by omega);have ak:=PX je k x af;rw[al0] at ak;have ff:(k:Int)<8:=by omega
  have Lo:k<32:=by omega
  simp[h,ff,Lo,kg,fq,af];exact⟨by omega,by simp,by simp[ak],by simp,kg⟩
 ·have iz:k=8:=by omega
  subst iz;simp;exact aQ (by unfold De; rw[yg]) rfl
theorem akE (r y:D) (m:eZ) (hm:m.l.length<=900000) :bz Tryz.prog GS 221 [bu r,bu y,cD m] (bu (Ck r y m.l)) :=by
 refine bX Tryz.checked.mixed bn ?_;apply bq Tryz.func221 [];have az:cw=140737488355328:=rfl;have fp:=mT m;simp;refine SJ r fun ch l1 ad=>?_
 have He:=ad.le;have af4:cI 1 ca [] l1 (.aq 1 0 0 1 1 1) [99#8] false:=⟨0,rZ (n:=1) (a:=[99#8]) rfl (by rw[ad.same 0 (by simp)]; rfl),by simp,by simp,.inr (by simp),rfl⟩
 obtain⟨bU,bj,a2,a9,bV⟩:=af4.app (by_:=1) (x:=ch) (xs:=jG r) ad.contents (fun _ _=>rfl) (by omega) (by omega) (by rw[az]; simp[jG]);simp[a2];refine c7.cd ?_;simp;refine SJ y fun e8 eY aj=>?_
 have af5:cI 1 ca [] eY bU ([99#8]++jG r) false:=a9.frame aj.le aj.same;obtain⟨gW,po,c1,dx,lc⟩:=af5.app (by_:=1) (x:=e8) (xs:=jG y) aj.contents (fun _ _=>rfl) (by omega) (by omega) (by rw[az]; simp[jG]);simp[c1];refine c7.cd ?_;obtain⟨hZ,MU,b3,b9,ho⟩:=dx.app (by_:=1) (x:=cD m) (xs:=m.l) (R7 _ _) (fun _ _=>rfl) (by omega) (by omega) (by rw[az]; simp[jG]; omega);simp[b3];refine c7.cd ?_;have ag:(db.l (some ([99#8]++jG r++jG y++m.l)) :List B)=99#8::(mg [r,y]++m.l) :=by simp[mg]
 have uz:=ajw (some ([99#8]++jG r++jG y++m.l)) (by rw[ag]; simp[mg,jG]; omega);rw[ag] at uz;simp;refine l7 uz (.cons (b9.tj (fun _=>rfl) (some ([99#8]++jG r++jG y++m.l)) (by simp) rfl) .nil) rfl ?_;simp[XM];exact aQ rfl rfl
theorem Ir (a n k:Nat) :fT (fT a n) k=fT a (n*k) :=by
 unfold fT; rw[<-awZ,<-Nat.pow_mul]
theorem W6 (n:Nat) :fT 1 n=1:=by unfold fT; rw[Nat.one_pow]
theorem akm (a m n:Nat) :fT a (m+n)=fT a m*fT a n % 1000000007:=by
 unfold fT; rw[awY,awJ]
theorem aaG:fT 4 500000003=1:=by
 have h:=Nz 4 500000003 (by decide) 64 (aun _);rw[show 500000003 / 2 ^ (64 - 64)=500000003 from rfl] at h;rw[<-h];decide +kernel
theorem MD {y:D} (h:fT y.toNat 500000003=1) (n:Nat) :gG (hf y n)=true:=by
 have ap:=r2 y n;have aL:=za y.toNat n;have ad:fT (fT y.toNat n) 500000003=1:=by
  rw[Ir,axb,<-Ir,h,W6]
 have aI:fT y.toNat n≠0:=fun e=>by
  rw[e] at ad;have ax:∀ n,0<n->fT 0 n=0:=fun n aD=>by unfold fT; rw[Nat.zero_pow aD]
  rw[ax _ (by decide)] at ad;cases ad
 unfold gG;rw[ap,decide_eq_true (by omega),decide_eq_true aL,decide_eq_true ad]; rfl
theorem Vl {y:D} (h:gG y=true) :fT y.toNat 500000003=1:=by
 unfold gG at h; simp only[aus,decide_eq_true_eq] at h; exact h.2
theorem aaF {y:D} (h:fT y.toNat 500000003=1) {e:Nat} (am:e<500000003) :hf (hf y e) 500000002=hf y (500000003 - e) :=by
 apply auD;rw[r2,r2,r2,Ir];rcases e with _ | e
 ·rw[av7,awD,h];unfold fT; rfl
 ·have aP:(e+1)*500000002=500000003*e+(500000003 - (e+1)) :=by omega
  rw[aP,akm,<-Ir,h,W6,awI,aux (za _ _)]
def ER (y:D) (e s:D) :D:=EO (hf 4#32 s.toNat) (hf y (500000003 - e.toNat))
def E3 (y:D) (m:List B) (e s:D) :Bool:=jF e&&(jF s&&decide (Ck (ER y e s) y m=e))
theorem amr {e:D} (am:e.toNat<500000003) :(500000003#64 - e.setWidth 64).toNat=500000003 - e.toNat:=by
 rw[BitVec.toNat_sub,auE];have:(500000003#64).toNat=500000003:=rfl;rw[this]; omega
theorem anF (y:D) (aJ:gG y=true) (m:eZ) (hm:m.l.length<=9991) (e s:D) :bz Tryz.prog GS 100 [bu y,cD m,.aF [bu e,bu s]] (.int .i64 (if E3 y m.l e s then 0 else 22)) :=by
 refine bX Tryz.checked.mixed bn ?_;apply bq Tryz.func100 [];unfold E3;have bC:ce (.aq 1) (cD m)=some (.int .i64 m.l.length) :=s5 _;have gP:¬ (9991:Int)<(m.l.length:Int) :=by omega
 have KC:¬ 9991<m.l.length:=by omega
 have fp:=mT m;have a7:=Vl aJ;have T2:=MC y;rw[aJ] at T2;simp;refine a4 T2 rfl ?_;obtain⟨M,gD⟩:∃ M:Int,M=if u e<u s then u s else u e:=⟨_,rfl⟩
 have yy:uT (bu e) (bu s)=some (.int .u32 M) :=by rw[gD]; simp[uT,bu]
 have Tl:(500000003:Int)<=M<->500000003<=e.toNat\/500000003<=s.toNat:=by
  rw[gD]; unfold u; split<;>omega
 simp[bC,gP,KC,yy];by_cases ad:500000003<=e.toNat\/500000003<=s.toNat
 ·have ag:(jF e&&(jF s&&decide (Ck (ER y e s) y m.l=e)))=false:=by
   unfold jF;rcases ad with h | h
   ·rw[decide_eq_false (by omega)]; rfl
   ·rw[decide_eq_false (p:=s.toNat<500000003) (by omega)]; simp
  have ah:=Tl.2 ad;simp[ah,ag];exact aQ rfl rfl
 ·have ah:¬ (500000003:Int)<=M:=fun h=>ad (Tl.1 h)
  have fZ:jF e=true:=by unfold jF; exact decide_eq_true (by omega)
  have dW:jF s=true:=by unfold jF; exact decide_eq_true (by omega)
  have UJ:=ac9 y (500000003#64 - e.setWidth 64);have agz:(s.setWidth 64:Q).toNat=s.toNat:=by rw[auE]; omega
  have GG:=ac7 (s.setWidth 64);rw[aJ,if_pos rfl,if_pos rfl,amr (by omega)] at UJ;rw[agz] at GG;have uy:=ac8 (hf 4#32 s.toNat) (hf y (500000003 - e.toNat));rw[MD (y:=4#32) aaG,MD a7] at uy;simp only[awf,if_true] at uy;have qa:=anu (ER y e s) y m hm;have c5:∀ a b:D,((u a:Int)=u b)<->a=b:=fun a b=>⟨fun h=>auD (by unfold u at h; omega),fun h=>by rw[h]⟩
  simp[ah];refine a4 UJ rfl ?_;simp;refine a4 GG rfl ?_;simp;refine a4 uy rfl ?_;simp;refine a4 qa (by simp[a5,U.closed,fp]) ?_;rw[fZ,dW];by_cases aj:Ck (ER y e s) y m.l=e
  ·simp[aj];exact aQ rfl rfl
  ·simp[aj,c5];exact aQ rfl rfl
theorem akL (s:D) :bz Tryz.prog GS 223 [bu s] (bu (hf 4#32 s.toNat)) :=by
 refine bX Tryz.checked.mixed bn ?_;apply bq Tryz.func223 [];have alJ:(s.setWidth 64:Q).toNat=s.toNat:=by rw[auE]; omega
 have ul:=akC (s.setWidth 64);rw[alJ] at ul;simp;refine a4 ul rfl ?_;simp;exact aQ rfl rfl
theorem akT (y:D) (aJ:gG y=true) (m:eZ) (hm:m.l.length<=900000) (e s:D) :bz Tryz.prog GS 199 [bu y,cD m,.aF [bu e,bu s]] (.bool (E3 y m.l e s)) :=by
 refine bX Tryz.checked.mixed bn ?_;apply bq Tryz.func199 [[[0],[1],[3],[5],[6],[8],[9],[2,9],[4,9],[7,9]]];unfold E3;have fp:=mT m;have a7:=Vl aJ;have c5:∀ a b:D,((u a:Int)=u b)<->a=b:=fun a b=>⟨fun h=>auD (by unfold u at h; omega),fun h=>by rw[h]⟩
 simp;refine a4 (Ga e) rfl ?_;cases ad:jF e with
 | false=>simp; exact aQ rfl rfl
 | true=>
 simp;refine a4 (Ga s) rfl ?_;cases ae:jF s with
 | false=>simp; exact aQ rfl rfl
 | true=>
 have am:e.toNat<500000003:=by unfold jF at ad; exact of_decide_eq_true ad
 have ack:(e.setWidth 64:Q).toNat=e.toNat:=by rw[auE]; omega
 have UN:=NH y (e.setWidth 64);rw[ack] at UN;have T8:=akK (hf y e.toNat);rw[MD a7,if_pos rfl,if_pos rfl,aaF a7 am] at T8;have ul:=akL s;have wh:=akS (hf 4#32 s.toNat) (hf y (500000003 - e.toNat));have qa:=akE (ER y e s) y m hm;simp;refine a4 UN rfl ?_;simp;refine a4 T8 rfl ?_;simp;refine a4 ul rfl ?_;simp;refine a4 wh rfl ?_;simp;refine a4 qa (by simp[a5,U.closed,fp]) ?_;simp[c5];exact aQ rfl rfl
def Od (o:br) :Bool:=E3 o.hn (k2 o) o.e o.s
def sa (o:br) :Int:=if hw o=0 then (if Od o then 0 else 22) else hw o
theorem WE {o:br} (ay:∀ x∈o.bi.l,x.length=32) (h:hw o=0) :gG o.hn=true/\(k2 o).length<=9991:=by
 have aG:=y6 h;unfold hw at h;rw[if_neg (by omega)] at h;split at h
 ·split at h
  ·rename_i az aw;unfold ub at aw;simp only[aus,decide_eq_true_eq] at aw;obtain⟨aK,aU,a1,bl,bo⟩:=aw;refine⟨aK,?_⟩;have Lt:o.act.key.length<=20/\(o.act.kind=4#8->o.act.val.text.length<=30) :=by
    unfold k8 at a1;split at a1
    ·rename_i ad;simp only[aus,decide_eq_true_eq] at a1;rw[a1.1];exact⟨by simp,fun h=>by rw[ad] at h; cases h⟩
    ·split at a1
     ·rename_i ad ae;simp only[aus] at a1;have ar:=a1.1;unfold jR at ar;simp only[aus,decide_eq_true_eq] at ar;exact⟨ar.1.2,fun h=>by rw[h] at ae; rcases ae with ae | ae<;>cases ae⟩
     ·split at a1
      ·simp only[aus] at a1;obtain⟨ar,ap⟩:=a1;unfold jR at ar;simp only[aus,decide_eq_true_eq] at ar;refine⟨ar.1.2,fun _=>?_⟩;unfold k6 at ap;split at ap
       ·simp only[aus,decide_eq_true_eq] at ap; rw[ap.2]; simp
       ·split at ap
        ·simp only[aus,decide_eq_true_eq] at ap; rw[ap.1.2]; simp
        ·split at ap
         ·simp only[aus,decide_eq_true_eq] at ap; exact ap.1.2
         ·cases ap
      ·cases a1
   have iP:=iD o.hn.toNat
   have mz:=iD o.ir.toNat
   have y3:=Et ay;have rW:=BJ (fr o.act.key);rw[qJ] at rW;have Ey:=Ff o.act.val;have n6:(opHead o).length<=10:=by unfold opHead; simp; omega
   unfold k2;simp only[auu,auF,au1];have n7:(if o.act.kind=1#8 then ([] :List B) else jw (fr o.act.key)).length<=29:=by
    split
    ·simp
    ·omega
   have n8:(if o.act.kind=4#8 then jy o.act.val else []).length<=50:=by
    split
    ·rename_i h; have:=Lt.2 h; omega
    ·simp
   omega
  ·cases h
 ·cases h
theorem anG (o:br) (au:iY o) :bz Tryz.prog GS 67 [.aF (a3 o)] (.int .i64 (sa o)) :=by
 refine bX Tryz.checked.mixed bn ?_;apply bq Tryz.func67 [];unfold sa;have dJ:=kM o;have ei:=Ja o au;have yf:a5 [U.aF (a3 o)]=true:=by simp[a5,U.closed,dJ]
 by_cases aI:hw o=0
 ·obtain⟨aw,bC⟩:=WE au.ids aI;rw[if_pos aI];simp[a3];refine a4 ei yf ?_;simp[aI];refine Zk o au (PN aI) fun w l' h=>?_
  have kg:l'[0]? = some (.cells 11 (a3 o)) :=by rw[h.same 0 (by simp)]; rfl
  have EK:=kg;simp[a3] at EK;have ap:=anF o.hn aw (some (k2 o)) bC o.e o.s;simp[EK];refine l7 ap (.cons (.same _ rfl) (.cons (h.tj (fun _=>rfl) (some (k2 o)) rfl rfl) (.cons (.same _ rfl) .nil))) rfl ?_;simp;exact aQ rfl rfl
 ·rw[if_neg aI];simp[a3];refine a4 ei yf ?_;simp[aI];exact aQ rfl rfl
theorem ak0 (o:br) (au:iY o) (aI:hw o=0) :bz Tryz.prog GS 170 [.aF (a3 o)] (.bool (Od o)) :=by
 refine bX Tryz.checked.mixed bn ?_;apply bq Tryz.func170 [[[0],[1],[2],[4],[5],[3,5,1]]];have dJ:=kM o;obtain⟨aw,bC⟩:=WE au.ids aI;have ap:=akT o.hn aw (some (k2 o)) (by show (k2 o).length<=_; omega) o.e o.s;simp[a3];refine Xw o au (by have:=y6 aI; omega) fun w l' h=>?_
 have kg:l'[0]? = some (.cells 11 (a3 o)) :=by rw[h.same 0 (by simp)]; rfl
 have EK:=kg;simp[a3] at EK;simp[EK];refine l7 ap (.cons (.same _ rfl) (.cons (h.tj (fun _=>rfl) (some (k2 o)) rfl rfl) (.cons (.same _ rfl) .nil))) rfl ?_;simp;exact aQ rfl rfl
theorem ak6 (o:br) (au:iY o) :bz Tryz.prog GS 130 [.aF (a3 o)] (.int .i64 (sa o)) :=by
 refine bX Tryz.checked.mixed bn ?_;apply bq Tryz.func130 [];unfold sa;have dJ:=kM o;have ei:=akP o au;have yf:a5 [U.aF (a3 o)]=true:=by simp[a5,U.closed,dJ]
 by_cases aI:hw o=0
 ·rw[if_pos aI];simp[a3];refine a4 ei yf ?_;simp[aI];refine a4 (ak0 o au aI) yf ?_;cases ak:Od o with
  | true=>simp; exact aQ rfl rfl
  | false=>simp; exact aQ rfl rfl
 ·rw[if_neg aI];simp[a3];refine a4 ei yf ?_;simp[aI];refine a4 ei yf ?_;simp;exact aQ rfl rfl
end Op

end Go.b0

namespace Go.b0
open Go Go.Proofs
set_option maxRecDepth 100000
namespace Op

section
variable {α:Type} {z:Nat} {enc:α->List U}
theorem ajK {by_:Nat} {l l1:ao} {v:U} {a:List α} {nl:Bool} (h:cI z enc l l1 v a nl) (x:α) {b:Nat} (ag:l1[b]? = some (.cells z (enc x))) (af:(enc x).length=z) (aI:z≠0) (dQ:by_≠0) (dL:(a.length+1)*by_<=cw) :
  ∃ a6 l',gX l1 z by_ v (.aq z b 0 1 1 z)=some (a6,l')/\cI z enc l l' a6 (a++[x]) false/\l1.length<=l'.length:=by
 obtain⟨a6,l',aK,aU,a1⟩:=h.app (by_:=by_) (x:=.aq z b 0 1 1 z) (xs:=[x]) (by simp[dD,ag,af,aul]) (by simp[af]) aI dQ (by simpa using dL);exact⟨a6,l',aK,by simpa using aU,a1⟩
def nQ (l:List α) (i:Nat) (x:α) :List α:=l.take i++x::l.drop i
theorem HQ (l:List α) (i:Nat) (x:α) :(nQ l i x).length=l.length+1:=by
 unfold nQ;have:=congrArg List.length (avm i l);simp only[auu,auF] at this ⊢; omega
theorem Vi {l:List α} {i:Nat} {x y:α}:y∈nQ l i x<->y=x\/y∈l:=by
 unfold nQ;rw[avi,avn];constructor
 ·rintro (h | h | h)
  ·exact .inr (auG h)
  ·exact .inl h
  ·exact .inr (avL h)
 ·rintro (h | h)
  ·exact .inr (.inl h)
  ·rw[<-avm i l,avi] at h;exact h.elim .inl fun h=>.inr (.inr h)
theorem Yp {lt:α->α->Bool} (G9:∀ a,lt a a=false) (UX:∀ a b c,lt a b=true->lt b c=true->lt a c=true) :∀ {l m:List α},l.Pairwise (fun a b=>lt a b=true)->m.Pairwise (fun a b=>lt a b=true)->(∀ y,y∈l<->y∈m)->l=m
 | [],[],_,_,_=>rfl
 | [],b::m,_,_,h=>absurd ((h b).2 (by simp)) (by simp)
 | a::l,[],_,_,h=>absurd ((h a).1 (by simp)) (by simp)
 | a::l,b::m,al,hm,h=>by
  obtain⟨l1,bj⟩:=aw4.1 al;obtain⟨eo,ej⟩:=aw4.1 hm;have ha:a=b:=by
   rcases avn.1 ((h a).1 (by simp)) with e | e
   ·exact e
   ·rcases avn.1 ((h b).2 (by simp)) with bw | bw
    ·exact bw.symm
    ·have:=UX _ _ _ (eo a e) (l1 b bw);rw[G9] at this; cases this
  subst ha;congr 1;refine Yp G9 UX bj ej fun y=>⟨fun aJ=>?_,fun aJ=>?_⟩
  ·rcases avn.1 ((h y).1 (by simp[aJ])) with e | e
   ·subst e;have:=l1 y aJ;rw[G9] at this; cases this
   ·exact e
  ·rcases avn.1 ((h y).2 (by simp[aJ])) with e | e
   ·subst e;have:=eo y aJ;rw[G9] at this; cases this
   ·exact e
end

section
variable {α:Type} [DecidableEq α]
end

end Op

end Go.b0

namespace Go.b0
open Go Go.Proofs
set_option maxRecDepth 100000
namespace Op
open hl
def g3 {α:Type} [DecidableEq α] (x:α) :List α->Nat->Int
 | [],_=>-1
 | y::r,k=>if y=x then (k:Int) else g3 x r (k+1)
theorem uL {α:Type} [DecidableEq α] (x:α) :∀ (l:List α) (k:Nat),(0<=g3 x l k)<->x∈l
 | [],k=>by simp[g3]
 | y::r,k=>by
  unfold g3;by_cases h:y=x
  ·simp[h]
  ·rw[if_neg h,uL x r (k+1)];simp[Ne.symm h]
theorem Ee {α:Type} [DecidableEq α] {x:α}:∀ {l:List α} {k n:Nat} {y:α},l[k]? = some y->(∀ (j:Nat) (z:α),j<k->l[j]? = some z->z≠x)->y=x->g3 x l n=((n+k:Nat) :Int)
 | [],k,n,y,h,_,_=>by simp at h
 | w::r,0,n,y,h,_,aJ=>by
  simp at h; subst h;unfold g3;rw[if_pos aJ]; simp
 | w::r,k+1,n,y,h,al,aJ=>by
  unfold g3;rw[if_neg (al 0 w (by omega) (by simp)),Ee (k:=k) (n:=n+1) (by simpa using h) (fun j z ai ax=>al (j+1) z (by omega) (by simpa using ax)) aJ];congr 1; omega
theorem MF {α:Type} [DecidableEq α] {x:α}:∀ {l:List α} {n:Nat},(∀ (j:Nat) (z:α),l[j]? = some z->z≠x)->g3 x l n=-1
 | [],n,_=>rfl
 | w::r,n,al=>by
  unfold g3;rw[if_neg (al 0 w (by simp)),MF fun j z ax=>al (j+1) z (by simpa using ax)]
theorem anB (s:dv) (au:eQ s) (al:s.l.length<=1000000) (x:List B) (af:x.length=32) :bz Tryz.prog GS 78 [aB s,.aF (aY x)] (.int .i64 (g3 x s.l 0)) :=by
 refine bX Tryz.checked.mixed bn ?_;apply bq Tryz.func78 [];simp[aB];refine cl s.l.length (fun k σ l=>l=[.cells 32 (aY x)]/\σ 0=cE 32 aY s/\σ 3=.ptr 0 0 32/\σ 7=.int .i64 s.l.length/\σ 8=.int .i64 k/\∀ (j:Nat) (z:List B),j<k->s.l[j]? = some z->z≠x) ?_ (by simp[aB,c2 af]);rintro k σ l ar ⟨rfl,cb,a1,dU,e4,ak⟩;obtain⟨σ,rfl⟩:=iE cb a1 dU e4;clear cb a1 dU e4;simp;refine pm (fun h=>?_) (fun h=>?_)
 ·simp only[decide_eq_true_eq] at h;obtain⟨y,aJ,eL⟩:=bI (l:=s.l) (k:=k) (by omega);have aP:IntKind.i64.wrap ((k:Int)+1)=((k+1:Nat) :Int) :=by rw[IntKind.wrap_i64]; omega
  simp[aJ,c2 (au y eL),c2 af,aul,Mo af (au y eL)];by_cases am:x=y
  ·have ds:=Ee (n:=0) aJ ak am.symm;simp[am];exact aQ (by rw[<-am,ds]; simp) rfl
  ·simp[am,aP];refine⟨by omega,fun j z ai ax=>?_⟩;by_cases gR:j=k
   ·subst gR; rw[aJ] at ax; obtain rfl:=Option.some.inj ax; exact fun h=>am h.symm
   ·exact ak j z (by omega) ax
 ·simp[h];have rq:k=s.l.length:=by simp at h; omega
  exact aQ (by rw[MF fun j z ax=>ak j z (by rw[rq]; exact (auk.1 ax).1) ax]) rfl
theorem Fj (s:dv) (au:eQ s) (al:s.l.length<=1000000) (x:List B) (af:x.length=32) :bz Tryz.prog GS 48 [aB s,.aF (aY x)] (.bool (decide (x∈s.l))) :=by
 refine bX Tryz.checked.mixed bn ?_;apply bq Tryz.func48 [];simp[c2 af,aul];refine a4 (anB s au al x af) (by have:=dd s; have:=fE x; simp_all [a5,U.closed]) ?_;simp;exact aQ (congrArg U.bool (by simp only[uL])) rfl
end Op

end Go.b0

namespace Go.b0
open Go Go.Proofs Go.RowKit
set_option maxRecDepth 100000
section
variable {P:Program} {n:Nat}
theorem ajV {o:Oper} {a:Act} {w:World} {K fb:Act->World->Prop} {Q xI:Exit->Act->World->Prop} (aT:∀ a w,K a w->fb a w) (jh:∀ e a w,e≠.normal->Q e a w->xI e a w) (h:o.wp P a w K Q) :o.wpIn Fence.wide n P a w fb xI:=by
 unfold Oper.wp at h;refine⟨fun _ _=>trivial,?_⟩;show o.uponIn Fence.wide n P a fb xI ((execOp a.eval o).run P w);cases af:(execOp a.eval o).run P w with
 | ok x w'=>
  rw[af] at h;cases x with
  | value v=>exact aT _ _ h
  | skip=>exact aT _ _ h
  | defer d=>exact aT _ _ h
  | enter f args=>
   refine⟨fun bf=>(by cases bf),(callsIn_wide.2 h).mono ?_⟩;rintro (v | Cj | _) w2 ae
   ·exact aT _ _ ae
   ·exact jh _ _ _ (by simp) ae
   ·obtain⟨a0,fU,aS⟩:=ae;exact⟨a0,fU,jh _ _ _ (by simp) aS⟩
  | row r args=>exact⟨fun bf=>(by cases bf),fun c cs _=>let ⟨v,w',r,s⟩:=h c cs; ⟨v,w',aT _ _ r,stepsIn_wide.2 s⟩⟩
  | _=>exact h.elim
 | halt e w'=>
  rw[af] at h;cases e<;>first | exact jh _ _ _ (by simp) h | exact h.elim
theorem MY {all:Array Oper} {Q:Exit->Act->World->Prop}:∀ {l1 bj:List Oper} {a:Act} {w:World},
  wpList P all (fun e a w=>match e with | .normal=>wpListIn Fence.wide n P all Q bj a w | _=>False) l1 a w->wpListIn Fence.wide n P all Q (l1++bj) a w
 | [],bj,a,w,h=>h
 | o::l1,bj,a,w,h=>by
  rw[avj];unfold wpList at h;unfold wpListIn;split
  ·rename_i aX;rw[if_pos aX] at h;rcases h with h | ⟨_,a0,fU,aS⟩
   ·refine ajV (fun a w aS=>MY aS) (fun e a w am aS=>?_) h;cases e<;>first | exact absurd rfl am | exact aS.elim
   ·exact aS.elim
  ·rename_i aX;rw[if_neg aX] at h;exact⟨fun _ _=>trivial,MY h⟩
end

section
variable {P:Program} {n:Nat}
def hW (fn:FuncId) (tmps:Array Value) (ps:Array Tmp) (body:Code) (D:Nat) (st:LoopState) (akg:Option Code) :Loop:={ state:=st,pending:=akg,fn,tmps:=tmps,params:=ps,assign:=.skip,body,defers:=D }
theorem ak7 {g:Operand} {ps:Array Tmp} {body:Code} {Q:Exit->Act->World->Prop} {a:Act} {w:World} {gf:Nat} {lb:Array Value}
  (aw:a.eval g=.func (.func gf) #[] lb) (acm:∀ args w,(callFunc gf args).run P w=.ok (.enter gf args) w) (yI:ps.size=1)
  {A B:Prop} (T:World->World->Prop) (dI:∀ W e2,T W e2->KeepsOthers W e2)
  (aer:∀ (fn:FuncId) (x:Value) (W:World),fW ((w.alloc (.deferred (some []))).alloc (.loop (hW fn a.tmps ps body w.heap.size .ready none))) W->
   body.wpIn (Fence.wide.inRound (w.heap.size+1)) n P (fun e _ e2=>e=.ret/\T (W.putObj (w.heap.size+1) (.loop (hW fn a.tmps ps body w.heap.size .busy none))) e2)
    { tmps:=(ps.zip #[x]).foldl (fun t (p,v)=>t.setIfInBounds p v) a.tmps,defers:=[] } (W.putObj (w.heap.size+1) (.loop (hW fn a.tmps ps body w.heap.size .busy none))))
  (ox:∀ (fn:FuncId) (cG:World),cG=(w.alloc (.deferred (some []))).alloc (.loop (hW fn a.tmps ps body w.heap.size .ready none))->
   (∀ (x:Value) (W:World),fW cG W->YieldAt Fence.wide n P (w.heap.size+1) #[x] W fun e e2=>e=.returned (.bool false)/\∃ km,T (W.putObj (w.heap.size+1) (.loop (hW fn a.tmps ps body w.heap.size .busy none))) km ∧
    e2=km.putObj (w.heap.size+1) (.loop (hW fn a.tmps ps body w.heap.size .done (some .ret))))->
   CallsIn Fence.wide (n - 1) P gf (#[.func (.yield (w.heap.size+1)) #[] #[]]++lb) cG fun e dP=>(∃ v,e=.returned v)/\((A/\fW cG dP) ∨
    (B/\∃ W km,fW cG W/\T (W.putObj (w.heap.size+1) (.loop (hW fn a.tmps ps body w.heap.size .busy none))) km/\fW (km.putObj (w.heap.size+1) (.loop (hW fn a.tmps ps body w.heap.size .done (some .ret)))) dP)))
  (GY:∀ (fn:FuncId) (cG dP:World),cG=(w.alloc (.deferred (some []))).alloc (.loop (hW fn a.tmps ps body w.heap.size .ready none))->A->fW cG dP->
   Q .normal { a with defers:={ target:=.collected w.heap.size,args:=#[] }::a.defers } (dP.putObj (w.heap.size+1) (.loop (hW fn a.tmps ps body w.heap.size .exhausted none))))
  (agN:∀ (fn:FuncId) (cG W km dP:World),cG=(w.alloc (.deferred (some []))).alloc (.loop (hW fn a.tmps ps body w.heap.size .ready none))->B->fW cG W->
   T (W.putObj (w.heap.size+1) (.loop (hW fn a.tmps ps body w.heap.size .busy none))) km->fW (km.putObj (w.heap.size+1) (.loop (hW fn a.tmps ps body w.heap.size .done (some .ret)))) dP->
   Q .ret { a with defers:={ target:=.collected w.heap.size,args:=#[] }::a.defers } (dP.putObj (w.heap.size+1) (.loop (hW fn a.tmps ps body w.heap.size .exhausted (some .ret))))) :
  (Code.rangeFunc g ps .skip body).wpIn Fence.wide n P Q a w:=by
 refine wpIn_rangeFunc ?_;intro fn il;rw[Fence.wide_round];obtain⟨cG,pb⟩:∃ cG,(w.alloc (.deferred (some []))).alloc (.loop (hW fn a.tmps ps body w.heap.size .ready none))=cG:=⟨_,rfl⟩
 have C5:cG.heap[w.heap.size+1]? = some (.loop (hW fn a.tmps ps body w.heap.size .ready none)) :=by
  rw[<-pb]; have:=World.alloc_heap_new (w.alloc (.deferred (some []))) (.loop (hW fn a.tmps ps body w.heap.size .ready none)); rwa [World.size_alloc] at this
 have h9:cG.heap.size=w.heap.size+2:=by rw[<-pb]; simp
 refine⟨w.heap.size+1,[{ target:=.collected w.heap.size,args:=#[] }],cG,{ target:=.fn (.func gf) lb,args:=#[.func (.yield (w.heap.size+1)) #[] #[]] },cG,gf,
  #[.func (.yield (w.heap.size+1)) #[] #[]]++lb,cG,?_,?_,?_,?_,fun bf=>(by cases bf),?_⟩
 ·rw[<-pb]; exact run_enterLoop_outer _ _ _ _ _
 ·simp only[resolve,aw];simp[go_sem]
 ·intro Su aql; trivial
 ·simp[invoke,go_sem,acm]
 ·refine (ox fn cG pb.symm fun x W ag=>?_).mono ?_
  ·have al:W.heap[w.heap.size+1]? = some (.loop (hW fn a.tmps ps body w.heap.size .ready none)) :=(ag.toBelow.block _ (by omega)).trans C5;have aL:w.heap.size+1<W.heap.size:=(auO.1 al).1;have aJ:=run_yield (P:=P) (args:=#[x]) al (by show 1=ps.size; omega);refine⟨fn,_,.skip,body,aJ,roundIn_of_wpIn il (wpIn_skip ⟨_,run_beginRound al rfl,?_⟩)⟩;have i7:(W.putObj (w.heap.size+1) (.loop (hW fn a.tmps ps body w.heap.size .busy none))).heap[w.heap.size+1]? = some (.loop (hW fn a.tmps ps body w.heap.size .busy none)) :=World.putObj_heap_same aL;refine wpIn_mono (aer fn x W (by rw[pb]; exact ag)) ?_;rintro e bV km ⟨rfl,aW⟩;have DA:=(dI _ _ aW).same _ _ i7 rfl;have az:=run_endRound (P:=P) (some .ret) DA;exact⟨_,_,az,rfl,km,aW,rfl⟩
  ·rintro e dP ⟨⟨v,rfl⟩,(⟨du,ag⟩ | ⟨j0,W,km,ag,aW,dW⟩)⟩
   ·have al:dP.heap[w.heap.size+1]? = some (.loop (hW fn a.tmps ps body w.heap.size .ready none)) :=(ag.toBelow.block _ (by omega)).trans C5;exact⟨none,_,run_endLoop (P:=P) al (by simp[hW]),GY fn cG dP pb.symm du ag⟩
   ·have al:W.heap[w.heap.size+1]? = some (.loop (hW fn a.tmps ps body w.heap.size .ready none)) :=(ag.toBelow.block _ (by omega)).trans C5;have aL:w.heap.size+1<W.heap.size:=(auO.1 al).1;have i7:(W.putObj (w.heap.size+1) (.loop (hW fn a.tmps ps body w.heap.size .busy none))).heap[w.heap.size+1]? = some (.loop (hW fn a.tmps ps body w.heap.size .busy none)) :=World.putObj_heap_same aL;have DA:=(dI _ _ aW).same _ _ i7 rfl;have Uo:=(auO.1 DA).1;have rs:dP.heap[w.heap.size+1]? = some (.loop (hW fn a.tmps ps body w.heap.size .done (some .ret))) :=(dW.toBelow.block _ (by simpa using Uo)).trans (World.putObj_heap_same Uo);exact⟨some .ret,_,run_endLoop (P:=P) rs (by simp[hW]),wpIn_ret (agN fn cG W km dP pb.symm j0 ag aW dW)⟩
end
def kF:Code->List Bool->Code
 | c,[]=>c
 | .seq a b,d::r=>kF (if d then b else a) r
 | .block _ c,_::r=>kF c r
 | .loop c,_::r=>kF c r
 | .cond _ a b,d::r=>kF (if d then b else a) r
 | .rangeFunc _ _ a b,d::r=>kF (if d then b else a) r
 | c,_::_=>c
def nd:Code->Array Oper
 | .region _ o _=>o
 | _=>#[]
section
variable {P:Program} {G:Nat->U}
theorem tU (fH:P.follows .mixedOrders=true) (ij:∀ g,(G g).closed=true) {N n:Nat} {code:Code} {c:fB} (ah:comp P N code=some c) {σ:bc} {l:ao} {K:hA} (fQ:run P G c σ l K)
  {R:Nat->Prop} {B:Nat} {w:World} {μ:ck} {a:Act} {Q:Exit->Act->World->Prop} (rel:bN R B w (bb l) μ) (g:mI G w R (bb l) μ) (s:iH N w R (bb l) μ σ a)
  (jh:∀ e dj w' μ' bD l',K e bD l'->df w (bb l) μ w' (bb l') μ'->bN R B w' (bb l') μ'->iH N w' R (bb l') μ' bD dj->Q e.out dj w') :code.wpIn Fence.wide n P Q a w:=by
 obtain⟨e,bD,l',sD,_,ar⟩:=X3 (aun N) code c ah σ l K fQ;obtain⟨ajg,ak⟩:=E5 fH ij sD;exact wpIn_wide.2 (oS.wp (ak R B w μ a Q rel g s fun dj w' μ' aP dh cY=>jh e dj w' μ' bD l' ar aP dh cY))
theorem WX (fH:P.follows .mixedOrders=true) (ij:∀ g,(G g).closed=true) {N n:Nat} {ops:Array Oper} (fe:∀ (i:Nat) (o:Oper),ops[i]? = some o->jZ N o.dst=true) {qG:List dn} {os bj:List Oper} (dV:od P ops qG os)
  {σ:bc} {l:ao} {K:bc->ao->Prop} (fQ:i9 P G qG σ l K)
  {R:Nat->Prop} {B:Nat} {w:World} {μ:ck} {a:Act} {Q:Exit->Act->World->Prop} (rel:bN R B w (bb l) μ) (g:mI G w R (bb l) μ) (s:iH N w R (bb l) μ σ a)
  (jh:∀ dj w' μ' bD l',K bD l'->df w (bb l) μ w' (bb l') μ'->bN R B w' (bb l') μ'->iH N w' R (bb l') μ' bD dj->wpListIn Fence.wide n P ops Q bj dj w') :wpListIn Fence.wide n P ops Q (os++bj) a w:=by
 obtain⟨bD,l',sD,_,ar⟩:=E0 fe dV fQ;refine MY ?_;exact E5 fH ij sD R B w μ a _ rel g s fun dj w' μ' aP dh cY=>jh dj w' μ' bD l' ar aP dh cY
theorem alA {n m:Nat} {l:Nat} {f:FuncId} {tmps:Array Value} {assign body:Code} {w:World} {R:Ending->World->Prop} (h:RoundIn Fence.wide n P l f tmps assign body w R) :RoundIn Fence.wide m P l f tmps assign body w R:=
 ⟨h.1,fun c cs _=>h.2 c cs (room_wide _)⟩
theorem Xf {R:Nat->Prop} {B:Nat} {w:World} {l:ao} {μ:ck} (rel:bN R B w (bb l) μ) {b sz:Nat} {cs:List U} (ag:l[b]? = some (.cells sz cs)) (ah:a5 cs=true) {v:Value} (ap:aO w R (bb l) μ (.ptr b 0 sz) v) :ed w R (.bM cs 0) v:=by
 have aE:(bb l).f b=.cells sz cs:=lD.2 ag;cases ap with
 | nf _ _ _ a aw=>
  rcases aw with h | ⟨n,hO,h,aL⟩
  ·rw[aE] at h; cases h
  ·rw[aE] at h; injection h with ad ae; omega
 | ptr _ _ _ hO m dW hm=>
  rw[aE] at dW;injection dW with _ bw
  subst bw;have eA:=rel.blk b m hm;rw[aE] at eA;obtain⟨ad,ae,arr,e,fa,aj,aG,bh,bF⟩:=eA;have i5:R m.r:=rel.up _ (rel.base b m (by rw[aE]; rfl) hm);refine .bM cs 0 m.r m.s (fun j=>(arr[m.s+j]?).getD undef) (fun j ai=>?_) fun j c ai=>?_
  ·obtain⟨v,bZ,cc,eF⟩:=bF j cs[j] (auo ai);rw[bZ];refine⟨?_,cc,i5,qz _ _⟩;simp only[World.cell?,aj];simpa using bZ
  ·obtain⟨v,bZ,cc,eF⟩:=bF j c ai;rw[bZ];exact (sv eF (zU ah j c ai)).up fun k _ ar=>⟨ar.1,qz _ _⟩
theorem ed.oh {w w' : World} {A:Nat->Prop} {c:U} {v:Value} (ap:ed w A c v) (ag:fW w w') :ed w' A c v:=by
 obtain⟨e,_⟩:=w0 (Bv w (fun k=>A k\/w.heap.size<=k) fun k ar=>.inr ar) ag;exact aO.mW (R:=A) (⟨e.os,e.tape,e.output,e.size,e.cd,e.own,e.cells,e.gone,e.EC,e.n,e.drawn⟩) ap
end

end Go.b0

namespace Go.b0
open Go Go.Proofs Go.RowKit
set_option maxRecDepth 100000
namespace Op
open hl
def BV (qW qX jY sk:Array Oper) :Code:=.seq (.region 1 qW false) (.seq (.cond (.tmp 10) .skip (.exit 0)) (.seq (.block 1 (.seq (.region 2 qX false) (.seq (.region 3 jY false) (.cond (.tmp 23) .ret .skip)))) (.region 4 sk false)))
def z5 (cap eg:Int) (parts dB:U) (ord:dv) :List U:=[.int .i64 cap,parts,dB,.int .i64 eg,aB ord]
theorem RT {cap eg:Int} {parts dB:U} {ord:dv} (av:parts.closed=true) (aS:dB.closed=true) :a5 (z5 cap eg parts dB ord)=true:=by
 simp[z5,a5,av,aS,dd,U.closed]
structure tD (E:List U) (ps:dv) (S:List U) (e0:Nat) (cG:World) (k:Nat) (a:Go.Act) (W:World) :Prop where
 size:a.tmps.size=25
 defers:a.defers=[]
 t0:a.tmps.getD 0 undef=.func (.yield e0) #[] #[]
 t8:a.tmps.getD 8 undef=.int .i64 ps.l.length
 t9:a.tmps.getD 9 undef=.int .i64 k
 ex:∃ A,ed W A (.bM (E) 0) (a.tmps.getD 1 undef)/\ed W A (.bM S 0) (a.tmps.getD 2 undef)/\ed W A (aB ps) (a.tmps.getD 7 undef)/\∀ g,ed W A (GS g) (.pointer (some ⟨g,0,none⟩))
 oh:fW cG W
def mE (E:List U) (ps:dv) (S:List U) (e0 k:Nat) :bc:=bB (bB (bB (bB (bB (bB (fun _=>U.bad) 0 (.hz e0)) 1 (.bM (E) 0)) 2 (.bM S 0)) 7 (aB ps)) 8 (.int .i64 ps.l.length)) 9 (.int .i64 k)
theorem tD.E6 {E:List U} {ps:dv} {S:List U} {e0:Nat} {cG:World} {k:Nat} {a:Go.Act} {W:World} (h:tD E ps S e0 cG k a W) :
  ∃ R:Nat->Prop,bN R W.heap.size W (bb []) (fun _=>none)/\mI GS W R (bb []) (fun _=>none)/\iH 25 W R (bb []) (fun _=>none) (mE E ps S e0 k) a:=by
 obtain⟨A,ad,ae,dz,aw⟩:=h.ex;have up:∀ {c:U} {v:Value},ed W A c v->aO W (fun k=>A k\/W.heap.size<=k) aN.empty (fun _=>none) c v:=fun ah=>ah.up (fun k _ ar=>⟨.inl ar,qz _ k⟩)
 refine⟨fun k=>A k\/W.heap.size<=k,Bv W _ fun k ar=>.inr ar,fun g=>⟨bn g,up (aw g)⟩,h.size,h.defers,fun t=>?_⟩;unfold mE;by_cases Si:t=9
 ·subst Si; rw[hP,h.t9]; exact .int _ _
 rw[b2 _ _ _ _ Si];by_cases bA:t=8
 ·subst bA; rw[hP,h.t8]; exact .int _ _
 rw[b2 _ _ _ _ bA];by_cases vX:t=7
 ·subst vX; rw[hP]; exact up dz
 rw[b2 _ _ _ _ vX];by_cases bw:t=2
 ·subst bw; rw[hP]; exact up ae
 rw[b2 _ _ _ _ bw];by_cases aP:t=1
 ·subst aP; rw[hP]; exact up ad
 rw[b2 _ _ _ _ aP];by_cases fu:t=0
 ·subst fu; rw[hP,h.t0]; exact .hz _
 rw[b2 _ _ _ _ fu];exact .bad _
theorem zJ {w w' : World} {h' : aN} {μ' : ck} (e:df w aN.empty (fun _=>none) w' h' μ') :fW w w':=⟨⟨e.os,e.tape,e.output,e.size,fun k ar=>e.cd k ar (qz _ k)⟩,e.drawn⟩
theorem sq {a b c:World} (ad:fW a b) (ae:fW b c) :fW a c:=⟨ad.toBelow.trans (ae.toBelow.mono ad.toBelow.size),au7 ad.drawn ae.drawn⟩
theorem aaS (w:World) :fW w w:=⟨RowKit.Below.refl _ w,aun _⟩
theorem tD.mk' {E:List U} {ps:dv} {S:List U} (c5:a5 E=true) (h6:a5 S=true) {e0:Nat} {cG W e2:World} {k:Nat} {dj:Go.Act} {R:Nat->Prop} {l' : ao} {μ' : ck} {bD:bc} (ag:fW cG W) (e:df W aN.empty (fun _=>none) e2 (bb l') μ') (g:mI GS e2 R (bb l') μ') (s:iH 25 e2 R (bb l') μ' bD dj)
  (hu:bD 0=.hz e0) (bZ:bD 1=.bM (E) 0) (cc:bD 2=.bM S 0) (uN:bD 7=aB ps) (A4:bD 8=.int .i64 ps.l.length) (wD:bD 9=.int .i64 k) :tD E ps S e0 cG k dj e2:=by
 have ah:∀ {t:Nat} {c:U},bD t=c->c.closed=true->ed e2 (fun k=>R k) c (dj.tmps.getD t undef) :=fun {t c} aW ea=>by
  have:=s.val t;rw[aW] at this;exact (sv this ea).up fun k _ ar=>⟨ar.1,qz _ k⟩
 refine⟨s.size,s.defers,?_,?_,?_,⟨fun k=>R k,ah bZ (by simp[U.closed,c5]),ah cc (by simp[U.closed,h6]),ah uN (dd _),fun i=>(sv (g i).2 (g i).1).up fun k _ ar=>⟨ar.1,qz _ k⟩⟩,sq ag (zJ e)⟩
 ·have:=s.val 0; rw[hu] at this; generalize dj.tmps.getD 0 undef=v at this ⊢; cases this; rfl
 ·have:=s.val 8; rw[A4] at this; generalize dj.tmps.getD 8 undef=v at this ⊢; cases this; rfl
 ·have:=s.val 9; rw[wD] at this; generalize dj.tmps.getD 9 undef=v at this ⊢; cases this; rfl
end Op

end Go.b0
