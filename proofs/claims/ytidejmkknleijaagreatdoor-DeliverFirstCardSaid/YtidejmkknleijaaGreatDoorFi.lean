/-
  Operations as bytes: walked in both texts.
-/
import Derived.Test.YtidejmkknleijaaGreatDoorFh
import Derived.RangeFuncNested
import Derived.RangeFuncBound
import Derived.RangeFuncCalls
import Derived.RangeFuncLeaves
import Derived.OwnWalkIn
import Derived.LoopNIn
set_option linter.unusedVariables false
set_option linter.unusedSimpArgs false
set_option linter.unnecessarySimpa false
namespace Go.bY
open Go Go.Proofs
set_option maxRecDepth 100000
namespace Op
open hl
def opHead (o:bp) :List B:=111#8::ek o.g9.toNat
def kO (o:bp) :List B:=
 opHead o++rk o.bh.l++ek o.ig.toNat++[o.act.kind]++(if o.act.kind=1#8 then [] else jm (fi o.act.key))++(if o.act.kind=4#8 then jn o.act.val else [])
theorem DT {l:List (List B)} (h:∀ x∈l,x.length=32) :(rk l).length<=9+l.length*32:=by
 have:=iu l.length;have ae:=LU h;unfold rk;rw[as8];omega
theorem Be (s:List B) :(jm s).length<=9+s.length:=by
 have:=iu s.length;unfold jm;rw[as8];omega
theorem EI (v:iR) :(jn v).length<=20+v.text.length:=by
 have ad:=iu (mW v.num).toNat
 have ae:=Be (fi v.text);have aj:=qh v.text;unfold jn;simp only[atk];split
 ·omega
 ·split
  ·simp[oG]; omega
  ·omega
theorem WM (o:bp) (au:i3 o) (qX:o.bh.l.length<=1000) {l:ao} {K:U->ao->Prop} (aU:∀ w l',cF 1 b7 l l' w (kO o) false->K w l') :
  dh Tryz.prog GS 200 [.aG (a9 o)] l (c:=⟨K⟩) :=by
 apply bq Tryz.func200 [[[0],[1],[2],[5],[6],[3,6],[4,6]]];have ay:ct=140737488355328:=rfl;have aI:=uk l (.cells 11 (a9 o)) 111#8;have sd:=iu o.g9.toNat
 have sf:=iu o.ig.toNat
 have gZ:=DT au.ids;have Lw:(BitVec.setWidth 64 o.g9).toNat=o.g9.toNat:=by rw[ath]; exact atb (by have:=o.g9.isLt; omega)
 have aK:l.length<(l++[aY.cells 11 (a9 o)]).length:=by simp
 have eE:(l++[aY.cells 11 (a9 o)])[l.length]? = some (.cells 11 (a9 o)) :=by simp
 simp[a9];refine wn _ fun bL l1 ad=>?_
 rw[Lw] at ad;obtain⟨w2,bo,bd,dC,_⟩:=(aI.frame ad.le ad.same).app (by_:=1) (x:=bL) (xs:=ek o.g9.toNat) ad.contents (by simp[b7]) (by omega) (by omega) (by rw[ay]; simp only[atk,atF]; omega);have q0:bo[l.length]? = some (.cells 11 (a9 o)) :=by rw[dC.same _ aK]; exact eE
 have pS:l.length<bo.length:=by have:=dC.le; omega
 have q2:=q0;simp[a9] at q2;simp[bd];refine c8.cb ?_;simp[q2];refine ajr o.bh au.ids qX fun cO gg aj=>?_
 obtain⟨yO,oY,e0,qC,_⟩:=(dC.frame aj.le aj.same).app (by_:=1) (x:=cO) (xs:=rk o.bh.l) aj.contents (by simp[b7]) (by omega) (by omega) (by rw[ay]; simp only[as8,atk,atF]; omega);have cI:gg[l.length]? = some (.cells 11 (a9 o)) :=by rw[aj.same _ pS]; exact q0
 have GQ:oY[l.length]? = some (.cells 11 (a9 o)) :=by rw[qC.same _ aK]; exact eE
 have aey:l.length<oY.length:=by have:=qC.le; omega
 have vE:=cI;have Ad:=GQ;simp[a9] at vE Ad;simp[vE,e0];refine c8.cb ?_;simp[Ad];refine wn _ fun Bi Mk a6=>?_
 obtain⟨asU,DR,ho,O3,_⟩:=(qC.frame a6.le a6.same).app (by_:=1) (x:=Bi) (xs:=ek o.ig.toNat) a6.contents (by simp[b7]) (by omega) (by omega) (by rw[ay]; simp only[as8,atk,atF]; omega);have ae3:DR[l.length]? = some (.cells 11 (a9 o)) :=by rw[O3.same _ aK]; exact eE
 have TW:=ae3;simp[a9] at TW;obtain⟨EL,Vk,E3,s8⟩:=cF.push O3 o.act.kind (by simp only[as8,atk,atF]; omega);have ae4:Vk[l.length]? = some (.cells 11 (a9 o)) :=by rw[s8.same _ aK]; exact eE
 have apg:l.length<Vk.length:=by have:=s8.le; omega
 have Lc:=ae4;simp[a9] at Lc;simp[ho];refine c8.cb ?_;simp[TW,E3];refine c8.cb ?_;obtain⟨M,iV⟩:∃ M,M=[111#8]++ek o.g9.toNat++rk o.bh.l++ek o.ig.toNat++[o.act.kind] :=⟨_,rfl⟩
 have acO:M.length<=40000:=by rw[iV]; simp only[as8,atk,atF]; omega
 rw[<-iV] at s8;have eM:kO o=M++(if o.act.kind=1#8 then [] else jm (fi o.act.key))++(if o.act.kind=4#8 then jn o.act.val else []) :=by rw[iV]; rfl
 have lM:=Be (fi o.act.key);rw[qh] at lM;have KU:=au.key;have jQ:=EI o.act.val;have Do:=au.val.2.2;have ah:vk (.str o.act.key)=some (.aX 1 ((fi o.act.key).map b7)) :=by
  show some (U.aX 1 (o.act.key.map fun b=>[jr b]))=_;rw[Ik]
 by_cases b0:o.act.kind=1#8
 ·have aQ:(u o.act.kind:Int)=1:=(iO o.act.kind).2 b0;have gJ:¬ o.act.kind=4#8:=by rw[b0]; decide
  rw[if_pos b0,if_neg gJ,atB,atB] at eM;simp[Lc,aQ];exact aU _ _ (by rw[eM]; exact s8.base (by simp) fun b af=>as2 af)
 ·have aQ:¬ (u o.act.kind:Int)=1:=fun h=>b0 ((iO o.act.kind).1 h)
  rw[if_neg b0] at eM;simp[Lc,aQ,ah];refine WN (some (fi o.act.key)) (by simpa [qh] using KU) (by simp[ds]) (by simp) (fun l' _ _=>by simp[ds]) fun Is lT gM=>?_
  obtain⟨al9,Ml,E4,uW,_⟩:=(s8.frame gM.le gM.same).app (by_:=1) (x:=Is) (xs:=jm (fi o.act.key)) gM.contents (by simp[b7]) (by omega) (by omega) (by rw[ay]; omega);have Ld:Ml[l.length]? = some (.cells 11 (a9 o)) :=by rw[uW.same _ aK]; exact eE
  have x3:=Ld;simp[a9] at x3;simp[E4];refine c8.cb ?_;simp only[avl] at uW;by_cases gJ:o.act.kind=4#8
  ·have qG:(u o.act.kind:Int)=4:=(wJ o.act.kind).2 gJ;rw[if_pos gJ] at eM;simp[x3,qG];refine ajK o.act.val au.val fun N6 ag4 kZ=>?_
   obtain⟨al8,ag5,IY,Ja,_⟩:=(uW.frame kZ.le kZ.same).app (by_:=1) (x:=N6) (xs:=jn o.act.val) kZ.contents (by simp[b7]) (by omega) (by omega) (by rw[ay]; simp only[as8]; omega);simp[IY];refine c8.cb ?_;simp;exact aU _ _ (by rw[eM]; exact Ja.base (by simp) fun b af=>as2 af)
  ·have qG:¬ (u o.act.kind:Int)=4:=fun h=>gJ ((wJ o.act.kind).1 h)
   rw[if_neg gJ,atB] at eM;simp[x3,qG];exact aU _ _ (by rw[eM]; exact uW.base (by simp) fun b af=>as2 af)
def iJ (o:bp) :List B:=kO o++ek o.e.toNat++ek o.s.toNat
theorem VU (o:bp) (au:i3 o) (qX:o.bh.l.length<=1000) :(kO o).length<=100000:=by
 have ad:=iu o.g9.toNat
 have ae:=iu o.ig.toNat
 have aj:=DT au.ids;have aF:=Be (fi o.act.key);rw[qh] at aF;have a6:=au.key;have bu:=EI o.act.val;have cL:=au.val.2.2;have aO:(if o.act.kind=1#8 then [] else jm (fi o.act.key)).length<=10009:=by split<;>(try simp) ; omega
 have aT:(if o.act.kind=4#8 then jn o.act.val else []).length<=10020:=by split<;>(try simp) ; omega
 unfold kO opHead;simp only[as8,atk,atF];omega
theorem aji (o:bp) (au:i3 o) (qX:o.bh.l.length<=1000) {l:ao} {K:U->ao->Prop} (aU:∀ w l',cF 1 b7 l l' w (iJ o) false->K w l') :
  dh Tryz.prog GS 172 [.aG (a9 o)] l (c:=⟨K⟩) :=by
 apply bq Tryz.func172 [[[0],[2],[3],[4],[5],[8],[9],[10],[11],[1,11,10,5,4],[6,11,10],[7,11,10]]];have ay:ct=140737488355328:=rfl;have bV:=iu o.e.toNat
 have sf:=iu o.s.toNat
 have lM:=VU o au qX;have lL:(BitVec.setWidth 64 o.e).toNat=o.e.toNat:=by rw[ath]; exact atb (by have:=o.e.isLt; omega)
 have ra:(BitVec.setWidth 64 o.s).toNat=o.s.toNat:=by rw[ath]; exact atb (by have:=o.s.isLt; omega)
 have aK:l.length<(l++[aY.cells 11 (a9 o)]).length:=by simp
 have eE:(l++[aY.cells 11 (a9 o)])[l.length]? = some (.cells 11 (a9 o)) :=by simp
 simp[a9];refine WM o au qX fun bL l1 ad=>?_
 have pX:l1[l.length]? = some (.cells 11 (a9 o)) :=by rw[ad.same _ aK]; exact eE
 have pR:l.length<l1.length:=by have:=ad.le; simp at this; omega
 have x2:=pX;simp[a9] at x2;simp[x2];refine wn _ fun w2 bo ae=>?_
 rw[lL] at ae;obtain⟨cO,gg,b4,kW,_⟩:=(ad.frame ae.le ae.same).app (by_:=1) (x:=w2) (xs:=ek o.e.toNat) ae.contents (by simp[b7]) (by omega) (by omega) (by rw[ay]; omega);have q0:bo[l.length]? = some (.cells 11 (a9 o)) :=by rw[ae.same _ pR]; exact pX
 have cI:gg[l.length]? = some (.cells 11 (a9 o)) :=by rw[kW.same _ aK]; exact eE
 have q2:=q0;have vE:=cI;simp[a9] at q2 vE;simp[q2,b4];refine c8.cb ?_;simp[vE];refine wn _ fun yO oY aF=>?_
 rw[ra] at aF;obtain⟨Bi,Mk,gB,y4,_⟩:=(kW.frame aF.le aF.same).app (by_:=1) (x:=yO) (xs:=ek o.s.toNat) aF.contents (by simp[b7]) (by omega) (by omega) (by rw[ay]; simp only[as8]; omega);simp[gB];refine c8.cb ?_;simp;exact aU _ _ (y4.base (by simp) fun b af=>as2 af)
theorem ajt (o:bp) (au:i3 o) (qX:o.bh.l.length<=1000) :bA Tryz.prog GS 131 [.aG (a9 o)] (gp (iM (iJ o))) :=by
 refine bW Tryz.checked.mixed bl ?_;apply bq Tryz.func131 [];have bV:=iu o.e.toNat
 have sf:=iu o.s.toNat
 have lM:=VU o au qX;have bS:(iM (iJ o)).length=32:=wB _;simp[a9];refine aji o au qX fun bL l1 ad=>?_
 have eE:l1[1]? = some (.cells 32 (rep 32 (.int .u8 0))) :=by rw[ad.same 1 (by simp)]; rfl
 simp;refine lV (WX (some (iJ o)) (by simp[iJ]; omega)) (.cons (ad.sL (fun _=>rfl) (some (iJ o)) rfl rfl) .nil) (by simp[U.flat,l4,gp,zz bz (fun _=>rfl)]) ?_;have x7:bg (rep 32 (.int .u8 0)) 0 ((iM (iJ o)).map bz)=(iM (iJ o)).map bz:=hu (by rw[ate,bS]; rfl);have k8:(l1.set 1 (aY.cells 32 ((iM (iJ o)).map bz)))[1]? = some (.cells 32 ((iM (iJ o)).map bz)) :=atj (cp eE);simp[eE,gp,bS,x7,k8,as1];exact aP rfl (by simp[U.closed,mw bz (fun _=>rfl)])
theorem Jf:∀ a b:List B,a.length=b.length->fx (a.map bz) (b.map bz)=decide (a=b)
 | [],[],_=>rfl
 | [],_::_,h=>by simp at h
 | _::_,[],h=>by simp at h
 | x::a,y::b,h=>by
  have aS:=Jf a b (by simpa using h);simp only[atr,fx,aS,U.beq,decide_true,aus];by_cases ad:x=y
  ·by_cases ae:a=b<;>simp[ad,ae]
  ·have:¬ u x=u y:=fun h=>ad ((wK x y).1 h)
   simp[ad]
theorem D3:∀ a:List B,jf (List.replicate a.length (.i .u8)) (a.map bz)=true
 | []=>rfl
 | x::a=>by
  rw[atk,atP,atr];simp only[jf,D3 a,NS,decide_true,auO]
theorem Vi:sw Tryz.prog 20 61=some (List.replicate 32 (.i .u8)) :=by kernel_rfl
theorem LQ {a b:List B} (aB:a.length=32) (af:b.length=32) :gD Tryz.prog .eql 61 (.aG (a1 a)) (.aG (a1 b))=some (.bool (decide (a=b))) :=by
 unfold a1;rw[Ff Vi (by kernel_rfl) (by kernel_rfl) (by have:=D3 a; rwa [aB] at this) (by have:=D3 b; rwa [af] at this),Jf a b (by omega)]
theorem yc {a b:List B} (aB:a.length=32) (af:b.length=32) :gD Tryz.prog .neq 61 (.aG (a1 a)) (.aG (a1 b))=some (.bool (!decide (a=b))) :=by
 unfold a1;rw[Pf Vi (by kernel_rfl) (by kernel_rfl) (by have:=D3 a; rwa [aB] at this) (by have:=D3 b; rwa [af] at this),Jf a b (by omega)]
theorem ah4 (s:dr) :gD Tryz.prog .eql 23 (cA 32 a1 s) .aH=some (.bool s.isNone) :=Jh (e:=61) (by kernel_rfl) 32 a1 s
theorem aio (l:ao) :cF 32 a1 l (l++[.cells 0 []]) (.aq 32 l.length 0 0 0 0) ([] :List (List B)) false:=
 ⟨l.length,.aq l.length 0 0 0 [] [] (by simp) rfl rfl (by simp) (as3 _) (by omega) rfl,by simp,fun b af=>as2 af,.inr (as3 _),rfl⟩
theorem Ux (s:dr) (au:eu s) (ak:s.l.length<=1000000) {l:ao} {K:U->ao->Prop} (aU:∀ v l',cF 32 a1 l l' v s.l s.isNone->K v l') :
  dh Tryz.prog GS 61 [aD s] l (c:=⟨K⟩) :=by
 apply bq Tryz.func61 [];have ay:ct=140737488355328:=rfl;cases s with
 | none=>
  simp[aD];exact aU _ _ cF.nil
 | some a=>
  simp at ak;obtain⟨a3,l',a2,bd,_⟩:=(aio l).app (by_:=32) (x:=cA 32 a1 (some a)) (xs:=a) (vh _ 32 a1 (some a)) (fun y aJ=>de (au y aJ)) (by omega) (by omega) (by rw[ay]; simp; omega);simp[aD,ah4,a2];refine c8.cb ?_;simp;exact aU _ _ (by simpa using bd)
def py (l:List (List B)) (m:Nat) :List (List B) :=(List.range m).flatMap fun k=>if k=0\/bT l k≠bT l (k - 1) then [bT l k] else []
def r0 (l:List (List B)) :List (List B) :=py l l.length
theorem BW (l:List (List B)) (m:Nat) :py l (m+1)=py l m++(if m=0\/bT l m≠bT l (m - 1) then [bT l m] else []) :=by
 unfold py; rw[auT,avB]; simp
theorem Ro (l:List (List B)) :∀ m,(py l m).length<=m
 | 0=>by simp[py]
 | m+1=>by
  have:=Ro l m;rw[BW,as8];split<;>simp<;>omega
theorem BV {l:List (List B)}:∀ {m},m<=l.length->(∀ k,1<=k->k<m->bT l k≠bT l (k - 1))->py l m=l.take m
 | 0,_,_=>by simp[py]
 | m+1,hm,h=>by
  rw[BW,BV (by omega) (fun k ad ae=>h k ad (by omega)),atu,if_pos (by
   by_cases aI:m=0
   ·exact .inl aI
   ·exact .inr (h m (by omega) (by omega)))]
  congr 1;unfold bT;rw[atf,as4 (by omega)];rfl
theorem Rp {l:List (List B)} {k:Nat} (ad:1<=k) (am:bT l k=bT l (k - 1)) :∀ {m},k<m->(py l m).length<m
 | 0,h=>by omega
 | m+1,h=>by
  rw[BW,as8];by_cases ar:k=m
  ·subst ar;have:=Ro l k;rw[if_neg (fun h=>h.elim (fun aI=>by omega) (fun ae=>ae am))];simp; omega
  ·have:=Rp ad am (m:=m) (by omega);split<;>simp<;>omega
theorem aaU {l:List (List B)} (ak:yI l=true) :((r0 l).length=l.length)<->dA l=true:=by
 unfold yI at ak;rw[decide_eq_true_eq] at ak;unfold dA r0;rw[decide_eq_true_eq];constructor
 ·intro h k ar ad;have ae:=ak k ar ad;have aj:bT l k≠bT l (k - 1) :=fun am=>by
   have:=Rp ad am ar;omega
  have aF:=BS (bT l k) (bT l (k - 1));have a6:ca (bT l (k - 1)) (bT l k)≠0:=fun aI=>aj (zl aI).symm
  omega
 ·intro h;rw[BV (as3 _) (fun k ad ae am=>by
   have:=h k ae ad;rw[<-am,qE] at this;omega),aty]
theorem He {a:List (List B)} {k:Nat} (h:k<a.length) :(a.map a1)[k]? = some (a1 (bT a k)) :=by
 rw[as5];unfold bT;rw[atf,as4 h];rfl
theorem Hb {a:List (List B)} {k:Nat} (h:k<a.length) :bT a k∈a:=by
 unfold bT;rw[atf,as4 h];exact List.getElem_mem h
structure Y1 (l:ao) (v:U) (xs:List (List B)) (k:Nat) (σ:a8) (l1:ao) :Prop where
 ce:σ 0=v
 aZ:σ 3=.int .i64 ((k+1:Nat) :Int)
 al:l1=l
 ak:∀ j,1<=j->j<k+1->bT xs j≠bT xs (j - 1)
structure Y0 (l:ao) (v b2:U) (j:Nat) (xs:List (List B)) (m i:Nat) (σ:a8) (bo:ao) :Prop where
 ce:σ 0=v
 bi:σ 4=b2
 bm:σ 5=.int .i64 ((i+1:Nat) :Int)
 ex:∃ (k:Nat) (bQ:List (List B)),σ 3=.int .i64 (k:Int)/\bO 32 bo v j (bQ.map a1)/\bQ.length=xs.length/\(∀ y∈bQ,y.length=32)/\bQ.take k=py xs (m+i+1)/\k<=m+i/\(∀ t,m+i<=t->bT bQ t=bT xs t)/\bo.length=l.length/\∀ b,b≠j->bo[b]? = l[b]?
theorem aaS {l:ao} {v:U} {j k:Nat} {bQ:List (List B)} (h:bO 32 l v j (bQ.map a1)) (ar:k<bQ.length) :
  ∃ fj gg r,fF (.aq 32) v (some (.int .i64 (k:Int))) none none=some fj/\va (rep 32 (.int .u8 0)) l fj=some gg/\fF (.aq 32) v none (some (.int .i64 (k:Int))) none=some r ∧
   bO 32 gg r j ((bQ.take k).map a1)/\cD r=false/\gg.length=l.length/\∀ b,b≠j->gg[b]? = l[b]?:=by
 generalize am:bQ.map a1=es at h;cases h with
 | nil j=>rw[au5] at am; subst am; simp at ar
 | aq j n cap sz cs es af al aC ax ah di cY=>
  subst am;have Aa:bQ.length=n:=by simpa using aC
  have gd:ku (.int .i64 (k:Int)) n=some k:=by
   show (if 0<=(k:Int)/\(k:Int)<=(n:Int) then some (k:Int).toNat else none)=some k;rw[if_pos ⟨by omega,by omega⟩]; simp
  have dX:ku (.int .i64 (k:Int)) cap=some k:=by
   show (if 0<=(k:Int)/\(k:Int)<=(cap:Int) then some (k:Int).toNat else none)=some k;rw[if_pos ⟨by omega,by omega⟩]; simp
  have cX:gV n cap (some (.int .i64 (k:Int))) none none=some (k,n,cap) :=by
   show (match ku (.int .i64 (k:Int)) n with | none=>none | some l=>some (l,n,cap))=_;rw[gd]
  have dC:gV n cap none (some (.int .i64 (k:Int))) none=some (0,k,cap) :=by
   show (match ku (.int .i64 (k:Int)) cap with | none=>none | some h=>some (0,h,cap))=_;rw[dX]
  have e2:¬ cap=k:=by omega
  have Ge:¬ cap=0:=by omega
  have eO:j<l.length:=cp af;have hW:k*32<=n*32:=as6 _ (by omega);have kB:n*32<=cap*32:=as6 _ ah;have q5:(dx (rep 32 (.int .u8 0)) (n - k)).length=(n - k)*32:=by rw[Em]; rfl
  have api:k*32+(n - k)*32=n*32:=by rw[<-atQ]; congr 1; omega
  refine⟨.aq 32 j (k*32) (n - k) (cap - k) sz,l.set j (.cells sz (bg cs (k*32) (dx (rep 32 (.int .u8 0)) (n - k)))),.aq 32 j 0 k cap sz,?_,?_,?_,?_,rfl,by simp,fun b tx=>by rw[ato (fun h=>tx h.symm)]⟩
  ·rw[Ex,cX]; simp[e2]
  ·unfold va;simp only;rw[if_neg (by omega)];simp[af]
  ·rw[Ex,dC]; simp[Ge]
  ·refine .aq j k cap sz _ _ (atj eO) (by rw[yH (by omega),q5]; omega) (by simp; omega) (fun e am=>?_) (by omega) di ?_
   ·obtain⟨y,aJ,rfl⟩:=atx.1 am;exact ax _ (au6 (atw aJ))
   ·unfold bg;rw[atK,atG (by rw[ati]; omega),auH,Nat.min_self];have aQ:cs.take (k*32)=(cs.take (n*32)).take (k*32) :=by rw[auH,auy hW]
    have bx:bQ.map a1=(bQ.take k).map a1++(bQ.drop k).map a1:=by rw[<-atn,at3]
    have fc:((bQ.take k).map a1).flatten.length=k*32:=by
     rw[pC (z:=32) (fun e am=>by obtain⟨y,aJ,rfl⟩:=atx.1 am; exact ax _ (au6 (atw aJ)))];simp; omega
    rw[aQ,cY,bx,atT,atG (by omega),as1 (by omega)]
theorem Wa {bQ:List (List B)} (ax:∀ y∈bQ,y.length=32) (k:Nat) (ar:k<=bQ.length) {n:Nat} (aC:bQ.length=n) {cs:List U} (cY:cs.take (n*32)=(bQ.map a1).flatten) (al:n*32<=cs.length) :
  cs.take (k*32)=((bQ.take k).map a1).flatten/\(cs.drop (k*32)).take (n*32 - k*32)=((bQ.drop k).map a1).flatten:=by
 have hW:k*32<=n*32:=as6 _ (by omega);have bx:bQ.map a1=(bQ.take k).map a1++(bQ.drop k).map a1:=by rw[<-atn,at3]
 have fc:((bQ.take k).map a1).flatten.length=k*32:=by
  rw[pC (z:=32) (fun e am=>by obtain⟨y,aJ,rfl⟩:=atx.1 am; exact de (ax _ (atw aJ)))];simp; omega
 have aQ:cs.take (k*32)=(cs.take (n*32)).take (k*32) :=by rw[auH,auy hW]
 constructor
 ·rw[aQ,cY,bx,atT,atG (by omega),as1 (by omega)]
 ·rw[<-avk,cY,bx,atT,atY (by omega),auW (by omega),at1]
theorem akA {l:ao} {v:U} {j k:Nat} {bQ:List (List B)} {x:List B} (h:bO 32 l v j (bQ.map a1)) (ax:∀ y∈bQ,y.length=32) (ar:k<bQ.length) (ag:x.length=32) :
  ∃ p l',cN (.aq 32) v (.int .i64 (k:Int))=some p/\lX 32 l p (.aG (a1 x))=some l'/\bO 32 l' v j ((bQ.set k x).map a1)/\l'.length=l.length/\∀ b,b≠j->l'[b]? = l[b]?:=by
 generalize am:bQ.map a1=es at h;cases h with
 | nil j=>rw[au5] at am; subst am; simp at ar
 | aq j n cap sz cs es af al aC p1 ah di cY=>
  subst am;have Aa:bQ.length=n:=by simpa using aC
  have eO:j<l.length:=cp af;have bn:=de ag;have hW:(k+1)*32<=n*32:=as6 _ (by omega);have kB:n*32<=cap*32:=as6 _ ah;have ak:(k+1)*32=k*32+32:=by rw[atL]
  obtain⟨f1,_⟩:=Wa ax k (by omega) Aa cY (by omega);obtain⟨_,f2⟩:=Wa ax (k+1) (by omega) Aa cY (by omega);refine⟨.ptr j (k*32) sz,l.set j (.cells sz (bg cs (k*32) (a1 x))),?_,?_,?_,by simp,fun b tx=>by rw[ato (fun h=>tx h.symm)]⟩
  ·simp[cN]; omega
  ·unfold lX;simp[af,U.cells,bn];omega
  ·refine .aq j n cap sz _ _ (atj eO) (by rw[yH (by omega),bn]; omega) (by simp; omega) (fun e am=>?_) ah di ?_
   ·obtain⟨y,aJ,rfl⟩:=atx.1 am;rcases ava aJ with h | h
    ·exact de (ax _ h)
    ·rw[h]; exact bn
   ·have k8:bQ.set k x=bQ.take k++(x::bQ.drop (k+1)) :=by rw[aur,if_pos ar]
    rw[k8,atn,atr,atT,atW,<-f1,<-f2];unfold bg;have t1:(cs.take (k*32)).length=k*32:=by rw[ati]; omega
    have Bf:(cs.take (k*32)).take (n*32)=cs.take (k*32) :=as1 (by rw[t1]; omega);have Bg:(a1 x).take (n*32 - k*32)=a1 x:=as1 (by rw[bn]; omega);rw[atK,bn,<-ak,auK,t1,Bf,auK,Bg,bn,show n*32 - k*32 - 32=n*32 - (k+1)*32 by omega]
theorem aaI {fh l:ao} {v:U} {xs:List (List B)} {nl:Bool} (h:cF 32 a1 fh l v xs nl) (ag:∀ x∈xs,x.length=32) (aC:xs.length<=1000000) {K:U->ao->Prop} (aU:∀ r l',cF 32 a1 fh l' r (r0 xs) nl->K r l') :
  dh Tryz.prog GS 76 [v] l (c:=⟨K⟩) :=by
 apply bq Tryz.func76 [];have bD:=h.len;by_cases ae:xs.length<2
 ·have go:(xs.length:Int)<2:=by omega
  have zY:r0 xs=xs:=by
   unfold r0;rw[BV (as3 _) (fun k ad aj=>by omega),aty]
  simp[bD,go];exact aU _ _ (by rw[zY]; exact h)
 ·have go:¬ (xs.length:Int)<2:=by omega
  simp[bD,go];refine cB (xs.length - 1) (Y1 l v xs) ?_ ⟨by simp,by simp,rfl,fun j ad aj=>by omega⟩;rintro k σ l1 ar ⟨ce,aZ,rfl,ak⟩;obtain⟨σ,rfl⟩:=qm ce aZ;clear ce aZ;obtain⟨m,hm⟩:∃ m,m=k+1:=⟨_,rfl⟩
  rw[<-hm] at ak ⊢;by_cases aK:m<xs.length
  ·have aQ:IntKind.i64.wrap ((m:Int) - 1)=(k:Int) :=by rw[IntKind.wrap_i64]; omega
   have bx:IntKind.i64.wrap ((m:Int)+1)=((m+1:Nat) :Int) :=by rw[IntKind.wrap_i64]; omega
   have kA:(m:Int)<(xs.length:Int) :=by omega
   obtain⟨j,au,od⟩:=h;obtain⟨iK,b0,iv,a2,bd,b4,e0⟩:=au.q.get (k:=.i64) (He aK);obtain⟨jh,b5,gP,cX,dC,kW,qC⟩:=au.q.get (k:=.i64) (He (a:=xs) (k:=k) (by omega));have hV:=LQ (ag _ (Hb aK)) (ag _ (Hb (a:=xs) (k:=k) (by omega)));obtain⟨X,cM⟩:∃ X,X=bT xs m:=⟨_,rfl⟩
   obtain⟨Y,gX⟩:∃ Y,Y=bT xs k:=⟨_,rfl⟩
   rw[<-cM] at e0 hV;rw[<-gX] at qC hV;by_cases am:X=Y
   ·have tH:gD Tryz.prog .eql 61 (.aG (a1 X)) (.aG (a1 Y))=some (.bool true) :=by rw[hV,decide_eq_true am]
    have ap:cD v=false:=by
     cases aeP:cD v with
     | false=>rfl
     | true=>
      have:=kK.1 aeP;subst this;have:=au.q.MG;rw[au5] at this;rw[this] at aK; simp at aK
    obtain⟨b2,cQ,ie,_⟩:=au.q.from ap (k:=.i64) (i:=m) (by simp; omega);have aI:py xs m=xs.take m:=BV (by omega) ak;have ad:py xs (m+1)=xs.take m:=by rw[BW,if_neg (fun h=>h.elim (fun aI=>by omega) (fun ae=>ae (by rw[<-cM,show m - 1=k by omega,<-gX]; exact am))),aI,atB]
    simp[bD,kA,aQ,a2,bd,b4,e0,cX,dC,kW,qC,tH,cQ];refine cB (xs.length - m - 1) (Y0 l1 v b2 j xs m) ?_ ⟨by simp,by simp,by simp,m,xs,by simp,au,rfl,ag,ad.symm,by omega,fun t _=>rfl,rfl,fun b _=>rfl⟩;rintro i σ bo az ⟨ce,bi,bm,q,bQ,aZ,bj,fA,Ds,iZ,Dg,sg,C4,jK⟩;obtain⟨σ,rfl⟩:=i2 ce aZ bi bm;clear ce aZ bi bm;obtain⟨cP,ad6⟩:∃ cP,cP=i+1:=⟨_,rfl⟩
    rw[<-ad6];obtain⟨rF,yE,Nt,_⟩:=bj.q.from ap (k:=.i64) (i:=m) (by simp; omega);rw[cQ] at yE;obtain rfl:=Option.some.inj yE;have iX:=Nt.len;rw[at7,ate,fA] at iX;by_cases pS:cP<xs.length - m
    ·have GH:(cP:Int)<((xs.length - m:Nat) :Int) :=by omega
     have bL:IntKind.i64.wrap ((cP:Int) - 1)=(i:Int) :=by rw[IntKind.wrap_i64]; omega
     have w2:IntKind.i64.wrap ((cP:Int)+1)=((cP+1:Nat) :Int) :=by rw[IntKind.wrap_i64]; omega
     have cO:IntKind.i64.wrap ((q:Int)+1)=((q+1:Nat) :Int) :=by rw[IntKind.wrap_i64]; omega
     obtain⟨yw,ik,o0,jF,lp,Bn,qo⟩:=Nt.get (k:=.i64) (i:=cP) (e:=a1 (bT bQ (m+cP))) (by rw[atH]; exact He (by omega));obtain⟨arS,gJ,km,iP,pi,Oh,Oi⟩:=Nt.get (k:=.i64) (i:=i) (e:=a1 (bT bQ (m+i))) (by rw[atH]; exact He (by omega));have p0:=Ds _ (Hb (a:=bQ) (k:=m+cP) (by omega));have p1:=Ds _ (Hb (a:=bQ) (k:=m+i) (by omega));have bV:=yc p0 p1;have Ag:=sg (m+cP) (by omega);have Ah:=sg (m+i) (by omega);have bb:=BW xs (m+cP);rw[show m+cP - 1=m+i by omega] at bb;obtain⟨xb,acZ⟩:∃ X,X=bT bQ (m+cP) :=⟨_,rfl⟩
     obtain⟨IX,Kl⟩:∃ Y,Y=bT bQ (m+i) :=⟨_,rfl⟩
     rw[<-acZ] at qo bV p0 Ag;rw[<-Kl] at Oi bV Ah;rw[<-Ag,<-Ah] at bb;rw[show m+i+1=m+cP by omega] at iZ;by_cases tC:xb=IX
     ·have qY:gD Tryz.prog .neq 61 (.aG (a1 xb)) (.aG (a1 IX))=some (.bool false) :=by rw[bV]; simp[tC]
      rw[if_neg (fun h=>h.elim (fun aI=>by omega) (fun ae=>ae tC)),atB] at bb;simp[iX,GH,bL,jF,lp,Bn,qo,iP,pi,Oh,Oi,qY,w2];exact⟨by omega,by simp,by simp,by simp,q,bQ,by simp,bj,fA,Ds,by rw[bb]; exact iZ,by omega,fun t aV=>sg t (by omega),C4,jK⟩
     ·have qY:gD Tryz.prog .neq 61 (.aG (a1 xb)) (.aG (a1 IX))=some (.bool true) :=by rw[bV]; simp[tC]
      rw[if_pos (.inr tC)] at bb;obtain⟨aiP,gg,gA,fU,uG,YM,Oj⟩:=akA bj Ds (k:=q) (x:=xb) (by omega) p0;simp[iX,GH,bL,jF,lp,Bn,qo,iP,pi,Oh,Oi,qY,w2,cO,gA,fU];have aln:(bQ.take q).length=q:=by rw[ati]; omega
      have rb:(bQ.set q xb).take (q+1)=bQ.take q++[xb] :=by
       rw[aur,if_pos (by omega),auK,aln,as1 (by omega),show q+1 - q=1 by omega]; simp
      refine⟨by omega,by simp,by simp,by simp,q+1,bQ.set q xb,by simp,uG,by simp[fA],fun y aJ=>?_,by rw[rb,bb,iZ],by omega,fun t aV=>?_,by omega,fun b af=>(Oj b af).trans (jK b af)⟩
      ·rcases ava aJ with h | h
       ·exact Ds _ h
       ·rw[h]; exact p0
      ·have:=sg t (by omega);unfold bT at this ⊢;rw[atf,ato (by omega),<-atf];exact this
    ·have GH:¬ (cP:Int)<((xs.length - m:Nat) :Int) :=by omega
     obtain⟨fj,gg,r,gA,fU,uG,YM,Oj,asX,amN⟩:=aaS bj (k:=q) (by omega);simp[iX,GH,gA,fU,uG];obtain⟨aO,aT,aZ,bi⟩:=od;have xP:fh.length<=j:=aZ.resolve_left (fun h=>by rw[h] at ap; cases ap);have CR:m+i+1=xs.length:=by omega
     rw[CR] at iZ;refine aU _ _ ⟨j,by unfold r0; rw[<-iZ]; exact YM,by omega,fun b af=>?_,.inr xP,by rw[Oj,<-bi,ap]⟩;rw[amN b (by omega),jK b (by omega)];exact aT b af
   ·have tH:gD Tryz.prog .eql 61 (.aG (a1 X)) (.aG (a1 Y))=some (.bool false) :=by rw[hV,decide_eq_false am]
    simp[bD,kA,aQ,a2,bd,b4,e0,cX,dC,kW,qC,tH,bx];refine⟨by omega,by simp,by simp[hm],rfl,fun t ad ae=>?_⟩;by_cases aV:t=m
    ·rw[aV,<-cM,show m - 1=k by omega,<-gX]; exact am
    ·exact ak t ad (by omega)
  ·have kA:¬ (m:Int)<(xs.length:Int) :=by omega
   have zY:r0 xs=xs:=by
    unfold r0;rw[BV (as3 _) (fun k ad aj=>ak k ad (by omega)),aty]
   simp[bD,kA];exact aU _ _ (by rw[zY]; exact h)
theorem aka {l:List (List B)} (h:dA l=true) :yI l=true:=by
 unfold dA at h;rw[decide_eq_true_eq] at h;exact XE fun k ar ad=>by
  have:=h k ar ad;have aF:=BS (bT l k) (bT l (k - 1));omega
theorem Iu (o:bp) (au:i3 o) :bA Tryz.prog GS 99 [.aG (a9 o)] (.int .i64 (hh o)) :=by
 refine bW Tryz.checked.mixed bl ?_;apply bq Tryz.func99 [[[0],[1],[2],[3],[4],[5],[6],[10],[11],[12],[7,11],[8,11],[9]]];unfold hh;have ew:=dw o.bh;have bD:cv (.aq 32) (aD o.bh)=some (.int .i64 o.bh.l.length) :=by simp[aD]
 have lF:(aD o.bh).cells=some [aD o.bh] :=by cases o.bh<;>rfl
 by_cases ad:4<o.bh.l.length
 ·have dH:(4:Int)<(o.bh.l.length:Int) :=by omega
  rw[if_pos ad];simp[a9,bD,dH];exact aP rfl rfl
 ·have dH:¬ (4:Int)<(o.bh.l.length:Int) :=by omega
  rw[if_neg ad];simp[a9,bD,dH];refine a4 (agx o.bh au.ids au.len) (by simp[a5,ew,U.closed]) ?_;cases ae:yI o.bh.l with
  | false=>
   have aj:dA o.bh.l=false:=by
    cases aj:dA o.bh.l with
    | false=>rfl
    | true=>rw[aka aj] at ae; cases ae
   simp[aj,bD];exact aP rfl rfl
  | true=>
   simp[bD];refine Ux o.bh au.ids au.len fun cj l1 aO=>?_
   have ac5:l1[0]? = some (.cells 11 (a9 o)) :=by rw[aO.same 0 (by simp)]; rfl
   have SQ:=ac5;simp[a9] at SQ;simp[SQ];refine aaI aO au.ids au.len fun b2 bo aT=>?_
   have eE:bo[0]? = some (.cells 11 (a9 o)) :=by rw[aT.same 0 (by simp)]; rfl
   have zV:=eE;simp[a9] at zV;have iX:=aT.len;have zY:=aaU ae;cases aj:dA o.bh.l with
   | false=>
    have bV:¬ ((r0 o.bh.l).length:Int)=(o.bh.l.length:Int) :=fun h=>by
     have:=zY.1 (by omega);rw[aj] at this; cases this
    simp[iX,zV,bD,bV];exact aP rfl rfl
   | true=>
    have heq:((r0 o.bh.l).length:Int)=(o.bh.l.length:Int) :=by have:=zY.2 aj; omega
    simp[iX,zV,bD,heq];refine a4 (L3 o.g9) rfl ?_;unfold tl;cases a6:gq o.g9 with
    | false=>
     simp;exact aP rfl rfl
    | true=>
     have b3:((1000000000000:Int)<u o.ig)<->¬ o.ig.toNat<=1000000000000:=by unfold u; omega
     by_cases bu:o.ig.toNat<=1000000000000
     ·have oL:¬ ((1000000000000:Int)<u o.ig) :=fun h=>b3.1 h bu
      have xX:((500000003:Int)<=max (u o.e:Int) (u o.s))<->¬ (js o.e&&js o.s)=true:=by
       unfold js u;simp only[as7,decide_eq_true_eq];omega
      have TH:ug (br o.e) (br o.s)=some (.int .u32 (max (u o.e:Int) (u o.s))) :=by
       show (if IntKind.u32=IntKind.u32 then some (U.int .u32 (if (u o.e:Int)<u o.s then u o.s else u o.e)) else none)=_;rw[if_pos rfl];congr 2;split<;>omega
      cases cL:(js o.e&&js o.s) with
      | false=>
       have qO:(500000003:Int)<=max (u o.e:Int) (u o.s) :=xX.2 (by rw[cL]; simp);simp[zV,bu,oL,TH,qO];exact aP rfl rfl
      | true=>
       have qO:¬ (500000003:Int)<=max (u o.e:Int) (u o.s) :=fun h=>(xX.1 h) cL
       simp[zV,bu,oL,TH,qO];refine a4 (aas o.act) rfl ?_;cases gM:kU o.act with
       | false=>
        simp[my];exact aP rfl rfl
       | true=>
        simp[my];exact aP (by rw[if_pos bu]) rfl
     ·have oL:(1000000000000:Int)<u o.ig:=b3.2 bu;simp[zV,bu,oL];exact aP rfl rfl
theorem Ia (a b:dr) (aB:eu a) (af:eu b) (al:a.l.length<=1000000) :bA Tryz.prog GS 21 [aD a,aD b] (.bool (decide (a.l=b.l))) :=by
 refine bW Tryz.checked.mixed bl ?_;apply bq Tryz.func21 [];simp[aD];by_cases ad:a.l.length=b.l.length
 ·have dH:((a.l.length:Int)=b.l.length) :=by omega
  simp[ad];refine cB a.l.length (fun k σ l=>σ 0=cA 32 a1 a/\σ 1=cA 32 a1 b/\σ 5=.int .i64 k/\∀ j,j<k->a.l[j]? = b.l[j]?) ?_ (by simp[aD]);rintro k σ l ar ⟨ce,aO,bm,ak⟩;obtain⟨s,rfl⟩:=ln ce aO bm;clear ce aO bm;simp;refine oX (fun h=>?_) (fun h=>?_)
  ·simp only[decide_eq_true_eq] at h;obtain⟨x,ag,dp⟩:=bP h;obtain⟨y,aJ,er⟩:=bP (l:=b.l) (k:=k) (by omega);have aQ:IntKind.i64.wrap ((k:Int)+1)=((k+1:Nat) :Int) :=by rw[IntKind.wrap_i64]; omega
   simp[ag,aJ,de (aB x dp),de (af y er),as1,yc (aB x dp) (af y er)];by_cases am:x=y
   ·simp[am,aQ];refine⟨by omega,fun j ai=>?_⟩;by_cases gG:j=k
    ·subst gG; rw[ag,aJ,am]
    ·exact ak j (by omega)
   ·simp[am];refine aP (congrArg U.bool (decide_eq_false fun gY=>am ?_).symm) rfl;rw[gY,aJ] at ag; exact (Option.some.inj ag).symm
  ·simp[h];have qV:k=a.l.length:=by simp at h; omega
   refine aP (congrArg U.bool (decide_eq_true ?_).symm) rfl;apply atO;intro j;by_cases ai:j<a.l.length
   ·exact ak j (by omega)
   ·rw[atd (by omega),atd (by omega)]
 ·have dH:¬ ((a.l.length:Int)=b.l.length) :=by omega
  simp[ad,dH];exact aP (by rw[decide_eq_false (fun gY=>ad (by rw[gY]))]) rfl
def mO (o:bp) :List B:=if hh o=0 then iM (iJ o) else List.replicate 32 0#8
theorem yu {o:bp} (h:hh o=0) :o.bh.l.length<=4:=by
 unfold hh at h;split at h
 ·cases h
 ·omega
theorem Xb {l:ao} {b n:Nat} {hv:List U} {k:Nat} {w:U} {kd:IntKind} (af:l[b]? = some (.cells n hv)) (aC:hv.length=n) (ar:hv[k]? = some w) :
  ∃ p cs o,cN (.aq 1) (.aq 1 b 0 n n n) (.int kd (k:Int))=some p/\g4 l p=some (cs,o)/\cs[o]? = some w:=by
 have aK:k<n:=by rw[<-aC]; exact (as0.1 ar).1
 refine⟨.ptr b (0+k*1) n,hv,0+k*1,?_,?_,by simpa using ar⟩
 ·simp only[cN,atD];rw[if_pos ⟨trivial,by omega,by omega⟩]
 ·simp only[g4,af,if_true]
theorem acl {n:Nat} (aC:n<=1000000000) {l:ao} {K:U->ao->Prop} (aU:∀ v l',cF 1 b7 l l' v ([] :List B) (decide (n=0))->K v l') :dh Tryz.prog GS 153 [.aH,.int .i64 n] l (c:=⟨K⟩) :=by
 apply bq Tryz.func153 [];have ad:¬((n:Int)<0) :=by omega
 have aW:IntKind.i64.wrap (n:Int)=n:=wrap_i64 (by omega) (by omega);have LG:IntKind.i64.wrap (0:Int)=0:=rfl;by_cases aI:n=0
 ·subst aI;simp;exact aU _ _ cF.nil
 have ae:(0:Int)<n:=by omega
 have ax:qB l 1 1 [.int .u8 0] .aH (.int .i64 n)=some (.aq 1 l.length 0 n n (n*1),l++[.cells (n*1) (dx [.int .u8 0] n)]) :=by
  unfold qB jq;simp only[atD];have ay:ct=140737488355328:=rfl;rw[if_pos ⟨by omega,by omega,by rw[ay]; omega⟩,if_neg aI,if_neg (by omega),if_pos (by rw[ay]; omega)]
 have ak:fF (.aq 1) (.aq 1 l.length 0 n n (n*1)) none (some (.int .i64 0)) none=some (.aq 1 l.length 0 0 n (n*1)) :=by
  rw[Ex,Jm,if_pos ⟨by omega,by omega⟩];simp[aI]
 rw[aux] at ax ak;have aj:0<n:=by omega
 simp[ad,ae,aj,aW,ax,LG,ak];refine aU _ (l++[.cells n (dx [.int .u8 0] n)]) ⟨l.length,.aq _ 0 n n (dx [.int .u8 0] n) [] (by simp) (by rw[Em]; simp) rfl (by simp) (by omega) (by omega) rfl,by simp,fun b af=>as2 af,.inr (as3 _),?_⟩;simp[cD,aI]
def i9 (bs:List (List B)) :List B:=bs.flatten
theorem RR {bs:List (List B)} {k:Nat} {s:List B} (h:bs[k]? = some s) :i9 (bs.take (k+1))=i9 (bs.take k)++s:=by
 unfold i9;rw[atu,h]; simp
theorem RQ (bs:List (List B)) (k:Nat) :(i9 (bs.take k)).length<=(i9 bs).length:=by
 conv=>rhs; rw[<-at3 k bs]
 unfold i9;rw[atT,as8];omega
structure mZ (l:ao) (w:U) (s:List B) :Prop where
 len:cv (.aq 1) w=some (.int .i64 s.length)
 Rj:∀ l',l.length<=l'.length->(∀ b,b<l.length->l'[b]? = l[b]?)->ds l' 1 w=some ((s.map b7).flatten,s.length)
theorem AJ {l l1:ao} {w:U} {s:List B} {nl:Bool} (h:cF 1 b7 l l1 w s nl) :mZ l1 w s:=⟨h.len,fun l' ad ae=>(h.frame ad ae).contents⟩
theorem mZ.frame {l l1:ao} {w:U} {s:List B} (h:mZ l w s) (al:l.length<=l1.length) (ak:∀ b,b<l.length->l1[b]? = l[b]?) :mZ l1 w s:=
 ⟨h.len,fun l' ad ae=>h.Rj l' (by omega) fun b af=>by rw[ae b (by omega)]; exact ak b af⟩
theorem Wc {l:ao} {b:Nat} {x:B} (h:l[b]? = some (.cells 1 [bz x])) :mZ l (.aq 1 b 0 1 1 1) [x] :=by
 have:=cp h;exact⟨rfl,fun l' ad ae=>by have:=ae b this; rw[h] at this; simp[ds,this,b7]⟩
structure YZ (l:ao) (X:U) (bs:List (List B)) (k:Nat) (σ:a8) (l1:ao) :Prop where
 tk:σ 25=X
 zF:σ 26=.int .i64 bs.length
 zG:σ 27=.int .i64 k
 sD:∃ v,σ 6=v/\cF 1 b7 l l1 v (i9 (bs.take k)) (decide ((i9 bs).length=0))
set_option maxHeartbeats 4000000 in
theorem Rk {l:ao} {b n:Nat} {hv:List U} {bs:List (List B)} (af:l[b]? = some (.cells n hv)) (LJ:hv.length=n) (oR:bs.length=n)
  (av:∀ (k:Nat) (w:U) (s:List B),hv[k]? = some w->bs[k]? = some s->mZ l w s) (al:(i9 bs).length<=1000000000) (C4:n<=1000000000)
  {K:U->ao->Prop} (aU:∀ v l',cF 1 b7 l l' v (i9 bs) (decide ((i9 bs).length=0))->K v l') :
  dh Tryz.prog GS 110 [.aq 1 b 0 n n n] l (c:=⟨K⟩) :=by
 apply bq Tryz.func110 [];have jN:=cp af;have cM:∀ l',l.length<=l'.length->(∀ b,b<l.length->l'[b]? = l[b]?)->∀ k,k<n->∃ w s p cs o,hv[k]? = some w/\bs[k]? = some s/\mZ l' w s/\cN (.aq 1) (.aq 1 b 0 n n n) (.int .i64 (k:Int))=some p/\g4 l' p=some (cs,o)/\cs[o]? = some w:=by
  intro l' ad ae k ar;obtain⟨w,aW,_⟩:=bP (l:=hv) (k:=k) (by omega);obtain⟨s,ak,_⟩:=bP (l:=bs) (k:=k) (by omega);obtain⟨p,cs,o,a2,bd,b4⟩:=Xb (kd:=.i64) (l:=l') (by rw[ae b jN]; exact af) LJ aW;exact⟨w,s,p,cs,o,aW,ak,(av k w s aW ak).frame ad ae,a2,bd,b4⟩
 obtain⟨X,SL⟩:∃ X,X=U.aq 1 b 0 n n n:=⟨_,rfl⟩
 have zT:cv (.aq 1) X=some (.int .i64 bs.length) :=by rw[SL,oR]; rfl
 rw[<-SL] at cM ⊢;simp[zT];refine cB n (fun k σ l1=>σ 0=X/\σ 9=X/\σ 10=.int .i64 bs.length/\σ 11=.int .i64 k/\σ 3=.int .i64 (i9 (bs.take k)).length/\l1=l) ?_ ?_
 ·rintro k σ l1 ar ⟨ce,h3,j9,kw,aZ,rfl⟩;obtain⟨σ,rfl⟩:=lo ce aZ h3 j9 kw;clear ce aZ h3 j9 kw;simp;by_cases h:k<bs.length
  ·obtain⟨w,s,p,cs,o,aW,ak,tQ,a2,bd,b4⟩:=cM l1 (as3 _) (fun _ _=>rfl) k (by omega);have CS:=RR ak;have dY:=RQ bs (k+1);rw[CS,as8] at dY;have la:IntKind.i64.wrap (((i9 (bs.take k)).length:Int)+s.length)=((i9 (bs.take k)).length:Int)+s.length:=wrap_i64 (by omega) (by omega);have fg:IntKind.i64.wrap ((k:Int)+1)=k+1:=wrap_i64 (by omega) (by omega);have jO:¬(((i9 (bs.take k)).length:Int)+s.length<0) :=by omega
   have gZ:=tQ.len;simp[h,a2,bd,b4,gZ,la,jO,fg,CS];omega
  ·have bB:k=bs.length:=by omega
   subst bB;rw[aty];simp;refine acl al ?_;intro v l au;simp[zT];refine cB bs.length (YZ l1 X bs) ?_ ⟨by simp,by simp,by simp,v,by simp,by simpa [i9] using au⟩;rintro k σ bo ar ⟨tk,zF,zG,w,cw,au⟩;obtain⟨σ,rfl⟩:=i2 cw tk zF zG;clear cw tk zF zG;simp;by_cases h:k<bs.length
   ·obtain⟨y,s,p,cs,o,aW,ak,tQ,a2,bd,b4⟩:=cM bo au.le au.same k (by omega);have CS:=RR ak;have dY:=RQ bs (k+1);rw[CS,as8] at dY;have fg:IntKind.i64.wrap ((k:Int)+1)=k+1:=wrap_i64 (by omega) (by omega);have ay:ct=140737488355328:=rfl;obtain⟨a3,gg,cX,dC,kW⟩:=au.app (by_:=1) (x:=y) (xs:=s) (tQ.Rj bo (as3 _) fun _ _=>rfl) (by simp[b7]) (by omega) (by omega) (by rw[ay]; omega);simp[h,a2,bd,b4,cX];refine c8.cb ?_;simp[h,fg];refine⟨by simp,by simp,by simp,a3,by simp,?_⟩;rw[CS];have kD:(decide ((i9 bs).length=0)&&s.isEmpty)=decide ((i9 bs).length=0) :=by
     by_cases am:(i9 bs).length=0
     ·have:s=[] :=atI.1 (by omega);simp[am,this]
     ·simp[am]
    rw[kD] at dC;exact dC
   ·have bB:k=bs.length:=by omega
    subst bB;simp;rw[aty] at au;exact aU _ _ au
 ·simp[i9]
def hy (o:bp) :bp:={ o with e:=0#32,s:=0#32 }
theorem Yv (o:bp) (au:i3 o) (ar:hh (hy o)=0) {l:ao} {K:U->ao->Prop} (aU:∀ w l',cF 1 b7 l l' w (kO o) false->K (.bv [w,.int .i64 0]) l') :
  dh Tryz.prog GS 82 [.aG (a9 o)] l (c:=⟨K⟩) :=by
 apply bq Tryz.func82 [[[0],[1],[2],[3],[5],[6],[7],[9],[10],[11],[12],[4,12,11,7,0],[8,12,11,0]]];have ay:ct=140737488355328:=rfl;have sd:=iu o.g9.toNat
 have sf:=iu o.ig.toNat
 have gZ:=DT au.ids;have fq:i3 (hy o) :=⟨au.ids,au.len,au.val,au.key⟩
 have e2:=Iu (hy o) fq;rw[ar] at e2;have qX:o.bh.l.length<=4:=yu (o:=hy o) ar;have GY:dA o.bh.l=true:=by
  unfold hh at ar;have aQ:(hy o).bh=o.bh:=rfl;rw[aQ,if_neg (by omega)] at ar;cases aj:dA o.bh.l with
  | true=>rfl
  | false=>rw[aj] at ar; cases ar
 have Lw:(BitVec.setWidth 64 o.g9).toNat=o.g9.toNat:=by rw[ath]; exact atb (by have:=o.g9.isLt; omega)
 have ads:=l3 (hy o);have aK:l.length<(l++[aY.cells 11 (a9 (hy o))]).length:=by simp
 have eE:(l++[aY.cells 11 (a9 (hy o))])[l.length]? = some (.cells 11 (a9 (hy o))) :=by simp
 simp[a9];refine a4 e2 (show a5 [U.aG (a9 (hy o))]=true by simp[a5,U.closed,ads]) ?_;simp;refine amg o.bh au.ids (by omega) GY fun bL l1 ad=>?_
 have pX:l1[l.length]? = some (.cells 11 (a9 (hy o))) :=by rw[ad.same _ aK]; exact eE
 have pR:l.length<l1.length:=by have:=ad.le; simp at this; omega
 have x2:=pX;simp[a9,hy] at x2;have ae9:(l1++[aY.cells 1 [U.int .u8 111]])[l.length]? = some (.cells 11 (a9 (hy o))) :=by rw[as2 pR]; exact pX
 have aph:l.length<(l1++[aY.cells 1 [U.int .u8 111]]).length:=by simp; omega
 have T3:=ae9;simp[a9,hy] at T3;simp[T3];have afe:(l1++[aY.cells 1 [U.int .u8 111],aY.cells 1 [U.int .u8 (u o.act.kind)]])[l.length]? = some (.cells 11 (a9 (hy o))) :=by rw[as2 pR]; exact pX
 have afa:(l1++[aY.cells 1 [U.int .u8 111],aY.cells 1 [U.int .u8 (u o.act.kind)]])[l1.length]? = some (.cells 1 [.int .u8 111]) :=by simp
 have Dg:(l1++[aY.cells 1 [U.int .u8 111],aY.cells 1 [U.int .u8 (u o.act.kind)]])[l1.length+1]? = some (.cells 1 [.int .u8 (u o.act.kind)]) :=by simp
 have r3:(l1++[aY.cells 1 [U.int .u8 111],aY.cells 1 [U.int .u8 (u o.act.kind)]]).length=l1.length+2:=by simp
 refine yP _ fun w2 bo ae=>?_
 rw[Lw] at ae;have z7:=ae.le;rw[r3] at z7;have q0:bo[l.length]? = some (.cells 11 (a9 (hy o))) :=by rw[ae.same _ (by rw[r3]; omega)]; exact afe
 have Sj:bo[l1.length]? = some (.cells 1 [.int .u8 111]) :=by rw[ae.same _ (by rw[r3]; omega)]; exact afa
 have Sk:bo[l1.length+1]? = some (.cells 1 [.int .u8 (u o.act.kind)]) :=by rw[ae.same _ (by rw[r3]; omega)]; exact Dg
 have q2:=q0;simp[a9,hy] at q2;simp[q2,Sj,Sk];refine yP _ fun cO gg aj=>?_
 have TE:=aj.le;have cI:gg[l.length]? = some (.cells 11 (a9 (hy o))) :=by rw[aj.same _ (by omega)]; exact q0
 have Sl:gg[l1.length]? = some (.cells 1 [.int .u8 111]) :=by rw[aj.same _ (by omega)]; exact Sj
 have Sm:gg[l1.length+1]? = some (.cells 1 [.int .u8 (u o.act.kind)]) :=by rw[aj.same _ (by omega)]; exact Sk
 have vE:=cI;simp[a9,hy] at vE;simp[vE,Sl,Sm,ad.cells,ae.cells,aj.cells,bg];obtain⟨L,eV⟩:∃ L,L=gg++[aY.cells 5 [.aq 1 l1.length 0 1 1 1,w2,bL,cO,.aq 1 (l1.length+1) 0 1 1 1]] :=⟨_,rfl⟩
 have xA:gg.length<=L.length:=by rw[eV]; simp
 have pK:∀ b,b<gg.length->L[b]? = gg[b]?:=fun b af=>by rw[eV,as2 af]
 have Kd:L[gg.length]? = some (.cells 5 [.aq 1 l1.length 0 1 1 1,w2,bL,cO,.aq 1 (l1.length+1) 0 1 1 1]) :=by rw[eV]; simp
 rw[<-eV];have IL:mZ L (.aq 1 l1.length 0 1 1 1) [111#8] :=Wc (by rw[pK _ (by omega)]; exact Sl);have Zg:mZ L (.aq 1 (l1.length+1) 0 1 1 1) [o.act.kind] :=Wc (by rw[pK _ (by omega)]; exact Sm);have IM:mZ L w2 (ek o.g9.toNat) :=((AJ ae).frame TE aj.same).frame xA pK;have IP:mZ L bL (rk o.bh.l) :=((((AJ ad).frame (l1:=l1++[aY.cells 1 [U.int .u8 111],aY.cells 1 [U.int .u8 (u o.act.kind)]]) (by rw[r3]; omega) (fun b af=>as2 af)).frame (by rw[r3]; exact z7) ae.same).frame TE aj.same).frame xA pK;have Zf:mZ L cO (ek o.ig.toNat) :=(AJ aj).frame xA pK;have TX:L[l.length]? = some (.cells 11 (a9 (hy o))) :=by rw[pK _ (by omega)]; exact cI
 obtain⟨M,iV⟩:∃ M,M=i9 [[111#8],ek o.g9.toNat,rk o.bh.l,ek o.ig.toNat,[o.act.kind]] :=⟨_,rfl⟩
 have Kf:M=[111#8]++ek o.g9.toNat++rk o.bh.l++ek o.ig.toNat++[o.act.kind] :=by rw[iV]; simp[i9]
 have acO:M.length<=40000:=by rw[Kf]; simp only[as8,atk,atF]; omega
 have Ke:M.length≠0:=by rw[Kf]; simp
 refine Rk (bs:=[[111#8],ek o.g9.toNat,rk o.bh.l,ek o.ig.toNat,[o.act.kind]]) Kd rfl rfl ?_ (by rw[<-iV]; omega) (by omega) fun yO oY aF=>?_
 ·intro k w s aW ak;rcases k with _ | _ | _ | _ | _ | k
  ·obtain rfl:=Option.some.inj aW; obtain rfl:=Option.some.inj ak; exact IL
  ·obtain rfl:=Option.some.inj aW; obtain rfl:=Option.some.inj ak; exact IM
  ·obtain rfl:=Option.some.inj aW; obtain rfl:=Option.some.inj ak; exact IP
  ·obtain rfl:=Option.some.inj aW; obtain rfl:=Option.some.inj ak; exact Zf
  ·obtain rfl:=Option.some.inj aW; obtain rfl:=Option.some.inj ak; exact Zg
  ·cases aW
 rw[<-iV,decide_eq_false Ke] at aF;have acL:l.length<=L.length:=by omega
 have vo:cF 1 b7 l oY yO M false:=aF.base acL fun b af=>by
  have fV:b<l1.length:=by omega
  rw[pK b (by omega),aj.same b (by omega),ae.same b (by rw[r3]; omega),as2 fV,ad.same b (by simp; omega),as2 af]
 have GQ:oY[l.length]? = some (.cells 11 (a9 (hy o))) :=by rw[aF.same _ (by omega)]; exact TX
 have aey:l.length<oY.length:=cp GQ;have Ad:=GQ;simp[a9,hy] at Ad;have eM:kO o=M++(if o.act.kind=1#8 then [] else jm (fi o.act.key))++(if o.act.kind=4#8 then jn o.act.val else []) :=by rw[Kf]; rfl
 have lM:=Be (fi o.act.key);rw[qh] at lM;have KU:=au.key;have jQ:=EI o.act.val;have Do:=au.val.2.2;have ah:vk (.str o.act.key)=some (.aX 1 ((fi o.act.key).map b7)) :=by
  show some (U.aX 1 (o.act.key.map fun b=>[jr b]))=_;rw[Ik]
 by_cases b0:o.act.kind=1#8
 ·have aQ:(u o.act.kind:Int)=1:=(iO o.act.kind).2 b0;have gJ:¬ o.act.kind=4#8:=by rw[b0]; decide
  rw[if_pos b0,if_neg gJ,atB,atB] at eM;simp[Ad,aQ];exact aU _ _ (by rw[eM]; exact vo)
 ·have aQ:¬ (u o.act.kind:Int)=1:=fun h=>b0 ((iO o.act.kind).1 h)
  rw[if_neg b0] at eM;simp[Ad,aQ,ah];refine Yt (some (fi o.act.key)) (by simpa [qh] using KU) (by simp[ds]) (by simp) (fun l' _ _=>by simp[ds]) fun Is lT gM=>?_
  obtain⟨al9,Ml,E4,uW,_⟩:=(vo.frame gM.le gM.same).app (by_:=1) (x:=Is) (xs:=jm (fi o.act.key)) gM.contents (by simp[b7]) (by omega) (by omega) (by rw[ay]; omega);have ZE:=(aF.frame gM.le gM.same).app (by_:=1) (x:=Is) (xs:=jm (fi o.act.key)) gM.contents (by simp[b7]) (by omega) (by omega) (by rw[ay]; omega);obtain⟨asV,aqR,Oz,aaf,_⟩:=ZE;rw[E4] at Oz;obtain⟨rfl,rfl⟩:=Prod.mk.inj (Option.some.inj Oz);have Ld:Ml[l.length]? = some (.cells 11 (a9 (hy o))) :=by rw[aaf.same _ (by omega)]; exact TX
  have x3:=Ld;simp[a9,hy] at x3;simp[E4];refine c8.cb ?_;simp only[avl] at uW;by_cases gJ:o.act.kind=4#8
  ·have qG:(u o.act.kind:Int)=4:=(wJ o.act.kind).2 gJ;rw[if_pos gJ] at eM;have vu:kU o.act=true:=by
    cases h:kU o.act with
    | true=>rfl
    | false=>
     unfold hh at ar;have bx:(hy o).bh=o.bh:=rfl;have fc:(hy o).act=o.act:=rfl;rw[bx,if_neg (by omega),GY,if_pos rfl] at ar;unfold tl at ar;rw[fc,h] at ar;simp at ar
   rw[Bz gJ,as7] at vu;simp[x3,qG];refine amk o.act.val au.val vu.2 fun N6 ag4 kZ=>?_
   obtain⟨al8,ag5,IY,Ja,_⟩:=(uW.frame kZ.le kZ.same).app (by_:=1) (x:=N6) (xs:=jn o.act.val) kZ.contents (by simp[b7]) (by omega) (by omega) (by rw[ay]; simp only[as8]; omega);simp[IY];refine c8.cb ?_;simp;exact aU _ _ (by rw[eM]; exact Ja)
  ·have qG:¬ (u o.act.kind:Int)=4:=fun h=>gJ ((wJ o.act.kind).1 h)
   rw[if_neg gJ,atB] at eM;simp[x3,qG];exact aU _ _ (by rw[eM]; exact uW)
theorem O6 {o:bp} (h:hh o=0) :hh (hy o)=0:=by
 unfold hh at h ⊢;have aQ:(hy o).bh=o.bh:=rfl;rw[aQ];have aw:tl o=true->tl (hy o)=true:=by
  unfold tl hy;simp only[as7];rintro⟨a,b,c,d,e⟩;exact⟨a,b,c,by decide,by decide⟩
 split at h
 ·cases h
 ·rename_i ad;rw[if_neg ad];split at h
  ·rename_i ae;rw[if_pos ae];split at h
   ·rename_i aj;rw[if_pos (aw aj)]
   ·cases h
  ·cases h
theorem abD {o:bp} (h:hh o=0) :kU o.act=true:=by
 unfold hh at h;split at h
 ·cases h
 ·split at h
  ·split at h
   ·rename_i aj;unfold tl at aj;simp only[as7] at aj;exact aj.2.2.1
   ·cases h
  ·cases h
theorem Mh {s:List UInt8} (h:jB s=true) :s.length<=20:=by
 unfold jB at h;simp only[as7,decide_eq_true_eq] at h;omega
theorem RH {o:bp} (au:i3 o) (h:hh o=0) :(iJ o).length<=1000:=by
 have ad:=iu o.g9.toNat
 have ae:=iu o.ig.toNat
 have aj:=DT au.ids;have aF:=Be (fi o.act.key);rw[qh] at aF;have bu:=EI o.act.val;have av:=yu h;have am:=iu o.e.toNat
 have ak:=iu o.s.toNat
 have aB:=abD h;have aO:(if o.act.kind=1#8 then [] else jm (fi o.act.key)).length<=100:=by
  split
  ·simp
  ·rename_i b0;have:o.act.key.length<=20:=by
    by_cases b5:o.act.kind=2#8
    ·rw[I0 b5,as7] at aB; exact Mh aB.1
    ·by_cases ik:o.act.kind=3#8
     ·rw[I1 ik,as7] at aB; exact Mh aB.1
     ·by_cases gJ:o.act.kind=4#8
      ·rw[Bz gJ,as7] at aB; exact Mh aB.1
      ·rw[I2 b0 b5 ik gJ] at aB; cases aB
   omega
 have aT:(if o.act.kind=4#8 then jn o.act.val else []).length<=100:=by
  split
  ·rename_i gJ;rw[Bz gJ,as7] at aB;have ap:=aB.2;have:o.act.val.text.length<=30:=by
    by_cases bU:o.act.val.kind=1#8
    ·rw[N1 bU] at ap;simp only[as7,decide_eq_true_eq] at ap;rw[ap.2]; simp
    ·by_cases b8:o.act.val.kind=2#8
     ·rw[N2 b8] at ap;simp only[as7,decide_eq_true_eq] at ap;rw[ap.2.2]; simp
     ·by_cases ei:o.act.val.kind=3#8
      ·by_cases al:o.act.val.text.length<=30
       ·exact al
       ·rw[Yn ei] at ap;unfold sQ at ap;rw[if_neg al] at ap;simp only[as7,decide_eq_true_eq,wY] at ap;have:=ap.1;rw[ei] at this;exact absurd this (by decide)
      ·rw[N3 bU b8 ei] at ap; cases ap
   omega
  ·simp
 unfold iJ kO opHead;simp only[as8,atk,atF];omega
theorem amd (o:bp) (au:i3 o) (ar:hh o=0) {l:ao} {K:U->ao->Prop} (aU:∀ w l',cF 1 b7 l l' w (iJ o) false->K (.bv [w,.int .i64 0]) l') :
  dh Tryz.prog GS 84 [.aG (a9 o)] l (c:=⟨K⟩) :=by
 apply bq Tryz.func84 [[[0],[1],[2],[3],[4],[6],[7],[8],[9],[5,9,8]]];have e2:=Iu o au;rw[ar] at e2;have ew:=l3 o;have kf:=RH au ar;have lL:(BitVec.setWidth 64 o.e).toNat=o.e.toNat:=by rw[ath]; exact atb (by have:=o.e.isLt; omega)
 have ra:(BitVec.setWidth 64 o.s).toNat=o.s.toNat:=by rw[ath]; exact atb (by have:=o.s.isLt; omega)
 have aK:l.length<(l++[aY.cells 11 (a9 o)]).length:=by simp
 have eE:(l++[aY.cells 11 (a9 o)])[l.length]? = some (.cells 11 (a9 o)) :=by simp
 simp[a9];refine a4 e2 (show a5 [U.aG (a9 o)]=true by simp[a5,U.closed,ew]) ?_;simp;refine Yv o au (O6 ar) fun bL l1 ad=>?_
 have pX:l1[l.length]? = some (.cells 11 (a9 o)) :=by rw[ad.same _ aK]; exact eE
 have pR:l.length<l1.length:=cp pX;have x2:=pX;simp[a9] at x2;simp[x2];refine yP _ fun w2 bo ae=>?_
 rw[lL] at ae;have q0:bo[l.length]? = some (.cells 11 (a9 o)) :=by rw[ae.same _ pR]; exact pX
 have q2:=q0;simp[a9] at q2;simp[q2];refine yP _ fun cO gg aj=>?_
 rw[ra] at aj;simp[ad.cells,ae.cells,aj.cells,bg];obtain⟨L,eV⟩:∃ L,L=gg++[aY.cells 3 [bL,w2,cO]] :=⟨_,rfl⟩
 have xA:gg.length<=L.length:=by rw[eV]; simp
 have pK:∀ b,b<gg.length->L[b]? = gg[b]?:=fun b af=>by rw[eV,as2 af]
 have Kd:L[gg.length]? = some (.cells 3 [bL,w2,cO]) :=by rw[eV]; simp
 rw[<-eV];have IL:mZ L bL (kO o) :=(((AJ ad).frame ae.le ae.same).frame aj.le aj.same).frame xA pK;have IM:mZ L w2 (ek o.e.toNat) :=((AJ ae).frame aj.le aj.same).frame xA pK;have IP:mZ L cO (ek o.s.toNat) :=(AJ aj).frame xA pK;have iV:i9 [kO o,ek o.e.toNat,ek o.s.toNat]=iJ o:=by simp[i9,iJ]
 have Ke:(iJ o).length≠0:=by unfold iJ kO opHead; simp
 refine Rk (bs:=[kO o,ek o.e.toNat,ek o.s.toNat]) Kd rfl rfl ?_ (by rw[iV]; omega) (by omega) fun yO oY aF=>?_
 ·intro k w s aW ak;rcases k with _ | _ | _ | k
  ·obtain rfl:=Option.some.inj aW; obtain rfl:=Option.some.inj ak; exact IL
  ·obtain rfl:=Option.some.inj aW; obtain rfl:=Option.some.inj ak; exact IM
  ·obtain rfl:=Option.some.inj aW; obtain rfl:=Option.some.inj ak; exact IP
  ·cases aW
 rw[iV,decide_eq_false Ke] at aF;simp;refine aU _ _ (aF.base ?_ fun b af=>?_)
 ·have:=ae.le; have:=aj.le; omega
 ·have:=ae.le; have:=aj.le;rw[pK b (by omega),aj.same b (by omega),ae.same b (by omega),ad.same b (by simp; omega),as2 af]
theorem amc (o:bp) (au:i3 o) (ar:¬ hh o=0) :bA Tryz.prog GS 84 [.aG (a9 o)] (.bv [.aH,.int .i64 (hh o)]) :=by
 refine bW Tryz.checked.mixed bl ?_;apply bq Tryz.func84 [[[0],[1],[2],[3],[4],[6],[7],[8],[9],[5,9,8]]];have e2:=Iu o au;have ew:=l3 o;obtain⟨E,c6⟩:∃ E,E=a9 o:=⟨_,rfl⟩
 have qP:E.length=11:=by rw[c6]; rfl
 rw[<-c6] at e2 ew ⊢;simp[qP,as1];refine a4 e2 (by simp[a5,U.closed,ew]) ?_;simp[ar];exact aP rfl rfl
theorem amf (o:bp) (au:i3 o) :bA Tryz.prog GS 55 [.aG (a9 o)] (.bv [gp (mO o),.int .i64 (hh o)]) :=by
 refine bW Tryz.checked.mixed bl ?_;apply bq Tryz.func55 [];unfold mO;have ew:=l3 o;have ax:(rep 32 (.int .u8 0) :List U)=(List.replicate 32 0#8).map bz:=by simp[rep]
 obtain⟨E,c6⟩:∃ E,E=a9 o:=⟨_,rfl⟩
 have qP:E.length=11:=by rw[c6]; rfl
 by_cases aI:hh o=0
 ·have kf:=RH au aI;have bS:(iM (iJ o)).length=32:=wB _;rw[<-c6];simp[qP,as1];rw[c6];refine amd o au aI fun bL l1 ad=>?_
  rw[<-c6] at ad;have eE:l1[1]? = some (.cells 32 (rep 32 (.int .u8 0))) :=by rw[ad.same 1 (by simp)]; rfl
  simp;refine lV (XT (some (iJ o)) (by simp; omega)) (.cons (ad.sL (fun _=>rfl) (some (iJ o)) rfl rfl) .nil) (by simp[U.flat,l4,gp,zz bz (fun _=>rfl)]) ?_;have x7:bg (rep 32 (.int .u8 0)) 0 ((iM (iJ o)).map bz)=(iM (iJ o)).map bz:=hu (by rw[ate,bS]; rfl);have k8:(l1.set 1 (aY.cells 32 ((iM (iJ o)).map bz)))[1]? = some (.cells 32 ((iM (iJ o)).map bz)) :=atj (cp eE);simp[eE,gp,bS,x7,k8,as1];exact aP (by rw[if_pos aI,aI]) (by simp[U.closed,a5,mw bz (fun _=>rfl)])
 ·have Ta:=amc o au aI;rw[<-c6] at Ta ew ⊢;simp[qP,as1];refine a4 Ta (by simp[a5,U.closed,ew]) ?_;simp[aI,gp,ax];exact aP rfl (by simp only[U.closed,a5,mw bz (fun _=>rfl),auO])
end Op

end Go.bY

namespace Go.bY
open Go Go.Proofs Go.RowKit
set_option maxRecDepth 100000
namespace Op
open hl
theorem Yc {P:Program} {t:TypeId} {ts:List TypeId} {cs:List U} (aL:P.underlying t=some .string) (h:dB P (t::ts) cs) :∃ s cs',cs=.str s::cs'/\dB P ts cs':=by
 cases h
 case str s cs' ak oW h=>exact⟨_,_,rfl,h⟩
 all_goals (exfalso; simp_all; done)
theorem Ye {ts:List TypeId} {cs:List U} (h:dB Tryz.prog (5::ts) cs) :∃ (x:B) (cs' : List U),cs=bz x::cs'/\dB Tryz.prog ts cs':=by
 obtain⟨k,xk,rfl,ad,ae,aj⟩:=uB (k:=.u8) (by kernel_rfl) h;have a6:(0:Int)<=k:=ad;have bu:k<=255:=ae;refine⟨BitVec.ofNat 8 k.toNat,xk,?_,aj⟩;have:((BitVec.ofNat 8 k.toNat).toNat:Int)=k:=by
  rw[atm,atb (by omega)]; omega
 simp[bz,u]; omega
theorem alE {ts:List TypeId} {cs:List U} (h:dB Tryz.prog (61::ts) cs) :∃ (x:List B) (cs' : List U),cs=x.map bz++cs'/\x.length=32/\dB Tryz.prog ts cs':=by
 have ad:=alB (e:=5) (n:=32) (by kernel_rfl) h;exact Yb (by kernel_rfl) 32 ad
theorem EE {ts:List TypeId} {cs:List U} (h:dB Tryz.prog (23::ts) cs) :∃ (s:dr) (cs' : List U),cs=aD s::cs'/\eu s/\dB Tryz.prog ts cs':=by
 obtain⟨s,cs',rfl,_,ad,ae⟩:=NW (e:=61) (z:=32) (enc:=a1) (Q:=fun x=>x.length=32) (by kernel_rfl) (by kernel_rfl) (fun r ay=>by
  obtain⟨x,cs',rfl,ag,aj⟩:=alE ay;rw[EF aj,atB];exact⟨x,rfl,ag⟩) h
 exact⟨s,cs',rfl,ad,ae⟩
theorem NY {ts:List TypeId} {cs:List U} (h:dB Tryz.prog (85::ts) cs) :∃ (x:D) (cs' : List U),cs=br x::cs'/\dB Tryz.prog ts cs':=by
 obtain⟨k,xk,rfl,ad,ae,aj⟩:=uB (k:=.u32) (by kernel_rfl) h;have a6:(0:Int)<=k:=ad;have bu:k<=4294967295:=ae;refine⟨BitVec.ofNat 32 k.toNat,xk,?_,aj⟩;have:((BitVec.ofNat 32 k.toNat).toNat:Int)=k:=by
  rw[atm,atb (by omega)]; omega
 simp[br,u]; omega
structure IU (o:bp) :Prop where
 ids:eu o.bh
 kh:-9223372036854775808<=o.act.val.num
 p5:o.act.val.num<9223372036854775808
theorem alH {ts:List TypeId} {cs:List U} (h:dB Tryz.prog (88::ts) cs) :∃ (v:iR) (cs' : List U),cs=[bz v.kind,.int .i64 v.num,dN v.bits,.str v.text]++cs'/\(-9223372036854775808<=v.num/\v.num<9223372036854775808)/\dB Tryz.prog ts cs':=by
 have ad:=wI (fs:=[5,2,86,9]) (by kernel_rfl) h;obtain⟨k,_,rfl,ae⟩:=Ye ad;obtain⟨n,_,rfl,sb,tN,aj⟩:=uB (k:=.i64) (by kernel_rfl) ae;obtain⟨b,_,rfl,aF⟩:=Yd aj;obtain⟨s,_,rfl,a6⟩:=Yc (by kernel_rfl) aF;have bu:n<=9223372036854775807:=tN;exact⟨⟨k,n,b,s⟩,_,rfl,⟨sb,by show n<9223372036854775808; omega⟩,a6⟩
theorem alA {ts:List TypeId} {cs:List U} (h:dB Tryz.prog (90::ts) cs) :∃ (a:Act) (cs' : List U),cs=[bz a.kind,.str a.key,bz a.val.kind,.int .i64 a.val.num,dN a.val.bits,.str a.val.text]++cs'/\(-9223372036854775808<=a.val.num/\a.val.num<9223372036854775808)/\dB Tryz.prog ts cs':=by
 have ad:=wI (fs:=[5,9,88]) (by kernel_rfl) h;obtain⟨k,_,rfl,ae⟩:=Ye ad;obtain⟨s,_,rfl,aj⟩:=Yc (by kernel_rfl) ae;obtain⟨v,_,rfl,ap,aF⟩:=alH aj;exact⟨⟨k,s,v⟩,_,rfl,ap,aF⟩
theorem alF {ts:List TypeId} {cs:List U} (h:dB Tryz.prog (94::ts) cs) :∃ (o:bp) (cs' : List U),cs=a9 o++cs'/\IU o/\dB Tryz.prog ts cs':=by
 have ad:=wI (fs:=[85,23,86,90,92]) (by kernel_rfl) h;obtain⟨a,_,rfl,ae⟩:=NY ad;obtain⟨p,_,rfl,av,aj⟩:=EE ae;obtain⟨n,_,rfl,aF⟩:=Yd aj;obtain⟨c,_,rfl,ah,a6⟩:=alA aF;have bu:=wI (fs:=[85,85]) (by kernel_rfl) a6;obtain⟨x,_,rfl,cL⟩:=NY bu;obtain⟨y,cs',rfl,gM⟩:=NY cL;exact⟨⟨a,p,n,c,x,y⟩,cs',by simp[a9],⟨av,ah.1,ah.2⟩,gM⟩
end Op

end Go.bY

namespace Go.bY
open Go Go.Proofs
set_option maxRecDepth 100000
open hl Op
def AP (a n:Nat) :Nat->Nat
 | 0=>1
 | k+1=>match Nat.beq (n / 2 ^ (63 - k) % 2) 1 with
  | true=>((AP a n k) ^ 2 % 1000000007)*a % 1000000007
  | false=>(AP a n k) ^ 2 % 1000000007
theorem MY (a n:Nat) (aC:n<2 ^ 64) :∀ k,k<=64->AP a n k=fN a (n / 2 ^ (64 - k))
 | 0,_=>by
  have:n / 2 ^ (64 - 0)=0:=avT aC;rw[this]; rfl
 | k+1,ar=>by
  have aS:=MY a n aC k (by omega);have af:=SN n k (by omega);have e:64 - (k+1)=63 - k:=by omega
  rw[e];unfold AP;rw[aS,Nat.pow_two,Wk];split
  ·rename_i h;have ad:=atz h;rw[Wi,af,ad]
  ·rename_i h;have ad:n / 2 ^ (63 - k) % 2≠1:=fun aR=>by rw[aR] at h; cases h
   rw[af];congr 1; omega
def Wh:List U->Option U
 | [.int .u32 x,.int .u64 n]=>match decide (0<=x)&&(decide (x<4294967296)&&(decide (0<=n)&&decide (n<18446744073709551616))) with
  | true=>some (.int .u32 ((AP x.toNat n.toNat 64:Nat) :Int))
  | false=>none
 | _=>none
abbrev ov:FuncId × Bool × (List U->Option U) :=(151,false,Wh)
theorem o5:s3 Tryz.prog GS ov:=by
 intro args r h;refine⟨?_,fun h=>by cases h⟩;simp only[Wh] at h;split at h
 ·rename_i x n;split at h
  ·rename_i ah;cases h;simp only[as7,decide_eq_true_eq] at ah;obtain⟨ad,ae,aj,aF⟩:=ah;have ag:(U.int .u32 x)=br (BitVec.ofNat 32 x.toNat) :=by
    have:((BitVec.ofNat 32 x.toNat).toNat:Int)=x:=by
     rw[atm,atb (by omega)]; omega
    simp[br,u]; omega
   have aC:(U.int .u64 n)=dN (BitVec.ofNat 64 n.toNat) :=by
    have:((BitVec.ofNat 64 n.toNat).toNat:Int)=n:=by
     rw[atm,atb (by omega)]; omega
    simp[dN,u]; omega
   have av:=HQ (BitVec.ofNat 32 x.toNat) (BitVec.ofNat 64 n.toNat);have ay:br (g3 (BitVec.ofNat 32 x.toNat) (BitVec.ofNat 64 n.toNat).toNat)=.int .u32 ((AP x.toNat n.toNat 64:Nat) :Int) :=by
    have aQ:(BitVec.ofNat 32 x.toNat).toNat=x.toNat:=by rw[atm,atb (by omega)]
    have bx:(BitVec.ofNat 64 n.toNat).toNat=n.toNat:=by rw[atm,atb (by omega)]
    show U.int .u32 (u _)=_;unfold u;rw[ry,aQ,bx,MY _ _ (by omega) 64 (as3 _)];simp
   rw[ag,aC,<-ay];exact av
  ·cases h
 ·cases h
def Hs:List (List U)->Option (List eH)
 | []=>some []
 | [c] ::r=>match Fj c with
  | some s=>match Nat.ble s.l.length 10000 with
   | true=>match Hs r with | some l=>some (s::l) | none=>none
   | false=>none
  | none=>none
 | _=>none
theorem Vs:∀ {es:List (List U)} {l:List eH},Hs es=some l->(es=l.map fun s=>[cz s])/\∀ s∈l,s.l.length<=10000
 | [],l,h=>by cases h; exact⟨rfl,fun s ak=>by cases ak⟩
 | e::r,l,h=>by
  unfold Hs at h;split at h
  ·rename_i aQ; cases aQ
  ·rename_i c cx aQ;cases aQ;split at h
   ·rename_i s ak;split at h
    ·rename_i af;split at h
     ·rename_i l' al;cases h;obtain⟨ad,ae⟩:=Vs al;refine⟨by rw[Pn ak,ad]; rfl,fun x ag=>?_⟩;rcases at0.1 ag with aj | aj
      ·rw[aj]; exact at2 af
      ·exact ae x aj
     ·cases h
    ·cases h
   ·cases h
  ·cases h
def Wd:List U->Option U
 | [.aX 1 es]=>match Hs es with
  | some cd=>match Nat.ble cd.length 20 with
   | true=>some (.bv [gp (iM (bytesOf cd)),.int .i64 0])
   | false=>none
  | none=>none
 | _=>none
abbrev yx:FuncId × Bool × (List U->Option U) :=(118,false,Wd)
theorem AO:s3 Tryz.prog GS yx:=by
 intro args r h;refine⟨?_,fun h=>by cases h⟩;simp only[Wd] at h;split at h
 ·split at h
  ·rename_i es cd tL;split at h
   ·rename_i aC;cases h;obtain⟨ad,ae⟩:=Vs tL;rw[ad];exact MW cd (at2 aC) ae
   ·cases h
  ·cases h
 ·cases h
end Go.bY

namespace Go.bY
open Go Go.Proofs
set_option maxRecDepth 100000
namespace Op
open hl
section
variable {α:Type} {z:Nat} {enc:α->List U}
theorem V3 {bQ:List α} (ax:∀ y∈bQ,(enc y).length=z) (k:Nat) (ar:k<=bQ.length) {n:Nat} (aC:bQ.length=n) {cs:List U} (cY:cs.take (n*z)=(bQ.map enc).flatten) (al:n*z<=cs.length) :
  cs.take (k*z)=((bQ.take k).map enc).flatten/\(cs.drop (k*z)).take (n*z - k*z)=((bQ.drop k).map enc).flatten:=by
 have hW:k*z<=n*z:=as6 _ (by omega);have bx:bQ.map enc=(bQ.take k).map enc++(bQ.drop k).map enc:=by rw[<-atn,at3]
 have fc:((bQ.take k).map enc).flatten.length=k*z:=by
  rw[pC (z:=z) (fun e am=>by obtain⟨y,aJ,rfl⟩:=atx.1 am; exact ax _ (atw aJ))];rw[ate,ati,auy (by omega)]
 have aQ:cs.take (k*z)=(cs.take (n*z)).take (k*z) :=by rw[auH,auy hW]
 constructor
 ·rw[aQ,cY,bx,atT,atG (by omega),as1 (by omega)]
 ·rw[<-avk,cY,bx,atT,atY (by omega),auW (by omega),at1]
theorem V4 {l:ao} {v:U} {j k:Nat} {bQ:List α} {x:α} {X:U} (cM:X.cells=some (enc x)) (h:bO z l v j (bQ.map enc)) (ax:∀ y∈bQ,(enc y).length=z) (ar:k<bQ.length) (ag:(enc x).length=z) :
  ∃ p l',cN (.aq z) v (.int .i64 (k:Int))=some p/\lX z l p (X)=some l'/\bO z l' v j ((bQ.set k x).map enc)/\l'.length=l.length/\∀ b,b≠j->l'[b]? = l[b]?:=by
 generalize am:bQ.map enc=es at h;cases h with
 | nil j=>rw[au5] at am; subst am; simp at ar
 | aq j n cap sz cs es af al aC p1 ah di cY=>
  subst am;have Aa:bQ.length=n:=by simpa using aC
  have eO:j<l.length:=cp af;have bn:=ag;have hW:(k+1)*z<=n*z:=as6 _ (by omega);have kB:n*z<=cap*z:=as6 _ ah;have ak:(k+1)*z=k*z+z:=by rw[atL]
  obtain⟨f1,_⟩:=V3 ax k (by omega) Aa cY (by omega);obtain⟨_,f2⟩:=V3 ax (k+1) (by omega) Aa cY (by omega);refine⟨.ptr j (k*z) sz,l.set j (.cells sz (bg cs (k*z) (enc x))),?_,?_,?_,by simp,fun b tx=>by rw[ato (fun h=>tx h.symm)]⟩
  ·simp[cN]; omega
  ·unfold lX;simp[af,cM,bn];omega
  ·refine .aq j n cap sz _ _ (atj eO) (by rw[yH (by omega),bn]; omega) (by simp; omega) (fun e am=>?_) ah di ?_
   ·obtain⟨y,aJ,rfl⟩:=atx.1 am;rcases ava aJ with h | h
    ·exact ax _ h
    ·rw[h]; exact bn
   ·have k8:bQ.set k x=bQ.take k++(x::bQ.drop (k+1)) :=by rw[aur,if_pos ar]
    rw[k8,atn,atr,atT,atW,<-f1,<-f2];unfold bg;have t1:(cs.take (k*z)).length=k*z:=by rw[ati]; omega
    have Bf:(cs.take (k*z)).take (n*z)=cs.take (k*z) :=as1 (by rw[t1]; omega);have Bg:(enc x).take (n*z - k*z)=enc x:=as1 (by rw[bn]; omega);rw[atK,bn,<-ak,auK,t1,Bf,auK,Bg,bn,show n*z - k*z - z=n*z - (k+1)*z by omega]
end

end Op

end Go.bY

namespace Go.bY
open Go Go.Proofs
set_option maxRecDepth 100000
theorem aiO {z:Nat} {l:ao} {v:U} {j:Nat} {es:List (List U)} (h:bO z l v j es) (ap:cD v=false) :m2 (a7 l) (a7 (l.set j .dead))/\m0 (a7 l) (a7 (l.set j .dead)) v (.aX z es) :=by
 cases h with
 | nil j=>cases ap
 | aq j n cap sz cs es af al aC ax ah di cY=>
 have aK:=cp af;have bb:(a7 (l.set j .dead)).f j=.dead:=by rw[kr,at9,if_pos rfl,if_pos aK]
 have dY:n*z<=cap*z:=as6 _ ah;refine⟨⟨by simp,fun bc=>?_⟩,.aq z j 0 n cap sz cs es (lq.2 af) bb aC ax (by omega) (fun i k e c c' am ar mD=>?_)⟩
 ·by_cases b6:bc=j
  ·subst b6; exact .inr ⟨sz,cs,lq.2 af,.inl bb⟩
  ·left;rw[kr,kr,at9,if_neg (by omega)]
 ·have xT:k<z:=by rw[<-ax e (ata am)]; exact (as0.1 ar).1
  have az:=(as0.1 am).1;have hm:i*z+z<=n*z:=by rw[<-atL]; exact as6 _ (by omega)
  have ad:=zA ax am xT;rw[<-cY,atp (by omega),ar] at ad;rw[aue,ad] at mD;cases mD;exact .same _
end Go.bY

namespace Go.bY
open Go Go.Proofs
set_option maxRecDepth 100000
namespace Op
theorem xt {α:Type} {enc:α->List U} {z:Nat} {a:List α} (h:∀ x∈a,(enc x).length=z) :(a.map enc).flatten.length=a.length*z:=by
 rw[pC (z:=z) (fun e am=>by obtain⟨y,aJ,rfl⟩:=atx.1 am; exact h y aJ),ate]
theorem OP {α:Type} {enc:α->List U} {z by_:Nat} (l:ao) (s:c3 α) (h:∀ x∈s.l,(enc x).length=z) (aI:z≠0) (af:by_≠0) (ay:s.l.length*by_<=ct) :
  gT (l++[aY.cells 0 []]) z by_ (.aq z l.length 0 0 0 0) (cA z enc s)=some (.aq z l.length 0 s.l.length s.l.length (s.l.length*z),l++[.cells (s.l.length*z) (s.l.map enc).flatten]) :=by
 have eW:=xt h;unfold gT;rw[vh];simp only[];unfold jq;by_cases ax:s.l.length=0
 ·have aI:s.l=[] :=atI.1 ax;rw[aI];simp
 ·rw[if_neg ax,if_neg (by omega)];have bV:¬ s.l=[] :=fun h=>ax (by rw[h]; rfl)
  simp[ay,aI,ax,bV]
theorem Ea {α:Type} {enc:α->List U} {z:Nat} {l:ao} {b n:Nat} {a:List α} (aB:∀ x∈a,(enc x).length=z) (aC:a.length=n) (af:l[b]? = some (.cells (n*z) (a.map enc).flatten)) :bO z l (.aq z b 0 n n (n*z)) b (a.map enc) :=by
 have eW:=xt aB;refine .aq b n n (n*z) _ _ af (by rw[eW,aC]) (by simp[aC]) (fun e am=>?_) (as3 _) (as3 _) ?_
 ·obtain⟨y,aJ,rfl⟩:=atx.1 am; exact aB y aJ
 ·rw[as1 (by rw[eW,aC]; omega)]
end Op

end Go.bY

namespace Go.bY
open Go Go.Proofs
set_option maxRecDepth 100000
namespace Op
open hl
theorem Zt {l:List D} {k:Nat} {x:D} (h:l[k]? = some x) (av:(l.take k).all gq=true) :(l.take (k+1)).all gq=gq x:=by
 rw[atu,h,List.all_append,av]; simp
theorem Zr {l:List D} {k:Nat} {x:D} (h:l[k]? = some x) (ag:gq x=false) :l.all gq=false:=by
 cases aR:l.all gq with
 | false=>rfl
 | true=>rw[atN.1 aR x (ata h)] at ag; cases ag
structure YU (l:List D) (k:Nat) (σ:a8) (h:ao) :Prop where
 bm:σ 5=cA 1 eB (some l)
 cw:σ 6=.int .i64 l.length
 fe:σ 7=.int .i64 k
 av:(l.take k).all gq=true
theorem Sf (l:List D) (al:l.length<=1000) :bA Tryz.prog GS 180 [cA 1 eB (some l)] (.bool (l.all gq)) :=by
 refine bW Tryz.checked.mixed bl ?_;apply bq Tryz.func180 [];have bD:cv (.aq 1) (cA 1 eB (some l))=some (.int .i64 l.length) :=sx _;simp[bD];refine cB l.length (YU l) ?_ ⟨by simp,by simp,by simp,by simp⟩;rintro k σ h ar ⟨bm,cw,fe,av⟩;obtain⟨σ,rfl⟩:=ln bm cw fe;clear bm cw fe;by_cases h:k<l.length
 ·obtain⟨x,ag,_⟩:=bP h;have bZ:cN (.aq 1) (cA 1 eB (some l)) (.int .i64 k)=some (.bK (eB x) 0) :=by rw[tX]; simp[ag]
  have fg:IntKind.i64.wrap ((k:Int)+1)=(k+1:Nat) :=wrap_i64 (by omega) (by omega);simp[h,bZ,eB];refine a4 (L3 x) rfl ?_;cases aw:gq x with
  | false=>
   have:=Zr ag aw;simp;exact aP (by rw[this]) rfl
  | true=>
   simp[fg];exact⟨by omega,by simp,by simp,by simp,by rw[Zt ag av]; exact aw⟩
 ·have e4:k=l.length:=by omega
  subst e4;rw[aty] at av;simp;exact aP (by rw[av]) rfl
theorem ajQ {l:ao} {b:Nat} {x:D} (h:l[b]? = some (.cells 1 [br x])) :gm (a7 l) (.aq 1 b 0 1 1 1) (cA 1 eB (some [x])) :=by
 refine HW (rest:=[]) (es:=[[br x]]) (by simpa using h) rfl (by simp) (by simp[a5,U.closed])
def Ef (a b:D) :D:=BitVec.ofNat 32 (a.toNat*b.toNat % 1000000007)
theorem ab7 (a b:D) :bA Tryz.prog GS 139 [br a,br b] (.bv [br (if gq a&&gq b then Ef a b else 0#32),.int .i64 (if gq a&&gq b then 0 else 2)]) :=by
 refine bW Tryz.checked.mixed bl ?_;apply bq Tryz.func139 [];simp;refine lV (Sf [a,b] (by simp)) (.cons (Ej (by simp)) .nil) rfl ?_;cases aB:gq a with
 | false=>
  simp[aB];exact aP rfl rfl
 | true=>
  cases af:gq b with
  | false=>
   simp[aB,af];exact aP rfl rfl
  | true=>
   have aK:a.toNat<1000000007:=by unfold gq at aB; simp at aB; exact aB.1.2
   simp[aB,af];refine lV (MC [a,b] (by simp)) (.cons (.same _ rfl) (.cons (Ej (by simp)) .nil)) rfl ?_;simp[MB a b aK];exact aP rfl rfl
theorem ab8 (a:D) (n:Q) :bA Tryz.prog GS 138 [br a,dN n] (.bv [br (if gq a then g3 a n.toNat else 0#32),.int .i64 (if gq a then 0 else 2)]) :=by
 refine bW Tryz.checked.mixed bl ?_;apply bq Tryz.func138 [];simp;refine lV (Sf [a] (by simp)) (.cons (ajQ (by simp)) .nil) rfl ?_;cases aB:gq a with
 | false=>
  simp[aB];exact aP rfl rfl
 | true=>
  simp[aB];refine a4 (HQ a n) rfl ?_;simp;exact aP rfl rfl
theorem ab6 (n:Q) :bA Tryz.prog GS 108 [dN n] (br (g3 4#32 n.toNat)) :=by
 refine bW Tryz.checked.mixed bl ?_;apply bq Tryz.func108 [];simp;refine a4 (HQ 4#32 n) rfl ?_;simp;exact aP rfl rfl
theorem M5 (a:D) (n:Q) :bA Tryz.prog GS 220 [br a,dN n] (br (g3 a n.toNat)) :=by
 refine bW Tryz.checked.mixed bl ?_;apply bq Tryz.func220 [];have a6:(a.setWidth 64:Q).toNat=a.toNat:=by rw[ath]; omega
 have bu:=yz a.toNat n.toNat
 have cL:(BitVec.ofNat 64 (fN a.toNat n.toNat)).setWidth 32=g3 a n.toNat:=by
  apply atg;rw[ry,ath,atm];omega
 have av:=Wl (a.setWidth 64) n (by rw[a6]; exact a.isLt);rw[a6] at av;simp;refine a4 av rfl ?_;simp[cL];exact aP rfl rfl
theorem ajh (n:Q) :bA Tryz.prog GS 235 [dN n] (br (g3 4#32 n.toNat)) :=by
 refine bW Tryz.checked.mixed bl ?_;apply bq Tryz.func235 [];simp;refine a4 (M5 4#32 n) rfl ?_;simp;exact aP rfl rfl
theorem ajp (a:D) :bA Tryz.prog GS 219 [br a] (.bv [br (if gq a then g3 a 500000002 else 0#32),.int .i64 (if gq a then 0 else 2)]) :=by
 refine bW Tryz.checked.mixed bl ?_;apply bq Tryz.func219 [];simp;refine a4 (WW a) rfl ?_;cases aB:gq a with
 | false=>
  simp;exact aP rfl rfl
 | true=>
  simp;refine a4 (M5 a 500000002#64) rfl ?_;simp;exact aP rfl rfl
theorem ajx (a b:D) :bA Tryz.prog GS 222 [br a,br b] (br (Ef a b)) :=by
 refine bW Tryz.checked.mixed bl ?_;apply bq Tryz.func222 [];have a6:∀ a:D,(a.setWidth 64:Q).toNat=a.toNat:=fun a=>by rw[ath]; omega
 have cL:((a.setWidth 64:Q)*b.setWidth 64 % 1000000007#64).setWidth 32=Ef a b:=by
  apply atg;rw[ath,AF _ _ (by rw[a6]; exact a.isLt) (by rw[a6]; exact b.isLt),a6,a6];unfold Ef;rw[atm]
 simp[H0,cL];exact aP rfl rfl
def uX (l:List B) :Q:=l.foldl (fun n x=>(n <<< 8) ||| x.setWidth 64) 0#64
theorem Pe (l:List B) (k:Nat) (x:B) (h:l[k]? = some x) :uX (l.take (k+1))=(uX (l.take k) <<< 8) ||| x.setWidth 64:=by
 rw[atu,h]; simp[uX,avm]
theorem akH (a:Q) (x:B) :(a <<< 8) ||| x.setWidth 64=256#64*a+x.setWidth 64:=by
 apply atg;have ag:x.toNat<256:=x.isLt;have aB:=a.isLt;rw[BitVec.toNat_or,auV,avS,auL,ath];have ad:x.toNat % 2 ^ 64=x.toNat:=atb (by omega);have ae:a.toNat <<< 8 % 2 ^ 64=(a.toNat % 2 ^ 56) <<< 8:=by rw[aut,aut]; omega
 have aj:=avA (b:=x.toNat) (i:=8) (by omega) (a.toNat % 2 ^ 56);rw[ad,ae,<-aj,aut];have aF:(256#64).toNat=256:=rfl;rw[aF];omega
def jt (n:D) :List B:=[(n >>> 24).setWidth 8,(n >>> 16).setWidth 8,(n >>> 8).setWidth 8,n.setWidth 8]
def l5 (l:List D) :List B:=l.flatMap jt
theorem ab1 {l:List D} {k:Nat} {x:D} (h:l[k]? = some x) :l5 (l.take (k+1))=l5 (l.take k)++jt x:=by
 unfold l5; rw[atu,h,avB]; simp
theorem RZ (l:List D) :(l5 l).length=4*l.length:=by
 induction l with
 | nil=>rfl
 | cons x l aS=>unfold l5 at aS ⊢; rw[List.flatMap_cons,as8,aS,atk]; simp[jt]; omega
def CF (b:List B) :Q:=uX ((iM b).take 8)
theorem ajR {l:ao} {b:Nat} {v m a3 ch:U} (h:l[b]? = some (.cells 2 [v,m])) (ad:gm (a7 l) v a3) (ae:gm (a7 l) m ch) :gm (a7 l) (.aq 1 b 0 2 2 2) (.aX 1 [[a3],[ch]]) :=by
 refine .aq 1 b 0 2 2 2 [v,m] [[a3],[ch]] (lq.2 h) rfl (by simp) (by simp) (fun i j e c c' am ai ah=>?_);rcases i with _ | _ | i
 ·simp at am; subst am;rcases j with _ | j
  ·simp at ai ah; subst ai ah; exact ad
  ·simp at ai
 ·simp at am; subst am;rcases j with _ | j
  ·simp at ai ah; subst ai ah; exact ae
  ·simp at ai
 ·simp at am
theorem akR {b:Nat}:fF (.arr 32 1) (.ptr b 0 32) none (some (.int .i64 8)) none=some (.aq 1 b 0 8 32 32) :=by
 have:gV 32 32 none (some (.int .i64 8)) none=some (0,8,32) :=rfl;simp only[fF,this]; rfl
structure Y4 (hf:B) (m:eH) (fh:List D) (k:Nat) (σ:a8) (l:ao) :Prop where
 aO:σ 1=cz m
 ti:σ 21=cA 1 eB (some fh)
 zE:σ 22=.int .i64 fh.length
 tj:σ 23=.int .i64 k
 ex:∃ v,σ 8=v/\cF 1 b7 [] l v (hf::l5 (fh.take k)) false
structure YV (d:List B) (e:Int) (k:Nat) (σ:a8) (l:ao) :Prop where
 lB:σ 12=.int .i64 e
 lC:σ 13=dN (uX (d.take k))
 zH:∃ b n,σ 49=.aq 1 b 0 8 n n/\l[b]? = some (.cells n (d.map bz))/\n=32
 zI:σ 50=.int .i64 8
 J0:σ 51=.int .i64 k
set_option maxHeartbeats 1000000 in
theorem ac4 (hf:B) (m:eH) (hm:m.l.length<=9991) (fh:List D) (al:fh.length<=10) :bA Tryz.prog GS 156 [bz hf,cz m,cA 1 eB (some fh)] (.bv [dN (CF (hf::(l5 fh++m.l))),.int .i64 0]) :=by
 refine bW Tryz.checked.mixed bl ?_;apply bq Tryz.func156 [];have ay:ct=140737488355328:=rfl;have bD:cv (.aq 1) (cz m)=some (.int .i64 m.l.length) :=sx _;have aeu:cv (.aq 1) (cA 1 eB (some fh))=some (.int .i64 fh.length) :=sx _;have gE:¬ (9991:Int)<(m.l.length:Int) :=by omega
 have J5:¬ 9991<m.l.length:=by omega
 have ff:=mx m;simp[bD,aeu,gE,J5];refine cB fh.length (Y4 hf m fh) ?_ ⟨by simp,by simp,by simp,by simp,_,rfl,⟨0,rv (n:=1) (a:=[hf]) rfl rfl,by simp,by simp,.inr (by simp),rfl⟩⟩;rintro k σ l ar ⟨aO,ti,zE,tj,v,gc,fq⟩;obtain⟨σ,rfl⟩:=lo aO gc ti zE tj;clear aO gc ti zE tj;by_cases h:k<fh.length
 ·obtain⟨x,ag,_⟩:=bP h;have bZ:cN (.aq 1) (cA 1 eB (some fh)) (.int .i64 k)=some (.bK (eB x) 0) :=by rw[tX]; simp[ag]
  have fg:IntKind.i64.wrap ((k:Int)+1)=(k+1:Nat) :=wrap_i64 (by omega) (by omega);have ak:=ab1 ag;have eW:=RZ (fh.take k);rw[ati] at eW;obtain⟨a3,l',a2,bd,b4⟩:=(fq.more [aY.cells 4 ((jt x).map bz)]).app (by_:=1) (x:=.aq 1 l.length 0 4 4 4) (xs:=jt x) (by rw[B2]; simp[ds,jt]) (fun y _=>rfl) (by omega) (by omega) (by rw[ay]; simp[jt]; omega);rw[show (jt x).map bz=[.int .u8 (u (BitVec.setWidth 8 (x >>> 24))),.int .u8 (u (BitVec.setWidth 8 (x >>> 16))),.int .u8 (u (BitVec.setWidth 8 (x >>> 8))),.int .u8 (u (BitVec.setWidth 8 x))] from rfl] at a2;simp[h,bZ,eB,fg,a2];refine c8.cb ?_;simp[fg];exact⟨by omega,by simp,by simp,by simp,by simp,a3,by simp,by rw[ak,<-atV]; exact bd⟩
 ·have e4:k=fh.length:=by omega
  subst e4;rw[aty] at fq;have eW:=RZ fh;have av:=MW [some (hf::l5 fh),m] (by simp) (fun s ak=>by
   rcases at0.1 ak with h | h
   ·rw[h]; show (hf::l5 fh).length<=_; simp; omega
   ·rw[atX.1 h]; omega)
  have dI:bytesOf [some (hf::l5 fh),m]=hf::(l5 fh++m.l) :=by simp[bytesOf]
  rw[dI] at av;have rc:=fq.cells;have z9:(cz m).cells=some [cz m] :=by cases m<;>rfl
  obtain⟨i8,xH⟩:∃ i8,i8=iM (hf::(l5 fh++m.l)) :=⟨_,rfl⟩
  have e3:i8.length=32:=by rw[xH]; exact wB _
  rw[<-xH] at av;have Kz:(i8.map bz).length=32:=by simp[e3]
  have KI:gp i8=.aG (i8.map bz) :=rfl;rw[KI] at av;have Lt:bg (rep 32 (.int .u8 0)) 0 (i8.map bz)=i8.map bz:=hu (by rw[Kz]; rfl);have bS:∀ b,fF (.arr 32 1) (.ptr b 0 32) none (some (.int .i64 8)) none=some (.aq 1 b 0 8 32 32) :=fun b=>akR (b:=b)
  simp[rc,z9];refine lV av (.cons (ajR (by simp) ((fq.more _).sL (fun _=>rfl) (some (hf::l5 fh)) rfl rfl) (.same _ ff)) .nil) (by simp[U.flat,l4,gp,zz bz (fun _=>rfl)]) ?_;simp[e3,Lt,bS];refine cB 8 (YV i8 0) ?_ ⟨by simp,by simp[uX],⟨l.length+1,32,by simp,by simp[List.getElem?_append],rfl⟩,by simp,by simp⟩;clear fq;rintro k σ l ar ⟨lB,lC,⟨b,n,zH,af,rfl⟩,zI,J0⟩;obtain⟨σ,rfl⟩:=lo lB lC zH zI J0;clear lB lC zH zI J0;by_cases h:k<8
  ·obtain⟨x,ag,_⟩:=bP (l:=i8) (k:=k) (by omega);have fg:IntKind.i64.wrap ((k:Int)+1)=(k+1:Nat) :=wrap_i64 (by omega) (by omega);have ak:=Pe i8 k x ag;have e4:(k:Int)<8:=by omega
   have G8:(i8.map bz)[k]? = some (bz x) :=by rw[as5,ag]; rfl
   simp[h,e4,af,fg,ag];exact⟨by simp,by simp[ak],⟨b,32,by simp,by simpa using af,rfl⟩,by simp,by simp⟩
  ·have io:k=8:=by omega
   subst io;simp;exact aP (by unfold CF; rw[xH]) rfl
def BN (r y:D) (m:List B) :D:=(CF (99#8::(l5 [r,y]++m)) % 500000003#64).setWidth 32
theorem W1 (x:Q) :cm .rem .u64 (u x) .u64 500000003=some (.int .u64 (u (x % 500000003#64))) :=y9 x 500000003#64 (by decide)
theorem amb (r y:D) (m:eH) (hm:m.l.length<=9991) :bA Tryz.prog GS 115 [br r,br y,cz m] (.bv [br (BN r y m.l),.int .i64 0]) :=by
 refine bW Tryz.checked.mixed bl ?_;apply bq Tryz.func115 [];have ff:=mx m;simp;refine lV (ac4 99#8 m hm [r,y] (by simp)) (.cons (.same _ rfl) (.cons (.same _ ff) (.cons (Ej (by simp)) .nil))) rfl ?_;simp[W1];exact aP rfl rfl
theorem M1 (a b:D) (af:b≠0#32) :cm .quo .u32 (u a) .u32 (u b)=some (.int .u32 (u (a / b))) :=by
 have bJ:(b.toNat:Int)≠0:=fun e=>af (atg (by simpa using e))
 show (if IntKind.u32=IntKind.u32/\(b.toNat:Int)≠0 then some (U.int .u32 (IntKind.u32.wrap ((a.toNat:Int).tdiv b.toNat))) else none)=_;rw[if_pos ⟨rfl,bJ⟩,Bl];congr 2;have:((a.toNat:Int).tdiv b.toNat)=((a.toNat / b.toNat:Nat) :Int) :=rfl;rw[this,auz];congr 1;apply atg;rw[atm,aun];exact atb (Nat.lt_of_le_of_lt (Nat.div_le_self _ _) a.isLt)
theorem RY (x:D) {l:ao} {K:U->ao->Prop} (aU:∀ v l',cF 1 b7 l l' v (jt x) false->K v l') :dh Tryz.prog GS 233 [br x] l (c:=⟨K⟩) :=by
 apply bq Tryz.func233 [];have q1:cm .quo .u32 (u x) .u32 16777216=some (.int .u32 (u (x / 16777216#32))) :=M1 x 16777216#32 (by decide);have db:cm .quo .u32 (u x) .u32 65536=some (.int .u32 (u (x / 65536#32))) :=M1 x 65536#32 (by decide);have gh:cm .quo .u32 (u x) .u32 256=some (.int .u32 (u (x / 256#32))) :=M1 x 256#32 (by decide);have qa:∀ y:D,cm .rem .u32 (u y) .u32 256=some (.int .u32 (u (y % 256#32))) :=fun y=>ZY y 256#32 (by decide)
 have ag:=x.isLt;have aQ:BitVec.setWidth 8 (x / 16777216#32)=BitVec.setWidth 8 (x >>> 24) :=by
  apply atg;rw[ath,ath,aun,atS,atv];rfl
 have bx:BitVec.setWidth 8 (x / 65536#32 % 256#32)=BitVec.setWidth 8 (x >>> 16) :=by
  apply atg;rw[ath,ath,aud,aun,atS,atv];show x.toNat / 65536 % 256 % 256=x.toNat / 65536 % 256;omega
 have fc:BitVec.setWidth 8 (x / 256#32 % 256#32)=BitVec.setWidth 8 (x >>> 8) :=by
  apply atg;rw[ath,ath,aud,aun,atS,atv];show x.toNat / 256 % 256 % 256=x.toNat / 256 % 256;omega
 have qG:BitVec.setWidth 8 (x % 256#32)=BitVec.setWidth 8 x:=by
  apply atg;rw[ath,ath,aud];show x.toNat % 256 % 256=x.toNat % 256;omega
 simp[q1,db,gh,qa,aQ,bx,fc,qG];exact aU _ _ ⟨l.length,rv (n:=4) (a:=jt x) rfl (by simp; rfl),by simp,fun b af=>as2 af,.inr (by simp),rfl⟩
structure Zb (d:List B) (k:Nat) (σ:a8) (l:ao) :Prop where
 aZ:σ 3=.ptr 0 0 32
 bi:σ 4=dN (uX (d.take k))
 bm:σ 5=.int .i64 k
 jX:l[0]? = some (.cells 32 (d.map bz))
theorem aib (s:eH) (ak:s.l.length<=1000000) :bA Tryz.prog GS 234 [cz s] (dN (CF s.l)) :=by
 refine bW Tryz.checked.mixed bl ?_;apply bq Tryz.func234 [];have tP:=WX s ak;have cY:=mx s;obtain⟨i8,xH⟩:∃ i8,i8=iM s.l:=⟨_,rfl⟩
 have e3:i8.length=32:=by rw[xH]; exact wB _
 rw[<-xH] at tP;have KI:gp i8=.aG (i8.map bz) :=rfl;rw[KI] at tP;have Kz:(i8.map bz).length=32:=by simp[e3]
 have Lt:bg (rep 32 (.int .u8 0)) 0 (i8.map bz)=i8.map bz:=hu (by rw[Kz]; rfl);simp;refine a4 tP (by simp[a5,cY]) ?_;simp[e3,Lt];refine cB 8 (Zb i8) ?_ ⟨by simp,by simp[uX],by simp,rfl⟩;rintro k σ l ar ⟨aZ,bi,bm,jX⟩;obtain⟨σ,rfl⟩:=ln aZ bi bm;clear aZ bi bm;by_cases h:k<8
 ·obtain⟨x,ag,_⟩:=bP (l:=i8) (k:=k) (by omega);have fg:IntKind.i64.wrap ((k:Int)+1)=(k+1:Nat) :=wrap_i64 (by omega) (by omega);have ak:=Pe i8 k x ag;rw[akH] at ak;have e4:(k:Int)<8:=by omega
  have KQ:k<32:=by omega
  simp[h,e4,KQ,jX,fg,ag];exact⟨by omega,by simp,by simp[ak],by simp,jX⟩
 ·have io:k=8:=by omega
  subst io;simp;exact aP (by unfold CF; rw[xH]) rfl
theorem ajj (r y:D) (m:eH) (hm:m.l.length<=900000) :bA Tryz.prog GS 221 [br r,br y,cz m] (br (BN r y m.l)) :=by
 refine bW Tryz.checked.mixed bl ?_;apply bq Tryz.func221 [];have ay:ct=140737488355328:=rfl;have ff:=mx m;simp;refine RY r fun cj l1 ad=>?_
 have GC:=ad.le;have aeT:cF 1 b7 [] l1 (.aq 1 0 0 1 1 1) [99#8] false:=⟨0,rv (n:=1) (a:=[99#8]) rfl (by rw[ad.same 0 (by simp)]; rfl),by simp,by simp,.inr (by simp),rfl⟩
 obtain⟨b2,bo,a2,bd,b4⟩:=aeT.app (by_:=1) (x:=cj) (xs:=jt r) ad.contents (fun _ _=>rfl) (by omega) (by omega) (by rw[ay]; simp[jt]);simp[a2];refine c8.cb ?_;simp;refine RY y fun fj gg aj=>?_
 have aeU:cF 1 b7 [] gg b2 ([99#8]++jt r) false:=bd.frame aj.le aj.same;obtain⟨gI,oY,cX,dC,kW⟩:=aeU.app (by_:=1) (x:=fj) (xs:=jt y) aj.contents (fun _ _=>rfl) (by omega) (by omega) (by rw[ay]; simp[jt]);simp[cX];refine c8.cb ?_;obtain⟨hK,Mk,b0,b5,ik⟩:=dC.app (by_:=1) (x:=cz m) (xs:=m.l) (Rm _ _) (fun _ _=>rfl) (by omega) (by omega) (by rw[ay]; simp[jt]; omega);simp[b0];refine c8.cb ?_;have af:(c3.l (some ([99#8]++jt r++jt y++m.l)) :List B)=99#8::(l5 [r,y]++m.l) :=by simp[l5]
 have tO:=aib (some ([99#8]++jt r++jt y++m.l)) (by rw[af]; simp[l5,jt]; omega);rw[af] at tO;simp;refine lV tO (.cons (b5.sL (fun _=>rfl) (some ([99#8]++jt r++jt y++m.l)) (by simp) rfl) .nil) rfl ?_;simp[W1];exact aP rfl rfl
theorem HP (a n k:Nat) :fN (fN a n) k=fN a (n*k) :=by
 unfold fN; rw[<-avE,<-Nat.pow_mul]
theorem Wj (n:Nat) :fN 1 n=1:=by unfold fN; rw[Nat.one_pow]
theorem ai1 (a m n:Nat) :fN a (m+n)=fN a m*fN a n % 1000000007:=by
 unfold fN; rw[avD,avo]
theorem ZJ:fN 4 500000003=1:=by
 have h:=MY 4 500000003 (by decide) 64 (as3 _);rw[show 500000003 / 2 ^ (64 - 64)=500000003 from rfl] at h;rw[<-h];decide +kernel
theorem L4 {y:D} (h:fN y.toNat 500000003=1) (n:Nat) :gq (g3 y n)=true:=by
 have ap:=ry y n;have aK:=yz y.toNat n;have ad:fN (fN y.toNat n) 500000003=1:=by
  rw[HP,avQ,<-HP,h,Wj]
 have aI:fN y.toNat n≠0:=fun e=>by
  rw[e] at ad;have ax:∀ n,0<n->fN 0 n=0:=fun n aC=>by unfold fN; rw[Nat.zero_pow aC]
  rw[ax _ (by decide)] at ad;cases ad
 unfold gq;rw[ap,decide_eq_true (by omega),decide_eq_true aK,decide_eq_true ad]; rfl
theorem UG {y:D} (h:gq y=true) :fN y.toNat 500000003=1:=by
 unfold gq at h; simp only[as7,decide_eq_true_eq] at h; exact h.2
theorem ZH {y:D} (h:fN y.toNat 500000003=1) {e:Nat} (am:e<500000003) :g3 (g3 y e) 500000002=g3 y (500000003 - e) :=by
 apply atg;rw[ry,ry,ry,HP];rcases e with _ | e
 ·rw[avb,avh,h];unfold fN; rfl
 ·have aQ:(e+1)*500000002=500000003*e+(500000003 - (e+1)) :=by omega
  rw[aQ,ai1,<-HP,h,Wj,avn,atb (yz _ _)]
def Ei (y:D) (e s:D) :D:=Ef (g3 4#32 s.toNat) (g3 y (500000003 - e.toNat))
def Ev (y:D) (m:List B) (e s:D) :Bool:=js e&&(js s&&decide (BN (Ei y e s) y m=e))
theorem ak9 {e:D} (am:e.toNat<500000003) :(500000003#64 - e.setWidth 64).toNat=500000003 - e.toNat:=by
 rw[BitVec.toNat_sub,ath];have:(500000003#64).toNat=500000003:=rfl;rw[this]; omega
theorem aml (y:D) (aJ:gq y=true) (m:eH) (hm:m.l.length<=9991) (e s:D) :bA Tryz.prog GS 100 [br y,cz m,.aG [br e,br s]] (.int .i64 (if Ev y m.l e s then 0 else 22)) :=by
 refine bW Tryz.checked.mixed bl ?_;apply bq Tryz.func100 [];unfold Ev;have bD:cv (.aq 1) (cz m)=some (.int .i64 m.l.length) :=sx _;have gE:¬ (9991:Int)<(m.l.length:Int) :=by omega
 have J5:¬ 9991<m.l.length:=by omega
 have ff:=mx m;have bj:=UG aJ;have Tj:=L3 y;rw[aJ] at Tj;simp;refine a4 Tj rfl ?_;obtain⟨M,iV⟩:∃ M:Int,M=if u e<u s then u s else u e:=⟨_,rfl⟩
 have xX:ug (br e) (br s)=some (.int .u32 M) :=by rw[iV]; simp[ug,br]
 have SB:(500000003:Int)<=M<->500000003<=e.toNat\/500000003<=s.toNat:=by
  rw[iV]; unfold u; split<;>omega
 simp[bD,gE,J5,xX];by_cases ad:500000003<=e.toNat\/500000003<=s.toNat
 ·have af:(js e&&(js s&&decide (BN (Ei y e s) y m.l=e)))=false:=by
   unfold js;rcases ad with h | h
   ·rw[decide_eq_false (by omega)]; rfl
   ·rw[decide_eq_false (p:=s.toNat<500000003) (by omega)]; simp
  have ah:=SB.2 ad;simp[ah,af];exact aP rfl rfl
 ·have ah:¬ (500000003:Int)<=M:=fun h=>ad (SB.1 h)
  have gd:js e=true:=by unfold js; exact decide_eq_true (by omega)
  have dX:js s=true:=by unfold js; exact decide_eq_true (by omega)
  have T1:=ab8 y (500000003#64 - e.setWidth 64);have afm:(s.setWidth 64:Q).toNat=s.toNat:=by rw[ath]; omega
  have F6:=ab6 (s.setWidth 64);rw[aJ,if_pos rfl,if_pos rfl,ak9 (by omega)] at T1;rw[afm] at F6;have tM:=ab7 (g3 4#32 s.toNat) (g3 y (500000003 - e.toNat));rw[L4 (y:=4#32) ZJ,L4 bj] at tM;simp only[auO,if_true] at tM;have pL:=amb (Ei y e s) y m hm;have c6:∀ a b:D,((u a:Int)=u b)<->a=b:=fun a b=>⟨fun h=>atg (by unfold u at h; omega),fun h=>by rw[h]⟩
  simp[ah];refine a4 T1 rfl ?_;simp;refine a4 F6 rfl ?_;simp;refine a4 tM rfl ?_;simp;refine a4 pL (by simp[a5,U.closed,ff]) ?_;rw[gd,dX];by_cases aj:BN (Ei y e s) y m.l=e
  ·simp[aj];exact aP rfl rfl
  ·simp[aj,c6];exact aP rfl rfl
theorem ajq (s:D) :bA Tryz.prog GS 223 [br s] (br (g3 4#32 s.toNat)) :=by
 refine bW Tryz.checked.mixed bl ?_;apply bq Tryz.func223 [];have ako:(s.setWidth 64:Q).toNat=s.toNat:=by rw[ath]; omega
 have tw:=ajh (s.setWidth 64);rw[ako] at tw;simp;refine a4 tw rfl ?_;simp;exact aP rfl rfl
theorem ajy (y:D) (aJ:gq y=true) (m:eH) (hm:m.l.length<=900000) (e s:D) :bA Tryz.prog GS 199 [br y,cz m,.aG [br e,br s]] (.bool (Ev y m.l e s)) :=by
 refine bW Tryz.checked.mixed bl ?_;apply bq Tryz.func199 [[[0],[1],[3],[5],[6],[8],[9],[2,9],[4,9],[7,9]]];unfold Ev;have ff:=mx m;have bj:=UG aJ;have c6:∀ a b:D,((u a:Int)=u b)<->a=b:=fun a b=>⟨fun h=>atg (by unfold u at h; omega),fun h=>by rw[h]⟩
 simp;refine a4 (FE e) rfl ?_;cases ad:js e with
 | false=>simp; exact aP rfl rfl
 | true=>
 simp;refine a4 (FE s) rfl ?_;cases ae:js s with
 | false=>simp; exact aP rfl rfl
 | true=>
 have am:e.toNat<500000003:=by unfold js at ad; exact of_decide_eq_true ad
 have abl:(e.setWidth 64:Q).toNat=e.toNat:=by rw[ath]; omega
 have T5:=M5 y (e.setWidth 64);rw[abl] at T5;have Tp:=ajp (g3 y e.toNat);rw[L4 bj,if_pos rfl,if_pos rfl,ZH bj am] at Tp;have tw:=ajq s;have Af:=ajx (g3 4#32 s.toNat) (g3 y (500000003 - e.toNat));have pL:=ajj (Ei y e s) y m hm;simp;refine a4 T5 rfl ?_;simp;refine a4 Tp rfl ?_;simp;refine a4 tw rfl ?_;simp;refine a4 Af rfl ?_;simp;refine a4 pL (by simp[a5,U.closed,ff]) ?_;simp[c6];exact aP rfl rfl
def NB (o:bp) :Bool:=Ev o.g9 (kO o) o.e o.s
def rH (o:bp) :Int:=if hh o=0 then (if NB o then 0 else 22) else hh o
theorem VT {o:bp} (az:∀ x∈o.bh.l,x.length=32) (h:hh o=0) :gq o.g9=true/\(kO o).length<=9991:=by
 have aF:=yu h;unfold hh at h;rw[if_neg (by omega)] at h;split at h
 ·split at h
  ·rename_i ay aw;unfold tl at aw;simp only[as7,decide_eq_true_eq] at aw;obtain⟨aO,aT,aZ,bi,bm⟩:=aw;refine⟨aO,?_⟩;have KV:o.act.key.length<=20/\(o.act.kind=4#8->o.act.val.text.length<=30) :=by
    unfold kU at aZ;split at aZ
    ·rename_i ad;simp only[as7,decide_eq_true_eq] at aZ;rw[aZ.1];exact⟨by simp,fun h=>by rw[ad] at h; cases h⟩
    ·split at aZ
     ·rename_i ad ae;simp only[as7] at aZ;have ar:=aZ.1;unfold jB at ar;simp only[as7,decide_eq_true_eq] at ar;exact⟨ar.1.2,fun h=>by rw[h] at ae; rcases ae with ae | ae<;>cases ae⟩
     ·split at aZ
      ·simp only[as7] at aZ;obtain⟨ar,ap⟩:=aZ;unfold jB at ar;simp only[as7,decide_eq_true_eq] at ar;refine⟨ar.1.2,fun _=>?_⟩;unfold kS at ap;split at ap
       ·simp only[as7,decide_eq_true_eq] at ap; rw[ap.2]; simp
       ·split at ap
        ·simp only[as7,decide_eq_true_eq] at ap; rw[ap.1.2]; simp
        ·split at ap
         ·simp only[as7,decide_eq_true_eq] at ap; exact ap.1.2
         ·cases ap
      ·cases aZ
   have kh:=iu o.g9.toNat
   have p5:=iu o.ig.toNat
   have yr:=DT az;have rq:=Be (fi o.act.key);rw[qh] at rq;have DY:=EI o.act.val;have n6:(opHead o).length<=10:=by unfold opHead; simp; omega
   unfold kO;simp only[as8,atk,atF];have n7:(if o.act.kind=1#8 then ([] :List B) else jm (fi o.act.key)).length<=29:=by
    split
    ·simp
    ·omega
   have n8:(if o.act.kind=4#8 then jn o.act.val else []).length<=50:=by
    split
    ·rename_i h; have:=KV.2 h; omega
    ·simp
   omega
  ·cases h
 ·cases h
theorem amm (o:bp) (au:i3 o) :bA Tryz.prog GS 67 [.aG (a9 o)] (.int .i64 (rH o)) :=by
 refine bW Tryz.checked.mixed bl ?_;apply bq Tryz.func67 [];unfold rH;have eg:=l3 o;have e2:=Iu o au;have xG:a5 [U.aG (a9 o)]=true:=by simp[a5,U.closed,eg]
 by_cases aI:hh o=0
 ·obtain⟨aw,bD⟩:=VT au.ids aI;rw[if_pos aI];simp[a9];refine a4 e2 xG ?_;simp[aI];refine Yv o au (O6 aI) fun w l' h=>?_
  have jX:l'[0]? = some (.cells 11 (a9 o)) :=by rw[h.same 0 (by simp)]; rfl
  have Eb:=jX;simp[a9] at Eb;have ap:=aml o.g9 aw (some (kO o)) bD o.e o.s;simp[Eb];refine lV ap (.cons (.same _ rfl) (.cons (h.sL (fun _=>rfl) (some (kO o)) rfl rfl) (.cons (.same _ rfl) .nil))) rfl ?_;simp;exact aP rfl rfl
 ·rw[if_neg aI];simp[a9];refine a4 e2 xG ?_;simp[aI];exact aP rfl rfl
theorem ajF (o:bp) (au:i3 o) (aI:hh o=0) :bA Tryz.prog GS 170 [.aG (a9 o)] (.bool (NB o)) :=by
 refine bW Tryz.checked.mixed bl ?_;apply bq Tryz.func170 [[[0],[1],[2],[4],[5],[3,5,1]]];have eg:=l3 o;obtain⟨aw,bD⟩:=VT au.ids aI;have ap:=ajy o.g9 aw (some (kO o)) (by show (kO o).length<=_; omega) o.e o.s;simp[a9];refine WM o au (by have:=yu aI; omega) fun w l' h=>?_
 have jX:l'[0]? = some (.cells 11 (a9 o)) :=by rw[h.same 0 (by simp)]; rfl
 have Eb:=jX;simp[a9] at Eb;simp[Eb];refine lV ap (.cons (.same _ rfl) (.cons (h.sL (fun _=>rfl) (some (kO o)) rfl rfl) (.cons (.same _ rfl) .nil))) rfl ?_;simp;exact aP rfl rfl
theorem ajL (o:bp) (au:i3 o) :bA Tryz.prog GS 130 [.aG (a9 o)] (.int .i64 (rH o)) :=by
 refine bW Tryz.checked.mixed bl ?_;apply bq Tryz.func130 [];unfold rH;have eg:=l3 o;have e2:=aju o au;have xG:a5 [U.aG (a9 o)]=true:=by simp[a5,U.closed,eg]
 by_cases aI:hh o=0
 ·rw[if_pos aI];simp[a9];refine a4 e2 xG ?_;simp[aI];refine a4 (ajF o au aI) xG ?_;cases ak:NB o with
  | true=>simp; exact aP rfl rfl
  | false=>simp; exact aP rfl rfl
 ·rw[if_neg aI];simp[a9];refine a4 e2 xG ?_;simp[aI];refine a4 e2 xG ?_;simp;exact aP rfl rfl
end Op

end Go.bY

namespace Go.bY
open Go Go.Proofs
set_option maxRecDepth 100000
namespace Op

section
variable {α:Type} {z:Nat} {enc:α->List U}
theorem aip {by_:Nat} {l l1:ao} {v:U} {a:List α} {nl:Bool} (h:cF z enc l l1 v a nl) (x:α) {b:Nat} (af:l1[b]? = some (.cells z (enc x))) (ag:(enc x).length=z) (aI:z≠0) (dI:by_≠0) (dy:(a.length+1)*by_<=ct) :
  ∃ a3 l',gT l1 z by_ v (.aq z b 0 1 1 z)=some (a3,l')/\cF z enc l l' a3 (a++[x]) false/\l1.length<=l'.length:=by
 obtain⟨a3,l',aO,aT,aZ⟩:=h.app (by_:=by_) (x:=.aq z b 0 1 1 z) (xs:=[x]) (by simp[ds,af,ag,as1]) (by simp[ag]) aI dI (by simpa using dy);exact⟨a3,l',aO,by simpa using aT,aZ⟩
def nw (l:List α) (i:Nat) (x:α) :List α:=l.take i++x::l.drop i
theorem Hg (l:List α) (i:Nat) (x:α) :(nw l i x).length=l.length+1:=by
 unfold nw;have:=congrArg List.length (at3 i l);simp only[as8,atk] at this ⊢; omega
theorem UD {l:List α} {i:Nat} {x y:α}:y∈nw l i x<->y=x\/y∈l:=by
 unfold nw;rw[atU,at0];constructor
 ·rintro (h | h | h)
  ·exact .inr (atw h)
  ·exact .inl h
  ·exact .inr (au1 h)
 ·rintro (h | h)
  ·exact .inr (.inl h)
  ·rw[<-at3 i l,atU] at h;exact h.elim .inl fun h=>.inr (.inr h)
theorem Xz {lt:α->α->Bool} (Gv:∀ a,lt a a=false) (Ue:∀ a b c,lt a b=true->lt b c=true->lt a c=true) :∀ {l m:List α},l.Pairwise (fun a b=>lt a b=true)->m.Pairwise (fun a b=>lt a b=true)->(∀ y,y∈l<->y∈m)->l=m
 | [],[],_,_,_=>rfl
 | [],b::m,_,_,h=>absurd ((h b).2 (by simp)) (by simp)
 | a::l,[],_,_,h=>absurd ((h a).1 (by simp)) (by simp)
 | a::l,b::m,al,hm,h=>by
  obtain⟨l1,bo⟩:=avJ.1 al;obtain⟨eQ,eG⟩:=avJ.1 hm;have gY:a=b:=by
   rcases at0.1 ((h a).1 (by simp)) with e | e
   ·exact e
   ·rcases at0.1 ((h b).2 (by simp)) with bx | bx
    ·exact bx.symm
    ·have:=Ue _ _ _ (eQ a e) (l1 b bx);rw[Gv] at this; cases this
  subst gY;congr 1;refine Xz Gv Ue bo eG fun y=>⟨fun aJ=>?_,fun aJ=>?_⟩
  ·rcases at0.1 ((h y).1 (by simp[aJ])) with e | e
   ·subst e;have:=l1 y aJ;rw[Gv] at this; cases this
   ·exact e
  ·rcases at0.1 ((h y).2 (by simp[aJ])) with e | e
   ·subst e;have:=eQ y aJ;rw[Gv] at this; cases this
   ·exact e
end

section
variable {α:Type} [DecidableEq α]
end

end Op

end Go.bY

namespace Go.bY
open Go Go.Proofs
set_option maxRecDepth 100000
namespace Op
open hl
def he {α:Type} [DecidableEq α] (x:α) :List α->Nat->Int
 | [],_=>-1
 | y::r,k=>if y=x then (k:Int) else he x r (k+1)
theorem vU {α:Type} [DecidableEq α] (x:α) :∀ (l:List α) (k:Nat),(0<=he x l k)<->x∈l
 | [],k=>by simp[he]
 | y::r,k=>by
  unfold he;by_cases h:y=x
  ·simp[h]
  ·rw[if_neg h,vU x r (k+1)];simp[Ne.symm h]
theorem DG {α:Type} [DecidableEq α] {x:α}:∀ {l:List α} {k n:Nat} {y:α},l[k]? = some y->(∀ (j:Nat) (z:α),j<k->l[j]? = some z->z≠x)->y=x->he x l n=((n+k:Nat) :Int)
 | [],k,n,y,h,_,_=>by simp at h
 | w::r,0,n,y,h,_,aJ=>by
  simp at h; subst h;unfold he;rw[if_pos aJ]; simp
 | w::r,k+1,n,y,h,al,aJ=>by
  unfold he;rw[if_neg (al 0 w (by omega) (by simp)),DG (k:=k) (n:=n+1) (by simpa using h) (fun j z ai ax=>al (j+1) z (by omega) (by simpa using ax)) aJ];congr 1; omega
theorem L6 {α:Type} [DecidableEq α] {x:α}:∀ {l:List α} {n:Nat},(∀ (j:Nat) (z:α),l[j]? = some z->z≠x)->he x l n=-1
 | [],n,_=>rfl
 | w::r,n,al=>by
  unfold he;rw[if_neg (al 0 w (by simp)),L6 fun j z ax=>al (j+1) z (by simpa using ax)]
theorem amh (s:dr) (au:eu s) (al:s.l.length<=1000000) (x:List B) (ag:x.length=32) :bA Tryz.prog GS 78 [aD s,.aG (a1 x)] (.int .i64 (he x s.l 0)) :=by
 refine bW Tryz.checked.mixed bl ?_;apply bq Tryz.func78 [];simp[aD];refine cB s.l.length (fun k σ l=>l=[.cells 32 (a1 x)]/\σ 0=cA 32 a1 s/\σ 3=.ptr 0 0 32/\σ 7=.int .i64 s.l.length/\σ 8=.int .i64 k/\∀ (j:Nat) (z:List B),j<k->s.l[j]? = some z->z≠x) ?_ (by simp[aD,de ag]);rintro k σ l ar ⟨rfl,ce,aZ,fe,gc,ak⟩;obtain⟨σ,rfl⟩:=i2 ce aZ fe gc;clear ce aZ fe gc;simp;refine oX (fun h=>?_) (fun h=>?_)
 ·simp only[decide_eq_true_eq] at h;obtain⟨y,aJ,er⟩:=bP (l:=s.l) (k:=k) (by omega);have aQ:IntKind.i64.wrap ((k:Int)+1)=((k+1:Nat) :Int) :=by rw[IntKind.wrap_i64]; omega
  simp[aJ,de (au y er),de ag,as1,LQ ag (au y er)];by_cases am:x=y
  ·have dP:=DG (n:=0) aJ ak am.symm;simp[am];exact aP (by rw[<-am,dP]; simp) rfl
  ·simp[am,aQ];refine⟨by omega,fun j z ai ax=>?_⟩;by_cases gG:j=k
   ·subst gG; rw[aJ] at ax; obtain rfl:=Option.some.inj ax; exact fun h=>am h.symm
   ·exact ak j z (by omega) ax
 ·simp[h];have qV:k=s.l.length:=by simp at h; omega
  exact aP (by rw[L6 fun j z ax=>ak j z (by rw[qV]; exact (as0.1 ax).1) ax]) rfl
theorem It (s:dr) (au:eu s) (al:s.l.length<=1000000) (x:List B) (ag:x.length=32) :bA Tryz.prog GS 48 [aD s,.aG (a1 x)] (.bool (decide (x∈s.l))) :=by
 refine bW Tryz.checked.mixed bl ?_;apply bq Tryz.func48 [];simp[de ag,as1];refine a4 (amh s au al x ag) (by have:=dw s; have:=gK x; simp_all [a5,U.closed]) ?_;simp;exact aP (congrArg U.bool (by simp only[vU])) rfl
end Op

end Go.bY

namespace Go.bY
open Go Go.Proofs Go.RowKit
set_option maxRecDepth 100000
section
variable {P:Program} {n:Nat}
theorem aiB {o:Oper} {a:Act} {w:World} {K eZ:Act->World->Prop} {Q w7:Exit->Act->World->Prop} (aU:∀ a w,K a w->eZ a w) (kx:∀ e a w,e≠.normal->Q e a w->w7 e a w) (h:o.wp P a w K Q) :o.wpIn Fence.wide n P a w eZ w7:=by
 unfold Oper.wp at h;refine⟨fun _ _=>trivial,?_⟩;show o.uponIn Fence.wide n P a eZ w7 ((execOp a.eval o).run P w);cases ag:(execOp a.eval o).run P w with
 | ok x w'=>
  rw[ag] at h;cases x with
  | value v=>exact aU _ _ h
  | skip=>exact aU _ _ h
  | defer d=>exact aU _ _ h
  | enter f args=>
   refine⟨fun bb=>(by cases bb),(callsIn_wide.2 h).mono ?_⟩;rintro (v | BM | _) w2 ae
   ·exact aU _ _ ae
   ·exact kx _ _ _ (by simp) ae
   ·obtain⟨a0,gQ,aR⟩:=ae;exact⟨a0,gQ,kx _ _ _ (by simp) aR⟩
  | row r args=>exact⟨fun bb=>(by cases bb),fun c cs _=>let ⟨v,w',r,s⟩:=h c cs; ⟨v,w',aU _ _ r,stepsIn_wide.2 s⟩⟩
  | _=>exact h.elim
 | halt e w'=>
  rw[ag] at h;cases e<;>first | exact kx _ _ _ (by simp) h | exact h.elim
theorem Mo {all:Array Oper} {Q:Exit->Act->World->Prop}:∀ {l1 bo:List Oper} {a:Act} {w:World},
  wpList P all (fun e a w=>match e with | .normal=>wpListIn Fence.wide n P all Q bo a w | _=>False) l1 a w->wpListIn Fence.wide n P all Q (l1++bo) a w
 | [],bo,a,w,h=>h
 | o::l1,bo,a,w,h=>by
  rw[atV];unfold wpList at h;unfold wpListIn;split
  ·rename_i aW;rw[if_pos aW] at h;rcases h with h | ⟨_,a0,gQ,aR⟩
   ·refine aiB (fun a w aR=>Mo aR) (fun e a w am aR=>?_) h;cases e<;>first | exact absurd rfl am | exact aR.elim
   ·exact aR.elim
  ·rename_i aW;rw[if_neg aW] at h;exact⟨fun _ _=>trivial,Mo h⟩
end

section
variable {P:Program} {n:Nat}
def hH (fn:FuncId) (tmps:Array Value) (ps:Array Tmp) (body:Code) (D:Nat) (st:LoopState) (aiU:Option Code) :Loop:={ state:=st,pending:=aiU,fn,tmps:=tmps,params:=ps,assign:=.skip,body,defers:=D }
theorem ajM {g:Operand} {ps:Array Tmp} {body:Code} {Q:Exit->Act->World->Prop} {a:Act} {w:World} {gf:Nat} {lb:Array Value}
  (aw:a.eval g=.func (.func gf) #[] lb) (abn:∀ args w,(callFunc gf args).run P w=.ok (.enter gf args) w) (Df:ps.size=1)
  {A B:Prop} (T:World->World->Prop) (eM:∀ W eK,T W eK->KeepsOthers W eK)
  (adl:∀ (fn:FuncId) (x:Value) (W:World),fO ((w.alloc (.deferred (some []))).alloc (.loop (hH fn a.tmps ps body w.heap.size .ready none))) W->
   body.wpIn (Fence.wide.inRound (w.heap.size+1)) n P (fun e _ eK=>e=.ret/\T (W.putObj (w.heap.size+1) (.loop (hH fn a.tmps ps body w.heap.size .busy none))) eK)
    { tmps:=(ps.zip #[x]).foldl (fun t (p,v)=>t.setIfInBounds p v) a.tmps,defers:=[] } (W.putObj (w.heap.size+1) (.loop (hH fn a.tmps ps body w.heap.size .busy none))))
  (vw:∀ (fn:FuncId) (cC:World),cC=(w.alloc (.deferred (some []))).alloc (.loop (hH fn a.tmps ps body w.heap.size .ready none))->
   (∀ (x:Value) (W:World),fO cC W->YieldAt Fence.wide n P (w.heap.size+1) #[x] W fun e eK=>e=.returned (.bool false)/\∃ j2,T (W.putObj (w.heap.size+1) (.loop (hH fn a.tmps ps body w.heap.size .busy none))) j2 ∧
    eK=j2.putObj (w.heap.size+1) (.loop (hH fn a.tmps ps body w.heap.size .done (some .ret))))->
   CallsIn Fence.wide (n - 1) P gf (#[.func (.yield (w.heap.size+1)) #[] #[]]++lb) cC fun e dG=>(∃ v,e=.returned v)/\((A/\fO cC dG) ∨
    (B/\∃ W j2,fO cC W/\T (W.putObj (w.heap.size+1) (.loop (hH fn a.tmps ps body w.heap.size .busy none))) j2/\fO (j2.putObj (w.heap.size+1) (.loop (hH fn a.tmps ps body w.heap.size .done (some .ret)))) dG)))
  (Gk:∀ (fn:FuncId) (cC dG:World),cC=(w.alloc (.deferred (some []))).alloc (.loop (hH fn a.tmps ps body w.heap.size .ready none))->A->fO cC dG->
   Q .normal { a with defers:={ target:=.collected w.heap.size,args:=#[] }::a.defers } (dG.putObj (w.heap.size+1) (.loop (hH fn a.tmps ps body w.heap.size .exhausted none))))
  (afy:∀ (fn:FuncId) (cC W j2 dG:World),cC=(w.alloc (.deferred (some []))).alloc (.loop (hH fn a.tmps ps body w.heap.size .ready none))->B->fO cC W->
   T (W.putObj (w.heap.size+1) (.loop (hH fn a.tmps ps body w.heap.size .busy none))) j2->fO (j2.putObj (w.heap.size+1) (.loop (hH fn a.tmps ps body w.heap.size .done (some .ret)))) dG->
   Q .ret { a with defers:={ target:=.collected w.heap.size,args:=#[] }::a.defers } (dG.putObj (w.heap.size+1) (.loop (hH fn a.tmps ps body w.heap.size .exhausted (some .ret))))) :
  (Code.rangeFunc g ps .skip body).wpIn Fence.wide n P Q a w:=by
 refine wpIn_rangeFunc ?_;intro fn iB;rw[Fence.wide_round];obtain⟨cC,oP⟩:∃ cC,(w.alloc (.deferred (some []))).alloc (.loop (hH fn a.tmps ps body w.heap.size .ready none))=cC:=⟨_,rfl⟩
 have Cw:cC.heap[w.heap.size+1]? = some (.loop (hH fn a.tmps ps body w.heap.size .ready none)) :=by
  rw[<-oP]; have:=World.alloc_heap_new (w.alloc (.deferred (some []))) (.loop (hH fn a.tmps ps body w.heap.size .ready none)); rwa [World.size_alloc] at this
 have hX:cC.heap.size=w.heap.size+2:=by rw[<-oP]; simp
 refine⟨w.heap.size+1,[{ target:=.collected w.heap.size,args:=#[] }],cC,{ target:=.fn (.func gf) lb,args:=#[.func (.yield (w.heap.size+1)) #[] #[]] },cC,gf,
  #[.func (.yield (w.heap.size+1)) #[] #[]]++lb,cC,?_,?_,?_,?_,fun bb=>(by cases bb),?_⟩
 ·rw[<-oP]; exact run_enterLoop_outer _ _ _ _ _
 ·simp only[resolve,aw];simp[go_sem]
 ·intro RJ ao3; trivial
 ·simp[invoke,go_sem,abn]
 ·refine (vw fn cC oP.symm fun x W af=>?_).mono ?_
  ·have al:W.heap[w.heap.size+1]? = some (.loop (hH fn a.tmps ps body w.heap.size .ready none)) :=(af.toBelow.block _ (by omega)).trans Cw;have aK:w.heap.size+1<W.heap.size:=(att.1 al).1;have aJ:=run_yield (P:=P) (args:=#[x]) al (by show 1=ps.size; omega);refine⟨fn,_,.skip,body,aJ,roundIn_of_wpIn iB (wpIn_skip ⟨_,run_beginRound al rfl,?_⟩)⟩;have iX:(W.putObj (w.heap.size+1) (.loop (hH fn a.tmps ps body w.heap.size .busy none))).heap[w.heap.size+1]? = some (.loop (hH fn a.tmps ps body w.heap.size .busy none)) :=World.putObj_heap_same aK;refine wpIn_mono (adl fn x W (by rw[oP]; exact af)) ?_;rintro e b4 j2 ⟨rfl,aV⟩;have C0:=(eM _ _ aV).same _ _ iX rfl;have ay:=run_endRound (P:=P) (some .ret) C0;exact⟨_,_,ay,rfl,j2,aV,rfl⟩
  ·rintro e dG ⟨⟨v,rfl⟩,(⟨dm,af⟩ | ⟨jI,W,j2,af,aV,dX⟩)⟩
   ·have al:dG.heap[w.heap.size+1]? = some (.loop (hH fn a.tmps ps body w.heap.size .ready none)) :=(af.toBelow.block _ (by omega)).trans Cw;exact⟨none,_,run_endLoop (P:=P) al (by simp[hH]),Gk fn cC dG oP.symm dm af⟩
   ·have al:W.heap[w.heap.size+1]? = some (.loop (hH fn a.tmps ps body w.heap.size .ready none)) :=(af.toBelow.block _ (by omega)).trans Cw;have aK:w.heap.size+1<W.heap.size:=(att.1 al).1;have iX:(W.putObj (w.heap.size+1) (.loop (hH fn a.tmps ps body w.heap.size .busy none))).heap[w.heap.size+1]? = some (.loop (hH fn a.tmps ps body w.heap.size .busy none)) :=World.putObj_heap_same aK;have C0:=(eM _ _ aV).same _ _ iX rfl;have TG:=(att.1 C0).1;have qX:dG.heap[w.heap.size+1]? = some (.loop (hH fn a.tmps ps body w.heap.size .done (some .ret))) :=(dX.toBelow.block _ (by simpa using TG)).trans (World.putObj_heap_same TG);exact⟨some .ret,_,run_endLoop (P:=P) qX (by simp[hH]),wpIn_ret (afy fn cC W j2 dG oP.symm jI af aV dX)⟩
end
def kp:Code->List Bool->Code
 | c,[]=>c
 | .seq a b,d::r=>kp (if d then b else a) r
 | .block _ c,_::r=>kp c r
 | .loop c,_::r=>kp c r
 | .cond _ a b,d::r=>kp (if d then b else a) r
 | .rangeFunc _ _ a b,d::r=>kp (if d then b else a) r
 | c,_::_=>c
def mS:Code->Array Oper
 | .region _ o _=>o
 | _=>#[]
section
variable {P:Program} {G:Nat->U}
theorem tf (fz:P.follows .mixedOrders=true) (h4:∀ g,(G g).closed=true) {N n:Nat} {code:Code} {c:fw} (ah:comp P N code=some c) {σ:a8} {l:ao} {K:hk} (fJ:run P G c σ l K)
  {R:Nat->Prop} {B:Nat} {w:World} {μ:cg} {a:Act} {Q:Exit->Act->World->Prop} (rel:bI R B w (a7 l) μ) (g:mm G w R (a7 l) μ) (s:iy N w R (a7 l) μ σ a)
  (kx:∀ e c9 w' μ' bE l',K e bE l'->c5 w (a7 l) μ w' (a7 l') μ'->bI R B w' (a7 l') μ'->iy N w' R (a7 l') μ' bE c9->Q e.out c9 w') :code.wpIn Fence.wide n P Q a w:=by
 obtain⟨e,bE,l',r5,_,ar⟩:=Xi (as3 N) code c ah σ l K fJ;obtain⟨ahV,ak⟩:=Ey fz h4 r5;exact wpIn_wide.2 (ox.wp (ak R B w μ a Q rel g s fun c9 w' μ' aQ c7 cQ=>kx e c9 w' μ' bE l' ar aQ c7 cQ))
theorem Wb (fz:P.follows .mixedOrders=true) (h4:∀ g,(G g).closed=true) {N n:Nat} {ops:Array Oper} (fo:∀ (i:Nat) (o:Oper),ops[i]? = some o->jH N o.dst=true) {qe:List dd} {os bo:List Oper} (dL:nM P ops qe os)
  {σ:a8} {l:ao} {K:a8->ao->Prop} (fJ:i1 P G qe σ l K)
  {R:Nat->Prop} {B:Nat} {w:World} {μ:cg} {a:Act} {Q:Exit->Act->World->Prop} (rel:bI R B w (a7 l) μ) (g:mm G w R (a7 l) μ) (s:iy N w R (a7 l) μ σ a)
  (kx:∀ c9 w' μ' bE l',K bE l'->c5 w (a7 l) μ w' (a7 l') μ'->bI R B w' (a7 l') μ'->iy N w' R (a7 l') μ' bE c9->wpListIn Fence.wide n P ops Q bo c9 w') :wpListIn Fence.wide n P ops Q (os++bo) a w:=by
 obtain⟨bE,l',r5,_,ar⟩:=Es fo dL fJ;refine Mo ?_;exact Ey fz h4 r5 R B w μ a _ rel g s fun c9 w' μ' aQ c7 cQ=>kx c9 w' μ' bE l' ar aQ c7 cQ
theorem akg {n m:Nat} {l:Nat} {f:FuncId} {tmps:Array Value} {assign body:Code} {w:World} {R:Ending->World->Prop} (h:RoundIn Fence.wide n P l f tmps assign body w R) :RoundIn Fence.wide m P l f tmps assign body w R:=
 ⟨h.1,fun c cs _=>h.2 c cs (room_wide _)⟩
theorem Wt {R:Nat->Prop} {B:Nat} {w:World} {l:ao} {μ:cg} (rel:bI R B w (a7 l) μ) {b sz:Nat} {cs:List U} (af:l[b]? = some (.cells sz cs)) (ah:a5 cs=true) {v:Value} (ap:aN w R (a7 l) μ (.ptr b 0 sz) v) :dV w R (.bK cs 0) v:=by
 have aE:(a7 l).f b=.cells sz cs:=lq.2 af;cases ap with
 | mT _ _ _ a aw=>
  rcases aw with h | ⟨n,hA,h,aK⟩
  ·rw[aE] at h; cases h
  ·rw[aE] at h; injection h with ad ae; omega
 | ptr _ _ _ hA m dX hm=>
  rw[aE] at dX;injection dX with _ bx
  subst bx;have ed:=rel.blk b m hm;rw[aE] at ed;obtain⟨ad,ae,arr,e,eU,aj,aF,a6,bu⟩:=ed;have iW:R m.r:=rel.up _ (rel.base b m (by rw[aE]; rfl) hm);refine .bK cs 0 m.r m.s (fun j=>(arr[m.s+j]?).getD undef) (fun j ai=>?_) fun j c ai=>?_
  ·obtain⟨v,bU,b8,ei⟩:=bu j cs[j] (as4 ai);rw[bU];refine⟨?_,b8,iW,p7 _ _⟩;simp only[World.cell?,aj];simpa using bU
  ·obtain⟨v,bU,b8,ei⟩:=bu j c ai;rw[bU];exact (rZ ei (zh ah j c ai)).up fun k _ ar=>⟨ar.1,p7 _ _⟩
theorem dV.nR {w w' : World} {A:Nat->Prop} {c:U} {v:Value} (ap:dV w A c v) (af:fO w w') :dV w' A c v:=by
 obtain⟨e,_⟩:=wq (A1 w (fun k=>A k\/w.heap.size<=k) fun k ar=>.inr ar) af;exact aN.mA (R:=A) (⟨e.os,e.tape,e.output,e.size,e.cb,e.own,e.cells,e.gone,e.D2,e.n,e.drawn⟩) ap
end

end Go.bY

namespace Go.bY
open Go Go.Proofs Go.RowKit
set_option maxRecDepth 100000
namespace Op
open hl
def Br (qu qv jG rQ:Array Oper) :Code:=.seq (.region 1 qu false) (.seq (.cond (.tmp 10) .skip (.exit 0)) (.seq (.block 1 (.seq (.region 2 qv false) (.seq (.region 3 jG false) (.cond (.tmp 23) .ret .skip)))) (.region 4 rQ false)))
def zw (cap dW:Int) (parts dq:U) (ord:dr) :List U:=[.int .i64 cap,parts,dq,.int .i64 dW,aD ord]
theorem Q9 {cap dW:Int} {parts dq:U} {ord:dr} (av:parts.closed=true) (aR:dq.closed=true) :a5 (zw cap dW parts dq ord)=true:=by
 simp[zw,a5,av,aR,dw,U.closed]
structure sZ (E:List U) (ps:dr) (S:List U) (eI:Nat) (cC:World) (k:Nat) (a:Go.Act) (W:World) :Prop where
 size:a.tmps.size=25
 defers:a.defers=[]
 t0:a.tmps.getD 0 undef=.func (.yield eI) #[] #[]
 t8:a.tmps.getD 8 undef=.int .i64 ps.l.length
 t9:a.tmps.getD 9 undef=.int .i64 k
 ex:∃ A,dV W A (.bK (E) 0) (a.tmps.getD 1 undef)/\dV W A (.bK S 0) (a.tmps.getD 2 undef)/\dV W A (aD ps) (a.tmps.getD 7 undef)/\∀ g,dV W A (GS g) (.pointer (some ⟨g,0,none⟩))
 nR:fO cC W
def mj (E:List U) (ps:dr) (S:List U) (eI k:Nat) :a8:=bw (bw (bw (bw (bw (bw (fun _=>U.bad) 0 (.hj eI)) 1 (.bK (E) 0)) 2 (.bK S 0)) 7 (aD ps)) 8 (.int .i64 ps.l.length)) 9 (.int .i64 k)
theorem sZ.Ez {E:List U} {ps:dr} {S:List U} {eI:Nat} {cC:World} {k:Nat} {a:Go.Act} {W:World} (h:sZ E ps S eI cC k a W) :
  ∃ R:Nat->Prop,bI R W.heap.size W (a7 []) (fun _=>none)/\mm GS W R (a7 []) (fun _=>none)/\iy 25 W R (a7 []) (fun _=>none) (mj E ps S eI k) a:=by
 obtain⟨A,ad,ae,cL,aw⟩:=h.ex;have up:∀ {c:U} {v:Value},dV W A c v->aN W (fun k=>A k\/W.heap.size<=k) aM.empty (fun _=>none) c v:=fun ah=>ah.up (fun k _ ar=>⟨.inl ar,p7 _ k⟩)
 refine⟨fun k=>A k\/W.heap.size<=k,A1 W _ fun k ar=>.inr ar,fun g=>⟨bl g,up (aw g)⟩,h.size,h.defers,fun t=>?_⟩;unfold mj;by_cases Ry:t=9
 ·subst Ry; rw[hB,h.t9]; exact .int _ _
 rw[b1 _ _ _ _ Ry];by_cases bz:t=8
 ·subst bz; rw[hB,h.t8]; exact .int _ _
 rw[b1 _ _ _ _ bz];by_cases zu:t=7
 ·subst zu; rw[hB]; exact up cL
 rw[b1 _ _ _ _ zu];by_cases bx:t=2
 ·subst bx; rw[hB]; exact up ae
 rw[b1 _ _ _ _ bx];by_cases aQ:t=1
 ·subst aQ; rw[hB]; exact up ad
 rw[b1 _ _ _ _ aQ];by_cases fm:t=0
 ·subst fm; rw[hB,h.t0]; exact .hj _
 rw[b1 _ _ _ _ fm];exact .bad _
theorem y6 {w w' : World} {h' : aM} {μ' : cg} (e:c5 w aM.empty (fun _=>none) w' h' μ') :fO w w':=⟨⟨e.os,e.tape,e.output,e.size,fun k ar=>e.cb k ar (p7 _ k)⟩,e.drawn⟩
theorem rX {a b c:World} (ad:fO a b) (ae:fO b c) :fO a c:=⟨ad.toBelow.trans (ae.toBelow.mono ad.toBelow.size),atR ad.drawn ae.drawn⟩
theorem ZV (w:World) :fO w w:=⟨RowKit.Below.refl _ w,as3 _⟩
theorem sZ.mk' {E:List U} {ps:dr} {S:List U} (c6:a5 E=true) (hS:a5 S=true) {eI:Nat} {cC W eK:World} {k:Nat} {c9:Go.Act} {R:Nat->Prop} {l' : ao} {μ' : cg} {bE:a8} (af:fO cC W) (e:c5 W aM.empty (fun _=>none) eK (a7 l') μ') (g:mm GS eK R (a7 l') μ') (s:iy 25 eK R (a7 l') μ' bE c9)
  (hf:bE 0=.hj eI) (bU:bE 1=.bK (E) 0) (b8:bE 2=.bK S 0) (tZ:bE 7=aD ps) (Av:bE 8=.int .i64 ps.l.length) (vZ:bE 9=.int .i64 k) :sZ E ps S eI cC k c9 eK:=by
 have ah:∀ {t:Nat} {c:U},bE t=c->c.closed=true->dV eK (fun k=>R k) c (c9.tmps.getD t undef) :=fun {t c} aV ew=>by
  have:=s.val t;rw[aV] at this;exact (rZ this ew).up fun k _ ar=>⟨ar.1,p7 _ k⟩
 refine⟨s.size,s.defers,?_,?_,?_,⟨fun k=>R k,ah bU (by simp[U.closed,c6]),ah b8 (by simp[U.closed,hS]),ah tZ (dw _),fun i=>(rZ (g i).2 (g i).1).up fun k _ ar=>⟨ar.1,p7 _ k⟩⟩,rX af (y6 e)⟩
 ·have:=s.val 0; rw[hf] at this; generalize c9.tmps.getD 0 undef=v at this ⊢; cases this; rfl
 ·have:=s.val 8; rw[Av] at this; generalize c9.tmps.getD 8 undef=v at this ⊢; cases this; rfl
 ·have:=s.val 9; rw[vZ] at this; generalize c9.tmps.getD 9 undef=v at this ⊢; cases this; rfl
abbrev ahw:List dd:=[fG 0 6 (.pB 1 (dg 1)),fG 1 7 (.nx (dg 6)),fG 2 8 (.len (.aq 32) (dg 7)),fG 3 9 (.fL (.const (.int .i64 0)))]
abbrev ahx:List dd:=[fG 0 10 (.bin .lss 3 (dg 9) (dg 8))]
abbrev ahy:List dd:=[fG 0 11 (.vR (.aq 32) (dg 7) (dg 9)),fG 1 12 (.lU 32 (dg 11)),fG 2 5 (.alloc (rep 32 (.int .u8 0))),Eu 3 (.st 32 (dg 5) (dg 12))]
abbrev ahz:List dd:=[fG 0 13 (.pB 4 (dg 2)),fG 1 14 (.nx (dg 13)),fG 2 15 (.lU 32 (dg 5)),sc 3 16 48 [(dg 14),(dg 15)],fG 4 17 (.un .not (dg 16)),mV 5 18 17,A5 6 19 18 true (.fL (dg 0)),A5 7 20 18 true (.lU 32 (dg 5))]
abbrev ahA:List dd:=[A5 9 22 18 true (.un .not (dg 21)),fG 10 23 (.pick (dg 18) (dg 22) (.const (.bool false)))]
theorem BB {P:Program} {ops:Array Oper}:∀ {idx:List Nat} {qe:List dd} {os:List Oper},idx.mapM (fun i=>A9 P ops i [] false)=some qe->os.map some=idx.map (fun i=>ops[i]?)->nM P ops qe os:=by
 intro idx qe os ad ae;exact I5 (fun i x ag=>by obtain⟨o,ae,aj,_⟩:=EA ag; exact⟨o,ae,aj⟩) ad ae.symm
def Mu:fw:=(.seq (.lk [fG 0 10 (.bin .lss 3 (dg 9) (dg 8))]) (.seq (.cond (dg 10) .skip (.exit 0)) (.seq (.block 1 (.seq (.lk [fG 0 11 (.vR (.aq 32) (dg 7) (dg 9)),fG 1 12 (.lU 32 (dg 11)),fG 2 5 (.alloc (rep 32 (.int .u8 0))),Eu 3 (.st 32 (dg 5) (dg 12))]) (.seq (.lk [fG 0 13 (.pB 4 (dg 2)),fG 1 14 (.nx (dg 13)),fG 2 15 (.lU 32 (dg 5)),sc 3 16 48 [(dg 14),(dg 15)],fG 4 17 (.un .not (dg 16)),mV 5 18 17,A5 6 19 18 true (.fL (dg 0)),A5 7 20 18 true (.lU 32 (dg 5)),⟨8,(some 21),(some ((some 18),true)),.mv (dg 19) [(dg 20)],[],false⟩,A5 9 22 18 true (.un .not (dg 21)),fG 10 23 (.pick (dg 18) (dg 22) (.const (.bool false)))]) (.cond (dg 23) .ret .skip)))) (.lk [fG 0 24 (.bin .add 3 (dg 9) (.const (.int .i64 1))),mV 1 9 24]))))
structure Y7 (yZ qu qv jG rQ:Array Oper) (rs:Oper) :Prop where
 body:Tryz.f163.body=some (.seq (.region 0 yZ false) (.block 0 (.loop (Br qu qv jG rQ))))
 tb:comp Tryz.prog 25 (.region 0 yZ false)=some (.lk ahw)
 b0:comp Tryz.prog 25 (.region 1 qu false)=some (.lk ahx)
 b5:comp Tryz.prog 25 (.region 2 qv false)=some (.lk ahy)
 QY:comp Tryz.prog 25 (Br qu qv jG rQ)=some Mu
 split:jG.toList=jG.toList.take 8++(rs::(jG.toList.drop 9++[]))
 air:nM Tryz.prog jG ahz (jG.toList.take 8)
 ais:nM Tryz.prog jG ahA (jG.toList.drop 9)
 Ru:∀ (i:Nat) (o:Oper),jG[i]? = some o->jH 25 o.dst=true
 ain:rs.op=.call { callee:=.value (.tmp 19),args:=#[.tmp 20],argTypes:=#[61] }
 ail:rs.dst=some 21
 aim:rs.guard=some (5,true)
 aik:(jG[5]?).bind (·.dst)=some 18
theorem abi {R:Array Oper} (dL:(R.toList.all fun o=>jH 25 o.dst)=true) (i:Nat) (o:Oper) (h:R[i]? = some o) :jH 25 o.dst=true:=by
 exact atN.1 dL o (by rw[<-auk] at h; exact ata h)
theorem Vv:∃ yZ qu qv jG rQ rs,Y7 yZ qu qv jG rQ rs:=
 ⟨mS (kp ((Tryz.f163.body).getD .skip) [false]),
  mS (kp ((Tryz.f163.body).getD .skip) [true,false,false,false]),
  mS (kp ((Tryz.f163.body).getD .skip) [true,false,false,true,true,false,false,false]),
  mS (kp ((Tryz.f163.body).getD .skip) [true,false,false,true,true,false,false,true,false]),
  mS (kp ((Tryz.f163.body).getD .skip) [true,false,false,true,true,true]),
  ((mS (kp ((Tryz.f163.body).getD .skip) [true,false,false,true,true,false,false,true,false])).toList.drop 8).headD { op:=.move (.tmp 0),dst:=none,type:=0,pos:= "",after:=#[],guard:=none },
  ⟨by kernel_rfl,by kernel_rfl,by kernel_rfl,by kernel_rfl,by kernel_rfl,by kernel_rfl,BB (idx:=[0,1,2,3,4,5,6,7]) (by kernel_rfl) (by kernel_rfl),BB (idx:=[9,10]) (by kernel_rfl) (by kernel_rfl),
  abi (by kernel_rfl),by kernel_rfl,by kernel_rfl,by kernel_rfl,by kernel_rfl⟩⟩
end Op

end Go.bY
