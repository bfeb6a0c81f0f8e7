/-
  Operations as bytes: walked in both texts.
-/
import Derived.Test.YtidejmkknleijaaGreatDoorHh
import Derived.RangeFuncNested
import Derived.RangeFuncBound
import Derived.RangeFuncCalls
import Derived.RangeFuncLeaves
import Derived.OwnWalkIn
import Derived.LoopNIn
set_option linter.unusedVariables false
set_option linter.unusedSimpArgs false
set_option linter.unnecessarySimpa false
namespace Go.bV
open Go Go.Proofs
set_option maxRecDepth 100000
namespace Op
open hp
def opHead (o:bu) :List B:=111#8::eD o.hq.toNat
def ly (o:bu) :List B:=
 opHead o++sy o.bo.l++eD o.iD.toNat++[o.act.kind]++(if o.act.kind=1#8 then [] else jK (fx o.act.key))++(if o.act.kind=4#8 then jL o.act.val else [])
theorem FI {l:List (List B)} (h:∀ x∈l,x.length=32) :(sy l).length<=9+l.length*32:=by
 have:=iM l.length;have ae:=N4 h;unfold sy;rw[awW];omega
theorem CW (s:List B) :(jK s).length<=9+s.length:=by
 have:=iM s.length;unfold jK;rw[awW];omega
theorem GF (v:i9) :(jL v).length<=20+v.text.length:=by
 have ad:=iM (nM v.num).toNat
 have ae:=CW (fx v.text);have aj:=rz v.text;unfold jL;simp only[axa];split
 ·omega
 ·split
  ·simp[pB]; omega
  ·omega
theorem Zp (o:bu) (av:jr o) (sf:o.bo.l.length<=1000) {l:ap} {K:U->ap->Prop} (aY:∀ w l',cJ 1 cb l l' w (ly o) false->K w l') :
  c5 Tryz.prog GS 200 [.aH (bd o)] l (c:=⟨K⟩) :=by
 apply bn Tryz.func200 [[[0],[1],[2],[5],[6],[3,6],[4,6]]];have az:ci=140737488355328:=rfl;have aJ:=vW l (.cells 11 (bd o)) 111#8;have tF:=iM o.hq.toNat
 have tH:=iM o.iD.toNat
 have fv:=FI av.ids;have NH:(BitVec.setWidth 64 o.hq).toNat=o.hq.toNat:=by rw[aw9]; exact aw2 (by have:=o.hq.isLt; omega)
 have aL:l.length<(l++[aV.cells 11 (bd o)]).length:=by simp
 have eP:(l++[aV.cells 11 (bd o)])[l.length]? = some (.cells 11 (bd o)) :=by simp
 simp[bd];refine x2 _ fun bO l1 ad=>?_
 rw[NH] at ad;obtain⟨w2,br,bh,dw,_⟩:=(aJ.frame ad.le ad.same).app (by_:=1) (x:=bO) (xs:=eD o.hq.toNat) ad.contents (by simp[cb]) (by omega) (by omega) (by rw[az]; simp only[axa,axB]; omega);have mS:br[l.length]? = some (.cells 11 (bd o)) :=by rw[dw.same _ aL]; exact eP
 have q6:l.length<br.length:=by have:=dw.le; omega
 have si:=mS;simp[bd] at si;simp[bh];refine cU.b1 ?_;simp[si];refine am0 o.bo av.ids sf fun cY gE aj=>?_
 obtain⟨Aw,p3,eW,qB,_⟩:=(dw.frame aj.le aj.same).app (by_:=1) (x:=cY) (xs:=sy o.bo.l) aj.contents (by simp[cb]) (by omega) (by omega) (by rw[az]; simp only[awW,axa,axB]; omega);have cQ:gE[l.length]? = some (.cells 11 (bd o)) :=by rw[aj.same _ q6]; exact mS
 have I1:p3[l.length]? = some (.cells 11 (bd o)) :=by rw[qB.same _ aL]; exact eP
 have ahA:l.length<p3.length:=by have:=qB.le; omega
 have xk:=cQ;have BU:=I1;simp[bd] at xk BU;simp[xk,eW];refine cU.b1 ?_;simp[BU];refine x2 _ fun C1 Ow a2=>?_
 obtain⟨awK,FG,hH,Hg,_⟩:=(qB.frame a2.le a2.same).app (by_:=1) (x:=C1) (xs:=eD o.iD.toNat) a2.contents (by simp[cb]) (by omega) (by omega) (by rw[az]; simp only[awW,axa,axB]; omega);have ah2:FG[l.length]? = some (.cells 11 (bd o)) :=by rw[Hg.same _ aL]; exact eP
 have Wr:=ah2;simp[bd] at Wr;obtain⟨GJ,XS,G8,rW⟩:=cJ.push Hg o.act.kind (by simp only[awW,axa,axB]; omega);have ah3:XS[l.length]? = some (.cells 11 (bd o)) :=by rw[rW.same _ aL]; exact eP
 have as8:l.length<XS.length:=by have:=rW.le; omega
 have Np:=ah3;simp[bd] at Np;simp[hH];refine cU.b1 ?_;simp[Wr,G8];refine cU.b1 ?_;obtain⟨M,je⟩:∃ M,M=[111#8]++eD o.hq.toNat++sy o.bo.l++eD o.iD.toNat++[o.act.kind] :=⟨_,rfl⟩
 have afR:M.length<=40000:=by rw[je]; simp only[awW,axa,axB]; omega
 rw[<-je] at rW;have ew:ly o=M++(if o.act.kind=1#8 then [] else jK (fx o.act.key))++(if o.act.kind=4#8 then jL o.act.val else []) :=by rw[je]; rfl
 have ln:=CW (fx o.act.key);rw[rz] at ln;have M3:=av.key;have kp:=GF o.act.val;have Fc:=av.val.2.2;have ah:wY (.str o.act.key)=some (.a1 1 ((fx o.act.key).map cb)) :=by
  show some (U.a1 1 (o.act.key.map fun b=>[jP b]))=_;rw[Ku]
 by_cases bS:o.act.kind=1#8
 ·have aS:(u o.act.kind:Int)=1:=(i4 o.act.kind).2 bS;have go:¬ o.act.kind=4#8:=by rw[bS]; decide
  rw[if_pos bS,if_neg go,axr,axr] at ew;simp[Np,aS];exact aY _ _ (by rw[ew]; exact rW.base (by simp) fun b af=>awS af)
 ·have aS:¬ (u o.act.kind:Int)=1:=fun h=>bS ((i4 o.act.kind).1 h)
  rw[if_neg bS] at ew;simp[Np,aS,ah];refine Zq (some (fx o.act.key)) (by simpa [rz] using M3) (by simp[de]) (by simp) (fun l' _ _=>by simp[de]) fun KF my gp=>?_
  obtain⟨apZ,Ox,G9,th,_⟩:=(rW.frame gp.le gp.same).app (by_:=1) (x:=KF) (xs:=jK (fx o.act.key)) gp.contents (by simp[cb]) (by omega) (by omega) (by rw[az]; omega);have Nq:Ox[l.length]? = some (.cells 11 (bd o)) :=by rw[th.same _ aL]; exact eP
  have zB:=Nq;simp[bd] at zB;simp[G9];refine cU.b1 ?_;simp only[azf] at th;by_cases go:o.act.kind=4#8
  ·have kG:(u o.act.kind:Int)=4:=(yn o.act.kind).2 go;rw[if_pos go] at ew;simp[zB,kG];refine ank o.act.val av.val fun Qx aj6 lK=>?_
   obtain⟨apY,aj7,K3,Lg,_⟩:=(th.frame lK.le lK.same).app (by_:=1) (x:=Qx) (xs:=jL o.act.val) lK.contents (by simp[cb]) (by omega) (by omega) (by rw[az]; simp only[awW]; omega);simp[K3];refine cU.b1 ?_;simp;exact aY _ _ (by rw[ew]; exact Lg.base (by simp) fun b af=>awS af)
  ·have kG:¬ (u o.act.kind:Int)=4:=fun h=>go ((yn o.act.kind).1 h)
   rw[if_neg go,axr] at ew;simp[zB,kG];exact aY _ _ (by rw[ew]; exact th.base (by simp) fun b af=>awS af)
def iZ (o:bu) :List B:=ly o++eD o.e.toNat++eD o.s.toNat
theorem Yv (o:bu) (av:jr o) (sf:o.bo.l.length<=1000) :(ly o).length<=100000:=by
 have ad:=iM o.hq.toNat
 have ae:=iM o.iD.toNat
 have aj:=FI av.ids;have aD:=CW (fx o.act.key);rw[rz] at aD;have a2:=av.key;have bv:=GF o.act.val;have dr:=av.val.2.2;have aK:(if o.act.kind=1#8 then [] else jK (fx o.act.key)).length<=10009:=by split<;>(try simp) ; omega
 have aW:(if o.act.kind=4#8 then jL o.act.val else []).length<=10020:=by split<;>(try simp) ; omega
 unfold ly opHead;simp only[awW,axa,axB];omega
theorem amR (o:bu) (av:jr o) (sf:o.bo.l.length<=1000) {l:ap} {K:U->ap->Prop} (aY:∀ w l',cJ 1 cb l l' w (iZ o) false->K w l') :
  c5 Tryz.prog GS 172 [.aH (bd o)] l (c:=⟨K⟩) :=by
 apply bn Tryz.func172 [[[0],[2],[3],[4],[5],[8],[9],[10],[11],[1,11,10,5,4],[6,11,10],[7,11,10]]];have az:ci=140737488355328:=rfl;have bY:=iM o.e.toNat
 have tH:=iM o.s.toNat
 have ln:=Yv o av sf;have mo:(BitVec.setWidth 64 o.e).toNat=o.e.toNat:=by rw[aw9]; exact aw2 (by have:=o.e.isLt; omega)
 have sp:(BitVec.setWidth 64 o.s).toNat=o.s.toNat:=by rw[aw9]; exact aw2 (by have:=o.s.isLt; omega)
 have aL:l.length<(l++[aV.cells 11 (bd o)]).length:=by simp
 have eP:(l++[aV.cells 11 (bd o)])[l.length]? = some (.cells 11 (bd o)) :=by simp
 simp[bd];refine Zp o av sf fun bO l1 ad=>?_
 have q9:l1[l.length]? = some (.cells 11 (bd o)) :=by rw[ad.same _ aL]; exact eP
 have q5:l.length<l1.length:=by have:=ad.le; simp at this; omega
 have zA:=q9;simp[bd] at zA;simp[zA];refine x2 _ fun w2 br ae=>?_
 rw[mo] at ae;obtain⟨cY,gE,b6,ke,_⟩:=(ad.frame ae.le ae.same).app (by_:=1) (x:=w2) (xs:=eD o.e.toNat) ae.contents (by simp[cb]) (by omega) (by omega) (by rw[az]; omega);have mS:br[l.length]? = some (.cells 11 (bd o)) :=by rw[ae.same _ q5]; exact q9
 have cQ:gE[l.length]? = some (.cells 11 (bd o)) :=by rw[ke.same _ aL]; exact eP
 have si:=mS;have xk:=cQ;simp[bd] at si xk;simp[si,b6];refine cU.b1 ?_;simp[xk];refine x2 _ fun Aw p3 aD=>?_
 rw[sp] at aD;obtain⟨C1,Ow,gn,yP,_⟩:=(ke.frame aD.le aD.same).app (by_:=1) (x:=Aw) (xs:=eD o.s.toNat) aD.contents (by simp[cb]) (by omega) (by omega) (by rw[az]; simp only[awW]; omega);simp[gn];refine cU.b1 ?_;simp;exact aY _ _ (yP.base (by simp) fun b af=>awS af)
theorem am2 (o:bu) (av:jr o) (sf:o.bo.l.length<=1000) :bw Tryz.prog GS 131 [.aH (bd o)] (gP (i2 (iZ o))) :=by
 refine bQ Tryz.checked.mixed bj ?_;apply bn Tryz.func131 [];have bY:=iM o.e.toNat
 have tH:=iM o.s.toNat
 have ln:=Yv o av sf;have bW:(i2 (iZ o)).length=32:=ye _;simp[bd];refine amR o av sf fun bO l1 ad=>?_
 have eP:l1[1]? = some (.cells 32 (rep 32 (.int .u8 0))) :=by rw[ad.same 1 (by simp)]; rfl
 simp;refine mA (ZA (some (iZ o)) (by simp[iZ]; omega)) (.cons (ad.uk (fun _=>rfl) (some (iZ o)) rfl rfl) .nil) (by simp[U.flat,mL,gP,Bg bC (fun _=>rfl)]) ?_;have zF:bf (rep 32 (.int .u8 0)) 0 ((i2 (iZ o)).map bC)=(i2 (iZ o)).map bC:=gw (by rw[aw1,bW]; rfl);have lS:(l1.set 1 (aV.cells 32 ((i2 (iZ o)).map bC)))[1]? = some (.cells 32 ((i2 (iZ o)).map bC)) :=axb (cd eP);simp[eP,gP,bW,zF,lS,awR];exact aU rfl (by simp[U.closed,ng bC (fun _=>rfl)])
theorem Lk:∀ a b:List B,a.length=b.length->fN (a.map bC) (b.map bC)=decide (a=b)
 | [],[],_=>rfl
 | [],_::_,h=>by simp at h
 | _::_,[],h=>by simp at h
 | x::a,y::b,h=>by
  have aR:=Lk a b (by simpa using h);simp only[axk,fN,aR,U.beq,decide_true,ayn];by_cases ad:x=y
  ·by_cases ae:a=b<;>simp[ad,ae]
  ·have:¬ u x=u y:=fun h=>ad ((yo x y).1 h)
   simp[ad]
theorem FT:∀ a:List B,jD (List.replicate a.length (.i .u8)) (a.map bC)=true
 | []=>rfl
 | x::a=>by
  rw[axa,axJ,axk];simp only[jD,FT a,Qi,decide_true,ayL]
theorem XQ:tY Tryz.prog 20 61=some (List.replicate 32 (.i .u8)) :=by kernel_rfl
theorem N0 {a b:List B} (aE:a.length=32) (af:b.length=32) :fz Tryz.prog .eql 61 (.aH (a5 a)) (.aH (a5 b))=some (.bool (decide (a=b))) :=by
 unfold a5;rw[Hj XQ (by kernel_rfl) (by kernel_rfl) (by have:=FT a; rwa [aE] at this) (by have:=FT b; rwa [af] at this),Lk a b (by omega)]
theorem zM {a b:List B} (aE:a.length=32) (af:b.length=32) :fz Tryz.prog .neq 61 (.aH (a5 a)) (.aH (a5 b))=some (.bool (!decide (a=b))) :=by
 unfold a5;rw[RA XQ (by kernel_rfl) (by kernel_rfl) (by have:=FT a; rwa [aE] at this) (by have:=FT b; rwa [af] at this),Lk a b (by omega)]
theorem alj (s:dk) :fz Tryz.prog .eql 23 (cc 32 a5 s) .aG=some (.bool s.isNone) :=Do (e:=61) (by kernel_rfl) 32 a5 s
theorem alF (l:ap) :cJ 32 a5 l (l++[.cells 0 []]) (.aq 32 l.length 0 0 0 0) ([] :List (List B)) false:=
 ⟨l.length,.aq l.length 0 0 0 [] [] (by simp) rfl rfl (by simp) (awU _) (by omega) rfl,by simp,fun b af=>awS af,.inr (awU _),rfl⟩
theorem W5 (s:dk) (av:ds s) (ak:s.l.length<=1000000) {l:ap} {K:U->ap->Prop} (aY:∀ v l',cJ 32 a5 l l' v s.l s.isNone->K v l') :
  c5 Tryz.prog GS 61 [aA s] l (c:=⟨K⟩) :=by
 apply bn Tryz.func61 [];have az:ci=140737488355328:=rfl;cases s with
 | none=>
  simp[aA];exact aY _ _ cJ.nil
 | some a=>
  simp at ak;obtain⟨v',l',a8,bh,_⟩:=(alF l).app (by_:=32) (x:=cc 32 a5 (some a)) (xs:=a) (wV _ 32 a5 (some a)) (fun y aI=>dq (av y aI)) (by omega) (by omega) (by rw[az]; simp; omega);simp[aA,alj,a8];refine cU.b1 ?_;simp;exact aY _ _ (by simpa using bh)
def qJ (l:List (List B)) (m:Nat) :List (List B) :=(List.range m).flatMap fun k=>if k=0\/b2 l k≠b2 l (k - 1) then [b2 l k] else []
def tn (l:List (List B)) :List (List B) :=qJ l l.length
theorem DG (l:List (List B)) (m:Nat) :qJ l (m+1)=qJ l m++(if m=0\/b2 l m≠b2 l (m - 1) then [b2 l m] else []) :=by
 unfold qJ; rw[ayP,azs]; simp
theorem TQ (l:List (List B)) :∀ m,(qJ l m).length<=m
 | 0=>by simp[qJ]
 | m+1=>by
  have:=TQ l m;rw[DG,awW];split<;>simp<;>omega
theorem DF {l:List (List B)}:∀ {m},m<=l.length->(∀ k,1<=k->k<m->b2 l k≠b2 l (k - 1))->qJ l m=l.take m
 | 0,_,_=>by simp[qJ]
 | m+1,hm,h=>by
  rw[DG,DF (by omega) (fun k ad ae=>h k ad (by omega)),axe,if_pos (by
   by_cases aJ:m=0
   ·exact .inl aJ
   ·exact .inr (h m (by omega) (by omega)))]
  congr 1;unfold b2;rw[aw7,awT (by omega)];rfl
theorem TR {l:List (List B)} {k:Nat} (ad:1<=k) (am:b2 l k=b2 l (k - 1)) :∀ {m},k<m->(qJ l m).length<m
 | 0,h=>by omega
 | m+1,h=>by
  rw[DG,awW];by_cases ar:k=m
  ·subst ar;have:=TQ l k;rw[if_neg (fun h=>h.elim (fun aJ=>by omega) (fun ae=>ae am))];simp; omega
  ·have:=TR ad am (m:=m) (by omega);split<;>simp<;>omega
theorem adW {l:List (List B)} (ak:Am l=true) :((tn l).length=l.length)<->dR l=true:=by
 unfold Am at ak;rw[decide_eq_true_eq] at ak;unfold dR tn;rw[decide_eq_true_eq];constructor
 ·intro h k ar ad;have ae:=ak k ar ad;have aj:b2 l k≠b2 l (k - 1) :=fun am=>by
   have:=TR ad am ar;omega
  have aD:=DC (b2 l k) (b2 l (k - 1));have a2:cj (b2 l (k - 1)) (b2 l k)≠0:=fun aJ=>aj (A2 aJ).symm
  omega
 ·intro h;rw[DF (awU _) (fun k ad ae am=>by
   have:=h k ae ad;rw[<-am,rZ] at this;omega),axo]
theorem Jl {a:List (List B)} {k:Nat} (h:k<a.length) :(a.map a5)[k]? = some (a5 (b2 a k)) :=by
 rw[awV];unfold b2;rw[aw7,awT h];rfl
theorem Ji {a:List (List B)} {k:Nat} (h:k<a.length) :b2 a k∈a:=by
 unfold b2;rw[aw7,awT h];exact List.getElem_mem h
structure abS (l:ap) (v:U) (xs:List (List B)) (k:Nat) (σ:bc) (l1:ap) :Prop where
 ck:σ 0=v
 a6:σ 3=.int .i64 ((k+1:Nat) :Int)
 al:l1=l
 ak:∀ j,1<=j->j<k+1->b2 xs j≠b2 xs (j - 1)
structure abR (l:ap) (v b4:U) (j:Nat) (xs:List (List B)) (m i:Nat) (σ:bc) (br:ap) :Prop where
 ck:σ 0=v
 bi:σ 4=b4
 bm:σ 5=.int .i64 ((i+1:Nat) :Int)
 ex:∃ (k:Nat) (bK:List (List B)),σ 3=.int .i64 (k:Int)/\bL 32 br v j (bK.map a5)/\bK.length=xs.length/\(∀ y∈bK,y.length=32)/\bK.take k=qJ xs (m+i+1)/\k<=m+i/\(∀ t,m+i<=t->b2 bK t=b2 xs t)/\br.length=l.length/\∀ b,b≠j->br[b]? = l[b]?
theorem adU {l:ap} {v:U} {j k:Nat} {bK:List (List B)} (h:bL 32 l v j (bK.map a5)) (ar:k<bK.length) :
  ∃ fo gE r,fm (.aq 32) v (some (.int .i64 (k:Int))) none none=some fo/\wO (rep 32 (.int .u8 0)) l fo=some gE/\fm (.aq 32) v none (some (.int .i64 (k:Int))) none=some r ∧
   bL 32 gE r j ((bK.take k).map a5)/\cz r=false/\gE.length=l.length/\∀ b,b≠j->gE[b]? = l[b]?:=by
 generalize am:bK.map a5=es at h;cases h with
 | nil j=>rw[ay2] at am; subst am; simp at ar
 | aq j n cap sz cs es af al aC aw ah cZ c6=>
  subst am;have BR:bK.length=n:=by simpa using aC
  have gB:k6 (.int .i64 (k:Int)) n=some k:=by
   show (if 0<=(k:Int)/\(k:Int)<=(n:Int) then some (k:Int).toNat else none)=some k;rw[if_pos ⟨by omega,by omega⟩]; simp
  have ej:k6 (.int .i64 (k:Int)) cap=some k:=by
   show (if 0<=(k:Int)/\(k:Int)<=(cap:Int) then some (k:Int).toNat else none)=some k;rw[if_pos ⟨by omega,by omega⟩]; simp
  have cT:hc n cap (some (.int .i64 (k:Int))) none none=some (k,n,cap) :=by
   show (match k6 (.int .i64 (k:Int)) n with | none=>none | some l=>some (l,n,cap))=_;rw[gB]
  have dw:hc n cap none (some (.int .i64 (k:Int))) none=some (0,k,cap) :=by
   show (match k6 (.int .i64 (k:Int)) cap with | none=>none | some h=>some (0,h,cap))=_;rw[ej]
  have fc:¬ cap=k:=by omega
  have Il:¬ cap=0:=by omega
  have et:j<l.length:=cd af;have ih:k*32<=n*32:=awX _ (by omega);have lj:n*32<=cap*32:=awX _ ah;have ra:(dH (rep 32 (.int .u8 0)) (n - k)).length=(n - k)*32:=by rw[Gd]; rfl
  have ata:k*32+(n - k)*32=n*32:=by rw[<-axL]; congr 1; omega
  refine⟨.aq 32 j (k*32) (n - k) (cap - k) sz,l.set j (.cells sz (bf cs (k*32) (dH (rep 32 (.int .u8 0)) (n - k)))),.aq 32 j 0 k cap sz,?_,?_,?_,?_,rfl,by simp,fun b vf=>by rw[axg (fun h=>vf h.symm)]⟩
  ·rw[Gq,cT]; simp[fc]
  ·unfold wO;simp only;rw[if_neg (by omega)];simp[af]
  ·rw[Gq,dw]; simp[Il]
  ·refine .aq j k cap sz _ _ (axb et) (by rw[Al (by omega),ra]; omega) (by simp; omega) (fun e am=>?_) (by omega) cZ ?_
   ·obtain⟨y,aI,rfl⟩:=axi.1 am;exact aw _ (ay3 (axp aI))
   ·unfold bf;rw[axH,axs (by rw[axd]; omega),ayx,Nat.min_self];have aS:cs.take (k*32)=(cs.take (n*32)).take (k*32) :=by rw[ayx,ayh ih]
    have bt:bK.map a5=(bK.take k).map a5++(bK.drop k).map a5:=by rw[<-axc,axX]
    have er:((bK.take k).map a5).flatten.length=k*32:=by
     rw[qM (z:=32) (fun e am=>by obtain⟨y,aI,rfl⟩:=axi.1 am; exact aw _ (ay3 (axp aI)))];simp; omega
    rw[aS,c6,bt,axO,axs (by omega),awR (by omega)]
theorem YM {bK:List (List B)} (aw:∀ y∈bK,y.length=32) (k:Nat) (ar:k<=bK.length) {n:Nat} (aC:bK.length=n) {cs:List U} (c6:cs.take (n*32)=(bK.map a5).flatten) (al:n*32<=cs.length) :
  cs.take (k*32)=((bK.take k).map a5).flatten/\(cs.drop (k*32)).take (n*32 - k*32)=((bK.drop k).map a5).flatten:=by
 have ih:k*32<=n*32:=awX _ (by omega);have bt:bK.map a5=(bK.take k).map a5++(bK.drop k).map a5:=by rw[<-axc,axX]
 have er:((bK.take k).map a5).flatten.length=k*32:=by
  rw[qM (z:=32) (fun e am=>by obtain⟨y,aI,rfl⟩:=axi.1 am; exact dq (aw _ (axp aI)))];simp; omega
 have aS:cs.take (k*32)=(cs.take (n*32)).take (k*32) :=by rw[ayx,ayh ih]
 constructor
 ·rw[aS,c6,bt,axO,axs (by omega),awR (by omega)]
 ·rw[<-aze,c6,bt,axO,axR (by omega),ayl (by omega),axT]
theorem aok {l:ap} {v:U} {j k:Nat} {bK:List (List B)} {x:List B} (h:bL 32 l v j (bK.map a5)) (aw:∀ y∈bK,y.length=32) (ar:k<bK.length) (ag:x.length=32) :
  ∃ p l',cN (.aq 32) v (.int .i64 (k:Int))=some p/\mD 32 l p (.aH (a5 x))=some l'/\bL 32 l' v j ((bK.set k x).map a5)/\l'.length=l.length/\∀ b,b≠j->l'[b]? = l[b]?:=by
 generalize am:bK.map a5=es at h;cases h with
 | nil j=>rw[ay2] at am; subst am; simp at ar
 | aq j n cap sz cs es af al aC rf ah cZ c6=>
  subst am;have BR:bK.length=n:=by simpa using aC
  have et:j<l.length:=cd af;have bp:=dq ag;have ih:(k+1)*32<=n*32:=awX _ (by omega);have lj:n*32<=cap*32:=awX _ ah;have ak:(k+1)*32=k*32+32:=by rw[axw]
  obtain⟨f1,_⟩:=YM aw k (by omega) BR c6 (by omega);obtain⟨_,f2⟩:=YM aw (k+1) (by omega) BR c6 (by omega);refine⟨.ptr j (k*32) sz,l.set j (.cells sz (bf cs (k*32) (a5 x))),?_,?_,?_,by simp,fun b vf=>by rw[axg (fun h=>vf h.symm)]⟩
  ·simp[cN]; omega
  ·unfold mD;simp[af,U.cells,bp];omega
  ·refine .aq j n cap sz _ _ (axb et) (by rw[Al (by omega),bp]; omega) (by simp; omega) (fun e am=>?_) ah cZ ?_
   ·obtain⟨y,aI,rfl⟩:=axi.1 am;rcases ays aI with h | h
    ·exact dq (aw _ h)
    ·rw[h]; exact bp
   ·have lS:bK.set k x=bK.take k++(x::bK.drop (k+1)) :=by rw[ayk,if_pos ar]
    rw[lS,axc,axk,axO,axD,<-f1,<-f2];unfold bf;have t1:(cs.take (k*32)).length=k*32:=by rw[axd]; omega
    have CY:(cs.take (k*32)).take (n*32)=cs.take (k*32) :=awR (by rw[t1]; omega);have CZ:(a5 x).take (n*32 - k*32)=a5 x:=awR (by rw[bp]; omega);rw[axH,bp,<-ak,ayH,t1,CY,ayH,CZ,bp,show n*32 - k*32 - 32=n*32 - (k+1)*32 by omega]
theorem adK {fw l:ap} {v:U} {xs:List (List B)} {nl:Bool} (h:cJ 32 a5 fw l v xs nl) (ag:∀ x∈xs,x.length=32) (aC:xs.length<=1000000) {K:U->ap->Prop} (aY:∀ r l',cJ 32 a5 fw l' r (tn xs) nl->K r l') :
  c5 Tryz.prog GS 76 [v] l (c:=⟨K⟩) :=by
 apply bn Tryz.func76 [];have bA:=h.len;by_cases ae:xs.length<2
 ·have e5:(xs.length:Int)<2:=by omega
  have BE:tn xs=xs:=by
   unfold tn;rw[DF (awU _) (fun k ad aj=>by omega),axo]
  simp[bA,e5];exact aY _ _ (by rw[BE]; exact h)
 ·have e5:¬ (xs.length:Int)<2:=by omega
  simp[bA,e5];refine cl (xs.length - 1) (abS l v xs) ?_ ⟨by simp,by simp,rfl,fun j ad aj=>by omega⟩;rintro k σ l1 ar ⟨ck,a6,rfl,ak⟩;obtain⟨σ,rfl⟩:=rD ck a6;clear ck a6;obtain⟨m,hm⟩:∃ m,m=k+1:=⟨_,rfl⟩
  rw[<-hm] at ak ⊢;by_cases aL:m<xs.length
  ·have aS:IntKind.i64.wrap ((m:Int) - 1)=(k:Int) :=by rw[IntKind.wrap_i64]; omega
   have bt:IntKind.i64.wrap ((m:Int)+1)=((m+1:Nat) :Int) :=by rw[IntKind.wrap_i64]; omega
   have lh:(m:Int)<(xs.length:Int) :=by omega
   obtain⟨j,av,pa⟩:=h;obtain⟨iA,bS,jo,a8,bh,b6,eW⟩:=av.q.get (k:=.i64) (Jl aL);obtain⟨i0,b7,hB,cT,dw,ke,qB⟩:=av.q.get (k:=.i64) (Jl (a:=xs) (k:=k) (by omega));have kN:=N0 (ag _ (Ji aL)) (ag _ (Ji (a:=xs) (k:=k) (by omega)));obtain⟨X,cW⟩:∃ X,X=b2 xs m:=⟨_,rfl⟩
   obtain⟨Y,he⟩:∃ Y,Y=b2 xs k:=⟨_,rfl⟩
   rw[<-cW] at eW kN;rw[<-he] at qB kN;by_cases am:X=Y
   ·have vm:fz Tryz.prog .eql 61 (.aH (a5 X)) (.aH (a5 Y))=some (.bool true) :=by rw[kN,decide_eq_true am]
    have ao:cz v=false:=by
     cases Nh:cz v with
     | false=>rfl
     | true=>
      have:=lr.1 Nh;subst this;have:=av.q.OV;rw[ay2] at this;rw[this] at aL; simp at aL
    obtain⟨b4,c0,iC,_⟩:=av.q.from ao (k:=.i64) (i:=m) (by simp; omega);have aJ:qJ xs m=xs.take m:=DF (by omega) ak;have ad:qJ xs (m+1)=xs.take m:=by rw[DG,if_neg (fun h=>h.elim (fun aJ=>by omega) (fun ae=>ae (by rw[<-cW,show m - 1=k by omega,<-he]; exact am))),aJ,axr]
    simp[bA,lh,aS,a8,bh,b6,eW,cT,dw,ke,qB,vm,c0];refine cl (xs.length - m - 1) (abR l1 v b4 j xs m) ?_ ⟨by simp,by simp,by simp,m,xs,by simp,av,rfl,ag,ad.symm,by omega,fun t _=>rfl,rfl,fun b _=>rfl⟩;rintro i σ br ay ⟨ck,bi,bm,q,bK,a6,aN,fI,Fg,hx,vx,pd,ER,jy⟩;obtain⟨σ,rfl⟩:=ij ck a6 bi bm;clear ck a6 bi bm;obtain⟨cX,ag8⟩:∃ cX,cX=i+1:=⟨_,rfl⟩
    rw[<-ag8];obtain⟨sW,Ah,PS,_⟩:=aN.q.from ao (k:=.i64) (i:=m) (by simp; omega);rw[c0] at Ah;obtain rfl:=Option.some.inj Ah;have jk:=PS.len;rw[axP,aw1,fI] at jk;by_cases q6:cX<xs.length - m
    ·have IQ:(cX:Int)<((xs.length - m:Nat) :Int) :=by omega
     have bO:IntKind.i64.wrap ((cX:Int) - 1)=(i:Int) :=by rw[IntKind.wrap_i64]; omega
     have w2:IntKind.i64.wrap ((cX:Int)+1)=((cX+1:Nat) :Int) :=by rw[IntKind.wrap_i64]; omega
     have cY:IntKind.i64.wrap ((q:Int)+1)=((q+1:Nat) :Int) :=by rw[IntKind.wrap_i64]; omega
     obtain⟨z7,hR,p5,ka,jM,sY,rF⟩:=PS.get (k:=.i64) (i:=cX) (e:=a5 (b2 bK (m+cX))) (by rw[axv]; exact Jl (by omega));obtain⟨avI,go,kW,jq,rG,abC,QH⟩:=PS.get (k:=.i64) (i:=i) (e:=a5 (b2 bK (m+i))) (by rw[axv]; exact Jl (by omega));have re:=Fg _ (Ji (a:=bK) (k:=m+cX) (by omega));have rf:=Fg _ (Ji (a:=bK) (k:=m+i) (by omega));have bY:=zM re rf;have vB:=pd (m+cX) (by omega);have vC:=pd (m+i) (by omega);have bg:=DG xs (m+cX);rw[show m+cX - 1=m+i by omega] at bg;obtain⟨yM,af2⟩:∃ X,X=b2 bK (m+cX) :=⟨_,rfl⟩
     obtain⟨K2,Mv⟩:∃ Y,Y=b2 bK (m+i) :=⟨_,rfl⟩
     rw[<-af2] at rF bY re vB;rw[<-Mv] at QH bY vC;rw[<-vB,<-vC] at bg;rw[show m+i+1=m+cX by omega] at hx;by_cases vh:yM=K2
     ·have sg:fz Tryz.prog .neq 61 (.aH (a5 yM)) (.aH (a5 K2))=some (.bool false) :=by rw[bY]; simp[vh]
      rw[if_neg (fun h=>h.elim (fun aJ=>by omega) (fun ae=>ae vh)),axr] at bg;simp[jk,IQ,bO,ka,jM,sY,rF,jq,rG,abC,QH,sg,w2];exact⟨by omega,by simp,by simp,by simp,q,bK,by simp,aN,fI,Fg,by rw[bg]; exact hx,by omega,fun t aX=>pd t (by omega),ER,jy⟩
     ·have sg:fz Tryz.prog .neq 61 (.aH (a5 yM)) (.aH (a5 K2))=some (.bool true) :=by rw[bY]; simp[vh]
      rw[if_pos (.inr vh)] at bg;obtain⟨ama,gE,g1,gy,yA,abD,QI⟩:=aok aN Fg (k:=q) (x:=yM) (by omega) re;simp[jk,IQ,bO,ka,jM,sY,rF,jq,rG,abC,QH,sg,w2,cY,g1,gy];have apa:(bK.take q).length=q:=by rw[axd]; omega
      have ol:(bK.set q yM).take (q+1)=bK.take q++[yM] :=by
       rw[ayk,if_pos (by omega),ayH,apa,awR (by omega),show q+1 - q=1 by omega]; simp
      refine⟨by omega,by simp,by simp,by simp,q+1,bK.set q yM,by simp,yA,by simp[fI],fun y aI=>?_,by rw[ol,bg,hx],by omega,fun t aX=>?_,by omega,fun b af=>(QI b af).trans (jy b af)⟩
      ·rcases ays aI with h | h
       ·exact Fg _ h
       ·rw[h]; exact re
      ·have:=pd t (by omega);unfold b2 at this ⊢;rw[aw7,axg (by omega),<-aw7];exact this
    ·have IQ:¬ (cX:Int)<((xs.length - m:Nat) :Int) :=by omega
     obtain⟨fo,gE,r,g1,gy,yA,abD,QI,awN,aqC⟩:=adU aN (k:=q) (by omega);simp[jk,IQ,g1,gy,yA];obtain⟨aK,aW,a6,bi⟩:=pa;have zk:fw.length<=j:=a6.resolve_left (fun h=>by rw[h] at ao; cases ao);have xe:m+i+1=xs.length:=by omega
     rw[xe] at hx;refine aY _ _ ⟨j,by unfold tn; rw[<-hx]; exact abD,by omega,fun b af=>?_,.inr zk,by rw[QI,<-bi,ao]⟩;rw[aqC b (by omega),jy b (by omega)];exact aW b af
   ·have vm:fz Tryz.prog .eql 61 (.aH (a5 X)) (.aH (a5 Y))=some (.bool false) :=by rw[kN,decide_eq_false am]
    simp[bA,lh,aS,a8,bh,b6,eW,cT,dw,ke,qB,vm,bt];refine⟨by omega,by simp,by simp[hm],rfl,fun t ad ae=>?_⟩;by_cases aX:t=m
    ·rw[aX,<-cW,show m - 1=k by omega,<-he]; exact am
    ·exact ak t ad (by omega)
  ·have lh:¬ (m:Int)<(xs.length:Int) :=by omega
   have BE:tn xs=xs:=by
    unfold tn;rw[DF (awU _) (fun k ad aj=>ak k ad (by omega)),axo]
   simp[bA,lh];exact aY _ _ (by rw[BE]; exact h)
theorem anN {l:List (List B)} (h:dR l=true) :Am l=true:=by
 unfold dR at h;rw[decide_eq_true_eq] at h;exact aam fun k ar ad=>by
  have:=h k ar ad;have aD:=DC (b2 l k) (b2 l (k - 1));omega
theorem KH (o:bu) (av:jr o) :bw Tryz.prog GS 99 [.aH (bd o)] (.int .i64 (hC o)) :=by
 refine bQ Tryz.checked.mixed bj ?_;apply bn Tryz.func99 [[[0],[1],[2],[3],[4],[5],[6],[10],[11],[12],[7,11],[8,11],[9]]];unfold hC;have eb:=dd o.bo;have bA:cp (.aq 32) (aA o.bo)=some (.int .i64 o.bo.l.length) :=by simp[aA]
 have mg:(aA o.bo).cells=some [aA o.bo] :=by cases o.bo<;>rfl
 by_cases ad:4<o.bo.l.length
 ·have dX:(4:Int)<(o.bo.l.length:Int) :=by omega
  rw[if_pos ad];simp[bd,bA,dX];exact aU rfl rfl
 ·have dX:¬ (4:Int)<(o.bo.l.length:Int) :=by omega
  rw[if_neg ad];simp[bd,bA,dX];refine a7 (ajz o.bo av.ids av.len) (by simp[a4,eb,U.closed]) ?_;cases ae:Am o.bo.l with
  | false=>
   have aj:dR o.bo.l=false:=by
    cases aj:dR o.bo.l with
    | false=>rfl
    | true=>rw[anN aj] at ae; cases ae
   simp[aj,bA];exact aU rfl rfl
  | true=>
   simp[bA];refine W5 o.bo av.ids av.len fun cu l1 aK=>?_
   have af8:l1[0]? = some (.cells 11 (bd o)) :=by rw[aK.same 0 (by simp)]; rfl
   have Vl:=af8;simp[bd] at Vl;simp[Vl];refine adK aK av.ids av.len fun b4 br aW=>?_
   have eP:br[0]? = some (.cells 11 (bd o)) :=by rw[aW.same 0 (by simp)]; rfl
   have BA:=eP;simp[bd] at BA;have jk:=aW.len;have BE:=adW ae;cases aj:dR o.bo.l with
   | false=>
    have bY:¬ ((tn o.bo.l).length:Int)=(o.bo.l.length:Int) :=fun h=>by
     have:=BE.1 (by omega);rw[aj] at this; cases this
    simp[jk,BA,bA,bY];exact aU rfl rfl
   | true=>
    have heq:((tn o.bo.l).length:Int)=(o.bo.l.length:Int) :=by have:=BE.2 aj; omega
    simp[jk,BA,bA,heq];refine a7 (Od o.hq) rfl ?_;unfold u4;cases a2:gQ o.hq with
    | false=>
     simp;exact aU rfl rfl
    | true=>
     have bE:((1000000000000:Int)<u o.iD)<->¬ o.iD.toNat<=1000000000000:=by unfold u; omega
     by_cases bv:o.iD.toNat<=1000000000000
     ·have pJ:¬ ((1000000000000:Int)<u o.iD) :=fun h=>bE.1 h bv
      have zt:((500000003:Int)<=max (u o.e:Int) (u o.s))<->¬ (jQ o.e&&jQ o.s)=true:=by
       unfold jQ u;simp only[awZ,decide_eq_true_eq];omega
      have Wc:vS (bx o.e) (bx o.s)=some (.int .u32 (max (u o.e:Int) (u o.s))) :=by
       show (if IntKind.u32=IntKind.u32 then some (U.int .u32 (if (u o.e:Int)<u o.s then u o.s else u o.e)) else none)=_;rw[if_pos rfl];congr 2;split<;>omega
      cases dr:(jQ o.e&&jQ o.s) with
      | false=>
       have r5:(500000003:Int)<=max (u o.e:Int) (u o.s) :=zt.2 (by rw[dr]; simp);simp[BA,bv,pJ,Wc,r5];exact aU rfl rfl
      | true=>
       have r5:¬ (500000003:Int)<=max (u o.e:Int) (u o.s) :=fun h=>(zt.1 h) dr
       simp[BA,bv,pJ,Wc,r5];refine a7 (adp o.act) rfl ?_;cases gp:lG o.act with
       | false=>
        simp[ni];exact aU rfl rfl
       | true=>
        simp[ni];exact aU (by rw[if_pos bv]) rfl
     ·have pJ:(1000000000000:Int)<u o.iD:=bE.2 bv;simp[BA,bv,pJ];exact aU rfl rfl
theorem PT (a b:dk) (aE:ds a) (af:ds b) (al:a.l.length<=1000000) :bw Tryz.prog GS 21 [aA a,aA b] (.bool (decide (a.l=b.l))) :=by
 refine bQ Tryz.checked.mixed bj ?_;apply bn Tryz.func21 [];simp[aA];by_cases ad:a.l.length=b.l.length
 ·have dX:((a.l.length:Int)=b.l.length) :=by omega
  simp[ad];refine cl a.l.length (fun k σ l=>σ 0=cc 32 a5 a/\σ 1=cc 32 a5 b/\σ 5=.int .i64 k/\∀ j,j<k->a.l[j]? = b.l[j]?) ?_ (by simp[aA]);rintro k σ l ar ⟨ck,aK,bm,ak⟩;obtain⟨s,rfl⟩:=lC ck aK bm;clear ck aK bm;simp;refine nE (fun h=>?_) (fun h=>?_)
  ·simp only[decide_eq_true_eq] at h;obtain⟨x,ag,c3⟩:=bJ h;obtain⟨y,aI,en⟩:=bJ (l:=b.l) (k:=k) (by omega);have aS:IntKind.i64.wrap ((k:Int)+1)=((k+1:Nat) :Int) :=by rw[IntKind.wrap_i64]; omega
   simp[ag,aI,dq (aE x c3),dq (af y en),awR,zM (aE x c3) (af y en)];by_cases am:x=y
   ·simp[am,aS];refine⟨by omega,fun j ai=>?_⟩;by_cases fu:j=k
    ·subst fu; rw[ag,aI,am]
    ·exact ak j (by omega)
   ·simp[am];refine aU (congrArg U.bool (decide_eq_false fun gA=>am ?_).symm) rfl;rw[gA,aI] at ag; exact (Option.some.inj ag).symm
  ·simp[h];have se:k=a.l.length:=by simp at h; omega
   refine aU (congrArg U.bool (decide_eq_true ?_).symm) rfl;apply axE;intro j;by_cases ai:j<a.l.length
   ·exact ak j (by omega)
   ·rw[aw5 (by omega),aw5 (by omega)]
 ·have dX:¬ ((a.l.length:Int)=b.l.length) :=by omega
  simp[ad,dX];exact aU (by rw[decide_eq_false (fun gA=>ad (by rw[gA]))]) rfl
def nC (o:bu) :List B:=if hC o=0 then i2 (iZ o) else List.replicate 32 0#8
theorem z5 {o:bu} (h:hC o=0) :o.bo.l.length<=4:=by
 unfold hC at h;split at h
 ·cases h
 ·omega
theorem ZO {l:ap} {b n:Nat} {g0:List U} {k:Nat} {w:U} {kd:IntKind} (af:l[b]? = some (.cells n g0)) (aC:g0.length=n) (ar:g0[k]? = some w) :
  ∃ p cs o,cN (.aq 1) (.aq 1 b 0 n n n) (.int kd (k:Int))=some p/\hj l p=some (cs,o)/\cs[o]? = some w:=by
 have aL:k<n:=by rw[<-aC]; exact (awQ.1 ar).1
 refine⟨.ptr b (0+k*1) n,g0,0+k*1,?_,?_,by simpa using ar⟩
 ·simp only[cN,axq];rw[if_pos ⟨trivial,by omega,by omega⟩]
 ·simp only[hj,af,if_true]
theorem afn {n:Nat} (aC:n<=1000000000) {l:ap} {K:U->ap->Prop} (aY:∀ v l',cJ 1 cb l l' v ([] :List B) (decide (n=0))->K v l') :c5 Tryz.prog GS 153 [.aG,.int .i64 n] l (c:=⟨K⟩) :=by
 apply bn Tryz.func153 [];have ad:¬((n:Int)<0) :=by omega
 have aP:IntKind.i64.wrap (n:Int)=n:=wrap_i64 (by omega) (by omega);have vF:IntKind.i64.wrap (0:Int)=0:=rfl;by_cases aJ:n=0
 ·subst aJ;simp;exact aY _ _ cJ.nil
 have ae:(0:Int)<n:=by omega
 have aw:rV l 1 1 [.int .u8 0] .aG (.int .i64 n)=some (.aq 1 l.length 0 n n (n*1),l++[.cells (n*1) (dH [.int .u8 0] n)]) :=by
  unfold rV ja;simp only[axq];have az:ci=140737488355328:=rfl;rw[if_pos ⟨by omega,by omega,by rw[az]; omega⟩,if_neg aJ,if_neg (by omega),if_pos (by rw[az]; omega)]
 have ak:fm (.aq 1) (.aq 1 l.length 0 n n (n*1)) none (some (.int .i64 0)) none=some (.aq 1 l.length 0 0 n (n*1)) :=by
  rw[Gq,Lq,if_pos ⟨by omega,by omega⟩];simp[aJ]
 rw[ayt] at aw ak;have aj:0<n:=by omega
 simp[ad,ae,aj,aP,aw,vF,ak];refine aY _ (l++[.cells n (dH [.int .u8 0] n)]) ⟨l.length,.aq _ 0 n n (dH [.int .u8 0] n) [] (by simp) (by rw[Gd]; simp) rfl (by simp) (by omega) (by omega) rfl,by simp,fun b af=>awS af,.inr (awU _),?_⟩;simp[cz,aJ]
def jx (bs:List (List B)) :List B:=bs.flatten
theorem Uj {bs:List (List B)} {k:Nat} {s:List B} (h:bs[k]? = some s) :jx (bs.take (k+1))=jx (bs.take k)++s:=by
 unfold jx;rw[axe,h]; simp
theorem Ui (bs:List (List B)) (k:Nat) :(jx (bs.take k)).length<=(jx bs).length:=by
 conv=>rhs; rw[<-axX k bs]
 unfold jx;rw[axO,awW];omega
structure nP (l:ap) (w:U) (s:List B) :Prop where
 len:cp (.aq 1) w=some (.int .i64 s.length)
 TK:∀ l',l.length<=l'.length->(∀ b,b<l.length->l'[b]? = l[b]?)->de l' 1 w=some ((s.map cb).flatten,s.length)
theorem Cr {l l1:ap} {w:U} {s:List B} {nl:Bool} (h:cJ 1 cb l l1 w s nl) :nP l1 w s:=⟨h.len,fun l' ad ae=>(h.frame ad ae).contents⟩
theorem nP.frame {l l1:ap} {w:U} {s:List B} (h:nP l w s) (al:l.length<=l1.length) (ak:∀ b,b<l.length->l1[b]? = l[b]?) :nP l1 w s:=
 ⟨h.len,fun l' ad ae=>h.TK l' (by omega) fun b af=>by rw[ae b (by omega)]; exact ak b af⟩
theorem YO {l:ap} {b:Nat} {x:B} (h:l[b]? = some (.cells 1 [bC x])) :nP l (.aq 1 b 0 1 1 1) [x] :=by
 have:=cd h;exact⟨rfl,fun l' ad ae=>by have:=ae b this; rw[h] at this; simp[de,this,cb]⟩
structure abQ (l:ap) (X:U) (bs:List (List B)) (k:Nat) (σ:bc) (l1:ap) :Prop where
 u0:σ 25=X
 Bl:σ 26=.int .i64 bs.length
 Bm:σ 27=.int .i64 k
 ub:∃ v,σ 6=v/\cJ 1 cb l l1 v (jx (bs.take k)) (decide ((jx bs).length=0))
set_option maxHeartbeats 4000000 in
theorem TL {l:ap} {b n:Nat} {g0:List U} {bs:List (List B)} (af:l[b]? = some (.cells n g0)) (NT:g0.length=n) (pQ:bs.length=n)
  (au:∀ (k:Nat) (w:U) (s:List B),g0[k]? = some w->bs[k]? = some s->nP l w s) (al:(jx bs).length<=1000000000) (ER:n<=1000000000)
  {K:U->ap->Prop} (aY:∀ v l',cJ 1 cb l l' v (jx bs) (decide ((jx bs).length=0))->K v l') :
  c5 Tryz.prog GS 110 [.aq 1 b 0 n n n] l (c:=⟨K⟩) :=by
 apply bn Tryz.func110 [];have kj:=cd af;have cW:∀ l',l.length<=l'.length->(∀ b,b<l.length->l'[b]? = l[b]?)->∀ k,k<n->∃ w s p cs o,g0[k]? = some w/\bs[k]? = some s/\nP l' w s/\cN (.aq 1) (.aq 1 b 0 n n n) (.int .i64 (k:Int))=some p/\hj l' p=some (cs,o)/\cs[o]? = some w:=by
  intro l' ad ae k ar;obtain⟨w,aP,_⟩:=bJ (l:=g0) (k:=k) (by omega);obtain⟨s,ak,_⟩:=bJ (l:=bs) (k:=k) (by omega);obtain⟨p,cs,o,a8,bh,b6⟩:=ZO (kd:=.i64) (l:=l') (by rw[ae b kj]; exact af) NT aP;exact⟨w,s,p,cs,o,aP,ak,(au k w s aP ak).frame ad ae,a8,bh,b6⟩
 obtain⟨X,Vg⟩:∃ X,X=U.aq 1 b 0 n n n:=⟨_,rfl⟩
 have By:cp (.aq 1) X=some (.int .i64 bs.length) :=by rw[Vg,pQ]; rfl
 rw[<-Vg] at cW ⊢;simp[By];refine cl n (fun k σ l1=>σ 0=X/\σ 9=X/\σ 10=.int .i64 bs.length/\σ 11=.int .i64 k/\σ 3=.int .i64 (jx (bs.take k)).length/\l1=l) ?_ ?_
 ·rintro k σ l1 ar ⟨ck,g4,gg,ht,a6,rfl⟩;obtain⟨σ,rfl⟩:=k1 ck a6 g4 gg ht;clear ck a6 g4 gg ht;simp;by_cases h:k<bs.length
  ·obtain⟨w,s,p,cs,o,aP,ak,pV,a8,bh,b6⟩:=cW l1 (awU _) (fun _ _=>rfl) k (by omega);have EE:=Uj ak;have dN:=Ui bs (k+1);rw[EE,awW] at dN;have mT:IntKind.i64.wrap (((jx (bs.take k)).length:Int)+s.length)=((jx (bs.take k)).length:Int)+s.length:=wrap_i64 (by omega) (by omega);have dD:IntKind.i64.wrap ((k:Int)+1)=k+1:=wrap_i64 (by omega) (by omega);have kk:¬(((jx (bs.take k)).length:Int)+s.length<0) :=by omega
   have fv:=pV.len;simp[h,a8,bh,b6,fv,mT,kk,dD,EE];omega
  ·have bD:k=bs.length:=by omega
   subst bD;rw[axo];simp;refine afn al ?_;intro v l av;simp[By];refine cl bs.length (abQ l1 X bs) ?_ ⟨by simp,by simp,by simp,v,by simp,by simpa [jx] using av⟩;rintro k σ br ar ⟨u0,Bl,Bm,w,cD,av⟩;obtain⟨σ,rfl⟩:=ij cD u0 Bl Bm;clear cD u0 Bl Bm;simp;by_cases h:k<bs.length
   ·obtain⟨y,s,p,cs,o,aP,ak,pV,a8,bh,b6⟩:=cW br av.le av.same k (by omega);have EE:=Uj ak;have dN:=Ui bs (k+1);rw[EE,awW] at dN;have dD:IntKind.i64.wrap ((k:Int)+1)=k+1:=wrap_i64 (by omega) (by omega);have az:ci=140737488355328:=rfl;obtain⟨v',gE,cT,dw,ke⟩:=av.app (by_:=1) (x:=y) (xs:=s) (pV.TK br (awU _) fun _ _=>rfl) (by simp[cb]) (by omega) (by omega) (by rw[az]; omega);simp[h,a8,bh,b6,cT];refine cU.b1 ?_;simp[h,dD];refine⟨by simp,by simp,by simp,v',by simp,?_⟩;rw[EE];have km:(decide ((jx bs).length=0)&&s.isEmpty)=decide ((jx bs).length=0) :=by
     by_cases am:(jx bs).length=0
     ·have:s=[] :=axF.1 (by omega);simp[am,this]
     ·simp[am]
    rw[km] at dw;exact dw
   ·have bD:k=bs.length:=by omega
    subst bD;simp;rw[axo] at av;exact aY _ _ av
 ·simp[jx]
def hQ (o:bu) :bu:={ o with e:=0#32,s:=0#32 }
theorem abk (o:bu) (av:jr o) (ar:hC (hQ o)=0) {l:ap} {K:U->ap->Prop} (aY:∀ w l',cJ 1 cb l l' w (ly o) false->K (.bq [w,.int .i64 0]) l') :
  c5 Tryz.prog GS 82 [.aH (bd o)] l (c:=⟨K⟩) :=by
 apply bn Tryz.func82 [[[0],[1],[2],[3],[5],[6],[7],[9],[10],[11],[12],[4,12,11,7,0],[8,12,11,0]]];have az:ci=140737488355328:=rfl;have tF:=iM o.hq.toNat
 have tH:=iM o.iD.toNat
 have fv:=FI av.ids;have fC:jr (hQ o) :=⟨av.ids,av.len,av.val,av.key⟩
 have fc:=KH (hQ o) fC;rw[ar] at fc;have sf:o.bo.l.length<=4:=z5 (o:=hQ o) ar;have I6:dR o.bo.l=true:=by
  unfold hC at ar;have aS:(hQ o).bo=o.bo:=rfl;rw[aS,if_neg (by omega)] at ar;cases aj:dR o.bo.l with
  | true=>rfl
  | false=>rw[aj] at ar; cases ar
 have NH:(BitVec.setWidth 64 o.hq).toNat=o.hq.toNat:=by rw[aw9]; exact aw2 (by have:=o.hq.isLt; omega)
 have agv:=mK (hQ o);have aL:l.length<(l++[aV.cells 11 (bd (hQ o))]).length:=by simp
 have eP:(l++[aV.cells 11 (bd (hQ o))])[l.length]? = some (.cells 11 (bd (hQ o))) :=by simp
 simp[bd];refine a7 fc (show a4 [U.aH (bd (hQ o))]=true by simp[a4,U.closed,agv]) ?_;simp;refine ap6 o.bo av.ids (by omega) I6 fun bO l1 ad=>?_
 have q9:l1[l.length]? = some (.cells 11 (bd (hQ o))) :=by rw[ad.same _ aL]; exact eP
 have q5:l.length<l1.length:=by have:=ad.le; simp at this; omega
 have zA:=q9;simp[bd,hQ] at zA;have E3:(l1++[aV.cells 1 [U.int .u8 111]])[l.length]? = some (.cells 11 (bd (hQ o))) :=by rw[awS q5]; exact q9
 have as9:l.length<(l1++[aV.cells 1 [U.int .u8 111]]).length:=by simp; omega
 have Wz:=E3;simp[bd,hQ] at Wz;simp[Wz];have aic:(l1++[aV.cells 1 [U.int .u8 111],aV.cells 1 [U.int .u8 (u o.act.kind)]])[l.length]? = some (.cells 11 (bd (hQ o))) :=by rw[awS q5]; exact q9
 have ah9:(l1++[aV.cells 1 [U.int .u8 111],aV.cells 1 [U.int .u8 (u o.act.kind)]])[l1.length]? = some (.cells 1 [.int .u8 111]) :=by simp
 have vx:(l1++[aV.cells 1 [U.int .u8 111],aV.cells 1 [U.int .u8 (u o.act.kind)]])[l1.length+1]? = some (.cells 1 [.int .u8 (u o.act.kind)]) :=by simp
 have tv:(l1++[aV.cells 1 [U.int .u8 111],aV.cells 1 [U.int .u8 (u o.act.kind)]]).length=l1.length+2:=by simp
 refine Ax _ fun w2 br ae=>?_
 rw[NH] at ae;have BO:=ae.le;rw[tv] at BO;have mS:br[l.length]? = some (.cells 11 (bd (hQ o))) :=by rw[ae.same _ (by rw[tv]; omega)]; exact aic
 have UO:br[l1.length]? = some (.cells 1 [.int .u8 111]) :=by rw[ae.same _ (by rw[tv]; omega)]; exact ah9
 have UP:br[l1.length+1]? = some (.cells 1 [.int .u8 (u o.act.kind)]) :=by rw[ae.same _ (by rw[tv]; omega)]; exact vx
 have si:=mS;simp[bd,hQ] at si;simp[si,UO,UP];refine Ax _ fun cY gE aj=>?_
 have V8:=aj.le;have cQ:gE[l.length]? = some (.cells 11 (bd (hQ o))) :=by rw[aj.same _ (by omega)]; exact mS
 have UQ:gE[l1.length]? = some (.cells 1 [.int .u8 111]) :=by rw[aj.same _ (by omega)]; exact UO
 have UR:gE[l1.length+1]? = some (.cells 1 [.int .u8 (u o.act.kind)]) :=by rw[aj.same _ (by omega)]; exact UP
 have xk:=cQ;simp[bd,hQ] at xk;simp[xk,UQ,UR,ad.cells,ae.cells,aj.cells,bf];obtain⟨L,eN⟩:∃ L,L=gE++[aV.cells 5 [.aq 1 l1.length 0 1 1 1,w2,bO,cY,.aq 1 (l1.length+1) 0 1 1 1]] :=⟨_,rfl⟩
 have y7:gE.length<=L.length:=by rw[eN]; simp
 have qV:∀ b,b<gE.length->L[b]? = gE[b]?:=fun b af=>by rw[eN,awS af]
 have Mm:L[gE.length]? = some (.cells 5 [.aq 1 l1.length 0 1 1 1,w2,bO,cY,.aq 1 (l1.length+1) 0 1 1 1]) :=by rw[eN]; simp
 rw[<-eN];have KV:nP L (.aq 1 l1.length 0 1 1 1) [111#8] :=YO (by rw[qV _ (by omega)]; exact UQ);have ab7:nP L (.aq 1 (l1.length+1) 0 1 1 1) [o.act.kind] :=YO (by rw[qV _ (by omega)]; exact UR);have KW:nP L w2 (eD o.hq.toNat) :=((Cr ae).frame V8 aj.same).frame y7 qV;have s9:nP L bO (sy o.bo.l) :=((((Cr ad).frame (l1:=l1++[aV.cells 1 [U.int .u8 111],aV.cells 1 [U.int .u8 (u o.act.kind)]]) (by rw[tv]; omega) (fun b af=>awS af)).frame (by rw[tv]; exact BO) ae.same).frame V8 aj.same).frame y7 qV;have ab6:nP L cY (eD o.iD.toNat) :=(Cr aj).frame y7 qV;have Ws:L[l.length]? = some (.cells 11 (bd (hQ o))) :=by rw[qV _ (by omega)]; exact cQ
 obtain⟨M,je⟩:∃ M,M=jx [[111#8],eD o.hq.toNat,sy o.bo.l,eD o.iD.toNat,[o.act.kind]] :=⟨_,rfl⟩
 have Mp:M=[111#8]++eD o.hq.toNat++sy o.bo.l++eD o.iD.toNat++[o.act.kind] :=by rw[je]; simp[jx]
 have afR:M.length<=40000:=by rw[Mp]; simp only[awW,axa,axB]; omega
 have Mn:M.length≠0:=by rw[Mp]; simp
 refine TL (bs:=[[111#8],eD o.hq.toNat,sy o.bo.l,eD o.iD.toNat,[o.act.kind]]) Mm rfl rfl ?_ (by rw[<-je]; omega) (by omega) fun Aw p3 aD=>?_
 ·intro k w s aP ak;rcases k with _ | _ | _ | _ | _ | k
  ·obtain rfl:=Option.some.inj aP; obtain rfl:=Option.some.inj ak; exact KV
  ·obtain rfl:=Option.some.inj aP; obtain rfl:=Option.some.inj ak; exact KW
  ·obtain rfl:=Option.some.inj aP; obtain rfl:=Option.some.inj ak; exact s9
  ·obtain rfl:=Option.some.inj aP; obtain rfl:=Option.some.inj ak; exact ab6
  ·obtain rfl:=Option.some.inj aP; obtain rfl:=Option.some.inj ak; exact ab7
  ·cases aP
 rw[<-je,decide_eq_false Mn] at aD;have afP:l.length<=L.length:=by omega
 have pI:cJ 1 cb l p3 Aw M false:=aD.base afP fun b af=>by
  have gq:b<l1.length:=by omega
  rw[qV b (by omega),aj.same b (by omega),ae.same b (by rw[tv]; omega),awS gq,ad.same b (by simp; omega),awS af]
 have I1:p3[l.length]? = some (.cells 11 (bd (hQ o))) :=by rw[aD.same _ (by omega)]; exact Ws
 have ahA:l.length<p3.length:=cd I1;have BU:=I1;simp[bd,hQ] at BU;have ew:ly o=M++(if o.act.kind=1#8 then [] else jK (fx o.act.key))++(if o.act.kind=4#8 then jL o.act.val else []) :=by rw[Mp]; rfl
 have ln:=CW (fx o.act.key);rw[rz] at ln;have M3:=av.key;have kp:=GF o.act.val;have Fc:=av.val.2.2;have ah:wY (.str o.act.key)=some (.a1 1 ((fx o.act.key).map cb)) :=by
  show some (U.a1 1 (o.act.key.map fun b=>[jP b]))=_;rw[Ku]
 by_cases bS:o.act.kind=1#8
 ·have aS:(u o.act.kind:Int)=1:=(i4 o.act.kind).2 bS;have go:¬ o.act.kind=4#8:=by rw[bS]; decide
  rw[if_pos bS,if_neg go,axr,axr] at ew;simp[BU,aS];exact aY _ _ (by rw[ew]; exact pI)
 ·have aS:¬ (u o.act.kind:Int)=1:=fun h=>bS ((i4 o.act.kind).1 h)
  rw[if_neg bS] at ew;simp[BU,aS,ah];refine abi (some (fx o.act.key)) (by simpa [rz] using M3) (by simp[de]) (by simp) (fun l' _ _=>by simp[de]) fun KF my gp=>?_
  obtain⟨apZ,Ox,G9,th,_⟩:=(pI.frame gp.le gp.same).app (by_:=1) (x:=KF) (xs:=jK (fx o.act.key)) gp.contents (by simp[cb]) (by omega) (by omega) (by rw[az]; omega);have acy:=(aD.frame gp.le gp.same).app (by_:=1) (x:=KF) (xs:=jK (fx o.act.key)) gp.contents (by simp[cb]) (by omega) (by omega) (by rw[az]; omega);obtain⟨awL,auJ,QX,ada,_⟩:=acy;rw[G9] at QX;obtain⟨rfl,rfl⟩:=Prod.mk.inj (Option.some.inj QX);have Nq:Ox[l.length]? = some (.cells 11 (bd (hQ o))) :=by rw[ada.same _ (by omega)]; exact Ws
  have zB:=Nq;simp[bd,hQ] at zB;simp[G9];refine cU.b1 ?_;simp only[azf] at th;by_cases go:o.act.kind=4#8
  ·have kG:(u o.act.kind:Int)=4:=(yn o.act.kind).2 go;rw[if_pos go] at ew;have xb:lG o.act=true:=by
    cases h:lG o.act with
    | true=>rfl
    | false=>
     unfold hC at ar;have bt:(hQ o).bo=o.bo:=rfl;have er:(hQ o).act=o.act:=rfl;rw[bt,if_neg (by omega),I6,if_pos rfl] at ar;unfold u4 at ar;rw[er,h] at ar;simp at ar
   rw[Dh go,awZ] at xb;simp[zB,kG];refine aqa o.act.val av.val xb.2 fun Qx aj6 lK=>?_
   obtain⟨apY,aj7,K3,Lg,_⟩:=(th.frame lK.le lK.same).app (by_:=1) (x:=Qx) (xs:=jL o.act.val) lK.contents (by simp[cb]) (by omega) (by omega) (by rw[az]; simp only[awW]; omega);simp[K3];refine cU.b1 ?_;simp;exact aY _ _ (by rw[ew]; exact Lg)
  ·have kG:¬ (u o.act.kind:Int)=4:=fun h=>go ((yn o.act.kind).1 h)
   rw[if_neg go,axr] at ew;simp[zB,kG];exact aY _ _ (by rw[ew]; exact th)
theorem Rs {o:bu} (h:hC o=0) :hC (hQ o)=0:=by
 unfold hC at h ⊢;have aS:(hQ o).bo=o.bo:=rfl;rw[aS];have ax:u4 o=true->u4 (hQ o)=true:=by
  unfold u4 hQ;simp only[awZ];rintro⟨a,b,c,d,e⟩;exact⟨a,b,c,by decide,by decide⟩
 split at h
 ·cases h
 ·rename_i ad;rw[if_neg ad];split at h
  ·rename_i ae;rw[if_pos ae];split at h
   ·rename_i aj;rw[if_pos (ax aj)]
   ·cases h
  ·cases h
theorem aeE {o:bu} (h:hC o=0) :lG o.act=true:=by
 unfold hC at h;split at h
 ·cases h
 ·split at h
  ·split at h
   ·rename_i aj;unfold u4 at aj;simp only[awZ] at aj;exact aj.2.2.1
   ·cases h
  ·cases h
theorem Ot {s:List UInt8} (h:j5 s=true) :s.length<=20:=by
 unfold j5 at h;simp only[awZ,decide_eq_true_eq] at h;omega
theorem Ua {o:bu} (av:jr o) (h:hC o=0) :(iZ o).length<=1000:=by
 have ad:=iM o.hq.toNat
 have ae:=iM o.iD.toNat
 have aj:=FI av.ids;have aD:=CW (fx o.act.key);rw[rz] at aD;have bv:=GF o.act.val;have au:=z5 h;have am:=iM o.e.toNat
 have ak:=iM o.s.toNat
 have aE:=aeE h;have aK:(if o.act.kind=1#8 then [] else jK (fx o.act.key)).length<=100:=by
  split
  ·simp
  ·rename_i bS;have:o.act.key.length<=20:=by
    by_cases b7:o.act.kind=2#8
    ·rw[K5 b7,awZ] at aE; exact Ot aE.1
    ·by_cases hR:o.act.kind=3#8
     ·rw[K6 hR,awZ] at aE; exact Ot aE.1
     ·by_cases go:o.act.kind=4#8
      ·rw[Dh go,awZ] at aE; exact Ot aE.1
      ·rw[K7 bS b7 hR go] at aE; cases aE
   omega
 have aW:(if o.act.kind=4#8 then jL o.act.val else []).length<=100:=by
  split
  ·rename_i go;rw[Dh go,awZ] at aE;have ao:=aE.2;have:o.act.val.text.length<=30:=by
    by_cases bZ:o.act.val.kind=1#8
    ·rw[Qs bZ] at ao;simp only[awZ,decide_eq_true_eq] at ao;rw[ao.2]; simp
    ·by_cases ce:o.act.val.kind=2#8
     ·rw[Qt ce] at ao;simp only[awZ,decide_eq_true_eq] at ao;rw[ao.2.2]; simp
     ·by_cases eB:o.act.val.kind=3#8
      ·by_cases al:o.act.val.text.length<=30
       ·exact al
       ·rw[aa9 eB] at ao;unfold ut at ao;rw[if_neg al] at ao;simp only[awZ,decide_eq_true_eq,yB] at ao;have:=ao.1;rw[eB] at this;exact absurd this (by decide)
      ·rw[Qu bZ ce eB] at ao; cases ao
   omega
  ·simp
 unfold iZ ly opHead;simp only[awW,axa,axB];omega
theorem ap3 (o:bu) (av:jr o) (ar:hC o=0) {l:ap} {K:U->ap->Prop} (aY:∀ w l',cJ 1 cb l l' w (iZ o) false->K (.bq [w,.int .i64 0]) l') :
  c5 Tryz.prog GS 84 [.aH (bd o)] l (c:=⟨K⟩) :=by
 apply bn Tryz.func84 [[[0],[1],[2],[3],[4],[6],[7],[8],[9],[5,9,8]]];have fc:=KH o av;rw[ar] at fc;have eb:=mK o;have kR:=Ua av ar;have mo:(BitVec.setWidth 64 o.e).toNat=o.e.toNat:=by rw[aw9]; exact aw2 (by have:=o.e.isLt; omega)
 have sp:(BitVec.setWidth 64 o.s).toNat=o.s.toNat:=by rw[aw9]; exact aw2 (by have:=o.s.isLt; omega)
 have aL:l.length<(l++[aV.cells 11 (bd o)]).length:=by simp
 have eP:(l++[aV.cells 11 (bd o)])[l.length]? = some (.cells 11 (bd o)) :=by simp
 simp[bd];refine a7 fc (show a4 [U.aH (bd o)]=true by simp[a4,U.closed,eb]) ?_;simp;refine abk o av (Rs ar) fun bO l1 ad=>?_
 have q9:l1[l.length]? = some (.cells 11 (bd o)) :=by rw[ad.same _ aL]; exact eP
 have q5:l.length<l1.length:=cd q9;have zA:=q9;simp[bd] at zA;simp[zA];refine Ax _ fun w2 br ae=>?_
 rw[mo] at ae;have mS:br[l.length]? = some (.cells 11 (bd o)) :=by rw[ae.same _ q5]; exact q9
 have si:=mS;simp[bd] at si;simp[si];refine Ax _ fun cY gE aj=>?_
 rw[sp] at aj;simp[ad.cells,ae.cells,aj.cells,bf];obtain⟨L,eN⟩:∃ L,L=gE++[aV.cells 3 [bO,w2,cY]] :=⟨_,rfl⟩
 have y7:gE.length<=L.length:=by rw[eN]; simp
 have qV:∀ b,b<gE.length->L[b]? = gE[b]?:=fun b af=>by rw[eN,awS af]
 have Mm:L[gE.length]? = some (.cells 3 [bO,w2,cY]) :=by rw[eN]; simp
 rw[<-eN];have KV:nP L bO (ly o) :=(((Cr ad).frame ae.le ae.same).frame aj.le aj.same).frame y7 qV;have KW:nP L w2 (eD o.e.toNat) :=((Cr ae).frame aj.le aj.same).frame y7 qV;have s9:nP L cY (eD o.s.toNat) :=(Cr aj).frame y7 qV;have je:jx [ly o,eD o.e.toNat,eD o.s.toNat]=iZ o:=by simp[jx,iZ]
 have Mn:(iZ o).length≠0:=by unfold iZ ly opHead; simp
 refine TL (bs:=[ly o,eD o.e.toNat,eD o.s.toNat]) Mm rfl rfl ?_ (by rw[je]; omega) (by omega) fun Aw p3 aD=>?_
 ·intro k w s aP ak;rcases k with _ | _ | _ | k
  ·obtain rfl:=Option.some.inj aP; obtain rfl:=Option.some.inj ak; exact KV
  ·obtain rfl:=Option.some.inj aP; obtain rfl:=Option.some.inj ak; exact KW
  ·obtain rfl:=Option.some.inj aP; obtain rfl:=Option.some.inj ak; exact s9
  ·cases aP
 rw[je,decide_eq_false Mn] at aD;simp;refine aY _ _ (aD.base ?_ fun b af=>?_)
 ·have:=ae.le; have:=aj.le; omega
 ·have:=ae.le; have:=aj.le;rw[qV b (by omega),aj.same b (by omega),ae.same b (by omega),ad.same b (by simp; omega),awS af]
theorem ap2 (o:bu) (av:jr o) (ar:¬ hC o=0) :bw Tryz.prog GS 84 [.aH (bd o)] (.bq [.aG,.int .i64 (hC o)]) :=by
 refine bQ Tryz.checked.mixed bj ?_;apply bn Tryz.func84 [[[0],[1],[2],[3],[4],[6],[7],[8],[9],[5,9,8]]];have fc:=KH o av;have eb:=mK o;obtain⟨E,dh⟩:∃ E,E=bd o:=⟨_,rfl⟩
 have r6:E.length=11:=by rw[dh]; rfl
 rw[<-dh] at fc eb ⊢;simp[r6,awR];refine a7 fc (by simp[a4,U.closed,eb]) ?_;simp[ar];exact aU rfl rfl
theorem ap5 (o:bu) (av:jr o) :bw Tryz.prog GS 55 [.aH (bd o)] (.bq [gP (nC o),.int .i64 (hC o)]) :=by
 refine bQ Tryz.checked.mixed bj ?_;apply bn Tryz.func55 [];unfold nC;have eb:=mK o;have aw:(rep 32 (.int .u8 0) :List U)=(List.replicate 32 0#8).map bC:=by simp[rep]
 obtain⟨E,dh⟩:∃ E,E=bd o:=⟨_,rfl⟩
 have r6:E.length=11:=by rw[dh]; rfl
 by_cases aJ:hC o=0
 ·have kR:=Ua av aJ;have bW:(i2 (iZ o)).length=32:=ye _;rw[<-dh];simp[r6,awR];rw[dh];refine ap3 o av aJ fun bO l1 ad=>?_
  rw[<-dh] at ad;have eP:l1[1]? = some (.cells 32 (rep 32 (.int .u8 0))) :=by rw[ad.same 1 (by simp)]; rfl
  simp;refine mA (aaD (some (iZ o)) (by simp; omega)) (.cons (ad.uk (fun _=>rfl) (some (iZ o)) rfl rfl) .nil) (by simp[U.flat,mL,gP,Bg bC (fun _=>rfl)]) ?_;have zF:bf (rep 32 (.int .u8 0)) 0 ((i2 (iZ o)).map bC)=(i2 (iZ o)).map bC:=gw (by rw[aw1,bW]; rfl);have lS:(l1.set 1 (aV.cells 32 ((i2 (iZ o)).map bC)))[1]? = some (.cells 32 ((i2 (iZ o)).map bC)) :=axb (cd eP);simp[eP,gP,bW,zF,lS,awR];exact aU (by rw[if_pos aJ,aJ]) (by simp[U.closed,a4,ng bC (fun _=>rfl)])
 ·have nt:=ap2 o av aJ;rw[<-dh] at nt eb ⊢;simp[r6,awR];refine a7 nt (by simp[a4,U.closed,eb]) ?_;simp[aJ,gP,aw];exact aU rfl (by simp only[U.closed,a4,ng bC (fun _=>rfl),ayL])
end Op

end Go.bV

namespace Go.bV
open Go Go.Proofs Go.RowKit
set_option maxRecDepth 100000
namespace Op
open hp
theorem aa0 {P:Program} {t:TypeId} {ts:List TypeId} {cs:List U} (aM:P.underlying t=some .string) (h:dv P (t::ts) cs) :∃ s cs',cs=.str s::cs'/\dv P ts cs':=by
 cases h
 case str s cs' ak pZ h=>exact⟨_,_,rfl,h⟩
 all_goals (exfalso; simp_all; done)
theorem aa2 {ts:List TypeId} {cs:List U} (h:dv Tryz.prog (5::ts) cs) :∃ (x:B) (cs' : List U),cs=bC x::cs'/\dv Tryz.prog ts cs':=by
 obtain⟨k,qI,rfl,ad,ae,aj⟩:=uw (k:=.u8) (by kernel_rfl) h;have a2:(0:Int)<=k:=ad;have bv:k<=255:=ae;refine⟨BitVec.ofNat 8 k.toNat,qI,?_,aj⟩;have:((BitVec.ofNat 8 k.toNat).toNat:Int)=k:=by
  rw[axf,aw2 (by omega)]; omega
 simp[bC,u]; omega
theorem apt {ts:List TypeId} {cs:List U} (h:dv Tryz.prog (61::ts) cs) :∃ (x:List B) (cs' : List U),cs=x.map bC++cs'/\x.length=32/\dv Tryz.prog ts cs':=by
 have ad:=Qm (e:=5) (n:=32) (by kernel_rfl) h;exact Qn (by kernel_rfl) 32 ad
theorem Ar {ts:List TypeId} {cs:List U} (h:dv Tryz.prog (23::ts) cs) :∃ (s:dk) (cs' : List U),cs=aA s::cs'/\ds s/\dv Tryz.prog ts cs':=by
 obtain⟨s,cs',rfl,_,ad,ae⟩:=Gy (e:=61) (z:=32) (enc:=a5) (Q:=fun x=>x.length=32) (by kernel_rfl) (by kernel_rfl) (fun r az=>by
  obtain⟨x,cs',rfl,ag,aj⟩:=apt az;rw[As aj,axr];exact⟨x,rfl,ag⟩) h
 exact⟨s,cs',rfl,ad,ae⟩
theorem Qo {ts:List TypeId} {cs:List U} (h:dv Tryz.prog (85::ts) cs) :∃ (x:D) (cs' : List U),cs=bx x::cs'/\dv Tryz.prog ts cs':=by
 obtain⟨k,qI,rfl,ad,ae,aj⟩:=uw (k:=.u32) (by kernel_rfl) h;have a2:(0:Int)<=k:=ad;have bv:k<=4294967295:=ae;refine⟨BitVec.ofNat 32 k.toNat,qI,?_,aj⟩;have:((BitVec.ofNat 32 k.toNat).toNat:Int)=k:=by
  rw[axf,aw2 (by omega)]; omega
 simp[bx,u]; omega
structure KZ (o:bu) :Prop where
 ids:ds o.bo
 jn:-9223372036854775808<=o.act.val.num
 rj:o.act.val.num<9223372036854775808
theorem apx {ts:List TypeId} {cs:List U} (h:dv Tryz.prog (88::ts) cs) :∃ (v:i9) (cs' : List U),cs=[bC v.kind,.int .i64 v.num,ea v.bits,.str v.text]++cs'/\(-9223372036854775808<=v.num/\v.num<9223372036854775808)/\dv Tryz.prog ts cs':=by
 have ad:=At (fs:=[5,2,86,9]) (by kernel_rfl) h;obtain⟨k,_,rfl,ae⟩:=aa2 ad;obtain⟨n,_,rfl,pS,vt,aj⟩:=uw (k:=.i64) (by kernel_rfl) ae;obtain⟨b,_,rfl,aD⟩:=aa1 aj;obtain⟨s,_,rfl,a2⟩:=aa0 (by kernel_rfl) aD;have bv:n<=9223372036854775807:=vt;exact⟨⟨k,n,b,s⟩,_,rfl,⟨pS,by show n<9223372036854775808; omega⟩,a2⟩
theorem apq {ts:List TypeId} {cs:List U} (h:dv Tryz.prog (90::ts) cs) :∃ (a:Act) (cs' : List U),cs=[bC a.kind,.str a.key,bC a.val.kind,.int .i64 a.val.num,ea a.val.bits,.str a.val.text]++cs'/\(-9223372036854775808<=a.val.num/\a.val.num<9223372036854775808)/\dv Tryz.prog ts cs':=by
 have ad:=At (fs:=[5,9,88]) (by kernel_rfl) h;obtain⟨k,_,rfl,ae⟩:=aa2 ad;obtain⟨s,_,rfl,aj⟩:=aa0 (by kernel_rfl) ae;obtain⟨v,_,rfl,ao,aD⟩:=apx aj;exact⟨⟨k,s,v⟩,_,rfl,ao,aD⟩
theorem apv {ts:List TypeId} {cs:List U} (h:dv Tryz.prog (94::ts) cs) :∃ (o:bu) (cs' : List U),cs=bd o++cs'/\KZ o/\dv Tryz.prog ts cs':=by
 have ad:=At (fs:=[85,23,86,90,92]) (by kernel_rfl) h;obtain⟨a,_,rfl,ae⟩:=Qo ad;obtain⟨p,_,rfl,au,aj⟩:=Ar ae;obtain⟨n,_,rfl,aD⟩:=aa1 aj;obtain⟨c,_,rfl,ah,a2⟩:=apq aD;have bv:=At (fs:=[85,85]) (by kernel_rfl) a2;obtain⟨x,_,rfl,dr⟩:=Qo bv;obtain⟨y,cs',rfl,gp⟩:=Qo dr;exact⟨⟨a,p,n,c,x,y⟩,cs',by simp[bd],⟨au,ah.1,ah.2⟩,gp⟩
theorem apk {ts:List TypeId} {cs:List U} (h:js Tryz.prog (23::ts) cs) :∃ (s:dk) (cs' : List U),cs=aA s::cs'/\ds s/\js Tryz.prog ts cs':=by
 obtain⟨c,cs',rfl,ad,ae⟩:=CX h;obtain⟨s,qI,ak,av,aj⟩:=Ar (Gx (by kernel_rfl) ad);cases ak;exact⟨s,cs',rfl,av,ae⟩
end Op

end Go.bV

namespace Go.bV
open Go Go.Proofs
set_option maxRecDepth 100000
open hp Op
def Cx (a n:Nat) :Nat->Nat
 | 0=>1
 | k+1=>match Nat.beq (n / 2 ^ (63 - k) % 2) 1 with
  | true=>((Cx a n k) ^ 2 % 1000000007)*a % 1000000007
  | false=>(Cx a n k) ^ 2 % 1000000007
theorem Pg (a n:Nat) (aC:n<2 ^ 64) :∀ k,k<=64->Cx a n k=ga a (n / 2 ^ (64 - k))
 | 0,_=>by
  have:n / 2 ^ (64 - 0)=0:=azJ aC;rw[this]; rfl
 | k+1,ar=>by
  have aR:=Pg a n aC k (by omega);have af:=Vi n k (by omega);have e:64 - (k+1)=63 - k:=by omega
  rw[e];unfold Cx;rw[aR,Nat.pow_two,YX];split
  ·rename_i h;have ad:=axt h;rw[YV,af,ad]
  ·rename_i h;have ad:n / 2 ^ (63 - k) % 2≠1:=fun aT=>by rw[aT] at h; cases h
   rw[af];congr 1; omega
def YU:List U->Option U
 | [.int .u32 x,.int .u64 n]=>match decide (0<=x)&&(decide (x<4294967296)&&(decide (0<=n)&&decide (n<18446744073709551616))) with
  | true=>some (.int .u32 ((Cx x.toNat n.toNat 64:Nat) :Int))
  | false=>none
 | _=>none
abbrev pp:FuncId × Bool × (List U->Option U) :=(151,false,YU)
theorem qb:uG Tryz.prog GS pp:=by
 intro args r h;refine⟨?_,fun h=>by cases h⟩;simp only[YU] at h;split at h
 ·rename_i x n;split at h
  ·rename_i ah;cases h;simp only[awZ,decide_eq_true_eq] at ah;obtain⟨ad,ae,aj,aD⟩:=ah;have ag:(U.int .u32 x)=bx (BitVec.ofNat 32 x.toNat) :=by
    have:((BitVec.ofNat 32 x.toNat).toNat:Int)=x:=by
     rw[axf,aw2 (by omega)]; omega
    simp[bx,u]; omega
   have aC:(U.int .u64 n)=ea (BitVec.ofNat 64 n.toNat) :=by
    have:((BitVec.ofNat 64 n.toNat).toNat:Int)=n:=by
     rw[axf,aw2 (by omega)]; omega
    simp[ea,u]; omega
   have au:=JX (BitVec.ofNat 32 x.toNat) (BitVec.ofNat 64 n.toNat);have az:bx (hi (BitVec.ofNat 32 x.toNat) (BitVec.ofNat 64 n.toNat).toNat)=.int .u32 ((Cx x.toNat n.toNat 64:Nat) :Int) :=by
    have aS:(BitVec.ofNat 32 x.toNat).toNat=x.toNat:=by rw[axf,aw2 (by omega)]
    have bt:(BitVec.ofNat 64 n.toNat).toNat=n.toNat:=by rw[axf,aw2 (by omega)]
    show U.int .u32 (u _)=_;unfold u;rw[sN,aS,bt,Pg _ _ (by omega) 64 (awU _)];simp
   rw[ag,aC,<-az];exact au
  ·cases h
 ·cases h
def Jy:List (List U)->Option (List eS)
 | []=>some []
 | [c] ::r=>match Hn c with
  | some s=>match Nat.ble s.l.length 10000 with
   | true=>match Jy r with | some l=>some (s::l) | none=>none
   | false=>none
  | none=>none
 | _=>none
theorem X1:∀ {es:List (List U)} {l:List eS},Jy es=some l->(es=l.map fun s=>[cF s])/\∀ s∈l,s.l.length<=10000
 | [],l,h=>by cases h; exact⟨rfl,fun s ak=>by cases ak⟩
 | e::r,l,h=>by
  unfold Jy at h;split at h
  ·rename_i aS; cases aS
  ·rename_i c r' aS;cases aS;split at h
   ·rename_i s ak;split at h
    ·rename_i af;split at h
     ·rename_i l' al;cases h;obtain⟨ad,ae⟩:=X1 al;refine⟨by rw[RH ak,ad]; rfl,fun x ag=>?_⟩;rcases axU.1 ag with aj | aj
      ·rw[aj]; exact axW af
      ·exact ae x aj
     ·cases h
    ·cases h
   ·cases h
  ·cases h
def YP:List U->Option U
 | [.a1 1 es]=>match Jy es with
  | some cn=>match Nat.ble cn.length 20 with
   | true=>some (.bq [gP (i2 (bytesOf cn)),.int .i64 0])
   | false=>none
  | none=>none
 | _=>none
abbrev z8:FuncId × Bool × (List U->Option U) :=(118,false,YP)
theorem Cw:uG Tryz.prog GS z8:=by
 intro args r h;refine⟨?_,fun h=>by cases h⟩;simp only[YP] at h;split at h
 ·split at h
  ·rename_i es cn vq;split at h
   ·rename_i aC;cases h;obtain⟨ad,ae⟩:=X1 vq;rw[ad];exact Pe cn (axW aC) ae
   ·cases h
  ·cases h
 ·cases h
end Go.bV

namespace Go.bV
open Go Go.Proofs
set_option maxRecDepth 100000
namespace Op
open hp
section
variable {α:Type} {z:Nat} {enc:α->List U}
theorem YE {bK:List α} (aw:∀ y∈bK,(enc y).length=z) (k:Nat) (ar:k<=bK.length) {n:Nat} (aC:bK.length=n) {cs:List U} (c6:cs.take (n*z)=(bK.map enc).flatten) (al:n*z<=cs.length) :
  cs.take (k*z)=((bK.take k).map enc).flatten/\(cs.drop (k*z)).take (n*z - k*z)=((bK.drop k).map enc).flatten:=by
 have ih:k*z<=n*z:=awX _ (by omega);have bt:bK.map enc=(bK.take k).map enc++(bK.drop k).map enc:=by rw[<-axc,axX]
 have er:((bK.take k).map enc).flatten.length=k*z:=by
  rw[qM (z:=z) (fun e am=>by obtain⟨y,aI,rfl⟩:=axi.1 am; exact aw _ (axp aI))];rw[aw1,axd,ayh (by omega)]
 have aS:cs.take (k*z)=(cs.take (n*z)).take (k*z) :=by rw[ayx,ayh ih]
 constructor
 ·rw[aS,c6,bt,axO,axs (by omega),awR (by omega)]
 ·rw[<-aze,c6,bt,axO,axR (by omega),ayl (by omega),axT]
theorem YF {l:ap} {v:U} {j k:Nat} {bK:List α} {x:α} {X:U} (cW:X.cells=some (enc x)) (h:bL z l v j (bK.map enc)) (aw:∀ y∈bK,(enc y).length=z) (ar:k<bK.length) (ag:(enc x).length=z) :
  ∃ p l',cN (.aq z) v (.int .i64 (k:Int))=some p/\mD z l p (X)=some l'/\bL z l' v j ((bK.set k x).map enc)/\l'.length=l.length/\∀ b,b≠j->l'[b]? = l[b]?:=by
 generalize am:bK.map enc=es at h;cases h with
 | nil j=>rw[ay2] at am; subst am; simp at ar
 | aq j n cap sz cs es af al aC rf ah cZ c6=>
  subst am;have BR:bK.length=n:=by simpa using aC
  have et:j<l.length:=cd af;have bp:=ag;have ih:(k+1)*z<=n*z:=awX _ (by omega);have lj:n*z<=cap*z:=awX _ ah;have ak:(k+1)*z=k*z+z:=by rw[axw]
  obtain⟨f1,_⟩:=YE aw k (by omega) BR c6 (by omega);obtain⟨_,f2⟩:=YE aw (k+1) (by omega) BR c6 (by omega);refine⟨.ptr j (k*z) sz,l.set j (.cells sz (bf cs (k*z) (enc x))),?_,?_,?_,by simp,fun b vf=>by rw[axg (fun h=>vf h.symm)]⟩
  ·simp[cN]; omega
  ·unfold mD;simp[af,cW,bp];omega
  ·refine .aq j n cap sz _ _ (axb et) (by rw[Al (by omega),bp]; omega) (by simp; omega) (fun e am=>?_) ah cZ ?_
   ·obtain⟨y,aI,rfl⟩:=axi.1 am;rcases ays aI with h | h
    ·exact aw _ h
    ·rw[h]; exact bp
   ·have lS:bK.set k x=bK.take k++(x::bK.drop (k+1)) :=by rw[ayk,if_pos ar]
    rw[lS,axc,axk,axO,axD,<-f1,<-f2];unfold bf;have t1:(cs.take (k*z)).length=k*z:=by rw[axd]; omega
    have CY:(cs.take (k*z)).take (n*z)=cs.take (k*z) :=awR (by rw[t1]; omega);have CZ:(enc x).take (n*z - k*z)=enc x:=awR (by rw[bp]; omega);rw[axH,bp,<-ak,ayH,t1,CY,ayH,CZ,bp,show n*z - k*z - z=n*z - (k+1)*z by omega]
end

end Op

end Go.bV

namespace Go.bV
open Go Go.Proofs
set_option maxRecDepth 100000
theorem al9 {z:Nat} {l:ap} {v:U} {j:Nat} {es:List (List U)} (h:bL z l v j es) (ao:cz v=false) :nS (bb l) (bb (l.set j .dead))/\nQ (bb l) (bb (l.set j .dead)) v (.a1 z es) :=by
 cases h with
 | nil j=>cases ao
 | aq j n cap sz cs es af al aC aw ah cZ c6=>
 have aL:=cd af;have bg:(bb (l.set j .dead)).f j=.dead:=by rw[k2,aw4,if_pos rfl,if_pos aL]
 have dN:n*z<=cap*z:=awX _ ah;refine⟨⟨by simp,fun aZ=>?_⟩,.aq z j 0 n cap sz cs es (l5.2 af) bg aC aw (by omega) (fun i k e c c' am ar mf=>?_)⟩
 ·by_cases ca:aZ=j
  ·subst ca; exact .inr ⟨sz,cs,l5.2 af,.inl bg⟩
  ·left;rw[k2,k2,aw4,if_neg (by omega)]
 ·have zo:k<z:=by rw[<-aw e (awY am)]; exact (awQ.1 ar).1
  have ay:=(awQ.1 am).1;have hm:i*z+z<=n*z:=by rw[<-axw]; exact awX _ (by omega)
  have ad:=nm aw am zo;rw[<-c6,axm (by omega),ar] at ad;rw[axV,ad] at mf;cases mf;exact .same _
end Go.bV

namespace Go.bV
open Go Go.Proofs
set_option maxRecDepth 100000
namespace Op
theorem w4 {α:Type} {enc:α->List U} {z:Nat} {a:List α} (h:∀ x∈a,(enc x).length=z) :(a.map enc).flatten.length=a.length*z:=by
 rw[qM (z:=z) (fun e am=>by obtain⟨y,aI,rfl⟩:=axi.1 am; exact h y aI),aw1]
theorem Rd {α:Type} {enc:α->List U} {z by_:Nat} (l:ap) (s:b8 α) (h:∀ x∈s.l,(enc x).length=z) (aJ:z≠0) (af:by_≠0) (az:s.l.length*by_<=ci) :
  gK (l++[aV.cells 0 []]) z by_ (.aq z l.length 0 0 0 0) (cc z enc s)=some (.aq z l.length 0 s.l.length s.l.length (s.l.length*z),l++[.cells (s.l.length*z) (s.l.map enc).flatten]) :=by
 have hu:=w4 h;unfold gK;rw[wV];simp only[];unfold ja;by_cases aw:s.l.length=0
 ·have aJ:s.l=[] :=axF.1 aw;rw[aJ];simp
 ·rw[if_neg aw,if_neg (by omega)];have bY:¬ s.l=[] :=fun h=>aw (by rw[h]; rfl)
  simp[az,aJ,aw,bY]
theorem F0 {α:Type} {enc:α->List U} {z:Nat} {l:ap} {b n:Nat} {a:List α} (aE:∀ x∈a,(enc x).length=z) (aC:a.length=n) (af:l[b]? = some (.cells (n*z) (a.map enc).flatten)) :bL z l (.aq z b 0 n n (n*z)) b (a.map enc) :=by
 have hu:=w4 aE;refine .aq b n n (n*z) _ _ af (by rw[hu,aC]) (by simp[aC]) (fun e am=>?_) (awU _) (awU _) ?_
 ·obtain⟨y,aI,rfl⟩:=axi.1 am; exact aE y aI
 ·rw[awR (by rw[hu,aC]; omega)]
end Op

end Go.bV

namespace Go.bV
open Go Go.Proofs
set_option maxRecDepth 100000
namespace Op
open hp
theorem acl {l:List D} {k:Nat} {x:D} (h:l[k]? = some x) (au:(l.take k).all gQ=true) :(l.take (k+1)).all gQ=gQ x:=by
 rw[axe,h,List.all_append,au]; simp
theorem acj {l:List D} {k:Nat} {x:D} (h:l[k]? = some x) (ag:gQ x=false) :l.all gQ=false:=by
 cases aT:l.all gQ with
 | false=>rfl
 | true=>rw[axx.1 aT x (awY h)] at ag; cases ag
structure abL (l:List D) (k:Nat) (σ:bc) (h:ap) :Prop where
 bm:σ 5=cc 1 eM (some l)
 cD:σ 6=.int .i64 l.length
 ei:σ 7=.int .i64 k
 au:(l.take k).all gQ=true
theorem UK (l:List D) (al:l.length<=1000) :bw Tryz.prog GS 180 [cc 1 eM (some l)] (.bool (l.all gQ)) :=by
 refine bQ Tryz.checked.mixed bj ?_;apply bn Tryz.func180 [];have bA:cp (.aq 1) (cc 1 eM (some l))=some (.int .i64 l.length) :=lV _;simp[bA];refine cl l.length (abL l) ?_ ⟨by simp,by simp,by simp,by simp⟩;rintro k σ h ar ⟨bm,cD,ei,au⟩;obtain⟨σ,rfl⟩:=lC bm cD ei;clear bm cD ei;by_cases h:k<l.length
 ·obtain⟨x,ag,_⟩:=bJ h;have bT:cN (.aq 1) (cc 1 eM (some l)) (.int .i64 k)=some (.bM (eM x) 0) :=by rw[p2]; simp[ag]
  have dD:IntKind.i64.wrap ((k:Int)+1)=(k+1:Nat) :=wrap_i64 (by omega) (by omega);simp[h,bT,eM];refine a7 (Od x) rfl ?_;cases ax:gQ x with
  | false=>
   have:=acj ag ax;simp;exact aU (by rw[this]) rfl
  | true=>
   simp[dD];exact⟨by omega,by simp,by simp,by simp,by rw[acl ag au]; exact ax⟩
 ·have fe:k=l.length:=by omega
  subst fe;rw[axo] at au;simp;exact aU (by rw[au]) rfl
theorem anq {l:ap} {b:Nat} {x:D} (h:l[b]? = some (.cells 1 [bx x])) :gJ (bb l) (.aq 1 b 0 1 1 1) (cc 1 eM (some [x])) :=by
 refine J5 (rest:=[]) (es:=[[bx x]]) (by simpa using h) rfl (by simp) (by simp[a4,U.closed])
def F6 (a b:D) :D:=BitVec.ofNat 32 (a.toNat*b.toNat % 1000000007)
theorem afa (a b:D) :bw Tryz.prog GS 139 [bx a,bx b] (.bq [bx (if gQ a&&gQ b then F6 a b else 0#32),.int .i64 (if gQ a&&gQ b then 0 else 2)]) :=by
 refine bQ Tryz.checked.mixed bj ?_;apply bn Tryz.func139 [];simp;refine mA (UK [a,b] (by simp)) (.cons (Ga (by simp)) .nil) rfl ?_;cases aE:gQ a with
 | false=>
  simp[aE];exact aU rfl rfl
 | true=>
  cases af:gQ b with
  | false=>
   simp[aE,af];exact aU rfl rfl
  | true=>
   have aL:a.toNat<1000000007:=by unfold gQ at aE; simp at aE; exact aE.1.2
   simp[aE,af];refine mA (OP [a,b] (by simp)) (.cons (.same _ rfl) (.cons (Ga (by simp)) .nil)) rfl ?_;simp[OO a b aL];exact aU rfl rfl
theorem afb (a:D) (n:Q) :bw Tryz.prog GS 138 [bx a,ea n] (.bq [bx (if gQ a then hi a n.toNat else 0#32),.int .i64 (if gQ a then 0 else 2)]) :=by
 refine bQ Tryz.checked.mixed bj ?_;apply bn Tryz.func138 [];simp;refine mA (UK [a] (by simp)) (.cons (anq (by simp)) .nil) rfl ?_;cases aE:gQ a with
 | false=>
  simp[aE];exact aU rfl rfl
 | true=>
  simp[aE];refine a7 (JX a n) rfl ?_;simp;exact aU rfl rfl
theorem ae9 (n:Q) :bw Tryz.prog GS 108 [ea n] (bx (hi 4#32 n.toNat)) :=by
 refine bQ Tryz.checked.mixed bj ?_;apply bn Tryz.func108 [];simp;refine a7 (JX 4#32 n) rfl ?_;simp;exact aU rfl rfl
theorem Pt (a:D) (n:Q) :bw Tryz.prog GS 220 [bx a,ea n] (bx (hi a n.toNat)) :=by
 refine bQ Tryz.checked.mixed bj ?_;apply bn Tryz.func220 [];have a2:(a.setWidth 64:Q).toNat=a.toNat:=by rw[aw9]; omega
 have bv:=Aa a.toNat n.toNat
 have dr:(BitVec.ofNat 64 (ga a.toNat n.toNat)).setWidth 32=hi a n.toNat:=by
  apply aw8;rw[sN,aw9,axf];omega
 have au:=YY (a.setWidth 64) n (by rw[a2]; exact a.isLt);rw[a2] at au;simp;refine a7 au rfl ?_;simp[dr];exact aU rfl rfl
theorem amQ (n:Q) :bw Tryz.prog GS 235 [ea n] (bx (hi 4#32 n.toNat)) :=by
 refine bQ Tryz.checked.mixed bj ?_;apply bn Tryz.func235 [];simp;refine a7 (Pt 4#32 n) rfl ?_;simp;exact aU rfl rfl
theorem amY (a:D) :bw Tryz.prog GS 219 [bx a] (.bq [bx (if gQ a then hi a 500000002 else 0#32),.int .i64 (if gQ a then 0 else 2)]) :=by
 refine bQ Tryz.checked.mixed bj ?_;apply bn Tryz.func219 [];simp;refine a7 (Zz a) rfl ?_;cases aE:gQ a with
 | false=>
  simp;exact aU rfl rfl
 | true=>
  simp;refine a7 (Pt a 500000002#64) rfl ?_;simp;exact aU rfl rfl
theorem am6 (a b:D) :bw Tryz.prog GS 222 [bx a,bx b] (bx (F6 a b)) :=by
 refine bQ Tryz.checked.mixed bj ?_;apply bn Tryz.func222 [];have a2:∀ a:D,(a.setWidth 64:Q).toNat=a.toNat:=fun a=>by rw[aw9]; omega
 have dr:((a.setWidth 64:Q)*b.setWidth 64 % 1000000007#64).setWidth 32=F6 a b:=by
  apply aw8;rw[aw9,Cn _ _ (by rw[a2]; exact a.isLt) (by rw[a2]; exact b.isLt),a2,a2];unfold F6;rw[axf]
 simp[Kb,dr];exact aU rfl rfl
def wC (l:List B) :Q:=l.foldl (fun n x=>(n <<< 8) ||| x.setWidth 64) 0#64
theorem Rz (l:List B) (k:Nat) (x:B) (h:l[k]? = some x) :wC (l.take (k+1))=(wC (l.take k) <<< 8) ||| x.setWidth 64:=by
 rw[axe,h]; simp[wC,ayE]
theorem aor (a:Q) (x:B) :(a <<< 8) ||| x.setWidth 64=256#64*a+x.setWidth 64:=by
 apply aw8;have ag:x.toNat<256:=x.isLt;have aE:=a.isLt;rw[BitVec.toNat_or,ayR,azI,ayI,aw9];have ad:x.toNat % 2 ^ 64=x.toNat:=aw2 (by omega);have ae:a.toNat <<< 8 % 2 ^ 64=(a.toNat % 2 ^ 56) <<< 8:=by rw[ayo,ayo]; omega
 have aj:=azr (b:=x.toNat) (i:=8) (by omega) (a.toNat % 2 ^ 56);rw[ad,ae,<-aj,ayo];have aD:(256#64).toNat=256:=rfl;rw[aD];omega
def jR (n:D) :List B:=[(n >>> 24).setWidth 8,(n >>> 16).setWidth 8,(n >>> 8).setWidth 8,n.setWidth 8]
def mM (l:List D) :List B:=l.flatMap jR
theorem ae3 {l:List D} {k:Nat} {x:D} (h:l[k]? = some x) :mM (l.take (k+1))=mM (l.take k)++jR x:=by
 unfold mM; rw[axe,h,azs]; simp
theorem Us (l:List D) :(mM l).length=4*l.length:=by
 induction l with
 | nil=>rfl
 | cons x l aR=>unfold mM at aR ⊢; rw[List.flatMap_cons,awW,aR,axa]; simp[jR]; omega
def Ep (b:List B) :Q:=wC ((i2 b).take 8)
theorem anr {l:ap} {b:Nat} {v m v' ct:U} (h:l[b]? = some (.cells 2 [v,m])) (ad:gJ (bb l) v v') (ae:gJ (bb l) m ct) :gJ (bb l) (.aq 1 b 0 2 2 2) (.a1 1 [[v'],[ct]]) :=by
 refine .aq 1 b 0 2 2 2 [v,m] [[v'],[ct]] (l5.2 h) rfl (by simp) (by simp) (fun i j e c c' am ai ah=>?_);rcases i with _ | _ | i
 ·simp at am; subst am;rcases j with _ | j
  ·simp at ai ah; subst ai ah; exact ad
  ·simp at ai
 ·simp at am; subst am;rcases j with _ | j
  ·simp at ai ah; subst ai ah; exact ae
  ·simp at ai
 ·simp at am
theorem aoB {b:Nat}:fm (.arr 32 1) (.ptr b 0 32) none (some (.int .i64 8)) none=some (.aq 1 b 0 8 32 32) :=by
 have:hc 32 32 none (some (.int .i64 8)) none=some (0,8,32) :=rfl;simp only[fm,this]; rfl
structure abV (hz:B) (m:eS) (fw:List D) (k:Nat) (σ:bc) (l:ap) :Prop where
 aK:σ 1=cF m
 uY:σ 21=cc 1 eM (some fw)
 Bk:σ 22=.int .i64 fw.length
 uZ:σ 23=.int .i64 k
 ex:∃ v,σ 8=v/\cJ 1 cb [] l v (hz::mM (fw.take k)) false
structure abM (d:List B) (e:Int) (k:Nat) (σ:bc) (l:ap) :Prop where
 kL:σ 12=.int .i64 e
 kM:σ 13=ea (wC (d.take k))
 Bn:∃ b n,σ 49=.aq 1 b 0 8 n n/\l[b]? = some (.cells n (d.map bC))/\n=32
 Bo:σ 50=.int .i64 8
 L9:σ 51=.int .i64 k
set_option maxHeartbeats 1000000 in
theorem af7 (hz:B) (m:eS) (hm:m.l.length<=9991) (fw:List D) (al:fw.length<=10) :bw Tryz.prog GS 156 [bC hz,cF m,cc 1 eM (some fw)] (.bq [ea (Ep (hz::(mM fw++m.l))),.int .i64 0]) :=by
 refine bQ Tryz.checked.mixed bj ?_;apply bn Tryz.func156 [];have az:ci=140737488355328:=rfl;have bA:cp (.aq 1) (cF m)=some (.int .i64 m.l.length) :=lV _;have ahw:cp (.aq 1) (cc 1 eM (some fw))=some (.int .i64 fw.length) :=lV _;have gh:¬ (9991:Int)<(m.l.length:Int) :=by omega
 have Mf:¬ 9991<m.l.length:=by omega
 have ft:=nh m;simp[bA,ahw,gh,Mf];refine cl fw.length (abV hz m fw) ?_ ⟨by simp,by simp,by simp,by simp,_,rfl,⟨0,sK (n:=1) (a:=[hz]) rfl rfl,by simp,by simp,.inr (by simp),rfl⟩⟩;rintro k σ l ar ⟨aK,uY,Bk,uZ,v,fT,fC⟩;obtain⟨σ,rfl⟩:=k1 aK fT uY Bk uZ;clear aK fT uY Bk uZ;by_cases h:k<fw.length
 ·obtain⟨x,ag,_⟩:=bJ h;have bT:cN (.aq 1) (cc 1 eM (some fw)) (.int .i64 k)=some (.bM (eM x) 0) :=by rw[p2]; simp[ag]
  have dD:IntKind.i64.wrap ((k:Int)+1)=(k+1:Nat) :=wrap_i64 (by omega) (by omega);have ak:=ae3 ag;have hu:=Us (fw.take k);rw[axd] at hu;obtain⟨v',l',a8,bh,b6⟩:=(fC.more [aV.cells 4 ((jR x).map bC)]).app (by_:=1) (x:=.aq 1 l.length 0 4 4 4) (xs:=jR x) (by rw[DL]; simp[de,jR]) (fun y _=>rfl) (by omega) (by omega) (by rw[az]; simp[jR]; omega);rw[show (jR x).map bC=[.int .u8 (u (BitVec.setWidth 8 (x >>> 24))),.int .u8 (u (BitVec.setWidth 8 (x >>> 16))),.int .u8 (u (BitVec.setWidth 8 (x >>> 8))),.int .u8 (u (BitVec.setWidth 8 x))] from rfl] at a8;simp[h,bT,eM,dD,a8];refine cU.b1 ?_;simp[dD];exact⟨by omega,by simp,by simp,by simp,by simp,v',by simp,by rw[ak,<-axK]; exact bh⟩
 ·have fe:k=fw.length:=by omega
  subst fe;rw[axo] at fC;have hu:=Us fw;have au:=Pe [some (hz::mM fw),m] (by simp) (fun s ak=>by
   rcases axU.1 ak with h | h
   ·rw[h]; show (hz::mM fw).length<=_; simp; omega
   ·rw[axQ.1 h]; omega)
  have dM:bytesOf [some (hz::mM fw),m]=hz::(mM fw++m.l) :=by simp[bytesOf]
  rw[dM] at au;have p0:=fC.cells;have BQ:(cF m).cells=some [cF m] :=by cases m<;>rfl
  obtain⟨jw,zd⟩:∃ jw,jw=i2 (hz::(mM fw++m.l)) :=⟨_,rfl⟩
  have ji:jw.length=32:=by rw[zd]; exact ye _
  rw[<-zd] at au;have MI:(jw.map bC).length=32:=by simp[ji]
  have MR:gP jw=.aH (jw.map bC) :=rfl;rw[MR] at au;have NE:bf (rep 32 (.int .u8 0)) 0 (jw.map bC)=jw.map bC:=gw (by rw[MI]; rfl);have bW:∀ b,fm (.arr 32 1) (.ptr b 0 32) none (some (.int .i64 8)) none=some (.aq 1 b 0 8 32 32) :=fun b=>aoB (b:=b)
  simp[p0,BQ];refine mA au (.cons (anr (by simp) ((fC.more _).uk (fun _=>rfl) (some (hz::mM fw)) rfl rfl) (.same _ ft)) .nil) (by simp[U.flat,mL,gP,Bg bC (fun _=>rfl)]) ?_;simp[ji,NE,bW];refine cl 8 (abM jw 0) ?_ ⟨by simp,by simp[wC],⟨l.length+1,32,by simp,by simp[List.getElem?_append],rfl⟩,by simp,by simp⟩;clear fC;rintro k σ l ar ⟨kL,kM,⟨b,n,Bn,af,rfl⟩,Bo,L9⟩;obtain⟨σ,rfl⟩:=k1 kL kM Bn Bo L9;clear kL kM Bn Bo L9;by_cases h:k<8
  ·obtain⟨x,ag,_⟩:=bJ (l:=jw) (k:=k) (by omega);have dD:IntKind.i64.wrap ((k:Int)+1)=(k+1:Nat) :=wrap_i64 (by omega) (by omega);have ak:=Rz jw k x ag;have fe:(k:Int)<8:=by omega
   have Jf:(jw.map bC)[k]? = some (bC x) :=by rw[awV,ag]; rfl
   simp[h,fe,af,dD,ag];exact⟨by simp,by simp[ak],⟨b,32,by simp,by simpa using af,rfl⟩,by simp,by simp⟩
  ·have iJ:k=8:=by omega
   subst iJ;simp;exact aU (by unfold Ep; rw[zd]) rfl
def Dz (r y:D) (m:List B) :D:=(Ep (99#8::(mM [r,y]++m)) % 500000003#64).setWidth 32
theorem ZE (x:Q) :cy .rem .u64 (u x) .u64 500000003=some (.int .u64 (u (x % 500000003#64))) :=AQ x 500000003#64 (by decide)
theorem ap1 (r y:D) (m:eS) (hm:m.l.length<=9991) :bw Tryz.prog GS 115 [bx r,bx y,cF m] (.bq [bx (Dz r y m.l),.int .i64 0]) :=by
 refine bQ Tryz.checked.mixed bj ?_;apply bn Tryz.func115 [];have ft:=nh m;simp;refine mA (af7 99#8 m hm [r,y] (by simp)) (.cons (.same _ rfl) (.cons (.same _ ft) (.cons (Ga (by simp)) .nil))) rfl ?_;simp[ZE];exact aU rfl rfl
theorem Pp (a b:D) (af:b≠0#32) :cy .quo .u32 (u a) .u32 (u b)=some (.int .u32 (u (a / b))) :=by
 have bN:(b.toNat:Int)≠0:=fun e=>af (aw8 (by simpa using e))
 show (if IntKind.u32=IntKind.u32/\(b.toNat:Int)≠0 then some (U.int .u32 (IntKind.u32.wrap ((a.toNat:Int).tdiv b.toNat))) else none)=_;rw[if_pos ⟨rfl,bN⟩,C4];congr 2;have:((a.toNat:Int).tdiv b.toNat)=((a.toNat / b.toNat:Nat) :Int) :=rfl;rw[this,ayw];congr 1;apply aw8;rw[axf,ayf];exact aw2 (Nat.lt_of_le_of_lt (Nat.div_le_self _ _) a.isLt)
theorem Ur (x:D) {l:ap} {K:U->ap->Prop} (aY:∀ v l',cJ 1 cb l l' v (jR x) false->K v l') :c5 Tryz.prog GS 233 [bx x] l (c:=⟨K⟩) :=by
 apply bn Tryz.func233 [];have q1:cy .quo .u32 (u x) .u32 16777216=some (.int .u32 (u (x / 16777216#32))) :=Pp x 16777216#32 (by decide);have dn:cy .quo .u32 (u x) .u32 65536=some (.int .u32 (u (x / 65536#32))) :=Pp x 65536#32 (by decide);have gF:cy .quo .u32 (u x) .u32 256=some (.int .u32 (u (x / 256#32))) :=Pp x 256#32 (by decide);have ox:∀ y:D,cy .rem .u32 (u y) .u32 256=some (.int .u32 (u (y % 256#32))) :=fun y=>acV y 256#32 (by decide)
 have ag:=x.isLt;have aS:BitVec.setWidth 8 (x / 16777216#32)=BitVec.setWidth 8 (x >>> 24) :=by
  apply aw8;rw[aw9,aw9,ayf,axM,axn];rfl
 have bt:BitVec.setWidth 8 (x / 65536#32 % 256#32)=BitVec.setWidth 8 (x >>> 16) :=by
  apply aw8;rw[aw9,aw9,ax4,ayf,axM,axn];show x.toNat / 65536 % 256 % 256=x.toNat / 65536 % 256;omega
 have er:BitVec.setWidth 8 (x / 256#32 % 256#32)=BitVec.setWidth 8 (x >>> 8) :=by
  apply aw8;rw[aw9,aw9,ax4,ayf,axM,axn];show x.toNat / 256 % 256 % 256=x.toNat / 256 % 256;omega
 have kG:BitVec.setWidth 8 (x % 256#32)=BitVec.setWidth 8 x:=by
  apply aw8;rw[aw9,aw9,ax4];show x.toNat % 256 % 256=x.toNat % 256;omega
 simp[q1,dn,gF,ox,aS,bt,er,kG];exact aY _ _ ⟨l.length,sK (n:=4) (a:=jR x) rfl (by simp; rfl),by simp,fun b af=>awS af,.inr (by simp),rfl⟩
structure ab2 (d:List B) (k:Nat) (σ:bc) (l:ap) :Prop where
 a6:σ 3=.ptr 0 0 32
 bi:σ 4=ea (wC (d.take k))
 bm:σ 5=.int .i64 k
 kx:l[0]? = some (.cells 32 (d.map bC))
theorem als (s:eS) (ak:s.l.length<=1000000) :bw Tryz.prog GS 234 [cF s] (ea (Ep s.l)) :=by
 refine bQ Tryz.checked.mixed bj ?_;apply bn Tryz.func234 [];have vu:=ZA s ak;have c6:=nh s;obtain⟨jw,zd⟩:∃ jw,jw=i2 s.l:=⟨_,rfl⟩
 have ji:jw.length=32:=by rw[zd]; exact ye _
 rw[<-zd] at vu;have MR:gP jw=.aH (jw.map bC) :=rfl;rw[MR] at vu;have MI:(jw.map bC).length=32:=by simp[ji]
 have NE:bf (rep 32 (.int .u8 0)) 0 (jw.map bC)=jw.map bC:=gw (by rw[MI]; rfl);simp;refine a7 vu (by simp[a4,c6]) ?_;simp[ji,NE];refine cl 8 (ab2 jw) ?_ ⟨by simp,by simp[wC],by simp,rfl⟩;rintro k σ l ar ⟨a6,bi,bm,kx⟩;obtain⟨σ,rfl⟩:=lC a6 bi bm;clear a6 bi bm;by_cases h:k<8
 ·obtain⟨x,ag,_⟩:=bJ (l:=jw) (k:=k) (by omega);have dD:IntKind.i64.wrap ((k:Int)+1)=(k+1:Nat) :=wrap_i64 (by omega) (by omega);have ak:=Rz jw k x ag;rw[aor] at ak;have fe:(k:Int)<8:=by omega
  have MZ:k<32:=by omega
  simp[h,fe,MZ,kx,dD,ag];exact⟨by omega,by simp,by simp[ak],by simp,kx⟩
 ·have iJ:k=8:=by omega
  subst iJ;simp;exact aU (by unfold Ep; rw[zd]) rfl
theorem amS (r y:D) (m:eS) (hm:m.l.length<=900000) :bw Tryz.prog GS 221 [bx r,bx y,cF m] (bx (Dz r y m.l)) :=by
 refine bQ Tryz.checked.mixed bj ?_;apply bn Tryz.func221 [];have az:ci=140737488355328:=rfl;have ft:=nh m;simp;refine Ur r fun cu l1 ad=>?_
 have IJ:=ad.le;have ahT:cJ 1 cb [] l1 (.aq 1 0 0 1 1 1) [99#8] false:=⟨0,sK (n:=1) (a:=[99#8]) rfl (by rw[ad.same 0 (by simp)]; rfl),by simp,by simp,.inr (by simp),rfl⟩
 obtain⟨b4,br,a8,bh,b6⟩:=ahT.app (by_:=1) (x:=cu) (xs:=jR r) ad.contents (fun _ _=>rfl) (by omega) (by omega) (by rw[az]; simp[jR]);simp[a8];refine cU.b1 ?_;simp;refine Ur y fun fo gE aj=>?_
 have ahU:cJ 1 cb [] gE b4 ([99#8]++jR r) false:=bh.frame aj.le aj.same;obtain⟨gV,p3,cT,dw,ke⟩:=ahU.app (by_:=1) (x:=fo) (xs:=jR y) aj.contents (fun _ _=>rfl) (by omega) (by omega) (by rw[az]; simp[jR]);simp[cT];refine cU.b1 ?_;obtain⟨h5,Ow,bS,b7,hR⟩:=dw.app (by_:=1) (x:=cF m) (xs:=m.l) (TN _ _) (fun _ _=>rfl) (by omega) (by omega) (by rw[az]; simp[jR]; omega);simp[bS];refine cU.b1 ?_;have af:(b8.l (some ([99#8]++jR r++jR y++m.l)) :List B)=99#8::(mM [r,y]++m.l) :=by simp[mM]
 have oj:=als (some ([99#8]++jR r++jR y++m.l)) (by rw[af]; simp[mM,jR]; omega);rw[af] at oj;simp;refine mA oj (.cons (b7.uk (fun _=>rfl) (some ([99#8]++jR r++jR y++m.l)) (by simp) rfl) .nil) rfl ?_;simp[ZE];exact aU rfl rfl
theorem JW (a n k:Nat) :ga (ga a n) k=ga a (n*k) :=by
 unfold ga; rw[<-azv,<-Nat.pow_mul]
theorem YW (n:Nat) :ga 1 n=1:=by unfold ga; rw[Nat.one_pow]
theorem amq (a m n:Nat) :ga a (m+n)=ga a m*ga a n % 1000000007:=by
 unfold ga; rw[azu,azh]
theorem acD:ga 4 500000003=1:=by
 have h:=Pg 4 500000003 (by decide) 64 (awU _);rw[show 500000003 / 2 ^ (64 - 64)=500000003 from rfl] at h;rw[<-h];decide +kernel
theorem Oe {y:D} (h:ga y.toNat 500000003=1) (n:Nat) :gQ (hi y n)=true:=by
 have ao:=sN y n;have aL:=Aa y.toNat n;have ad:ga (ga y.toNat n) 500000003=1:=by
  rw[JW,azG,<-JW,h,YW]
 have aJ:ga y.toNat n≠0:=fun e=>by
  rw[e] at ad;have aw:∀ n,0<n->ga 0 n=0:=fun n aC=>by unfold ga; rw[Nat.zero_pow aC]
  rw[aw _ (by decide)] at ad;cases ad
 unfold gQ;rw[ao,decide_eq_true (by omega),decide_eq_true aL,decide_eq_true ad]; rfl
theorem Xe {y:D} (h:gQ y=true) :ga y.toNat 500000003=1:=by
 unfold gQ at h; simp only[awZ,decide_eq_true_eq] at h; exact h.2
theorem acB {y:D} (h:ga y.toNat 500000003=1) {e:Nat} (am:e<500000003) :hi (hi y e) 500000002=hi y (500000003 - e) :=by
 apply aw8;rw[sN,sN,sN,JW];rcases e with _ | e
 ·rw[ayU,azc,h];unfold ga; rfl
 ·have aS:(e+1)*500000002=500000003*e+(500000003 - (e+1)) :=by omega
  rw[aS,amq,<-JW,h,YW,azg,aw2 (Aa _ _)]
def F9 (y:D) (e s:D) :D:=F6 (hi 4#32 s.toNat) (hi y (500000003 - e.toNat))
def Gn (y:D) (m:List B) (e s:D) :Bool:=jQ e&&(jQ s&&decide (Dz (F9 y e s) y m=e))
theorem aoU {e:D} (am:e.toNat<500000003) :(500000003#64 - e.setWidth 64).toNat=500000003 - e.toNat:=by
 rw[BitVec.toNat_sub,aw9];have:(500000003#64).toNat=500000003:=rfl;rw[this]; omega
theorem aqb (y:D) (aI:gQ y=true) (m:eS) (hm:m.l.length<=9991) (e s:D) :bw Tryz.prog GS 100 [bx y,cF m,.aH [bx e,bx s]] (.int .i64 (if Gn y m.l e s then 0 else 22)) :=by
 refine bQ Tryz.checked.mixed bj ?_;apply bn Tryz.func100 [];unfold Gn;have bA:cp (.aq 1) (cF m)=some (.int .i64 m.l.length) :=lV _;have gh:¬ (9991:Int)<(m.l.length:Int) :=by omega
 have Mf:¬ 9991<m.l.length:=by omega
 have ft:=nh m;have aN:=Xe aI;have VN:=Od y;rw[aI] at VN;simp;refine a7 VN rfl ?_;obtain⟨M,je⟩:∃ M:Int,M=if u e<u s then u s else u e:=⟨_,rfl⟩
 have zt:vS (bx e) (bx s)=some (.int .u32 M) :=by rw[je]; simp[vS,bx]
 have U6:(500000003:Int)<=M<->500000003<=e.toNat\/500000003<=s.toNat:=by
  rw[je]; unfold u; split<;>omega
 simp[bA,gh,Mf,zt];by_cases ad:500000003<=e.toNat\/500000003<=s.toNat
 ·have af:(jQ e&&(jQ s&&decide (Dz (F9 y e s) y m.l=e)))=false:=by
   unfold jQ;rcases ad with h | h
   ·rw[decide_eq_false (by omega)]; rfl
   ·rw[decide_eq_false (p:=s.toNat<500000003) (by omega)]; simp
  have ah:=U6.2 ad;simp[ah,af];exact aU rfl rfl
 ·have ah:¬ (500000003:Int)<=M:=fun h=>ad (U6.1 h)
  have gB:jQ e=true:=by unfold jQ; exact decide_eq_true (by omega)
  have ej:jQ s=true:=by unfold jQ; exact decide_eq_true (by omega)
  have Wx:=afb y (500000003#64 - e.setWidth 64);have aik:(s.setWidth 64:Q).toNat=s.toNat:=by rw[aw9]; omega
  have Ib:=ae9 (s.setWidth 64);rw[aI,if_pos rfl,if_pos rfl,aoU (by omega)] at Wx;rw[aik] at Ib;have vr:=afa (hi 4#32 s.toNat) (hi y (500000003 - e.toNat));rw[Oe (y:=4#32) acD,Oe aN] at vr;simp only[ayL,if_true] at vr;have qW:=ap1 (F9 y e s) y m hm;have dh:∀ a b:D,((u a:Int)=u b)<->a=b:=fun a b=>⟨fun h=>aw8 (by unfold u at h; omega),fun h=>by rw[h]⟩
  simp[ah];refine a7 Wx rfl ?_;simp;refine a7 Ib rfl ?_;simp;refine a7 vr rfl ?_;simp;refine a7 qW (by simp[a4,U.closed,ft]) ?_;rw[gB,ej];by_cases aj:Dz (F9 y e s) y m.l=e
  ·simp[aj];exact aU rfl rfl
  ·simp[aj,dh];exact aU rfl rfl
theorem amZ (s:D) :bw Tryz.prog GS 223 [bx s] (bx (hi 4#32 s.toNat)) :=by
 refine bQ Tryz.checked.mixed bj ?_;apply bn Tryz.func223 [];have an4:(s.setWidth 64:Q).toNat=s.toNat:=by rw[aw9]; omega
 have ve:=amQ (s.setWidth 64);rw[an4] at ve;simp;refine a7 ve rfl ?_;simp;exact aU rfl rfl
theorem am7 (y:D) (aI:gQ y=true) (m:eS) (hm:m.l.length<=900000) (e s:D) :bw Tryz.prog GS 199 [bx y,cF m,.aH [bx e,bx s]] (.bool (Gn y m.l e s)) :=by
 refine bQ Tryz.checked.mixed bj ?_;apply bn Tryz.func199 [[[0],[1],[3],[5],[6],[8],[9],[2,9],[4,9],[7,9]]];unfold Gn;have ft:=nh m;have aN:=Xe aI;have dh:∀ a b:D,((u a:Int)=u b)<->a=b:=fun a b=>⟨fun h=>aw8 (by unfold u at h; omega),fun h=>by rw[h]⟩
 simp;refine a7 (HJ e) rfl ?_;cases ad:jQ e with
 | false=>simp; exact aU rfl rfl
 | true=>
 simp;refine a7 (HJ s) rfl ?_;cases ae:jQ s with
 | false=>simp; exact aU rfl rfl
 | true=>
 have am:e.toNat<500000003:=by unfold jQ at ad; exact of_decide_eq_true ad
 have aem:(e.setWidth 64:Q).toNat=e.toNat:=by rw[aw9]; omega
 have WB:=Pt y (e.setWidth 64);rw[aem] at WB;have ID:=amY (hi y e.toNat);rw[Oe aN,if_pos rfl,if_pos rfl,acB aN am] at ID;have ve:=amZ s;have pc:=am6 (hi 4#32 s.toNat) (hi y (500000003 - e.toNat));have qW:=amS (F9 y e s) y m hm;simp;refine a7 WB rfl ?_;simp;refine a7 ID rfl ?_;simp;refine a7 ve rfl ?_;simp;refine a7 pc rfl ?_;simp;refine a7 qW (by simp[a4,U.closed,ft]) ?_;simp[dh];exact aU rfl rfl
def P1 (o:bu) :Bool:=Gn o.hq (ly o) o.e o.s
def sX (o:bu) :Int:=if hC o=0 then (if P1 o then 0 else 22) else hC o
theorem Yu {o:bu} (ay:∀ x∈o.bo.l,x.length=32) (h:hC o=0) :gQ o.hq=true/\(ly o).length<=9991:=by
 have aD:=z5 h;unfold hC at h;rw[if_neg (by omega)] at h;split at h
 ·split at h
  ·rename_i az ax;unfold u4 at ax;simp only[awZ,decide_eq_true_eq] at ax;obtain⟨aK,aW,a6,bi,bm⟩:=ax;refine⟨aK,?_⟩;have M4:o.act.key.length<=20/\(o.act.kind=4#8->o.act.val.text.length<=30) :=by
    unfold lG at a6;split at a6
    ·rename_i ad;simp only[awZ,decide_eq_true_eq] at a6;rw[a6.1];exact⟨by simp,fun h=>by rw[ad] at h; cases h⟩
    ·split at a6
     ·rename_i ad ae;simp only[awZ] at a6;have ar:=a6.1;unfold j5 at ar;simp only[awZ,decide_eq_true_eq] at ar;exact⟨ar.1.2,fun h=>by rw[h] at ae; rcases ae with ae | ae<;>cases ae⟩
     ·split at a6
      ·simp only[awZ] at a6;obtain⟨ar,ao⟩:=a6;unfold j5 at ar;simp only[awZ,decide_eq_true_eq] at ar;refine⟨ar.1.2,fun _=>?_⟩;unfold lD at ao;split at ao
       ·simp only[awZ,decide_eq_true_eq] at ao; rw[ao.2]; simp
       ·split at ao
        ·simp only[awZ,decide_eq_true_eq] at ao; rw[ao.1.2]; simp
        ·split at ao
         ·simp only[awZ,decide_eq_true_eq] at ao; exact ao.1.2
         ·cases ao
      ·cases a6
   have jn:=iM o.hq.toNat
   have rj:=iM o.iD.toNat
   have z2:=FI ay;have sF:=CW (fx o.act.key);rw[rz] at sF;have FN:=GF o.act.val;have n6:(opHead o).length<=10:=by unfold opHead; simp; omega
   unfold ly;simp only[awW,axa,axB];have n7:(if o.act.kind=1#8 then ([] :List B) else jK (fx o.act.key)).length<=29:=by
    split
    ·simp
    ·omega
   have n8:(if o.act.kind=4#8 then jL o.act.val else []).length<=50:=by
    split
    ·rename_i h; have:=M4.2 h; omega
    ·simp
   omega
  ·cases h
 ·cases h
theorem aqc (o:bu) (av:jr o) :bw Tryz.prog GS 67 [.aH (bd o)] (.int .i64 (sX o)) :=by
 refine bQ Tryz.checked.mixed bj ?_;apply bn Tryz.func67 [];unfold sX;have ez:=mK o;have fc:=KH o av;have zc:a4 [U.aH (bd o)]=true:=by simp[a4,U.closed,ez]
 by_cases aJ:hC o=0
 ·obtain⟨ax,bA⟩:=Yu av.ids aJ;rw[if_pos aJ];simp[bd];refine a7 fc zc ?_;simp[aJ];refine abk o av (Rs aJ) fun w l' h=>?_
  have kx:l'[0]? = some (.cells 11 (bd o)) :=by rw[h.same 0 (by simp)]; rfl
  have F2:=kx;simp[bd] at F2;have ao:=aqb o.hq ax (some (ly o)) bA o.e o.s;simp[F2];refine mA ao (.cons (.same _ rfl) (.cons (h.uk (fun _=>rfl) (some (ly o)) rfl rfl) (.cons (.same _ rfl) .nil))) rfl ?_;simp;exact aU rfl rfl
 ·rw[if_neg aJ];simp[bd];refine a7 fc zc ?_;simp[aJ];exact aU rfl rfl
theorem anf (o:bu) (av:jr o) (aJ:hC o=0) :bw Tryz.prog GS 170 [.aH (bd o)] (.bool (P1 o)) :=by
 refine bQ Tryz.checked.mixed bj ?_;apply bn Tryz.func170 [[[0],[1],[2],[4],[5],[3,5,1]]];have ez:=mK o;obtain⟨ax,bA⟩:=Yu av.ids aJ;have ao:=am7 o.hq ax (some (ly o)) (by show (ly o).length<=_; omega) o.e o.s;simp[bd];refine Zp o av (by have:=z5 aJ; omega) fun w l' h=>?_
 have kx:l'[0]? = some (.cells 11 (bd o)) :=by rw[h.same 0 (by simp)]; rfl
 have F2:=kx;simp[bd] at F2;simp[F2];refine mA ao (.cons (.same _ rfl) (.cons (h.uk (fun _=>rfl) (some (ly o)) rfl rfl) (.cons (.same _ rfl) .nil))) rfl ?_;simp;exact aU rfl rfl
theorem anl (o:bu) (av:jr o) :bw Tryz.prog GS 130 [.aH (bd o)] (.int .i64 (sX o)) :=by
 refine bQ Tryz.checked.mixed bj ?_;apply bn Tryz.func130 [];unfold sX;have ez:=mK o;have fc:=am3 o av;have zc:a4 [U.aH (bd o)]=true:=by simp[a4,U.closed,ez]
 by_cases aJ:hC o=0
 ·rw[if_pos aJ];simp[bd];refine a7 fc zc ?_;simp[aJ];refine a7 (anf o av aJ) zc ?_;cases ak:P1 o with
  | true=>simp; exact aU rfl rfl
  | false=>simp; exact aU rfl rfl
 ·rw[if_neg aJ];simp[bd];refine a7 fc zc ?_;simp[aJ];refine a7 fc zc ?_;simp;exact aU rfl rfl
end Op

end Go.bV

namespace Go.bV
open Go Go.Proofs
set_option maxRecDepth 100000
namespace Op

section
variable {α:Type} {z:Nat} {enc:α->List U}
theorem alG {by_:Nat} {l l1:ap} {v:U} {a:List α} {nl:Bool} (h:cJ z enc l l1 v a nl) (x:α) {b:Nat} (af:l1[b]? = some (.cells z (enc x))) (ag:(enc x).length=z) (aJ:z≠0) (dM:by_≠0) (dC:(a.length+1)*by_<=ci) :
  ∃ v' l',gK l1 z by_ v (.aq z b 0 1 1 z)=some (v',l')/\cJ z enc l l' v' (a++[x]) false/\l1.length<=l'.length:=by
 obtain⟨v',l',aK,aW,a6⟩:=h.app (by_:=by_) (x:=.aq z b 0 1 1 z) (xs:=[x]) (by simp[de,af,ag,awR]) (by simp[ag]) aJ dM (by simpa using dC);exact⟨v',l',aK,by simpa using aW,a6⟩
def oq (l:List α) (i:Nat) (x:α) :List α:=l.take i++x::l.drop i
theorem Jm (l:List α) (i:Nat) (x:α) :(oq l i x).length=l.length+1:=by
 unfold oq;have:=congrArg List.length (axX i l);simp only[awW,axa] at this ⊢; omega
theorem Xb {l:List α} {i:Nat} {x y:α}:y∈oq l i x<->y=x\/y∈l:=by
 unfold oq;rw[axN,axU];constructor
 ·rintro (h | h | h)
  ·exact .inr (axp h)
  ·exact .inl h
  ·exact .inr (ayu h)
 ·rintro (h | h)
  ·exact .inr (.inl h)
  ·rw[<-axX i l,axN] at h;exact h.elim .inl fun h=>.inr (.inr h)
theorem aah {lt:α->α->Bool} (IE:∀ a,lt a a=false) (WL:∀ a b c,lt a b=true->lt b c=true->lt a c=true) :∀ {l m:List α},l.Pairwise (fun a b=>lt a b=true)->m.Pairwise (fun a b=>lt a b=true)->(∀ y,y∈l<->y∈m)->l=m
 | [],[],_,_,_=>rfl
 | [],b::m,_,_,h=>absurd ((h b).2 (by simp)) (by simp)
 | a::l,[],_,_,h=>absurd ((h a).1 (by simp)) (by simp)
 | a::l,b::m,al,hm,h=>by
  obtain⟨l1,br⟩:=azz.1 al;obtain⟨e0,eR⟩:=azz.1 hm;have gA:a=b:=by
   rcases axU.1 ((h a).1 (by simp)) with e | e
   ·exact e
   ·rcases axU.1 ((h b).2 (by simp)) with bt | bt
    ·exact bt.symm
    ·have:=WL _ _ _ (e0 a e) (l1 b bt);rw[IE] at this; cases this
  subst gA;congr 1;refine aah IE WL br eR fun y=>⟨fun aI=>?_,fun aI=>?_⟩
  ·rcases axU.1 ((h y).1 (by simp[aI])) with e | e
   ·subst e;have:=l1 y aI;rw[IE] at this; cases this
   ·exact e
  ·rcases axU.1 ((h y).2 (by simp[aI])) with e | e
   ·subst e;have:=e0 y aI;rw[IE] at this; cases this
   ·exact e
end

section
variable {α:Type} [DecidableEq α]
end

end Op

end Go.bV

namespace Go.bV
open Go Go.Proofs
set_option maxRecDepth 100000
namespace Op
open hp
def hy {α:Type} [DecidableEq α] (x:α) :List α->Nat->Int
 | [],_=>-1
 | y::r,k=>if y=x then (k:Int) else hy x r (k+1)
theorem xy {α:Type} [DecidableEq α] (x:α) :∀ (l:List α) (k:Nat),(0<=hy x l k)<->x∈l
 | [],k=>by simp[hy]
 | y::r,k=>by
  unfold hy;by_cases h:y=x
  ·simp[h]
  ·rw[if_neg h,xy x r (k+1)];simp[Ne.symm h]
theorem Fv {α:Type} [DecidableEq α] {x:α}:∀ {l:List α} {k n:Nat} {y:α},l[k]? = some y->(∀ (j:Nat) (z:α),j<k->l[j]? = some z->z≠x)->y=x->hy x l n=((n+k:Nat) :Int)
 | [],k,n,y,h,_,_=>by simp at h
 | w::r,0,n,y,h,_,aI=>by
  simp at h; subst h;unfold hy;rw[if_pos aI]; simp
 | w::r,k+1,n,y,h,al,aI=>by
  unfold hy;rw[if_neg (al 0 w (by omega) (by simp)),Fv (k:=k) (n:=n+1) (by simpa using h) (fun j z ai aw=>al (j+1) z (by omega) (by simpa using aw)) aI];congr 1; omega
theorem Og {α:Type} [DecidableEq α] {x:α}:∀ {l:List α} {n:Nat},(∀ (j:Nat) (z:α),l[j]? = some z->z≠x)->hy x l n=-1
 | [],n,_=>rfl
 | w::r,n,al=>by
  unfold hy;rw[if_neg (al 0 w (by simp)),Og fun j z aw=>al (j+1) z (by simpa using aw)]
theorem ap7 (s:dk) (av:ds s) (al:s.l.length<=1000000) (x:List B) (ag:x.length=32) :bw Tryz.prog GS 78 [aA s,.aH (a5 x)] (.int .i64 (hy x s.l 0)) :=by
 refine bQ Tryz.checked.mixed bj ?_;apply bn Tryz.func78 [];simp[aA];refine cl s.l.length (fun k σ l=>l=[.cells 32 (a5 x)]/\σ 0=cc 32 a5 s/\σ 3=.ptr 0 0 32/\σ 7=.int .i64 s.l.length/\σ 8=.int .i64 k/\∀ (j:Nat) (z:List B),j<k->s.l[j]? = some z->z≠x) ?_ (by simp[aA,dq ag]);rintro k σ l ar ⟨rfl,ck,a6,ei,fT,ak⟩;obtain⟨σ,rfl⟩:=ij ck a6 ei fT;clear ck a6 ei fT;simp;refine nE (fun h=>?_) (fun h=>?_)
 ·simp only[decide_eq_true_eq] at h;obtain⟨y,aI,en⟩:=bJ (l:=s.l) (k:=k) (by omega);have aS:IntKind.i64.wrap ((k:Int)+1)=((k+1:Nat) :Int) :=by rw[IntKind.wrap_i64]; omega
  simp[aI,dq (av y en),dq ag,awR,N0 ag (av y en)];by_cases am:x=y
  ·have ed:=Fv (n:=0) aI ak am.symm;simp[am];exact aU (by rw[<-am,ed]; simp) rfl
  ·simp[am,aS];refine⟨by omega,fun j z ai aw=>?_⟩;by_cases fu:j=k
   ·subst fu; rw[aI] at aw; obtain rfl:=Option.some.inj aw; exact fun h=>am h.symm
   ·exact ak j z (by omega) aw
 ·simp[h];have se:k=s.l.length:=by simp at h; omega
  exact aU (by rw[Og fun j z aw=>ak j z (by rw[se]; exact (awQ.1 aw).1) aw]) rfl
theorem KG (s:dk) (av:ds s) (al:s.l.length<=1000000) (x:List B) (ag:x.length=32) :bw Tryz.prog GS 48 [aA s,.aH (a5 x)] (.bool (decide (x∈s.l))) :=by
 refine bQ Tryz.checked.mixed bj ?_;apply bn Tryz.func48 [];simp[dq ag,awR];refine a7 (ap7 s av al x ag) (by have:=dd s; have:=g2 x; simp_all [a4,U.closed]) ?_;simp;exact aU (congrArg U.bool (by simp only[xy])) rfl
end Op

end Go.bV

namespace Go.bV
open Go Go.Proofs Go.RowKit
set_option maxRecDepth 100000
section
variable {P:Program} {n:Nat}
theorem alV {o:Oper} {a:Act} {w:World} {K fa:Act->World->Prop} {Q yI:Exit->Act->World->Prop} (aY:∀ a w,K a w->fa a w) (jf:∀ e a w,e≠.normal->Q e a w->yI e a w) (h:o.wp P a w K Q) :o.wpIn Fence.wide n P a w fa yI:=by
 unfold Oper.wp at h;refine⟨fun _ _=>trivial,?_⟩;show o.uponIn Fence.wide n P a fa yI ((execOp a.eval o).run P w);cases ag:(execOp a.eval o).run P w with
 | ok x w'=>
  rw[ag] at h;cases x with
  | value v=>exact aY _ _ h
  | skip=>exact aY _ _ h
  | defer d=>exact aY _ _ h
  | enter f args=>
   refine⟨fun bg=>(by cases bg),(callsIn_wide.2 h).mono ?_⟩;rintro (v | Dy | _) w2 ae
   ·exact aY _ _ ae
   ·exact jf _ _ _ (by simp) ae
   ·obtain⟨a0,g9,aT⟩:=ae;exact⟨a0,g9,jf _ _ _ (by simp) aT⟩
  | row r args=>exact⟨fun bg=>(by cases bg),fun c cs _=>let ⟨v,w',r,s⟩:=h c cs; ⟨v,w',aY _ _ r,stepsIn_wide.2 s⟩⟩
  | _=>exact h.elim
 | halt e w'=>
  rw[ag] at h;cases e<;>first | exact jf _ _ _ (by simp) h | exact h.elim
theorem OB {all:Array Oper} {Q:Exit->Act->World->Prop}:∀ {l1 br:List Oper} {a:Act} {w:World},
  wpList P all (fun e a w=>match e with | .normal=>wpListIn Fence.wide n P all Q br a w | _=>False) l1 a w->wpListIn Fence.wide n P all Q (l1++br) a w
 | [],br,a,w,h=>h
 | o::l1,br,a,w,h=>by
  rw[axK];unfold wpList at h;unfold wpListIn;split
  ·rename_i aP;rw[if_pos aP] at h;rcases h with h | ⟨_,a0,g9,aT⟩
   ·refine alV (fun a w aT=>OB aT) (fun e a w am aT=>?_) h;cases e<;>first | exact absurd rfl am | exact aT.elim
   ·exact aT.elim
  ·rename_i aP;rw[if_neg aP] at h;exact⟨fun _ _=>trivial,OB h⟩
end

section
variable {P:Program} {n:Nat}
def h2 (fn:FuncId) (tmps:Array Value) (ps:Array Tmp) (body:Code) (D:Nat) (st:LoopState) (amf:Option Code) :Loop:={ state:=st,pending:=amf,fn,tmps:=tmps,params:=ps,assign:=.skip,body,defers:=D }
theorem anm {g:Operand} {ps:Array Tmp} {body:Code} {Q:Exit->Act->World->Prop} {a:Act} {w:World} {gf:Nat} {lb:Array Value}
  (ax:a.eval g=.func (.func gf) #[] lb) (aeo:∀ args w,(callFunc gf args).run P w=.ok (.enter gf args) w) (vw:ps.size=1)
  {A B:Prop} (T:World->World->Prop) (ew:∀ W eV,T W eV->KeepsOthers W eV)
  (ago:∀ (fn:FuncId) (x:Value) (W:World),gb ((w.alloc (.deferred (some []))).alloc (.loop (h2 fn a.tmps ps body w.heap.size .ready none))) W->
   body.wpIn (Fence.wide.inRound (w.heap.size+1)) n P (fun e _ eV=>e=.ret/\T (W.putObj (w.heap.size+1) (.loop (h2 fn a.tmps ps body w.heap.size .busy none))) eV)
    { tmps:=(ps.zip #[x]).foldl (fun t (p,v)=>t.setIfInBounds p v) a.tmps,defers:=[] } (W.putObj (w.heap.size+1) (.loop (h2 fn a.tmps ps body w.heap.size .busy none))))
  (xd:∀ (fn:FuncId) (cH:World),cH=(w.alloc (.deferred (some []))).alloc (.loop (h2 fn a.tmps ps body w.heap.size .ready none))->
   (∀ (x:Value) (W:World),gb cH W->YieldAt Fence.wide n P (w.heap.size+1) #[x] W fun e eV=>e=.returned (.bool false)/\∃ kD,T (W.putObj (w.heap.size+1) (.loop (h2 fn a.tmps ps body w.heap.size .busy none))) kD ∧
    eV=kD.putObj (w.heap.size+1) (.loop (h2 fn a.tmps ps body w.heap.size .done (some .ret))))->
   CallsIn Fence.wide (n - 1) P gf (#[.func (.yield (w.heap.size+1)) #[] #[]]++lb) cH fun e dU=>(∃ v,e=.returned v)/\((A/\gb cH dU) ∨
    (B/\∃ W kD,gb cH W/\T (W.putObj (w.heap.size+1) (.loop (h2 fn a.tmps ps body w.heap.size .busy none))) kD/\gb (kD.putObj (w.heap.size+1) (.loop (h2 fn a.tmps ps body w.heap.size .done (some .ret)))) dU)))
  (Is:∀ (fn:FuncId) (cH dU:World),cH=(w.alloc (.deferred (some []))).alloc (.loop (h2 fn a.tmps ps body w.heap.size .ready none))->A->gb cH dU->
   Q .normal { a with defers:={ target:=.collected w.heap.size,args:=#[] }::a.defers } (dU.putObj (w.heap.size+1) (.loop (h2 fn a.tmps ps body w.heap.size .exhausted none))))
  (aix:∀ (fn:FuncId) (cH W kD dU:World),cH=(w.alloc (.deferred (some []))).alloc (.loop (h2 fn a.tmps ps body w.heap.size .ready none))->B->gb cH W->
   T (W.putObj (w.heap.size+1) (.loop (h2 fn a.tmps ps body w.heap.size .busy none))) kD->gb (kD.putObj (w.heap.size+1) (.loop (h2 fn a.tmps ps body w.heap.size .done (some .ret)))) dU->
   Q .ret { a with defers:={ target:=.collected w.heap.size,args:=#[] }::a.defers } (dU.putObj (w.heap.size+1) (.loop (h2 fn a.tmps ps body w.heap.size .exhausted (some .ret))))) :
  (Code.rangeFunc g ps .skip body).wpIn Fence.wide n P Q a w:=by
 refine wpIn_rangeFunc ?_;intro fn iR;rw[Fence.wide_round];obtain⟨cH,pO⟩:∃ cH,(w.alloc (.deferred (some []))).alloc (.loop (h2 fn a.tmps ps body w.heap.size .ready none))=cH:=⟨_,rfl⟩
 have Eg:cH.heap[w.heap.size+1]? = some (.loop (h2 fn a.tmps ps body w.heap.size .ready none)) :=by
  rw[<-pO]; have:=World.alloc_heap_new (w.alloc (.deferred (some []))) (.loop (h2 fn a.tmps ps body w.heap.size .ready none)); rwa [World.size_alloc] at this
 have hL:cH.heap.size=w.heap.size+2:=by rw[<-pO]; simp
 refine⟨w.heap.size+1,[{ target:=.collected w.heap.size,args:=#[] }],cH,{ target:=.fn (.func gf) lb,args:=#[.func (.yield (w.heap.size+1)) #[] #[]] },cH,gf,
  #[.func (.yield (w.heap.size+1)) #[] #[]]++lb,cH,?_,?_,?_,?_,fun bg=>(by cases bg),?_⟩
 ·rw[<-pO]; exact run_enterLoop_outer _ _ _ _ _
 ·simp only[resolve,ax];simp[go_sem]
 ·intro y0 VH; trivial
 ·simp[invoke,go_sem,aeo]
 ·refine (xd fn cH pO.symm fun x W af=>?_).mono ?_
  ·have al:W.heap[w.heap.size+1]? = some (.loop (h2 fn a.tmps ps body w.heap.size .ready none)) :=(af.toBelow.block _ (by omega)).trans Eg;have aL:w.heap.size+1<W.heap.size:=(axl.1 al).1;have aI:=run_yield (P:=P) (args:=#[x]) al (by show 1=ps.size; omega);refine⟨fn,_,.skip,body,aI,roundIn_of_wpIn iR (wpIn_skip ⟨_,run_beginRound al rfl,?_⟩)⟩;have jk:(W.putObj (w.heap.size+1) (.loop (h2 fn a.tmps ps body w.heap.size .busy none))).heap[w.heap.size+1]? = some (.loop (h2 fn a.tmps ps body w.heap.size .busy none)) :=World.putObj_heap_same aL;refine wpIn_mono (ago fn x W (by rw[pO]; exact af)) ?_;rintro e b6 kD ⟨rfl,aX⟩;have EN:=(ew _ _ aX).same _ _ jk rfl;have az:=run_endRound (P:=P) (some .ret) EN;exact⟨_,_,az,rfl,kD,aX,rfl⟩
  ·rintro e dU ⟨⟨v,rfl⟩,(⟨dA,af⟩ | ⟨kg,W,kD,af,aX,ej⟩)⟩
   ·have al:dU.heap[w.heap.size+1]? = some (.loop (h2 fn a.tmps ps body w.heap.size .ready none)) :=(af.toBelow.block _ (by omega)).trans Eg;exact⟨none,_,run_endLoop (P:=P) al (by simp[h2]),Is fn cH dU pO.symm dA af⟩
   ·have al:W.heap[w.heap.size+1]? = some (.loop (h2 fn a.tmps ps body w.heap.size .ready none)) :=(af.toBelow.block _ (by omega)).trans Eg;have aL:w.heap.size+1<W.heap.size:=(axl.1 al).1;have jk:(W.putObj (w.heap.size+1) (.loop (h2 fn a.tmps ps body w.heap.size .busy none))).heap[w.heap.size+1]? = some (.loop (h2 fn a.tmps ps body w.heap.size .busy none)) :=World.putObj_heap_same aL;have EN:=(ew _ _ aX).same _ _ jk rfl;have Wb:=(axl.1 EN).1;have sf:dU.heap[w.heap.size+1]? = some (.loop (h2 fn a.tmps ps body w.heap.size .done (some .ret))) :=(ej.toBelow.block _ (by simpa using Wb)).trans (World.putObj_heap_same Wb);exact⟨some .ret,_,run_endLoop (P:=P) sf (by simp[h2]),wpIn_ret (aix fn cH W kD dU pO.symm kg af aX ej)⟩
end
def kZ:Code->List Bool->Code
 | c,[]=>c
 | .seq a b,d::r=>kZ (if d then b else a) r
 | .block _ c,_::r=>kZ c r
 | .loop c,_::r=>kZ c r
 | .cond _ a b,d::r=>kZ (if d then b else a) r
 | .rangeFunc _ _ a b,d::r=>kZ (if d then b else a) r
 | c,_::_=>c
def nH:Code->Array Oper
 | .region _ o _=>o
 | _=>#[]
section
variable {P:Program} {G:Nat->U}
theorem uU (fO:P.follows .mixedOrders=true) (ir:∀ g,(G g).closed=true) {N n:Nat} {code:Code} {c:fM} (ah:comp P N code=some c) {σ:bc} {l:ap} {K:hF} (fV:run P G c σ l K)
  {R:Nat->Prop} {B:Nat} {w:World} {μ:cr} {a:Act} {Q:Exit->Act->World->Prop} (rel:bP R B w (bb l) μ) (g:m5 G w R (bb l) μ) (s:iP N w R (bb l) μ σ a)
  (jf:∀ e cV w' μ' bG l',K e bG l'->dg w (bb l) μ w' (bb l') μ'->bP R B w' (bb l') μ'->iP N w' R (bb l') μ' bG cV->Q e.out cV w') :code.wpIn Fence.wide n P Q a w:=by
 obtain⟨e,bG,l',tx,_,ar⟩:=ZW (awU N) code c ah σ l K fV;obtain⟨ala,ak⟩:=Gr fO ir tx;exact wpIn_wide.2 (pu.wp (ak R B w μ a Q rel g s fun cV w' μ' aS da c0=>jf e cV w' μ' bG l' ar aS da c0))
theorem YN (fO:P.follows .mixedOrders=true) (ir:∀ g,(G g).closed=true) {N n:Nat} {ops:Array Oper} (fB:∀ (i:Nat) (o:Oper),ops[i]? = some o->kf N o.dst=true) {rx:List dp} {os br:List Oper} (dE:oM P ops rx os)
  {σ:bc} {l:ap} {K:bc->ap->Prop} (fV:jp P G rx σ l K)
  {R:Nat->Prop} {B:Nat} {w:World} {μ:cr} {a:Act} {Q:Exit->Act->World->Prop} (rel:bP R B w (bb l) μ) (g:m5 G w R (bb l) μ) (s:iP N w R (bb l) μ σ a)
  (jf:∀ cV w' μ' bG l',K bG l'->dg w (bb l) μ w' (bb l') μ'->bP R B w' (bb l') μ'->iP N w' R (bb l') μ' bG cV->wpListIn Fence.wide n P ops Q br cV w') :wpListIn Fence.wide n P ops Q (os++br) a w:=by
 obtain⟨bG,l',tx,_,ar⟩:=Gj fB dE fV;refine OB ?_;exact Gr fO ir tx R B w μ a _ rel g s fun cV w' μ' aS da c0=>jf cV w' μ' bG l' ar aS da c0
theorem anT {n m:Nat} {l:Nat} {f:FuncId} {tmps:Array Value} {assign body:Code} {w:World} {R:Ending->World->Prop} (h:RoundIn Fence.wide n P l f tmps assign body w R) :RoundIn Fence.wide m P l f tmps assign body w R:=
 ⟨h.1,fun c cs _=>h.2 c cs (room_wide _)⟩
theorem Y6 {R:Nat->Prop} {B:Nat} {w:World} {l:ap} {μ:cr} (rel:bP R B w (bb l) μ) {b sz:Nat} {cs:List U} (af:l[b]? = some (.cells sz cs)) (ah:a4 cs=true) {v:Value} (ao:aQ w R (bb l) μ (.ptr b 0 sz) v) :eh w R (.bM cs 0) v:=by
 have aF:(bb l).f b=.cells sz cs:=l5.2 af;cases ao with
 | nI _ _ _ a ax=>
  rcases ax with h | ⟨n,hT,h,aL⟩
  ·rw[aF] at h; cases h
  ·rw[aF] at h; injection h with ad ae; omega
 | ptr _ _ _ hT m ej hm=>
  rw[aF] at ej;injection ej with _ bt
  subst bt;have ey:=rel.blk b m hm;rw[aF] at ey;obtain⟨ad,ae,arr,e,e4,aj,aD,a2,bv⟩:=ey;have jg:R m.r:=rel.up _ (rel.base b m (by rw[aF]; rfl) hm);refine .bM cs 0 m.r m.s (fun j=>(arr[m.s+j]?).getD undef) (fun j ai=>?_) fun j c ai=>?_
  ·obtain⟨v,bZ,ce,eB⟩:=bv j cs[j] (awT ai);rw[bZ];refine⟨?_,ce,jg,rm _ _⟩;simp only[World.cell?,aj];simpa using bZ
  ·obtain⟨v,bZ,ce,eB⟩:=bv j c ai;rw[bZ];exact (tm eB (yR ah j c ai)).up fun k _ ar=>⟨ar.1,rm _ _⟩
theorem eh.oT {w w' : World} {A:Nat->Prop} {c:U} {v:Value} (ao:eh w A c v) (af:gb w w') :eh w' A c v:=by
 obtain⟨e,_⟩:=x4 (CI w (fun k=>A k\/w.heap.size<=k) fun k ar=>.inr ar) af;exact aQ.nk (R:=A) (⟨e.os,e.tape,e.output,e.size,e.b1,e.own,e.cells,e.gone,e.FR,e.n,e.drawn⟩) ao
end

end Go.bV

namespace Go.bV
open Go Go.Proofs Go.RowKit
set_option maxRecDepth 100000
namespace Op
open hp
def C8 (rO rP kb ta:Array Oper) :Code:=.seq (.region 1 rO false) (.seq (.cond (.tmp 10) .skip (.exit 0)) (.seq (.block 1 (.seq (.region 2 rP false) (.seq (.region 3 kb false) (.cond (.tmp 23) .ret .skip)))) (.region 4 ta false)))
def Bd (cap a3:Int) (parts dF:U) (ord:dk) :List U:=[.int .i64 cap,parts,dF,.int .i64 a3,aA ord]
theorem Ty {cap a3:Int} {parts dF:U} {ord:dk} (au:parts.closed=true) (aT:dF.closed=true) :a4 (Bd cap a3 parts dF ord)=true:=by
 simp[Bd,a4,au,aT,dd,U.closed]
structure uC (E:List U) (ps:dk) (S:List U) (eT:Nat) (cH:World) (k:Nat) (a:Go.Act) (W:World) :Prop where
 size:a.tmps.size=25
 defers:a.defers=[]
 t0:a.tmps.getD 0 undef=.func (.yield eT) #[] #[]
 t8:a.tmps.getD 8 undef=.int .i64 ps.l.length
 t9:a.tmps.getD 9 undef=.int .i64 k
 ex:∃ A,eh W A (.bM (E) 0) (a.tmps.getD 1 undef)/\eh W A (.bM S 0) (a.tmps.getD 2 undef)/\eh W A (aA ps) (a.tmps.getD 7 undef)/\∀ g,eh W A (GS g) (.pointer (some ⟨g,0,none⟩))
 oT:gb cH W
def m2 (E:List U) (ps:dk) (S:List U) (eT k:Nat) :bc:=bB (bB (bB (bB (bB (bB (fun _=>U.bad) 0 (.hE eT)) 1 (.bM (E) 0)) 2 (.bM S 0)) 7 (aA ps)) 8 (.int .i64 ps.l.length)) 9 (.int .i64 k)
theorem uC.Gt {E:List U} {ps:dk} {S:List U} {eT:Nat} {cH:World} {k:Nat} {a:Go.Act} {W:World} (h:uC E ps S eT cH k a W) :
  ∃ R:Nat->Prop,bP R W.heap.size W (bb []) (fun _=>none)/\m5 GS W R (bb []) (fun _=>none)/\iP 25 W R (bb []) (fun _=>none) (m2 E ps S eT k) a:=by
 obtain⟨A,ad,ae,dr,ax⟩:=h.ex;have up:∀ {c:U} {v:Value},eh W A c v->aQ W (fun k=>A k\/W.heap.size<=k) aO.empty (fun _=>none) c v:=fun ah=>ah.up (fun k _ ar=>⟨.inl ar,rm _ k⟩)
 refine⟨fun k=>A k\/W.heap.size<=k,CI W _ fun k ar=>.inr ar,fun g=>⟨bj g,up (ax g)⟩,h.size,h.defers,fun t=>?_⟩;unfold m2;by_cases T0:t=9
 ·subst T0; rw[hV,h.t9]; exact .int _ _
 rw[b5 _ _ _ _ T0];by_cases bC:t=8
 ·subst bC; rw[hV,h.t8]; exact .int _ _
 rw[b5 _ _ _ _ bC];by_cases Bc:t=7
 ·subst Bc; rw[hV]; exact up dr
 rw[b5 _ _ _ _ Bc];by_cases bt:t=2
 ·subst bt; rw[hV]; exact up ae
 rw[b5 _ _ _ _ bt];by_cases aS:t=1
 ·subst aS; rw[hV]; exact up ad
 rw[b5 _ _ _ _ aS];by_cases fA:t=0
 ·subst fA; rw[hV,h.t0]; exact .hE _
 rw[b5 _ _ _ _ fA];exact .bad _
theorem AN {w w' : World} {h' : aO} {μ' : cr} (e:dg w aO.empty (fun _=>none) w' h' μ') :gb w w':=⟨⟨e.os,e.tape,e.output,e.size,fun k ar=>e.b1 k ar (rm _ k)⟩,e.drawn⟩
theorem tj {a b c:World} (ad:gb a b) (ae:gb b c) :gb a c:=⟨ad.toBelow.trans (ae.toBelow.mono ad.toBelow.size),axy ad.drawn ae.drawn⟩
theorem acR (w:World) :gb w w:=⟨RowKit.Below.refl _ w,awU _⟩
theorem uC.mk' {E:List U} {ps:dk} {S:List U} (dh:a4 E=true) (g5:a4 S=true) {eT:Nat} {cH W eV:World} {k:Nat} {cV:Go.Act} {R:Nat->Prop} {l' : ap} {μ' : cr} {bG:bc} (af:gb cH W) (e:dg W aO.empty (fun _=>none) eV (bb l') μ') (g:m5 GS eV R (bb l') μ') (s:iP 25 eV R (bb l') μ' bG cV)
  (hz:bG 0=.hE eT) (bZ:bG 1=.bM (E) 0) (ce:bG 2=.bM S 0) (vM:bG 7=aA ps) (Cf:bG 8=.int .i64 ps.l.length) (xE:bG 9=.int .i64 k) :uC E ps S eT cH k cV eV:=by
 have ah:∀ {t:Nat} {c:U},bG t=c->c.closed=true->eh eV (fun k=>R k) c (cV.tmps.getD t undef) :=fun {t c} aX eb=>by
  have:=s.val t;rw[aX] at this;exact (tm this eb).up fun k _ ar=>⟨ar.1,rm _ k⟩
 refine⟨s.size,s.defers,?_,?_,?_,⟨fun k=>R k,ah bZ (by simp[U.closed,dh]),ah ce (by simp[U.closed,g5]),ah vM (dd _),fun i=>(tm (g i).2 (g i).1).up fun k _ ar=>⟨ar.1,rm _ k⟩⟩,tj af (AN e)⟩
 ·have:=s.val 0; rw[hz] at this; generalize cV.tmps.getD 0 undef=v at this ⊢; cases this; rfl
 ·have:=s.val 8; rw[Cf] at this; generalize cV.tmps.getD 8 undef=v at this ⊢; cases this; rfl
 ·have:=s.val 9; rw[xE] at this; generalize cV.tmps.getD 9 undef=v at this ⊢; cases this; rfl
abbrev akG:List dp:=[fS 0 6 (.qL 1 (du 1)),fS 1 7 (.ot (du 6)),fS 2 8 (.len (.aq 32) (du 7)),fS 3 9 (.fX (.const (.int .i64 0)))]
abbrev akH:List dp:=[fS 0 10 (.bin .lss 3 (du 9) (du 8))]
abbrev akI:List dp:=[fS 0 11 (.xw (.aq 32) (du 7) (du 9)),fS 1 12 (.mz 32 (du 11)),fS 2 5 (.alloc (rep 32 (.int .u8 0))),Gm 3 (.st 32 (du 5) (du 12))]
abbrev akJ:List dp:=[fS 0 13 (.qL 4 (du 2)),fS 1 14 (.ot (du 13)),fS 2 15 (.mz 32 (du 5)),sc 3 16 48 [(du 14),(du 15)],fS 4 17 (.un .not (du 16)),nL 5 18 17,CM 6 19 18 true (.fX (du 0)),CM 7 20 18 true (.mz 32 (du 5))]
abbrev akK:List dp:=[CM 9 22 18 true (.un .not (du 21)),fS 10 23 (.pick (du 18) (du 22) (.const (.bool false)))]
theorem Dj {P:Program} {ops:Array Oper}:∀ {idx:List Nat} {rx:List dp} {os:List Oper},idx.mapM (fun i=>CQ P ops i [] false)=some rx->os.map some=idx.map (fun i=>ops[i]?)->oM P ops rx os:=by
 intro idx rx os ad ae;exact La (fun i x ag=>by obtain⟨o,ae,aj,_⟩:=Gu ag; exact⟨o,ae,aj⟩) ad ae.symm
def OI:fM:=(.seq (.l3 [fS 0 10 (.bin .lss 3 (du 9) (du 8))]) (.seq (.cond (du 10) .skip (.exit 0)) (.seq (.block 1 (.seq (.l3 [fS 0 11 (.xw (.aq 32) (du 7) (du 9)),fS 1 12 (.mz 32 (du 11)),fS 2 5 (.alloc (rep 32 (.int .u8 0))),Gm 3 (.st 32 (du 5) (du 12))]) (.seq (.l3 [fS 0 13 (.qL 4 (du 2)),fS 1 14 (.ot (du 13)),fS 2 15 (.mz 32 (du 5)),sc 3 16 48 [(du 14),(du 15)],fS 4 17 (.un .not (du 16)),nL 5 18 17,CM 6 19 18 true (.fX (du 0)),CM 7 20 18 true (.mz 32 (du 5)),⟨8,(some 21),(some ((some 18),true)),.nd (du 19) [(du 20)],[],false⟩,CM 9 22 18 true (.un .not (du 21)),fS 10 23 (.pick (du 18) (du 22) (.const (.bool false)))]) (.cond (du 23) .ret .skip)))) (.l3 [fS 0 24 (.bin .add 3 (du 9) (.const (.int .i64 1))),nL 1 9 24]))))
structure abY (AI rO rP kb ta:Array Oper) (sI:Oper) :Prop where
 body:Tryz.f163.body=some (.seq (.region 0 AI false) (.block 0 (.loop (C8 rO rP kb ta))))
 rY:comp Tryz.prog 25 (.region 0 AI false)=some (.l3 akG)
 bS:comp Tryz.prog 25 (.region 1 rO false)=some (.l3 akH)
 b7:comp Tryz.prog 25 (.region 2 rP false)=some (.l3 akI)
 Tj:comp Tryz.prog 25 (C8 rO rP kb ta)=some OI
 split:kb.toList=kb.toList.take 8++(sI::(kb.toList.drop 9++[]))
 alI:oM Tryz.prog kb akJ (kb.toList.take 8)
 alJ:oM Tryz.prog kb akK (kb.toList.drop 9)
 TW:∀ (i:Nat) (o:Oper),kb[i]? = some o->kf 25 o.dst=true
 alE:sI.op=.call { callee:=.value (.tmp 19),args:=#[.tmp 20],argTypes:=#[61] }
 alC:sI.dst=some 21
 alD:sI.guard=some (5,true)
 alB:(kb[5]?).bind (·.dst)=some 18
theorem aej {R:Array Oper} (dE:(R.toList.all fun o=>kf 25 o.dst)=true) (i:Nat) (o:Oper) (h:R[i]? = some o) :kf 25 o.dst=true:=by
 exact axx.1 dE o (by rw[<-ayd] at h; exact awY h)
theorem X4:∃ AI rO rP kb ta sI,abY AI rO rP kb ta sI:=
 ⟨nH (kZ ((Tryz.f163.body).getD .skip) [false]),
  nH (kZ ((Tryz.f163.body).getD .skip) [true,false,false,false]),
  nH (kZ ((Tryz.f163.body).getD .skip) [true,false,false,true,true,false,false,false]),
  nH (kZ ((Tryz.f163.body).getD .skip) [true,false,false,true,true,false,false,true,false]),
  nH (kZ ((Tryz.f163.body).getD .skip) [true,false,false,true,true,true]),
  ((nH (kZ ((Tryz.f163.body).getD .skip) [true,false,false,true,true,false,false,true,false])).toList.drop 8).headD { op:=.move (.tmp 0),dst:=none,type:=0,pos:= "",after:=#[],guard:=none },
  ⟨by kernel_rfl,by kernel_rfl,by kernel_rfl,by kernel_rfl,by kernel_rfl,by kernel_rfl,Dj (idx:=[0,1,2,3,4,5,6,7]) (by kernel_rfl) (by kernel_rfl),Dj (idx:=[9,10]) (by kernel_rfl) (by kernel_rfl),
  aej (by kernel_rfl),by kernel_rfl,by kernel_rfl,by kernel_rfl,by kernel_rfl⟩⟩
end Op

end Go.bV
