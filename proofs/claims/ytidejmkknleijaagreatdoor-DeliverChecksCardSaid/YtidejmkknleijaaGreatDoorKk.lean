/-
  Stores: great ones, copies, and whether two are the same, in the reference.
-/
import Derived.Test.YtidejmkknleijaaGreatDoorKj
set_option linter.unusedVariables false
set_option linter.unusedSimpArgs false
set_option linter.unnecessarySimpa false
namespace Go.ca
open Go Go.Proofs
set_option maxRecDepth 100000
namespace Op
open hN
def rm (p:bo) :Bool:=decide (16<p.ops.l.length)||(decide (16<p.ids.l.length)||ry p)
def ox (s:dH) :Bool:=(s.parts.l.take 7).any rm||(decide (6<s.parts.l.length)||decide (60<s.cZ.l.length))
def xf (s:dC) :Bool:=ox s.bR||decide (70<s.order.l.length)
set_option maxHeartbeats 8000000 in
theorem aaO (s:dH) :bn Tryz.prog GS 57 [.aH (cY s)] (.bool (ox s)) :=by
 refine bD Tryz.checked.mixed bx ?_;apply bf Tryz.func57 [];have fD:=tL s.parts;have bq:(cY s).length=3:=rfl;have fr:∀ h,(cY s)[0]'h=hs s.parts:=fun _=>rfl
 have Gf:∀ h,(cY s)[1]'h=az s.cZ:=fun _=>rfl
 have WV:ch (.ar 32) (az s.cZ)=some (.int .i64 s.cZ.l.length) :=by simp[az]
 simp[bq];obtain⟨n,aD⟩:∃ n,n=min s.parts.l.length 7:=⟨_,rfl⟩
 refine cm n (fun k ae l=>l=[.cells 3 (cY s)]/\ae 1=.ptr 0 0 3/\ae 3=.int .i64 k/\∀ j,j<k->rm (gv s.parts.l j)=false) ?_ ⟨rfl,by simp,by simp,fun j aj=>by omega⟩;rintro k ae l ax ⟨rfl,aN,aZ,hG⟩;obtain⟨ae,rfl⟩:=o6 aN aZ;clear aN aZ;have aS:IntKind.i64.wrap ((k:Int)+1)=((k+1:Nat) :Int) :=by rw[IntKind.wrap_i64]; omega
 by_cases br:k<s.parts.l.length
 ·by_cases C2:k<=6
  ·have zY:(k:Int)<=6:=by omega
   obtain⟨p,av,fE⟩:=bF br;have bU:=pO av;have hR:=aaM p;have j9:=gS av;have hO:(bI p).length=2:=rfl;have j6:∀ h,(bI p)[0]'h=az p.ids:=fun _=>rfl
   have l4:∀ h,(bI p)[1]'h=bw p.ops:=fun _=>rfl
   have s9:=sV p;have cA:ch (.ar 11) (bw p.ops)=some (.int .i64 p.ops.l.length) :=by simp[bw]
   have cv:ch (.ar 32) (az p.ids)=some (.int .i64 p.ids.l.length) :=by simp[az]
   change bn _ _ _ [.aH (bI p)] _ at hR;have hu:rm p=true->ox s=true:=fun h=>by
    unfold ox;rw[al4.2 ⟨p,akj.2 ⟨k,by rw[aku (by omega)]; exact av⟩,h⟩]; rfl
   obtain⟨mG,Mg⟩:∃ mG,mG=bI p:=⟨_,rfl⟩
   rw[<-Mg] at bU hR hO s9;simp only[<-Mg] at j6 l4;have po:mG.take 2=mG:=aj9 (by omega);by_cases ad:16<p.ops.l.length
   ·have dD:(16:Int)<(p.ops.l.length:Int) :=by omega
    have:=hu (by unfold rm; rw[decide_eq_true ad]; rfl);simp[bq,fr,fD,br,C2,zY,bU,hO,l4,cA,ad,dD];exact aJ (by rw[this]) rfl
   ·have dD:¬ (16:Int)<(p.ops.l.length:Int) :=by omega
    by_cases af:16<p.ids.l.length
    ·have fI:(16:Int)<(p.ids.l.length:Int) :=by omega
     have:=hu (by unfold rm; rw[decide_eq_true af]; simp);simp[bq,fr,fD,br,C2,zY,bU,hO,j6,l4,cA,cv,ad,dD,af,fI];exact aJ (by rw[this]) rfl
    ·have fI:¬ (16:Int)<(p.ids.l.length:Int) :=by omega
     simp[bq,fr,fD,br,C2,zY,bU,hO,j6,l4,cA,cv,ad,dD,af,fI,po];refine aY hR (by simp[a1,U.closed,s9]) ?_;cases al:ry p with
     | true=>
      have:=hu (by unfold rm; rw[al]; simp);simp;exact aJ (by rw[this]) rfl
     | false=>
      simp[aS];refine⟨by omega,fun j aj=>?_⟩;by_cases fX:j=k
      ·rw[fX,j9]; unfold rm; rw[decide_eq_false ad,decide_eq_false af,al]; rfl
      ·exact hG j (by omega)
  ·have zY:¬ (k:Int)<=6:=by omega
   have c9:6<s.parts.l.length:=by omega
   have pn:(6:Int)<(s.parts.l.length:Int) :=by omega
   have:ox s=true:=by unfold ox; rw[decide_eq_true c9]; simp
   simp[bq,fr,fD,br,C2,zY,c9,pn];exact aJ (by rw[this]) rfl
 ·have cH:(s.parts.l.take 7).any rm=false:=alY.2 fun h=>by
   obtain⟨q,a8,ag⟩:=al4.1 h;obtain⟨j,aj⟩:=akj.1 (akD a8);have:=hG j (by have:=(aj7.1 aj).1; omega);rw[gS aj,ag] at this; cases this
  by_cases c9:6<s.parts.l.length
  ·have pn:(6:Int)<(s.parts.l.length:Int) :=by omega
   have:ox s=true:=by unfold ox; rw[decide_eq_true c9]; simp
   simp[bq,fr,fD,br,c9,pn];exact aJ (by rw[this]) rfl
  ·have pn:¬ (6:Int)<(s.parts.l.length:Int) :=by omega
   have:ox s=decide (60<s.cZ.l.length) :=by unfold ox; rw[cH,decide_eq_false c9]; rfl
   have a8:decide ((60:Int)<(s.cZ.l.length:Int))=decide (60<s.cZ.l.length) :=decide_eq_decide.2 (by omega);simp[bq,fr,Gf,fD,WV,br,c9,pn,a8];exact aJ (by rw[this]) rfl
theorem aaP (s:dC) :bn Tryz.prog GS 30 [.aH (bE s)] (.bool (xf s)) :=by
 refine bD Tryz.checked.mixed bx ?_;apply bf Tryz.func30 [];have hR:=aaO s.bR;have cA:ch (.ar 32) (az s.order)=some (.int .i64 s.order.l.length) :=by simp[az]
 have pr:=rn s.bR.parts;have rE:=cW s.bR.cZ;have a8:decide ((70:Int)<(s.order.l.length:Int))=decide (70<s.order.l.length) :=decide_eq_decide.2 (by omega);unfold cY at hR;simp[bE];refine aY hR (by simp[a1,U.closed,pr,rE]) ?_;unfold xf;cases h:ox s.bR with
 | true=>
  simp;exact aJ rfl rfl
 | false=>
  simp[cA,a8];exact aJ (by simp) rfl
def Ep (a b:dC) :Bool:=decide (a.cap=b.cap)&&(lK a.bR b.bR&&decide (a.order.l=b.order.l))
set_option maxHeartbeats 4000000 in
theorem aa2 (a b:dC) (aC:uU a.bR) (ag:uU b.bR) (xm:eh a.order) (Gs:eh b.order) (hd:a.order.l.length<=1000000) :bn Tryz.prog GS 23 [.aH (bE a),.aH (bE b)] (.bool (Ep a b)) :=by
 refine bD Tryz.checked.mixed bx ?_;apply bf Tryz.func23 [];unfold Ep;have ak:=P1 a.bR b.bR aC ag;have aB:=yl a.order b.order xm Gs hd;have a2:=rn a.bR.parts;have bb:=cW a.bR.cZ;have cr:=cW a.order;have dn:=rn b.bR.parts;have dc:=cW b.bR.cZ;have iJ:=cW b.order;unfold cY at ak;by_cases ad:a.cap=b.cap
 ·simp[bE,ad];refine aY ak (by simp[a1,U.closed,a2,bb,dn,dc]) ?_;cases af:lK a.bR b.bR with
  | true=>
   simp;refine aY aB (by simp[a1,U.closed,cr,iJ]) ?_;simp;exact aJ (by simp[ad]) rfl
  | false=>
   simp;exact aJ (by simp[ad]) rfl
 ·simp[bE,ad];exact aJ (by simp[ad]) rfl
def rc (s:dH) :dH:=⟨cV (s.parts.l.map dL),some s.cZ.l,s.fa⟩
def o4 (s:dC) :dC:=⟨s.cap,rc s.bR,some s.order.l⟩
theorem Kq {l:ap} {b:Nat} (qt:l[b]? = some (.cells 0 [])) (s:eE) (h:eh s) (am:s.l.length<=1000000) :
  fS l 32 32 (.ar 32 b 0 0 0 0) (az s)=some (.ar 32 b 0 s.l.length s.l.length (s.l.length*32),l.set b (.cells (s.l.length*32) (s.l.map aX).flatten)) :=by
 have ay:cF=140737488355328:=rfl;exact BK (enc:=aX) (by_:=32) l b qt s (fun x ai=>cP (h x ai)) (by omega) (by omega) (by rw[ay]; omega)
structure Sp (s:dH) (k:Nat) (ae:a7) (l:ap) :Prop where
 aN:ae 1=.ptr 0 0 3
 aT:ae 2=.ptr 1 0 3
 aZ:ae 3=.ptr 3 0 3
 a9:ae 4=.int .i64 k
 iM:∃ v j rest,l=.cells 3 [hs s.parts,az s.cZ,.int .i64 s.fa] ::.cells 3 [.aK,.aK,.int .i64 0] ::.dead::.cells 3 [v,az (some s.cZ.l),.int .i64 s.fa] ::rest/\bJ 2 l v j (((s.parts.l.take k).map dL).map bI)/\(v=.aK\/4<=j)/\cw v=(s.parts.l.take k).isEmpty
theorem UP {l:ap} {a b c d:aU} (aF:l[0]? = some a) (ad:l[1]? = some b) (af:l[2]? = some c) (al:l[3]? = some d) :∃ r,l=a::b::c::d::r:=by
 match l,aF,ad,af,al with
 | ey::bc::c'::Lg::r,aF,ad,af,al=>
  simp at aF ad af al;subst aF ad af al;exact⟨r,rfl⟩
set_option maxHeartbeats 8000000 in
theorem abd (s:dH) (ak:kT s) :bn Tryz.prog GS 42 [.aH (cY s)] (.aH (cY (rc s))) :=by
 refine bD Tryz.checked.mixed bx ?_;apply bf Tryz.func42 [[[0],[1],[2],[4],[5],[7],[3,7,5],[6]],[[0],[1],[2],[3],[4],[5],[6],[7,1]]];have ay:cF=140737488355328:=rfl;have fD:=tL s.parts;have G3:=ak.qV;have aw:∀ x∈s.cZ.l,(aX x).length=32:=fun x ai=>cP (ak.cZ x ai)
 have a2:=Kq (l:=[.cells 3 [hs s.parts,az s.cZ,.int .i64 s.fa],.cells 3 [.aK,.aK,.int .i64 0],.cells 0 [],.cells 3 [.aK,.aK,.int .i64 0]]) (b:=2) rfl s.cZ ak.cZ ak.AO;have bv:U.b1 32 (s.cZ.l.map aX)=az (some s.cZ.l) :=rfl;have dy:=js (some s.cZ.l);simp[cY,a2];refine cM.vo (by exact sg aw rfl rfl) rfl ?_;simp[bv,dy,bi];refine cm s.parts.l.length (Sp s) ?_ ⟨by simp,by simp,by simp,by simp,.aK,0,[],rfl,.nil 0,.inl rfl,rfl⟩;rintro k ae l ax ⟨aN,aT,aZ,a9,v,j,rest,rfl,ir,aj,hS⟩;obtain⟨ae,rfl⟩:=h1 aN aT aZ a9;clear aN aT aZ a9;have aS:IntKind.i64.wrap ((k:Int)+1)=((k+1:Nat) :Int) :=by rw[IntKind.wrap_i64]; omega
 by_cases br:k<s.parts.l.length
 ·obtain⟨p,av,fE⟩:=bF br;have bU:=pO av;have jC:=IP p (ak.parts p fE).1;have hO:(bI p).length=2:=rfl;have s9:=sV p;have bY:(s.parts.l.take (k+1)).map dL=(s.parts.l.take k).map dL++[dL p] :=by rw[akC,av,aks]; rfl
  change bn _ _ _ [.aH (bI p)] (.aH (bI (dL p))) at jC;obtain⟨mG,l4⟩:∃ mG,mG=bI p:=⟨_,rfl⟩
  obtain⟨Q,qr⟩:∃ Q,Q=bI (dL p) :=⟨_,rfl⟩
  have vx:Q.length=2:=by rw[qr]; rfl
  rw[<-l4] at bU jC hO s9;rw[<-qr] at jC;have po:mG.take 2=mG:=aj9 (by omega);have Ge:Q.take 2=Q:=aj9 (by omega);have Gd:bi [U.aK,.aK] 0 Q=Q:=gl (by rw[vx]; rfl);obtain⟨a4,cb,l',dn,dc,iJ,ng,u6,BN,ql⟩:=Ix (by_:=48) (n:=4) (c:=rest.length+1+1+1+1) (ir.more [aU.cells 2 Q]) aj (by simp) (by simp) vx (by omega) (by omega) (by rw[ay]; simp; omega);have dw:∀ b,b<4->l'[b]? = (aU.cells 3 [hs s.parts,az s.cZ,.int .i64 s.fa] ::aU.cells 3 [.aK,.aK,.int .i64 0] ::aU.dead::aU.cells 3 [v,az (some s.cZ.l),.int .i64 s.fa] ::rest)[b]?:=fun b ag=>by
   rw[BN b (by simp; omega) (by rcases aj with e | e; exact .inl e; exact .inr (by omega)),aj8 (by simp; omega)]
  obtain⟨lb,rfl⟩:=UP (dw 0 (by omega)) (dw 1 (by omega)) (dw 2 (by omega)) (dw 3 (by omega));simp only[ak6] at dn;simp[fD,br,bU,hO,po];refine aY jC (by simp[a1,U.closed,s9]) ?_;simp[vx,Ge,Gd,dn];refine cM.cc ?_;have tv:=oU dc;simp[tv,bi,aS];refine⟨br,by simp,by simp,by simp,by simp,a4,cb,lb,rfl,?_,.inr ng,by rw[iJ,akC,av]; simp⟩;rw[bY,aks,akx,alA,<-qr];refine dc.jt (.inr ?_);obtain⟨hw,rfl⟩:∃ hw,cb=hw+4:=⟨cb - 4,by omega⟩
  rfl
 ·have dR:k=s.parts.l.length:=by omega
  subst dR;rw[akE] at ir hS;simp[fD];have kF:ii (aU.cells 3 [hs s.parts,az s.cZ,.int .i64 s.fa] ::aU.cells 3 [v,az (some s.cZ.l),.int .i64 s.fa] ::aU.dead::aU.cells 3 [v,az (some s.cZ.l),.int .i64 s.fa] ::rest) v (hs (cV (s.parts.l.map dL))) :=by
   refine (ir.jt (l':=aU.cells 3 [hs s.parts,az s.cZ,.int .i64 s.fa] ::aU.cells 3 [v,az (some s.cZ.l),.int .i64 s.fa] ::aU.dead::aU.cells 3 [v,az (some s.cZ.l),.int .i64 s.fa] ::rest) ?_).q.q4 sV (cV (s.parts.l.map dL)) ?_ (dm _)
   ·rcases aj with h | h
    ·exact .inl h
    ·right;obtain⟨hw,rfl⟩:∃ hw,j=hw+4:=⟨j - 4,by omega⟩
     rfl
   ·rw[hS,nS]; simp
  have mU:=cW (some s.cZ.l);refine .aH _ _ rfl fun j c c' ah eP=>?_
  rcases j with _ | _ | _ | j
  ·simp[cY,rc] at ah eP; subst ah eP; exact kF
  ·simp[cY,rc] at ah eP; subst ah eP; exact .same _ mU
  ·simp[cY,rc] at ah eP; subst ah eP; exact .same _ rfl
  ·simp at ah
set_option maxHeartbeats 8000000 in
theorem abe (s:dC) (ak:mJ s) :bn Tryz.prog GS 10 [.aH (bE s)] (.aH (bE (o4 s))) :=by
 refine bD Tryz.checked.mixed bx ?_;apply bf Tryz.func10 [[[0],[1],[2],[3],[5],[6],[7],[4,7,5,1],[8,1]]];have jC:=abd s.bR ak.bR;have pr:=rn s.bR.parts;have rE:=cW s.bR.cZ;have aw:∀ x∈s.order.l,(aX x).length=32:=fun x ai=>cP (ak.order x ai)
 have cH:=ak.no;have a2:=Kq (l:=[.cells 5 [.int .i64 s.cap,hs s.bR.parts,az s.bR.cZ,.int .i64 s.bR.fa,az s.order],.cells 5 [.int .i64 0,.aK,.aK,.int .i64 0,.aK],.cells 0 []]) (b:=2) rfl s.order ak.order (by omega);have bv:U.b1 32 (s.order.l.map aX)=az (some s.order.l) :=rfl;have dy:=js (some s.order.l);unfold cY at jC;simp[bE];refine aY jC (by simp[a1,U.closed,pr,rE]) ?_;simp[a2];refine cM.vo (by exact sg aw rfl rfl) rfl ?_;simp[bv,dy,bi];exact aJ rfl (show (U.aH (bE (o4 s))).closed=true by simp[U.closed,j0])
theorem ZT (x:List B) (ai:x.length=32) (n:Nat) (ad:1<=n) (af:n<=100) :bn Tryz.prog GS 164 [.aH (aX x),.int .i64 n] (.int .i64 (num x n)) :=by
 refine bD Tryz.checked.mixed bx ?_;apply bf Tryz.func164 [];have bm:=cP ai;obtain⟨mM,r,Dq,rS⟩:=OZ ai;have zH:∀ h,(aX x)[0]'h=bz mM:=fun h=>by subst Dq; rfl
 have Gt:mM.toNat<256:=mM.isLt;have pK:IntKind.i64.wrap (u mM)=(mM.toNat:Int) :=by unfold u; rw[IntKind.wrap_i64]; omega
 have xp:=wF mM.toNat (n:Int) (by omega)
 rw[akr] at xp;have tj:¬ n=0:=by omega
 simp[bm,zH,bz,yZ,pK,xp];refine aJ ?_ rfl;rw[rS];simp
theorem Z7 (n i:Nat) (ad:1<=n) (af:n<=100) {l:ap} {pd BO:Nat} (aD:l[pd]? = some (.cells 1 [.int .i64 (n:Int)])) (aB:l[BO]? = some (.cells 1 [.int .i64 (i:Int)])) (xs:List (List B)) (ai:∀ p∈xs,p.length=32) :
  By 175 [.ptr pd 0 1,.ptr BO 0 1] l xs (fun p=>!decide (num p n=i)) :=by
 intro p av l1 ao K bj;apply bf Tryz.func175 [[[0],[1],[3],[2,3]]];have iu:=ai p av;have gT:=cP iu;have Hb:=fU p;have q1:l1[pd]? = some (.cells 1 [.int .i64 (n:Int)]) :=by rw[ao.2 _ (b9 aD)]; exact aD
 have cS:l1[BO]? = some (.cells 1 [.int .i64 (i:Int)]) :=by rw[ao.2 _ (b9 aB)]; exact aB
 have aN:∀ c:aU,(l1++[c])[pd]? = some (.cells 1 [.int .i64 (n:Int)]) :=fun c=>by rw[aj8 (b9 q1)]; exact q1
 have aT:∀ c:aU,(l1++[c])[BO]? = some (.cells 1 [.int .i64 (i:Int)]) :=fun c=>by rw[aj8 (b9 cS)]; exact cS
 have Xe:=ZT p iu n ad af;simp[aN,aT,gT,aj9];refine aY Xe (by simp[a1,U.closed,Hb]) ?_;have c5:decide (((num p n:Nat) :Int)=(i:Int))=decide (num p n=i) :=by
  by_cases h:num p n=i
  ·simp[h]
  ·have:¬ ((num p n:Nat) :Int)=(i:Int) :=by omega
   simp[h]; exact this
 simp[q1,cS,aN,aT,c5];have:=bj (l1++[aU.cells 32 (aX p)]) ⟨by simp,fun b ag=>aj8 ag⟩;exact this
theorem HH (s:eE) (au:eh s) (ak:s.l.length<=1000000) :bn Tryz.prog GS 61 [az s] (az s) :=by
 refine bD Tryz.checked.mixed bx ?_;refine Oh s au ak fun v l' h=>?_
 exact h.rd fU s rfl rfl
theorem OU (s:cT bl) :fT Tryz.prog .eql 45 (bw s) .aK=some (.bool s.isNone) :=Fk (e:=94) (by kernel_rfl) 11 a5 s
theorem LH (l:List bl) :(l.map a5).flatten.length=l.length*11:=vm (z:=11) (enc:=a5) (fun _ _=>rfl)
theorem TA (s:cT bl) (ak:s.l.length<=1000000) {l:ap} {K:U->ap->Prop} (aF:s=none->K .aK l)
  (ad:∀ a,s=some a->K (.ar 11 l.length 0 a.length a.length (a.length*11)) (l++[.cells (a.length*11) (a.map a5).flatten])) :
  dg Tryz.prog GS 121 [bw s] l (c:=⟨K⟩) :=by
 apply bf Tryz.func121 [];have ay:cF=140737488355328:=rfl;cases s with
 | none=>
  simp[OU];exact aF rfl
 | some a=>
  simp at ak;have gI:=LH a;have k0:fS (l++[aU.cells 0 []]) 11 112 (.ar 11 l.length 0 0 0 0) (bw (some a))=some (.ar 11 l.length 0 a.length a.length (a.length*11),l++[.cells (a.length*11) (a.map a5).flatten]) :=by
   unfold fS bw;rw[s1];simp only[cT.v2];unfold i8;by_cases aw:a.length=0
   ·have:a=[] :=akH.1 aw;subst this;simp
   ·rw[if_neg aw,if_neg (by omega)];simp[ay];exact⟨by omega,fun h=>by simp[h]⟩
  simp[OU,k0];refine cM.cc ?_;simp;exact ad a rfl
theorem P4 {l:ap} {a b ey bc:U} (ad:ii l a ey) (af:ii l b bc) :ii l (.aH [a,b]) (.aH [ey,bc]) :=by
 refine .aH _ _ rfl fun j x JT ai qG=>?_
 rcases ow ai with ⟨rfl,rfl⟩ | ⟨rfl,rfl⟩
 ·rcases ow qG with ⟨_,rfl⟩ | ⟨h,_⟩
  ·exact ad
  ·omega
 ·rcases ow qG with ⟨h,_⟩ | ⟨_,rfl⟩
  ·omega
  ·exact af
theorem Z5 (o:bl) :bi (a5 o) 1 [az o.bd]=a5 o:=by
 unfold bi a5; simp
set_option maxHeartbeats 4000000 in
theorem acL (g:bo) (aA:fq g) :bn Tryz.prog GS 125 [cG g] (cG g) :=by
 refine bD Tryz.checked.mixed bx ?_;apply bf Tryz.func125 [[[0],[1],[3],[4],[7],[2,7,4],[5,7],[6]],[[0],[1],[2],[3],[4],[5],[6],[7],[8],[9,1]]];have fK:=cW g.ids;have ea:=jb g.ops;have eQ:=HH g.ids aA.ids aA.li;have Ie:=js g.ids;simp[cG,bI];refine aY eQ (by simp[a1,U.closed,fK]) ?_;simp;refine TA g.ops aA.cE (fun aD=>?_) (fun a aC=>?_)
 ·simp[Ie,bi];refine cm 0 (fun k ae l=>l=[aU.cells 2 [az g.ids,bw g.ops],aU.cells 2 [.aK,.aK],aU.cells 2 [az g.ids,.aK]]/\ae 2=.ptr 1 0 2/\ae 3=.ptr 2 0 2/\ae 14=.int .i64 0/\ae 15=.int .i64 k) ?_ ⟨rfl,by simp,by simp,by simp,by simp⟩;rintro k ae l ax ⟨rfl,aT,aZ,zm,rr⟩;obtain⟨ae,rfl⟩:=h1 aT aZ zm rr;clear aT aZ zm rr;have:k=0:=by omega
  subst this;simp[Ie,bi,aD];have:cG g=.aH [az g.ids,.aK] :=by unfold cG bI; rw[aD]; rfl
  exact aJ this.symm (oe g)
 ·simp[Ie,bi];have hd:a.length<=1000000:=by have:=aA.cE; rw[aC] at this; exact this
  have xm:∀ o∈a,ih o:=fun o au=>aA.ops o (by rw[aC]; exact au)
  have gI:=LH a;have aw:∀ e∈a.map a5,e.length=11:=fun e ao=>by obtain⟨y,_,rfl⟩:=akz.1 ao; rfl
  refine cm a.length (fun k ae l=>l=[aU.cells 2 [az g.ids,bw g.ops],aU.cells 2 [.aK,.aK],aU.cells 2 [az g.ids,U.ar 11 3 0 a.length a.length (a.length*11)],aU.cells (a.length*11) (a.map a5).flatten]/\ae 2=.ptr 1 0 2/\ae 3=.ptr 2 0 2/\ae 14=.int .i64 a.length/\ae 15=.int .i64 k) ?_ ⟨rfl,by simp,by simp,by simp,by simp⟩;rintro k ae l ax ⟨rfl,aT,aZ,zm,rr⟩;obtain⟨ae,rfl⟩:=h1 aT aZ zm rr;clear aT aZ zm rr;have aS:IntKind.i64.wrap ((k:Int)+1)=((k+1:Nat) :Int) :=by rw[IntKind.wrap_i64]; omega
  by_cases br:k<a.length
  ·obtain⟨o,au,ec⟩:=bF br;have lC:=xm o ec;have kz:=cW o.bd;have VT:=HH o.bd lC.ids lC.len;have GZ:(a.map a5)[k]? = some (a5 o) :=by rw[akd,au]; rfl
   have GG:(a.map a5).flatten[k*11+1]? = some (az o.bd) :=w3 aw GZ (by omega);have pG:bi (a.map a5).flatten (k*11+1) [az o.bd]=(a.map a5).flatten:=by
    rw[UJ aw GZ (show 1+[az o.bd].length<=11 by simp)];rw[Z5 o];congr 1;exact akY fun j=>by
     by_cases e:k=j
     ·subst e; rw[akm (by simpa using br),GZ]
     ·rw[akl e]
   have mp:=js o.bd;simp[br,GG];refine aY VT (by simp[a1,kz]) ?_;simp[pG,mp,aS];exact⟨br,by omega,br⟩
  ·have dR:k=a.length:=by omega
   subst dR;simp[bi];exact P4 (.same _ fK) ((sg (enc:=a5) (z:=11) (b:=3) (n:=a.length) (a:=a) (fun _ _=>rfl) rfl (by rfl)).q.q4 kv g.ops (by rw[aC]; rfl) (by rw[aC]; rfl))
def e7 (bB:List Nat) (i:Nat) :Nat:=bB.getD i 0
theorem DW {bB:List Nat} {i n:Nat} (h:bB[i]? = some n) :e7 bB i=n:=by unfold e7; rw[ako,h]; rfl
theorem AP {bB:List Nat} {i j n:Nat} (aj:j<bB.length) :e7 (bB.set j n) i=if i=j then n else e7 bB i:=by
 by_cases h:i=j
 ·subst h; rw[if_pos rfl]; exact DW (akm aj)
 ·rw[if_neg h]; unfold e7; rw[ako,ako,akl (fun e=>h e.symm)]
def oZ:List Nat->Nat
 | []=>0
 | a::l=>a+oZ l
theorem Q2:∀ {l:List Nat} {j:Nat},j<l.length->oZ (l.set j (e7 l j+1))=oZ l+1
 | a::l,0,_=>by show (a+1)+oZ l=a+oZ l+1; omega
 | a::l,j+1,h=>by
  have:=Q2 (l:=l) (j:=j) (by simpa using h);show a+oZ (l.set j (e7 l j+1))=a+oZ l+1;omega
theorem Q1 {c:Nat}:∀ {l:List Nat},(∀ i,i<l.length->e7 l i<=c)->oZ l<=c*l.length
 | [],_=>by simp[oZ]
 | a::l,h=>by
  have ad:=Q1 (c:=c) (l:=l) fun i aB=>h (i+1) (by simpa using aB)
  have af:a<=c:=h 0 (by simp);show a+oZ l<=c*(l.length+1)
  rw[Nat.mul_succ]; omega
theorem acO (n:Nat) :oZ (List.replicate n 0)=0:=by
 induction n with
 | zero=>rfl
 | succ n aQ=>rw[akW]; show 0+_=0; omega
theorem O0 (n i:Nat) :e7 (List.replicate n 0) i=0:=by
 unfold e7; rw[ako,ane]; split<;>rfl
def hq (ps:List bo) (bB:List Nat) (i:Nat) :List B:=bQ (gv ps i).ids.l (e7 bB i)
def k7 (ps:List bo) (bB:List Nat) (i:Nat) (r:Option Nat) :Option Nat:=
 if e7 bB i<(gv ps i).ids.l.length then (match r with | none=>some i | some j=>if b6 (hq ps bB i) (hq ps bB j)<0 then some i else some j) else r
def mm (ps:List bo) (bB:List Nat) :Nat->Option Nat
 | 0=>none
 | i+1=>k7 ps bB i (mm ps bB i)
theorem OD (ps:List bo) (bB:List Nat) (i:Nat) (r:Option Nat) :(¬ e7 bB i<(gv ps i).ids.l.length/\k7 ps bB i r=r)\/(e7 bB i<(gv ps i).ids.l.length/\((r=none/\k7 ps bB i r=some i)\/∃ j,r=some j/\((b6 (hq ps bB i) (hq ps bB j)<0/\k7 ps bB i r=some i)\/(¬ b6 (hq ps bB i) (hq ps bB j)<0/\k7 ps bB i r=some j)))) :=by
 unfold k7;by_cases h:e7 bB i<(gv ps i).ids.l.length
 ·rw[if_pos h];right; refine⟨h,?_⟩;cases r with
  | none=>exact .inl ⟨rfl,rfl⟩
  | some j=>
   right; refine⟨j,rfl,?_⟩;by_cases af:b6 (hq ps bB i) (hq ps bB j)<0
   ·left; exact⟨af,by simp[af]⟩
   ·right; exact⟨af,by simp[af]⟩
 ·rw[if_neg h]; exact .inl ⟨h,rfl⟩
theorem H6 {ps:List bo} {bB:List Nat}:∀ {k:Nat},mm ps bB k=none->∀ i,i<k->¬ e7 bB i<(gv ps i).ids.l.length
 | 0,_,i,aB=>by omega
 | k+1,h,i,aB=>by
  change k7 ps bB k (mm ps bB k)=none at h;rcases OD ps bB k (mm ps bB k) with ⟨ad,af⟩ | ⟨_,⟨_,af⟩ | ⟨j,_,⟨_,af⟩ | ⟨_,af⟩⟩⟩
  ·by_cases e:i=k
   ·subst e; exact ad
   ·exact H6 (by rw[<-af]; exact h) i (by omega)
  all_goals rw[af] at h; cases h
theorem x1 {ps:List bo} {bB:List Nat}:∀ {k j:Nat},mm ps bB k=some j->j<k/\e7 bB j<(gv ps j).ids.l.length/\∀ i,i<k->e7 bB i<(gv ps i).ids.l.length->b6 (hq ps bB j) (hq ps bB i)<=0
 | 0,j,h=>by cases h
 | k+1,j,h=>by
  change k7 ps bB k (mm ps bB k)=some j at h;rcases OD ps bB k (mm ps bB k) with ⟨ad,af⟩ | ⟨ad,⟨al,af⟩ | ⟨m,al,⟨aG,af⟩ | ⟨aG,af⟩⟩⟩
  ·rw[af] at h;obtain⟨a,b,c⟩:=x1 h;exact⟨by omega,b,fun i aB am=>by
    by_cases e:i=k
    ·subst e; exact absurd am ad
    ·exact c i (by omega) am⟩
  ·rw[af] at h; obtain rfl:=Option.some.inj h;exact⟨by omega,ad,fun i aB am=>by
    by_cases e:i=k
    ·subst e; rw[pf]; exact Int.le_refl _
    ·exact absurd am (H6 al i (by omega))⟩
  ·rw[af] at h; obtain rfl:=Option.some.inj h;obtain⟨a,b,c⟩:=x1 al;exact⟨by omega,ad,fun i aB am=>by
    by_cases e:i=k
    ·subst e; rw[pf]; exact Int.le_refl _
    ·have ah:=c i (by omega) am;by_cases aw:b6 (hq ps bB m) (hq ps bB i)=0
     ·rw[<-wR aw]; omega
     ·have:=wS _ _ _ aG (show b6 (hq ps bB m) (hq ps bB i)<0 by omega);omega⟩
  ·rw[af] at h; obtain rfl:=Option.some.inj h;obtain⟨a,b,c⟩:=x1 al;exact⟨by omega,b,fun i aB am=>by
    by_cases e:i=k
    ·subst e; have:=y4 (hq ps bB i) (hq ps bB m); omega
    ·exact c i (by omega) am⟩
structure sF (ps:List bo) :Prop where
 len:∀ p∈ps,p.ids.l.length=p.ops.l.length
 dk:∀ p∈ps,dk p.ids.l=true
 Lm:∀ (i j:Nat) (x:List B) (p q:bo),ps[i]? = some p->ps[j]? = some q->x∈p.ids.l->x∈q.ids.l->i=j
structure uT (ps:List bo) (bB:List Nat) (O:List (List B × bl)) :Prop where
 nl:bB.length=ps.length
 le:∀ (i:Nat) (p:bo),ps[i]? = some p->e7 bB i<=p.ids.l.length
 QL:O.Pairwise fun a b=>hy a.1 b.1=true
 OM:∀ q,q∈O<->∃ (i:Nat) (p:bo) (a:Nat),ps[i]? = some p/\a<e7 bB i/\p.ids.l[a]? = some q.1/\p.ops.l[a]? = some q.2
 aB:∀ q∈O,∀ (i:Nat) (p:bo) (a:Nat) (x:List B),ps[i]? = some p->e7 bB i<=a->p.ids.l[a]? = some x->hy q.1 x=true
 Jh:oZ bB=O.length
theorem Zz (ps:List bo) :uT ps (List.replicate ps.length 0) [] :=
 ⟨by simp,fun i p _=>by rw[O0]; exact alj _,.nil,fun q=>⟨fun h=>(by cases h),fun ⟨i,p,a,_,h,_⟩=>by rw[O0] at h; omega⟩,fun q a8=>(by cases a8),by rw[acO]; rfl⟩
theorem Zx {ps:List bo} {bB:List Nat} {O:List (List B × bl)} (h:uT ps bB O) {c:Nat} (ah:∀ p∈ps,p.ids.l.length<=c) :O.length<=c*ps.length:=by
 rw[<-h.Jh,<-h.nl];refine Q1 fun i aB=>?_
 obtain⟨p,av,fE⟩:=bF (l:=ps) (k:=i) (by rw[<-h.nl]; exact aB);exact akV (h.le i p av) (ah p fE)
theorem Zy {ps:List bo} (W:sF ps) {bB:List Nat} {O:List (List B × bl)} (h:uT ps bB O) {j:Nat} (aj:mm ps bB ps.length=some j) {p:bo} (av:ps[j]? = some p) {x:List B} {o:bl} (ai:p.ids.l[e7 bB j]? = some x) (au:p.ops.l[e7 bB j]? = some o) :
  uT ps (bB.set j (e7 bB j+1)) (O++[(x,o)]) :=by
 obtain⟨ad,af,al⟩:=x1 aj;have fE:=ake av;have ev:j<bB.length:=by rw[h.nl]; exact ad
 rw[gS av] at af;have lx:hq ps bB j=x:=by unfold hq; rw[gS av,fF ai]
 have MN:∀ i,i<ps.length->e7 bB i<=e7 (bB.set j (e7 bB j+1)) i:=fun i _=>by rw[AP ev]; split<;>simp_all
 refine⟨by rw[List.length_set]; exact h.nl,fun i q a8=>?_,?_,fun q=>?_,fun q a8 i r a y ay aC aL=>?_,?_⟩
 ·rw[AP ev];split
  ·rename_i e; subst e; rw[av] at a8; obtain rfl:=Option.some.inj a8; omega
  ·exact h.le i q a8
 ·rw[amN];refine⟨h.QL,anf _ _,fun a aC b ag=>?_⟩;rw[alg.1 ag];exact h.aB a aC j p _ x av (akb _) ai
 ·rw[ak5,h.OM,alg];constructor
  ·rintro (⟨i,r,a,q1,cS,fp⟩ | e)
   ·exact⟨i,r,a,q1,alv cS (MN i (aj7.1 q1).1),fp⟩
   ·subst e; exact⟨j,p,e7 bB j,av,by rw[AP ev,if_pos rfl]; omega,ai,au⟩
  ·rintro⟨i,r,a,q1,cS,fp,mq⟩;rw[AP ev] at cS;split at cS
   ·rename_i e; subst e;rw[av] at q1; obtain rfl:=Option.some.inj q1;by_cases e:a=e7 bB i
    ·right;rw[e,ai] at fp; rw[e,au] at mq;rw[Option.some.inj fp,Option.some.inj mq]
    ·exact .inl ⟨i,p,a,av,by omega,fp,mq⟩
   ·exact .inl ⟨i,r,a,q1,cS,fp,mq⟩
 ·have tf:e7 bB i<=a:=akV (MN i (aj7.1 ay).1) aC;rcases ak5.1 a8 with a8 | a8
  ·exact h.aB q a8 i r a y ay tf aL
  ·rw[alg.1 a8];by_cases e:i=j
   ·subst e;rw[av] at ay; obtain rfl:=Option.some.inj ay;rw[AP ev,if_pos rfl] at aC;exact (mn _ _).2 (oW (W.dk p fE) (show e7 bB i<a by omega) ai aL)
   ·have tq:=ake ay;have hd:=(aj7.1 aL).1;obtain⟨z,aw,xT⟩:=bF (l:=r.ids.l) (k:=e7 bB i) (by omega);have aG:=al i (aj7.1 ay).1 (by rw[gS ay]; omega);have fK:hq ps bB i=z:=by unfold hq; rw[gS ay,fF aw]
    rw[lx,fK] at aG;have bW:b6 x z≠0:=fun hr=>e (by
     have:=wR hr;subst this;exact W.Lm i j x r p ay av xT (ake ai))
    have aO:hy x z=true:=(mn _ _).2 (by omega);by_cases ph:a=e7 bB i
    ·rw[ph,aw] at aL; rw[<-Option.some.inj aL]; exact aO
    ·exact DK _ _ _ aO ((mn _ _).2 (oW (W.dk r tq) (show e7 bB i<a by omega) aw aL))
 ·rw[Q2 ev,h.Jh,akf]; rfl
theorem Zv {ps:List bo} {bB:List Nat} {O:List (List B × bl)} (h:uT ps bB O) (aD:mm ps bB ps.length=none) (q:List B × bl) :q∈O<->∃ p∈ps,∃ a:Nat,p.ids.l[a]? = some q.1/\p.ops.l[a]? = some q.2:=by
 rw[h.OM];constructor
 ·rintro⟨i,p,a,ad,_,af,al⟩; exact⟨p,ake ad,a,af,al⟩
 ·rintro⟨p,av,a,af,al⟩;obtain⟨i,aB⟩:=akj.1 av;have:=H6 aD i (aj7.1 aB).1;rw[gS aB] at this;have:=(aj7.1 af).1;exact⟨i,p,a,aB,by omega,af,al⟩
theorem PE {l m:List (List B × bl)} (am:l.Pairwise fun a b=>hy a.1 b.1=true) (hm:m.Pairwise fun a b=>hy a.1 b.1=true) (h:∀ q,q∈l<->q∈m) :l=m:=
 QM (lt:=fun a b:List B × bl=>hy a.1 b.1) (fun a=>Zj a.1) (fun a b c=>DK a.1 b.1 c.1) am hm h
theorem Ky {p:bo} (am:p.ids.l.length=p.ops.l.length) (ay:dk p.ids.l=true) {x:List B} {o:bl}:jZ p x=some o<->∃ a:Nat,p.ids.l[a]? = some x/\p.ops.l[a]? = some o:=by
 constructor
 ·intro h;unfold jZ at h;split at h
  ·rename_i ah;obtain⟨a,aC⟩:=akj.1 ((tG x p.ids.l 0).1 ah.1);rw[DB (tE ay) aC,akr] at h;exact⟨a,aC,h⟩
  ·cases h
 ·rintro⟨a,aC,au⟩;unfold jZ;have:=(aj7.1 au).1;rw[DB (tE ay) aC,if_pos ⟨by omega,by omega⟩,akr]; exact au
theorem Kx {p:bo} {x:List B} {o:bl} (h:jZ p x=some o) :x∈p.ids.l:=by
 unfold jZ at h;split at h
 ·rename_i ah; exact (tG x p.ids.l 0).1 ah.1
 ·cases h
theorem RL {ps:List bo} (W:sF ps) {x:List B}:∀ {k:Nat},k<=ps.length->(hB ps x k).Pairwise fun a b=>hy a.1 b.1=true
 | 0,_=>.nil
 | k+1,ax=>by
  obtain⟨p,av,_⟩:=bF (l:=ps) (k:=k) (by omega);have aQ:=RL W (x:=x) (k:=k) (by omega);show (hB ps x k++(match jZ (gv ps k) x with | some o=>[(x,o)] | none=>[])).Pairwise _;rw[gS av];cases aC:jZ p x with
  | none=>simpa using aQ
  | some o=>
   have:hB ps x k=[] :=List.eq_nil_iff_forall_not_mem.2 fun q a8=>by
    obtain⟨j,r,ad,af,al,aG⟩:=(EN (by omega)).1 a8;have:=W.Lm j k x r p af av (Kx al) (Kx aC);omega
   rw[this];exact anf _ _
theorem RJ {ps:List bo} (W:sF ps) {ids:List (List B)} (ay:dk ids=true) :∀ {i:Nat},i<=ids.length->(iW ps ids i).Pairwise fun a b=>hy a.1 b.1=true
 | 0,_=>.nil
 | i+1,aB=>by
  obtain⟨x,ai,_⟩:=bF (l:=ids) (k:=i) (by omega);show (iW ps ids i++hB ps (bQ ids i) ps.length).Pairwise _;rw[fF ai,amN];refine⟨RJ W ay (by omega),RL W (akb _),fun a aC b ag=>?_⟩;obtain⟨m,ad,af,_⟩:=(EM (by omega)).1 aC;obtain⟨j,p,_,_,_,aG⟩:=(EN (akb _)).1 ag;rw[aG];exact (mn _ _).2 (oW ay ad af ai)
theorem RF {s:dH} (W:sF s.parts.l) :(dX s).Pairwise fun a b=>hy a.1 b.1=true:=RJ W (acE _) (akb _)
theorem JP {s:dH} (W:sF s.parts.l) (q:List B × bl) :q∈dX s<->∃ p∈s.parts.l,∃ a:Nat,p.ids.l[a]? = some q.1/\p.ops.l[a]? = some q.2:=by
 unfold dX;rw[EM (akb _)];constructor
 ·rintro⟨a,_,_,p,av,h⟩;exact⟨p,av,(Ky (W.len p av) (W.dk p av)).1 h⟩
 ·rintro⟨p,av,a,ad,af⟩;have:q.1∈gQ s:=by
   unfold gQ;obtain⟨j,aj⟩:=akj.1 av;rw[QQ,Fb (akb _)];exact⟨j,p,(aj7.1 aj).1,aj,ake ad⟩
  obtain⟨m,hm⟩:=akj.1 this;exact⟨m,(aj7.1 hm).1,hm,p,av,(Ky (W.len p av) (W.dk p av)).2 ⟨a,ad,af⟩⟩
theorem Zw {s:dH} (W:sF s.parts.l) {bB:List Nat} {O:List (List B × bl)} (h:uT s.parts.l bB O) (aD:mm s.parts.l bB s.parts.l.length=none) :O=dX s:=
 PE h.QL (RF W) fun q=>by rw[Zv h aD,JP W]
def uK (ps:List bo) :Bool:=decide (∀ p∈ps,p.ids.l.length=p.ops.l.length/\dk p.ids.l=true)
theorem yy {ps:List bo}:uK ps=true<->∀ p∈ps,p.ids.l.length=p.ops.l.length/\dk p.ids.l=true:=decide_eq_true_iff
def tU (ps:List bo) :Bool:=decide (∀ i,i<ps.length->∀ x∈(gv ps i).ids.l,num x ps.length=i)
theorem OV {ps:List bo} (h:tU ps=true) (i j:Nat) (x:List B) (p q:bo) (av:ps[i]? = some p) (a8:ps[j]? = some q) (ai:x∈p.ids.l) (aL:x∈q.ids.l) :i=j:=by
 unfold tU at h;rw[decide_eq_true_eq] at h;have ad:=h i (aj7.1 av).1 x (by rw[gS av]; exact ai);have af:=h j (aj7.1 a8).1 x (by rw[gS a8]; exact aL);omega
theorem qK {s:eE} {k:Nat} {x:List B} (h:s.l[k]? = some x) :cN (.ar 32) (az s) (.int .i64 (k:Int))=some (.cg (aX x) 0) :=by simp[az,h]
theorem HE {s:cT bl} {k:Nat} {x:bl} (h:s.l[k]? = some x) :cN (.ar 11) (bw s) (.int .i64 (k:Int))=some (.cg (a5 x) 0) :=by simp[bw,h]
theorem Zi {ps:List bo} {bB:List Nat} {i:Nat} {r:Option Nat} (h:¬ e7 bB i<(gv ps i).ids.l.length) :k7 ps bB i r=r:=by unfold k7; rw[if_neg h]
theorem Zf {ps:List bo} {bB:List Nat} {i:Nat} (h:e7 bB i<(gv ps i).ids.l.length) :k7 ps bB i none=some i:=by unfold k7; rw[if_pos h]
theorem Zh {ps:List bo} {bB:List Nat} {i j:Nat} (h:e7 bB i<(gv ps i).ids.l.length) (af:b6 (hq ps bB i) (hq ps bB j)<0) :k7 ps bB i (some j)=some i:=by unfold k7; rw[if_pos h]; simp[af]
theorem Zg {ps:List bo} {bB:List Nat} {i j:Nat} (h:e7 bB i<(gv ps i).ids.l.length) (af:¬ b6 (hq ps bB i) (hq ps bB j)<0) :k7 ps bB i (some j)=some j:=by unfold k7; rw[if_pos h]; simp[af]
def AJ:Option Nat->Int
 | none=>-1
 | some j=>j
def lY (bB:List Nat) :List U:=bB.map fun (n:Nat)=>U.int .i64 (n:Int)
structure yG (s:dH) (bV w2:U) (bB:List Nat) (l:ap) :Prop where
 cy:l[0]? = some (.cells 3 (cY s))
 q1:l[1]? = some (.cells 2 [.aK,.aK])
 cS:l[2]? = some (.cells 2 [bV,w2])
 fp:l[3]? = some (.cells s.parts.l.length (lY bB))
structure BB (s:dH) (ae:a7) :Prop where
 aN:ae 1=.ptr 0 0 3
 aT:ae 2=.ptr 1 0 2
 aZ:ae 3=.bool false
 a9:ae 4=.ptr 2 0 2
 bg:ae 5=.ar 1 3 0 s.parts.l.length s.parts.l.length s.parts.l.length
def v9 (s:dH) :U:=if uK s.parts.l=true then .bu [cG (c2 (dX s)),.bool true] else .bu [cG ⟨none,none⟩,.bool false]
set_option maxHeartbeats 16000000 in
theorem Zt (s:dH) (ak:kT s) (bh:∀ (i j:Nat) (x:List B) (p q:bo),s.parts.l[i]? = some p->s.parts.l[j]? = some q->x∈p.ids.l->x∈q.ids.l->i=j) :bn Tryz.prog GS 176 [.aH (cY s)] (v9 s) :=by
 refine bD Tryz.checked.mixed bx ?_;apply bf Tryz.func176 [[],[],[[0],[1],[2],[3],[4],[5],[6],[7],[8],[9],[10],[11],[12],[13],[14],[16],[17],[18],[19],[20],[21],[22],[23],[24],[25],[26],[27],[28],[29],[30],[15,30,29,27,23,19,17],[32],[31]]];have ay:cF=140737488355328:=rfl;have fD:=tL s.parts;have G3:=ak.qV;have bq:(cY s).length=3:=rfl;have fr:∀ h,(cY s)[0]'h=hs s.parts:=fun _=>rfl
 obtain⟨a2,bb⟩:=AM (z:=1) (by_:=8) (n:=s.parts.l.length) (k:=.i64) (k':=.i64) (zero:=[U.int .i64 0]) (l:=[.cells 3 (cY s),.cells 2 [.aK,.aK],.cells 2 [.aK,.aK]]) rfl (by omega) (by rw[ay]; omega);simp only[alM] at a2 bb;simp[bq,fr,fD] at a2 ⊢;simp[a2,fr,bq,fD];have NN:dz [U.int .i64 0] s.parts.l.length=lY (List.replicate s.parts.l.length 0) :=by
  rw[A9]; unfold lY; rw[amz];generalize s.parts.l.length=n
  induction n with
  | zero=>rfl
  | succ n aQ=>rw[akW,akW,akT,aQ]; rfl
 rw[NN];have hu:uK s.parts.l=false->v9 s=.bu [.aH [.aK,.aK],.bool false] :=fun h=>by unfold v9; rw[h]; rfl
 refine cm s.parts.l.length (fun i ae l=>BB s ae/\ae 17=hs s.parts/\ae 18=.int .i64 s.parts.l.length/\ae 19=.int .i64 i/\yG s .aK .aK (List.replicate s.parts.l.length 0) l/\∀ (j:Nat) (p:bo),j<i->s.parts.l[j]? = some p->p.ids.l.length=p.ops.l.length/\dk p.ids.l=true) ?_ ⟨⟨by simp,by simp,by simp,by simp,by simp⟩,by simp,by simp,by simp,⟨rfl,rfl,rfl,rfl⟩,fun j _ aj=>by omega⟩;rintro i ae l aB ⟨⟨aN,aT,aZ,a9,bg⟩,ot,ou,ov,g2,hG⟩;obtain⟨ae,rfl⟩:=Rn aN aT aZ a9 bg ot ou ov;clear aN aT aZ a9 bg ot ou ov;have aS:IntKind.i64.wrap ((i:Int)+1)=((i+1:Nat) :Int) :=by rw[IntKind.wrap_i64]; omega
 by_cases eb:i<s.parts.l.length
 ·obtain⟨p,av,fE⟩:=bF eb;obtain⟨iu,Hc,Hd⟩:=ak.parts p fE;have bU:=pO av;have j6:∀ h,(bI p)[0]'h=az p.ids:=fun _=>rfl
  have l4:∀ h,(bI p)[1]'h=bw p.ops:=fun _=>rfl
  have hO:(bI p).length=2:=rfl;have po:(bI p).take 2=bI p:=rfl;have cv:ch (.ar 32) (az p.ids)=some (.int .i64 p.ids.l.length) :=by simp[az]
  have cA:ch (.ar 11) (bw p.ops)=some (.int .i64 p.ops.l.length) :=by simp[bw]
  have w2:∀ qn:aU,(l++[qn])[2]? = some (.cells 2 [.aK,.aK]) :=fun qn=>by rw[aj8 (b9 g2.cS)]; exact g2.cS
  have bV:∀ qn:aU,(l++[qn])[1]? = some (.cells 2 [.aK,.aK]) :=fun qn=>by rw[aj8 (b9 g2.q1)]; exact g2.q1
  have h2:(l++[aU.cells 2 (bI p)])[l.length]? = some (.cells 2 (bI p)) :=alS;have Vq:∀ c:aU,yG s .aK .aK (List.replicate s.parts.l.length 0) (l++[c]) :=fun c=>⟨by rw[aj8 (b9 g2.cy)]; exact g2.cy,bV c,w2 c,by rw[aj8 (b9 g2.fp)]; exact g2.fp⟩
  have fP:∀ c c' : aU,((l++[c]).set 1 c')[1]? = some c':=fun c c'=>akm (by rw[akf]; have:=b9 g2.q1; omega)
  have vV:bi [U.aK,.aK] 0 (bI p)=bI p:=gl rfl;simp[eb,bU,j6,l4,hO,po,vV,cv,cA];by_cases ad:p.ids.l.length=p.ops.l.length
  ·simp[ad];obtain⟨L,dO⟩:∃ L,L=l++[aU.cells 2 (bI p)] :=⟨_,rfl⟩
   have zD:=Vq (aU.cells 2 (bI p));have Rw:=bV (aU.cells 2 (bI p));have Rx:=w2 (aU.cells 2 (bI p));have wk:=fP (aU.cells 2 (bI p));rw[<-dO] at zD h2 Rw Rx wk ⊢;refine cm p.ids.l.length (fun m ae l'=>l'=L/\BB s ae/\ae 7=.ptr l.length 0 2/\ae 8=.int .i64 (m+1:Nat)/\ae 17=hs s.parts/\ae 18=.int .i64 s.parts.l.length/\ae 19=.int .i64 i/\∀ k,k<p.ids.l.length->1<=k->k<m+1->b6 (bQ p.ids.l (k - 1)) (bQ p.ids.l k)<0) ?_ ⟨rfl,⟨by simp,by simp,by simp,by simp,by simp⟩,by simp,by simp,by simp,by simp,by simp,fun k _ _ _=>by omega⟩;rintro m ae l' hm ⟨rfl,⟨aN,aT,aZ,a9,bg⟩,ez,fB,ot,ou,ov,N1⟩;obtain⟨ae,rfl⟩:=adn aN aT aZ a9 bg ez fB ot ou ov;clear aN aT aZ a9 bg ez fB ot ou ov;have bv:IntKind.i64.wrap (((m+1:Nat) :Int)+1)=((m+1+1:Nat) :Int) :=by rw[IntKind.wrap_i64]; omega
   have eR:IntKind.i64.wrap (((m+1:Nat) :Int) - 1)=(m:Int) :=by rw[IntKind.wrap_i64]; omega
   by_cases jA:m+1<p.ids.l.length
   ·obtain⟨x,ai,c7⟩:=bF (l:=p.ids.l) (k:=m) (by omega);obtain⟨y,aL,dP⟩:=bF (l:=p.ids.l) (k:=m+1) (by omega);have z4:((m+1:Nat) :Int)<p.ids.l.length:=by omega
    have eU:=iu.ids x c7;have pM:=iu.ids y dP;have bm:=cP eU;have eV:=cP pM;have eZ:=fU x;have jE:=fU y;have de:cN (.ar 32) (az p.ids) (.int .i64 (m:Int))=some (.cg (aX x) 0) :=by simp[az,ai]
    have ka:=qK aL;have eS:=sW x y eU pM;change bn Tryz.prog GS _ [.aH (aX x),.aH (aX y)] _ at eS;obtain⟨X,cL⟩:∃ X,X=aX x:=⟨_,rfl⟩
    obtain⟨Y,gi⟩:∃ Y,Y=aX y:=⟨_,rfl⟩
    rw[<-cL] at bm eZ de eS;rw[<-gi] at eV jE ka eS;obtain⟨M,fJ⟩:∃ M:Int,M=((m+1:Nat) :Int) :=⟨_,rfl⟩
    rw[<-fJ] at bv eR z4 ka ⊢;simp[h2,hO,j6,cv,z4,eR,de,ka,bm,eV,aj9];refine aY eS (by simp[a1,U.closed,eZ,jE]) ?_;by_cases aO:b6 x y<0
    ·have:¬ 0<=b6 x y:=by omega
     simp[this,bv];refine⟨by omega,⟨by simp,by simp,by simp,by simp,by simp⟩,fun k ad af al=>?_⟩;by_cases ax:k=m+1
     ·subst ax; rw[show m+1 - 1=m by omega,ai,aL]; exact aO
     ·exact N1 k ad af (by omega)
    ·have aF:0<=b6 x y:=by omega
     have aV:uK s.parts.l=false:=decide_eq_false fun h=>aO (by
      have:=oW (h p fE).2 (show m<m+1 by omega) ai aL;exact this)
     rw[hu aV];simp[aF,Rx,Rw,wk,bi];exact aJ rfl rfl
   ·have z4:¬ ((m+1:Nat) :Int)<p.ids.l.length:=by omega
    obtain⟨M,fJ⟩:∃ M:Int,M=((m+1:Nat) :Int) :=⟨_,rfl⟩
    rw[<-fJ] at bv eR z4 ⊢;simp[h2,hO,j6,cv,z4,aS];refine⟨eb,⟨by simp,by simp,by simp,by simp,by simp⟩,zD,fun j q aj a8=>?_⟩;by_cases h7:j=i
    ·subst h7;rw[av] at a8; obtain rfl:=Option.some.inj a8;exact⟨ad,El fun k ad af=>N1 k ad af (by omega)⟩
    ·exact hG j q (by omega) a8
  ·have aV:uK s.parts.l=false:=decide_eq_false fun h=>ad (h p fE).1
   have dD:¬ (p.ids.l.length:Int)=p.ops.l.length:=by omega
   rw[hu aV];simp[ad,dD,w2,bV,fP,bi];exact aJ rfl rfl
 ·have dj:i=s.parts.l.length:=by omega
  subst dj;have aV:uK s.parts.l=true:=yy.2 fun p av=>by
   obtain⟨j,aj⟩:=akj.1 av;exact hG j p (aj7.1 aj).1 aj
  have W:sF s.parts.l:=⟨fun p av=>(yy.1 aV p av).1,fun p av=>(yy.1 aV p av).2,bh⟩
  have Nq:v9 s=.bu [cG (c2 (dX s)),.bool true] :=by unfold v9; rw[aV]; rfl
  rw[Nq];clear hG hu Nq aB eb aS bb a2 NN;simp;refine cm 100000 (fun k ae l=>BB s ae/\∃ bB O bV w2 dW ef,yG s bV w2 bB l/\gE l bV w2 dW ef 4 (O.map (·.1)) (O.map (·.2))/\uT s.parts.l bB O/\O.length=k) ?_ ⟨⟨by simp,by simp,by simp,by simp,by simp⟩,List.replicate s.parts.l.length 0,[],.aK,.aK,0,0,g2,by simpa using D1 _ 4,Zz _,rfl⟩;clear g2;rintro k ae l ax ⟨⟨aN,aT,aZ,a9,bg⟩,bB,O,bV,w2,dW,ef,g2,gK,fJ,WN⟩;obtain⟨ae,rfl⟩:=kq aN aT aZ a9 bg;clear aN aT aZ a9 bg;have nu:O.length<=1000:=by have:=Zx fJ (c:=100) (fun p av=>(ak.parts p av).2.1); omega
  have cy:=g2.cy;simp[cy,bq,fr,fD];refine cm s.parts.l.length (fun i ae l=>BB s ae/\ae 9=.int .i64 (AJ (mm s.parts.l bB i))/\ae 54=hs s.parts/\ae 55=.int .i64 s.parts.l.length/\ae 56=.int .i64 i/\yG s bV w2 bB l/\gE l bV w2 dW ef 4 (O.map (·.1)) (O.map (·.2))) ?_ ⟨⟨by simp,by simp,by simp,by simp,by simp⟩,by simp; rfl,by simp,by simp,by simp,g2,gK⟩;clear g2 gK cy;rintro i ae l aB ⟨⟨aN,aT,aZ,a9,bg⟩,gR,zs,zt,L3,g2,gK⟩;obtain⟨ae,rfl⟩:=Ro aN aT aZ a9 bg gR zs zt L3;clear aN aT aZ a9 bg gR zs zt L3;have aS:IntKind.i64.wrap ((i:Int)+1)=((i+1:Nat) :Int) :=by rw[IntKind.wrap_i64]; omega
  by_cases eb:i<s.parts.l.length
  ·obtain⟨p,av,fE⟩:=bF eb;obtain⟨iu,Hc,Hd⟩:=ak.parts p fE;have bU:=pO av;have j6:∀ h,(bI p)[0]'h=az p.ids:=fun _=>rfl
   have l4:∀ h,(bI p)[1]'h=bw p.ops:=fun _=>rfl
   have hO:(bI p).length=2:=rfl;have po:(bI p).take 2=bI p:=rfl;have cv:ch (.ar 32) (az p.ids)=some (.int .i64 p.ids.l.length) :=by simp[az]
   have vV:bi [U.aK,.aK] 0 (bI p)=bI p:=gl rfl;obtain⟨L,dO⟩:∃ L,L=l++[aU.cells 2 (bI p)] :=⟨_,rfl⟩
   have wp:L[l.length]? = some (.cells 2 (bI p)) :=by rw[dO]; exact alS
   have xi:yG s bV w2 bB L:=by
    rw[dO];exact⟨by rw[aj8 (b9 g2.cy)]; exact g2.cy,by rw[aj8 (b9 g2.q1)]; exact g2.q1,by rw[aj8 (b9 g2.cS)]; exact g2.cS,by rw[aj8 (b9 g2.fp)]; exact g2.fp⟩
   have k5:gE L bV w2 dW ef 4 (O.map (·.1)) (O.map (·.2)) :=by rw[dO]; exact gK.frame fun b _ ag=>aj8 ag
   have jB:=fJ.nl;obtain⟨a,aC⟩:∃ a,bB[i]? = some a:=⟨_,aka (by rw[jB]; exact eb)⟩
   have qA:=DW aC;have er:=fJ.le i p av;rw[qA] at er;have GC:(lY bB)[i]? = some (.int .i64 (a:Int)) :=by unfold lY; rw[akd,aC]; rfl
   have fp:=xi.fp;have j9:=gS av;have iv:mm s.parts.l bB (i+1)=k7 s.parts.l bB i (mm s.parts.l bB i) :=rfl;by_cases hd:a<p.ids.l.length
   ·have zI:e7 bB i<(gv s.parts.l i).ids.l.length:=by rw[qA,j9]; exact hd
    obtain⟨x,ai,c7⟩:=bF hd;have pv:hq s.parts.l bB i=x:=by unfold hq; rw[j9,qA,fF ai]
    cases bj:mm s.parts.l bB i with
    | none=>
     rw[bj,Zf zI] at iv;have aq:AJ none=-1:=rfl;rw[aq];simp[eb,bU,hO,po,vV,<-dO,wp,fp,j6,cv,GC,hd,aS];exact⟨⟨by simp,by simp,by simp,by simp,by simp⟩,by rw[iv]; rfl,xi,k5⟩
    | some j=>
     rw[bj] at iv;obtain⟨b5,ce,il⟩:=x1 bj;obtain⟨r,ay,tq⟩:=bF (l:=s.parts.l) (k:=j) (by omega);have hR:=gS ay;rw[hR] at ce;obtain⟨y,aL,dP⟩:=bF ce;have mW:hq s.parts.l bB j=y:=by unfold hq; rw[hR]; exact fF aL
     obtain⟨b,ag⟩:∃ b,bB[j]? = some b:=⟨_,aka (by rw[jB]; omega)⟩
     have oH:=DW ag;rw[oH] at aL;have zQ:(lY bB)[j]? = some (.int .i64 (b:Int)) :=by unfold lY; rw[akd,ag]; rfl
     have gJ:=pO ay;have zE:(bI r)[0]? = some (az r.ids) :=rfl;have eU:=iu.ids x c7;have pM:=(ak.parts r tq).1.ids y dP;have bm:=cP eU;have eV:=cP pM;have eZ:=fU x;have jE:=fU y;have de:=qK ai;have ka:=qK aL;have eS:=sW x y eU pM;change bn Tryz.prog GS _ [.aH (aX x),.aH (aX y)] _ at eS;obtain⟨X,cL⟩:∃ X,X=aX x:=⟨_,rfl⟩
     obtain⟨Y,gi⟩:∃ Y,Y=aX y:=⟨_,rfl⟩
     rw[<-cL] at bm eZ de eS;rw[<-gi] at eV jE ka eS;have aq:AJ (some j)=(j:Int) :=rfl;rw[aq];have vF:¬ (j:Int)<0:=by omega
     have cy:=xi.cy;have ev:j<s.parts.l.length:=by omega
     simp[eb,bU,hO,po,vV,<-dO,wp,fp,j6,cv,GC,hd,vF,de,ka,cy,bq,fr,gJ,zE,zQ,bm,eV,aj9];refine⟨ev,aY eS (by simp[a1,U.closed,eZ,jE]) ?_⟩;by_cases aO:b6 x y<0
     ·rw[Zh zI (by rw[pv,mW]; exact aO)] at iv;simp[aO,aS];exact⟨eb,⟨by simp,by simp,by simp,by simp,by simp⟩,by rw[iv]; rfl,xi,k5⟩
     ·rw[Zg zI (by rw[pv,mW]; exact aO)] at iv;simp[aO,aS];exact⟨eb,⟨by simp,by simp,by simp,by simp,by simp⟩,by rw[iv]; rfl,xi,k5⟩
   ·have zI:¬ e7 bB i<(gv s.parts.l i).ids.l.length:=by rw[qA,j9]; exact hd
    rw[Zi zI] at iv;simp[eb,bU,hO,po,vV,<-dO,wp,fp,j6,cv,GC,hd,aS];exact⟨⟨by simp,by simp,by simp,by simp,by simp⟩,by rw[iv],xi,k5⟩
  ·have dj:i=s.parts.l.length:=by omega
   subst dj;clear aB eb aS;cases bj:mm s.parts.l bB s.parts.l.length with
   | none=>
    have en:=Zw W fJ bj;have aq:AJ none=-1:=rfl;rw[aq];have hf:fq (c2 (dX s)) :=uL ak;have jC:=acL _ hf;have j8:=oe (c2 (dX s));have cS:=g2.cS;unfold cG bI c2 at jC j8;subst en;simp[cS];refine gK.call fun bt pZ si=>?_
    have e8:bt[1]? = some (.cells 2 [.aK,.aK]) :=by rw[si 1 (by omega)]; exact g2.q1
    have dU:∀ c:aU,(bt.set 1 c)[1]? = some c:=fun c=>akm (b9 e8)
    refine aY jC (by simp[a1,j8]) ?_;have dJ:=js (cV ((dX s).map (·.1)));have dy:=nk (cV ((dX s).map (·.2)));simp[e8,dU,dJ,dy,bi];exact aJ rfl (by simp[U.closed,a1]; exact oe _)
   | some j=>
    obtain⟨b5,ce,il⟩:=x1 bj;obtain⟨r,ay,tq⟩:=bF b5;have hR:=gS ay;rw[hR] at ce;obtain⟨XJ,agB,agC⟩:=ak.parts r tq;have pF:=W.len r tq;obtain⟨x,ai,c7⟩:=bF ce;obtain⟨o,au,ec⟩:=bF (l:=r.ops.l) (k:=e7 bB j) (by omega);have zD:=Zy W fJ bj ay ai au;obtain⟨b,ag⟩:∃ b,bB[j]? = some b:=⟨_,aka (by rw[fJ.nl]; omega)⟩
    have oH:=DW ag;rw[oH] at ai au zD ce;have zQ:(lY bB)[j]? = some (.int .i64 (b:Int)) :=by unfold lY; rw[akd,ag]; rfl
    have gJ:=pO ay;have zE:(bI r)[0]? = some (az r.ids) :=rfl;have Mr:(bI r)[1]? = some (bw r.ops) :=rfl;have eU:=XJ.ids x c7;have bm:=cP eU;have de:=qK ai;have k3:=HE au;have k5:(a5 o).length=11:=rfl;have aq:AJ (some j)=(j:Int) :=rfl;rw[aq];have vF:¬ (j:Int)<0:=by omega
    have ev:j<s.parts.l.length:=b5;obtain⟨X,cL⟩:∃ X,X=aX x:=⟨_,rfl⟩
    obtain⟨Y,gi⟩:∃ Y,Y=a5 o:=⟨_,rfl⟩
    have Gi:=cL;rw[<-cL] at bm de;rw[<-gi] at k5 k3;have gh:X.take 32=X:=aj9 (by omega);have xl:Y.take 11=Y:=aj9 (by omega);have hU:bi (rep 32 (.int .u8 0)) 0 X=X:=gl (by rw[bm]; rfl);have nA:bi [U.int .u32 0,.aK,.int .u64 0,.int .u8 0,.str [],.int .u8 0,.int .i64 0,.int .u64 0,.str [],.int .u32 0,.int .u32 0] 0 Y=Y:=gl (by rw[k5]; rfl);have cy:=g2.cy;have cS:=g2.cS;have fp:=g2.fp;have fZ:=b9 fp;have lm:∀ (m:ap) (i:Nat) (c:aU),l[i]? = some c->(l++m)[i]? = some c:=fun m i c h=>by rw[aj8 (b9 h)]; exact h
    have o9:∀ m:ap,(l++m)[0]? = some (.cells 3 (cY s)) :=fun m=>lm m 0 _ cy
    have fb:∀ m:ap,(l++m)[2]? = some (.cells 2 [bV,w2]) :=fun m=>lm m 2 _ cS
    have n1:∀ m:ap,(l++m)[3]? = some (.cells s.parts.l.length (lY bB)) :=fun m=>lm m 3 _ fp
    have aea:∀ (m:ap) (h:0<(l++m).length),(l++m)[0]'h=.cells 3 (cY s) :=fun m h=>(aj7.1 (o9 m)).2
    have G6:gE (l++[aU.cells 32 X,.cells 11 Y]) bV w2 dW ef 4 (O.map (·.1)) (O.map (·.2)) :=gK.frame fun c _ ah=>aj8 ah
    obtain⟨iC,pP,l1,a2,bb,cr,dY,gF⟩:=G6.Og (c:=l.length) Gi bm (by simp) (by simp; omega) (by rw[aki]; omega);simp[cy,bq,fr,vF,gJ,zE,Mr,cS,fp,o9,aea,fb,n1,zQ,ev,de,bm,gh,hU,k3,k5,xl,nA,a2];have b4:=gK.ix.lt;have hF:bV=.aK\/4<=dW:=gK.dn;have ft:w2=.aK\/4<=ef:=gK.dc;have f:∀ (c:Nat) (y:aU),c<4->l[c]? = some y->l1[c]? = some y:=fun c y ah aL=>by
     rw[dY c (by have:=b9 aL; simp; omega) (by rcases hF with e | e; exact .inl e; exact .inr (by omega)),aj8 (b9 aL)]; exact aL
    have zj:l1[l.length+1]? = some (.cells 11 Y) :=by
     rw[dY (l.length+1) (by simp) (by rcases b4 with e | e; exact .inl e; exact .inr (by omega))]; simp
    have hg:=b9 (f 3 _ (by omega) fp);obtain⟨mD,r3,bt,d1,d2,d3,d4⟩:=bb.O7 (c:=l.length+1) gi zj (by omega) (by rw[aki]; omega);have g:∀ (c:Nat) (y:aU),c<4->l[c]? = some y->bt[c]? = some y:=fun c y ah aL=>by
     rw[d4 c (b9 (f c y ah aL)) (by rcases ft with e | e; exact .inl e; exact .inr (by omega))]; exact f c y ah aL
    have oV:=g 0 _ (by omega) cy;have e8:=g 1 _ (by omega) g2.q1;have dU:=g 2 _ (by omega) cS;have lb:=g 3 _ (by omega) fp;have f2:=f 2 _ (by omega) cS;have f0:=f 0 _ (by omega) cy;have f3:=f 3 _ (by omega) fp;have jy:=b9 lb;refine cM.cc ?_;simp[f0,f2,f3,zj,bq,fr,d1,k5,xl];refine⟨⟨zQ,Mr⟩,cM.cc ?_⟩;have dJ:=oU bb.ix;have dy:=oU d2.hl;have i4:∀ c:aU,(bt.set 2 c)[2]? = some c:=fun c=>akm (by omega)
    have abW:∀ c:aU,(bt.set 2 c)[3]? = some (.cells s.parts.l.length (lY bB)) :=fun c=>by rw[akl (by omega)]; exact lb
    have fu:b<r.ids.l.length:=ce;have bv:IntKind.i64.wrap ((b:Int)+1)=(b:Int)+1:=by rw[IntKind.wrap_i64]; omega
    have iY:j<bB.length:=by rw[fJ.nl]; omega
    have pG:bi (lY bB) j [U.int .i64 ((b:Int)+1)]=lY (bB.set j (b+1)) :=by
     rw[QO (by unfold lY; simpa using iY)];unfold lY; rw[List.map_set]; rfl
    have Ji:bi [bV,w2] 0 [iC]=[iC,w2] :=by simp
    have Jj:bi [iC,w2] 1 [mD]=[iC,mD] :=by simp
    have jA:(O.map (·.1))++[x]=(O++[(x,o)]).map (·.1) :=by rw[aks]; rfl
    have W6:(O.map (·.2))++[o]=(O++[(x,o)]).map (·.2) :=by rw[aks]; rfl
    rw[jA,W6] at d2;simp[dU,i4,abW,dJ,dy,Ji,Jj,zQ,bv,pG];refine⟨ev,by omega,by omega,⟨by simp,by simp,by simp,by simp,by simp⟩,bB.set j (b+1),O++[(x,o)],iC,mD,⟨?_,?_,?_,?_⟩,⟨pP,r3,?_⟩,zD,by rw[akf,WN]; rfl⟩
    ·rw[akl (by omega),akl (by omega)]; exact oV
    ·rw[akl (by omega),akl (by omega)]; exact e8
    ·rw[akl (by omega)]; exact i4 _
    ·exact akm (by simp; omega)
    ·exact d2.frame fun c ah _=>by rw[akl (by omega),akl (by omega)]
theorem Ul (a b:eE) (aC:eh a) (ag:eh b) (am:a.l.length<=1000000) :bn Tryz.prog GS 178 [az a,az b] (.bool (decide (a.l=b.l))) :=by
 refine bD Tryz.checked.mixed bx ?_;apply bf Tryz.func178 [];have mc:ch (.ar 32) (az a)=some (.int .i64 a.l.length) :=by simp[az]
 have kD:ch (.ar 32) (az b)=some (.int .i64 b.l.length) :=by simp[az]
 by_cases ad:a.l.length=b.l.length
 ·have dD:((a.l.length:Int)=b.l.length) :=by omega
  simp[mc,kD,ad];refine cm a.l.length (fun k ae l=>ae 0=az a/\ae 1=az b/\ae 12=.int .i64 a.l.length/\ae 13=.int .i64 k/\∀ j,j<k->a.l[j]? = b.l[j]?) ?_ (by simp[ad]);rintro k ae l ax ⟨cp,aN,kw,kx,ak⟩;obtain⟨ae,rfl⟩:=h1 cp aN kw kx;clear cp aN kw kx;simp;refine nD (fun h=>?_) (fun h=>?_)
  ·simp only[decide_eq_true_eq] at h;obtain⟨x,ai,c7⟩:=bF h;obtain⟨y,aL,dP⟩:=bF (l:=b.l) (k:=k) (by omega);have aS:IntKind.i64.wrap ((k:Int)+1)=((k+1:Nat) :Int) :=by rw[IntKind.wrap_i64]; omega
   have bU:cN (.ar 32) (az a) (.int .i64 (k:Int))=some (.cg (aX x) 0) :=by simp[az,ai]
   have gJ:cN (.ar 32) (az b) (.int .i64 (k:Int))=some (.cg (aX y) 0) :=by simp[az,aL]
   have bm:=cP (aC x c7);have eV:=cP (ag y dP);have bW:=tD (aC x c7) (ag y dP);obtain⟨X,cL⟩:∃ X,X=aX x:=⟨_,rfl⟩
   obtain⟨Y,gi⟩:∃ Y,Y=aX y:=⟨_,rfl⟩
   rw[<-cL] at bU bm bW;rw[<-gi] at gJ eV bW;simp[bU,gJ,bm,eV,aj9,bW];by_cases ao:x=y
   ·simp[ao,aS];refine⟨by omega,fun j aj=>?_⟩;by_cases fX:j=k
    ·subst fX; rw[ai,aL,ao]
    ·exact ak j (by omega)
   ·simp[ao];refine aJ (congrArg U.bool (decide_eq_false fun gw=>ao ?_).symm) rfl;rw[gw,aL] at ai; exact (Option.some.inj ai).symm
  ·simp[h];have pz:k=a.l.length:=by simp at h; omega
   refine aJ (congrArg U.bool (decide_eq_true ?_).symm) rfl;apply akY;intro j;by_cases aj:j<a.l.length
   ·exact ak j (by omega)
   ·rw[akp (by omega),akp (by omega)]
 ·have dD:¬ ((a.l.length:Int)=b.l.length) :=by omega
  simp[mc,kD,ad,dD];exact aJ (by rw[decide_eq_false (fun gw=>ad (by rw[gw]))]) rfl
structure lj (s:dH) :Prop where
 hk:1<=s.parts.l.length
 nF:s.parts.l.length<=4
 x6:tU s.parts.l=true
 wf:uK s.parts.l=true
 e5:g1 (c2 (dX s))=0
 Bp:s.fa=((dX s).length:Int)
 bh:he (c2 (dX s))=s.cZ.l
noncomputable def sx (s:dH) :Bool:=@decide (lj s) (Classical.propDecidable _)
theorem adS {s:dH} (h:lj s) :sx s=true:=@decide_eq_true _ (Classical.propDecidable _) h
theorem adR {s:dH} (h:¬ lj s) :sx s=false:=@decide_eq_false _ (Classical.propDecidable _) h
noncomputable def sA (s:dH) :U:=.bu [cG (if sx s=true then c2 (dX s) else ⟨none,none⟩),.int .i64 (if sx s=true then 0 else 8)]
theorem uM {s:dH} (h:¬ lj s) :sA s=.bu [.aH [.aK,.aK],.int .i64 8] :=by unfold sA; rw[adR h]; rfl
theorem RG {s:dH} (h:lj s) :sA s=.bu [cG (c2 (dX s)),.int .i64 0] :=by unfold sA; rw[adS h]; rfl
theorem Cn (l:List (List B × bl)) :(c2 l).ids.l.length=l.length:=by unfold c2; simp only[dm]; rw[aki]
set_option maxHeartbeats 16000000 in
theorem adM (s:dH) (ak:kT s) :bn Tryz.prog GS 134 [.aH (cY s)] (sA s) :=by
 refine bD Tryz.checked.mixed bx ?_;apply bf Tryz.func134 [];have fD:=tL s.parts;have G3:=ak.qV;have bq:(cY s).length=3:=rfl;have di:(cY s).take 3=cY s:=rfl;have fr:∀ h,(cY s)[0]'h=hs s.parts:=fun _=>rfl
 have Gf:(cY s)[1]? = some (az s.cZ) :=rfl;have xk:(cY s)[2]? = some (.int .i64 s.fa) :=rfl;have h6:∀ h,(cY s)[1]'h=az s.cZ:=fun _=>rfl
 have xh:∀ h,(cY s)[2]'h=.int .i64 s.fa:=fun _=>rfl
 have dp:=wO s;by_cases ad:1<=s.parts.l.length
 ·by_cases aG:s.parts.l.length<=4
  ·have cK:¬ (s.parts.l.length:Int)<1:=by omega
   have fl:¬ (4:Int)<(s.parts.l.length:Int) :=by omega
   simp[bq,fr,fD,bi,cK,fl];refine cm s.parts.l.length (fun i ae l=>ae 1=.ptr 0 0 3/\ae 2=.ptr 1 0 2/\ae 4=.ptr 2 0 1/\ae 22=hs s.parts/\ae 23=.int .i64 s.parts.l.length/\ae 24=.int .i64 i/\l[0]? = some (.cells 3 (cY s))/\l[1]? = some (.cells 2 [.aK,.aK])/\l[2]? = some (.cells 1 [.int .i64 s.parts.l.length])/\∀ (j:Nat) (p:bo),j<i->s.parts.l[j]? = some p->∀ x∈p.ids.l,num x s.parts.l.length=j) ?_ ⟨by simp,by simp,by simp,by simp,by simp,by simp,rfl,rfl,rfl,fun j _ aj=>by omega⟩;rintro i ae l aB ⟨aN,aT,a9,w6,ru,s5,cy,q1,cS,hG⟩;obtain⟨ae,rfl⟩:=uA aN aT a9 w6 ru s5;clear aN aT a9 w6 ru s5;have aS:IntKind.i64.wrap ((i:Int)+1)=((i+1:Nat) :Int) :=by rw[IntKind.wrap_i64]; omega
   by_cases eb:i<s.parts.l.length
   ·obtain⟨p,av,fE⟩:=bF eb;obtain⟨iu,Hc,Hd⟩:=ak.parts p fE;have bU:=pO av;have j6:∀ h,(bI p)[0]'h=az p.ids:=fun _=>rfl
    have hO:(bI p).length=2:=rfl;have po:(bI p).take 2=bI p:=rfl;have vV:bi [U.aK,.aK] 0 (bI p)=bI p:=gl rfl;have jy:=b9 cS;obtain⟨L,dO⟩:∃ L,L=l++[aU.cells 1 [.int .i64 (i:Int)],aU.cells 2 (bI p)] :=⟨_,rfl⟩
    have lm:∀ (k:Nat) (c:aU),l[k]? = some c->L[k]? = some c:=fun k c h=>by rw[dO,aj8 (b9 h)]; exact h
    have adU:L[l.length]? = some (.cells 1 [.int .i64 (i:Int)]) :=by rw[dO]; simp
    have wp:L[l.length+1]? = some (.cells 2 (bI p)) :=by rw[dO]; simp
    have jw:=Z7 s.parts.l.length i ad (by omega) (lm 2 _ cS) adU p.ids.l iu.ids;simp[eb,bU,hO,po,vV,<-dO,wp,j6];refine Le p.ids iu.ids iu.li (by kernel_rfl) jw fun bt ao=>?_
    have ig:=ao.2 1 (b9 (lm 1 _ q1));cases MB:p.ids.l.any fun x=>!decide (num x s.parts.l.length=i) with
    | true=>
     obtain⟨x,ai,Oa⟩:=al4.1 MB;have cH:¬ lj s:=fun h=>by
      have aD:=h.x6;unfold tU at aD;rw[decide_eq_true_eq] at aD;have:=aD i eb x (by rw[gS av]; exact ai);rw[this] at Oa; simp at Oa
     rw[uM cH];have gc:bt[1]? = some (.cells 2 [.aK,.aK]) :=by rw[ig]; exact lm 1 _ q1
     have fb:∀ c:aU,(bt.set 1 c)[1]? = some c:=fun c=>akm (b9 gc)
     simp[gc,fb,bi];exact aJ rfl rfl
    | false=>
     simp[aS];refine⟨eb,?_,?_,?_,fun j q aj a8 x ai=>?_⟩
     ·rw[ao.2 0 (b9 (lm 0 _ cy))]; exact lm 0 _ cy
     ·rw[ig]; exact lm 1 _ q1
     ·rw[ao.2 2 (b9 (lm 2 _ cS))]; exact lm 2 _ cS
     ·by_cases h7:j=i
      ·subst h7;rw[av] at a8; obtain rfl:=Option.some.inj a8;have:=List.any_eq_false.1 MB x ai;simpa using this
      ·exact hG j q (by omega) a8 x ai
   ·have dj:i=s.parts.l.length:=by omega
    subst dj;have qB:tU s.parts.l=true:=by
     unfold tU;rw[decide_eq_true_eq];intro j aj x ai;obtain⟨p,av,_⟩:=bF aj;exact hG j p aj av x (by rw[gS av] at ai; exact ai)
    have W3:=Zt s ak (OV qB);clear hG eb aB aS;simp[cy,bq,di];refine aY W3 (by simp[a1,U.closed,dp]) ?_;have e2:=b9 cS;cases aV:uK s.parts.l with
    | false=>
     have cH:¬ lj s:=fun h=>by have:=h.wf; rw[aV] at this; cases this
     rw[uM cH];unfold v9;rw[aV];have gc:∀ c:aU,(l++[c])[1]? = some (.cells 2 [.aK,.aK]) :=fun c=>by rw[aj8 (b9 q1)]; exact q1
     have fb:∀ c c' : aU,((l++[c]).set 1 c')[1]? = some c':=fun c c'=>akm (b9 (gc c))
     have dJ:(az none).cells=some [az none] :=rfl;have dy:(bw none).cells=some [bw none] :=rfl;simp[cG,bI,bi,dJ,dy,gc,fb];exact aJ rfl rfl
    | true=>
     have hf:fq (c2 (dX s)) :=uL ak;have ff:=Rz _ hf;have CW:=adD _ hf;obtain⟨g,aA⟩:∃ g,g=c2 (dX s) :=⟨_,rfl⟩
     have rK:g.ids.l.length=(dX s).length:=by rw[aA]; exact Cn _
     unfold v9;rw[aV,if_pos rfl];rw[<-aA] at hf ff CW ⊢;have gc:∀ c:aU,(l++[c])[1]? = some (.cells 2 [.aK,.aK]) :=fun c=>by rw[aj8 (b9 q1)]; exact q1
     have o9:∀ c:aU,(l++[c])[0]? = some (.cells 3 (cY s)) :=fun c=>by rw[aj8 (b9 cy)]; exact cy
     have fb:∀ c c' : aU,((l++[c]).set 1 c')[1]? = some c':=fun c c'=>akm (b9 (gc c))
     have dJ:=js g.ids;have dy:=nk g.ops;have fK:=cW g.ids;have ea:=jb g.ops;have cv:ch (.ar 32) (az g.ids)=some (.int .i64 g.ids.l.length) :=by simp[az]
     unfold cG bI at ff CW;simp[cG,bI,bi,dJ,dy,o9,gc];refine aY ff (by simp[a1,U.closed,fK,ea]) ?_;by_cases aF:g1 g=0
     ·have Bv:∀ (c:aU) (h:0<(l++[c]).length),(l++[c])[0]'h=.cells 3 (cY s) :=fun c h=>(aj7.1 (o9 c)).2
      by_cases aq:s.fa=(g.ids.l.length:Int)
      ·have tx:az (uJ g)=az (cV (he g)) :=by unfold uJ; rw[if_pos aF]
       have heq:=Ul (cV (he g)) s.cZ (fun x ai=>by rw[dm] at ai; exact hf.ids x ((ak0.1 ai).1)) ak.cZ (by rw[dm]; exact akV (aln _ _) hf.li);rw[dm] at heq;have mU:=cW (cV (he g));have cR:=cW s.cZ;rw[tx,aF] at CW;simp[aF,o9,Bv,bq,xk,xh,cv,aq];refine aY CW (by simp[a1,U.closed,fK,ea]) ?_;simp[o9,Bv,bq,Gf,h6];refine aY heq (by simp[a1,mU,cR]) ?_;by_cases aR:he g=s.cZ.l
       ·have HB:lj s:=⟨ad,aG,qB,aV,by rw[<-aA]; exact aF,by rw[aq,rK],by rw[<-aA]; exact aR⟩
        rw[RG HB,<-aA];simp[aR,gc,fb,bi];exact aJ rfl (by simp[U.closed,a1]; exact oe g)
       ·have cH:¬ lj s:=fun h=>aR (by rw[aA]; exact h.bh)
        rw[uM cH];simp[aR,gc,fb,bi];exact aJ rfl rfl
      ·have cH:¬ lj s:=fun h=>aq (by rw[h.Bp,rK])
       rw[uM cH];simp[aF,o9,gc,fb,Bv,bq,xk,xh,cv,aq,bi];exact aJ rfl rfl
     ·have cH:¬ lj s:=fun h=>aF (by rw[aA]; exact h.e5)
      rw[uM cH];simp[aF,gc,fb,bi];exact aJ rfl rfl
  ·have cK:¬ (s.parts.l.length:Int)<1:=by omega
   have fl:(4:Int)<(s.parts.l.length:Int) :=by omega
   rw[uM fun h=>aG h.nF];simp[bq,fr,fD,bi,cK,fl];exact aJ rfl rfl
 ·have cK:(s.parts.l.length:Int)<1:=by omega
  rw[uM fun h=>ad h.hk];simp[bq,fr,fD,bi,cK];exact aJ rfl rfl
theorem PA (ops:List bl) (i:Nat) :eC (ops.map eJ) i=eC ops i:=by
 unfold eC;rw[akd];cases ops[i]?<;>rfl
theorem o3 (g:bo) :(dL g).ops.l=g.ops.l.map eJ:=dm _
theorem Th (ids:List (List B)) (ops:List bl) (out:List Nat) :od ids (ops.map eJ) out=od ids ops out:=by
 funext i;unfold od;rw[PA]
theorem O1 (ids:List (List B)) (ops:List bl) (out:List Nat) :i1 ids (ops.map eJ) out=i1 ids ops out:=by unfold i1; rw[Th,aki]
theorem Pb (ids:List (List B)) (ops:List bl) :∀ k,fo ids (ops.map eJ) k=fo ids ops k
 | 0=>rfl
 | k+1=>by
  have aQ:=Pb ids ops k;cases h:i1 ids ops (fo ids ops k) with
  | none=>rw[D6 h,D6 (by rw[aQ,O1]; exact h),aQ]
  | some i=>rw[AX h,AX (by rw[aQ,O1]; exact h),aQ]
theorem acn (ids:List (List B)) (ops:List bl) :my ids (ops.map eJ)=my ids ops:=by
 have ad:tY ids (ops.map eJ)=tY ids ops:=by
  unfold tY;rw[decide_eq_decide];constructor
  ·intro h o au; exact h (eJ o) (alQ au)
  ·intro h o au;obtain⟨df,c6,rfl⟩:=akz.1 au;exact h df c6
 have af:nK ids (ops.map eJ)=nK ids ops:=by unfold nK; rw[Pb,aki]
 unfold my;rw[ad,af,aki]
theorem U2 (g:bo) (k:Nat) :ls (dL g) k=ls g k:=by
 unfold ls;rw[o3,akd];rw[show (dL g).ids.l=g.ids.l from rfl];cases g.ops.l[k]?<;>cases g.ids.l[k]?<;>rfl
theorem Ts (g:bo) :g1 (dL g)=g1 g:=by
 have ad:vq (dL g)=vq g:=by
  unfold vq;rw[decide_eq_decide,o3,aki];simp only[U2]
 unfold g1;rw[ad,o3,acn,aki];rfl
theorem PD (l:List (List B × bl)) :g6 (dL (c2 l))=l.map fun q=>(q.1,eJ q.2) :=by
 unfold g6;rw[o3];unfold c2 dL;simp only[dm,cT.v2]
 induction l with
 | nil=>rfl
 | cons a l aQ=>simp only[akx,List.zip_cons_cons,aQ]
theorem UT (g:bo) (x:List B) (m:Nat) :oo (dL g) x m=oo g x m:=by
 unfold oo;rw[decide_eq_decide];have h:∀ j,(i2 (dL g).ops.l j).bd.l=(i2 g.ops.l j).bd.l:=fun j=>by
  unfold i2;rw[o3,ako,ako,akd];cases g.ops.l[j]?<;>rfl
 constructor
 ·intro aR j aj; rw[<-h]; exact aR j aj
 ·intro aR j aj; rw[h]; exact aR j aj
theorem MM (g:bo) :he (dL g)=he g:=by
 unfold he;have h:∀ x,kB (dL g) x=kB g x:=fun x=>by
  show oo (dL g) x (dL g).ops.l.length=oo g x g.ops.l.length;rw[UT,o3,aki]
 rw[funext h]; rfl
theorem QA (o:bl) :p2 o (eJ (eJ o))=true:=by
 unfold p2 eJ; simp[iL,e0,U.beq]
def p1 (l:List (List B × bl)) (n k:Nat) :List (List B × bl) :=(l.map fun q=>(q.1,eJ q.2)).filter fun q=>decide (num q.1 n=k)
theorem aan (l:List (List B × bl)) (n k:Nat) :gV (dL (c2 l)) (lI (dL (c2 l)) n k)=dL (c2 (p1 l n k)) :=by
 unfold gV gB p1;rw[akE,PD];congr 2;refine List.filter_congr fun q a8=>?_
 rw[decide_eq_decide];unfold lI;rw[ak0,decide_eq_true_eq];constructor
 ·exact fun h=>h.2
 ·intro h;refine⟨?_,h⟩;show q.1∈(dL (c2 l)).ids.l;obtain⟨dE,kb,rfl⟩:=akz.1 a8;unfold dL c2;simp only[dm,cT.v2];exact alQ kb
theorem Px (l:List (List B × bl)) (n k:Nat) :(gV (dL (c2 l)) (lI (dL (c2 l)) n k)).ids.l=(p1 l n k).map (·.1)/\(gV (dL (c2 l)) (lI (dL (c2 l)) n k)).ops.l=((p1 l n k).map (·.2)).map eJ:=by
 rw[aan,o3];refine⟨?_,?_⟩
 ·unfold dL c2; simp only[dm,cT.v2]
 ·unfold c2; simp only[dm]
theorem Py {l:List (List B × bl)} {n k:Nat} {q:List B × bl}:q∈p1 l n k<->∃ dE∈l,q=(dE.1,eJ dE.2)/\num q.1 n=k:=by
 unfold p1;rw[ak0,akz,decide_eq_true_eq];constructor
 ·rintro⟨⟨dE,ad,rfl⟩,af⟩; exact⟨dE,ad,rfl,af⟩
 ·rintro⟨dE,ad,rfl,af⟩; exact⟨⟨dE,ad,rfl⟩,af⟩
theorem Pz {l:List (List B × bl)} (h:l.Pairwise fun a b=>hy a.1 b.1=true) (n k:Nat) :(p1 l n k).Pairwise fun a b=>hy a.1 b.1=true:=by
 unfold p1;have af:(l.map fun q=>(q.1,eJ q.2)).Pairwise fun a b=>hy a.1 b.1=true:=by rw[amg]; exact h
 exact af.sublist List.filter_sublist
theorem sy (s:dH) :dA s=dL (c2 (dX s)) :=rfl
theorem KZ (s:dH) :g1 (dA s)=g1 (c2 (dX s)) :=Ts _
theorem acl {s:dH} (h:lj s) :mx s=0:=by
 have W:sF s.parts.l:=⟨fun p av=>(yy.1 h.wf p av).1,fun p av=>(yy.1 h.wf p av).2,OV h.x6⟩
 have qB:=h.x6;unfold tU at qB;rw[decide_eq_true_eq] at qB;have ji:lK s (m7 (dA s) s.parts.l.length)=true:=by
  rw[uo];have C9:(m7 (dA s) s.parts.l.length).parts.l=kk (dA s) s.parts.l.length s.parts.l.length:=rfl;refine⟨by rw[C9,sa],?_,?_,fun k ax=>?_⟩
  ·show s.fa=((dA s).ids.l.length:Int)
   rw[h.Bp]; congr 1; exact (Cn (dX s)).symm
  ·show s.cZ.l=(cV (he (dA s))).l;rw[dm,sy,MM]; exact h.bh.symm
  ·rw[C9,gS (DO _ _ ax)];obtain⟨p,av,fE⟩:=bF ax;rw[gS av];obtain⟨aS,bv⟩:=Px (dX s) s.parts.l.length k;rw[<-sy] at aS bv;have rS:=qB k ax;rw[gS av] at rS;have gT:=W.len p fE;have vU:(g6 p).map (fun q=>(q.1,eJ q.2))=p1 (dX s) s.parts.l.length k:=by
    refine PE ?_ (Pz (RF W) _ _) fun q=>?_
    ·rw[amg];have af:=I0 (W.dk p fE);have al:(g6 p).map (·.1)=p.ids.l:=by unfold g6; rw[List.map_fst_zip (by omega)]
     rw[<-al,amg] at af;exact af
    ·rw[Py,akz];constructor
     ·rintro⟨dE,kb,rfl⟩;obtain⟨a,aC⟩:=akj.1 kb;unfold g6 at aC;rw[alL] at aC;exact⟨dE,(JP W dE).2 ⟨p,fE,a,aC.1,aC.2⟩,rfl,rS dE.1 (ake aC.1)⟩
     ·rintro⟨dE,kb,rfl,aD⟩;obtain⟨r,ay,a,aC,ag⟩:=(JP W dE).1 kb;obtain⟨j,aj⟩:=akj.1 ay;have:=qB j (aj7.1 aj).1 dE.1 (by rw[gS aj]; exact ake aC);have fX:j=k:=by rw[<-this]; exact aD
      subst fX;rw[av] at aj; obtain rfl:=Option.some.inj aj;exact⟨dE,ake (show (g6 p)[a]? = some dE by unfold g6; rw[alL]; exact⟨aC,ag⟩),rfl⟩
   rw[<-vU] at aS bv;have cK:((g6 p).map fun q=>(q.1,eJ q.2)).map (·.1)=p.ids.l:=by
    rw[alN]; unfold g6; exact List.map_fst_zip (by omega)
   have dx:((g6 p).map fun q=>(q.1,eJ q.2)).map (·.2)=p.ops.l.map eJ:=by
    rw[alN];have:(g6 p).map (·.2)=p.ops.l:=by unfold g6; exact List.map_snd_zip (by omega)
    rw[<-this,alN]; rfl
   rw[cK] at aS;rw[dx] at bv;unfold kR;rw[aS,bv];simp only[aki,decide_true,alx,decide_eq_true_eq];intro j aj;obtain⟨o,au,_⟩:=bF aj;rw[nJ au,nJ (o:=eJ (eJ o)) (by rw[akd,akd,au]; rfl)];exact QA o
 unfold mx;rw[if_pos ⟨h.hk,h.nF⟩,if_pos ⟨by rw[KZ]; exact h.e5,ji⟩]
theorem adT {s:dH} (h:mx s=0) :lj s:=by
 obtain⟨ad,aG,aF,ji⟩:=QF h;obtain⟨_,cS,fp,mq⟩:=(uo _ _).1 ji;have V:=tX aF;have C9:(m7 (dA s) s.parts.l.length).parts.l=kk (dA s) s.parts.l.length s.parts.l.length:=rfl;have key:∀ (k:Nat) (p:bo),s.parts.l[k]? = some p->p.ids.l=(p1 (dX s) s.parts.l.length k).map (·.1)/\p.ops.l.length=(p1 (dX s) s.parts.l.length k).length:=fun k p av=>by
  have ax:=(aj7.1 av).1;have:=mq k ax;rw[C9,gS (DO _ _ ax),gS av] at this;unfold kR at this;simp only[akh,decide_eq_true_eq] at this;obtain⟨aS,bv⟩:=Px (dX s) s.parts.l.length k;exact⟨by rw[this.1]; exact aS,by rw[this.2.1,show (gV (dA s) (lI (dA s) s.parts.l.length k)).ops.l=_ from bv,aki,aki]⟩
 have oM:(dX s).Pairwise fun a b=>hy a.1 b.1=true:=by
  have af:=I0 V.dk;have:(dA s).ids.l=(dX s).map (·.1) :=by rw[sy]; unfold dL c2; simp only[dm,cT.v2]
  rw[this,amg] at af;exact af
 refine⟨ad,aG,?_,?_,by rw[<-KZ]; exact aF,?_,?_⟩
 ·unfold tU;rw[decide_eq_true_eq];intro i aB x ai;obtain⟨p,av,_⟩:=bF aB;rw[gS av,(key i p av).1] at ai;obtain⟨q,a8,rfl⟩:=akz.1 ai;obtain⟨_,_,_,aD⟩:=Py.1 a8;exact aD
 ·refine yy.2 fun p av=>?_
  obtain⟨k,ax⟩:=akj.1 av;obtain⟨aS,bv⟩:=key k p ax;refine⟨by rw[aS,bv,aki],Pj ?_⟩;rw[aS,amg];exact Pz oM _ _
 ·rw[cS];show ((dA s).ids.l.length:Int)=_;congr 1; exact Cn (dX s)
 ·have:s.cZ.l=(cV (he (dA s))).l:=fp;rw[this,dm,sy,MM]
theorem QE (s:dH) :mx s=0<->lj s:=⟨adT,acl⟩
theorem TC (s:dH) :(sA s).closed=true:=by
 unfold sA;have:=oe (if sx s=true then c2 (dX s) else ⟨none,none⟩);simp[U.closed,a1,this]
theorem adz (s:dH) (ak:kT s) :bn Tryz.prog GS 95 [.aH (cY s)] (sA s) :=by
 refine bD Tryz.checked.mixed bx ?_;apply bf Tryz.func95 [];have bq:(cY s).length=3:=rfl;have di:(cY s).take 3=cY s:=rfl;have dp:=wO s;have aV:=adM s ak;have k1:=TC s;have An:sA s=.bu [.aH [az (if sx s=true then c2 (dX s) else ⟨none,none⟩).ids,bw (if sx s=true then c2 (dX s) else ⟨none,none⟩).ops],.int .i64 (if sx s=true then 0 else 8)] :=rfl;rw[An] at aV k1 ⊢;obtain⟨g,aA⟩:∃ g,g=if sx s=true then c2 (dX s) else ⟨none,none⟩:=⟨_,rfl⟩
 rw[<-aA] at aV k1 ⊢;have dJ:=js g.ids;have dy:=nk g.ops;simp[bq,di];refine aY aV (by simp[a1,U.closed,dp]) ?_;simp[dJ,dy,bi];exact aJ rfl k1
theorem Z3 (g:bo) (l:List (List B)) (i:Nat) :nI (dL g) l i=nI g l i:=by
 unfold nI;rw[o3,PA]; rfl
theorem Pd (g:bo) (l:List (List B)) :pX (dL g) l=pX g l:=by
 unfold pX;simp only[Z3]
theorem acH (s:dC) :gm s=0\/gm s=8:=by
 unfold gm;split
 ·split
  ·exact .inl rfl
  ·exact .inr rfl
 ·exact .inr rfl
structure qh (s:dC) :Prop where
 b5:1<=s.cap
 Tc:s.cap<=40
 bR:lj s.bR
 Bp:s.bR.fa<=s.cap
 le:(s.order.l.length:Int)=s.bR.fa
 ord:pX (c2 (dX s.bR)) s.order.l=true
theorem Ev (s:dC) :gm s=0<->qh s:=by
 unfold gm;constructor
 ·intro h;split at h
  ·rename_i ad;split at h
   ·rename_i af;exact⟨ad.1,ad.2.1,(QE _).1 ad.2.2.1,ad.2.2.2.1,ad.2.2.2.2,by rw[<-Pd]; exact af⟩
   ·cases h
  ·cases h
 ·rintro⟨a2,bb,cr,dY,gF,jq⟩;rw[if_pos ⟨a2,bb,(QE _).2 cr,dY,gF⟩,if_pos (by rw[sy,Pd]; exact jq)]
noncomputable def oY (s:dC) :bo:=if gm s=0 then c2 (dX s.bR) else ⟨none,none⟩
noncomputable def nO (s:dC) :U:=.bu [cG (oY s),.int .i64 (gm s)]
theorem ym {s:dC} (h:¬ qh s) :nO s=.bu [.aH [.aK,.aK],.int .i64 8] :=by
 have aF:¬ gm s=0:=fun e=>h ((Ev s).1 e)
 unfold nO oY;rw[if_neg aF,(acH s).resolve_left aF]; rfl
theorem QD {s:dC} (h:qh s) :nO s=.bu [cG (c2 (dX s.bR)),.int .i64 0] :=by
 have aF:gm s=0:=(Ev s).2 h;unfold nO oY;rw[if_pos aF,aF]
theorem Uc (e:eE) (ao:eh e) (am:e.l.length<=1000000) {l:ap} {be:Nat} (ad:l[be]? = some (.cells 1 [az e])) (xs:List (List B)) (ai:∀ p∈xs,p.length=32) :
  By 98 [.ptr be 0 1] l xs (fun p=>!decide (p∈e.l)) :=by
 intro p av l1 c5 K bj;apply bf Tryz.func98 [];have iu:=ai p av;have gT:=cP iu;have Hb:=fU p;have q1:l1[be]? = some (.cells 1 [az e]) :=by rw[c5.2 _ (b9 ad)]; exact ad
 have aN:∀ c:aU,(l1++[c])[be]? = some (.cells 1 [az e]) :=fun c=>by rw[aj8 (b9 q1)]; exact q1
 have vz:=cW e;have dj:=JL e ao am p iu;simp[aN,gT,aj9];refine aY dj (by simp[a1,U.closed,vz,Hb]) ?_;simp;exact bj _ ⟨by simp,fun b ag=>aj8 ag⟩
theorem SU (n k:Nat) (h:k<=n) :gp n n none (some (.int .i64 (k:Int))) (some (.int .i64 (k:Int)))=some (0,k,k) :=by
 have ag:jr (.int .i64 (k:Int)) n=some k:=by
  show (if 0<=(k:Int)/\(k:Int)<=(n:Int) then some (k:Int).toNat else none)=some k;rw[if_pos ⟨by omega,by omega⟩]; simp
 have ft:jr (.int .i64 (k:Int)) k=some k:=by
  show (if 0<=(k:Int)/\(k:Int)<=(k:Int) then some (k:Int).toNat else none)=some k;rw[if_pos ⟨by omega,by omega⟩]; simp
 unfold gp;simp only[ag,ft]
theorem acR {α:Type} {z:Nat} {enc:α->List U} {s:cT α} {k:Nat} (h:k<=s.l.length) :e3 (.ar z) (ct z enc s) none (some (.int .i64 (k:Int))) (some (.int .i64 (k:Int)))=some (ct z enc (ic s k)) :=by
 cases s with
 | none=>
  have:k=0:=by simpa using h
  subst this; rfl
 | some a=>
  have ax:k<=a.length:=h;simp only[e3,ct,if_true,aki,SU _ _ ax,akg,alH,amL,ic,amF]
set_option maxHeartbeats 16000000 in
theorem Qz (s:dC) (ak:mJ s) :bn Tryz.prog GS 66 [.aH (bE s)] (nO s) :=by
 refine bD Tryz.checked.mixed bx ?_;apply bf Tryz.func66 [];have bq:(bE s).length=5:=rfl;have kX:(List.drop 1 (bE s)).take 3=cY s.bR:=rfl;have xj:(bE s).tail.take 3=cY s.bR:=rfl;have fr:∀ h,(bE s)[0]'h=.int .i64 s.cap:=fun _=>rfl
 have Gg:∀ h,(bE s)[3]'h=.int .i64 s.bR.fa:=fun _=>rfl
 have kZ:∀ h,(bE s)[4]'h=az s.order:=fun _=>rfl
 have af1:(bE s)[0]? = some (.int .i64 s.cap) :=rfl;have mS:(bE s)[3]? = some (.int .i64 s.bR.fa) :=rfl;have lv:(bE s)[4]? = some (az s.order) :=rfl;have cA:ch (.ar 32) (az s.order)=some (.int .i64 s.order.l.length) :=by simp[az]
 have dp:=wO s.bR;have aV:=adz s.bR ak.bR;by_cases tx:lj s.bR
 ·rw[RG tx] at aV;have hf:fq (c2 (dX s.bR)) :=uL ak.bR;have V:=tX tx.e5;have rK:=Cn (dX s.bR);obtain⟨g,aA⟩:∃ g,g=c2 (dX s.bR) :=⟨_,rfl⟩
  rw[<-aA] at aV hf V rK;have dJ:=js g.ids;have dy:=nk g.ops;have cv:ch (.ar 32) (az g.ids)=some (.int .i64 g.ids.l.length) :=by simp[az]
  unfold cG bI at aV;simp[bq,kX,xj];refine aY aV (by simp[a1,U.closed,dp]) ?_;have m3:=tx.Bp;rw[<-rK] at m3;by_cases ad:s.cap<1
  ·have cH:¬ qh s:=fun h=>by have:=h.b5; omega
   rw[ym cH];simp[dJ,dy,bi,bq,fr,ad];exact aJ rfl rfl
  ·by_cases af:40<s.cap
   ·have cH:¬ qh s:=fun h=>by have:=h.Tc; omega
    rw[ym cH];simp[dJ,dy,bi,bq,fr,ad,af];exact aJ rfl rfl
   ·by_cases al:s.cap<s.bR.fa
    ·have cH:¬ qh s:=fun h=>by have:=h.Bp; omega
     rw[ym cH];simp[dJ,dy,bi,bq,fr,Gg,ad,af,al];exact aJ rfl rfl
    ·by_cases aG:s.order.l.length=g.ids.l.length
     ·have c5:∀ b:Bool,(pX g s.order.l=b)->nO s=if b=true then .bu [.aH [az g.ids,bw g.ops],.int .i64 0] else .bu [.aH [.aK,.aK],.int .i64 8] :=fun b ag=>by
       cases b with
       | true=>
        have HB:qh s:=⟨by omega,by omega,tx,by omega,by rw[m3]; congr 1,by rw[<-aA]; exact ag⟩
        rw[QD HB,aA]; rfl
       | false=>
        have cH:¬ qh s:=fun h=>by have:=h.ord; rw[<-aA,ag] at this; cases this
        rw[ym cH]; rfl
      have hu:∀ i,i<s.order.l.length->nI g s.order.l i=false->nO s=.bu [.aH [.aK,.aK],.int .i64 8] :=fun i aB aI=>by
       refine c5 false ?_;unfold pX;exact decide_eq_false fun h=>by have:=h i aB; rw[aI] at this; cases this
      have eA:(∀ j,j<s.order.l.length->nI g s.order.l j=true)->nO s=.bu [.aH [az g.ids,bw g.ops],.int .i64 0] :=fun h=>c5 true (decide_eq_true h)
      simp[dJ,dy,bi,bq,fr,Gg,kZ,ad,af,al,cA,cv,aG];refine cm s.order.l.length (fun i ae l=>ae 1=.ptr 0 0 5/\ae 2=.ptr 1 0 2/\ae 4=.ptr 2 0 2/\ae 48=az s.order/\ae 49=.int .i64 s.order.l.length/\ae 50=.int .i64 i/\l[0]? = some (.cells 5 (bE s))/\l[1]? = some (.cells 2 [.aK,.aK])/\l[2]? = some (.cells 2 [az g.ids,bw g.ops])/\∀ j,j<i->nI g s.order.l j=true) ?_ ⟨by simp,by simp,by simp,by simp,by simp[aG],by simp,rfl,rfl,rfl,fun j aj=>by omega⟩;rintro i ae l aB ⟨aN,aT,a9,L0,xb,xc,cy,q1,cS,hG⟩;obtain⟨ae,rfl⟩:=uA aN aT a9 L0 xb xc;clear aN aT a9 L0 xb xc;have cH:=ak.no;have aS:IntKind.i64.wrap ((i:Int)+1)=((i+1:Nat) :Int) :=by rw[IntKind.wrap_i64]; omega
      by_cases eb:i<s.order.l.length
      ·obtain⟨x,ai,c7⟩:=bF eb;have eU:=ak.order x c7;have bm:=cP eU;have eZ:=fU x;have de:=qK ai;have XS:e3 (.ar 32) (az s.order) none (some (.int .i64 (i:Int))) (some (.int .i64 (i:Int)))=some (az (ic s.order i)) :=acR (by omega);have Db:eh (ic s.order i) :=fun z aw=>ak.order z (by rw[lM] at aw; exact akD aw)
       have zG:(ic s.order i).l.length<=1000000:=by rw[lM,akB]; omega
       have kG:=QB g.ids hf.ids hf.li x eU V.dk;have dj:=JL (ic s.order i) Db zG x eU;rw[lM] at dj;have fK:=cW g.ids;have vz:=cW (ic s.order i);have mt:=js (ic s.order i);have c0:nI g s.order.l i=(decide (x∈g.ids.l)&&(!decide (x∈s.order.l.take i)&&ll (s.order.l.take i) (eC g.ops.l (gN x g.ids.l 0).toNat))) :=by unfold nI; rw[fF ai]
       obtain⟨X,cL⟩:∃ X,X=aX x:=⟨_,rfl⟩
       rw[<-cL] at bm eZ de kG dj;have gh:X.take 32=X:=aj9 (by omega);have hU:bi (rep 32 (.int .u8 0)) 0 X=X:=gl (by rw[bm]; rfl);have o9:∀ m:ap,(l++m)[0]? = some (.cells 5 (bE s)) :=fun m=>by rw[aj8 (b9 cy)]; exact cy
       have gc:∀ m:ap,(l++m)[1]? = some (.cells 2 [.aK,.aK]) :=fun m=>by rw[aj8 (b9 q1)]; exact q1
       have fb:∀ m:ap,(l++m)[2]? = some (.cells 2 [az g.ids,bw g.ops]) :=fun m=>by rw[aj8 (b9 cS)]; exact cS
       have Bv:∀ (m:ap) (h:0<(l++m).length),(l++m)[0]'h=.cells 5 (bE s) :=fun m h=>(aj7.1 (o9 m)).2
       have RT:∀ (m:ap) (h:1<(l++m).length),(l++m)[1]'h=.cells 2 [.aK,.aK] :=fun m h=>(aj7.1 (gc m)).2
       have ig:∀ (m:ap) (c:aU),((l++m).set 1 c)[1]? = some c:=fun m c=>akm (b9 (gc m))
       simp[eb,de,bm,gh,hU,o9,Bv,bq,lv,kZ,XS,mt,fb];refine aY kG (by simp[a1,U.closed,fK,eZ]) ?_;by_cases hm:x∈g.ids.l
       ·obtain⟨a,aC⟩:=akj.1 hm;have pt:=Fw V.dk aC;have hd:=(aj7.1 aC).1;obtain⟨o,au,ec⟩:=bF (l:=g.ops.l) (k:=a) (by rw[<-V.len]; exact (aj7.1 aC).1);have lC:=hf.ops o ec;have k3:=HE au;have Gm:=DB (tE V.dk) aC;rw[decide_eq_true hm,Gm,akr,yd au,alx] at c0;simp[hm,pt,bm,gh];refine aY dj (by simp[a1,U.closed,vz,eZ]) ?_;by_cases bK:x∈s.order.l.take i
        ·rw[decide_eq_true bK] at c0;rw[hu i eb (by rw[c0]; rfl)];simp[bK,gc,RT,ig,bi];exact aJ rfl rfl
        ·rw[decide_eq_false bK] at c0;have mR:(a5 o)[1]? = some (az o.bd) :=rfl;have h6:∀ h,(a5 o)[1]'h=az o.bd:=fun _=>rfl
         have nu:(a5 o).length=11:=rfl;obtain⟨L,dO⟩:∃ L,L=l++[aU.cells 32 X,aU.cells 1 [az (ic s.order i)]] :=⟨_,rfl⟩
         have adP:L[l.length+1]? = some (.cells 1 [az (ic s.order i)]) :=by rw[dO]; simp
         have jw:=Uc (ic s.order i) Db zG adP o.bd.l lC.ids;have w2:L[2]? = some (.cells 2 [az g.ids,bw g.ops]) :=by rw[dO]; exact fb _
         have bV:L[1]? = some (.cells 2 [.aK,.aK]) :=by rw[dO]; exact gc _
         have h2:L[0]? = some (.cells 5 (bE s)) :=by rw[dO]; exact o9 _
         simp[bK,fb,w2,k3,mR,h6,nu,<-dO];refine Le o.bd lC.ids lC.len (by kernel_rfl) jw fun bt ao=>?_
         have oV:bt[0]? = some (.cells 5 (bE s)) :=by rw[ao.2 0 (b9 h2)]; exact h2
         have e8:bt[1]? = some (.cells 2 [.aK,.aK]) :=by rw[ao.2 1 (b9 bV)]; exact bV
         have dU:bt[2]? = some (.cells 2 [az g.ids,bw g.ops]) :=by rw[ao.2 2 (b9 w2)]; exact w2
         have gw:(o.bd.l.any fun p=>!decide (p∈(ic s.order i).l))=!ll (s.order.l.take i) o.bd.l:=by
          rw[lM,amt,al4,alX];unfold ll;rw[decide_eq_false_iff_not];constructor
          ·rintro⟨p,av,aD⟩ h; have:=h p av; simp[this] at aD
          ·intro h;refine Classical.byContradiction fun cH=>h fun p av=>Classical.byContradiction fun aD=>cH ⟨p,av,by simp[aD]⟩
         rw[gw];cases c9:ll (s.order.l.take i) o.bd.l with
         | true=>
          rw[c9] at c0;simp[aS];refine⟨eb,oV,e8,dU,fun j aj=>?_⟩;by_cases h7:j=i
          ·rw[h7,c0]; rfl
          ·exact hG j (by omega)
         | false=>
          rw[c9] at c0;rw[hu i eb (by rw[c0]; rfl)];have lb:∀ c:aU,(bt.set 1 c)[1]? = some c:=fun c=>akm (b9 e8)
          simp[e8,lb,bi];exact aJ rfl rfl
       ·rw[decide_eq_false hm,alJ] at c0;rw[hu i eb c0];simp[hm,gc,RT,ig,bi];exact aJ rfl rfl
      ·have dj:i=s.order.l.length:=by omega
       subst dj;rw[eA fun j aj=>hG j aj];have ig:∀ c:aU,(l.set 1 c)[1]? = some c:=fun c=>akm (b9 q1)
       simp[cS,q1,ig,dJ,dy,bi];exact aJ rfl (by have ad:=cW g.ids; have af:=jb g.ops; simp[U.closed,a1,ad,af])
     ·have cH:¬ qh s:=fun h=>by have:=h.le; rw[m3] at this; exact aG (by omega)
      have s6:¬ (s.order.l.length:Int)=g.ids.l.length:=by omega
      rw[ym cH];simp[dJ,dy,bi,bq,fr,Gg,kZ,ad,af,al,cA,cv,aG,s6];exact aJ rfl rfl
 ·have cH:¬ qh s:=fun h=>tx h.bR
  rw[uM tx] at aV;rw[ym cH];simp[bq,kX,xj];refine aY aV (by simp[a1,U.closed,dp]) ?_;simp[bi];exact aJ rfl rfl
theorem TB (s:dC) :(nO s).closed=true:=by
 unfold nO;have:=oe (oY s);simp[U.closed,a1,this]
theorem Qy (s:dC) (ak:mJ s) :bn Tryz.prog GS 60 [.aH (bE s)] (.int .i64 (gm s)) :=by
 refine bD Tryz.checked.mixed bx ?_;apply bf Tryz.func60 [];have bq:(bE s).length=5:=rfl;have di:(bE s).take 5=bE s:=rfl;have dp:=j0 s;have aV:=Qz s ak;have An:nO s=.bu [.aH [az (oY s).ids,bw (oY s).ops],.int .i64 (gm s)] :=rfl;rw[An] at aV;have dJ:=js (oY s).ids;have dy:=nk (oY s).ops;simp[bq,di];refine aY aV (by simp[a1,U.closed,dp]) ?_;simp[dJ,dy,bi];exact aJ rfl rfl
theorem abZ (s:dC) (ak:mJ s) :bn Tryz.prog GS 37 [.aH (bE s)] (nO s) :=by
 refine bD Tryz.checked.mixed bx ?_;apply bf Tryz.func37 [];have bq:(bE s).length=5:=rfl;have di:(bE s).take 5=bE s:=rfl;have dp:=j0 s;have aV:=Qz s ak;have k1:=TB s;have An:nO s=.bu [.aH [az (oY s).ids,bw (oY s).ops],.int .i64 (gm s)] :=rfl;rw[An] at aV k1 ⊢;have dJ:=js (oY s).ids;have dy:=nk (oY s).ops;simp[bq,di];refine aY aV (by simp[a1,U.closed,dp]) ?_;simp[dJ,dy,bi];exact aJ rfl k1
theorem ab0 (s:dC) (ak:mJ s) (aF:gm s=0) (n:Nat) (aD:n<=s.order.l.length) :bn Tryz.prog GS 32 [.aH (bE s),.int .i64 n] (.bu [az (iA s.order n),.int .i64 0]) :=by
 refine bD Tryz.checked.mixed bx ?_;apply bf Tryz.func32 [];have bq:(bE s).length=5:=rfl;have di:(bE s).take 5=bE s:=rfl;have lv:(bE s)[4]? = some (az s.order) :=rfl;have kZ:∀ h,(bE s)[4]'h=az s.order:=fun _=>rfl
 have dp:=j0 s;have cH:=ak.no;have aV:=Qy s ak;have cA:ch (.ar 32) (az s.order)=some (.int .i64 s.order.l.length) :=by simp[az]
 have hQ:e3 (.ar 32) (az s.order) (some (.int .i64 (n:Int))) none none=some (az (iA s.order n)) :=Ex aD;have eQ:=HH (iA s.order n) (fun x ai=>ak.order x (by rw[nR] at ai; exact alw ai)) (by rw[nR,alk]; omega);have da:=cW (iA s.order n);have cK:¬ (n:Int)<0:=by omega
 have dx:¬ (s.order.l.length:Int)<(n:Int) :=by omega
 have gx:¬ s.order.l.length<n:=by omega
 simp[bq,di];refine aY aV (by simp[a1,U.closed,dp]) ?_;simp[aF,bq,lv,kZ,cA,cK,dx,gx,hQ];refine aY eQ (by simp[a1,da]) ?_;simp;exact aJ rfl (by simp[U.closed,a1,da])
structure gd where
 dw:Int
 ids:eE
 r8:Bool
def b3 (d:gd) :List U:=[.int .i64 d.dw,az d.ids,.bool d.r8]
structure yH (d:gd) :Prop where
 ids:eh d.ids
 OT:d.ids.l.length<=1000
theorem nn (d:gd) :a1 (b3 d)=true:=by simp[b3,a1,U.closed,cW]
def oi (d:gd) :Int:=if d.dw<0\/60<d.dw then 2 else if 60<d.ids.l.length then 4 else 0
noncomputable def hC (s:dC) (d:gd) :Int:=if gm s=0 then oi d else gm s
def qm (o ids:List (List B)) (n i:Nat) :Bool:=!decide (o[n+i]? = some (bQ ids i))
def oq (o ids:List (List B)) (n:Nat) :Option Nat:=(List.range ids.length).find? (qm o ids n)
theorem Cj {o ids:List (List B)} {n i:Nat} (aB:i<ids.length) (h:qm o ids n i=true) (ag:∀ j,j<i->qm o ids n j=false) :oq o ids n=some i:=by
 unfold oq;rw[ana];exact⟨h,akM.2 aB,fun j aj=>by rw[ag j aj]; rfl⟩
theorem LP {o ids:List (List B)} {n:Nat} (ag:∀ j,j<ids.length->qm o ids n j=false) :oq o ids n=none:=by
 unfold oq;rw[List.find?_range_eq_none];exact fun j aj=>by rw[ag j aj]; rfl
def sB (s:dC) (d:gd) :Int:=if (s.order.l.length:Int)<d.dw+d.ids.l.length\/(d.r8=true/\d.dw+d.ids.l.length=(s.order.l.length:Int)) then d.ids.l.length else -1
def iE (s:dC) (d:gd) :Int:=match oq s.order.l d.ids.l d.dw.toNat with | some i=>i | none=>sB s d
theorem JR {s:dC} {d:gd} {i:Nat} (h:oq s.order.l d.ids.l d.dw.toNat=some i) :iE s d=i:=by unfold iE; rw[h]
theorem JS {s:dC} {d:gd} (h:oq s.order.l d.ids.l d.dw.toNat=none) :iE s d=sB s d:=by unfold iE; rw[h]
theorem wX {d:gd} (h:oi d=0) :0<=d.dw/\d.dw<=60/\d.ids.l.length<=60:=by
 unfold oi at h;split at h
 ·cases h
 ·split at h
  ·cases h
  ·rename_i ad af;omega
theorem Lh (d:gd) :bn Tryz.prog GS 19 [.aH (b3 d)] (.int .i64 (oi d)) :=by
 refine bD Tryz.checked.mixed bx ?_;apply bf Tryz.func19 [];have cv:ch (.ar 32) (az d.ids)=some (.int .i64 d.ids.l.length) :=by simp[az]
 unfold oi;by_cases ad:d.dw<0
 ·simp[b3,ad]; exact aJ rfl rfl
 ·by_cases af:60<d.dw
  ·simp[b3,ad,af]; exact aJ rfl rfl
  ·by_cases al:60<d.ids.l.length
   ·have lu:(60:Int)<d.ids.l.length:=by omega
    simp[b3,ad,af,cv,al,lu]; exact aJ rfl rfl
   ·have lu:¬ (60:Int)<d.ids.l.length:=by omega
    simp[b3,ad,af,cv,al,lu]; exact aJ rfl rfl
theorem PW (d:gd) :bn Tryz.prog GS 20 [.aH (b3 d)] (.int .i64 (oi d)) :=by
 refine bD Tryz.checked.mixed bx ?_;apply bf Tryz.func20 [];have cv:ch (.ar 32) (az d.ids)=some (.int .i64 d.ids.l.length) :=by simp[az]
 unfold oi;by_cases ad:d.dw<0
 ·simp[b3,ad]; exact aJ rfl rfl
 ·by_cases af:60<d.dw
  ·simp[b3,ad,af]; exact aJ rfl rfl
  ·by_cases al:60<d.ids.l.length
   ·have lu:(60:Int)<d.ids.l.length:=by omega
    simp[b3,ad,af,cv,al,lu]; exact aJ rfl rfl
   ·have lu:¬ (60:Int)<d.ids.l.length:=by omega
    simp[b3,ad,af,cv,al,lu]; exact aJ rfl rfl
theorem IL (s:dC) (ak:mJ s) (d:gd) :bn Tryz.prog GS 44 [.aH (bE s),.aH (b3 d)] (.int .i64 (hC s d)) :=by
 refine bD Tryz.checked.mixed bx ?_;apply bf Tryz.func44 [];have bq:(bE s).length=5:=rfl;have di:(bE s).take 5=bE s:=rfl;have dp:=j0 s;have db:(b3 d).length=3:=rfl;have fe:(b3 d).take 3=b3 d:=rfl;have fc:=nn d;have aV:=aa8 s ak;have bh:=PW d;unfold hC;simp[bq,di];refine aY aV (by simp[a1,U.closed,dp]) ?_;by_cases aF:gm s=0
 ·simp[aF,db,fe];refine aY bh (by simp[a1,U.closed,fc]) ?_;simp;exact aJ (by rw[if_pos aF]) rfl
 ·simp[aF];exact aJ rfl rfl
theorem KB {o ids:List (List B)} {n i:Nat} {x y:List B} (ai:ids[i]? = some x) (aL:o[n+i]? = some y) :qm o ids n i=!decide (y=x) :=by
 unfold qm;rw[fF ai,aL,amt,alX,alX,decide_eq_false_iff_not,decide_eq_false_iff_not,Option.some.injEq]
theorem Fh {o ids:List (List B)} {n i:Nat} (h:o.length<=n+i) :qm o ids n i=true:=by
 unfold qm;rw[akp h]; rfl
set_option maxHeartbeats 8000000 in
theorem IR (s:dC) (ak:mJ s) (d:gd) (bh:yH d) (aw:oi d=0) :bn Tryz.prog GS 45 [.aH (bE s),.aH (b3 d)] (.int .i64 (iE s d)) :=by
 refine bD Tryz.checked.mixed bx ?_;apply bf Tryz.func45 [];obtain⟨gc,fb,n1⟩:=wX aw;have cH:=ak.no;have cA:ch (.ar 32) (az s.order)=some (.int .i64 s.order.l.length) :=by simp[az]
 have cv:ch (.ar 32) (az d.ids)=some (.int .i64 d.ids.l.length) :=by simp[az]
 obtain⟨n,aD⟩:∃ n:Nat,d.dw=(n:Int) :=⟨d.dw.toNat,by omega⟩
 have Ak:∀ i,oq s.order.l d.ids.l n=some i->iE s d=i:=fun i h=>JR (by rw[aD,akr]; exact h)
 have Al:oq s.order.l d.ids.l n=none->iE s d=sB s d:=fun h=>JS (by rw[aD,akr]; exact h)
 have Hz:sB s d=if (s.order.l.length:Int)<(n:Int)+d.ids.l.length\/(d.r8=true/\(n:Int)+d.ids.l.length=(s.order.l.length:Int)) then (d.ids.l.length:Int) else -1:=by unfold sB; rw[aD]
 simp[bE,b3,aD];refine cm d.ids.l.length (fun i ae l=>l=[.cells 5 [.int .i64 s.cap,hs s.bR.parts,az s.bR.cZ,.int .i64 s.bR.fa,az s.order],.cells 3 [.int .i64 n,az d.ids,.bool d.r8]]/\ae 2=.ptr 0 0 5/\ae 3=.ptr 1 0 3/\ae 5=.int .i64 i/\∀ j,j<i->qm s.order.l d.ids.l n j=false) ?_ ⟨by simp[aD],by simp,by simp,by simp,fun j aj=>by omega⟩;rintro i ae l aB ⟨rfl,aT,aZ,bg,hG⟩;obtain⟨ae,rfl⟩:=jT aT aZ bg;clear aT aZ bg;have aS:IntKind.i64.wrap ((i:Int)+1)=((i+1:Nat) :Int) :=by rw[IntKind.wrap_i64]; omega
 have bv:IntKind.i64.wrap ((n:Int)+(i:Int))=((n+i:Nat) :Int) :=by rw[IntKind.wrap_i64]; omega
 by_cases eb:i<d.ids.l.length
 ·obtain⟨x,ai,c7⟩:=bF eb;by_cases au:n+i<s.order.l.length
  ·obtain⟨y,aL,dP⟩:=bF au;have eU:=bh.ids x c7;have pM:=ak.order y dP;have bm:=cP eU;have eV:=cP pM;have de:=qK ai;have ka:=qK aL;have bW:=tD pM eU;have mT:=KB ai aL;have c6:¬ (s.order.l.length:Int)<=((n+i:Nat) :Int) :=by omega
   obtain⟨X,cL⟩:∃ X,X=aX x:=⟨_,rfl⟩
   obtain⟨Y,gi⟩:∃ Y,Y=aX y:=⟨_,rfl⟩
   rw[<-cL] at bm de bW;rw[<-gi] at eV ka bW;obtain⟨M,fJ⟩:∃ M:Int,M=((n+i:Nat) :Int) :=⟨_,rfl⟩
   rw[<-fJ] at bv c6 ka;simp[cv,eb,bv,cA,c6,de,ka,bm,eV,aj9,bW];by_cases jj:y=x
   ·rw[decide_eq_true jj] at mT;simp[jj,aS];refine⟨eb,fun j aj=>?_⟩;by_cases h7:j=i
    ·rw[h7,mT]; rfl
    ·exact hG j (by omega)
   ·rw[decide_eq_false jj] at mT;rw[Ak i (Cj eb (by rw[mT]; rfl) hG)];simp[jj];exact aJ rfl rfl
  ·have c6:(s.order.l.length:Int)<=((n+i:Nat) :Int) :=by omega
   obtain⟨M,fJ⟩:∃ M:Int,M=((n+i:Nat) :Int) :=⟨_,rfl⟩
   rw[<-fJ] at bv c6;rw[Ak i (Cj eb (Fh (by omega)) hG)];simp[cv,eb,bv,cA,c6];exact aJ rfl rfl
 ·have dj:i=d.ids.l.length:=by omega
  subst dj;rw[Al (LP hG),Hz];by_cases ad:(s.order.l.length:Int)<(n:Int)+d.ids.l.length
  ·rw[if_pos (.inl ad)];simp[cv,bv,cA,ad];exact aJ rfl rfl
  ·cases rO:d.r8 with
   | true=>
    by_cases af:(n:Int)+d.ids.l.length=(s.order.l.length:Int)
    ·rw[if_pos (.inr ⟨rfl,af⟩)];simp[cv,bv,cA,ad,rO];simp[af,cv];exact aJ rfl rfl
    ·rw[if_neg (fun h=>h.elim ad fun h=>af h.2)];simp[cv,bv,cA,ad,rO,af];exact aJ rfl rfl
   | false=>
    rw[if_neg (fun h=>h.elim ad fun h=>by cases h.1)];simp[cv,bv,cA,ad,rO];exact aJ rfl rfl
noncomputable def u2 (s:dC) (d:gd) :U:=if hC s d=0 then .bu [.int .i64 (if 0<=iE s d then iE s d else 0),.bool (decide (0<=iE s d)),.int .i64 0] else .bu [.int .i64 0,.bool false,.int .i64 (hC s d)]
theorem yN {s:dC} {d:gd} {e:Int} (h:hC s d=e) (aF:e≠0) :u2 s d=.bu [.int .i64 0,.bool false,.int .i64 e] :=by unfold u2; rw[h,if_neg aF]
theorem u3 {s:dC} {d:gd} {n:Nat} (h:hC s d=0) (aF:iE s d=n) :u2 s d=.bu [.int .i64 n,.bool true,.int .i64 0] :=by
 unfold u2; rw[if_pos h,aF,if_pos (by omega),decide_eq_true (by omega)]
theorem yO {s:dC} {d:gd} (h:hC s d=0) (aF:iE s d=-1) :u2 s d=.bu [.int .i64 0,.bool false,.int .i64 0] :=by
 unfold u2; rw[if_pos h,aF]; rfl
set_option maxHeartbeats 16000000 in
theorem E6 (s:dC) (ak:mJ s) (d:gd) (bh:yH d) :bn Tryz.prog GS 43 [.aH (bE s),.aH (b3 d)] (u2 s d) :=by
 refine bD Tryz.checked.mixed bx ?_;apply bf Tryz.func43 [];have cH:=ak.no;have tk:=bh.OT;have cA:ch (.ar 32) (az s.order)=some (.int .i64 s.order.l.length) :=by simp[az]
 have cv:ch (.ar 32) (az d.ids)=some (.int .i64 d.ids.l.length) :=by simp[az]
 have bq:(bE s).length=5:=rfl;have di:(bE s).take 5=bE s:=rfl;have dp:=j0 s;have db:(b3 d).length=3:=rfl;have fe:(b3 d).take 3=b3 d:=rfl;have fc:=nn d;have lv:(bE s)[4]? = some (az s.order) :=rfl;have kZ:∀ h,(bE s)[4]'h=az s.order:=fun _=>rfl
 have nt:∀ h,(b3 d)[0]'h=.int .i64 d.dw:=fun _=>rfl
 have j5:∀ h,(b3 d)[1]'h=az d.ids:=fun _=>rfl
 have F8:∀ h,(b3 d)[2]'h=.bool d.r8:=fun _=>rfl
 have vu:(b3 d)[0]? = some (.int .i64 d.dw) :=rfl;have h6:(b3 d)[1]? = some (az d.ids) :=rfl;have xh:(b3 d)[2]? = some (.bool d.r8) :=rfl;have aV:=Qy s ak;have ax:=Lh d;by_cases aF:gm s=0
 ·by_cases aw:oi d=0
  ·have aC:hC s d=0:=by unfold hC; rw[if_pos aF]; exact aw
   obtain⟨gc,fb,n1⟩:=wX aw;obtain⟨n,aD⟩:∃ n:Nat,d.dw=(n:Int) :=⟨d.dw.toNat,by omega⟩
   have Ak:∀ i,oq s.order.l d.ids.l n=some i->iE s d=i:=fun i h=>JR (by rw[aD,akr]; exact h)
   have Al:oq s.order.l d.ids.l n=none->iE s d=sB s d:=fun h=>JS (by rw[aD,akr]; exact h)
   have Hz:sB s d=if (s.order.l.length:Int)<(n:Int)+d.ids.l.length\/(d.r8=true/\(n:Int)+d.ids.l.length=(s.order.l.length:Int)) then (d.ids.l.length:Int) else -1:=by unfold sB; rw[aD]
   obtain⟨m,hm⟩:∃ m,m=min n s.order.l.length:=⟨_,rfl⟩
   have W4:min (n:Int) (s.order.l.length:Int)=(m:Int) :=by omega
   have oG:wa (.int .i64 (n:Int)) (.int .i64 (s.order.l.length:Int))=some (.int .i64 (m:Int)) :=by
    unfold wa;simp[W4];omega
   have hQ:e3 (.ar 32) (az s.order) (some (.int .i64 (m:Int))) none none=some (az (iA s.order m)) :=Ex (by omega);have zF:(iA s.order m).l.length=s.order.l.length - m:=by rw[nR,alk]
   have Ms:∀ i,(iA s.order m).l[i]? = s.order.l[n+i]?:=fun i=>by
    rw[nR,akG];by_cases h:n<=s.order.l.length
    ·rw[hm,ak7 h]
    ·rw[akp (by omega),akp (by omega)]
   obtain⟨R,je⟩:∃ R,R=iA s.order m:=⟨_,rfl⟩
   rw[<-je] at hQ zF Ms;have Vy:eh R:=fun x ai=>by rw[je,nR] at ai; exact ak.order x (alw ai)
   have C6:ch (.ar 32) (az R)=some (.int .i64 R.l.length) :=by simp[az]
   simp[bq,di];refine aY aV (by simp[a1,U.closed,dp]) ?_;simp[aF,db,fe];refine aY ax (by simp[a1,U.closed,fc]) ?_;simp[aw,bq,lv,kZ,db,nt,j5,vu,h6,aD,cA,cv,oG,hQ];refine cm d.ids.l.length (fun i ae l=>ae 2=.ptr 0 0 5/\ae 3=.ptr 1 0 3/\ae 9=az R/\ae 32=az d.ids/\ae 33=.int .i64 d.ids.l.length/\ae 34=.int .i64 i/\l[0]? = some (.cells 5 (bE s))/\l[1]? = some (.cells 3 (b3 d))/\∀ j,j<i->qm s.order.l d.ids.l n j=false) ?_ ⟨by simp,by simp,by simp,by simp,by simp,by simp,rfl,rfl,fun j aj=>by omega⟩;rintro i ae l aB ⟨aT,aZ,gR,LY,pk,pl,cy,q1,hG⟩;obtain⟨ae,rfl⟩:=uA aT aZ gR LY pk pl;clear aT aZ gR LY pk pl;have aS:IntKind.i64.wrap ((i:Int)+1)=((i+1:Nat) :Int) :=by rw[IntKind.wrap_i64]; omega
   by_cases eb:i<d.ids.l.length
   ·obtain⟨x,ai,c7⟩:=bF eb;have eU:=bh.ids x c7;have bm:=cP eU;have de:=qK ai;obtain⟨X,cL⟩:∃ X,X=aX x:=⟨_,rfl⟩
    rw[<-cL] at bm de;have gh:X.take 32=X:=aj9 (by omega);have hU:bi (rep 32 (.int .u8 0)) 0 X=X:=gl (by rw[bm]; rfl);have h2:∀ c:aU,(l++[c])[0]? = some (.cells 5 (bE s)) :=fun c=>by rw[aj8 (b9 cy)]; exact cy
    have bV:∀ c:aU,(l++[c])[1]? = some (.cells 3 (b3 d)) :=fun c=>by rw[aj8 (b9 q1)]; exact q1
    by_cases au:i<R.l.length
    ·obtain⟨y,aL,dP⟩:=bF au;have Yb:s.order.l[n+i]? = some y:=by rw[<-Ms]; exact aL
     have pM:=Vy y dP;have eV:=cP pM;have ka:=qK aL;have bW:=tD pM eU;have mT:=KB ai Yb;have c6:¬ R.l.length<=i:=by omega
     obtain⟨Y,gi⟩:∃ Y,Y=aX y:=⟨_,rfl⟩
     rw[<-gi] at eV ka bW;rw[<-cL] at bW;have xl:Y.take 32=Y:=aj9 (by omega);simp[eb,de,bm,gh,hU,C6,c6,ka,eV,xl,bW];by_cases jj:y=x
     ·rw[decide_eq_true jj] at mT;simp[jj,aS];refine⟨eb,(aj7.1 (h2 _)).2,bV _,fun j aj=>?_⟩;by_cases h7:j=i
      ·rw[h7,mT]; rfl
      ·exact hG j (by omega)
     ·rw[decide_eq_false jj] at mT;rw[u3 aC (Ak i (Cj eb (by rw[mT]; rfl) hG))];simp[jj];exact aJ rfl rfl
    ·have c6:R.l.length<=i:=by omega
     rw[u3 aC (Ak i (Cj eb (Fh (by omega)) hG))];simp[eb,de,bm,gh,hU,C6,c6];exact aJ rfl rfl
   ·have dj:i=d.ids.l.length:=by omega
    subst dj;have kM:=Al (LP hG);rw[Hz] at kM;have eA:n+d.ids.l.length<=s.order.l.length\/d.ids.l.length=0:=by
     by_cases h:d.ids.l.length=0
     ·exact .inr h
     ·left;have:=hG (d.ids.l.length - 1) (by omega);refine Classical.byContradiction fun aR=>?_
      rw[Fh (by omega)] at this; cases this
    by_cases ad:s.order.l.length<n
    ·rw[if_pos (.inl (by omega))] at kM;rw[u3 aC kM];simp[cy,q1,bq,lv,kZ,db,nt,j5,vu,h6,aD,cA,cv,ad];exact aJ rfl rfl
    ·have al:¬ (s.order.l.length:Int)<(n:Int)+d.ids.l.length:=by omega
     cases rO:d.r8 with
     | true=>
      by_cases af:R.l.length=d.ids.l.length
      ·rw[if_pos (.inr ⟨rO,by omega⟩)] at kM;rw[u3 aC kM];simp[cy,q1,bq,lv,kZ,db,nt,j5,F8,vu,h6,xh,aD,cA,cv,ad,rO,C6,af];exact aJ rfl rfl
      ·have fI:¬ (R.l.length:Int)=d.ids.l.length:=by omega
       rw[if_neg (fun h=>h.elim al fun h=>af (by omega))] at kM;rw[yO aC kM];simp[cy,q1,bq,lv,kZ,db,nt,j5,F8,vu,h6,xh,aD,cA,cv,ad,rO,C6,af,fI];exact aJ rfl rfl
     | false=>
      rw[if_neg (fun h=>h.elim al fun h=>by rw[rO] at h; cases h.1)] at kM;rw[yO aC kM];simp[cy,q1,bq,lv,kZ,db,nt,j5,F8,vu,h6,xh,aD,cA,cv,ad,rO];exact aJ rfl rfl
  ·have aC:hC s d=oi d:=by unfold hC; rw[if_pos aF]
   rw[yN aC aw];simp[bq,di];refine aY aV (by simp[a1,U.closed,dp]) ?_;simp[aF,db,fe];refine aY ax (by simp[a1,U.closed,fc]) ?_;simp[aw];exact aJ rfl rfl
 ·have aC:hC s d=gm s:=by unfold hC; rw[if_neg aF]
  rw[yN aC aF];simp[bq,di];refine aY aV (by simp[a1,U.closed,dp]) ?_;simp[aF];exact aJ rfl rfl
theorem EO (s:dC) (d:gd) :(0<=iE s d)\/(iE s d=-1/\d.dw+d.ids.l.length<=(s.order.l.length:Int)) :=by
 cases h:oq s.order.l d.ids.l d.dw.toNat with
 | some i=>rw[JR h]; left; omega
 | none=>
  rw[JS h];unfold sB;split
  ·left; omega
  ·rename_i ad; right; exact⟨rfl,by omega⟩
theorem BM {s:dC} {d:gd} (h:hC s d=0) :gm s=0/\oi d=0:=by
 unfold hC at h;split at h
 ·rename_i ad; exact⟨ad,h⟩
 ·rename_i ad; exact absurd h ad
noncomputable def yj (s:dC) (d:gd) :U:=if hC s d=0 then .bu [.bool (decide (iE s d<0)),.int .i64 0] else .bu [.bool false,.int .i64 (hC s d)]
noncomputable def yz (s:dC) (d:gd) :U:=if hC s d=0 then (if iE s d<0 then .bu [.int .i64 0,.int .i64 6] else .bu [.int .i64 (iE s d),.int .i64 0]) else .bu [.int .i64 0,.int .i64 (hC s d)]
noncomputable def jK (s:dC) (d:gd) :Int:=if hC s d=0 then (if iE s d<0 then 0 else 22) else hC s d
theorem DR {s:dC} {d:gd} (h:jK s d=0) :gm s=0/\oi d=0/\d.dw+d.ids.l.length<=(s.order.l.length:Int) :=by
 unfold jK at h;split at h
 ·rename_i ad;split at h
  ·rename_i af;obtain⟨a,b⟩:=BM ad;exact⟨a,b,((EO s d).resolve_left (by omega)).2⟩
  ·cases h
 ·rename_i ad; exact absurd h ad
section
variable (s:dC) (ak:mJ s) (d:gd) (bh:yH d)
include ak bh
theorem abH:bn Tryz.prog GS 11 [.aH (bE s),.aH (b3 d)] (yj s d) :=by
 refine bD Tryz.checked.mixed bx ?_;apply bf Tryz.func11 [];have bq:(bE s).length=5:=rfl;have di:(bE s).take 5=bE s:=rfl;have dp:=j0 s;have db:(b3 d).length=3:=rfl;have fe:(b3 d).take 3=b3 d:=rfl;have fc:=nn d;have aC:=E6 s ak d bh;unfold yj;simp[bq,di,db,fe];refine aY aC (by simp[a1,U.closed,dp,fc]) ?_;by_cases aF:hC s d=0
 ·rw[if_pos aF];rcases EO s d with ad | ⟨ad,_⟩
  ·obtain⟨n,aD⟩:=akF ad;have:¬ (n:Int)<0:=by omega
   rw[u3 aF aD,aD];simp[this];exact aJ rfl rfl
  ·rw[yO aF ad,ad];simp;exact aJ rfl rfl
 ·rw[if_neg aF,yN rfl aF];simp[aF];exact aJ rfl rfl
theorem ad4:bn Tryz.prog GS 13 [.aH (bE s),.aH (b3 d)] (yz s d) :=by
 refine bD Tryz.checked.mixed bx ?_;apply bf Tryz.func13 [];have bq:(bE s).length=5:=rfl;have di:(bE s).take 5=bE s:=rfl;have dp:=j0 s;have db:(b3 d).length=3:=rfl;have fe:(b3 d).take 3=b3 d:=rfl;have fc:=nn d;have aC:=E6 s ak d bh;unfold yz;simp[bq,di,db,fe];refine aY aC (by simp[a1,U.closed,dp,fc]) ?_;by_cases aF:hC s d=0
 ·rw[if_pos aF];rcases EO s d with ad | ⟨ad,_⟩
  ·obtain⟨n,aD⟩:=akF ad;have:¬ (n:Int)<0:=by omega
   rw[u3 aF aD,aD,if_neg this];simp;exact aJ rfl rfl
  ·rw[yO aF ad,ad];simp;exact aJ rfl rfl
 ·rw[if_neg aF,yN rfl aF];simp[aF];exact aJ rfl rfl
theorem OS:bn Tryz.prog GS 46 [.aH (bE s),.aH (b3 d)] (.int .i64 (jK s d)) :=by
 refine bD Tryz.checked.mixed bx ?_;apply bf Tryz.func46 [];have bq:(bE s).length=5:=rfl;have di:(bE s).take 5=bE s:=rfl;have dp:=j0 s;have db:(b3 d).length=3:=rfl;have fe:(b3 d).take 3=b3 d:=rfl;have fc:=nn d;have aC:=E6 s ak d bh;unfold jK;simp[bq,di,db,fe];refine aY aC (by simp[a1,U.closed,dp,fc]) ?_;by_cases aF:hC s d=0
 ·rcases EO s d with ad | ⟨ad,_⟩
  ·obtain⟨n,aD⟩:=akF ad;have:¬ (n:Int)<0:=by omega
   rw[u3 aF aD];simp[aF,aD,this];exact aJ rfl rfl
  ·rw[yO aF ad];simp[aF,ad];exact aJ rfl rfl
 ·rw[yN rfl aF];simp[aF];exact aJ rfl rfl
theorem ZB:bn Tryz.prog GS 15 [.aH (bE s),.aH (b3 d)] (if jK s d=0 then .bu [az (iA s.order (d.dw+d.ids.l.length).toNat),.int .i64 0] else .bu [.aK,.int .i64 (jK s d)]) :=by
 refine bD Tryz.checked.mixed bx ?_;apply bf Tryz.func15 [];have bq:(bE s).length=5:=rfl;have di:(bE s).take 5=bE s:=rfl;have dp:=j0 s;have db:(b3 d).length=3:=rfl;have fe:(b3 d).take 3=b3 d:=rfl;have fc:=nn d;have nt:∀ h,(b3 d)[0]'h=.int .i64 d.dw:=fun _=>rfl
 have j5:∀ h,(b3 d)[1]'h=az d.ids:=fun _=>rfl
 have h6:(b3 d)[1]? = some (az d.ids) :=rfl;have cv:ch (.ar 32) (az d.ids)=some (.int .i64 d.ids.l.length) :=by simp[az]
 have aC:=OS s ak d bh;simp[bq,di,db,fe];refine aY aC (by simp[a1,U.closed,dp,fc]) ?_;by_cases aF:jK s d=0
 ·obtain⟨ad,af,al⟩:=DR aF;obtain⟨gc,fb,n1⟩:=wX af;obtain⟨n,aD⟩:∃ n:Nat,d.dw+d.ids.l.length=(n:Int) :=⟨(d.dw+d.ids.l.length).toNat,by omega⟩
  have oI:IntKind.i64.wrap (d.dw+(d.ids.l.length:Int))=(n:Int) :=by rw[IntKind.wrap_i64]; omega
  have XQ:=ab0 s ak ad n (by omega);have da:=cW (iA s.order n);rw[if_pos aF,aD,akr];simp[aF,bq,di,db,nt,j5,h6,cv,oI];refine aY XQ (by simp[a1,U.closed,dp]) ?_;simp;exact aJ rfl (by simp[U.closed,a1,da])
 ·rw[if_neg aF];simp[aF];exact aJ rfl rfl
theorem aaK:bn Tryz.prog GS 12 [.aH (bE s),.aH (b3 d)] (yj s d) :=by
 refine bD Tryz.checked.mixed bx ?_;apply bf Tryz.func12 [];have bq:(bE s).length=5:=rfl;have di:(bE s).take 5=bE s:=rfl;have dp:=j0 s;have db:(b3 d).length=3:=rfl;have fe:(b3 d).take 3=b3 d:=rfl;have fc:=nn d;have aC:=IL s ak d;unfold yj;simp[bq,di,db,fe];refine aY aC (by simp[a1,U.closed,dp,fc]) ?_;by_cases aF:hC s d=0
 ·have aV:=IR s ak d bh (BM aF).2;rw[if_pos aF];simp[aF,bq,di,db,fe];refine aY aV (by simp[a1,U.closed,dp,fc]) ?_;simp;exact aJ rfl rfl
 ·rw[if_neg aF];simp[aF];exact aJ rfl rfl
theorem abh:bn Tryz.prog GS 14 [.aH (bE s),.aH (b3 d)] (yz s d) :=by
 refine bD Tryz.checked.mixed bx ?_;apply bf Tryz.func14 [];have bq:(bE s).length=5:=rfl;have di:(bE s).take 5=bE s:=rfl;have dp:=j0 s;have db:(b3 d).length=3:=rfl;have fe:(b3 d).take 3=b3 d:=rfl;have fc:=nn d;have aC:=IL s ak d;unfold yz;simp[bq,di,db,fe];refine aY aC (by simp[a1,U.closed,dp,fc]) ?_;by_cases aF:hC s d=0
 ·have aV:=IR s ak d bh (BM aF).2;rw[if_pos aF];simp[aF,bq,di,db,fe];refine aY aV (by simp[a1,U.closed,dp,fc]) ?_;by_cases ad:iE s d<0
  ·rw[if_pos ad];simp[ad];exact aJ rfl rfl
  ·rw[if_neg ad];simp[ad,bq,di,db,fe];refine aY aV (by simp[a1,U.closed,dp,fc]) ?_;simp;exact aJ rfl rfl
 ·simp[aF];exact aJ rfl rfl
theorem PX:bn Tryz.prog GS 47 [.aH (bE s),.aH (b3 d)] (.int .i64 (jK s d)) :=by
 refine bD Tryz.checked.mixed bx ?_;apply bf Tryz.func47 [];have bq:(bE s).length=5:=rfl;have di:(bE s).take 5=bE s:=rfl;have dp:=j0 s;have db:(b3 d).length=3:=rfl;have fe:(b3 d).take 3=b3 d:=rfl;have fc:=nn d;have aC:=IL s ak d;unfold jK;simp[bq,di,db,fe];refine aY aC (by simp[a1,U.closed,dp,fc]) ?_;by_cases aF:hC s d=0
 ·have aV:=IR s ak d bh (BM aF).2;rw[if_pos aF];simp[aF,bq,di,db,fe];refine aY aV (by simp[a1,U.closed,dp,fc]) ?_;by_cases ad:iE s d<0
  ·have af:¬ 0<=iE s d:=by omega
   simp[ad,af];exact aJ rfl rfl
  ·have af:0<=iE s d:=by omega
   simp[ad,af];exact aJ rfl rfl
 ·simp[aF];exact aJ rfl rfl
end

end Op

end Go.ca
