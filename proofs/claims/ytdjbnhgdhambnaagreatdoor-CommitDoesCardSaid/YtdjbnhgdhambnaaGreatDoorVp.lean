/-
  Great stages, long findings, results that are the same; walked.
-/
import Derived.Test.YtdjbnhgdhambnaaGreatDoorVo
set_option maxHeartbeats 16000000
set_option maxRecDepth 100000
set_option linter.unusedVariables false
set_option linter.unusedSimpArgs false
set_option linter.unnecessarySimpa false
namespace Go.bh
open Go Go.Proofs Go.Proofs.Tryz
namespace Op
open cl aJ
def wm (s:bd) :Bool:=sh s.ay||nH s.pl.l
theorem P3 (s:bd) (u:yb s) :aU 9 [.af (bz s)] (.bool (wm s)):=by
 apply a2 func9 [];have q:=VM s.ay;have t:=VU s.bE s.pl u.pl;have g:=fe s;have o:=g7 s.ay;have m:am (bt s.bE s.pl)=true:=by simp[bt,am,U.ar,fT]
 have p:wm s=(sh s.ay||nH s.pl.l):=rfl;obtain⟨z,j⟩:=al (bz s);rw[<-j] at g ⊢;obtain⟨h,B,w,v,_⟩:=g;simp[h,w];refine au q (by simp[am,U.ar,o]) ?_;rw[p];cases h1:sh s.ay with
 | true=>
  simp;exact aF
 | false=>
  simp[h,v];refine au t (by simp[am,U.ar,m]) ?_;simp;exact aF
theorem UC {s:bd} (h:yb s) (g:wm s=false) :eF s:=by unfold wm at g;rw[qm] at g;obtain⟨h1,o⟩:=UX g.2;exact⟨UE h.ay g.1,fun m j=>UB (h.pl m j) (o m j),F⟩
def qZ (l:List cR) :Bool:=decide (∃ g∈l.take 71,l5 g.op=true)||(decide (12<l.length/\l.length<=60)||decide (70<l.length))
structure No (s:b1 cR) (k:Nat) (sgZ:aS) (l:ae) :Prop where
 nI:l=[]
 kI:sgZ 0=yN s
 hQ:sgZ 3=.i6 k
 jB:∀ (j:Nat) (t:cR),j<k->s.l[j]?=some t->l5 t.op=false
theorem P5 (s:b1 cR) (X:∀ t∈s.l,vA t) :aU 10 [yN s] (.bool (qZ s.l)):=by
 apply a2 func10 [];have q:bD (.Z 45) (yN s)=_:=b9 _;simp;refine bB (min s.l.length 71) (No s) ?_ ⟨rfl,V,V,fun g t h=>F⟩;rintro k ae l hk ⟨rfl,C,D,z⟩;obtain⟨ae,rfl⟩:=kk C D;clear C D;have done:∀ (H:∀ (g:Nat) (t:cR),g<min s.l.length 71->s.l[g]?=some t->l5 t.op=false),qZ s.l=(decide (12<s.l.length/\s.l.length<=60)||decide (70<s.l.length)):=fun H=>by
  unfold qZ;rw[cu,Bb];rintro⟨t,j,K⟩;obtain⟨g,p⟩:=cp.1 j;have W:=(aL.1 p).1;rw[cL] at W;rw[dQ F] at p;rw[H g t F p] at K;cases K
 by_cases h:k<s.l.length
 ·have h' : (k:Int)<(s.l.length:Int):=F;by_cases ai:k<=70
  ·have v:(k:Int)<=70:=F;obtain⟨y,B,Y⟩:=aQ (l:=s.l) (k:=k) h;have G:(dG y).length=45:=by unfold dG aw;simp[bo (X y Y).id]
   have w:((dG y).drop 2).take 11=aw y.op:=by unfold dG aw;simp
   have J:bQ (.Z 45) (yN s) _=_:=c8 B;have Q:=ci (k:=k) F;have P:=Kt y.op;have I:=dt y.op;obtain⟨ah,S⟩:=al (dG y);obtain⟨ag,R⟩:=al (aw y.op);rw[<-S] at G J w;rw[<-R] at w P I;simp[q,h',v,J,G,w];refine au P (by simp[am,U.ar,I]) ?_;cases O:l5 y.op with
   | true=>
    have T:qZ s.l=true:=by
     unfold qZ;rw[b7 (⟨y,cp.2 ⟨k,by rw[dQ F];exact B⟩,O⟩:∃ t∈s.l.take 71,l5 t.op=true)];rfl
    rw[T];simp;exact aF
   | false=>
    simp[Q];refine⟨F,rfl,V,V,fun g t p j=>?_⟩;by_cases e:g=k
    ·subst e;rw[B] at j;obtain rfl:=cc j;exact O
    ·exact z g t F j
  ·have v:¬ (k:Int)<=70:=F;rw[done fun g t p j=>z g t F j];have m:(12:Int)<(s.l.length:Int):=F;have u:¬ (s.l.length:Int)<=60:=F;have o:(70:Int)<(s.l.length:Int):=F;simp[q,h',v,m,u,o];exact aP (by rw[b7 (show 70<s.l.length by omega),Bc]) rfl
 ·have h' : ¬ (k:Int)<(s.l.length:Int):=F;rw[done fun g t p j=>z g t F j];by_cases m:(12:Int)<(s.l.length:Int)
  ·by_cases u:(s.l.length:Int)<=60
   ·simp[q,h',m,u];exact aP (by rw[b7 (show 12<s.l.length by omega),b7 (show s.l.length<=60 by omega)];rfl) rfl
   ·by_cases o:(70:Int)<(s.l.length:Int)
    ·simp[q,h',m,u,o];exact aP (by rw[b7 (show 70<s.l.length by omega),Bc]) rfl
    ·simp[q,h',m,u,o];exact aP (by simp[show ¬ s.l.length<=60 by omega,show ¬ 70<s.l.length by omega]) rfl
  ·have o:¬ (70:Int)<(s.l.length:Int):=F;simp[q,h',m,o];exact aP (by simp[show ¬ 12<s.l.length by omega,show ¬ 70<s.l.length by omega]) rfl
theorem SS {l:List cR} (h:qZ l=false) :l.length<=70/\∀ j∈l,l5 j.op=false:=by unfold qZ at h;rw[qm,qm,decide_eq_false_iff_not,decide_eq_false_iff_not,decide_eq_false_iff_not] at h;refine⟨F,fun j m=>?_⟩;rw[aI F] at h;exact ql.2 fun g=>h.1 ⟨j,m,g⟩
theorem Sx:mP prog 20 86=some (.i .i64::.i .u8::List.replicate 32 (.i .u8)):=bn
theorem WS {a b:dR} (g:a.id.length=32) (h:b.id.length=32) :ea prog .neq 86 (.af (di a)) (.af (di b))=some (.bool (!(decide (a.aC=b.aC)&&(decide (a.bX=b.bX)&&decide (a.id=b.id))))):=by
 have m:gO (.i .i64::.i .u8::List.replicate 32 (.i .u8)) (di a)=true:=by
  have:=sv a.id;rw[g] at this;exact this
 have o:gO (.i .i64::.i .u8::List.replicate 32 (.i .u8)) (di b)=true:=by
  have:=sv b.id;rw[h] at this;exact this
 rw[BQ Sx bn bn m o];have j:=yk a.id b.id F;have:dz (di a) (di b)=(decide (a.aC=b.aC)&&(decide (a.bX=b.bX)&&dz (ao a.id) (ao b.id))):=by
  simp[di,dz,U.beq]
 rw[this];unfold ao;rw[j]
instance aaq:DecidableEq dR:=fun a b=>decidable_of_iff (a.aC=b.aC/\a.bX=b.bX/\a.id=b.id) ⟨fun ⟨h1,g,j⟩=>by cases a;cases b;simp_all,fun h=>by subst h;exact⟨rfl,rfl,rfl⟩⟩
theorem WT (a b:dR) :(decide (a.aC=b.aC)&&(decide (a.bX=b.bX)&&decide (a.id=b.id)))=decide (a=b):=by rw[xR];simp only[bU,bK];exact⟨fun ⟨h1,g,j⟩=>by cases a;cases b;simp_all,fun h=>by subst h;exact⟨rfl,rfl,rfl⟩⟩
structure Ns (a b:b1 dR) (k:Nat) (sgZ:aS) (l:ae) :Prop where
 nI:l=[]
 kI:sgZ 0=iR a
 e5:sgZ 1=iR b
 kJ:sgZ 5=.i6 k
 jB:∀ j,j<k->a.l[j]?=b.l[j]?
def zG (s:b1 dR) :Prop:=(∀ r∈s.l,r.id.length=32)/\s.l.length<=1000000
theorem Qd (a b:b1 dR) (v:zG a) (H:zG b) :aU 15 [iR a,iR b] (.bool (decide (a.l=b.l))):=by
 apply a2 func15 [];have m:bD (.Z 34) (iR a)=_:=b9 _;have I:bD (.Z 34) (iR b)=_:=b9 _;have Y:=v.2;by_cases h1:a.l.length=b.l.length
 ·have q:(a.l.length:Int)=(b.l.length:Int):=F;simp[m,I,q];refine bB a.l.length (Ns a b) ?_ ⟨rfl,V,V,V,fun j h=>F⟩;rintro k U l hk ⟨rfl,C,D,G,J⟩;obtain⟨U,rfl⟩:=gF C D G;clear C D G;by_cases o:k<a.l.length
  ·obtain⟨x,p,K⟩:=aQ o;obtain⟨y,B,O⟩:=aQ (l:=b.l) (k:=k) F;have P:=ci (k:=k) F;have w:bQ (.Z 34) (iR a) _=_:=c8 p;have z:bQ (.Z 34) (iR b) _=_:=c8 B;have t:(di x).length=34:=by simp[di,bo (v.1 x K)]
   have u:(di y).length=34:=by simp[di,bo (H.1 y O)]
   have g:=WS (v.1 x K) (H.1 y O);rw[WT] at g;obtain⟨W,R⟩:=al (di x);obtain⟨X,S⟩:=al (di y);rw[<-R] at t w g;rw[<-S] at u z g;by_cases e:x=y
   ·rw[b7 e] at g;simp[m,o,w,z,t,u,g,P,aI];refine⟨rfl,V,V,V,fun j T=>?_⟩;by_cases Q:j=k
    ·subst Q;rw[p,B,e]
    ·exact J j F
   ·rw[cu e] at g;simp[m,o,w,z,t,u,g,aI];refine aP ?_ rfl;rw[cu];intro h;rw[h,B] at p;exact e (cc p).symm
  ·have ae:k=a.l.length:=F;simp[m,o];refine aP ?_ rfl;rw[b7];apply g1;intro j;by_cases T:j<a.l.length
   ·exact J j F
   ·rw[dW F,dW F]
 ·have q:¬ (a.l.length:Int)=(b.l.length:Int):=F;simp[m,I,q];exact aP (by rw[cu fun h=>h1 (by rw[h])]) rfl
open cl aJ
theorem QC {x:dR} (h:(di x).length=34) :x.id.length=32:=by simp[di,ao] at h;exact h
open cl aJ
def jp:aW:=⟨none,none⟩
def xt:cf:=⟨none,none,0⟩
def l7 (n:Int) :cf:=if 1<=n/\n<=4 then ⟨some (List.replicate n.toNat jp),none,0⟩ else xt
def o6 (n:Int) :Int:=if 1<=n/\n<=4 then 0 else 2
theorem zx {n:Int} (h:¬ (1<=n/\n<=4)) :l7 n=xt/\o6 n=2:=⟨ai h,ai h⟩
theorem Je {n:Int} (h:1<=n/\n<=4) :l7 n=⟨some (List.replicate n.toNat jp),none,0⟩/\o6 n=0:=⟨ak h,ak h⟩
theorem Wi {l:ae} {a b c j m c' : U} (h1:Rd l a j) (o:Rd l b m) (p:Rd l c c') :Rd l (.af [a,b,c]) (.af [j,m,c']):=by
 refine .af _ _ rfl fun i x q g h=>?_
 rcases i with _ | _ | _ | i
 ·simp at g h;subst g h;exact h1
 ·simp at g h;subst g h;exact o
 ·simp at g h;subst g h;exact p
 ·simp at g
theorem Xk (n:Int) :aU 93 [.i6 n] (.aX [.af (bG (l7 n)),.i6 (o6 n)]):=by
 apply a2 func93 [];have o:=du;by_cases h1:n<1
 ·rw[(zx (n:=n) F).1,(zx (n:=n) F).2];simp[h1];exact aF
 ·by_cases g:4<n
  ·rw[(zx (n:=n) F).1,(zx (n:=n) F).2];simp[h1,g];exact aF
  ·rw[(Je (n:=n) F).1,(Je (n:=n) F).2];obtain⟨k,rfl⟩:∃ k:Nat,n=k:=⟨n.toNat,F⟩
   simp[h1,g,l6,o,en,av];have p:cQ [U.ad,U.ad] k=((List.replicate k jp).map bb).flatten:=by
    rw[xZ];clear h1 g
    induction k with
    | zero=>rfl
    | succ k t=>rw[cQ,t,kr,hj];rfl
   have j:(cQ [U.ad,U.ad] k).length=k*2:=by rw[Af];rfl
   have m:aH 2 [aq.q 3 [U.Z 2 1 0 k k (k*2),U.ad,U.int IntKind.i64 0],aq.q (k*2) (cQ [U.ad,U.ad] k)] (.Z 2 1 0 k k (k*2)) 1 ((List.replicate k jp).map bb):=
    .Z 1 k k (k*2) (cQ [U.ad,U.ad] k) _ rfl j V (fun e h=>by obtain⟨u,_,rfl⟩:=cE.1 h;rfl) (aN _) (aN _) (by rw[<-p,aI F])
   refine⟨F,xh (Wi (m.q.gP nB (some (List.replicate k jp)) rfl rfl) (.same _ rfl) (.same _ rfl)) (.same _ rfl)⟩
open cl aJ
theorem A3:eE jp:=⟨fun _ h=>(jt h).elim,fun _ h=>(jt h).elim,eS _,eS _⟩
theorem Zx:eT jp=0:=by decide +kernel
def nP (n:Int) :cf:=if 1<=n/\n<=4 then hz jp n.toNat else xt
theorem Xj (n:Int) :aU 94 [.i6 n] (.aX [.af (bG (nP n)),.i6 (o6 n)]):=by
 apply a2 func94 [];have bad:¬ (1<=n/\n<=4)->nP n=xt/\o6 n=2:=fun h=>⟨ai h,ai h⟩
 by_cases h1:n<1
 ·obtain⟨g,j⟩:=bad F;rw[g,j];simp[h1];exact aF
 ·by_cases m:4<n
  ·obtain⟨g,j⟩:=bad F;rw[g,j];simp[h1,m];exact aF
  ·have g:nP n=hz jp n.toNat:=ak F;have j:o6 n=0:=ak F;rw[g,j];obtain⟨k,rfl⟩:∃ k:Nat,n=k:=⟨n.toNat,F⟩
   have q:=DW jp A3 Zx k F F;have o:=mG (hz jp k);have p:(bG (hz jp k)).length=3:=rfl;simp[h1,m];refine au q rfl ?_;simp[p,av];exact aP rfl (show (U.aX [.af (bG (hz jp k)),.i6 0]).ar=true by simp[U.ar,am,o])
def ji (c n:Int) :Prop:=1<=c/\c<=40/\1<=n/\n<=4
instance (c n:Int) :Decidable (ji c n):=by unfold ji;infer_instance
def oV (c n:Int) :Int:=if ji c n then 0 else 2
def AC:cW:=⟨0,xt,none⟩
def lw (c n:Int) :cW:=if ji c n then ⟨c,l7 n,none⟩ else AC
def mT (c n:Int) :cW:=if ji c n then ⟨c,nP n,none⟩ else AC
theorem XS (c n:Int) :aU 47 [.i6 c,.i6 n] (.aX [.af (bw (lw c n)),.i6 (oV c n)]):=by
 apply a2 func47 [];have bad:¬ ji c n->lw c n=AC/\oV c n=2:=fun h=>⟨ai h,ai h⟩
 have B:=Xk n;have m:(bG (l7 n)).length=3:=rfl;have p:=g7 (lw c n);simp;refine au B rfl ?_;by_cases h1:c<1
 ·obtain⟨g,j⟩:=bad (by unfold ji;omega);rw[g,j];simp[h1,m];exact aF
 ·by_cases u:40<c
  ·obtain⟨g,j⟩:=bad (by unfold ji;omega);rw[g,j];simp[h1,u,m];exact aF
  ·by_cases o:1<=n/\n<=4
   ·have hk:ji c n:=⟨F,F,o.1,o.2⟩
    have g:lw c n=⟨c,l7 n,none⟩:=ak hk;have j:oV c n=0:=ak hk;have t:o6 n=0:=ak o;have z:bw ⟨c,l7 n,none⟩=.i6 c::(bG (l7 n)++[.ad]):=rfl;rw[g] at p;rw[g,j];rw[z] at p ⊢;obtain⟨v,w⟩:=al (bG (l7 n));rw[<-w] at m p ⊢;obtain⟨x,y,q,rfl⟩:∃ x y q,v=[x,y,q]:=by
     match v,m with
     | [x,y,q],_=>exact⟨x,y,q,rfl⟩
    simp[h1,u,t,av];exact aP rfl (by simpa [U.ar,am] using p)
   ·obtain⟨g,j⟩:=bad (by unfold ji;omega);have t:o6 n=2:=ai o;rw[g,j];simp[h1,u,t,m];exact aF
theorem XR (c n:Int) :aU 49 [.i6 c,.i6 n] (.aX [.af (bw (mT c n)),.i6 (oV c n)]):=by
 apply a2 func49 [];have bad:¬ ji c n->mT c n=AC/\oV c n=2:=fun h=>⟨ai h,ai h⟩
 have B:=Xj n;have m:(bG (nP n)).length=3:=rfl;have p:=g7 (mT c n);simp;refine au B rfl ?_;by_cases h1:c<1
 ·obtain⟨g,j⟩:=bad (by unfold ji;omega);rw[g,j];simp[h1,m];exact aF
 ·by_cases u:40<c
  ·obtain⟨g,j⟩:=bad (by unfold ji;omega);rw[g,j];simp[h1,u,m];exact aF
  ·by_cases o:1<=n/\n<=4
   ·have hk:ji c n:=⟨F,F,o.1,o.2⟩
    have g:mT c n=⟨c,nP n,none⟩:=ak hk;have j:oV c n=0:=ak hk;have t:o6 n=0:=ak o;have z:bw ⟨c,nP n,none⟩=.i6 c::(bG (nP n)++[.ad]):=rfl;rw[g] at p;rw[g,j];rw[z] at p ⊢;obtain⟨v,w⟩:=al (bG (nP n));rw[<-w] at m p ⊢;obtain⟨x,y,q,rfl⟩:∃ x y q,v=[x,y,q]:=by
     match v,m with
     | [x,y,q],_=>exact⟨x,y,q,rfl⟩
    simp[h1,u,t,av];exact aP rfl (by simpa [U.ar,am] using p)
   ·obtain⟨g,j⟩:=bad (by unfold ji;omega);have t:o6 n=2:=ai o;rw[g,j];simp[h1,u,t,m];exact aF
def ma (c n w:Int) :Prop:=ji c n/\1<=w/\w<=8
instance (c n w:Int) :Decidable (ma c n w):=by unfold ma;infer_instance
def ur (c n w:Int) :Int:=if ma c n w then 0 else 2
def pZ (c n w:Int) :bd:=if ma c n w then ⟨lw c n,w,none,0,false⟩ else jO
def su (c n w:Int) :bd:=if ma c n w then ⟨mT c n,w,none,0,false⟩ else jO
theorem P6 (c n w:Int) :aU 16 [.i6 c,.i6 n,.i6 w] (.aX [.af (bz (pZ c n w)),.i6 (ur c n w)]):=by
 apply a2 func16 [];have bad:¬ ma c n w->pZ c n w=jO/\ur c n w=2:=fun h=>⟨ai h,ai h⟩
 have G:=XS c n;have D:=Za w;have o:(bw (lw c n)).length=5:=rfl;have p:=hN (pZ c n w);simp;refine au G rfl ?_;simp[o];refine au D rfl ?_;unfold uo;by_cases h1:ji c n
 ·have m:oV c n=0:=ak h1;by_cases z:w<1\/8<w
  ·obtain⟨g,j⟩:=bad (by unfold ma;omega);rw[g,j,ak z];simp[m,bt];exact aF
  ·have hk:ma c n w:=⟨h1,F,F⟩
   have g:pZ c n w=⟨lw c n,w,none,0,false⟩:=ak hk;have j:ur c n w=0:=ak hk;have C:bz ⟨lw c n,w,none,0,false⟩=bw (lw c n)++[.i6 w,.ad,.i6 0,.bool false]:=rfl;rw[g] at p;rw[g,j,ai z];rw[C] at p ⊢;obtain⟨v,B⟩:=al (bw (lw c n));rw[<-B] at o p ⊢;obtain⟨x,y,u,q,t,rfl⟩:∃ x y u q t,v=[x,y,u,q,t]:=by
    match v,o with
    | [x,y,u,q,t],_=>exact⟨x,y,u,q,t,rfl⟩
   simp[m,av,bt];exact aP rfl (by simpa [U.ar,am] using p)
 ·have m:oV c n=2:=ai h1;obtain⟨g,j⟩:=bad (by unfold ma;exact fun h=>h1 h.1);rw[g,j];split
  ·simp[m,bt,o];exact aF
  ·simp[m,bt,o];exact aF
theorem Qa (c n w:Int) :aU 17 [.i6 c,.i6 n,.i6 w] (.aX [.af (bz (su c n w)),.i6 (ur c n w)]):=by
 apply a2 func17 [];have bad:¬ ma c n w->su c n w=jO/\ur c n w=2:=fun h=>⟨ai h,ai h⟩
 have G:=XR c n;have D:=VV w;have o:(bw (mT c n)).length=5:=rfl;have p:=hN (su c n w);simp;refine au G rfl ?_;simp[o];refine au D rfl ?_;unfold uo;by_cases h1:ji c n
 ·have m:oV c n=0:=ak h1;by_cases z:w<1\/8<w
  ·obtain⟨g,j⟩:=bad (by unfold ma;omega);rw[g,j,ak z];simp[m,bt];exact aF
  ·have hk:ma c n w:=⟨h1,F,F⟩
   have g:su c n w=⟨mT c n,w,none,0,false⟩:=ak hk;have j:ur c n w=0:=ak hk;have C:bz ⟨mT c n,w,none,0,false⟩=bw (mT c n)++[.i6 w,.ad,.i6 0,.bool false]:=rfl;rw[g] at p;rw[g,j,ai z];rw[C] at p ⊢;obtain⟨v,B⟩:=al (bw (mT c n));rw[<-B] at o p ⊢;obtain⟨x,y,u,q,t,rfl⟩:∃ x y u q t,v=[x,y,u,q,t]:=by
    match v,o with
    | [x,y,u,q,t],_=>exact⟨x,y,u,q,t,rfl⟩
   simp[m,av,bt];exact aP rfl (by simpa [U.ar,am] using p)
 ·have m:oV c n=2:=ai h1;obtain⟨g,j⟩:=bad (by unfold ma;exact fun h=>h1 h.1);rw[g,j];split
  ·simp[m,bt,o];exact aF
  ·simp[m,bt,o];exact aF
open cl aJ
noncomputable def nA (s:bd) :Int:=if eg s=0 then (if s.ds then 34 else 0) else 8
def lD (s:bd) :bd:=⟨s.ay,s.bE,s.pl,s.bH,true⟩
noncomputable def r0 (s:bd) :bd:=if nA s=0 then lD (hY s) else jO
noncomputable def vT (s:bd) :bd:=if nA s=0 then lD (gq s) else jO
theorem AA (s:bd) :eg s=0\/eg s=8:=by unfold eg;split<;>simp
theorem PZ (s:bd) (z:eF s) :aU 20 [.af (bz s)] (.aX [.af (bz (r0 s)),.i6 (nA s)]):=by
 apply a2 func20 [];have p:=fe s;have v:=yF s z;have g:nA s=if eg s=0 then (if s.ds then 34 else 0) else 8:=rfl
 have h:r0 s=if nA s=0 then lD (hY s) else jO:=rfl
 have u:=fun Q=>Hk s z Q
 obtain⟨W,K⟩:=al (bz s);rw[<-K] at p v u ⊢;obtain⟨m,C,ay,aq,ah,aw,ae,F,X,ao,aj,ax,ag,G,Y,ap,D⟩:=p;simp[m,C];refine au v (by simp[am,U.ar,D]) ?_;by_cases h1:eg s=0
 ·rw[ak h1] at g;cases j:s.ds with
  | true=>
   rw[j] at g;simp only[if_true] at g;rw[g] at h ⊢;rw[ai (by decide)] at h;rw[h];simp[h1,m,F,G,j];exact aF
  | false=>
   rw[j] at g;simp only[jq,if_false] at g;rw[g] at h ⊢;rw[ak rfl] at h;rw[h];have B:=u ((m5 s).1 h1).pen;have q:=fe (hY s);have t:=fe (lD (hY s));have o:av (bz (hY s)) 8 [.bool true]=bz (lD (hY s)):=rfl;have w:=hN (lD (hY s));obtain⟨nv,O⟩:=al (bz (hY s));obtain⟨mB,P⟩:=al (bz (lD (hY s)));rw[<-O] at q o B;rw[<-P] at o w t ⊢;obtain⟨H,R,_⟩:=q;obtain⟨I,T,_⟩:=t;have S:av [U.i6 0,.ad,.ad,.i6 0,.ad,.i6 0,.ad,.i6 0,.bool false] 0 nv=nv:=cD (by rw[H];rfl);have V:av [U.i6 0,.ad,.ad,.i6 0,.ad,.i6 0,.ad,.i6 0,.bool false] 0 mB=mB:=cD (by rw[I];rfl);simp[h1,m,C,F,G,j];refine au B (by simp[am,U.ar,D]) ?_;simp[H,R,S,o,I,T,V];exact aP rfl (by simp[U.ar,am,w])
 ·have J:eg s=8:=(AA s).resolve_left h1;rw[ai h1] at g;rw[g] at h ⊢;rw[ai (by decide)] at h;rw[h];simp[J,m];exact aF
theorem P8 (s:bd) (D:eF s) :aU 21 [.af (bz s)] (.aX [.af (bz (vT s)),.i6 (nA s)]):=by
 apply a2 func21 [];have v:=fe s;have o:=yG s D;have g:nA s=if eg s=0 then (if s.ds then 34 else 0) else 8:=rfl
 have h:vT s=if nA s=0 then lD (gq s) else jO:=rfl
 have p:=B9 s D;obtain⟨T,J⟩:=al (bz s);rw[<-J] at v o p ⊢;obtain⟨m,t,aw,ao,ae,ap,X,F,V,ah,ag,aq,Y,G,W,aj,u⟩:=v;simp[m,t];refine au o (by simp[am,U.ar,u]) ?_;by_cases h1:eg s=0
 ·rw[ak h1] at g;cases j:s.ds with
  | true=>
   rw[j] at g;simp only[if_true] at g;rw[g] at h ⊢;rw[ai (by decide)] at h;rw[h];simp[h1,m,F,G,j];exact aF
  | false=>
   rw[j] at g;simp only[jq,if_false] at g;rw[g] at h ⊢;rw[ak rfl] at h;rw[h];have w:=fe (gq s);have z:=fe (lD (gq s));have q:av (bz (gq s)) 8 [.bool true]=bz (lD (gq s)):=rfl;have C:=hN (lD (gq s));obtain⟨nv,K⟩:=al (bz (gq s));obtain⟨mB,O⟩:=al (bz (lD (gq s)));rw[<-K] at w q p;rw[<-O] at q C z ⊢;obtain⟨H,P,_⟩:=w;obtain⟨I,R,_⟩:=z;have Q:av [U.i6 0,.ad,.ad,.i6 0,.ad,.i6 0,.ad,.i6 0,.bool false] 0 nv=nv:=cD (by rw[H];rfl);have S:av [U.i6 0,.ad,.ad,.i6 0,.ad,.i6 0,.ad,.i6 0,.bool false] 0 mB=mB:=cD (by rw[I];rfl);simp[h1,m,t,F,G,j];refine au p (by simp[am,U.ar,u]) ?_;simp[H,P,Q,q,I,R,S];exact aP rfl (by simp[U.ar,am,C])
 ·have B:eg s=8:=(AA s).resolve_left h1;rw[ai h1] at g;rw[g] at h ⊢;rw[ai (by decide)] at h;rw[h];simp[B,m,t];refine au o (by simp[am,U.ar,u]) ?_;simp[B];exact aF
noncomputable def tT (s:bd) :aW:=if eg s=0 then bL (bC s.ay.aD) else jp
noncomputable def tU (s:bd) :aW:=if eg s=0 then ct s.ay.aD else jp
theorem P2 (s:bd) (t:eF s) :aU 22 [.af (bz s)] (.aX [cr (tT s),.i6 (eg s)]):=by
 apply a2 func22 [];have j:=fe s;have q:=yF s t;have v:=g7 s.ay;have o:tT s=if eg s=0 then bL (bC s.ay.aD) else jp:=rfl
 have g:=W1 s.ay t.ay;obtain⟨C,u⟩:=al (bz s);rw[<-u] at j q ⊢;obtain⟨h,w,B,T,P,V,K,I,G,R,Q,W,O,J,H,S,z⟩:=j;simp[h,w];refine au q (by simp[am,U.ar,z]) ?_;by_cases h1:eg s=0
 ·rw[Ln ((m5 s).1 h1).st] at g;rw[o,ak h1,h1];have p:=jz (bL (bC s.ay.aD));have D:=fi (bL (bC s.ay.aD)).idsZ;have F:=kz (bL (bC s.ay.aD)).opsZ;unfold cr bb at g p ⊢;simp[h1,h,B];refine au g (by simp[am,U.ar,v]) ?_;simp[av];exact aP rfl (by simpa [U.ar,am] using p)
 ·have m:eg s=8:=(AA s).resolve_left h1;rw[o,ai h1,m];simp[m,h];exact aF
theorem VB (s:cW) (h:hK s) (o:fa s=0) :aU 62 [.af (bw s)] (.aX [cr (ct s.aD),.i6 0]):=by apply a2 func62 [];have j:(bw s).length=5:=rfl;have t:(bw s).take 5=bw s:=rfl;have p:(bw s).tail.take 3=bG s.aD:=rfl;have q:=g7 s;have v:=mG s.aD;have u:=D1 s h;have m:=Aa s.aD h.aD;have g:=jz (ct s.aD);have w:=fi (ct s.aD).idsZ;have z:=kz (ct s.aD).opsZ;unfold cr bb at m g ⊢;simp[j,t];refine au u (by simp[am,U.ar,q]) ?_;simp[o,j,p];refine au m (by simp[am,U.ar,v]) ?_;simp[av];exact aP rfl (by simpa [U.ar,am] using g)
theorem P9 (s:bd) (t:eF s) :aU 23 [.af (bz s)] (.aX [cr (tU s),.i6 (eg s)]):=by
 apply a2 func23 [];have o:=fe s;have j:=yG s t;have B:=g7 s.ay;have p:tU s=if eg s=0 then ct s.ay.aD else jp:=rfl
 have g:=fun w=>VB s.ay t.ay w
 obtain⟨D,z⟩:=al (bz s);rw[<-z] at o j ⊢;obtain⟨m,u,C,V,Q,W,O,J,H,S,R,X,P,K,I,T,v⟩:=o;simp[m,u];refine au j (by simp[am,U.ar,v]) ?_;by_cases h1:eg s=0
 ·have g:=g ((sQ s.ay).2 ((m5 s).1 h1).st);rw[p,ak h1,h1];have q:=jz (ct s.ay.aD);have F:=fi (ct s.ay.aD).idsZ;have G:=kz (ct s.ay.aD).opsZ;unfold cr bb at g q ⊢;simp[h1,m,C];refine au g (by simp[am,U.ar,B]) ?_;simp[av];exact aP rfl (by simpa [U.ar,am] using q)
 ·have h:eg s=8:=(AA s).resolve_left h1;rw[p,ai h1,h];simp[h,m,u];refine au j (by simp[am,U.ar,v]) ?_;simp[h];exact aF
open cl aJ
theorem TC (n:Int) :gH (l7 n):=by
 unfold l7;split
 ·refine⟨fun j g=>?_,?_,fun _ h=>(jt h).elim,eS _⟩
  ·obtain rfl:=s9 g;exact⟨A3,eS _,eS _⟩
  ·show (List.replicate n.toNat jp).length<=10;rw[List.length_replicate];omega
 ·exact⟨fun _ h=>(jt h).elim,eS _,fun _ h=>(jt h).elim,eS _⟩
theorem TD (n:Int) :hW (l7 n) (nP n)=true:=by
 unfold l7 nP;split
 ·rename_i h;have:n=1\/n=2\/n=3\/n=4:=F;rcases this with rfl | rfl | rfl | rfl<;>decide +kernel
 ·decide +kernel
theorem TE (c n:Int) :hK (lw c n):=by
 unfold lw;split
 ·exact⟨TC n,fun _ h=>(jt h).elim,eS _⟩
 ·exact AB.ay
theorem TF (c n:Int) :dY (lw c n)=dY (mT c n):=by
 unfold lw mT;split
 ·refine o5.1 ?_;unfold kW;rw[TD,b7 rfl,b7 rfl];rfl
 ·rfl
theorem T2 (c n w:Int) :eF (pZ c n w):=by
 unfold pZ;split
 ·exact⟨TE c n,fun _ h=>(jt h).elim,eS _⟩
 ·exact AB
theorem T1 (c n w:Int) :eK (pZ c n w) (su c n w):=by
 unfold pZ su;split
 ·exact⟨TF c n,rfl,rfl,rfl,rfl⟩
 ·exact eK.refl _
theorem GY {s t:bd} (e:eK s t) :nA s=nA t:=by unfold nA;rw[xy e,e.ds]
theorem Xq {s t:bd} (e:eK s t) :eK (lD s) (lD t):=⟨e.ay,e.bE,e.pl,e.bH,rfl⟩
theorem Pv {s t:bd} (e:eK s t) :eK (r0 s) (vT t):=by
 unfold r0 vT;rw[GY e];split
 ·exact Xq ((Jh s).symm.trans (e.trans (Do t)))
 ·exact eK.refl _
theorem Pw {s:bd} (g:eF s) :eF (r0 s):=by
 unfold r0;split
 ·have:=sw g (Jh s);exact⟨this.ay,this.pl,this.len⟩
 ·exact AB
theorem Yj {s t:cW} (h:gJ s) (e:dY s=dY t) :ct t.aD=ct s.aD:=(Aq h (o5.2 e)).2
theorem RF {s t:bd} (g:eF s) (e:eK s t) :cy (tT s)=cy (tU t)/\eE (tT s)/\eE (tU t):=by
 unfold tT tU;rw[xy e];by_cases h:eg t=0
 ·rw[ak h,ak h];have j:=(m5 s).1 (by rw[xy e];exact h);have m:=sw g e;have o:=Yj j.st e.ay;refine⟨?_,u4 g.ay.aD,xL m.ay.aD⟩;rw[o,sY];have:cy (cy (bL (bC s.ay.aD)))=cy (bL (bC s.ay.aD)):=by
   refine (uN.1 ?_).symm;exact Lg _
  exact this.symm
 ·rw[ai h,ai h];exact⟨rfl,A3,A3⟩
theorem Uj {s t:bd} (m:eF s) {j:cR} (g:gQ j) (e:eK s t) :eK (oZ s j) (q8 t j)/\(oY s j).l=q7 t j:=by
 unfold oZ q8 oY q7;rw[Ds e j];by_cases h:e6 t j=0
 ·rw[ak h,ak h,ak h,ak h];exact Up m g (by rw[Ds e];exact h) e
 ·rw[ai h,ai h,ai h,ai h];exact⟨eK.refl _,rfl⟩
theorem Uh {s:bd} (m:eF s) {j:cR} (g:gQ j) :zG (oY s j):=by
 unfold oY;by_cases h:e6 s j=0
 ·rw[ak h];exact⟨fun r o=>QC (Uo m g h r o),by have:=(Um m g h).2;show (fY s j).2.length<=_;omega⟩
 ·rw[ai h];exact⟨fun _ h=>(jt h).elim,eS _⟩
theorem PM (n m w:Int) (s:bd) (aS:yb s) (j:cR) (aj:vA j) :Na 4 [.i6 n,.i6 m,.i6 w,.af (bz s),.af (dG j)] [] (c:=⟨fun r _=>r=.bool true⟩):=by
 apply c1 func4 [[[0],[2],[1,2]]];have bg:=P3 s aS;have bh:=P5 (some [j]) (fun t aT=>by rw[b1.pT,fQ] at aT;rw[aT];exact aj);have z:=hN s;have aM:=vU j;have C:(dG j).length=45:=by unfold dG aw;simp[bo aj.id]
 have K:(dG j).take 45=dG j:=aI F;have o:∀ t:bd,(bz t).length=9:=fun _=>rfl
 have g:∀ t:bd,(bz t).take 9=bz t:=fun _=>rfl
 have p:∀ t:bd,av [U.i6 0,.ad,.ad,.i6 0,.ad,.i6 0,.ad,.i6 0,.bool false] 0 (bz t)=bz t:=fun t=>cD rfl
 simp[o,g];refine au bg (by simp[am,U.ar,z]) ?_;cases h1:wm s with
 | true=>simp
 | false=>
  have bk:∀ J:ag,J.length=45->av (U.i6 0::.int .u8 0::.int .u32 0::.ad::.int .u64 0::.int .u8 0::.str [] ::.int .u8 0::.i6 0::.int .u64 0::.str [] ::.int .u32 0::.int .u32 0::bZ 32 (.int .u8 0)) 0 J=J:=fun J h=>cD (by rw[h];rfl)
  simp[C,K,bk _ C];have bi:aH 45 [aq.q 9 (bz s),aq.q 45 (dG j),aq.q 45 (dG j)] (.Z 45 2 0 1 1 45) 2 ([j].map dG):=.Z 2 1 1 45 (dG j) _ rfl C rfl (by simp[C]) (aN _) (aN _) (by simp[K]);refine ig bh (.cons (bi.mZ vU (some [j]) rfl rfl) .nil) rfl ?_;cases ah:qZ [j] with
  | true=>simp[ah]
  | false=>
   have B:=UC aS h1;have G:gQ j:=Uw aj ((SS ah).2 j V);have u:eF (gq s):=sw B (Do s);have v:=(Do s).symm;have bl:=B9 s B;have aP:=P6 n m w;have aR:=Qa n m w;have Q:=T1 n m w;have W:=T2 n m w;have aJ:=sw W Q;have P:=P7 (gq s) u j G;have ao:=Qb s B j G;obtain⟨R,S⟩:=Uj u G v;have X:=Uk u G;have aK:=sw X R;have Y:=Uh u G;have a0:=Ds v j;have ai:=PZ (gq s) u;have aQ:=P8 s B;have T:=Pv v;have ae:=Pw u;have aL:=sw ae T;have a1:=GY v;have O:=P2 (gq s) u;have ak:=P9 s B;obtain⟨ap,d1,d2⟩:=RF u v;have aO:=yF (gq s) u;have bj:=yG s B;have d3:=xy v;obtain⟨A,a2⟩:=al (pZ n m w);obtain⟨aA,a3⟩:=al (su n m w);obtain⟨aD,a8⟩:=al (oZ (gq s) j);obtain⟨aE,a9⟩:=al (q8 s j);obtain⟨aF,bc⟩:=al (oY (gq s) j);obtain⟨aG,bf⟩:=al (q7 s j);obtain⟨aB,a4⟩:=al (r0 (gq s));obtain⟨aC,a5⟩:=al (vT s);obtain⟨H,a6⟩:=al (tT (gq s));obtain⟨I,a7⟩:=al (tU s);rw[<-a2] at aP Q W;rw[<-a3] at aR Q aJ;rw[<-a8] at P R X;rw[<-a9] at ao R aK;rw[<-bc] at P S Y;rw[<-bf] at ao S;rw[<-a4] at ai T ae;rw[<-a5] at aQ T aL;rw[<-a6] at O ap d1;rw[<-a7] at ak ap d2;rw[a0] at P;rw[a1] at ai;rw[d3] at O aO;have aU:=yH A aA W aJ;rw[Ap.2 Q] at aU;have aV:=yH aD aE X aK;rw[Ap.2 R] at aV;have aW:=Qd aF (m7 aG) Y (by unfold zG;rw[AG,<-S];exact Y);rw[AG,S,b7 rfl] at aW;have aY:=yH aB aC ae aL;rw[Ap.2 T] at aY;have az:=Kw H I d1 d2;rw[uN.2 ap] at az;have aZ:=yH (gq s) s u B;rw[Ap.2 v] at aZ;have D:=hN (gq s);have q1:=hN A;have bn:=hN aA;have bp:=hN aD;have bq:=hN aE;have br:=hN aB;have bs:=hN aC;have ax:=jz H;have ay:=jz I;have bt:(iR aF).ar=true:=pD tI _;have bm:(iR (m7 aG)).ar=true:=pD tI _;have bv:=fi H.idsZ;have bw:=kz H.opsZ;have bx:=fi I.idsZ;have bA:=kz I.opsZ;unfold cr bb at O ak az ax ay;simp[o,g,ah];refine au bl (by simp[am,U.ar,z]) ?_;simp[o,g,p];refine au aP rfl ?_;simp[o,g,p];refine au aR rfl ?_;simp[o,g,p,C,K];refine au P (by simp[am,U.ar,D,aM]) ?_;simp[o,g,p,C,K];refine au ao (by simp[am,U.ar,z,aM]) ?_;simp[o,g,p];refine au aU (by simp[am,U.ar,q1,bn]) ?_;simp[o,g,p];refine au aV (by simp[am,U.ar,bp,bq]) ?_;simp[o,g,p];refine au aW (by simp[am,bt,bm]) ?_;simp[o,g,p];refine au ai (by simp[am,U.ar,D]) ?_;simp[o,g,p];refine au aQ (by simp[am,U.ar,z]) ?_;simp[o,g,p];refine au O (by simp[am,U.ar,D]) ?_;simp[o,g,p,av];refine au ak (by simp[am,U.ar,z]) ?_;simp[o,g,p,av];refine au aO (by simp[am,U.ar,D]) ?_;simp[o,g,p];refine au bj (by simp[am,U.ar,z]) ?_;simp[o,g,p];refine au aY (by simp[am,U.ar,br,bs]) ?_;simp[o,g,p];refine au az (by simp[am,U.ar] at ax ay ⊢;exact⟨ax,ay⟩) ?_;simp[o,g,p];refine au aZ (by simp[am,U.ar,D,z]) ?_;simp
end Op
end Go.bh
